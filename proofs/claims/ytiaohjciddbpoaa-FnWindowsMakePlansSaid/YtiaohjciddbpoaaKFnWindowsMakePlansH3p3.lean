import Derived.Test.YtiaohjciddbpoaaKFnWindowsMakePlansH3p2
namespace Go.Proofs.Ytiaohjciddbpoaa.H3
open Go.RowKit Go.Proofs.Ytiaohjciddbpoaa.Frame Go.Proofs.YtiaohjciddbpoaaW.PrintLast Go.Proofs.Ytiaohjciddbpoaa.Hand
open Go.Proofs.YtiaohjciddbpoaaW.PrintWords hiding mn mx
set_option linter.unusedVariables false
/-! ### loop.example/g01098/spec.meOdd: function 120 -/
def spec_meOdd.f (a0 : Int) : Option Int := if a0 = 1 then (some 0) else (some (w64 ((w64 (a0 + 1)).tdiv 2)))
set_option maxHeartbeats 600000 in
set_option maxRecDepth 100000 in
theorem spec_meOdd.calls {w0 ws : World} {P0 : Nat → Prop} (a0 : Int) (Z : Below w0.heap.size w0 ws) (hF : Fr w0 ws P0 [] ws)  (r_1 : Int) (h : spec_meOdd.f a0 = some r_1) :
    Calls Try.prog 120 #[.int .i64 a0] ws (Post1 w0 ws P0 (fun (_ : Unit) => .int .i64 r_1) (fun (_ : Unit) => [])) := by
  unfold spec_meOdd.f at h
  refine enter Try.func120 rfl Try.ntmps120 rfl hF ?_
  refine c_seq ?_
  refine za0 ?_
  refine o_q rfl rfl (q_asg rfl) ?_
  refine o_end ?_
  refine za1 ?_
  refine c_seq ?_
  refine c_seq ?_
  refine za0 ?_
  refine o_q rfl rfl (za2 rfl) ?_
  refine o_q rfl rfl (q_eql rfl rfl) ?_
  refine o_end ?_
  refine za1 ?_
  refine zb0 _ rfl (fun hb1 => ?_) (fun hb1 => ?_)
  · skip
    replace h := br_t hb1 h
    refine c_seq ?_
    refine za0 ?_
    refine o_q rfl rfl (q_asg rfl) ?_
    refine o_end ?_
    refine za1 ?_
    refine c_ret ?_
    refine zai ?_
    have e0_ := Option.some.inj h; clear h
    subst e0_
    exact x_r1 () Try.results120 (zal rfl) rfl (fun w h => za6 [] (by decide) rfl w h)
  · skip
    replace h := br_f hb1 h
    refine zat ?_
    refine za1 ?_
    refine c_seq ?_
    refine za0 ?_
    refine o_q rfl rfl (za2 rfl) ?_
    refine o_q rfl rfl (zb7 rfl rfl) ?_
    refine o_q rfl rfl (q_quo64 rfl rfl (by decide)) ?_
    refine o_q rfl rfl (q_asg rfl) ?_
    refine o_end ?_
    refine za1 ?_
    refine c_ret ?_
    have e0_ := Option.some.inj h; clear h
    subst e0_
    exact x_r1 () Try.results120 (zal rfl) rfl (fun w h => za6 [] (by decide) rfl w h)

/-! ### loop.example/g01098/spec.meEnd: function 112 -/
def spec_meEnd.f (a0_0 : Int) (l0_1 : List SStep) (l0_2 : List Int) (a1 : Int) : Option Unit := some ()
set_option maxHeartbeats 600000 in
set_option maxRecDepth 100000 in
theorem spec_meEnd.calls {w0 ws : World} {P0 : Nat → Prop} (a0_0 : Int) (A0_1 : Option Addr) (c0_1 : Nat) (n0_1 : Nat) (l0_1 : List SStep) (A0_2 : Option Addr) (c0_2 : Nat) (n0_2 : Nat) (l0_2 : List Int) (a1 : Int) (Z : Below w0.heap.size w0 ws) (hF : Fr w0 ws P0 [row kStep 107 (.slice A0_1 n0_1 c0_1) l0_1] ws) (R0_2 : Stable ws P0 (fun w => Kd.C (Kd.int .i64) w A0_2 n0_2 l0_2)) (hc0_2 : n0_2 ≤ c0_2)  (h : spec_meEnd.f a0_0 l0_1 l0_2 a1 = some ()) :
    Calls Try.prog 112 #[.agg #[.int .i64 a0_0, .slice A0_1 n0_1 c0_1, .slice A0_2 n0_2 c0_2], .int .i64 a1] ws (Post1 w0 ws P0 (fun ((q_1, q_2) : (Option Addr) × Nat) => .agg #[.int .i64 a0_0, .slice A0_1 n0_1 c0_1, .slice q_1 (([a1] : List Int).length) q_2]) (fun ((q_1, q_2) : (Option Addr) × Nat) => [row kStep 107 (.slice A0_1 n0_1 c0_1) l0_1, row (Kd.int .i64) 3 (.slice q_1 (([a1] : List Int).length) q_2) ([a1] : List Int)])) := by
  unfold spec_meEnd.f at h
  obtain rfl := (hF.row_C (i := 0) rfl).2.1
  obtain rfl := (R0_2 ws (KeptB.refl _ _)).1
  refine enter Try.func112 rfl Try.ntmps112 rfl hF ?_
  refine c_seq ?_
  refine za0 ?_
  refine o_e rfl (e_box rfl) (fun g1 => ?_)
  refine o_e rfl (zam V25 rfl) (fun g3 => ?_)
  refine o_end ?_
  refine za1 ?_
  refine c_seq ?_
  refine za0 ?_
  refine o_q rfl rfl (q_f F25_0 rfl) ?_
  refine o_q rfl rfl (q_ldb Y3 rfl (fun w h => h.zaj (i := 1) rfl) rfl) ?_
  refine o_q rfl rfl (q_f F25_1 rfl) ?_
  refine o_q rfl rfl (q_ldb Y22 rfl (fun w h => h.zaj (i := 1) rfl) rfl) ?_
  refine o_q rfl rfl (za2 rfl) ?_
  refine o_e rfl (e_lit (vs := [(0, .int .i64 a1)]) (cs := [.int .i64 a1]) (Kd.int .i64) ([a1] : List Int) Try.underlying23 I3 (by decide) rfl (by decide) rfl rfl (fun _ _ => Kd.zah _)) (cur2 (fun A5 c6 => ?_))
  refine o_q rfl rfl (q_build (vs := [(0, .int .i64 a0_0), (1, .slice A0_1 l0_1.length c0_1), (2, .slice A5 (([a1] : List Int).length) c6)]) (cs := [.int .i64 a0_0, .slice A0_1 l0_1.length c0_1, .slice A5 (([a1] : List Int).length) c6]) rfl rfl) ?_
  refine o_e rfl (zav (i := 1) rfl rfl rfl Z25 rfl rfl) (fun _ => ?_)
  refine o_end ?_
  refine za1 ?_
  refine c_ret ?_
  exact x_r1 (A5, c6) Try.results112 (rv_cell rfl G25 Z25 (fun w h => h.zaj (i := 1) rfl) rfl) rfl (fun w h => za6 [3, 0] (by decide) rfl w h)

/-! ### loop.example/g01098/spec.l1Own: function 98 -/
def spec_l1Own.f (l0 : List Int) : Option (List Int) := (ap ([] : List Int) l0).bind fun l4 => some l4
set_option maxHeartbeats 600000 in
set_option maxRecDepth 100000 in
theorem spec_l1Own.calls {w0 ws : World} {P0 : Nat → Prop} (A0 : Option Addr) (c0 : Nat) (n0 : Nat) (l0 : List Int) (Z : Below w0.heap.size w0 ws) (hF : Fr w0 ws P0 [] ws) (R0 : Stable ws P0 (fun w => Kd.C (Kd.int .i64) w A0 n0 l0)) (hc0 : n0 ≤ c0) (r_1 : List Int) (h : spec_l1Own.f l0 = some r_1) :
    Calls Try.prog 98 #[.slice A0 n0 c0] ws (Post1 w0 ws P0 (fun ((q_2, q_3) : (Option Addr) × Nat) => .slice q_2 r_1.length q_3) (fun ((q_2, q_3) : (Option Addr) × Nat) => [row (Kd.int .i64) 3 (.slice q_2 r_1.length q_3) r_1])) := by
  unfold spec_l1Own.f at h
  obtain rfl := (R0 ws (KeptB.refl _ _)).1
  refine enter Try.func98 rfl Try.ntmps98 rfl hF ?_
  refine c_seq ?_
  refine za0 ?_
  refine o_q rfl rfl (q_asg rfl) ?_
  refine o_end ?_
  refine za1 ?_
  refine c_seq ?_
  refine za0 ?_
  refine o_e rfl (e_lit0 (Kd.int .i64) Try.underlying23 I3) (cur2 (fun A1 c2 => ?_))
  refine o_q rfl rfl (za2 rfl) ?_
  refine zab h (fun l4 ha5 h => ?_) rfl
  refine o_e rfl (e_appr (i := 0) Try.underlying23 I3 rfl (by decide) (by decide) (fun _ _ _ _ h => h) rfl (fun w h => R0.now Z h) rfl rfl ha5) (cur2 (fun A6 c7 => ?_))
  refine o_q rfl rfl (q_asg rfl) ?_
  refine o_end ?_
  refine za1 ?_
  refine c_ret ?_
  have e0_ := Option.some.inj h; clear h
  subst e0_
  exact x_r1 (A6, c7) Try.results98 (zal rfl) rfl (fun w h => za6 [0] (by decide) rfl w h)

/-! ### loop.example/g01098/spec.l1Has: function 161 -/
def spec_l1Has.l0 (a1 : Int) : (List Int) → Int → Option ((Bool) ⊕ (Unit))
  | [], i1 => some (.inr ())
  | y2 :: ys3, i1 => if y2 = a1 then (some (.inl true)) else (spec_l1Has.l0 a1 ys3 (i1 + 1))
def spec_l1Has.f (l0 : List Int) (a1 : Int) : Option Bool := (spec_l1Has.l0 a1 l0 0).bind fun o_ => match o_ with | .inl r_ => some r_ | .inr _ => some false
set_option maxHeartbeats 600000 in
set_option maxRecDepth 100000 in
theorem spec_l1Has.calls {w0 ws : World} {P0 : Nat → Prop} (A0 : Option Addr) (c0 : Nat) (n0 : Nat) (l0 : List Int) (a1 : Int) (Z : Below w0.heap.size w0 ws) (hF : Fr w0 ws P0 [] ws) (R0 : Stable ws P0 (fun w => Kd.C (Kd.int .i64) w A0 n0 l0)) (hc0 : n0 ≤ c0) (r_1 : Bool) (h : spec_l1Has.f l0 a1 = some r_1) :
    Calls Try.prog 161 #[.slice A0 n0 c0, .int .i64 a1] ws (Post1 w0 ws P0 (fun (_ : Unit) => .bool r_1) (fun (_ : Unit) => [])) := by
  unfold spec_l1Has.f at h
  obtain rfl := (R0 ws (KeptB.refl _ _)).1
  refine enter Try.func161 rfl Try.ntmps161 rfl hF ?_
  refine c_seq ?_
  refine za0 ?_
  refine o_q rfl rfl (q_asg rfl) ?_
  refine o_end ?_
  refine za1 ?_
  refine c_seq ?_
  refine c_seq ?_
  refine za0 ?_
  refine o_q rfl rfl (za2 rfl) ?_
  refine o_q rfl rfl (q_len Try.underlying23 rfl) ?_
  refine o_q rfl rfl (za2 rfl) ?_
  refine o_end ?_
  refine za1 ?_
  refine zaq ?_
  refine zab h (fun o9 hl8 hR7 => ?_) rfl
  clear h
  refine c_fact (p := l0.length ≤ 9223372036854775807) (fun w h => (R0.now Z h).2.1) (fun hm6 => ?_)
  refine zb3 (σ := (List Int) × Int) (fun k4 ((ys3, i1) : (List Int) × Int) => Rg l0 i1 ys3 ∧ ys3.length = k4 ∧ spec_l1Has.l0 a1 ys3 i1 = some o9) [4, 6, 9, 10, 11, 12, 13, 14, 15, 16] (fun ((ys3, i1) : (List Int) × Int) => [(9, .int .i64 i1)]) (fun ((ys3, i1) : (List Int) × Int) => []) l0.length (l0, 0) ⟨Rg.start _, rfl, hl8⟩ ⟨rfl, trivial⟩ (fun w h => h) ?_
  refine fun k4 => cur2 (listC (fun i1 U10 hJ_ => ?_) (fun y2 ys3 i1 U10 hJ_ => ?_))
  · skip
    clear hl8
    have hr5 := hJ_.1; have hk11 := hJ_.2.1; have h := hJ_.2.2; clear hJ_
    replace h : spec_l1Has.l0 a1 [] i1 = some o9 := h
    rw [spec_l1Has.l0] at h
    refine c_seq ?_
    refine za0 ?_
    refine o_q rfl rfl (q_lss rfl rfl) ?_
    refine o_end ?_
    refine za1 ?_
    refine c_seq ?_
    refine c_false (congrArg Value.bool hr5.ge) ?_
    refine c_exit ?_
    refine zac ?_
    refine zac ?_
    have e_ := Option.some.inj h; replace h := hR7; rw [← e_] at h; clear e_
    refine x_hit ?_
    refine za1 ?_
    refine c_seq ?_
    refine za0 ?_
    refine o_q rfl rfl (q_asg rfl) ?_
    refine o_end ?_
    refine za1 ?_
    refine c_ret ?_
    have e0_ := Option.some.inj h; clear h
    subst e0_
    exact x_r1 () Try.results161 (zal rfl) rfl (fun w h => za6 [] (by decide) rfl w h)
  · skip
    clear hl8
    have hr5 := hJ_.1; have hk11 := hJ_.2.1; have h := hJ_.2.2; clear hJ_
    replace h : spec_l1Has.l0 a1 (y2 :: ys3) i1 = some o9 := h
    rw [spec_l1Has.l0] at h
    refine c_seq ?_
    refine za0 ?_
    refine o_q rfl rfl (q_lss rfl rfl) ?_
    refine o_end ?_
    refine za1 ?_
    refine c_seq ?_
    refine c_true (congrArg Value.bool hr5.lt) ?_
    refine zat ?_
    refine za1 ?_
    refine c_seq ?_
    refine zaq ?_
    refine c_seq ?_
    refine za0 ?_
    refine zb4 (p := Sh A0 l0.length l0.length) (fun w h => f_sh (dk := (Kd.int .i64)) h (fun w h => R0.now Z h)) (fun hq12 => ?_)
    refine o_q rfl rfl (q_ix Try.underlying23 Z3 rfl rfl hq12 hr5.get) ?_
    refine o_q rfl rfl (q_lde (off := 0) Y3 rfl rfl (fun w h => R0.now Z h) hr5.get (fun _ _ h => h) rfl) ?_
    refine o_q rfl rfl (q_asg rfl) ?_
    refine o_end ?_
    refine za1 ?_
    refine c_seq ?_
    refine za0 ?_
    refine o_q rfl rfl (za2 rfl) ?_
    refine o_q rfl rfl (za2 rfl) ?_
    refine o_q rfl rfl (q_eql rfl rfl) ?_
    refine o_end ?_
    refine za1 ?_
    refine zb0 _ rfl (fun hb13 => ?_) (fun hb13 => ?_)
    · skip
      replace h := br_t hb13 h
      refine c_seq ?_
      refine za0 ?_
      refine o_q rfl rfl (q_asg rfl) ?_
      refine o_end ?_
      refine za1 ?_
      refine c_ret ?_
      refine zax ?_
      refine zai ?_
      refine zai ?_
      have e_ := Option.some.inj h; replace h := hR7; rw [← e_] at h; clear e_
      refine zax ?_
      refine zai ?_
      have e0_ := Option.some.inj h; clear h
      subst e0_
      exact x_r1 () Try.results161 (zal rfl) rfl (fun w h => za6 [] (by decide) rfl w h)
    · skip
      replace h := br_f hb13 h
      refine zat ?_
      refine zas ?_
      refine za1 ?_
      refine za0 ?_
      refine o_q rfl rfl (q_up rfl rfl (hr5.up hm6)) ?_
      refine o_q rfl rfl (za2 rfl) ?_
      refine o_end ?_
      refine zar ys3.length (ys3, i1 + 1) (by rw [← hk11]; exact Nat.lt_succ_self _) ⟨hr5.step, rfl, h⟩ ⟨rfl, trivial⟩ (fun w h => za6 [] (by decide) rfl w h) ?_
      repeat (first | exact za9 _ _ | refine zae rfl ?_ | refine zaa rfl ?_ | refine zaf rfl ?_)

/-! ### loop.example/g01098/spec.l1Put: function 162 -/
def spec_l1Put.l0 (l0 : List Int) (a1 : Int) : Nat → Int → Option Int
  | 0, _ => none
  | k26 + 1, i23 => if i23 < (l0.length : Int) then ((gt l0 i23).bind fun y37 => if y37 < a1 then (spec_l1Put.l0 l0 a1 k26 (w64 (i23 + 1))) else (some i23)) else (some i23)
def spec_l1Put.f (k : Nat) (l0 : List Int) (a1 : Int) : Option (List Int) := ((spec_l1Put.l0 l0 a1 k 0)).bind fun i17 => (if i17 < (l0.length : Int) then ((gt l0 i17).bind fun y52 => if y52 = a1 then (some (.inl l0)) else (some (.inr ()))) else (some (.inr ())) : Option (((List Int)) ⊕ (Unit))).bind fun o_ => match o_ with | .inl r_ => some r_ | .inr _ => (ct l0 (0 : Int) i17).bind fun l57 => (ap ([] : List Int) l57).bind fun l60 => (ap l60 ([a1] : List Int)).bind fun l67 => (ct l0 i17 (l0.length : Int)).bind fun l71 => (ap l67 l71).bind fun l74 => some l74
set_option maxHeartbeats 600000 in
set_option maxRecDepth 100000 in
theorem spec_l1Put.calls (k : Nat) {w0 ws : World} {P0 : Nat → Prop} (A0 : Option Addr) (c0 : Nat) (n0 : Nat) (l0 : List Int) (a1 : Int) (Z : Below w0.heap.size w0 ws) (hF : Fr w0 ws P0 [row (Kd.int .i64) 3 (.slice A0 n0 c0) l0] ws)  (r_1 : List Int) (h : spec_l1Put.f k l0 a1 = some r_1) :
    Calls Try.prog 162 #[.slice A0 n0 c0, .int .i64 a1] ws (Post1 w0 ws P0 (fun ((q_2, q_3) : (Option Addr) × Nat) => .slice q_2 r_1.length q_3) (fun ((q_2, q_3) : (Option Addr) × Nat) => [row (Kd.int .i64) 3 (.slice q_2 r_1.length q_3) r_1])) := by
  unfold spec_l1Put.f at h
  obtain rfl := (hF.row_C (i := 0) rfl).2.1
  refine enter Try.func162 rfl Try.ntmps162 rfl hF ?_
  refine c_seq ?_
  refine za0 ?_
  refine o_q rfl rfl (q_asg rfl) ?_
  refine o_end ?_
  refine za1 ?_
  refine c_seq ?_
  refine za0 ?_
  refine o_q rfl rfl (q_asg rfl) ?_
  refine o_end ?_
  refine za1 ?_
  refine zab h (fun o18 hl19 hR20 => ?_) rfl
  clear h
  refine c_cutJ (σ := Int) (fun i17 => some i17 = some o18) [5, 7, 8, 9, 10, 11, 12, 13, 14, 15, 16, 17, 18, 19, 20] (fun i17 => [(5, .int .i64 i17)]) (fun i17 => [row (Kd.int .i64) 3 (.slice A0 l0.length c0) l0]) ?_ ?_
  · skip
    have h := hl19; clear hl19
    clear hR20
    refine zaq ?_
    have hl30 := h; clear h
    refine zb3 (σ := Int) (fun k26 (i23 : Int) => spec_l1Put.l0 l0 a1 k26 i23 = some o18) [5, 7, 8, 9, 10, 11, 12, 13, 14, 15, 16, 17, 18, 19, 20] (fun (i23 : Int) => [(5, .int .i64 i23)]) (fun (i23 : Int) => [row (Kd.int .i64) 3 (.slice A0 l0.length c0) l0]) k 0 hl30 ⟨rfl, trivial⟩ (fun w h => h) ?_
    refine natC (fun i23 => fun U32 hJ_ => ?_) (fun k26 => (fun i23 => fun U32 hJ_ => ?_))
    · skip
      replace hJ_ : spec_l1Put.l0 l0 a1 0 i23 = some o18 := hJ_
      rw [spec_l1Put.l0] at hJ_
      exact noneE hJ_
    · skip
      clear hl30
      have h := hJ_; clear hJ_
      replace h : spec_l1Put.l0 l0 a1 (k26 + 1) i23 = some o18 := h
      rw [spec_l1Put.l0] at h
      refine c_seq ?_
      refine c_seq ?_
      refine za0 ?_
      refine o_q rfl rfl (za2 rfl) ?_
      refine o_q rfl rfl (za2 rfl) ?_
      refine o_q rfl rfl (q_len Try.underlying23 rfl) ?_
      refine o_q rfl rfl (q_lss rfl rfl) ?_
      refine o_q rfl rfl (za2 rfl) ?_
      refine byB (decide (i23 < (l0.length : Int))) (fun hb34 => ?_) (fun hb34 => ?_)
      · replace h := br_t hb34 h
        refine o_w (za5 rfl rfl rfl (congrArg Value.bool hb34)) rfl (za2 rfl) ?_
        refine o_w (za5 rfl rfl rfl (congrArg Value.bool hb34)) rfl (za2 rfl) ?_
        refine zb4 (p := Sh A0 l0.length l0.length) (fun w h => f_sh (dk := (Kd.int .i64)) h (fun w h => h.zaw (i := 0) rfl)) (fun hq35 => ?_)
        refine zab h (fun y37 hg36 h => ?_) rfl
        refine o_w (za5 rfl rfl rfl (congrArg Value.bool hb34)) rfl (q_ix Try.underlying23 Z3 rfl rfl hq35 hg36) ?_
        refine o_w (za5 rfl rfl rfl (congrArg Value.bool hb34)) rfl (q_lde (off := 0) Y3 rfl rfl (fun w h => h.zaw (i := 0) rfl) hg36 (fun _ _ h => h) rfl) ?_
        refine o_w (za5 rfl rfl rfl (congrArg Value.bool hb34)) rfl (za2 rfl) ?_
        refine o_w (za5 rfl rfl rfl (congrArg Value.bool hb34)) rfl (q_lss rfl rfl) ?_
        refine o_q rfl rfl (zau true (congrArg Value.bool hb34) rfl) ?_
        refine o_end ?_
        refine za1 ?_
        refine zb0 _ rfl (fun hb38 => ?_) (fun hb38 => ?_)
        · skip
          replace h := br_t hb38 h
          refine zat ?_
          refine za1 ?_
          refine zaq ?_
          refine za0 ?_
          refine o_q rfl rfl (za2 rfl) ?_
          refine o_q rfl rfl (zb7 rfl rfl) ?_
          refine o_q rfl rfl (q_asg rfl) ?_
          refine o_end ?_
          refine zas ?_
          refine zar k26 (w64 (i23 + 1)) (Nat.lt_succ_self _) h ⟨rfl, trivial⟩ (fun w h => za6 [0] (by decide) rfl w h) ?_
          repeat (first | exact za9 _ _ | refine zae rfl ?_ | refine zaa rfl ?_ | refine zaf rfl ?_)
        · skip
          replace h := br_f hb38 h
          refine c_exit ?_
          refine zac ?_
          refine zac ?_
          refine x_hit ?_
          refine zao i23 h ⟨rfl, trivial⟩ (fun w h => za6 [0] (by decide) rfl w h) ?_
          repeat (first | exact za9 _ _ | refine zae rfl ?_ | refine zaa rfl ?_ | refine zaf rfl ?_)
      · replace h := br_f hb34 h
        refine @o_n _ _ _ _ _ _ _ _ _ _ _ 12 (za4 rfl rfl rfl (congrArg Value.bool hb34) rfl) (Eq.refl (some 12)) ?_
        refine @o_n _ _ _ _ _ _ _ _ _ _ _ 13 (za4 rfl rfl rfl (congrArg Value.bool hb34) rfl) (Eq.refl (some 13)) ?_
        refine @o_n _ _ _ _ _ _ _ _ _ _ _ 14 (za4 rfl rfl rfl (congrArg Value.bool hb34) rfl) (Eq.refl (some 14)) ?_
        refine @o_n _ _ _ _ _ _ _ _ _ _ _ 15 (za4 rfl rfl rfl (congrArg Value.bool hb34) rfl) (Eq.refl (some 15)) ?_
        refine @o_n _ _ _ _ _ _ _ _ _ _ _ 16 (za4 rfl rfl rfl (congrArg Value.bool hb34) rfl) (Eq.refl (some 16)) ?_
        refine @o_n _ _ _ _ _ _ _ _ _ _ _ 17 (za4 rfl rfl rfl (congrArg Value.bool hb34) rfl) (Eq.refl (some 17)) ?_
        refine o_q rfl rfl (zau false (congrArg Value.bool hb34) rfl) ?_
        refine o_end ?_
        refine za1 ?_
        refine c_false rfl ?_
        refine c_exit ?_
        refine zac ?_
        refine zac ?_
        refine x_hit ?_
        refine zao i23 h ⟨rfl, trivial⟩ (fun w h => za6 [0] (by decide) rfl w h) ?_
        repeat (first | exact za9 _ _ | refine zae rfl ?_ | refine zaa rfl ?_ | refine zaf rfl ?_)
  · skip
    refine (fun i17 => fun U21 hJ22 => ?_)
    have e_ := Option.some.inj hJ22; have h := hR20; rw [← e_] at h; clear e_ hJ22 hR20 hl19
    refine zab h (fun o44 hl45 hR46 => ?_) rfl
    clear h
    refine c_cutJ (σ := Unit) (fun _ => some (.inr ()) = some o44) [4, 21, 22, 23, 24, 25, 26, 27, 28, 29, 30, 31, 32, 33] (fun _ => []) (fun _ => [row (Kd.int .i64) 3 (.slice A0 l0.length c0) l0]) ?_ ?_
    · skip
      have h := hl45; clear hl45
      refine c_seq ?_
      refine za0 ?_
      refine o_q rfl rfl (za2 rfl) ?_
      refine o_q rfl rfl (za2 rfl) ?_
      refine o_q rfl rfl (q_len Try.underlying23 rfl) ?_
      refine o_q rfl rfl (q_lss rfl rfl) ?_
      refine o_q rfl rfl (za2 rfl) ?_
      refine byB (decide (i17 < (l0.length : Int))) (fun hb49 => ?_) (fun hb49 => ?_)
      · replace h := br_t hb49 h
        refine o_w (za5 rfl rfl rfl (congrArg Value.bool hb49)) rfl (za2 rfl) ?_
        refine o_w (za5 rfl rfl rfl (congrArg Value.bool hb49)) rfl (za2 rfl) ?_
        refine zb4 (p := Sh A0 l0.length l0.length) (fun w h => f_sh (dk := (Kd.int .i64)) h (fun w h => h.zaw (i := 0) rfl)) (fun hq50 => ?_)
        refine zab h (fun y52 hg51 h => ?_) rfl
        refine o_w (za5 rfl rfl rfl (congrArg Value.bool hb49)) rfl (q_ix Try.underlying23 Z3 rfl rfl hq50 hg51) ?_
        refine o_w (za5 rfl rfl rfl (congrArg Value.bool hb49)) rfl (q_lde (off := 0) Y3 rfl rfl (fun w h => h.zaw (i := 0) rfl) hg51 (fun _ _ h => h) rfl) ?_
        refine o_w (za5 rfl rfl rfl (congrArg Value.bool hb49)) rfl (za2 rfl) ?_
        refine o_w (za5 rfl rfl rfl (congrArg Value.bool hb49)) rfl (q_eql rfl rfl) ?_
        refine o_q rfl rfl (zau true (congrArg Value.bool hb49) rfl) ?_
        refine o_end ?_
        refine za1 ?_
        refine zb0 _ rfl (fun hb53 => ?_) (fun hb53 => ?_)
        · skip
          replace h := br_t hb53 h
          refine c_seq ?_
          refine za0 ?_
          refine o_q rfl rfl (za2 rfl) ?_
          refine o_q rfl rfl (q_asg rfl) ?_
          refine o_end ?_
          refine za1 ?_
          refine c_ret ?_
          refine zai ?_
          have e_ := Option.some.inj h; replace h := hR46; rw [← e_] at h; clear e_
          have e0_ := Option.some.inj h; clear h
          subst e0_
          exact x_r1 (A0, c0) Try.results162 (zal rfl) rfl (fun w h => za6 [0] (by decide) rfl w h)
        · skip
          replace h := br_f hb53 h
          refine zat ?_
          refine zao () h trivial (fun w h => za6 [0] (by decide) rfl w h) ?_
          repeat (first | exact za9 _ _ | refine zae rfl ?_ | refine zaa rfl ?_ | refine zaf rfl ?_)
      · replace h := br_f hb49 h
        refine @o_n _ _ _ _ _ _ _ _ _ _ _ 26 (za4 rfl rfl rfl (congrArg Value.bool hb49) rfl) (Eq.refl (some 26)) ?_
        refine @o_n _ _ _ _ _ _ _ _ _ _ _ 27 (za4 rfl rfl rfl (congrArg Value.bool hb49) rfl) (Eq.refl (some 27)) ?_
        refine @o_n _ _ _ _ _ _ _ _ _ _ _ 28 (za4 rfl rfl rfl (congrArg Value.bool hb49) rfl) (Eq.refl (some 28)) ?_
        refine @o_n _ _ _ _ _ _ _ _ _ _ _ 29 (za4 rfl rfl rfl (congrArg Value.bool hb49) rfl) (Eq.refl (some 29)) ?_
        refine @o_n _ _ _ _ _ _ _ _ _ _ _ 30 (za4 rfl rfl rfl (congrArg Value.bool hb49) rfl) (Eq.refl (some 30)) ?_
        refine @o_n _ _ _ _ _ _ _ _ _ _ _ 31 (za4 rfl rfl rfl (congrArg Value.bool hb49) rfl) (Eq.refl (some 31)) ?_
        refine o_q rfl rfl (zau false (congrArg Value.bool hb49) rfl) ?_
        refine o_end ?_
        refine za1 ?_
        refine c_false rfl ?_
        refine zat ?_
        refine zao () h trivial (fun w h => za6 [0] (by decide) rfl w h) ?_
        repeat (first | exact za9 _ _ | refine zae rfl ?_ | refine zaa rfl ?_ | refine zaf rfl ?_)
    · skip
      refine (fun _ => fun U47 hJ48 => ?_)
      have e_ := Option.some.inj hJ48; have h := hR46; rw [← e_] at h; clear e_ hJ48 hR46 hl45
      refine c_seq ?_
      refine za0 ?_
      refine o_e rfl (e_lit0 (Kd.int .i64) Try.underlying23 I3) (cur2 (fun A54 c55 => ?_))
      refine o_q rfl rfl (za2 rfl) ?_
      refine o_q rfl rfl (za2 rfl) ?_
      refine zab h (fun l57 hz58 h => ?_) rfl
      refine zb4 (p := l0.length = l0.length ∧ l0.length ≤ c0) (fun w h => h.row_nc (i := 1) rfl) (fun hk59 => ?_)
      refine o_q rfl rfl (q_ctv Try.underlying23 Z3 rfl rfl ⟨_, rfl⟩ hk59.1 hk59.2 hz58) ?_
      refine zab h (fun l60 ha61 h => ?_) rfl
      refine o_e rfl (e_appr (i := 0) Try.underlying23 I3 rfl (by decide) (by decide) (fun _ _ _ _ h => h) rfl (fun w h => C_cut (dk := (Kd.int .i64)) rfl hz58 hk59.2 (h.zaw (i := 1) rfl)) rfl rfl ha61) (cur2 (fun A62 c63 => ?_))
      refine o_q rfl rfl (q_asg rfl) ?_
      refine o_end ?_
      refine za1 ?_
      refine c_seq ?_
      refine za0 ?_
      refine o_q rfl rfl (za2 rfl) ?_
      refine o_q rfl rfl (za2 rfl) ?_
      refine o_e rfl (e_lit (vs := [(0, .int .i64 a1)]) (cs := [.int .i64 a1]) (Kd.int .i64) ([a1] : List Int) Try.underlying23 I3 (by decide) rfl (by decide) rfl rfl (fun _ _ => Kd.zah _)) (cur2 (fun A64 c65 => ?_))
      refine zab h (fun l67 ha68 h => ?_) rfl
      refine o_e rfl (e_app (i := 1) (j := 0) Try.underlying23 I3 rfl (by decide) (by decide) rfl rfl rfl rfl rfl ha68) (cur2 (fun A69 c70 => ?_))
      refine o_q rfl rfl (q_asg rfl) ?_
      refine o_end ?_
      refine za1 ?_
      refine c_seq ?_
      refine za0 ?_
      refine o_q rfl rfl (za2 rfl) ?_
      refine o_q rfl rfl (za2 rfl) ?_
      refine o_q rfl rfl (za2 rfl) ?_
      refine zab h (fun l71 hz72 h => ?_) rfl
      refine zb4 (p := l0.length = l0.length ∧ l0.length ≤ c0) (fun w h => h.row_nc (i := 2) rfl) (fun hk73 => ?_)
      refine o_q rfl rfl (q_ctv Try.underlying23 Z3 rfl ⟨_, rfl⟩ rfl hk73.1 hk73.2 hz72) ?_
      refine zab h (fun l74 ha75 h => ?_) rfl
      refine o_e rfl (e_appr (i := 1) Try.underlying23 I3 rfl (by decide) (by decide) (fun _ _ _ _ h => h) rfl (fun w h => C_cut (dk := (Kd.int .i64)) rfl hz72 hk73.2 (h.zaw (i := 2) rfl)) rfl rfl ha75) (cur2 (fun A76 c77 => ?_))
      refine o_q rfl rfl (q_asg rfl) ?_
      refine o_end ?_
      refine za1 ?_
      refine c_ret ?_
      have e0_ := Option.some.inj h; clear h
      subst e0_
      exact x_r1 (A76, c77) Try.results162 (zal rfl) rfl (fun w h => za6 [1] (by decide) rfl w h)

/-! ### loop.example/g01098/spec.plUsed: function 148 -/
def spec_plUsed.l0 (k : Nat) (a0_0 : Int) (l0_1 : List SStep) : Nat → (List Int) → (List Int) → Int → Option ((List Int) × (List Int))
  | 0, _, _, _ => none
  | k17 + 1, l8, l11, i14 => if 0 ≤ i14 then ((spec_l1Has.f l8 (w64 (a0_0 + i14))).bind fun b27 => if b27 = true then ((gt l0_1 i14).bind fun y31 => (gt l0_1 i14).bind fun y33 => (ap l8 ([y31.f0, y33.f1] : List Int)).bind fun l37 => (spec_l1Put.f k l11 i14).bind fun l42 => spec_plUsed.l0 k a0_0 l0_1 k17 l37 l42 (w64 (i14 - 1))) else (spec_plUsed.l0 k a0_0 l0_1 k17 l8 l11 (w64 (i14 - 1)))) else (some (l8, l11))
def spec_plUsed.f (k : Nat) (a0_0 : Int) (l0_1 : List SStep) (l0_2 : List Int) : Option (List Int) := (spec_l1Own.f l0_2).bind fun l4 => (spec_plUsed.l0 k a0_0 l0_1 k l4 ([] : List Int) (w64 ((l0_1.length : Int) - 1))).bind fun (l8, l11) => some l11
set_option maxHeartbeats 600000 in
set_option maxRecDepth 100000 in
theorem spec_plUsed.calls (k : Nat) {w0 ws : World} {P0 : Nat → Prop} (a0_0 : Int) (A0_1 : Option Addr) (c0_1 : Nat) (n0_1 : Nat) (l0_1 : List SStep) (A0_2 : Option Addr) (c0_2 : Nat) (n0_2 : Nat) (l0_2 : List Int) (Z : Below w0.heap.size w0 ws) (hF : Fr w0 ws P0 [] ws) (R0_1 : Stable ws P0 (fun w => Kd.C kStep w A0_1 n0_1 l0_1)) (hc0_1 : n0_1 ≤ c0_1) (R0_2 : Stable ws P0 (fun w => Kd.C (Kd.int .i64) w A0_2 n0_2 l0_2)) (hc0_2 : n0_2 ≤ c0_2) (r_1 : List Int) (h : spec_plUsed.f k a0_0 l0_1 l0_2 = some r_1) :
    Calls Try.prog 148 #[.agg #[.int .i64 a0_0, .slice A0_1 n0_1 c0_1, .slice A0_2 n0_2 c0_2]] ws (Post1 w0 ws P0 (fun ((q_2, q_3) : (Option Addr) × Nat) => .slice q_2 r_1.length q_3) (fun ((q_2, q_3) : (Option Addr) × Nat) => [row (Kd.int .i64) 3 (.slice q_2 r_1.length q_3) r_1])) := by
  unfold spec_plUsed.f at h
  obtain rfl := (R0_1 ws (KeptB.refl _ _)).1
  obtain rfl := (R0_2 ws (KeptB.refl _ _)).1
  refine enter Try.func148 rfl Try.ntmps148 rfl hF ?_
  refine c_seq ?_
  refine za0 ?_
  refine o_e rfl (e_box rfl) (fun g1 => ?_)
  refine o_q rfl rfl (q_asg rfl) ?_
  refine o_end ?_
  refine za1 ?_
  refine c_seq ?_
  refine za0 ?_
  refine o_q rfl rfl (q_f F25_2 rfl) ?_
  refine o_q rfl rfl (q_ldb Y23 rfl (fun w h => h.zaj (i := 0) rfl) rfl) ?_
  refine zab h (fun l4 hx3 h => ?_) rfl
  refine o_e rfl (za8 0 Z Try.func98 N98 rfl rfl rfl (fun w P1 hF hB hS hT => spec_l1Own.calls A0_2 c0_2 l0_2.length l0_2 hB hF (hS _ R0_2) hc0_2 _ hx3)) (cur2 (fun A5 c6 => ?_))
  refine o_q rfl rfl (q_asg rfl) ?_
  refine o_end ?_
  refine za1 ?_
  refine c_seq ?_
  refine za0 ?_
  refine o_q rfl rfl (q_asg rfl) ?_
  refine o_end ?_
  refine za1 ?_
  refine c_seq ?_
  refine c_seq ?_
  refine za0 ?_
  refine o_q rfl rfl (q_f F25_1 rfl) ?_
  refine o_q rfl rfl (q_ldb Y22 rfl (fun w h => h.zaj (i := 1) rfl) rfl) ?_
  refine o_q rfl rfl (q_len Try.underlying22 rfl) ?_
  refine o_q rfl rfl (zb5 rfl rfl) ?_
  refine o_q rfl rfl (q_asg rfl) ?_
  refine o_end ?_
  refine za1 ?_
  refine zaq ?_
  refine c_nil (Kd.int .i64) 3 ?_
  refine zab h (fun o22 hl21 hR20 => ?_) rfl
  clear h
  refine zb3 (σ := (List Int) × (List Int) × Int × (Option Addr) × Nat × (Option Addr) × Nat) (fun k17 ((l8, l11, i14, A9, c10, A12, c13) : (List Int) × (List Int) × Int × (Option Addr) × Nat × (Option Addr) × Nat) => spec_plUsed.l0 k a0_0 l0_1 k17 l8 l11 i14 = some o22) [3, 4, 5, 13, 14, 15, 16, 17, 18, 19, 20, 21, 22, 23, 24, 25, 26, 27, 28, 29, 30, 31, 32, 33, 34, 35, 36, 37, 38, 39, 40] (fun ((l8, l11, i14, A9, c10, A12, c13) : (List Int) × (List Int) × Int × (Option Addr) × Nat × (Option Addr) × Nat) => [(3, .slice A9 l8.length c10), (4, .slice A12 l11.length c13), (5, .int .i64 i14)]) (fun ((l8, l11, i14, A9, c10, A12, c13) : (List Int) × (List Int) × Int × (Option Addr) × Nat × (Option Addr) × Nat) => [row (Kd.int .i64) 3 (.slice A12 l11.length c13) l11, row (Kd.int .i64) 3 (.slice A9 l8.length c10) l8, box g1 25 #[.int .i64 a0_0, .slice A0_1 l0_1.length c0_1, .slice A0_2 l0_2.length c0_2]]) k (l4, ([] : List Int), w64 ((l0_1.length : Int) - 1), A5, c6, none, 0) hl21 ⟨rfl, rfl, rfl, trivial⟩ (fun w h => h) ?_
  refine natC (cur7 (fun l8 l11 i14 A9 c10 A12 c13 => fun U23 hJ_ => ?_)) (fun k17 => (cur7 (fun l8 l11 i14 A9 c10 A12 c13 => fun U23 hJ_ => ?_)))
  · skip
    replace hJ_ : spec_plUsed.l0 k a0_0 l0_1 0 l8 l11 i14 = some o22 := hJ_
    rw [spec_plUsed.l0] at hJ_
    exact noneE hJ_
  · skip
    clear hl21
    have h := hJ_; clear hJ_
    replace h : spec_plUsed.l0 k a0_0 l0_1 (k17 + 1) l8 l11 i14 = some o22 := h
    rw [spec_plUsed.l0] at h
    refine c_seq ?_
    refine c_seq ?_
    refine za0 ?_
    refine o_q rfl rfl (za2 rfl) ?_
    refine o_q rfl rfl (q_geq rfl rfl) ?_
    refine o_end ?_
    refine za1 ?_
    refine zb0 _ rfl (fun hb25 => ?_) (fun hb25 => ?_)
    · skip
      replace h := br_t hb25 h
      refine zat ?_
      refine za1 ?_
      refine c_seq ?_
      refine zaq ?_
      refine c_seq ?_
      refine za0 ?_
      refine o_q rfl rfl (za2 rfl) ?_
      refine o_q rfl rfl (q_f F25_0 rfl) ?_
      refine o_q rfl rfl (q_ldb Y3 rfl (fun w h => h.zaj (i := 2) rfl) rfl) ?_
      refine o_q rfl rfl (za2 rfl) ?_
      refine o_q rfl rfl (zb7 rfl rfl) ?_
      refine zab h (fun b27 hx26 h => ?_) rfl
      refine o_e rfl (za8 0 Z Try.func161 N161 rfl rfl rfl (fun w P1 hF hB hS hT => spec_l1Has.calls A9 c10 l8.length l8 (w64 (a0_0 + i14)) hB hF (hT 1 _ rfl).row (hT 1 _ rfl).cap _ hx26)) (fun _ => ?_)
      refine o_end ?_
      refine za1 ?_
      refine zb0 _ rfl (fun hb28 => ?_) (fun hb28 => ?_)
      · skip
        replace h := bb_t hb28 h
        refine c_seq ?_
        refine a_startS (ds := []) [some 0, none, some 2] MO rfl ?_
        refine za7 0 rfl rfl rfl (by kernel_rfl) (fun _ _ _ h => h) (za2 rfl) ?_
        refine za7 1 rfl rfl rfl (by kernel_rfl) (fun _ _ _ h => h) (q_f F25_1 rfl) ?_
        refine zb2 2 rfl rfl rfl (by kernel_rfl) (fun _ _ _ h => h) (fun w h => za3 [some 0, none, some 2] (by decide) w h rfl) (q_ldb Y22 rfl (fun w h => h.zaj (i := 2) rfl) rfl) ?_
        refine za7 3 rfl rfl rfl (by kernel_rfl) (fun _ _ _ h => h) (za2 rfl) ?_
        refine a_fact (p := Sh A0_1 l0_1.length l0_1.length) (fun w h => f_sh (dk := kStep) h (fun w h => R0_1.now Z h)) (fun hq29 => ?_)
        refine zab h (fun y31 hg30 h => ?_) rfl
        refine za7 4 rfl rfl rfl (by kernel_rfl) (fun _ _ _ h => h) (q_ix Try.underlying22 Z107 rfl rfl hq29 hg30) ?_
        refine za7 5 rfl rfl rfl (by kernel_rfl) (fun _ _ _ h => h) (q_fe F107_0 rfl) ?_
        refine zb2 6 rfl rfl rfl (by kernel_rfl) (fun _ _ _ h => h) (fun w h => za3 [some 0, none, some 2] (by decide) w h rfl) (q_lde (off := 0) Y3 rfl rfl (fun w h => R0_1.now Z h) hg30 (fun _ _ h => h) rfl) ?_
        refine za7 7 rfl rfl rfl (by kernel_rfl) (fun _ _ _ h => h) (q_f F25_1 rfl) ?_
        refine zb2 8 rfl rfl rfl (by kernel_rfl) (fun _ _ _ h => h) (fun w h => za3 [some 0, none, some 2] (by decide) w h rfl) (q_ldb Y22 rfl (fun w h => h.zaj (i := 2) rfl) rfl) ?_
        refine za7 9 rfl rfl rfl (by kernel_rfl) (fun _ _ _ h => h) (za2 rfl) ?_
        refine zab h (fun y33 hg32 h => ?_) rfl
        refine za7 10 rfl rfl rfl (by kernel_rfl) (fun _ _ _ h => h) (q_ix Try.underlying22 Z107 rfl rfl hq29 hg32) ?_
        refine za7 11 rfl rfl rfl (by kernel_rfl) (fun _ _ _ h => h) (q_fe F107_1 rfl) ?_
        refine zb2 12 rfl rfl rfl (by kernel_rfl) (fun _ _ _ h => h) (fun w h => za3 [some 0, none, some 2] (by decide) w h rfl) (q_lde (off := 1) Y3 rfl rfl (fun w h => R0_1.now Z h) hg32 (fun _ _ h => h) rfl) ?_
        refine a_one 13 rfl rfl (by kernel_rfl) rfl (e_lit (vs := [(0, .int .i64 y31.f0), (1, .int .i64 y33.f1)]) (cs := [.int .i64 y31.f0, .int .i64 y33.f1]) (Kd.int .i64) ([y31.f0, y33.f1] : List Int) Try.underlying23 I3 (by decide) rfl (by decide) rfl rfl (fun _ _ => Kd.zah _)) (fun s w h => za3 [some 1, none, some 3] (by decide) w h rfl) (cur2 (fun A34 c35 => ?_))
        refine zab h (fun l37 ha38 h => ?_) rfl
        refine a_one 14 rfl rfl (by kernel_rfl) rfl (e_app (i := 2) (j := 0) Try.underlying23 I3 rfl (by decide) (by decide) rfl rfl rfl rfl rfl ha38) (fun s w h => za3 [some 1, none, some 3] (by decide) w h rfl) (cur2 (fun A39 c40 => ?_))
        refine za7 15 rfl rfl rfl (by kernel_rfl) (fun _ _ _ h => h) (q_asg rfl) ?_
        refine zan (by kernel_rfl) ?_
        refine za1 ?_
        refine za0 ?_
        refine o_q rfl rfl (za2 rfl) ?_
        refine o_q rfl rfl (za2 rfl) ?_
        refine o_pick [1, 2, 3] (by decide) rfl ?_
        refine zab h (fun l42 hx41 h => ?_) rfl
        refine o_e rfl (za8 1 Z Try.func162 N162 rfl rfl rfl (fun w P1 hF hB hS hT => spec_l1Put.calls k A12 c13 l11.length l11 i14 hB hF _ hx41)) (cur2 (fun A43 c44 => ?_))
        refine o_q rfl rfl (q_asg rfl) ?_
        refine o_end ?_
        refine zas ?_
        refine za1 ?_
        refine za0 ?_
        refine o_q rfl rfl (za2 rfl) ?_
        refine o_q rfl rfl (zb5 rfl rfl) ?_
        refine o_q rfl rfl (q_asg rfl) ?_
        refine o_end ?_
        refine zar k17 (l37, l42, w64 (i14 - 1), A39, c40, A43, c44) (Nat.lt_succ_self _) h ⟨rfl, rfl, rfl, trivial⟩ (fun w h => za6 [0, 1, 2] (by decide) rfl w h) ?_
        repeat (first | exact za9 _ _ | refine zae rfl ?_ | refine zaa rfl ?_ | refine zaf rfl ?_)
      · skip
        replace h := bb_f hb28 h
        refine zat ?_
        refine zas ?_
        refine za1 ?_
        refine za0 ?_
        refine o_q rfl rfl (za2 rfl) ?_
        refine o_q rfl rfl (zb5 rfl rfl) ?_
        refine o_q rfl rfl (q_asg rfl) ?_
        refine o_end ?_
        refine zar k17 (l8, l11, w64 (i14 - 1), A9, c10, A12, c13) (Nat.lt_succ_self _) h ⟨rfl, rfl, rfl, trivial⟩ (fun w h => za6 [0, 1, 2] (by decide) rfl w h) ?_
        repeat (first | exact za9 _ _ | refine zae rfl ?_ | refine zaa rfl ?_ | refine zaf rfl ?_)
    · skip
      replace h := br_f hb25 h
      refine c_exit ?_
      refine zac ?_
      refine zac ?_
      have e_ := Option.some.inj h; replace h := hR20; rw [← e_] at h; clear e_
      refine x_hit ?_
      refine za1 ?_
      refine c_seq ?_
      refine za0 ?_
      refine o_q rfl rfl (za2 rfl) ?_
      refine o_q rfl rfl (q_asg rfl) ?_
      refine o_end ?_
      refine za1 ?_
      refine c_ret ?_
      have e0_ := Option.some.inj h; clear h
      subst e0_
      exact x_r1 (A12, c13) Try.results148 (zal rfl) rfl (fun w h => za6 [0] (by decide) rfl w h)

/-! ### loop.example/g01098/spec.plPlace: function 168 -/
def spec_plPlace.l0 (a1 : Int) : (List Int) → Int → Option ((Int) ⊕ (Unit))
  | [], i1 => some (.inr ())
  | y2 :: ys3, i1 => if y2 = a1 then (some (.inl i1)) else (spec_plPlace.l0 a1 ys3 (i1 + 1))
def spec_plPlace.f (l0 : List Int) (a1 : Int) : Option Int := (spec_plPlace.l0 a1 l0 0).bind fun o_ => match o_ with | .inl r_ => some r_ | .inr _ => some (-1)
set_option maxHeartbeats 600000 in
set_option maxRecDepth 100000 in
theorem spec_plPlace.calls {w0 ws : World} {P0 : Nat → Prop} (A0 : Option Addr) (c0 : Nat) (n0 : Nat) (l0 : List Int) (a1 : Int) (Z : Below w0.heap.size w0 ws) (hF : Fr w0 ws P0 [] ws) (R0 : Stable ws P0 (fun w => Kd.C (Kd.int .i64) w A0 n0 l0)) (hc0 : n0 ≤ c0) (r_1 : Int) (h : spec_plPlace.f l0 a1 = some r_1) :
    Calls Try.prog 168 #[.slice A0 n0 c0, .int .i64 a1] ws (Post1 w0 ws P0 (fun (_ : Unit) => .int .i64 r_1) (fun (_ : Unit) => [])) := by
  unfold spec_plPlace.f at h
  obtain rfl := (R0 ws (KeptB.refl _ _)).1
  refine enter Try.func168 rfl Try.ntmps168 rfl hF ?_
  refine c_seq ?_
  refine za0 ?_
  refine o_q rfl rfl (q_asg rfl) ?_
  refine o_end ?_
  refine za1 ?_
  refine c_seq ?_
  refine c_seq ?_
  refine za0 ?_
  refine o_q rfl rfl (za2 rfl) ?_
  refine o_q rfl rfl (q_len Try.underlying23 rfl) ?_
  refine o_q rfl rfl (za2 rfl) ?_
  refine o_end ?_
  refine za1 ?_
  refine zaq ?_
  refine zab h (fun o9 hl8 hR7 => ?_) rfl
  clear h
  refine c_fact (p := l0.length ≤ 9223372036854775807) (fun w h => (R0.now Z h).2.1) (fun hm6 => ?_)
  refine zb3 (σ := (List Int) × Int) (fun k4 ((ys3, i1) : (List Int) × Int) => Rg l0 i1 ys3 ∧ ys3.length = k4 ∧ spec_plPlace.l0 a1 ys3 i1 = some o9) [4, 5, 6, 9, 10, 11, 12, 13, 14, 15, 16, 17, 18] (fun ((ys3, i1) : (List Int) × Int) => [(9, .int .i64 i1)]) (fun ((ys3, i1) : (List Int) × Int) => []) l0.length (l0, 0) ⟨Rg.start _, rfl, hl8⟩ ⟨rfl, trivial⟩ (fun w h => h) ?_
  refine fun k4 => cur2 (listC (fun i1 U10 hJ_ => ?_) (fun y2 ys3 i1 U10 hJ_ => ?_))
  · skip
    clear hl8
    have hr5 := hJ_.1; have hk11 := hJ_.2.1; have h := hJ_.2.2; clear hJ_
    replace h : spec_plPlace.l0 a1 [] i1 = some o9 := h
    rw [spec_plPlace.l0] at h
    refine c_seq ?_
    refine za0 ?_
    refine o_q rfl rfl (q_lss rfl rfl) ?_
    refine o_end ?_
    refine za1 ?_
    refine c_seq ?_
    refine c_false (congrArg Value.bool hr5.ge) ?_
    refine c_exit ?_
    refine zac ?_
    refine zac ?_
    have e_ := Option.some.inj h; replace h := hR7; rw [← e_] at h; clear e_
    refine x_hit ?_
    refine za1 ?_
    refine c_seq ?_
    refine za0 ?_
    refine o_q rfl rfl (q_asg rfl) ?_
    refine o_end ?_
    refine za1 ?_
    refine c_ret ?_
    have e0_ := Option.some.inj h; clear h
    subst e0_
    exact x_r1 () Try.results168 (zal rfl) rfl (fun w h => za6 [] (by decide) rfl w h)
  · skip
    clear hl8
    have hr5 := hJ_.1; have hk11 := hJ_.2.1; have h := hJ_.2.2; clear hJ_
    replace h : spec_plPlace.l0 a1 (y2 :: ys3) i1 = some o9 := h
    rw [spec_plPlace.l0] at h
    refine c_seq ?_
    refine za0 ?_
    refine o_q rfl rfl (q_lss rfl rfl) ?_
    refine o_end ?_
    refine za1 ?_
    refine c_seq ?_
    refine c_true (congrArg Value.bool hr5.lt) ?_
    refine zat ?_
    refine za1 ?_
    refine c_seq ?_
    refine zaq ?_
    refine c_seq ?_
    refine za0 ?_
    refine o_q rfl rfl (za2 rfl) ?_
    refine zb4 (p := Sh A0 l0.length l0.length) (fun w h => f_sh (dk := (Kd.int .i64)) h (fun w h => R0.now Z h)) (fun hq12 => ?_)
    refine o_q rfl rfl (q_ix Try.underlying23 Z3 rfl rfl hq12 hr5.get) ?_
    refine o_q rfl rfl (q_lde (off := 0) Y3 rfl rfl (fun w h => R0.now Z h) hr5.get (fun _ _ h => h) rfl) ?_
    refine o_q rfl rfl (q_asg rfl) ?_
    refine o_q rfl rfl (q_asg rfl) ?_
    refine o_end ?_
    refine za1 ?_
    refine c_seq ?_
    refine za0 ?_
    refine o_q rfl rfl (za2 rfl) ?_
    refine o_q rfl rfl (za2 rfl) ?_
    refine o_q rfl rfl (q_eql rfl rfl) ?_
    refine o_end ?_
    refine za1 ?_
    refine zb0 _ rfl (fun hb13 => ?_) (fun hb13 => ?_)
    · skip
      replace h := br_t hb13 h
      refine c_seq ?_
      refine za0 ?_
      refine o_q rfl rfl (za2 rfl) ?_
      refine o_q rfl rfl (q_asg rfl) ?_
      refine o_end ?_
      refine za1 ?_
      refine c_ret ?_
      refine zax ?_
      refine zai ?_
      refine zai ?_
      have e_ := Option.some.inj h; replace h := hR7; rw [← e_] at h; clear e_
      refine zax ?_
      refine zai ?_
      have e0_ := Option.some.inj h; clear h
      subst e0_
      exact x_r1 () Try.results168 (zal rfl) rfl (fun w h => za6 [] (by decide) rfl w h)
    · skip
      replace h := br_f hb13 h
      refine zat ?_
      refine zas ?_
      refine za1 ?_
      refine za0 ?_
      refine o_q rfl rfl (q_up rfl rfl (hr5.up hm6)) ?_
      refine o_q rfl rfl (za2 rfl) ?_
      refine o_end ?_
      refine zar ys3.length (ys3, i1 + 1) (by rw [← hk11]; exact Nat.lt_succ_self _) ⟨hr5.step, rfl, h⟩ ⟨rfl, trivial⟩ (fun w h => za6 [] (by decide) rfl w h) ?_
      repeat (first | exact za9 _ _ | refine zae rfl ?_ | refine zaa rfl ?_ | refine zaf rfl ?_)

/-! ### loop.example/g01098/spec.plNumber: function 160 -/
def spec_plNumber.f (a0_0 : Int) (l0_1 : List SStep) (l0_2 : List Int) (l1 : List Int) (a2 : Int) : Option Int := if a2 < a0_0 then (some a2) else ((spec_plPlace.f l1 (w64 (a2 - a0_0))).bind fun i5 => some (w64 (a0_0 + i5)))
set_option maxHeartbeats 600000 in
set_option maxRecDepth 100000 in
theorem spec_plNumber.calls {w0 ws : World} {P0 : Nat → Prop} (a0_0 : Int) (A0_1 : Option Addr) (c0_1 : Nat) (n0_1 : Nat) (l0_1 : List SStep) (A0_2 : Option Addr) (c0_2 : Nat) (n0_2 : Nat) (l0_2 : List Int) (A1 : Option Addr) (c1 : Nat) (n1 : Nat) (l1 : List Int) (a2 : Int) (Z : Below w0.heap.size w0 ws) (hF : Fr w0 ws P0 [] ws) (R0_1 : Stable ws P0 (fun w => Kd.C kStep w A0_1 n0_1 l0_1)) (hc0_1 : n0_1 ≤ c0_1) (R0_2 : Stable ws P0 (fun w => Kd.C (Kd.int .i64) w A0_2 n0_2 l0_2)) (hc0_2 : n0_2 ≤ c0_2) (R1 : Stable ws P0 (fun w => Kd.C (Kd.int .i64) w A1 n1 l1)) (hc1 : n1 ≤ c1) (r_1 : Int) (h : spec_plNumber.f a0_0 l0_1 l0_2 l1 a2 = some r_1) :
    Calls Try.prog 160 #[.agg #[.int .i64 a0_0, .slice A0_1 n0_1 c0_1, .slice A0_2 n0_2 c0_2], .slice A1 n1 c1, .int .i64 a2] ws (Post1 w0 ws P0 (fun (_ : Unit) => .int .i64 r_1) (fun (_ : Unit) => [])) := by
  unfold spec_plNumber.f at h
  obtain rfl := (R0_1 ws (KeptB.refl _ _)).1
  obtain rfl := (R0_2 ws (KeptB.refl _ _)).1
  obtain rfl := (R1 ws (KeptB.refl _ _)).1
  refine enter Try.func160 rfl Try.ntmps160 rfl hF ?_
  refine c_seq ?_
  refine za0 ?_
  refine o_e rfl (e_box rfl) (fun g1 => ?_)
  refine o_q rfl rfl (q_asg rfl) ?_
  refine o_end ?_
  refine za1 ?_
  refine c_seq ?_
  refine c_seq ?_
  refine za0 ?_
  refine o_q rfl rfl (za2 rfl) ?_
  refine o_q rfl rfl (q_f F25_0 rfl) ?_
  refine o_q rfl rfl (q_ldb Y3 rfl (fun w h => h.zaj (i := 0) rfl) rfl) ?_
  refine o_q rfl rfl (q_lss rfl rfl) ?_
  refine o_end ?_
  refine za1 ?_
  refine zb0 _ rfl (fun hb3 => ?_) (fun hb3 => ?_)
  · skip
    replace h := br_t hb3 h
    refine c_seq ?_
    refine za0 ?_
    refine o_q rfl rfl (za2 rfl) ?_
    refine o_q rfl rfl (q_asg rfl) ?_
    refine o_end ?_
    refine za1 ?_
    refine c_ret ?_
    refine zai ?_
    have e0_ := Option.some.inj h; clear h
    subst e0_
    exact x_r1 () Try.results160 (zal rfl) rfl (fun w h => za6 [] (by decide) rfl w h)
  · skip
    replace h := br_f hb3 h
    refine zat ?_
    refine za1 ?_
    refine c_seq ?_
    refine a_start (ds := []) MO rfl ?_
    refine za7 0 rfl rfl rfl (by kernel_rfl) (fun _ _ _ h => h) (q_f F25_0 rfl) ?_
    refine zb2 1 rfl rfl rfl (by kernel_rfl) (fun _ _ _ h => h) (fun w h => h) (q_ldb Y3 rfl (fun w h => h.zaj (i := 0) rfl) rfl) ?_
    refine za7 2 rfl rfl rfl (by kernel_rfl) (fun _ _ _ h => h) (za2 rfl) ?_
    refine za7 3 rfl rfl rfl (by kernel_rfl) (fun _ _ _ h => h) (za2 rfl) ?_
    refine za7 4 rfl rfl rfl (by kernel_rfl) (fun _ _ _ h => h) (q_f F25_0 rfl) ?_
    refine zb2 5 rfl rfl rfl (by kernel_rfl) (fun _ _ _ h => h) (fun w h => h) (q_ldb Y3 rfl (fun w h => h.zaj (i := 0) rfl) rfl) ?_
    refine za7 6 rfl rfl rfl (by kernel_rfl) (fun _ _ _ h => h) (zb5 rfl rfl) ?_
    refine zab h (fun i5 hx4 h => ?_) rfl
    refine a_one 7 rfl rfl (by kernel_rfl) rfl (za8 0 Z Try.func168 N168 rfl rfl rfl (fun w P1 hF hB hS hT => spec_plPlace.calls A1 c1 l1.length l1 (w64 (a2 - a0_0)) hB hF (hS _ R1) hc1 _ hx4)) (fun s w h => h) (fun _ => ?_)
    refine za7 8 rfl rfl rfl (by kernel_rfl) (fun _ _ _ h => h) (zb7 rfl rfl) ?_
    refine za7 9 rfl rfl rfl (by kernel_rfl) (fun _ _ _ h => h) (q_asg rfl) ?_
    refine zan (by kernel_rfl) ?_
    refine za1 ?_
    refine c_ret ?_
    have e0_ := Option.some.inj h; clear h
    subst e0_
    exact x_r1 () Try.results160 (zal rfl) rfl (fun w h => za6 [] (by decide) rfl w h)

/-! ### loop.example/g01098/spec.plKeep: function 147 -/
def spec_plKeep.l1 (a0_0 : Int) (l0_1 : List SStep) (l0_2 : List Int) (l1 : List Int) : (List Int) → (List Int) → Int → Option (List Int)
  | [], l23, i26 => some l23
  | y27 :: ys28, l23, i26 => (spec_plNumber.f a0_0 l0_1 l0_2 l1 y27).bind fun i340 => (ap l23 ([i340] : List Int)).bind fun l459 => spec_plKeep.l1 a0_0 l0_1 l0_2 l1 ys28 l459 (i26 + 1)
def spec_plKeep.l0 (a0_0 : Int) (l0_1 : List SStep) (l0_2 : List Int) (l1 : List Int) : (List Int) → (List SStep) → Int → Option (List SStep)
  | [], l8, i11 => some l8
  | y12 :: ys13, l8, i11 => (gt l0_1 y12).bind fun y702 => (spec_plNumber.f a0_0 l0_1 l0_2 l1 y702.f0).bind fun i1067 => (spec_plNumber.f a0_0 l0_1 l0_2 l1 y702.f1).bind fun i1367 => (spec_plStep.f i1067 i1367).bind fun z1427 => (ap l8 ([z1427] : List SStep)).bind fun l1546 => spec_plKeep.l0 a0_0 l0_1 l0_2 l1 ys13 l1546 (i11 + 1)
def spec_plKeep.f (a0_0 : Int) (l0_1 : List SStep) (l0_2 : List Int) (l1 : List Int) : Option ((List SStep) × (List Int)) := (spec_plKeep.l0 a0_0 l0_1 l0_2 l1 l1 ([] : List SStep) 0).bind fun l8 => (spec_plKeep.l1 a0_0 l0_1 l0_2 l1 l0_2 ([] : List Int) 0).bind fun l23 => some (l8, l23)
set_option maxHeartbeats 600000 in
set_option maxRecDepth 100000 in
theorem spec_plKeep.calls {w0 ws : World} {P0 : Nat → Prop} (a0_0 : Int) (A0_1 : Option Addr) (c0_1 : Nat) (n0_1 : Nat) (l0_1 : List SStep) (A0_2 : Option Addr) (c0_2 : Nat) (n0_2 : Nat) (l0_2 : List Int) (A1 : Option Addr) (c1 : Nat) (n1 : Nat) (l1 : List Int) (Z : Below w0.heap.size w0 ws) (hF : Fr w0 ws P0 [] ws) (R0_1 : Stable ws P0 (fun w => Kd.C kStep w A0_1 n0_1 l0_1)) (hc0_1 : n0_1 ≤ c0_1) (R0_2 : Stable ws P0 (fun w => Kd.C (Kd.int .i64) w A0_2 n0_2 l0_2)) (hc0_2 : n0_2 ≤ c0_2) (R1 : Stable ws P0 (fun w => Kd.C (Kd.int .i64) w A1 n1 l1)) (hc1 : n1 ≤ c1) (r_1 : List SStep) (r_4 : List Int) (h : spec_plKeep.f a0_0 l0_1 l0_2 l1 = some (r_1, r_4)) :
    Calls Try.prog 147 #[.agg #[.int .i64 a0_0, .slice A0_1 n0_1 c0_1, .slice A0_2 n0_2 c0_2], .slice A1 n1 c1] ws (Post1 w0 ws P0 (fun ((q_2, q_3, q_5, q_6) : (Option Addr) × Nat × (Option Addr) × Nat) => .agg #[.int .i64 a0_0, .slice q_2 r_1.length q_3, .slice q_5 r_4.length q_6]) (fun ((q_2, q_3, q_5, q_6) : (Option Addr) × Nat × (Option Addr) × Nat) => [row kStep 107 (.slice q_2 r_1.length q_3) r_1, row (Kd.int .i64) 3 (.slice q_5 r_4.length q_6) r_4])) := by
  unfold spec_plKeep.f at h
  obtain rfl := (R0_1 ws (KeptB.refl _ _)).1
  obtain rfl := (R0_2 ws (KeptB.refl _ _)).1
  obtain rfl := (R1 ws (KeptB.refl _ _)).1
  refine enter Try.func147 rfl Try.ntmps147 rfl hF ?_
  refine c_seq ?_
  refine za0 ?_
  refine o_e rfl (e_box rfl) (fun g1 => ?_)
  refine o_e rfl (zam V25 rfl) (fun g3 => ?_)
  refine o_end ?_
  refine za1 ?_
  refine c_seq ?_
  refine za0 ?_
  refine o_q rfl rfl (q_f F25_0 rfl) ?_
  refine o_q rfl rfl (q_ldb Y3 rfl (fun w h => h.zaj (i := 1) rfl) rfl) ?_
  refine o_q rfl rfl (q_build (vs := [(0, .int .i64 a0_0)]) (cs := [.int .i64 a0_0, .slice none 0 0, .slice none 0 0]) rfl rfl) ?_
  refine o_e rfl (zam V25 rfl) (fun g5 => ?_)
  refine o_e rfl (zav (i := 0) rfl rfl rfl Z25 rfl rfl) (fun _ => ?_)
  refine o_end ?_
  refine za1 ?_
  refine c_seq ?_
  refine c_seq ?_
  refine za0 ?_
  refine o_q rfl rfl (za2 rfl) ?_
  refine o_q rfl rfl (q_len Try.underlying23 rfl) ?_
  refine o_q rfl rfl (za2 rfl) ?_
  refine o_end ?_
  refine za1 ?_
  refine zaq ?_
  refine c_nil kStep 107 ?_
  refine zab h (fun o19 hl18 hR17 => ?_) rfl
  clear h
  refine c_fact (p := l1.length ≤ 9223372036854775807) (fun w h => (R1.now Z h).2.1) (fun hm16 => ?_)
  refine zb3 (σ := (List Int) × (List SStep) × Int × (Option Addr) × Nat) (fun k14 ((ys13, l8, i11, A9, c10) : (List Int) × (List SStep) × Int × (Option Addr) × Nat) => Rg l1 i11 ys13 ∧ ys13.length = k14 ∧ spec_plKeep.l0 a0_0 l0_1 l0_2 l1 ys13 l8 i11 = some o19) [7, 8, 16, 17, 18, 19, 20, 21, 22, 23, 24, 25, 26, 27, 28, 29, 30, 31, 32, 33, 34, 35, 36, 37, 38, 39, 40, 41] (fun ((ys13, l8, i11, A9, c10) : (List Int) × (List SStep) × Int × (Option Addr) × Nat) => [(16, .int .i64 i11)]) (fun ((ys13, l8, i11, A9, c10) : (List Int) × (List SStep) × Int × (Option Addr) × Nat) => [row kStep 107 (.slice A9 l8.length c10) l8, box g5 25 #[.int .i64 a0_0, .slice A9 l8.length c10, .slice none 0 0], box g3 25 #[.int .i64 0, .slice none 0 0, .slice none 0 0], box g1 25 #[.int .i64 a0_0, .slice A0_1 l0_1.length c0_1, .slice A0_2 l0_2.length c0_2]]) l1.length (l1, ([] : List SStep), 0, none, 0) ⟨Rg.start _, rfl, hl18⟩ ⟨rfl, trivial⟩ (fun w h => h) ?_
  refine fun k14 => cur5 (listC (fun l8 i11 A9 c10 U20 hJ_ => ?_) (fun y12 ys13 l8 i11 A9 c10 U20 hJ_ => ?_))
  · skip
    clear hl18
    have hr15 := hJ_.1; have hk21 := hJ_.2.1; have h := hJ_.2.2; clear hJ_
    replace h : spec_plKeep.l0 a0_0 l0_1 l0_2 l1 [] l8 i11 = some o19 := h
    rw [spec_plKeep.l0] at h
    refine c_seq ?_
    refine za0 ?_
    refine o_q rfl rfl (q_lss rfl rfl) ?_
    refine o_end ?_
    refine za1 ?_
    refine c_seq ?_
    refine c_false (congrArg Value.bool hr15.ge) ?_
    refine c_exit ?_
    refine zac ?_
    refine zac ?_
    have e_ := Option.some.inj h; replace h := hR17; rw [← e_] at h; clear e_
    refine x_hit ?_
    refine za1 ?_
    refine c_seq ?_
    refine c_seq ?_
    refine za0 ?_
    refine o_q rfl rfl (q_f F25_2 rfl) ?_
    refine o_q rfl rfl (q_ldb Y23 rfl (fun w h => h.zaj (i := 3) rfl) rfl) ?_
    refine o_q rfl rfl (q_len Try.underlying23 rfl) ?_
    refine o_q rfl rfl (za2 rfl) ?_
    refine o_end ?_
    refine za1 ?_
    refine zaq ?_
    refine c_nil (Kd.int .i64) 3 ?_
    refine zab h (fun o34 hl33 hR32 => ?_) rfl
    clear h
    refine c_fact (p := l0_2.length ≤ 9223372036854775807) (fun w h => (R0_2.now Z h).2.1) (fun hm31 => ?_)
    refine zb3 (σ := (List Int) × (List Int) × Int × (Option Addr) × Nat) (fun k29 ((ys28, l23, i26, A24, c25) : (List Int) × (List Int) × Int × (Option Addr) × Nat) => Rg l0_2 i26 ys28 ∧ ys28.length = k29 ∧ spec_plKeep.l1 a0_0 l0_1 l0_2 l1 ys28 l23 i26 = some o34) [10, 45, 46, 47, 48, 49, 50, 51, 52, 53, 54, 55, 56, 57, 58] (fun ((ys28, l23, i26, A24, c25) : (List Int) × (List Int) × Int × (Option Addr) × Nat) => [(45, .int .i64 i26)]) (fun ((ys28, l23, i26, A24, c25) : (List Int) × (List Int) × Int × (Option Addr) × Nat) => [row (Kd.int .i64) 3 (.slice A24 l23.length c25) l23, row kStep 107 (.slice A9 l8.length c10) l8, box g5 25 #[.int .i64 a0_0, .slice A9 l8.length c10, .slice A24 l23.length c25], box g3 25 #[.int .i64 0, .slice none 0 0, .slice none 0 0], box g1 25 #[.int .i64 a0_0, .slice A0_1 l0_1.length c0_1, .slice A0_2 l0_2.length c0_2]]) l0_2.length (l0_2, ([] : List Int), 0, none, 0) ⟨Rg.start _, rfl, hl33⟩ ⟨rfl, trivial⟩ (fun w h => h) ?_
    refine fun k29 => cur5 (listC (fun l23 i26 A24 c25 U35 hJ_ => ?_) (fun y27 ys28 l23 i26 A24 c25 U35 hJ_ => ?_))
    · skip
      clear hl33
      have hr30 := hJ_.1; have hk36 := hJ_.2.1; have h := hJ_.2.2; clear hJ_
      replace h : spec_plKeep.l1 a0_0 l0_1 l0_2 l1 [] l23 i26 = some o34 := h
      rw [spec_plKeep.l1] at h
      refine c_seq ?_
      refine za0 ?_
      refine o_q rfl rfl (q_lss rfl rfl) ?_
      refine o_end ?_
      refine za1 ?_
      refine c_seq ?_
      refine c_false (congrArg Value.bool hr30.ge) ?_
      refine c_exit ?_
      refine zac ?_
      refine zac ?_
      have e_ := Option.some.inj h; replace h := hR32; rw [← e_] at h; clear e_
      refine x_hit ?_
      refine za1 ?_
      refine c_seq ?_
      refine za0 ?_
      refine o_q rfl rfl (q_ldB G25 Z25 rfl (fun w h => h.zaj (i := 2) rfl) rfl) ?_
      refine o_e rfl (zav (i := 3) rfl rfl rfl Z25 rfl rfl) (fun _ => ?_)
      refine o_end ?_
      refine za1 ?_
      refine c_ret ?_
      have e0_ := Option.some.inj h; clear h
      have d0_ := (Prod.mk.inj e0_).1; have e1_ := (Prod.mk.inj e0_).2; clear e0_; subst d0_
      subst e1_
      exact x_r1 (A9, c10, A24, c25) Try.results147 (rv_cell rfl G25 Z25 (fun w h => h.zaj (i := 3) rfl) rfl) rfl (fun w h => za6 [1, 0] (by decide) rfl w h)
    · skip
      clear hl33
      have hr30 := hJ_.1; have hk36 := hJ_.2.1; have h := hJ_.2.2; clear hJ_
      replace h : spec_plKeep.l1 a0_0 l0_1 l0_2 l1 (y27 :: ys28) l23 i26 = some o34 := h
      rw [spec_plKeep.l1] at h
      refine c_seq ?_
      refine za0 ?_
      refine o_q rfl rfl (q_lss rfl rfl) ?_
      refine o_end ?_
      refine za1 ?_
      refine c_seq ?_
      refine c_true (congrArg Value.bool hr30.lt) ?_
      refine zat ?_
      refine za1 ?_
      refine c_seq ?_
      refine zaq ?_
      refine c_seq ?_
      refine za0 ?_
      refine zb4 (p := Sh A0_2 l0_2.length l0_2.length) (fun w h => f_sh (dk := (Kd.int .i64)) h (fun w h => R0_2.now Z h)) (fun hq37 => ?_)
      refine o_q rfl rfl (q_ix Try.underlying23 Z3 rfl rfl hq37 hr30.get) ?_
      refine o_q rfl rfl (q_lde (off := 0) Y3 rfl rfl (fun w h => R0_2.now Z h) hr30.get (fun _ _ h => h) rfl) ?_
      refine o_q rfl rfl (q_asg rfl) ?_
      refine o_end ?_
      refine za1 ?_
      refine zab h (fun i340 hx339 h => ?_) rfl
      refine zab h (fun l459 ha460 h => ?_) rfl
      refine a_startS (ds := []) [none, some 1, none, some 3, some 4] MO rfl ?_
      refine za7 0 rfl rfl rfl (by kernel_rfl) (fun _ _ _ h => h) (q_f F25_2 rfl) ?_
      refine zb2 2 rfl rfl rfl (by kernel_rfl) (fun _ _ _ h => h) (fun w h => za3 [none, some 1, none, some 3, some 4] (by decide) w h rfl) (q_ldB G25 Z25 rfl (fun w h => h.zaj (i := 4) rfl) rfl) ?_
      refine za7 3 rfl rfl rfl (by kernel_rfl) (fun _ _ _ h => h) (za2 rfl) ?_
      refine za7 4 rfl rfl rfl (by kernel_rfl) (fun _ _ _ h => h) (za2 rfl) ?_
      refine a_two 1 5 rfl rfl rfl rfl (by kernel_rfl) rfl rfl (ev_q rfl (q_ldb Y23 rfl (fun w h => h.zaj (i := 2) rfl) rfl)) (fun s w h => za3 [none, some 1, none, some 3, some 4] (by decide) w h rfl) (za8 0 Z Try.func160 N160 rfl rfl rfl (fun w P1 hF hB hS hT => spec_plNumber.calls a0_0 A0_1 c0_1 l0_1.length l0_1 A0_2 c0_2 l0_2.length l0_2 A1 c1 l1.length l1 y27 hB hF (hS _ R0_1) hc0_1 (hS _ R0_2) hc0_2 (hS _ R1) hc1 _ hx339)) (fun s w h => za3 [none, some 1, none, some 3, some 4] (by decide) w h rfl) (fun _ => ?_) (fun _ => ?_)
      · skip
        refine a_one 5 rfl rfl (by kernel_rfl) rfl (za8 0 Z Try.func160 N160 rfl rfl rfl (fun w P1 hF hB hS hT => spec_plNumber.calls a0_0 A0_1 c0_1 l0_1.length l0_1 A0_2 c0_2 l0_2.length l0_2 A1 c1 l1.length l1 y27 hB hF (hS _ R0_1) hc0_1 (hS _ R0_2) hc0_2 (hS _ R1) hc1 _ hx339)) (fun s w h => za3 [none, some 1, none, some 3, some 4] (by decide) w h rfl) (fun _ => ?_)
        refine a_one 6 rfl rfl (by kernel_rfl) rfl (e_lit (vs := [(0, .int .i64 i340)]) (cs := [.int .i64 i340]) (Kd.int .i64) ([i340] : List Int) Try.underlying23 I3 (by decide) rfl (by decide) rfl rfl (fun _ _ => Kd.zah _)) (fun s w h => za3 [none, some 2, none, some 4, some 5] (by decide) w h rfl) (cur2 (fun A399 c400 => ?_))
        refine a_one 7 rfl rfl (by kernel_rfl) rfl (e_app (i := 1) (j := 0) Try.underlying23 I3 rfl (by decide) (by decide) rfl rfl rfl rfl rfl ha460) (fun s w h => za3 [none, some 2, none, some 4, some 5] (by decide) w h rfl) (cur2 (fun A461 c462 => ?_))
        refine za7 8 rfl rfl rfl (by kernel_rfl) (fun _ _ _ h => h) (q_f F25_2 rfl) ?_
        refine a_one 9 rfl rfl (by kernel_rfl) rfl (zad (i := 3) rfl rfl rfl rfl Z23 rfl rfl) (fun s w h => za3 [none, some 2, none, some 4, some 5] (by decide) w h rfl) (fun _ => ?_)
        refine zan (by kernel_rfl) ?_
        refine zas ?_
        refine za1 ?_
        refine za0 ?_
        refine o_q rfl rfl (q_up rfl rfl (hr30.up hm31)) ?_
        refine o_q rfl rfl (za2 rfl) ?_
        refine o_end ?_
        refine zar ys28.length (ys28, l459, i26 + 1, A461, c462) (by rw [← hk36]; exact Nat.lt_succ_self _) ⟨hr30.step, rfl, h⟩ ⟨rfl, trivial⟩ (fun w h => za6 [1, 2, 3, 4, 5] (by decide) rfl w h) ?_
        repeat (first | exact za9 _ _ | refine zae rfl ?_ | refine zaa rfl ?_ | refine zaf rfl ?_)
      · skip
        refine a_two 1 6 rfl rfl rfl rfl (by kernel_rfl) rfl rfl (ev_q rfl (q_ldb Y23 rfl (fun w h => h.zaj (i := 2) rfl) rfl)) (fun s w h => za3 [none, some 1, none, some 3, some 4] (by decide) w h rfl) (e_lit (vs := [(0, .int .i64 i340)]) (cs := [.int .i64 i340]) (Kd.int .i64) ([i340] : List Int) Try.underlying23 I3 (by decide) rfl (by decide) rfl rfl (fun _ _ => Kd.zah _)) (fun s w h => za3 [none, some 2, none, some 4, some 5] (by decide) w h rfl) (fun _ => ?_) (cur2 (fun A399 c400 => ?_))
        · skip
          refine a_one 6 rfl rfl (by kernel_rfl) rfl (e_lit (vs := [(0, .int .i64 i340)]) (cs := [.int .i64 i340]) (Kd.int .i64) ([i340] : List Int) Try.underlying23 I3 (by decide) rfl (by decide) rfl rfl (fun _ _ => Kd.zah _)) (fun s w h => za3 [none, some 2, none, some 4, some 5] (by decide) w h rfl) (cur2 (fun A399 c400 => ?_))
          refine a_one 7 rfl rfl (by kernel_rfl) rfl (e_app (i := 1) (j := 0) Try.underlying23 I3 rfl (by decide) (by decide) rfl rfl rfl rfl rfl ha460) (fun s w h => za3 [none, some 2, none, some 4, some 5] (by decide) w h rfl) (cur2 (fun A461 c462 => ?_))
          refine za7 8 rfl rfl rfl (by kernel_rfl) (fun _ _ _ h => h) (q_f F25_2 rfl) ?_
          refine a_one 9 rfl rfl (by kernel_rfl) rfl (zad (i := 3) rfl rfl rfl rfl Z23 rfl rfl) (fun s w h => za3 [none, some 2, none, some 4, some 5] (by decide) w h rfl) (fun _ => ?_)
          refine zan (by kernel_rfl) ?_
          refine zas ?_
          refine za1 ?_
          refine za0 ?_
          refine o_q rfl rfl (q_up rfl rfl (hr30.up hm31)) ?_
          refine o_q rfl rfl (za2 rfl) ?_
          refine o_end ?_
          refine zar ys28.length (ys28, l459, i26 + 1, A461, c462) (by rw [← hk36]; exact Nat.lt_succ_self _) ⟨hr30.step, rfl, h⟩ ⟨rfl, trivial⟩ (fun w h => za6 [1, 2, 3, 4, 5] (by decide) rfl w h) ?_
          repeat (first | exact za9 _ _ | refine zae rfl ?_ | refine zaa rfl ?_ | refine zaf rfl ?_)
        · skip
          refine a_one 1 rfl rfl (by kernel_rfl) rfl (ev_q rfl (q_ldb Y23 rfl (fun w h => h.zaj (i := 3) rfl) rfl)) (fun s w h => za3 [none, some 2, none, some 4, some 5] (by decide) w h rfl) (fun _ => ?_)
          refine a_one 7 rfl rfl (by kernel_rfl) rfl (e_app (i := 1) (j := 0) Try.underlying23 I3 rfl (by decide) (by decide) rfl rfl rfl rfl rfl ha460) (fun s w h => za3 [none, some 2, none, some 4, some 5] (by decide) w h rfl) (cur2 (fun A461 c462 => ?_))
          refine za7 8 rfl rfl rfl (by kernel_rfl) (fun _ _ _ h => h) (q_f F25_2 rfl) ?_
          refine a_one 9 rfl rfl (by kernel_rfl) rfl (zad (i := 3) rfl rfl rfl rfl Z23 rfl rfl) (fun s w h => za3 [none, some 2, none, some 4, some 5] (by decide) w h rfl) (fun _ => ?_)
          refine zan (by kernel_rfl) ?_
          refine zas ?_
          refine za1 ?_
          refine za0 ?_
          refine o_q rfl rfl (q_up rfl rfl (hr30.up hm31)) ?_
          refine o_q rfl rfl (za2 rfl) ?_
          refine o_end ?_
          refine zar ys28.length (ys28, l459, i26 + 1, A461, c462) (by rw [← hk36]; exact Nat.lt_succ_self _) ⟨hr30.step, rfl, h⟩ ⟨rfl, trivial⟩ (fun w h => za6 [1, 2, 3, 4, 5] (by decide) rfl w h) ?_
          repeat (first | exact za9 _ _ | refine zae rfl ?_ | refine zaa rfl ?_ | refine zaf rfl ?_)
  · skip
    clear hl18
    have hr15 := hJ_.1; have hk21 := hJ_.2.1; have h := hJ_.2.2; clear hJ_
    replace h : spec_plKeep.l0 a0_0 l0_1 l0_2 l1 (y12 :: ys13) l8 i11 = some o19 := h
    rw [spec_plKeep.l0] at h
    refine c_seq ?_
    refine za0 ?_
    refine o_q rfl rfl (q_lss rfl rfl) ?_
    refine o_end ?_
    refine za1 ?_
    refine c_seq ?_
    refine c_true (congrArg Value.bool hr15.lt) ?_
    refine zat ?_
    refine za1 ?_
    refine c_seq ?_
    refine zaq ?_
    refine c_seq ?_
    refine za0 ?_
    refine zb4 (p := Sh A1 l1.length l1.length) (fun w h => f_sh (dk := (Kd.int .i64)) h (fun w h => R1.now Z h)) (fun hq699 => ?_)
    refine o_q rfl rfl (q_ix Try.underlying23 Z3 rfl rfl hq699 hr15.get) ?_
    refine o_q rfl rfl (q_lde (off := 0) Y3 rfl rfl (fun w h => R1.now Z h) hr15.get (fun _ _ h => h) rfl) ?_
    refine o_q rfl rfl (q_asg rfl) ?_
    refine o_end ?_
    refine za1 ?_
    refine c_seq ?_
    refine za0 ?_
    refine o_q rfl rfl (q_f F25_1 rfl) ?_
    refine o_q rfl rfl (q_ldb Y22 rfl (fun w h => h.zaj (i := 3) rfl) rfl) ?_
    refine o_q rfl rfl (za2 rfl) ?_
    refine zb4 (p := Sh A0_1 l0_1.length l0_1.length) (fun w h => f_sh (dk := kStep) h (fun w h => R0_1.now Z h)) (fun hq700 => ?_)
    refine zab h (fun y702 hg701 h => ?_) rfl
    refine o_q rfl rfl (q_ix Try.underlying22 Z107 rfl rfl hq700 hg701) ?_
    refine o_q rfl rfl (q_ldE G107 Z107 rfl rfl (fun w h => R0_1.now Z h) hg701 (fun _ _ h => h) rfl) ?_
    refine o_e rfl (zam V107 rfl) (fun g703 => ?_)
    refine o_e rfl (zav (i := 0) rfl rfl rfl Z107 rfl rfl) (fun _ => ?_)
    refine o_end ?_
    refine za1 ?_
    refine zab h (fun i1067 hx1066 h => ?_) rfl
    refine zab h (fun i1367 hx1366 h => ?_) rfl
    refine zab h (fun z1427 hx1426 h => ?_) rfl
    refine zab h (fun l1546 ha1547 h => ?_) rfl
    refine a_startS (ds := []) [some 0, none, none, some 3, some 4] MO rfl ?_
    refine za7 0 rfl rfl rfl (by kernel_rfl) (fun _ _ _ h => h) (q_f F25_1 rfl) ?_
    refine zb2 2 rfl rfl rfl (by kernel_rfl) (fun _ _ _ h => h) (fun w h => za3 [some 0, none, none, some 3, some 4] (by decide) w h rfl) (q_ldB G25 Z25 rfl (fun w h => h.zaj (i := 4) rfl) rfl) ?_
    refine za7 3 rfl rfl rfl (by kernel_rfl) (fun _ _ _ h => h) (za2 rfl) ?_
    refine za7 4 rfl rfl rfl (by kernel_rfl) (fun _ _ _ h => h) (q_f F107_0 rfl) ?_
    refine zb2 5 rfl rfl rfl (by kernel_rfl) (fun _ _ _ h => h) (fun w h => za3 [some 0, none, none, some 3, some 4] (by decide) w h rfl) (q_ldb Y3 rfl (fun w h => h.zaj (i := 0) rfl) rfl) ?_
    refine zb2 7 rfl rfl rfl (by kernel_rfl) (fun _ _ _ h => h) (fun w h => za3 [some 0, none, none, some 3, some 4] (by decide) w h rfl) (q_ldB G25 Z25 rfl (fun w h => h.zaj (i := 4) rfl) rfl) ?_
    refine za7 8 rfl rfl rfl (by kernel_rfl) (fun _ _ _ h => h) (za2 rfl) ?_
    refine za7 9 rfl rfl rfl (by kernel_rfl) (fun _ _ _ h => h) (q_f F107_1 rfl) ?_
    refine zb2 10 rfl rfl rfl (by kernel_rfl) (fun _ _ _ h => h) (fun w h => za3 [some 0, none, none, some 3, some 4] (by decide) w h rfl) (q_ldb Y3 rfl (fun w h => h.zaj (i := 0) rfl) rfl) ?_
    refine a_two 1 6 rfl rfl rfl rfl (by kernel_rfl) rfl rfl (ev_q rfl (q_ldb Y22 rfl (fun w h => h.zaj (i := 2) rfl) rfl)) (fun s w h => za3 [some 0, none, none, some 3, some 4] (by decide) w h rfl) (za8 0 Z Try.func160 N160 rfl rfl rfl (fun w P1 hF hB hS hT => spec_plNumber.calls a0_0 A0_1 c0_1 l0_1.length l0_1 A0_2 c0_2 l0_2.length l0_2 A1 c1 l1.length l1 y702.f0 hB hF (hS _ R0_1) hc0_1 (hS _ R0_2) hc0_2 (hS _ R1) hc1 _ hx1066)) (fun s w h => za3 [some 0, none, none, some 3, some 4] (by decide) w h rfl) (fun _ => ?_) (fun _ => ?_)
    · skip
      refine a_one 6 rfl rfl (by kernel_rfl) rfl (za8 0 Z Try.func160 N160 rfl rfl rfl (fun w P1 hF hB hS hT => spec_plNumber.calls a0_0 A0_1 c0_1 l0_1.length l0_1 A0_2 c0_2 l0_2.length l0_2 A1 c1 l1.length l1 y702.f0 hB hF (hS _ R0_1) hc0_1 (hS _ R0_2) hc0_2 (hS _ R1) hc1 _ hx1066)) (fun s w h => za3 [some 0, none, none, some 3, some 4] (by decide) w h rfl) (fun _ => ?_)
      refine a_one 11 rfl rfl (by kernel_rfl) rfl (za8 0 Z Try.func160 N160 rfl rfl rfl (fun w P1 hF hB hS hT => spec_plNumber.calls a0_0 A0_1 c0_1 l0_1.length l0_1 A0_2 c0_2 l0_2.length l0_2 A1 c1 l1.length l1 y702.f1 hB hF (hS _ R0_1) hc0_1 (hS _ R0_2) hc0_2 (hS _ R1) hc1 _ hx1366)) (fun s w h => za3 [some 0, none, none, some 3, some 4] (by decide) w h rfl) (fun _ => ?_)
      refine a_one 12 rfl rfl (by kernel_rfl) rfl (za8 0 Z Try.func146 N146 rfl rfl rfl (fun w P1 hF hB hS hT => spec_plStep.calls i1067 i1367 hB hF _ hx1426)) (fun s w h => za3 [some 0, none, none, some 3, some 4] (by decide) w h rfl) (fun _ => ?_)
      refine a_one 13 rfl rfl (by kernel_rfl) rfl (e_lit (vs := [(0, .agg #[.int .i64 z1427.f0, .int .i64 z1427.f1])]) (cs := [.int .i64 z1427.f0, .int .i64 z1427.f1]) kStep ([z1427] : List SStep) Try.underlying22 I107 (by decide) rfl (by decide) rfl rfl (fun _ _ => reps_flat _)) (fun s w h => za3 [some 1, none, none, some 4, some 5] (by decide) w h rfl) (cur2 (fun A1486 c1487 => ?_))
      refine a_one 14 rfl rfl (by kernel_rfl) rfl (e_app (i := 2) (j := 0) Try.underlying22 I107 rfl (by decide) (by decide) rfl rfl rfl rfl rfl ha1547) (fun s w h => za3 [some 1, none, none, some 4, some 5] (by decide) w h rfl) (cur2 (fun A1548 c1549 => ?_))
      refine za7 15 rfl rfl rfl (by kernel_rfl) (fun _ _ _ h => h) (q_f F25_1 rfl) ?_
      refine a_one 16 rfl rfl (by kernel_rfl) rfl (zad (i := 3) rfl rfl rfl rfl Z22 rfl rfl) (fun s w h => za3 [some 1, none, none, some 4, some 5] (by decide) w h rfl) (fun _ => ?_)
      refine zan (by kernel_rfl) ?_
      refine zas ?_
      refine za1 ?_
      refine za0 ?_
      refine o_q rfl rfl (q_up rfl rfl (hr15.up hm16)) ?_
      refine o_q rfl rfl (za2 rfl) ?_
      refine o_end ?_
      refine zar ys13.length (ys13, l1546, i11 + 1, A1548, c1549) (by rw [← hk21]; exact Nat.lt_succ_self _) ⟨hr15.step, rfl, h⟩ ⟨rfl, trivial⟩ (fun w h => za6 [2, 3, 4, 5] (by decide) rfl w h) ?_
      repeat (first | exact za9 _ _ | refine zae rfl ?_ | refine zaa rfl ?_ | refine zaf rfl ?_)
    · skip
      refine a_two 1 11 rfl rfl rfl rfl (by kernel_rfl) rfl rfl (ev_q rfl (q_ldb Y22 rfl (fun w h => h.zaj (i := 2) rfl) rfl)) (fun s w h => za3 [some 0, none, none, some 3, some 4] (by decide) w h rfl) (za8 0 Z Try.func160 N160 rfl rfl rfl (fun w P1 hF hB hS hT => spec_plNumber.calls a0_0 A0_1 c0_1 l0_1.length l0_1 A0_2 c0_2 l0_2.length l0_2 A1 c1 l1.length l1 y702.f1 hB hF (hS _ R0_1) hc0_1 (hS _ R0_2) hc0_2 (hS _ R1) hc1 _ hx1366)) (fun s w h => za3 [some 0, none, none, some 3, some 4] (by decide) w h rfl) (fun _ => ?_) (fun _ => ?_)
      · skip
        refine a_one 11 rfl rfl (by kernel_rfl) rfl (za8 0 Z Try.func160 N160 rfl rfl rfl (fun w P1 hF hB hS hT => spec_plNumber.calls a0_0 A0_1 c0_1 l0_1.length l0_1 A0_2 c0_2 l0_2.length l0_2 A1 c1 l1.length l1 y702.f1 hB hF (hS _ R0_1) hc0_1 (hS _ R0_2) hc0_2 (hS _ R1) hc1 _ hx1366)) (fun s w h => za3 [some 0, none, none, some 3, some 4] (by decide) w h rfl) (fun _ => ?_)
        refine a_one 12 rfl rfl (by kernel_rfl) rfl (za8 0 Z Try.func146 N146 rfl rfl rfl (fun w P1 hF hB hS hT => spec_plStep.calls i1067 i1367 hB hF _ hx1426)) (fun s w h => za3 [some 0, none, none, some 3, some 4] (by decide) w h rfl) (fun _ => ?_)
        refine a_one 13 rfl rfl (by kernel_rfl) rfl (e_lit (vs := [(0, .agg #[.int .i64 z1427.f0, .int .i64 z1427.f1])]) (cs := [.int .i64 z1427.f0, .int .i64 z1427.f1]) kStep ([z1427] : List SStep) Try.underlying22 I107 (by decide) rfl (by decide) rfl rfl (fun _ _ => reps_flat _)) (fun s w h => za3 [some 1, none, none, some 4, some 5] (by decide) w h rfl) (cur2 (fun A1486 c1487 => ?_))
        refine a_one 14 rfl rfl (by kernel_rfl) rfl (e_app (i := 2) (j := 0) Try.underlying22 I107 rfl (by decide) (by decide) rfl rfl rfl rfl rfl ha1547) (fun s w h => za3 [some 1, none, none, some 4, some 5] (by decide) w h rfl) (cur2 (fun A1548 c1549 => ?_))
        refine za7 15 rfl rfl rfl (by kernel_rfl) (fun _ _ _ h => h) (q_f F25_1 rfl) ?_
        refine a_one 16 rfl rfl (by kernel_rfl) rfl (zad (i := 3) rfl rfl rfl rfl Z22 rfl rfl) (fun s w h => za3 [some 1, none, none, some 4, some 5] (by decide) w h rfl) (fun _ => ?_)
        refine zan (by kernel_rfl) ?_
        refine zas ?_
        refine za1 ?_
        refine za0 ?_
        refine o_q rfl rfl (q_up rfl rfl (hr15.up hm16)) ?_
        refine o_q rfl rfl (za2 rfl) ?_
        refine o_end ?_
        refine zar ys13.length (ys13, l1546, i11 + 1, A1548, c1549) (by rw [← hk21]; exact Nat.lt_succ_self _) ⟨hr15.step, rfl, h⟩ ⟨rfl, trivial⟩ (fun w h => za6 [2, 3, 4, 5] (by decide) rfl w h) ?_
        repeat (first | exact za9 _ _ | refine zae rfl ?_ | refine zaa rfl ?_ | refine zaf rfl ?_)
      · skip
        refine a_two 1 12 rfl rfl rfl rfl (by kernel_rfl) rfl rfl (ev_q rfl (q_ldb Y22 rfl (fun w h => h.zaj (i := 2) rfl) rfl)) (fun s w h => za3 [some 0, none, none, some 3, some 4] (by decide) w h rfl) (za8 0 Z Try.func146 N146 rfl rfl rfl (fun w P1 hF hB hS hT => spec_plStep.calls i1067 i1367 hB hF _ hx1426)) (fun s w h => za3 [some 0, none, none, some 3, some 4] (by decide) w h rfl) (fun _ => ?_) (fun _ => ?_)
        · skip
          refine a_one 12 rfl rfl (by kernel_rfl) rfl (za8 0 Z Try.func146 N146 rfl rfl rfl (fun w P1 hF hB hS hT => spec_plStep.calls i1067 i1367 hB hF _ hx1426)) (fun s w h => za3 [some 0, none, none, some 3, some 4] (by decide) w h rfl) (fun _ => ?_)
          refine a_one 13 rfl rfl (by kernel_rfl) rfl (e_lit (vs := [(0, .agg #[.int .i64 z1427.f0, .int .i64 z1427.f1])]) (cs := [.int .i64 z1427.f0, .int .i64 z1427.f1]) kStep ([z1427] : List SStep) Try.underlying22 I107 (by decide) rfl (by decide) rfl rfl (fun _ _ => reps_flat _)) (fun s w h => za3 [some 1, none, none, some 4, some 5] (by decide) w h rfl) (cur2 (fun A1486 c1487 => ?_))
          refine a_one 14 rfl rfl (by kernel_rfl) rfl (e_app (i := 2) (j := 0) Try.underlying22 I107 rfl (by decide) (by decide) rfl rfl rfl rfl rfl ha1547) (fun s w h => za3 [some 1, none, none, some 4, some 5] (by decide) w h rfl) (cur2 (fun A1548 c1549 => ?_))
          refine za7 15 rfl rfl rfl (by kernel_rfl) (fun _ _ _ h => h) (q_f F25_1 rfl) ?_
          refine a_one 16 rfl rfl (by kernel_rfl) rfl (zad (i := 3) rfl rfl rfl rfl Z22 rfl rfl) (fun s w h => za3 [some 1, none, none, some 4, some 5] (by decide) w h rfl) (fun _ => ?_)
          refine zan (by kernel_rfl) ?_
          refine zas ?_
          refine za1 ?_
          refine za0 ?_
          refine o_q rfl rfl (q_up rfl rfl (hr15.up hm16)) ?_
          refine o_q rfl rfl (za2 rfl) ?_
          refine o_end ?_
          refine zar ys13.length (ys13, l1546, i11 + 1, A1548, c1549) (by rw [← hk21]; exact Nat.lt_succ_self _) ⟨hr15.step, rfl, h⟩ ⟨rfl, trivial⟩ (fun w h => za6 [2, 3, 4, 5] (by decide) rfl w h) ?_
          repeat (first | exact za9 _ _ | refine zae rfl ?_ | refine zaa rfl ?_ | refine zaf rfl ?_)
        · skip
          refine a_two 1 13 rfl rfl rfl rfl (by kernel_rfl) rfl rfl (ev_q rfl (q_ldb Y22 rfl (fun w h => h.zaj (i := 2) rfl) rfl)) (fun s w h => za3 [some 0, none, none, some 3, some 4] (by decide) w h rfl) (e_lit (vs := [(0, .agg #[.int .i64 z1427.f0, .int .i64 z1427.f1])]) (cs := [.int .i64 z1427.f0, .int .i64 z1427.f1]) kStep ([z1427] : List SStep) Try.underlying22 I107 (by decide) rfl (by decide) rfl rfl (fun _ _ => reps_flat _)) (fun s w h => za3 [some 1, none, none, some 4, some 5] (by decide) w h rfl) (fun _ => ?_) (cur2 (fun A1486 c1487 => ?_))
          · skip
            refine a_one 13 rfl rfl (by kernel_rfl) rfl (e_lit (vs := [(0, .agg #[.int .i64 z1427.f0, .int .i64 z1427.f1])]) (cs := [.int .i64 z1427.f0, .int .i64 z1427.f1]) kStep ([z1427] : List SStep) Try.underlying22 I107 (by decide) rfl (by decide) rfl rfl (fun _ _ => reps_flat _)) (fun s w h => za3 [some 1, none, none, some 4, some 5] (by decide) w h rfl) (cur2 (fun A1486 c1487 => ?_))
            refine a_one 14 rfl rfl (by kernel_rfl) rfl (e_app (i := 2) (j := 0) Try.underlying22 I107 rfl (by decide) (by decide) rfl rfl rfl rfl rfl ha1547) (fun s w h => za3 [some 1, none, none, some 4, some 5] (by decide) w h rfl) (cur2 (fun A1548 c1549 => ?_))
            refine za7 15 rfl rfl rfl (by kernel_rfl) (fun _ _ _ h => h) (q_f F25_1 rfl) ?_
            refine a_one 16 rfl rfl (by kernel_rfl) rfl (zad (i := 3) rfl rfl rfl rfl Z22 rfl rfl) (fun s w h => za3 [some 1, none, none, some 4, some 5] (by decide) w h rfl) (fun _ => ?_)
            refine zan (by kernel_rfl) ?_
            refine zas ?_
            refine za1 ?_
            refine za0 ?_
            refine o_q rfl rfl (q_up rfl rfl (hr15.up hm16)) ?_
            refine o_q rfl rfl (za2 rfl) ?_
            refine o_end ?_
            refine zar ys13.length (ys13, l1546, i11 + 1, A1548, c1549) (by rw [← hk21]; exact Nat.lt_succ_self _) ⟨hr15.step, rfl, h⟩ ⟨rfl, trivial⟩ (fun w h => za6 [2, 3, 4, 5] (by decide) rfl w h) ?_
            repeat (first | exact za9 _ _ | refine zae rfl ?_ | refine zaa rfl ?_ | refine zaf rfl ?_)
          · skip
            refine a_one 1 rfl rfl (by kernel_rfl) rfl (ev_q rfl (q_ldb Y22 rfl (fun w h => h.zaj (i := 3) rfl) rfl)) (fun s w h => za3 [some 1, none, none, some 4, some 5] (by decide) w h rfl) (fun _ => ?_)
            refine a_one 14 rfl rfl (by kernel_rfl) rfl (e_app (i := 2) (j := 0) Try.underlying22 I107 rfl (by decide) (by decide) rfl rfl rfl rfl rfl ha1547) (fun s w h => za3 [some 1, none, none, some 4, some 5] (by decide) w h rfl) (cur2 (fun A1548 c1549 => ?_))
            refine za7 15 rfl rfl rfl (by kernel_rfl) (fun _ _ _ h => h) (q_f F25_1 rfl) ?_
            refine a_one 16 rfl rfl (by kernel_rfl) rfl (zad (i := 3) rfl rfl rfl rfl Z22 rfl rfl) (fun s w h => za3 [some 1, none, none, some 4, some 5] (by decide) w h rfl) (fun _ => ?_)
            refine zan (by kernel_rfl) ?_
            refine zas ?_
            refine za1 ?_
            refine za0 ?_
            refine o_q rfl rfl (q_up rfl rfl (hr15.up hm16)) ?_
            refine o_q rfl rfl (za2 rfl) ?_
            refine o_end ?_
            refine zar ys13.length (ys13, l1546, i11 + 1, A1548, c1549) (by rw [← hk21]; exact Nat.lt_succ_self _) ⟨hr15.step, rfl, h⟩ ⟨rfl, trivial⟩ (fun w h => za6 [2, 3, 4, 5] (by decide) rfl w h) ?_
            repeat (first | exact za9 _ _ | refine zae rfl ?_ | refine zaa rfl ?_ | refine zaf rfl ?_)

/-! ### loop.example/g01098/spec.meTrim: function 111 -/
def spec_meTrim.f (k : Nat) (a0_0 : Int) (l0_1 : List SStep) (l0_2 : List Int) : Option ((List SStep) × (List Int)) := (spec_plUsed.f k a0_0 l0_1 l0_2).bind fun l6 => (spec_plKeep.f a0_0 l0_1 l0_2 l6).bind fun (l10, l11) => some (l10, l11)
set_option maxHeartbeats 600000 in
set_option maxRecDepth 100000 in
theorem spec_meTrim.calls (k : Nat) {w0 ws : World} {P0 : Nat → Prop} (a0_0 : Int) (A0_1 : Option Addr) (c0_1 : Nat) (n0_1 : Nat) (l0_1 : List SStep) (A0_2 : Option Addr) (c0_2 : Nat) (n0_2 : Nat) (l0_2 : List Int) (Z : Below w0.heap.size w0 ws) (hF : Fr w0 ws P0 [] ws) (R0_1 : Stable ws P0 (fun w => Kd.C kStep w A0_1 n0_1 l0_1)) (hc0_1 : n0_1 ≤ c0_1) (R0_2 : Stable ws P0 (fun w => Kd.C (Kd.int .i64) w A0_2 n0_2 l0_2)) (hc0_2 : n0_2 ≤ c0_2) (r_1 : List SStep) (r_4 : List Int) (h : spec_meTrim.f k a0_0 l0_1 l0_2 = some (r_1, r_4)) :
    Calls Try.prog 111 #[.agg #[.int .i64 a0_0, .slice A0_1 n0_1 c0_1, .slice A0_2 n0_2 c0_2]] ws (Post1 w0 ws P0 (fun ((q_2, q_3, q_5, q_6) : (Option Addr) × Nat × (Option Addr) × Nat) => .agg #[.int .i64 a0_0, .slice q_2 r_1.length q_3, .slice q_5 r_4.length q_6]) (fun ((q_2, q_3, q_5, q_6) : (Option Addr) × Nat × (Option Addr) × Nat) => [row kStep 107 (.slice q_2 r_1.length q_3) r_1, row (Kd.int .i64) 3 (.slice q_5 r_4.length q_6) r_4])) := by
  unfold spec_meTrim.f at h
  obtain rfl := (R0_1 ws (KeptB.refl _ _)).1
  obtain rfl := (R0_2 ws (KeptB.refl _ _)).1
  refine enter Try.func111 rfl Try.ntmps111 rfl hF ?_
  refine c_seq ?_
  refine za0 ?_
  refine o_e rfl (e_box rfl) (fun g1 => ?_)
  refine o_e rfl (zam V25 rfl) (fun g3 => ?_)
  refine o_end ?_
  refine za1 ?_
  refine c_seq ?_
  refine a_startS (ds := []) [none, some 1] MO rfl ?_
  refine zb2 0 rfl rfl rfl (by kernel_rfl) (fun _ _ _ h => h) (fun w h => za3 [none, some 1] (by decide) w h rfl) (q_ldB G25 Z25 rfl (fun w h => h.zaj (i := 1) rfl) rfl) ?_
  refine zb2 1 rfl rfl rfl (by kernel_rfl) (fun _ _ _ h => h) (fun w h => za3 [none, some 1] (by decide) w h rfl) (q_ldB G25 Z25 rfl (fun w h => h.zaj (i := 1) rfl) rfl) ?_
  refine zab h (fun l6 hx5 h => ?_) rfl
  refine a_one 2 rfl rfl (by kernel_rfl) rfl (za8 0 Z Try.func148 N148 rfl rfl rfl (fun w P1 hF hB hS hT => spec_plUsed.calls k a0_0 A0_1 c0_1 l0_1.length l0_1 A0_2 c0_2 l0_2.length l0_2 hB hF (hS _ R0_1) hc0_1 (hS _ R0_2) hc0_2 _ hx5)) (fun s w h => za3 [none, some 2] (by decide) w h rfl) (cur2 (fun A7 c8 => ?_))
  refine bindE2 h (fun l10 l11 hx9 h => ?_) rfl
  refine a_one 3 rfl rfl (by kernel_rfl) rfl (za8 0 Z Try.func147 N147 rfl rfl rfl (fun w P1 hF hB hS hT => spec_plKeep.calls a0_0 A0_1 c0_1 l0_1.length l0_1 A0_2 c0_2 l0_2.length l0_2 A7 c8 l6.length l6 hB hF (hS _ R0_1) hc0_1 (hS _ R0_2) hc0_2 (hT 0 _ rfl).row (hT 0 _ rfl).cap _ _ hx9)) (fun s w h => za3 [none, some 4] (by decide) w h rfl) (cur4 (fun A12 c13 A14 c15 => ?_))
  refine a_one 4 rfl rfl (by kernel_rfl) rfl (zav (i := 3) rfl rfl rfl Z25 rfl rfl) (fun s w h => za3 [none, some 4] (by decide) w h rfl) (fun _ => ?_)
  refine zan (by kernel_rfl) ?_
  refine za1 ?_
  refine c_ret ?_
  have e0_ := Option.some.inj h; clear h
  have d0_ := (Prod.mk.inj e0_).1; have e1_ := (Prod.mk.inj e0_).2; clear e0_; subst d0_
  subst e1_
  exact x_r1 (A12, c13, A14, c15) Try.results111 (rv_cell rfl G25 Z25 (fun w h => h.zaj (i := 3) rfl) rfl) rfl (fun w h => za6 [0, 1] (by decide) rfl w h)

/-! ### loop.example/g01098/spec.meSliding: function 66 -/
def spec_meSliding.l0 (l4 : List Int) : Nat → (List SStep) → (List Int) → Int → Int → Option ((List SStep) × (List Int))
  | 0, _, _, _, _ => none
  | k73 + 1, l63, l66, i69, i70 => (spec_meGreatest.f l4).bind fun i82 => if i70 ≤ i82 then ((spec_meTimes.f 1 l63 l66 i69 1).bind fun l85 => spec_meSliding.l0 l4 k73 l85 [] (w64 (1 + (l63.length : Int))) (w64 (i70 + 2))) else (some (l63, l66))
def spec_meSliding.l2 (l5 : List Int) (i100 : Int) : Nat → (List SStep) → (List Int) → Int → Int → Option ((List SStep) × (List Int) × Int)
  | 0, _, _, _, _ => none
  | k123 + 1, l113, l116, i119, i120 => (gt l5 i100).bind fun y133 => if i119 < y133 then ((spec_meTimes.f 1 l113 l116 i120 i120).bind fun l136 => spec_meSliding.l2 l5 i100 k123 l136 [] (w64 (i119 + 1)) (w64 (1 + (l113.length : Int)))) else (some (l113, l116, i120))
def spec_meSliding.l1 (k : Nat) (l4 : List Int) (l5 : List Int) : Nat → (List SStep) → (List Int) → Int → Int → Option ((List SStep) × (List Int) × Int)
  | 0, _, _, _, _ => none
  | k104 + 1, l94, l97, i100, i101 => if i100 < (l4.length : Int) then ((spec_meSliding.l2 l5 i100 k l94 l97 0 i101).bind fun (l113, l116, i120) => (gt l4 i100).bind fun y141 => if 0 < y141 then ((gt l4 i100).bind fun y385 => (spec_meOdd.f y385).bind fun i505 => (spec_meTimes.f 1 l113 l116 i120 i505).bind fun l565 => spec_meSliding.l1 k l4 l5 k104 l565 [] (w64 (i100 + 1)) (w64 (1 + (l113.length : Int)))) else (spec_meSliding.l1 k l4 l5 k104 l113 l116 (w64 (i100 + 1)) i120)) else (some (l94, l97, i101))
def spec_meSliding.f (k : Nat) (a0 : Int) (a1 : Int) : Option ((List SStep) × (List Int)) := (spec_meSpans.f k a0 a1).bind fun (l4, l5) => ((spec_meGreatest.f l4).bind fun i57 => if 3 ≤ i57 then ((spec_meTimes.f 1 [] [] 0 0).bind fun l60 => (spec_meSliding.l0 l4 k l60 [] 0 3).bind fun (l63, l66) => some (l63, l66)) else (some (([] : List SStep), ([] : List Int)))).bind fun (l45, l48) => (gt l4 0).bind fun y91 => (spec_meOdd.f y91).bind fun i93 => (spec_meSliding.l1 k l4 l5 k l45 l48 1 i93).bind fun (l94, l97, i101) => (spec_meEnd.f 1 l94 l97 i101).bind fun _ => (spec_meTrim.f k 1 l94 ([i101] : List Int)).bind fun (l989, l990) => some (l989, l990)
set_option maxHeartbeats 600000 in
set_option maxRecDepth 100000 in
theorem spec_meSliding.calls (k : Nat) {w0 ws : World} {P0 : Nat → Prop} (a0 : Int) (a1 : Int) (Z : Below w0.heap.size w0 ws) (hF : Fr w0 ws P0 [] ws)  (r_1 : List SStep) (r_4 : List Int) (h : spec_meSliding.f k a0 a1 = some (r_1, r_4)) :
    Calls Try.prog 66 #[.int .i64 a0, .int .i64 a1] ws (Post1 w0 ws P0 (fun ((q_2, q_3, q_5, q_6) : (Option Addr) × Nat × (Option Addr) × Nat) => .agg #[.int .i64 1, .slice q_2 r_1.length q_3, .slice q_5 r_4.length q_6]) (fun ((q_2, q_3, q_5, q_6) : (Option Addr) × Nat × (Option Addr) × Nat) => [row kStep 107 (.slice q_2 r_1.length q_3) r_1, row (Kd.int .i64) 3 (.slice q_5 r_4.length q_6) r_4])) := by
  unfold spec_meSliding.f at h
  refine enter Try.func66 rfl Try.ntmps66 rfl hF ?_
  refine c_seq ?_
  refine za0 ?_
  refine o_e rfl (zam V25 rfl) (fun g1 => ?_)
  refine o_end ?_
  refine za1 ?_
  refine c_seq ?_
  refine za0 ?_
  refine o_q rfl rfl (za2 rfl) ?_
  refine o_q rfl rfl (za2 rfl) ?_
  refine bindE2 h (fun l4 l5 hx3 h => ?_) rfl
  refine o_e rfl (za8 0 Z Try.func73 N73 rfl rfl rfl (fun w P1 hF hB hS hT => spec_meSpans.calls k a0 a1 hB hF _ _ hx3)) (cur4 (fun A6 c7 A8 c9 => ?_))
  refine o_q rfl rfl (za2 rfl) ?_
  refine o_q rfl rfl (q_ext rfl rfl) ?_
  refine o_q rfl rfl (q_ext rfl rfl) ?_
  refine o_q rfl rfl (q_asg rfl) ?_
  refine o_q rfl rfl (q_asg rfl) ?_
  refine o_end ?_
  refine za1 ?_
  refine c_seq ?_
  refine za0 ?_
  refine o_q rfl rfl (q_build (vs := [(0, .int .i64 1)]) (cs := [.int .i64 1, .slice none 0 0, .slice none 0 0]) rfl rfl) ?_
  refine o_e rfl (zam V25 rfl) (fun g10 => ?_)
  refine o_e rfl (zav (i := 0) rfl rfl rfl Z25 rfl rfl) (fun _ => ?_)
  refine o_end ?_
  refine za1 ?_
  refine c_seq ?_
  refine za0 ?_
  refine o_q rfl rfl (q_asg rfl) ?_
  refine o_end ?_
  refine za1 ?_
  refine zab h (fun o51 hl52 hR53 => ?_) rfl
  clear h
  refine c_cutJ (σ := (List SStep) × (List Int) × (Option Addr) × Nat × (Option Addr) × Nat) (fun (l45, l48, A46, c47, A49, c50) => some (l45, l48) = some o51) [8, 9, 19, 20, 21, 22, 23, 24, 25, 26, 27, 28, 29, 30, 31, 32, 33, 34, 35, 36, 37, 38] (fun (l45, l48, A46, c47, A49, c50) => []) (fun (l45, l48, A46, c47, A49, c50) => [box g1 25 #[.int .i64 0, .slice none 0 0, .slice none 0 0], row (Kd.int .i64) 3 (.slice A6 l4.length c7) l4, row (Kd.int .i64) 3 (.slice A8 l5.length c9) l5, box g10 25 #[.int .i64 1, .slice A46 l45.length c47, .slice A49 l48.length c50], row kStep 107 (.slice A46 l45.length c47) l45, row (Kd.int .i64) 3 (.slice A49 l48.length c50) l48]) ?_ ?_
  · skip
    have h := hl52; clear hl52
    clear hR53
    refine c_seq ?_
    refine za0 ?_
    refine o_q rfl rfl (za2 rfl) ?_
    refine zab h (fun i57 hx56 h => ?_) rfl
    refine o_e rfl (za8 0 Z Try.func109 N109 rfl rfl rfl (fun w P1 hF hB hS hT => spec_meGreatest.calls A6 c7 l4.length l4 hB hF (hT 1 _ rfl).row (hT 1 _ rfl).cap _ hx56)) (fun _ => ?_)
    refine o_q rfl rfl (q_geq rfl rfl) ?_
    refine o_end ?_
    refine za1 ?_
    refine zb0 _ rfl (fun hb58 => ?_) (fun hb58 => ?_)
    · skip
      replace h := br_t hb58 h
      refine c_seq ?_
      refine za0 ?_
      refine o_q rfl rfl (q_ldB G25 Z25 rfl (fun w h => h.zaj (i := 0) rfl) rfl) ?_
      refine zab h (fun l60 hx59 h => ?_) rfl
      refine o_e rfl (za8 0 Z Try.func110 N110 rfl rfl rfl (fun w P1 hF hB hS hT => spec_meTimes.calls 1 none 0 0 [] none 0 0 [] 0 0 hB hF (stab_nil _) (Nat.le_refl 0) (stab_nil _) (Nat.le_refl 0) _ hx59)) (cur2 (fun A61 c62 => ?_))
      refine o_q rfl rfl (za2 rfl) ?_
      refine o_q rfl rfl (q_ext rfl rfl) ?_
      refine o_q rfl rfl (q_ext rfl rfl) ?_
      refine o_e rfl (zav (i := 2) rfl rfl rfl Z25 rfl rfl) (fun _ => ?_)
      refine o_q rfl rfl (q_asg rfl) ?_
      refine o_end ?_
      refine za1 ?_
      refine c_seq ?_
      refine za0 ?_
      refine o_q rfl rfl (q_asg rfl) ?_
      refine o_end ?_
      refine za1 ?_
      refine c_seq ?_
      refine za0 ?_
      refine o_q rfl rfl (q_asg rfl) ?_
      refine o_end ?_
      refine za1 ?_
      refine zaq ?_
      refine zab h (fun o78 hl77 hR76 => ?_) rfl
      clear h
      refine zb3 (σ := (List SStep) × (List Int) × Int × Int × (Option Addr) × Nat × (Option Addr) × Nat) (fun k73 ((l63, l66, i69, i70, A64, c65, A67, c68) : (List SStep) × (List Int) × Int × Int × (Option Addr) × Nat × (Option Addr) × Nat) => spec_meSliding.l0 l4 k73 l63 l66 i69 i70 = some o78) [8, 9, 27, 28, 29, 30, 31, 32, 33, 34, 35, 36, 37, 38] (fun ((l63, l66, i69, i70, A64, c65, A67, c68) : (List SStep) × (List Int) × Int × Int × (Option Addr) × Nat × (Option Addr) × Nat) => [(8, .int .i64 i69), (9, .int .i64 i70)]) (fun ((l63, l66, i69, i70, A64, c65, A67, c68) : (List SStep) × (List Int) × Int × Int × (Option Addr) × Nat × (Option Addr) × Nat) => [row kStep 107 (.slice A64 l63.length c65) l63, row (Kd.int .i64) 3 (.slice A67 l66.length c68) l66, box g10 25 #[.int .i64 1, .slice A64 l63.length c65, .slice A67 l66.length c68], row (Kd.int .i64) 3 (.slice A6 l4.length c7) l4, row (Kd.int .i64) 3 (.slice A8 l5.length c9) l5, box g1 25 #[.int .i64 0, .slice none 0 0, .slice none 0 0]]) k (l60, [], 0, 3, A61, c62, none, 0) hl77 ⟨rfl, rfl, trivial⟩ (fun w h => h) ?_
      refine natC (cur8 (fun l63 l66 i69 i70 A64 c65 A67 c68 => fun U79 hJ_ => ?_)) (fun k73 => (cur8 (fun l63 l66 i69 i70 A64 c65 A67 c68 => fun U79 hJ_ => ?_)))
      · skip
        replace hJ_ : spec_meSliding.l0 l4 0 l63 l66 i69 i70 = some o78 := hJ_
        rw [spec_meSliding.l0] at hJ_
        exact noneE hJ_
      · skip
        clear hl77
        have h := hJ_; clear hJ_
        replace h : spec_meSliding.l0 l4 (k73 + 1) l63 l66 i69 i70 = some o78 := h
        rw [spec_meSliding.l0] at h
        refine c_seq ?_
        refine c_seq ?_
        refine za0 ?_
        refine o_q rfl rfl (za2 rfl) ?_
        refine o_q rfl rfl (za2 rfl) ?_
        refine zab h (fun i82 hx81 h => ?_) rfl
        refine o_e rfl (za8 0 Z Try.func109 N109 rfl rfl rfl (fun w P1 hF hB hS hT => spec_meGreatest.calls A6 c7 l4.length l4 hB hF (hT 3 _ rfl).row (hT 3 _ rfl).cap _ hx81)) (fun _ => ?_)
        refine o_q rfl rfl (q_leq rfl rfl) ?_
        refine o_end ?_
        refine za1 ?_
        refine zb0 _ rfl (fun hb83 => ?_) (fun hb83 => ?_)
        · skip
          replace h := br_t hb83 h
          refine zat ?_
          refine za1 ?_
          refine c_seq ?_
          refine zaq ?_
          refine za0 ?_
          refine o_q rfl rfl (q_ldB G25 Z25 rfl (fun w h => h.zaj (i := 2) rfl) rfl) ?_
          refine o_q rfl rfl (za2 rfl) ?_
          refine zab h (fun l85 hx84 h => ?_) rfl
          refine o_e rfl (za8 0 Z Try.func110 N110 rfl rfl rfl (fun w P1 hF hB hS hT => spec_meTimes.calls 1 A64 c65 l63.length l63 A67 c68 l66.length l66 i69 1 hB hF (hT 0 _ rfl).row (hT 0 _ rfl).cap (hT 1 _ rfl).row (hT 1 _ rfl).cap _ hx84)) (cur2 (fun A86 c87 => ?_))
          refine o_q rfl rfl (za2 rfl) ?_
          refine o_q rfl rfl (q_ext rfl rfl) ?_
          refine o_q rfl rfl (q_ext rfl rfl) ?_
          refine o_e rfl (zav (i := 4) rfl rfl rfl Z25 rfl rfl) (fun _ => ?_)
          refine o_q rfl rfl (q_asg rfl) ?_
          refine o_end ?_
          refine zas ?_
          refine za1 ?_
          refine za0 ?_
          refine o_q rfl rfl (za2 rfl) ?_
          refine o_q rfl rfl (zb7 rfl rfl) ?_
          refine o_q rfl rfl (q_asg rfl) ?_
          refine o_end ?_
          refine x_fact (p := 0 = [].length) (fun w h => (h.row_C (i := 1) rfl).2.1) (fun hn88 => ?_)
          refine zar k73 (l85, [], w64 (1 + (l63.length : Int)), w64 (i70 + 2), A86, c87, none, 0) (Nat.lt_succ_self _) h ⟨rfl, rfl, trivial⟩ (f_pickE (L1 := [row kStep 107 (.slice A86 l85.length c87) l85, row (Kd.int .i64) 3 (.slice none 0 0) [], row kStep 107 (.slice A64 l63.length c65) l63, row (Kd.int .i64) 3 (.slice A67 l66.length c68) l66, box g10 25 #[.int .i64 1, .slice A86 l85.length c87, .slice none 0 0], row (Kd.int .i64) 3 (.slice A6 l4.length c7) l4, row (Kd.int .i64) 3 (.slice A8 l5.length c9) l5, box g1 25 #[.int .i64 0, .slice none 0 0, .slice none 0 0]]) rfl [0, 1, 4, 5, 6, 7] (by decide) rfl (by (try rw [hn88]); first | done | rfl)) ?_
          repeat (first | exact za9 _ _ | refine zae rfl ?_ | refine zaa rfl ?_ | refine zaf rfl ?_)
        · skip
          replace h := br_f hb83 h
          refine c_exit ?_
          refine zac ?_
          refine zac ?_
          have e_ := Option.some.inj h; replace h := hR76; rw [← e_] at h; clear e_
          refine x_hit ?_
          refine zao (l63, l66, A64, c65, A67, c68) h trivial (fun w h => za6 [5, 3, 4, 2, 0, 1] (by decide) rfl w h) ?_
          repeat (first | exact za9 _ _ | refine zae rfl ?_ | refine zaa rfl ?_ | refine zaf rfl ?_)
    · skip
      replace h := br_f hb58 h
      refine zat ?_
      refine x_nil kStep 107 ?_
      refine x_nil (Kd.int .i64) 3 ?_
      refine zao (([] : List SStep), ([] : List Int), none, 0, none, 0) h trivial (fun w h => za6 [5, 3, 4, 2, 1, 0] (by decide) rfl w h) ?_
      repeat (first | exact za9 _ _ | refine zae rfl ?_ | refine zaa rfl ?_ | refine zaf rfl ?_)
  · skip
    refine (cur6 (fun l45 l48 A46 c47 A49 c50 => fun U54 hJ55 => ?_))
    have e_ := Option.some.inj hJ55; have h := hR53; rw [← e_] at h; clear e_ hJ55 hR53 hl52
    refine c_seq ?_
    refine za0 ?_
    refine o_q rfl rfl (za2 rfl) ?_
    refine zb4 (p := Sh A6 l4.length l4.length) (fun w h => f_sh (dk := (Kd.int .i64)) h (fun w h => h.zaw (i := 1) rfl)) (fun hq89 => ?_)
    refine zab h (fun y91 hg90 h => ?_) rfl
    refine o_q rfl rfl (q_ix Try.underlying23 Z3 rfl rfl hq89 hg90) ?_
    refine o_q rfl rfl (q_lde (off := 0) Y3 rfl rfl (fun w h => h.zaw (i := 1) rfl) hg90 (fun _ _ h => h) rfl) ?_
    refine zab h (fun i93 hx92 h => ?_) rfl
    refine o_e rfl (za8 0 Z Try.func120 N120 rfl rfl rfl (fun w P1 hF hB hS hT => spec_meOdd.calls y91 hB hF _ hx92)) (fun _ => ?_)
    refine o_q rfl rfl (q_asg rfl) ?_
    refine o_end ?_
    refine za1 ?_
    refine c_seq ?_
    refine c_seq ?_
    refine za0 ?_
    refine o_q rfl rfl (q_asg rfl) ?_
    refine o_end ?_
    refine za1 ?_
    refine zaq ?_
    refine zab h (fun o109 hl108 hR107 => ?_) rfl
    clear h
    refine zb3 (σ := (List SStep) × (List Int) × Int × Int × (Option Addr) × Nat × (Option Addr) × Nat) (fun k104 ((l94, l97, i100, i101, A95, c96, A98, c99) : (List SStep) × (List Int) × Int × Int × (Option Addr) × Nat × (Option Addr) × Nat) => spec_meSliding.l1 k l4 l5 k104 l94 l97 i100 i101 = some o109) [8, 10, 11, 43, 44, 45, 46, 47, 48, 49, 50, 51, 52, 53, 54, 55, 56, 57, 58, 59, 60, 61, 62, 63, 64, 65, 66, 67, 68, 69, 70, 71, 72, 73, 74, 75, 76, 77, 78, 79] (fun ((l94, l97, i100, i101, A95, c96, A98, c99) : (List SStep) × (List Int) × Int × Int × (Option Addr) × Nat × (Option Addr) × Nat) => [(8, .int .i64 i101), (10, .int .i64 i100)]) (fun ((l94, l97, i100, i101, A95, c96, A98, c99) : (List SStep) × (List Int) × Int × Int × (Option Addr) × Nat × (Option Addr) × Nat) => [box g1 25 #[.int .i64 0, .slice none 0 0, .slice none 0 0], row (Kd.int .i64) 3 (.slice A6 l4.length c7) l4, row (Kd.int .i64) 3 (.slice A8 l5.length c9) l5, box g10 25 #[.int .i64 1, .slice A95 l94.length c96, .slice A98 l97.length c99], row kStep 107 (.slice A95 l94.length c96) l94, row (Kd.int .i64) 3 (.slice A98 l97.length c99) l97]) k (l45, l48, 1, i93, A46, c47, A49, c50) hl108 ⟨rfl, rfl, trivial⟩ (fun w h => h) ?_
    refine natC (cur8 (fun l94 l97 i100 i101 A95 c96 A98 c99 => fun U110 hJ_ => ?_)) (fun k104 => (cur8 (fun l94 l97 i100 i101 A95 c96 A98 c99 => fun U110 hJ_ => ?_)))
    · skip
      replace hJ_ : spec_meSliding.l1 k l4 l5 0 l94 l97 i100 i101 = some o109 := hJ_
      rw [spec_meSliding.l1] at hJ_
      exact noneE hJ_
    · skip
      clear hl108
      have h := hJ_; clear hJ_
      replace h : spec_meSliding.l1 k l4 l5 (k104 + 1) l94 l97 i100 i101 = some o109 := h
      rw [spec_meSliding.l1] at h
      refine c_seq ?_
      refine c_seq ?_
      refine za0 ?_
      refine o_q rfl rfl (za2 rfl) ?_
      refine o_q rfl rfl (za2 rfl) ?_
      refine o_q rfl rfl (q_len Try.underlying23 rfl) ?_
      refine o_q rfl rfl (q_lss rfl rfl) ?_
      refine o_end ?_
      refine za1 ?_
      refine zb0 _ rfl (fun hb112 => ?_) (fun hb112 => ?_)
      · skip
        replace h := br_t hb112 h
        refine zat ?_
        refine za1 ?_
        refine c_seq ?_
        refine zaq ?_
        refine c_seq ?_
        refine c_seq ?_
        refine za0 ?_
        refine o_q rfl rfl (q_asg rfl) ?_
        refine o_end ?_
        refine za1 ?_
        refine zaq ?_
        refine zab h (fun o128 hl127 hR126 => ?_) rfl
        clear h
        refine zb3 (σ := (List SStep) × (List Int) × Int × Int × (Option Addr) × Nat × (Option Addr) × Nat) (fun k123 ((l113, l116, i119, i120, A114, c115, A117, c118) : (List SStep) × (List Int) × Int × Int × (Option Addr) × Nat × (Option Addr) × Nat) => spec_meSliding.l2 l5 i100 k123 l113 l116 i119 i120 = some o128) [8, 11, 49, 50, 51, 52, 53, 54, 55, 56, 57, 58, 59, 60, 61, 62, 63] (fun ((l113, l116, i119, i120, A114, c115, A117, c118) : (List SStep) × (List Int) × Int × Int × (Option Addr) × Nat × (Option Addr) × Nat) => [(8, .int .i64 i120), (11, .int .i64 i119)]) (fun ((l113, l116, i119, i120, A114, c115, A117, c118) : (List SStep) × (List Int) × Int × Int × (Option Addr) × Nat × (Option Addr) × Nat) => [box g1 25 #[.int .i64 0, .slice none 0 0, .slice none 0 0], row (Kd.int .i64) 3 (.slice A6 l4.length c7) l4, row (Kd.int .i64) 3 (.slice A8 l5.length c9) l5, box g10 25 #[.int .i64 1, .slice A114 l113.length c115, .slice A117 l116.length c118], row kStep 107 (.slice A114 l113.length c115) l113, row (Kd.int .i64) 3 (.slice A117 l116.length c118) l116]) k (l94, l97, 0, i101, A95, c96, A98, c99) hl127 ⟨rfl, rfl, trivial⟩ (fun w h => h) ?_
        refine natC (cur8 (fun l113 l116 i119 i120 A114 c115 A117 c118 => fun U129 hJ_ => ?_)) (fun k123 => (cur8 (fun l113 l116 i119 i120 A114 c115 A117 c118 => fun U129 hJ_ => ?_)))
        · skip
          replace hJ_ : spec_meSliding.l2 l5 i100 0 l113 l116 i119 i120 = some o128 := hJ_
          rw [spec_meSliding.l2] at hJ_
          exact noneE hJ_
        · skip
          clear hl127
          have h := hJ_; clear hJ_
          replace h : spec_meSliding.l2 l5 i100 (k123 + 1) l113 l116 i119 i120 = some o128 := h
          rw [spec_meSliding.l2] at h
          refine c_seq ?_
          refine c_seq ?_
          refine za0 ?_
          refine o_q rfl rfl (za2 rfl) ?_
          refine o_q rfl rfl (za2 rfl) ?_
          refine o_q rfl rfl (za2 rfl) ?_
          refine zb4 (p := Sh A8 l5.length l5.length) (fun w h => f_sh (dk := (Kd.int .i64)) h (fun w h => h.zaw (i := 2) rfl)) (fun hq131 => ?_)
          refine zab h (fun y133 hg132 h => ?_) rfl
          refine o_q rfl rfl (q_ix Try.underlying23 Z3 rfl rfl hq131 hg132) ?_
          refine o_q rfl rfl (q_lde (off := 0) Y3 rfl rfl (fun w h => h.zaw (i := 2) rfl) hg132 (fun _ _ h => h) rfl) ?_
          refine o_q rfl rfl (q_lss rfl rfl) ?_
          refine o_end ?_
          refine za1 ?_
          refine zb0 _ rfl (fun hb134 => ?_) (fun hb134 => ?_)
          · skip
            replace h := br_t hb134 h
            refine zat ?_
            refine za1 ?_
            refine c_seq ?_
            refine zaq ?_
            refine za0 ?_
            refine o_q rfl rfl (q_ldB G25 Z25 rfl (fun w h => h.zaj (i := 3) rfl) rfl) ?_
            refine o_q rfl rfl (za2 rfl) ?_
            refine o_q rfl rfl (za2 rfl) ?_
            refine zab h (fun l136 hx135 h => ?_) rfl
            refine o_e rfl (za8 0 Z Try.func110 N110 rfl rfl rfl (fun w P1 hF hB hS hT => spec_meTimes.calls 1 A114 c115 l113.length l113 A117 c118 l116.length l116 i120 i120 hB hF (hT 4 _ rfl).row (hT 4 _ rfl).cap (hT 5 _ rfl).row (hT 5 _ rfl).cap _ hx135)) (cur2 (fun A137 c138 => ?_))
            refine o_q rfl rfl (za2 rfl) ?_
            refine o_q rfl rfl (q_ext rfl rfl) ?_
            refine o_q rfl rfl (q_ext rfl rfl) ?_
            refine o_e rfl (zav (i := 5) rfl rfl rfl Z25 rfl rfl) (fun _ => ?_)
            refine o_q rfl rfl (q_asg rfl) ?_
            refine o_end ?_
            refine zas ?_
            refine za1 ?_
            refine za0 ?_
            refine o_q rfl rfl (za2 rfl) ?_
            refine o_q rfl rfl (zb7 rfl rfl) ?_
            refine o_q rfl rfl (q_asg rfl) ?_
            refine o_end ?_
            refine x_fact (p := 0 = [].length) (fun w h => (h.row_C (i := 1) rfl).2.1) (fun hn139 => ?_)
            refine zar k123 (l136, [], w64 (i119 + 1), w64 (1 + (l113.length : Int)), A137, c138, none, 0) (Nat.lt_succ_self _) h ⟨rfl, rfl, trivial⟩ (f_pickE (L1 := [row kStep 107 (.slice A137 l136.length c138) l136, row (Kd.int .i64) 3 (.slice none 0 0) [], box g1 25 #[.int .i64 0, .slice none 0 0, .slice none 0 0], row (Kd.int .i64) 3 (.slice A6 l4.length c7) l4, row (Kd.int .i64) 3 (.slice A8 l5.length c9) l5, box g10 25 #[.int .i64 1, .slice A137 l136.length c138, .slice none 0 0], row kStep 107 (.slice A114 l113.length c115) l113, row (Kd.int .i64) 3 (.slice A117 l116.length c118) l116]) rfl [2, 3, 4, 5, 0, 1] (by decide) rfl (by (try rw [hn139]); first | done | rfl)) ?_
            repeat (first | exact za9 _ _ | refine zae rfl ?_ | refine zaa rfl ?_ | refine zaf rfl ?_)
          · skip
            replace h := br_f hb134 h
            refine c_exit ?_
            refine zac ?_
            refine zac ?_
            have e_ := Option.some.inj h; replace h := hR126; rw [← e_] at h; clear e_
            refine x_hit ?_
            refine za1 ?_
            refine c_seq ?_
            refine za0 ?_
            refine o_q rfl rfl (za2 rfl) ?_
            refine o_q rfl rfl (za2 rfl) ?_
            refine zab h (fun y141 hg140 h => ?_) rfl
            refine o_q rfl rfl (q_ix Try.underlying23 Z3 rfl rfl hq89 hg140) ?_
            refine o_q rfl rfl (q_lde (off := 0) Y3 rfl rfl (fun w h => h.zaw (i := 1) rfl) hg140 (fun _ _ h => h) rfl) ?_
            refine o_q rfl rfl (q_gtr rfl rfl) ?_
            refine o_end ?_
            refine za1 ?_
            refine zb0 _ rfl (fun hb142 => ?_) (fun hb142 => ?_)
            · skip
              replace h := br_t hb142 h
              refine zab h (fun y385 hg384 h => ?_) rfl
              refine zab h (fun i505 hx504 h => ?_) rfl
              refine zab h (fun l565 hx564 h => ?_) rfl
              refine a_startS (ds := []) [some 0, some 1, some 2, none, some 4, some 5] MO rfl ?_
              refine za7 1 rfl rfl rfl (by kernel_rfl) (fun _ _ _ h => h) (za2 rfl) ?_
              refine za7 2 rfl rfl rfl (by kernel_rfl) (fun _ _ _ h => h) (za2 rfl) ?_
              refine za7 3 rfl rfl rfl (by kernel_rfl) (fun _ _ _ h => h) (za2 rfl) ?_
              refine za7 4 rfl rfl rfl (by kernel_rfl) (fun _ _ _ h => h) (q_ix Try.underlying23 Z3 rfl rfl hq89 hg384) ?_
              refine zb2 5 rfl rfl rfl (by kernel_rfl) (fun _ _ _ h => h) (fun w h => za3 [some 0, some 1, some 2, none, some 4, some 5] (by decide) w h rfl) (q_lde (off := 0) Y3 rfl rfl (fun w h => h.zaw (i := 1) rfl) hg384 (fun _ _ h => h) rfl) ?_
              refine a_two 0 6 rfl rfl rfl rfl (by kernel_rfl) rfl rfl (ev_q rfl (q_ldB G25 Z25 rfl (fun w h => h.zaj (i := 3) rfl) rfl)) (fun s w h => za3 [some 0, some 1, some 2, none, some 4, some 5] (by decide) w h rfl) (za8 0 Z Try.func120 N120 rfl rfl rfl (fun w P1 hF hB hS hT => spec_meOdd.calls y385 hB hF _ hx504)) (fun s w h => za3 [some 0, some 1, some 2, none, some 4, some 5] (by decide) w h rfl) (fun _ => ?_) (fun _ => ?_)
              · skip
                refine a_one 6 rfl rfl (by kernel_rfl) rfl (za8 0 Z Try.func120 N120 rfl rfl rfl (fun w P1 hF hB hS hT => spec_meOdd.calls y385 hB hF _ hx504)) (fun s w h => za3 [some 0, some 1, some 2, none, some 4, some 5] (by decide) w h rfl) (fun _ => ?_)
                refine a_one 7 rfl rfl (by kernel_rfl) rfl (za8 0 Z Try.func110 N110 rfl rfl rfl (fun w P1 hF hB hS hT => spec_meTimes.calls 1 A114 c115 l113.length l113 A117 c118 l116.length l116 i120 i505 hB hF (hT 4 _ rfl).row (hT 4 _ rfl).cap (hT 5 _ rfl).row (hT 5 _ rfl).cap _ hx564)) (fun s w h => za3 [some 2, some 3, some 4, none, some 6, some 7] (by decide) w h rfl) (cur2 (fun A566 c567 => ?_))
                refine za7 8 rfl rfl rfl (by kernel_rfl) (fun _ _ _ h => h) (za2 rfl) ?_
                refine za7 9 rfl rfl rfl (by kernel_rfl) (fun _ _ _ h => h) (q_ext rfl rfl) ?_
                refine za7 10 rfl rfl rfl (by kernel_rfl) (fun _ _ _ h => h) (q_ext rfl rfl) ?_
                refine a_one 11 rfl rfl (by kernel_rfl) rfl (zav (i := 5) rfl rfl rfl Z25 rfl rfl) (fun s w h => za3 [some 2, some 3, some 4, none, some 6, some 7] (by decide) w h rfl) (fun _ => ?_)
                refine za7 12 rfl rfl rfl (by kernel_rfl) (fun _ _ _ h => h) (q_asg rfl) ?_
                refine zan (by kernel_rfl) ?_
                refine zas ?_
                refine za1 ?_
                refine za0 ?_
                refine o_q rfl rfl (za2 rfl) ?_
                refine o_q rfl rfl (zb7 rfl rfl) ?_
                refine o_q rfl rfl (q_asg rfl) ?_
                refine o_end ?_
                refine x_fact (p := 0 = [].length) (fun w h => (h.row_C (i := 1) rfl).2.1) (fun hn984 => ?_)
                refine zar k104 (l565, [], w64 (i100 + 1), w64 (1 + (l113.length : Int)), A566, c567, none, 0) (Nat.lt_succ_self _) h ⟨rfl, rfl, trivial⟩ (f_pickE (L1 := [row kStep 107 (.slice A566 l565.length c567) l565, row (Kd.int .i64) 3 (.slice none 0 0) [], box g1 25 #[.int .i64 0, .slice none 0 0, .slice none 0 0], row (Kd.int .i64) 3 (.slice A6 l4.length c7) l4, row (Kd.int .i64) 3 (.slice A8 l5.length c9) l5, box g10 25 #[.int .i64 1, .slice A566 l565.length c567, .slice none 0 0], row kStep 107 (.slice A114 l113.length c115) l113, row (Kd.int .i64) 3 (.slice A117 l116.length c118) l116]) rfl [2, 3, 4, 5, 0, 1] (by decide) rfl (by (try rw [hn984]); first | done | rfl)) ?_
                repeat (first | exact za9 _ _ | refine zae rfl ?_ | refine zaa rfl ?_ | refine zaf rfl ?_)
              · skip
                refine a_one 0 rfl rfl (by kernel_rfl) rfl (ev_q rfl (q_ldB G25 Z25 rfl (fun w h => h.zaj (i := 3) rfl) rfl)) (fun s w h => za3 [some 0, some 1, some 2, none, some 4, some 5] (by decide) w h rfl) (fun _ => ?_)
                refine a_one 7 rfl rfl (by kernel_rfl) rfl (za8 0 Z Try.func110 N110 rfl rfl rfl (fun w P1 hF hB hS hT => spec_meTimes.calls 1 A114 c115 l113.length l113 A117 c118 l116.length l116 i120 i505 hB hF (hT 4 _ rfl).row (hT 4 _ rfl).cap (hT 5 _ rfl).row (hT 5 _ rfl).cap _ hx564)) (fun s w h => za3 [some 2, some 3, some 4, none, some 6, some 7] (by decide) w h rfl) (cur2 (fun A566 c567 => ?_))
                refine za7 8 rfl rfl rfl (by kernel_rfl) (fun _ _ _ h => h) (za2 rfl) ?_
                refine za7 9 rfl rfl rfl (by kernel_rfl) (fun _ _ _ h => h) (q_ext rfl rfl) ?_
                refine za7 10 rfl rfl rfl (by kernel_rfl) (fun _ _ _ h => h) (q_ext rfl rfl) ?_
                refine a_one 11 rfl rfl (by kernel_rfl) rfl (zav (i := 5) rfl rfl rfl Z25 rfl rfl) (fun s w h => za3 [some 2, some 3, some 4, none, some 6, some 7] (by decide) w h rfl) (fun _ => ?_)
                refine za7 12 rfl rfl rfl (by kernel_rfl) (fun _ _ _ h => h) (q_asg rfl) ?_
                refine zan (by kernel_rfl) ?_
                refine zas ?_
                refine za1 ?_
                refine za0 ?_
                refine o_q rfl rfl (za2 rfl) ?_
                refine o_q rfl rfl (zb7 rfl rfl) ?_
                refine o_q rfl rfl (q_asg rfl) ?_
                refine o_end ?_
                refine x_fact (p := 0 = [].length) (fun w h => (h.row_C (i := 1) rfl).2.1) (fun hn984 => ?_)
                refine zar k104 (l565, [], w64 (i100 + 1), w64 (1 + (l113.length : Int)), A566, c567, none, 0) (Nat.lt_succ_self _) h ⟨rfl, rfl, trivial⟩ (f_pickE (L1 := [row kStep 107 (.slice A566 l565.length c567) l565, row (Kd.int .i64) 3 (.slice none 0 0) [], box g1 25 #[.int .i64 0, .slice none 0 0, .slice none 0 0], row (Kd.int .i64) 3 (.slice A6 l4.length c7) l4, row (Kd.int .i64) 3 (.slice A8 l5.length c9) l5, box g10 25 #[.int .i64 1, .slice A566 l565.length c567, .slice none 0 0], row kStep 107 (.slice A114 l113.length c115) l113, row (Kd.int .i64) 3 (.slice A117 l116.length c118) l116]) rfl [2, 3, 4, 5, 0, 1] (by decide) rfl (by (try rw [hn984]); first | done | rfl)) ?_
                repeat (first | exact za9 _ _ | refine zae rfl ?_ | refine zaa rfl ?_ | refine zaf rfl ?_)
            · skip
              replace h := br_f hb142 h
              refine zat ?_
              refine zas ?_
              refine za1 ?_
              refine za0 ?_
              refine o_q rfl rfl (za2 rfl) ?_
              refine o_q rfl rfl (zb7 rfl rfl) ?_
              refine o_q rfl rfl (q_asg rfl) ?_
              refine o_end ?_
              refine zar k104 (l113, l116, w64 (i100 + 1), i120, A114, c115, A117, c118) (Nat.lt_succ_self _) h ⟨rfl, rfl, trivial⟩ (fun w h => za6 [0, 1, 2, 3, 4, 5] (by decide) rfl w h) ?_
              repeat (first | exact za9 _ _ | refine zae rfl ?_ | refine zaa rfl ?_ | refine zaf rfl ?_)
      · skip
        replace h := br_f hb112 h
        refine c_exit ?_
        refine zac ?_
        refine zac ?_
        have e_ := Option.some.inj h; replace h := hR107; rw [← e_] at h; clear e_
        refine x_hit ?_
        refine za1 ?_
        refine c_seq ?_
        refine za0 ?_
        refine o_q rfl rfl (q_ldB G25 Z25 rfl (fun w h => h.zaj (i := 3) rfl) rfl) ?_
        refine o_q rfl rfl (za2 rfl) ?_
        refine o_pick [4, 0, 1, 2, 3, 5] (by decide) rfl ?_
        refine zab h (fun _ hx985 h => ?_) rfl
        refine o_e rfl (za8 1 Z Try.func112 N112 rfl rfl rfl (fun w P1 hF hB hS hT => spec_meEnd.calls 1 A95 c96 l94.length l94 A98 c99 l97.length l97 i101 hB hF (hT 4 _ rfl).row (hT 4 _ rfl).cap hx985)) (cur2 (fun A986 c987 => ?_))
        refine bindE2 h (fun l989 l990 hx988 h => ?_) rfl
        refine o_e rfl (za8 0 Z Try.func111 N111 rfl rfl rfl (fun w P1 hF hB hS hT => spec_meTrim.calls k 1 A95 c96 l94.length l94 A986 c987 (([i101] : List Int).length) ([i101] : List Int) hB hF (hT 0 _ rfl).row (hT 0 _ rfl).cap (hT 1 _ rfl).row (hT 1 _ rfl).cap _ _ hx988)) (cur4 (fun A991 c992 A993 c994 => ?_))
        refine o_e rfl (zav (i := 4) rfl rfl rfl Z25 rfl rfl) (fun _ => ?_)
        refine o_end ?_
        refine za1 ?_
        refine c_ret ?_
        have e0_ := Option.some.inj h; clear h
        have d0_ := (Prod.mk.inj e0_).1; have e1_ := (Prod.mk.inj e0_).2; clear e0_; subst d0_
        subst e1_
        exact x_r1 (A991, c992, A993, c994) Try.results66 (rv_cell rfl G25 Z25 (fun w h => h.zaj (i := 4) rfl) rfl) rfl (fun w h => za6 [0, 1] (by decide) rfl w h)

/-! ### loop.example/g01098/spec.plSum: function 157 -/
def spec_plSum.l0 (l1 : List Int) : (List Int) → (List Int) → Int → Option (List Int)
  | [], l3, i6 => some l3
  | y7 :: ys8, l3, i6 => (gt l1 i6).bind fun y20 => (spec_l1Least.f (w64 (y7 + y20)) 1000001).bind fun i22 => (ap l3 ([i22] : List Int)).bind fun l26 => spec_plSum.l0 l1 ys8 l26 (i6 + 1)
def spec_plSum.f (l0 : List Int) (l1 : List Int) : Option (List Int) := (spec_plSum.l0 l1 l0 ([] : List Int) 0).bind fun l3 => some l3
set_option maxHeartbeats 600000 in
set_option maxRecDepth 100000 in
theorem spec_plSum.calls {w0 ws : World} {P0 : Nat → Prop} (A0 : Option Addr) (c0 : Nat) (n0 : Nat) (l0 : List Int) (A1 : Option Addr) (c1 : Nat) (n1 : Nat) (l1 : List Int) (Z : Below w0.heap.size w0 ws) (hF : Fr w0 ws P0 [] ws) (R0 : Stable ws P0 (fun w => Kd.C (Kd.int .i64) w A0 n0 l0)) (hc0 : n0 ≤ c0) (R1 : Stable ws P0 (fun w => Kd.C (Kd.int .i64) w A1 n1 l1)) (hc1 : n1 ≤ c1) (r_1 : List Int) (h : spec_plSum.f l0 l1 = some r_1) :
    Calls Try.prog 157 #[.slice A0 n0 c0, .slice A1 n1 c1] ws (Post1 w0 ws P0 (fun ((q_2, q_3) : (Option Addr) × Nat) => .slice q_2 r_1.length q_3) (fun ((q_2, q_3) : (Option Addr) × Nat) => [row (Kd.int .i64) 3 (.slice q_2 r_1.length q_3) r_1])) := by
  unfold spec_plSum.f at h
  obtain rfl := (R0 ws (KeptB.refl _ _)).1
  obtain rfl := (R1 ws (KeptB.refl _ _)).1
  refine enter Try.func157 rfl Try.ntmps157 rfl hF ?_
  refine c_seq ?_
  refine za0 ?_
  refine o_q rfl rfl (q_asg rfl) ?_
  refine o_end ?_
  refine za1 ?_
  refine c_seq ?_
  refine za0 ?_
  refine o_q rfl rfl (q_asg rfl) ?_
  refine o_end ?_
  refine za1 ?_
  refine c_seq ?_
  refine c_seq ?_
  refine za0 ?_
  refine o_q rfl rfl (za2 rfl) ?_
  refine o_q rfl rfl (q_len Try.underlying23 rfl) ?_
  refine o_q rfl rfl (za2 rfl) ?_
  refine o_end ?_
  refine za1 ?_
  refine zaq ?_
  refine c_nil (Kd.int .i64) 3 ?_
  refine zab h (fun o14 hl13 hR12 => ?_) rfl
  clear h
  refine c_fact (p := l0.length ≤ 9223372036854775807) (fun w h => (R0.now Z h).2.1) (fun hm11 => ?_)
  refine zb3 (σ := (List Int) × (List Int) × Int × (Option Addr) × Nat) (fun k9 ((ys8, l3, i6, A4, c5) : (List Int) × (List Int) × Int × (Option Addr) × Nat) => Rg l0 i6 ys8 ∧ ys8.length = k9 ∧ spec_plSum.l0 l1 ys8 l3 i6 = some o14) [5, 6, 9, 10, 11, 12, 13, 14, 15, 16, 17, 18, 19, 20, 21, 22, 23, 24, 25] (fun ((ys8, l3, i6, A4, c5) : (List Int) × (List Int) × Int × (Option Addr) × Nat) => [(5, .slice A4 l3.length c5), (9, .int .i64 i6)]) (fun ((ys8, l3, i6, A4, c5) : (List Int) × (List Int) × Int × (Option Addr) × Nat) => [row (Kd.int .i64) 3 (.slice A4 l3.length c5) l3]) l0.length (l0, ([] : List Int), 0, none, 0) ⟨Rg.start _, rfl, hl13⟩ ⟨rfl, rfl, trivial⟩ (fun w h => h) ?_
  refine fun k9 => cur5 (listC (fun l3 i6 A4 c5 U15 hJ_ => ?_) (fun y7 ys8 l3 i6 A4 c5 U15 hJ_ => ?_))
  · skip
    clear hl13
    have hr10 := hJ_.1; have hk16 := hJ_.2.1; have h := hJ_.2.2; clear hJ_
    replace h : spec_plSum.l0 l1 [] l3 i6 = some o14 := h
    rw [spec_plSum.l0] at h
    refine c_seq ?_
    refine za0 ?_
    refine o_q rfl rfl (q_lss rfl rfl) ?_
    refine o_end ?_
    refine za1 ?_
    refine c_seq ?_
    refine c_false (congrArg Value.bool hr10.ge) ?_
    refine c_exit ?_
    refine zac ?_
    refine zac ?_
    have e_ := Option.some.inj h; replace h := hR12; rw [← e_] at h; clear e_
    refine x_hit ?_
    refine za1 ?_
    refine c_seq ?_
    refine za0 ?_
    refine o_q rfl rfl (za2 rfl) ?_
    refine o_q rfl rfl (q_asg rfl) ?_
    refine o_end ?_
    refine za1 ?_
    refine c_ret ?_
    have e0_ := Option.some.inj h; clear h
    subst e0_
    exact x_r1 (A4, c5) Try.results157 (zal rfl) rfl (fun w h => za6 [0] (by decide) rfl w h)
  · skip
    clear hl13
    have hr10 := hJ_.1; have hk16 := hJ_.2.1; have h := hJ_.2.2; clear hJ_
    replace h : spec_plSum.l0 l1 (y7 :: ys8) l3 i6 = some o14 := h
    rw [spec_plSum.l0] at h
    refine c_seq ?_
    refine za0 ?_
    refine o_q rfl rfl (q_lss rfl rfl) ?_
    refine o_end ?_
    refine za1 ?_
    refine c_seq ?_
    refine c_true (congrArg Value.bool hr10.lt) ?_
    refine zat ?_
    refine za1 ?_
    refine c_seq ?_
    refine zaq ?_
    refine c_seq ?_
    refine za0 ?_
    refine o_q rfl rfl (za2 rfl) ?_
    refine o_q rfl rfl (q_asg rfl) ?_
    refine o_end ?_
    refine za1 ?_
    refine a_startS (ds := []) [none] MO rfl ?_
    refine za7 0 rfl rfl rfl (by kernel_rfl) (fun _ _ _ h => h) (za2 rfl) ?_
    refine za7 1 rfl rfl rfl (by kernel_rfl) (fun _ _ _ h => h) (za2 rfl) ?_
    refine za7 2 rfl rfl rfl (by kernel_rfl) (fun _ _ _ h => h) (za2 rfl) ?_
    refine a_fact (p := Sh A0 l0.length l0.length) (fun w h => f_sh (dk := (Kd.int .i64)) h (fun w h => R0.now Z h)) (fun hq17 => ?_)
    refine za7 3 rfl rfl rfl (by kernel_rfl) (fun _ _ _ h => h) (q_ix Try.underlying23 Z3 rfl rfl hq17 hr10.get) ?_
    refine zb2 4 rfl rfl rfl (by kernel_rfl) (fun _ _ _ h => h) (fun w h => za3 [none] (by decide) w h rfl) (q_lde (off := 0) Y3 rfl rfl (fun w h => R0.now Z h) hr10.get (fun _ _ h => h) rfl) ?_
    refine za7 5 rfl rfl rfl (by kernel_rfl) (fun _ _ _ h => h) (za2 rfl) ?_
    refine za7 6 rfl rfl rfl (by kernel_rfl) (fun _ _ _ h => h) (za2 rfl) ?_
    refine a_fact (p := Sh A1 l1.length l1.length) (fun w h => f_sh (dk := (Kd.int .i64)) h (fun w h => R1.now Z h)) (fun hq18 => ?_)
    refine zab h (fun y20 hg19 h => ?_) rfl
    refine za7 7 rfl rfl rfl (by kernel_rfl) (fun _ _ _ h => h) (q_ix Try.underlying23 Z3 rfl rfl hq18 hg19) ?_
    refine zb2 8 rfl rfl rfl (by kernel_rfl) (fun _ _ _ h => h) (fun w h => za3 [none] (by decide) w h rfl) (q_lde (off := 0) Y3 rfl rfl (fun w h => R1.now Z h) hg19 (fun _ _ h => h) rfl) ?_
    refine za7 9 rfl rfl rfl (by kernel_rfl) (fun _ _ _ h => h) (zb7 rfl rfl) ?_
    refine zab h (fun i22 hx21 h => ?_) rfl
    refine a_one 10 rfl rfl (by kernel_rfl) rfl (za8 0 Z Try.func89 N89 rfl rfl rfl (fun w P1 hF hB hS hT => spec_l1Least.calls (w64 (y7 + y20)) 1000001 hB hF _ hx21)) (fun s w h => za3 [none] (by decide) w h rfl) (fun _ => ?_)
    refine a_one 11 rfl rfl (by kernel_rfl) rfl (e_lit (vs := [(0, .int .i64 i22)]) (cs := [.int .i64 i22]) (Kd.int .i64) ([i22] : List Int) Try.underlying23 I3 (by decide) rfl (by decide) rfl rfl (fun _ _ => Kd.zah _)) (fun s w h => za3 [none] (by decide) w h rfl) (cur2 (fun A23 c24 => ?_))
    refine zab h (fun l26 ha27 h => ?_) rfl
    refine a_one 12 rfl rfl (by kernel_rfl) rfl (e_app (i := 1) (j := 0) Try.underlying23 I3 rfl (by decide) (by decide) rfl rfl rfl rfl rfl ha27) (fun s w h => za3 [none] (by decide) w h rfl) (cur2 (fun A28 c29 => ?_))
    refine za7 13 rfl rfl rfl (by kernel_rfl) (fun _ _ _ h => h) (q_asg rfl) ?_
    refine zan (by kernel_rfl) ?_
    refine zas ?_
    refine za1 ?_
    refine za0 ?_
    refine o_q rfl rfl (q_up rfl rfl (hr10.up hm11)) ?_
    refine o_q rfl rfl (za2 rfl) ?_
    refine o_end ?_
    refine zar ys8.length (ys8, l26, i6 + 1, A28, c29) (by rw [← hk16]; exact Nat.lt_succ_self _) ⟨hr10.step, rfl, h⟩ ⟨rfl, rfl, trivial⟩ (fun w h => za6 [1] (by decide) rfl w h) ?_
    repeat (first | exact za9 _ _ | refine zae rfl ?_ | refine zaa rfl ?_ | refine zaf rfl ?_)

/-! ### loop.example/g01098/spec.plExponents: function 142 -/
def spec_plExponents.l1 : (List SStep) → (List (List Int)) → Int → Option (List (List Int))
  | [], l39, i43 => some l39
  | y44 :: ys45, l39, i43 => (gt l39 y44.f0).bind fun y300 => (gt l39 y44.f1).bind fun y599 => (spec_plSum.f y300 y599).bind fun l719 => (ap l39 ([l719] : List (List Int))).bind fun l838 => spec_plExponents.l1 ys45 l838 (i43 + 1)
def spec_plExponents.l0 (a0_0 : Int) : Nat → (List (List Int)) → Int → Option (List (List Int))
  | 0, _, _ => none
  | k11 + 1, l4, i8 => if i8 < a0_0 then ((mk0 a0_0 (0 : Int)).bind fun l20 => (gt l20 i8).bind fun y27 => (st l20 i8 1).bind fun l28 => (ap l4 ([l28] : List (List Int))).bind fun l34 => spec_plExponents.l0 a0_0 k11 l34 (w64 (i8 + 1))) else (some l4)
def spec_plExponents.f (k : Nat) (a0_0 : Int) (l0_1 : List SStep) (l0_2 : List Int) : Option (List (List Int)) := (spec_plExponents.l0 a0_0 k ([] : List (List Int)) 0).bind fun l4 => (spec_plExponents.l1 l0_1 l4 0).bind fun l39 => some l39
set_option maxHeartbeats 600000 in
set_option maxRecDepth 100000 in
theorem spec_plExponents.calls (k : Nat) {w0 ws : World} {P0 : Nat → Prop} (a0_0 : Int) (A0_1 : Option Addr) (c0_1 : Nat) (n0_1 : Nat) (l0_1 : List SStep) (A0_2 : Option Addr) (c0_2 : Nat) (n0_2 : Nat) (l0_2 : List Int) (Z : Below w0.heap.size w0 ws) (hF : Fr w0 ws P0 [] ws) (R0_1 : Stable ws P0 (fun w => Kd.C kStep w A0_1 n0_1 l0_1)) (hc0_1 : n0_1 ≤ c0_1) (R0_2 : Stable ws P0 (fun w => Kd.C (Kd.int .i64) w A0_2 n0_2 l0_2)) (hc0_2 : n0_2 ≤ c0_2) (r_1 : List (List Int)) (h : spec_plExponents.f k a0_0 l0_1 l0_2 = some r_1) :
    Calls Try.prog 142 #[.agg #[.int .i64 a0_0, .slice A0_1 n0_1 c0_1, .slice A0_2 n0_2 c0_2]] ws (Post1 w0 ws P0 (fun ((q_2, q_3, q_4) : (Option Addr) × Nat × Hd) => .slice q_2 r_1.length q_3) (fun ((q_2, q_3, q_4) : (Option Addr) × Nat × Hd) => [row (gk 3 (Kd.int .i64)) 23 (.slice q_2 r_1.length q_3) (zp q_4 r_1)])) := by
  unfold spec_plExponents.f at h
  obtain rfl := (R0_1 ws (KeptB.refl _ _)).1
  obtain rfl := (R0_2 ws (KeptB.refl _ _)).1
  refine enter Try.func142 rfl Try.ntmps142 rfl hF ?_
  refine c_seq ?_
  refine za0 ?_
  refine o_e rfl (e_box rfl) (fun g1 => ?_)
  refine o_q rfl rfl (q_asg rfl) ?_
  refine o_end ?_
  refine za1 ?_
  refine c_seq ?_
  refine za0 ?_
  refine o_q rfl rfl (q_asg rfl) ?_
  refine o_end ?_
  refine za1 ?_
  refine c_seq ?_
  refine c_seq ?_
  refine za0 ?_
  refine o_q rfl rfl (q_asg rfl) ?_
  refine o_end ?_
  refine za1 ?_
  refine zaq ?_
  refine c_nil (gk 3 (Kd.int .i64)) 23 ?_
  refine zab h (fun o16 hl15 hR14 => ?_) rfl
  clear h
  refine zb3 (σ := (List (List Int)) × Int × (Option Addr) × Nat × Hd) (fun k11 ((l4, i8, A5, c6, H7) : (List (List Int)) × Int × (Option Addr) × Nat × Hd) => spec_plExponents.l0 a0_0 k11 l4 i8 = some o16) [3, 4, 5, 8, 9, 10, 11, 12, 13, 14, 15, 16, 17, 18, 19, 20, 21, 22, 23] (fun ((l4, i8, A5, c6, H7) : (List (List Int)) × Int × (Option Addr) × Nat × Hd) => [(3, .slice A5 l4.length c6), (4, .int .i64 i8)]) (fun ((l4, i8, A5, c6, H7) : (List (List Int)) × Int × (Option Addr) × Nat × Hd) => [row (gk 3 (Kd.int .i64)) 23 (.slice A5 l4.length c6) (zp H7 l4), box g1 25 #[.int .i64 a0_0, .slice A0_1 l0_1.length c0_1, .slice A0_2 l0_2.length c0_2]]) k (([] : List (List Int)), 0, none, 0, ([] : Hd)) hl15 ⟨rfl, rfl, trivial⟩ (fun w h => h) ?_
  refine natC (cur5 (fun l4 i8 A5 c6 H7 => fun U17 hJ_ => ?_)) (fun k11 => (cur5 (fun l4 i8 A5 c6 H7 => fun U17 hJ_ => ?_)))
  · skip
    replace hJ_ : spec_plExponents.l0 a0_0 0 l4 i8 = some o16 := hJ_
    rw [spec_plExponents.l0] at hJ_
    exact noneE hJ_
  · skip
    clear hl15
    have h := hJ_; clear hJ_
    replace h : spec_plExponents.l0 a0_0 (k11 + 1) l4 i8 = some o16 := h
    rw [spec_plExponents.l0] at h
    refine c_seq ?_
    refine c_seq ?_
    refine za0 ?_
    refine o_q rfl rfl (za2 rfl) ?_
    refine o_q rfl rfl (q_f F25_0 rfl) ?_
    refine o_q rfl rfl (q_ldb Y3 rfl (fun w h => h.zaj (i := 1) rfl) rfl) ?_
    refine o_q rfl rfl (q_lss rfl rfl) ?_
    refine o_end ?_
    refine za1 ?_
    refine zb0 _ rfl (fun hb19 => ?_) (fun hb19 => ?_)
    · skip
      replace h := br_t hb19 h
      refine zat ?_
      refine za1 ?_
      refine c_seq ?_
      refine zaq ?_
      refine c_seq ?_
      refine za0 ?_
      refine o_q rfl rfl (q_f F25_0 rfl) ?_
      refine o_q rfl rfl (q_ldb Y3 rfl (fun w h => h.zaj (i := 1) rfl) rfl) ?_
      refine zab h (fun l20 hm21 h => ?_) rfl
      refine o_e rfl (e_make (Kd.int .i64) (0 : Int) Try.underlying23 I3 rfl (by decide) (by decide) (fun _ _ => rfl) rfl rfl hm21) (cur2 (fun A22 c23 => ?_))
      refine o_q rfl rfl (q_asg rfl) ?_
      refine o_end ?_
      refine za1 ?_
      refine c_seq ?_
      refine za0 ?_
      refine o_q rfl rfl (za2 rfl) ?_
      refine o_q rfl rfl (za2 rfl) ?_
      refine zb4 (p := Sh A22 l20.length l20.length) (fun w h => f_sh (dk := (Kd.int .i64)) h (fun w h => h.zaw (i := 0) rfl)) (fun hq25 => ?_)
      refine zab h (fun y27 hg26 h => ?_) rfl
      refine o_q rfl rfl (q_ix Try.underlying23 Z3 rfl rfl hq25 hg26) ?_
      refine zab h (fun l28 hs29 h => ?_) rfl
      refine o_e rfl (e_set (i := 0) rfl rfl rfl Z3 hs29) (fun _ => ?_)
      refine o_end ?_
      refine za1 ?_
      refine za0 ?_
      refine o_q rfl rfl (za2 rfl) ?_
      refine o_q rfl rfl (za2 rfl) ?_
      refine o_e rfl (e_litG (j := 0) (ue := 3) (dk := (Kd.int .i64)) (ys := l28) Try.underlying47 I23 rfl rfl rfl) (cur3 (fun A30 c31 H33 => ?_))
      refine zab h (fun l34 ha35 h => ?_) rfl
      refine o_e rfl (e_appG (i := 2) (j := 0) Try.underlying47 I23 rfl (by decide) rfl rfl rfl rfl rfl ha35) (cur3 (fun A36 c37 H38 => ?_))
      refine o_q rfl rfl (q_asg rfl) ?_
      refine o_end ?_
      refine zas ?_
      refine za1 ?_
      refine za0 ?_
      refine o_q rfl rfl (za2 rfl) ?_
      refine o_q rfl rfl (zb7 rfl rfl) ?_
      refine o_q rfl rfl (q_asg rfl) ?_
      refine o_end ?_
      refine zar k11 (l34, w64 (i8 + 1), A36, c37, H38) (Nat.lt_succ_self _) h ⟨rfl, rfl, trivial⟩ (fun w h => za6 [2, 3] (by decide) rfl w h) ?_
      repeat (first | exact za9 _ _ | refine zae rfl ?_ | refine zaa rfl ?_ | refine zaf rfl ?_)
    · skip
      replace h := br_f hb19 h
      refine c_exit ?_
      refine zac ?_
      refine zac ?_
      have e_ := Option.some.inj h; replace h := hR14; rw [← e_] at h; clear e_
      refine x_hit ?_
      refine za1 ?_
      refine c_seq ?_
      refine c_seq ?_
      refine za0 ?_
      refine o_q rfl rfl (q_f F25_1 rfl) ?_
      refine o_q rfl rfl (q_ldb Y22 rfl (fun w h => h.zaj (i := 1) rfl) rfl) ?_
      refine o_q rfl rfl (q_len Try.underlying22 rfl) ?_
      refine o_q rfl rfl (za2 rfl) ?_
      refine o_end ?_
      refine za1 ?_
      refine zaq ?_
      refine zab h (fun o51 hl50 hR49 => ?_) rfl
      clear h
      refine c_fact (p := l0_1.length ≤ 9223372036854775807) (fun w h => (R0_1.now Z h).2.1) (fun hm48 => ?_)
      refine zb3 (σ := (List SStep) × (List (List Int)) × Int × (Option Addr) × Nat × Hd) (fun k46 ((ys45, l39, i43, A40, c41, H42) : (List SStep) × (List (List Int)) × Int × (Option Addr) × Nat × Hd) => Rg l0_1 i43 ys45 ∧ ys45.length = k46 ∧ spec_plExponents.l1 ys45 l39 i43 = some o51) [3, 7, 27, 28, 29, 30, 31, 32, 33, 34, 35, 36, 37, 38, 39, 40, 41, 42, 43, 44, 45] (fun ((ys45, l39, i43, A40, c41, H42) : (List SStep) × (List (List Int)) × Int × (Option Addr) × Nat × Hd) => [(3, .slice A40 l39.length c41), (27, .int .i64 i43)]) (fun ((ys45, l39, i43, A40, c41, H42) : (List SStep) × (List (List Int)) × Int × (Option Addr) × Nat × Hd) => [row (gk 3 (Kd.int .i64)) 23 (.slice A40 l39.length c41) (zp H42 l39), box g1 25 #[.int .i64 a0_0, .slice A0_1 l0_1.length c0_1, .slice A0_2 l0_2.length c0_2]]) l0_1.length (l0_1, l4, 0, A5, c6, H7) ⟨Rg.start _, rfl, hl50⟩ ⟨rfl, rfl, trivial⟩ (fun w h => h) ?_
      refine fun k46 => cur6 (listC (fun l39 i43 A40 c41 H42 U52 hJ_ => ?_) (fun y44 ys45 l39 i43 A40 c41 H42 U52 hJ_ => ?_))
      · skip
        clear hl50
        have hr47 := hJ_.1; have hk53 := hJ_.2.1; have h := hJ_.2.2; clear hJ_
        replace h : spec_plExponents.l1 [] l39 i43 = some o51 := h
        rw [spec_plExponents.l1] at h
        refine c_seq ?_
        refine za0 ?_
        refine o_q rfl rfl (q_lss rfl rfl) ?_
        refine o_end ?_
        refine za1 ?_
        refine c_seq ?_
        refine c_false (congrArg Value.bool hr47.ge) ?_
        refine c_exit ?_
        refine zac ?_
        refine zac ?_
        have e_ := Option.some.inj h; replace h := hR49; rw [← e_] at h; clear e_
        refine x_hit ?_
        refine za1 ?_
        refine c_seq ?_
        refine za0 ?_
        refine o_q rfl rfl (za2 rfl) ?_
        refine o_q rfl rfl (q_asg rfl) ?_
        refine o_end ?_
        refine za1 ?_
        refine c_ret ?_
        have e0_ := Option.some.inj h; clear h
        subst e0_
        exact x_r1 (A40, c41, H42) Try.results142 (zal rfl) rfl (fun w h => za6 [0] (by decide) rfl w h)
      · skip
        clear hl50
        have hr47 := hJ_.1; have hk53 := hJ_.2.1; have h := hJ_.2.2; clear hJ_
        replace h : spec_plExponents.l1 (y44 :: ys45) l39 i43 = some o51 := h
        rw [spec_plExponents.l1] at h
        refine c_seq ?_
        refine za0 ?_
        refine o_q rfl rfl (q_lss rfl rfl) ?_
        refine o_end ?_
        refine za1 ?_
        refine c_seq ?_
        refine c_true (congrArg Value.bool hr47.lt) ?_
        refine zat ?_
        refine za1 ?_
        refine c_seq ?_
        refine zaq ?_
        refine c_seq ?_
        refine za0 ?_
        refine zb4 (p := Sh A0_1 l0_1.length l0_1.length) (fun w h => f_sh (dk := kStep) h (fun w h => R0_1.now Z h)) (fun hq54 => ?_)
        refine o_q rfl rfl (q_ix Try.underlying22 Z107 rfl rfl hq54 hr47.get) ?_
        refine o_q rfl rfl (q_ldE G107 Z107 rfl rfl (fun w h => R0_1.now Z h) hr47.get (fun _ _ h => h) rfl) ?_
        refine o_e rfl (zam V107 rfl) (fun g55 => ?_)
        refine o_e rfl (zav (i := 0) rfl rfl rfl Z107 rfl rfl) (fun _ => ?_)
        refine o_end ?_
        refine za1 ?_
        refine zab h (fun y300 hg299 h => ?_) rfl
        refine zab h (fun y599 hg598 h => ?_) rfl
        refine zab h (fun l719 hx718 h => ?_) rfl
        refine zab h (fun l838 ha839 h => ?_) rfl
        refine a_startS (ds := []) [some 0, none, some 2] MO rfl ?_
        refine za7 0 rfl rfl rfl (by kernel_rfl) (fun _ _ _ h => h) (za2 rfl) ?_
        refine za7 1 rfl rfl rfl (by kernel_rfl) (fun _ _ _ h => h) (za2 rfl) ?_
        refine za7 2 rfl rfl rfl (by kernel_rfl) (fun _ _ _ h => h) (q_f F107_0 rfl) ?_
        refine zb2 3 rfl rfl rfl (by kernel_rfl) (fun _ _ _ h => h) (fun w h => za3 [some 0, none, some 2] (by decide) w h rfl) (q_ldb Y3 rfl (fun w h => h.zaj (i := 0) rfl) rfl) ?_
        refine a_fact (p := Sh A40 l39.length (zp H42 l39).length) (fun w h => f_sh (dk := (gk 3 (Kd.int .i64))) h (fun w h => h.zaw (i := 1) rfl)) (fun hq298 => ?_)
        refine za7 4 rfl rfl rfl (by kernel_rfl) (fun _ _ _ h => h) (q_ix Try.underlying47 Z23 rfl rfl hq298 (gt_zp hg299)) ?_
        refine za7 6 rfl rfl rfl (by kernel_rfl) (fun _ _ _ h => h) (za2 rfl) ?_
        refine za7 7 rfl rfl rfl (by kernel_rfl) (fun _ _ _ h => h) (q_f F107_1 rfl) ?_
        refine zb2 8 rfl rfl rfl (by kernel_rfl) (fun _ _ _ h => h) (fun w h => za3 [some 0, none, some 2] (by decide) w h rfl) (q_ldb Y3 rfl (fun w h => h.zaj (i := 0) rfl) rfl) ?_
        refine za7 9 rfl rfl rfl (by kernel_rfl) (fun _ _ _ h => h) (q_ix Try.underlying47 Z23 rfl rfl hq298 (gt_zp hg598)) ?_
        refine a_fact (p := y300.length ≤ hC H42 y44.f0) (fun w h => (K_in (h.zaw (i := 1) rfl) hg299).1) (fun hc358 => ?_)
        refine a_fact (p := y599.length ≤ hC H42 y44.f1) (fun w h => (K_in (h.zaw (i := 1) rfl) hg598).1) (fun hc658 => ?_)
        refine a_two 5 10 rfl rfl rfl rfl (by kernel_rfl) rfl rfl (ev_q rfl (q_lde (off := 0) Y23 rfl rfl (fun w h => h.zaw (i := 1) rfl) (gt_zp hg299) (fun _ _ h => h.1) rfl)) (fun s w h => za3 [some 0, none, some 2] (by decide) w h rfl) (ev_q rfl (q_lde (off := 0) Y23 rfl rfl (fun w h => h.zaw (i := 1) rfl) (gt_zp hg598) (fun _ _ h => h.1) rfl)) (fun s w h => za3 [some 0, none, some 2] (by decide) w h rfl) (fun _ => ?_) (fun _ => ?_)
        · skip
          refine a_fact (p := y599.length ≤ hC H42 y44.f1) (fun w h => (K_in (h.zaw (i := 1) rfl) hg598).1) (fun hc658 => ?_)
          refine a_one 10 rfl rfl (by kernel_rfl) rfl (ev_q rfl (q_lde (off := 0) Y23 rfl rfl (fun w h => h.zaw (i := 1) rfl) (gt_zp hg598) (fun _ _ h => h.1) rfl)) (fun s w h => za3 [some 0, none, some 2] (by decide) w h rfl) (fun _ => ?_)
          refine a_one 11 rfl rfl (by kernel_rfl) rfl (za8 0 Z Try.func157 N157 rfl rfl rfl (fun w P1 hF hB hS hT => spec_plSum.calls (hA H42 y44.f0) (hC H42 y44.f0) y300.length y300 (hA H42 y44.f1) (hC H42 y44.f1) y599.length y599 hB hF (stab_in (hT 1 _ rfl).row hg299) hc358 (stab_in (hT 1 _ rfl).row hg598) hc658 _ hx718)) (fun s w h => za3 [some 1, none, some 3] (by decide) w h rfl) (cur2 (fun A720 c721 => ?_))
          refine a_one 12 rfl rfl (by kernel_rfl) rfl (e_litG (j := 0) (ue := 3) (dk := (Kd.int .i64)) (ys := l719) Try.underlying47 I23 rfl rfl rfl) (fun s w h => za3 [some 2, none, some 4] (by decide) w h rfl) (cur3 (fun A778 c779 H781 => ?_))
          refine a_one 13 rfl rfl (by kernel_rfl) rfl (e_appG (i := 3) (j := 0) Try.underlying47 I23 rfl (by decide) rfl rfl rfl rfl rfl ha839) (fun s w h => za3 [some 2, none, some 4] (by decide) w h rfl) (cur3 (fun A840 c841 H842 => ?_))
          refine za7 14 rfl rfl rfl (by kernel_rfl) (fun _ _ _ h => h) (q_asg rfl) ?_
          refine zan (by kernel_rfl) ?_
          refine zas ?_
          refine za1 ?_
          refine za0 ?_
          refine o_q rfl rfl (q_up rfl rfl (hr47.up hm48)) ?_
          refine o_q rfl rfl (za2 rfl) ?_
          refine o_end ?_
          refine zar ys45.length (ys45, l838, i43 + 1, A840, c841, H842) (by rw [← hk53]; exact Nat.lt_succ_self _) ⟨hr47.step, rfl, h⟩ ⟨rfl, rfl, trivial⟩ (fun w h => za6 [3, 4] (by decide) rfl w h) ?_
          repeat (first | exact za9 _ _ | refine zae rfl ?_ | refine zaa rfl ?_ | refine zaf rfl ?_)
        · skip
          refine a_fact (p := y300.length ≤ hC H42 y44.f0) (fun w h => (K_in (h.zaw (i := 1) rfl) hg299).1) (fun hc358 => ?_)
          refine a_one 5 rfl rfl (by kernel_rfl) rfl (ev_q rfl (q_lde (off := 0) Y23 rfl rfl (fun w h => h.zaw (i := 1) rfl) (gt_zp hg299) (fun _ _ h => h.1) rfl)) (fun s w h => za3 [some 0, none, some 2] (by decide) w h rfl) (fun _ => ?_)
          refine a_one 11 rfl rfl (by kernel_rfl) rfl (za8 0 Z Try.func157 N157 rfl rfl rfl (fun w P1 hF hB hS hT => spec_plSum.calls (hA H42 y44.f0) (hC H42 y44.f0) y300.length y300 (hA H42 y44.f1) (hC H42 y44.f1) y599.length y599 hB hF (stab_in (hT 1 _ rfl).row hg299) hc358 (stab_in (hT 1 _ rfl).row hg598) hc658 _ hx718)) (fun s w h => za3 [some 1, none, some 3] (by decide) w h rfl) (cur2 (fun A720 c721 => ?_))
          refine a_one 12 rfl rfl (by kernel_rfl) rfl (e_litG (j := 0) (ue := 3) (dk := (Kd.int .i64)) (ys := l719) Try.underlying47 I23 rfl rfl rfl) (fun s w h => za3 [some 2, none, some 4] (by decide) w h rfl) (cur3 (fun A778 c779 H781 => ?_))
          refine a_one 13 rfl rfl (by kernel_rfl) rfl (e_appG (i := 3) (j := 0) Try.underlying47 I23 rfl (by decide) rfl rfl rfl rfl rfl ha839) (fun s w h => za3 [some 2, none, some 4] (by decide) w h rfl) (cur3 (fun A840 c841 H842 => ?_))
          refine za7 14 rfl rfl rfl (by kernel_rfl) (fun _ _ _ h => h) (q_asg rfl) ?_
          refine zan (by kernel_rfl) ?_
          refine zas ?_
          refine za1 ?_
          refine za0 ?_
          refine o_q rfl rfl (q_up rfl rfl (hr47.up hm48)) ?_
          refine o_q rfl rfl (za2 rfl) ?_
          refine o_end ?_
          refine zar ys45.length (ys45, l838, i43 + 1, A840, c841, H842) (by rw [← hk53]; exact Nat.lt_succ_self _) ⟨hr47.step, rfl, h⟩ ⟨rfl, rfl, trivial⟩ (fun w h => za6 [3, 4] (by decide) rfl w h) ?_
          repeat (first | exact za9 _ _ | refine zae rfl ?_ | refine zaa rfl ?_ | refine zaf rfl ?_)

/-! ### loop.example/g01098/spec.l1All: function 143 -/
def spec_l1All.l0 (a1 : Int) (a2 : Int) : (List Int) → Int → Option ((Bool) ⊕ (Unit))
  | [], i1 => some (.inr ())
  | y2 :: ys3, i1 => (spec_l1In.f y2 a1 a2).bind fun b14 => if b14 = true then (spec_l1All.l0 a1 a2 ys3 (i1 + 1)) else (some (.inl false))
def spec_l1All.f (l0 : List Int) (a1 : Int) (a2 : Int) : Option Bool := (spec_l1All.l0 a1 a2 l0 0).bind fun o_ => match o_ with | .inl r_ => some r_ | .inr _ => some true
set_option maxHeartbeats 600000 in
set_option maxRecDepth 100000 in
theorem spec_l1All.calls {w0 ws : World} {P0 : Nat → Prop} (A0 : Option Addr) (c0 : Nat) (n0 : Nat) (l0 : List Int) (a1 : Int) (a2 : Int) (Z : Below w0.heap.size w0 ws) (hF : Fr w0 ws P0 [] ws) (R0 : Stable ws P0 (fun w => Kd.C (Kd.int .i64) w A0 n0 l0)) (hc0 : n0 ≤ c0) (r_1 : Bool) (h : spec_l1All.f l0 a1 a2 = some r_1) :
    Calls Try.prog 143 #[.slice A0 n0 c0, .int .i64 a1, .int .i64 a2] ws (Post1 w0 ws P0 (fun (_ : Unit) => .bool r_1) (fun (_ : Unit) => [])) := by
  unfold spec_l1All.f at h
  obtain rfl := (R0 ws (KeptB.refl _ _)).1
  refine enter Try.func143 rfl Try.ntmps143 rfl hF ?_
  refine c_seq ?_
  refine za0 ?_
  refine o_q rfl rfl (q_asg rfl) ?_
  refine o_end ?_
  refine za1 ?_
  refine c_seq ?_
  refine c_seq ?_
  refine za0 ?_
  refine o_q rfl rfl (za2 rfl) ?_
  refine o_q rfl rfl (q_len Try.underlying23 rfl) ?_
  refine o_q rfl rfl (za2 rfl) ?_
  refine o_end ?_
  refine za1 ?_
  refine zaq ?_
  refine zab h (fun o9 hl8 hR7 => ?_) rfl
  clear h
  refine c_fact (p := l0.length ≤ 9223372036854775807) (fun w h => (R0.now Z h).2.1) (fun hm6 => ?_)
  refine zb3 (σ := (List Int) × Int) (fun k4 ((ys3, i1) : (List Int) × Int) => Rg l0 i1 ys3 ∧ ys3.length = k4 ∧ spec_l1All.l0 a1 a2 ys3 i1 = some o9) [6, 8, 11, 12, 13, 14, 15, 16, 17, 18, 19, 20] (fun ((ys3, i1) : (List Int) × Int) => [(11, .int .i64 i1)]) (fun ((ys3, i1) : (List Int) × Int) => []) l0.length (l0, 0) ⟨Rg.start _, rfl, hl8⟩ ⟨rfl, trivial⟩ (fun w h => h) ?_
  refine fun k4 => cur2 (listC (fun i1 U10 hJ_ => ?_) (fun y2 ys3 i1 U10 hJ_ => ?_))
  · skip
    clear hl8
    have hr5 := hJ_.1; have hk11 := hJ_.2.1; have h := hJ_.2.2; clear hJ_
    replace h : spec_l1All.l0 a1 a2 [] i1 = some o9 := h
    rw [spec_l1All.l0] at h
    refine c_seq ?_
    refine za0 ?_
    refine o_q rfl rfl (q_lss rfl rfl) ?_
    refine o_end ?_
    refine za1 ?_
    refine c_seq ?_
    refine c_false (congrArg Value.bool hr5.ge) ?_
    refine c_exit ?_
    refine zac ?_
    refine zac ?_
    have e_ := Option.some.inj h; replace h := hR7; rw [← e_] at h; clear e_
    refine x_hit ?_
    refine za1 ?_
    refine c_seq ?_
    refine za0 ?_
    refine o_q rfl rfl (q_asg rfl) ?_
    refine o_end ?_
    refine za1 ?_
    refine c_ret ?_
    have e0_ := Option.some.inj h; clear h
    subst e0_
    exact x_r1 () Try.results143 (zal rfl) rfl (fun w h => za6 [] (by decide) rfl w h)
  · skip
    clear hl8
    have hr5 := hJ_.1; have hk11 := hJ_.2.1; have h := hJ_.2.2; clear hJ_
    replace h : spec_l1All.l0 a1 a2 (y2 :: ys3) i1 = some o9 := h
    rw [spec_l1All.l0] at h
    refine c_seq ?_
    refine za0 ?_
    refine o_q rfl rfl (q_lss rfl rfl) ?_
    refine o_end ?_
    refine za1 ?_
    refine c_seq ?_
    refine c_true (congrArg Value.bool hr5.lt) ?_
    refine zat ?_
    refine za1 ?_
    refine c_seq ?_
    refine zaq ?_
    refine c_seq ?_
    refine za0 ?_
    refine zb4 (p := Sh A0 l0.length l0.length) (fun w h => f_sh (dk := (Kd.int .i64)) h (fun w h => R0.now Z h)) (fun hq12 => ?_)
    refine o_q rfl rfl (q_ix Try.underlying23 Z3 rfl rfl hq12 hr5.get) ?_
    refine o_q rfl rfl (q_lde (off := 0) Y3 rfl rfl (fun w h => R0.now Z h) hr5.get (fun _ _ h => h) rfl) ?_
    refine o_q rfl rfl (q_asg rfl) ?_
    refine o_end ?_
    refine za1 ?_
    refine c_seq ?_
    refine za0 ?_
    refine o_q rfl rfl (za2 rfl) ?_
    refine o_q rfl rfl (za2 rfl) ?_
    refine o_q rfl rfl (za2 rfl) ?_
    refine zab h (fun b14 hx13 h => ?_) rfl
    refine o_e rfl (za8 0 Z Try.func107 N107 rfl rfl rfl (fun w P1 hF hB hS hT => spec_l1In.calls y2 a1 a2 hB hF _ hx13)) (fun _ => ?_)
    refine o_q rfl rfl (q_not rfl) ?_
    refine o_end ?_
    refine za1 ?_
    refine zb0 _ rfl (fun hb15 => ?_) (fun hb15 => ?_)
    · replace hb15 := nt_t hb15
      replace h := bb_f hb15 h
      refine c_seq ?_
      refine za0 ?_
      refine o_q rfl rfl (q_asg rfl) ?_
      refine o_end ?_
      refine za1 ?_
      refine c_ret ?_
      refine zax ?_
      refine zai ?_
      refine zai ?_
      have e_ := Option.some.inj h; replace h := hR7; rw [← e_] at h; clear e_
      refine zax ?_
      refine zai ?_
      have e0_ := Option.some.inj h; clear h
      subst e0_
      exact x_r1 () Try.results143 (zal rfl) rfl (fun w h => za6 [] (by decide) rfl w h)
    · replace hb15 := nt_f hb15
      replace h := bb_t hb15 h
      refine zat ?_
      refine zas ?_
      refine za1 ?_
      refine za0 ?_
      refine o_q rfl rfl (q_up rfl rfl (hr5.up hm6)) ?_
      refine o_q rfl rfl (za2 rfl) ?_
      refine o_end ?_
      refine zar ys3.length (ys3, i1 + 1) (by rw [← hk11]; exact Nat.lt_succ_self _) ⟨hr5.step, rfl, h⟩ ⟨rfl, trivial⟩ (fun w h => za6 [] (by decide) rfl w h) ?_
      repeat (first | exact za9 _ _ | refine zae rfl ?_ | refine zaa rfl ?_ | refine zaf rfl ?_)

/-! ### loop.example/g01098/spec.plGood: function 96 -/
def spec_plGood.l1 : (List (List Int)) → Int → Option ((Bool) ⊕ (Unit))
  | [], i24 => some (.inr ())
  | y25 :: ys26, i24 => (spec_l1All.f y25 0 1000000).bind fun b40 => if b40 = true then (spec_plGood.l1 ys26 (i24 + 1)) else (some (.inl false))
def spec_plGood.l0 (a0_0 : Int) : (List SStep) → Int → Option ((Bool) ⊕ (Unit))
  | [], i8 => some (.inr ())
  | y9 :: ys10, i8 => (spec_l1In.f y9.f0 0 y9.f1).bind fun b46 => if b46 = true then (if w64 (a0_0 + i8) ≤ y9.f1 then (some (.inl false)) else (spec_plGood.l0 a0_0 ys10 (i8 + 1))) else (some (.inl false))
def spec_plGood.f (k : Nat) (a0_0 : Int) (l0_1 : List SStep) (l0_2 : List Int) : Option Bool := (spec_l1In.f a0_0 1 6).bind fun b4 => if b4 = true then (if 40 < (l0_1.length : Int) then (some false) else (if 6 < (l0_2.length : Int) then (some false) else ((spec_plGood.l0 a0_0 l0_1 0).bind fun o_ => match o_ with | .inl r_ => some r_ | .inr _ => (spec_plExponents.f k a0_0 l0_1 l0_2).bind fun l20 => (spec_plGood.l1 l20 0).bind fun o_ => match o_ with | .inl r_ => some r_ | .inr _ => (spec_l1All.f l0_2 0 (w64 (w64 (a0_0 + (l0_1.length : Int)) - 1))).bind fun b36 => some b36))) else (some false)
set_option maxHeartbeats 600000 in
set_option maxRecDepth 100000 in
theorem spec_plGood.calls (k : Nat) {w0 ws : World} {P0 : Nat → Prop} (a0_0 : Int) (A0_1 : Option Addr) (c0_1 : Nat) (n0_1 : Nat) (l0_1 : List SStep) (A0_2 : Option Addr) (c0_2 : Nat) (n0_2 : Nat) (l0_2 : List Int) (Z : Below w0.heap.size w0 ws) (hF : Fr w0 ws P0 [] ws) (R0_1 : Stable ws P0 (fun w => Kd.C kStep w A0_1 n0_1 l0_1)) (hc0_1 : n0_1 ≤ c0_1) (R0_2 : Stable ws P0 (fun w => Kd.C (Kd.int .i64) w A0_2 n0_2 l0_2)) (hc0_2 : n0_2 ≤ c0_2) (r_1 : Bool) (h : spec_plGood.f k a0_0 l0_1 l0_2 = some r_1) :
    Calls Try.prog 96 #[.agg #[.int .i64 a0_0, .slice A0_1 n0_1 c0_1, .slice A0_2 n0_2 c0_2]] ws (Post1 w0 ws P0 (fun (_ : Unit) => .bool r_1) (fun (_ : Unit) => [])) := by
  unfold spec_plGood.f at h
  obtain rfl := (R0_1 ws (KeptB.refl _ _)).1
  obtain rfl := (R0_2 ws (KeptB.refl _ _)).1
  refine enter Try.func96 rfl Try.ntmps96 rfl hF ?_
  refine c_seq ?_
  refine za0 ?_
  refine o_e rfl (e_box rfl) (fun g1 => ?_)
  refine o_q rfl rfl (q_asg rfl) ?_
  refine o_end ?_
  refine za1 ?_
  refine c_seq ?_
  refine c_seq ?_
  refine za0 ?_
  refine o_q rfl rfl (q_f F25_0 rfl) ?_
  refine o_q rfl rfl (q_ldb Y3 rfl (fun w h => h.zaj (i := 0) rfl) rfl) ?_
  refine zab h (fun b4 hx3 h => ?_) rfl
  refine o_e rfl (za8 0 Z Try.func107 N107 rfl rfl rfl (fun w P1 hF hB hS hT => spec_l1In.calls a0_0 1 6 hB hF _ hx3)) (fun _ => ?_)
  refine o_q rfl rfl (q_not rfl) ?_
  refine o_q rfl rfl (za2 rfl) ?_
  refine byB b4 (fun hb5 => ?_) (fun hb5 => ?_)
  · replace h := bb_t hb5 h
    refine o_w (za5 rfl rfl rfl (congrArg (fun b => Value.bool (!(b))) hb5)) rfl (q_f F25_1 rfl) ?_
    refine o_w (za5 rfl rfl rfl (congrArg (fun b => Value.bool (!(b))) hb5)) rfl (q_ldb Y22 rfl (fun w h => h.zaj (i := 0) rfl) rfl) ?_
    refine o_w (za5 rfl rfl rfl (congrArg (fun b => Value.bool (!(b))) hb5)) rfl (q_len Try.underlying22 rfl) ?_
    refine o_w (za5 rfl rfl rfl (congrArg (fun b => Value.bool (!(b))) hb5)) rfl (q_gtr rfl rfl) ?_
    refine o_q rfl rfl (zau false (congrArg (fun b => Value.bool (!(b))) hb5) rfl) ?_
    refine o_q rfl rfl (za2 rfl) ?_
    refine byB (decide (40 < (l0_1.length : Int))) (fun hb6 => ?_) (fun hb6 => ?_)
    · replace h := br_t hb6 h
      refine @o_n _ _ _ _ _ _ _ _ _ _ _ 18 (za4 rfl rfl rfl (congrArg Value.bool hb6) rfl) (Eq.refl (some 18)) ?_
      refine @o_n _ _ _ _ _ _ _ _ _ _ _ 19 (za4 rfl rfl rfl (congrArg Value.bool hb6) rfl) (Eq.refl (some 19)) ?_
      refine @o_n _ _ _ _ _ _ _ _ _ _ _ 20 (za4 rfl rfl rfl (congrArg Value.bool hb6) rfl) (Eq.refl (some 20)) ?_
      refine @o_n _ _ _ _ _ _ _ _ _ _ _ 21 (za4 rfl rfl rfl (congrArg Value.bool hb6) rfl) (Eq.refl (some 21)) ?_
      refine o_q rfl rfl (zau true (congrArg Value.bool hb6) rfl) ?_
      refine o_end ?_
      refine za1 ?_
      refine c_true rfl ?_
      refine c_seq ?_
      refine za0 ?_
      refine o_q rfl rfl (q_asg rfl) ?_
      refine o_end ?_
      refine za1 ?_
      refine c_ret ?_
      refine zai ?_
      have e0_ := Option.some.inj h; clear h
      subst e0_
      exact x_r1 () Try.results96 (zal rfl) rfl (fun w h => za6 [] (by decide) rfl w h)
    · replace h := br_f hb6 h
      refine o_w (za5 rfl rfl rfl (congrArg Value.bool hb6)) rfl (q_f F25_2 rfl) ?_
      refine o_w (za5 rfl rfl rfl (congrArg Value.bool hb6)) rfl (q_ldb Y23 rfl (fun w h => h.zaj (i := 0) rfl) rfl) ?_
      refine o_w (za5 rfl rfl rfl (congrArg Value.bool hb6)) rfl (q_len Try.underlying23 rfl) ?_
      refine o_w (za5 rfl rfl rfl (congrArg Value.bool hb6)) rfl (q_gtr rfl rfl) ?_
      refine o_q rfl rfl (zau false (congrArg Value.bool hb6) rfl) ?_
      refine o_end ?_
      refine za1 ?_
      refine zb0 _ rfl (fun hb7 => ?_) (fun hb7 => ?_)
      · skip
        replace h := br_t hb7 h
        refine c_seq ?_
        refine za0 ?_
        refine o_q rfl rfl (q_asg rfl) ?_
        refine o_end ?_
        refine za1 ?_
        refine c_ret ?_
        refine zai ?_
        have e0_ := Option.some.inj h; clear h
        subst e0_
        exact x_r1 () Try.results96 (zal rfl) rfl (fun w h => za6 [] (by decide) rfl w h)
      · skip
        replace h := br_f hb7 h
        refine zat ?_
        refine za1 ?_
        refine c_seq ?_
        refine c_seq ?_
        refine za0 ?_
        refine o_q rfl rfl (q_f F25_1 rfl) ?_
        refine o_q rfl rfl (q_ldb Y22 rfl (fun w h => h.zaj (i := 0) rfl) rfl) ?_
        refine o_q rfl rfl (q_len Try.underlying22 rfl) ?_
        refine o_q rfl rfl (za2 rfl) ?_
        refine o_end ?_
        refine za1 ?_
        refine zaq ?_
        refine zab h (fun o16 hl15 hR14 => ?_) rfl
        clear h
        refine c_fact (p := l0_1.length ≤ 9223372036854775807) (fun w h => (R0_1.now Z h).2.1) (fun hm13 => ?_)
        refine zb3 (σ := (List SStep) × Int) (fun k11 ((ys10, i8) : (List SStep) × Int) => Rg l0_1 i8 ys10 ∧ ys10.length = k11 ∧ spec_plGood.l0 a0_0 ys10 i8 = some o16) [2, 3, 4, 26, 27, 28, 29, 30, 31, 32, 33, 34, 35, 36, 37, 38, 39, 40, 41, 42, 43, 44, 45, 46] (fun ((ys10, i8) : (List SStep) × Int) => [(26, .int .i64 i8)]) (fun ((ys10, i8) : (List SStep) × Int) => [box g1 25 #[.int .i64 a0_0, .slice A0_1 l0_1.length c0_1, .slice A0_2 l0_2.length c0_2]]) l0_1.length (l0_1, 0) ⟨Rg.start _, rfl, hl15⟩ ⟨rfl, trivial⟩ (fun w h => h) ?_
        refine fun k11 => cur2 (listC (fun i8 U17 hJ_ => ?_) (fun y9 ys10 i8 U17 hJ_ => ?_))
        · skip
          clear hl15
          have hr12 := hJ_.1; have hk18 := hJ_.2.1; have h := hJ_.2.2; clear hJ_
          replace h : spec_plGood.l0 a0_0 [] i8 = some o16 := h
          rw [spec_plGood.l0] at h
          refine c_seq ?_
          refine za0 ?_
          refine o_q rfl rfl (q_lss rfl rfl) ?_
          refine o_end ?_
          refine za1 ?_
          refine c_seq ?_
          refine c_false (congrArg Value.bool hr12.ge) ?_
          refine c_exit ?_
          refine zac ?_
          refine zac ?_
          have e_ := Option.some.inj h; replace h := hR14; rw [← e_] at h; clear e_
          refine x_hit ?_
          refine za1 ?_
          refine c_seq ?_
          refine c_seq ?_
          refine za0 ?_
          refine o_q rfl rfl (q_ldB G25 Z25 rfl (fun w h => h.zaj (i := 0) rfl) rfl) ?_
          refine zab h (fun l20 hx19 h => ?_) rfl
          refine o_e rfl (za8 0 Z Try.func142 N142 rfl rfl rfl (fun w P1 hF hB hS hT => spec_plExponents.calls k a0_0 A0_1 c0_1 l0_1.length l0_1 A0_2 c0_2 l0_2.length l0_2 hB hF (hS _ R0_1) hc0_1 (hS _ R0_2) hc0_2 _ hx19)) (cur3 (fun A21 c22 H23 => ?_))
          refine o_q rfl rfl (q_len Try.underlying47 rfl) ?_
          refine o_q rfl rfl (za2 rfl) ?_
          refine o_end ?_
          refine za1 ?_
          refine zaq ?_
          refine zab h (fun o32 hl31 hR30 => ?_) rfl
          clear h
          refine c_fact (p := l20.length ≤ 9223372036854775807) (fun w h => (h.zaw (i := 0) rfl).2.1) (fun hm29 => ?_)
          refine zb3 (σ := (List (List Int)) × Int) (fun k27 ((ys26, i24) : (List (List Int)) × Int) => Rg l20 i24 ys26 ∧ ys26.length = k27 ∧ spec_plGood.l1 ys26 i24 = some o32) [2, 6, 50, 51, 52, 53, 54, 55, 56, 57] (fun ((ys26, i24) : (List (List Int)) × Int) => [(50, .int .i64 i24)]) (fun ((ys26, i24) : (List (List Int)) × Int) => [row (gk 3 (Kd.int .i64)) 23 (.slice A21 l20.length c22) (zp H23 l20), box g1 25 #[.int .i64 a0_0, .slice A0_1 l0_1.length c0_1, .slice A0_2 l0_2.length c0_2]]) l20.length (l20, 0) ⟨Rg.start _, rfl, hl31⟩ ⟨rfl, trivial⟩ (fun w h => h) ?_
          refine fun k27 => cur2 (listC (fun i24 U33 hJ_ => ?_) (fun y25 ys26 i24 U33 hJ_ => ?_))
          · skip
            clear hl31
            have hr28 := hJ_.1; have hk34 := hJ_.2.1; have h := hJ_.2.2; clear hJ_
            replace h : spec_plGood.l1 [] i24 = some o32 := h
            rw [spec_plGood.l1] at h
            refine c_seq ?_
            refine za0 ?_
            refine o_q rfl rfl (q_lss rfl rfl) ?_
            refine o_end ?_
            refine za1 ?_
            refine c_seq ?_
            refine c_false (congrArg Value.bool hr28.ge) ?_
            refine c_exit ?_
            refine zac ?_
            refine zac ?_
            have e_ := Option.some.inj h; replace h := hR30; rw [← e_] at h; clear e_
            refine x_hit ?_
            refine za1 ?_
            refine c_seq ?_
            refine za0 ?_
            refine o_q rfl rfl (q_f F25_2 rfl) ?_
            refine o_q rfl rfl (q_ldb Y23 rfl (fun w h => h.zaj (i := 1) rfl) rfl) ?_
            refine o_q rfl rfl (q_f F25_0 rfl) ?_
            refine o_q rfl rfl (q_ldb Y3 rfl (fun w h => h.zaj (i := 1) rfl) rfl) ?_
            refine o_q rfl rfl (q_f F25_1 rfl) ?_
            refine o_q rfl rfl (q_ldb Y22 rfl (fun w h => h.zaj (i := 1) rfl) rfl) ?_
            refine o_q rfl rfl (q_len Try.underlying22 rfl) ?_
            refine o_q rfl rfl (zb7 rfl rfl) ?_
            refine o_q rfl rfl (zb5 rfl rfl) ?_
            refine zab h (fun b36 hx35 h => ?_) rfl
            refine o_e rfl (za8 0 Z Try.func143 N143 rfl rfl rfl (fun w P1 hF hB hS hT => spec_l1All.calls A0_2 c0_2 l0_2.length l0_2 0 (w64 (w64 (a0_0 + (l0_1.length : Int)) - 1)) hB hF (hS _ R0_2) hc0_2 _ hx35)) (fun _ => ?_)
            refine o_q rfl rfl (q_asg rfl) ?_
            refine o_end ?_
            refine za1 ?_
            refine c_ret ?_
            have e0_ := Option.some.inj h; clear h
            subst e0_
            exact x_r1 () Try.results96 (zal rfl) rfl (fun w h => za6 [] (by decide) rfl w h)
          · skip
            clear hl31
            have hr28 := hJ_.1; have hk34 := hJ_.2.1; have h := hJ_.2.2; clear hJ_
            replace h : spec_plGood.l1 (y25 :: ys26) i24 = some o32 := h
            rw [spec_plGood.l1] at h
            refine c_seq ?_
            refine za0 ?_
            refine o_q rfl rfl (q_lss rfl rfl) ?_
            refine o_end ?_
            refine za1 ?_
            refine c_seq ?_
            refine c_true (congrArg Value.bool hr28.lt) ?_
            refine zat ?_
            refine za1 ?_
            refine c_seq ?_
            refine zaq ?_
            refine c_seq ?_
            refine za0 ?_
            refine zb4 (p := Sh A21 l20.length (zp H23 l20).length) (fun w h => f_sh (dk := (gk 3 (Kd.int .i64))) h (fun w h => h.zaw (i := 0) rfl)) (fun hq37 => ?_)
            refine o_q rfl rfl (q_ix Try.underlying47 Z23 rfl rfl hq37 (gt_zp hr28.get)) ?_
            refine zb4 (p := y25.length ≤ hC H23 i24) (fun w h => (K_in (h.zaw (i := 0) rfl) hr28.get).1) (fun hc38 => ?_)
            refine o_q rfl rfl (q_lde (off := 0) Y23 rfl rfl (fun w h => h.zaw (i := 0) rfl) (gt_zp hr28.get) (fun _ _ h => h.1) rfl) ?_
            refine o_q rfl rfl (q_asg rfl) ?_
            refine o_end ?_
            refine za1 ?_
            refine c_seq ?_
            refine za0 ?_
            refine o_q rfl rfl (za2 rfl) ?_
            refine zab h (fun b40 hx39 h => ?_) rfl
            refine o_e rfl (za8 0 Z Try.func143 N143 rfl rfl rfl (fun w P1 hF hB hS hT => spec_l1All.calls (hA H23 i24) (hC H23 i24) y25.length y25 0 1000000 hB hF (stab_in (hT 0 _ rfl).row hr28.get) hc38 _ hx39)) (fun _ => ?_)
            refine o_q rfl rfl (q_not rfl) ?_
            refine o_end ?_
            refine za1 ?_
            refine zb0 _ rfl (fun hb41 => ?_) (fun hb41 => ?_)
            · replace hb41 := nt_t hb41
              replace h := bb_f hb41 h
              refine c_seq ?_
              refine za0 ?_
              refine o_q rfl rfl (q_asg rfl) ?_
              refine o_end ?_
              refine za1 ?_
              refine c_ret ?_
              refine zax ?_
              refine zai ?_
              refine zai ?_
              have e_ := Option.some.inj h; replace h := hR30; rw [← e_] at h; clear e_
              refine zax ?_
              refine zai ?_
              have e0_ := Option.some.inj h; clear h
              subst e0_
              exact x_r1 () Try.results96 (zal rfl) rfl (fun w h => za6 [] (by decide) rfl w h)
            · replace hb41 := nt_f hb41
              replace h := bb_t hb41 h
              refine zat ?_
              refine zas ?_
              refine za1 ?_
              refine za0 ?_
              refine o_q rfl rfl (q_up rfl rfl (hr28.up hm29)) ?_
              refine o_q rfl rfl (za2 rfl) ?_
              refine o_end ?_
              refine zar ys26.length (ys26, i24 + 1) (by rw [← hk34]; exact Nat.lt_succ_self _) ⟨hr28.step, rfl, h⟩ ⟨rfl, trivial⟩ (fun w h => za6 [0, 1] (by decide) rfl w h) ?_
              repeat (first | exact za9 _ _ | refine zae rfl ?_ | refine zaa rfl ?_ | refine zaf rfl ?_)
        · skip
          clear hl15
          have hr12 := hJ_.1; have hk18 := hJ_.2.1; have h := hJ_.2.2; clear hJ_
          replace h : spec_plGood.l0 a0_0 (y9 :: ys10) i8 = some o16 := h
          rw [spec_plGood.l0] at h
          refine c_seq ?_
          refine za0 ?_
          refine o_q rfl rfl (q_lss rfl rfl) ?_
          refine o_end ?_
          refine za1 ?_
          refine c_seq ?_
          refine c_true (congrArg Value.bool hr12.lt) ?_
          refine zat ?_
          refine za1 ?_
          refine c_seq ?_
          refine zaq ?_
          refine c_seq ?_
          refine za0 ?_
          refine o_q rfl rfl (za2 rfl) ?_
          refine zb4 (p := Sh A0_1 l0_1.length l0_1.length) (fun w h => f_sh (dk := kStep) h (fun w h => R0_1.now Z h)) (fun hq42 => ?_)
          refine o_q rfl rfl (q_ix Try.underlying22 Z107 rfl rfl hq42 hr12.get) ?_
          refine o_q rfl rfl (q_ldE G107 Z107 rfl rfl (fun w h => R0_1.now Z h) hr12.get (fun _ _ h => h) rfl) ?_
          refine o_e rfl (zam V107 rfl) (fun g43 => ?_)
          refine o_q rfl rfl (q_asg rfl) ?_
          refine o_e rfl (zav (i := 0) rfl rfl rfl Z107 rfl rfl) (fun _ => ?_)
          refine o_end ?_
          refine za1 ?_
          refine c_seq ?_
          refine za0 ?_
          refine o_q rfl rfl (q_f F107_0 rfl) ?_
          refine o_q rfl rfl (q_ldb Y3 rfl (fun w h => h.zaj (i := 0) rfl) rfl) ?_
          refine o_q rfl rfl (q_f F107_1 rfl) ?_
          refine o_q rfl rfl (q_ldb Y3 rfl (fun w h => h.zaj (i := 0) rfl) rfl) ?_
          refine zab h (fun b46 hx45 h => ?_) rfl
          refine o_e rfl (za8 0 Z Try.func107 N107 rfl rfl rfl (fun w P1 hF hB hS hT => spec_l1In.calls y9.f0 0 y9.f1 hB hF _ hx45)) (fun _ => ?_)
          refine o_q rfl rfl (q_not rfl) ?_
          refine o_q rfl rfl (za2 rfl) ?_
          refine byB b46 (fun hb47 => ?_) (fun hb47 => ?_)
          · replace h := bb_t hb47 h
            refine o_w (za5 rfl rfl rfl (congrArg (fun b => Value.bool (!(b))) hb47)) rfl (q_f F107_1 rfl) ?_
            refine o_w (za5 rfl rfl rfl (congrArg (fun b => Value.bool (!(b))) hb47)) rfl (q_ldb Y3 rfl (fun w h => h.zaj (i := 0) rfl) rfl) ?_
            refine o_w (za5 rfl rfl rfl (congrArg (fun b => Value.bool (!(b))) hb47)) rfl (q_f F25_0 rfl) ?_
            refine o_w (za5 rfl rfl rfl (congrArg (fun b => Value.bool (!(b))) hb47)) rfl (q_ldb Y3 rfl (fun w h => h.zaj (i := 1) rfl) rfl) ?_
            refine o_w (za5 rfl rfl rfl (congrArg (fun b => Value.bool (!(b))) hb47)) rfl (za2 rfl) ?_
            refine o_w (za5 rfl rfl rfl (congrArg (fun b => Value.bool (!(b))) hb47)) rfl (zb7 rfl rfl) ?_
            refine o_w (za5 rfl rfl rfl (congrArg (fun b => Value.bool (!(b))) hb47)) rfl (q_geq rfl rfl) ?_
            refine o_q rfl rfl (zau false (congrArg (fun b => Value.bool (!(b))) hb47) rfl) ?_
            refine o_end ?_
            refine za1 ?_
            refine zb0 _ rfl (fun hb48 => ?_) (fun hb48 => ?_)
            · skip
              replace h := br_t hb48 h
              refine c_seq ?_
              refine za0 ?_
              refine o_q rfl rfl (q_asg rfl) ?_
              refine o_end ?_
              refine za1 ?_
              refine c_ret ?_
              refine zax ?_
              refine zai ?_
              refine zai ?_
              have e_ := Option.some.inj h; replace h := hR14; rw [← e_] at h; clear e_
              refine zax ?_
              refine zai ?_
              have e0_ := Option.some.inj h; clear h
              subst e0_
              exact x_r1 () Try.results96 (zal rfl) rfl (fun w h => za6 [] (by decide) rfl w h)
            · skip
              replace h := br_f hb48 h
              refine zat ?_
              refine zas ?_
              refine za1 ?_
              refine za0 ?_
              refine o_q rfl rfl (q_up rfl rfl (hr12.up hm13)) ?_
              refine o_q rfl rfl (za2 rfl) ?_
              refine o_end ?_
              refine zar ys10.length (ys10, i8 + 1) (by rw [← hk18]; exact Nat.lt_succ_self _) ⟨hr12.step, rfl, h⟩ ⟨rfl, trivial⟩ (fun w h => za6 [1] (by decide) rfl w h) ?_
              repeat (first | exact za9 _ _ | refine zae rfl ?_ | refine zaa rfl ?_ | refine zaf rfl ?_)
          · replace h := bb_f hb47 h
            refine @o_n _ _ _ _ _ _ _ _ _ _ _ 38 (za4 rfl rfl rfl (congrArg (fun b => Value.bool (!(b))) hb47) rfl) (Eq.refl (some 38)) ?_
            refine @o_n _ _ _ _ _ _ _ _ _ _ _ 39 (za4 rfl rfl rfl (congrArg (fun b => Value.bool (!(b))) hb47) rfl) (Eq.refl (some 39)) ?_
            refine @o_n _ _ _ _ _ _ _ _ _ _ _ 40 (za4 rfl rfl rfl (congrArg (fun b => Value.bool (!(b))) hb47) rfl) (Eq.refl (some 40)) ?_
            refine @o_n _ _ _ _ _ _ _ _ _ _ _ 41 (za4 rfl rfl rfl (congrArg (fun b => Value.bool (!(b))) hb47) rfl) (Eq.refl (some 41)) ?_
            refine @o_n _ _ _ _ _ _ _ _ _ _ _ 42 (za4 rfl rfl rfl (congrArg (fun b => Value.bool (!(b))) hb47) rfl) (Eq.refl (some 42)) ?_
            refine @o_n _ _ _ _ _ _ _ _ _ _ _ 43 (za4 rfl rfl rfl (congrArg (fun b => Value.bool (!(b))) hb47) rfl) (Eq.refl (some 43)) ?_
            refine @o_n _ _ _ _ _ _ _ _ _ _ _ 44 (za4 rfl rfl rfl (congrArg (fun b => Value.bool (!(b))) hb47) rfl) (Eq.refl (some 44)) ?_
            refine o_q rfl rfl (zau true (congrArg (fun b => Value.bool (!(b))) hb47) rfl) ?_
            refine o_end ?_
            refine za1 ?_
            refine c_true rfl ?_
            refine c_seq ?_
            refine za0 ?_
            refine o_q rfl rfl (q_asg rfl) ?_
            refine o_end ?_
            refine za1 ?_
            refine c_ret ?_
            refine zax ?_
            refine zai ?_
            refine zai ?_
            have e_ := Option.some.inj h; replace h := hR14; rw [← e_] at h; clear e_
            refine zax ?_
            refine zai ?_
            have e0_ := Option.some.inj h; clear h
            subst e0_
            exact x_r1 () Try.results96 (zal rfl) rfl (fun w h => za6 [] (by decide) rfl w h)
  · replace h := bb_f hb5 h
    refine @o_n _ _ _ _ _ _ _ _ _ _ _ 12 (za4 rfl rfl rfl (congrArg (fun b => Value.bool (!(b))) hb5) rfl) (Eq.refl (some 12)) ?_
    refine @o_n _ _ _ _ _ _ _ _ _ _ _ 13 (za4 rfl rfl rfl (congrArg (fun b => Value.bool (!(b))) hb5) rfl) (Eq.refl (some 13)) ?_
    refine @o_n _ _ _ _ _ _ _ _ _ _ _ 14 (za4 rfl rfl rfl (congrArg (fun b => Value.bool (!(b))) hb5) rfl) (Eq.refl (some 14)) ?_
    refine @o_n _ _ _ _ _ _ _ _ _ _ _ 15 (za4 rfl rfl rfl (congrArg (fun b => Value.bool (!(b))) hb5) rfl) (Eq.refl (some 15)) ?_
    refine o_q rfl rfl (zau true (congrArg (fun b => Value.bool (!(b))) hb5) rfl) ?_
    refine o_q rfl rfl (za2 rfl) ?_
    refine @o_n _ _ _ _ _ _ _ _ _ _ _ 18 (za4 rfl rfl rfl rfl rfl) (Eq.refl (some 18)) ?_
    refine @o_n _ _ _ _ _ _ _ _ _ _ _ 19 (za4 rfl rfl rfl rfl rfl) (Eq.refl (some 19)) ?_
    refine @o_n _ _ _ _ _ _ _ _ _ _ _ 20 (za4 rfl rfl rfl rfl rfl) (Eq.refl (some 20)) ?_
    refine @o_n _ _ _ _ _ _ _ _ _ _ _ 21 (za4 rfl rfl rfl rfl rfl) (Eq.refl (some 21)) ?_
    refine o_q rfl rfl (zau true rfl rfl) ?_
    refine o_end ?_
    refine za1 ?_
    refine c_true rfl ?_
    refine c_seq ?_
    refine za0 ?_
    refine o_q rfl rfl (q_asg rfl) ?_
    refine o_end ?_
    refine za1 ?_
    refine c_ret ?_
    refine zai ?_
    have e0_ := Option.some.inj h; clear h
    subst e0_
    exact x_r1 () Try.results96 (zal rfl) rfl (fun w h => za6 [] (by decide) rfl w h)

end Go.Proofs.Ytiaohjciddbpoaa.H3
