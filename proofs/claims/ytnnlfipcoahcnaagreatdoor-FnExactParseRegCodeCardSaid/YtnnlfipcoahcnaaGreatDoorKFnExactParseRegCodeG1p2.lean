import Derived.Test.YtnnlfipcoahcnaaGreatDoorKFnExactParseRegCodeG1p1
namespace Go.Proofs.YtnnlfipcoahcnaaGreatDoor.G1
open Go.RowKit Go.Proofs.YtnnlfipcoahcnaaGreatDoor.Frame Go.Proofs.YtnnlfipcoahcnaaGreatDoorW.PrintLast Go.Proofs.YtnnlfipcoahcnaaGreatDoor.Hand
open Go.Proofs.YtnnlfipcoahcnaaGreatDoorW.PrintWords hiding mn mx
set_option linter.unusedVariables false
/-! ### loop.example/g01098/spec.l1Least: function 68 -/
def spec_l1Least.f (a0 : Int) (a1 : Int) : Option Int := if a0 < a1 then (some a0) else (some a1)
set_option maxHeartbeats 600000 in
set_option maxRecDepth 100000 in
theorem spec_l1Least.calls {w0 ws : World} {P0 : Nat → Prop} (a0 : Int) (a1 : Int) (Z : Below w0.heap.size w0 ws) (hF : Fr w0 ws P0 [] ws)  (r_1 : Int) (h : spec_l1Least.f a0 a1 = some r_1) :
    Calls Tryz.prog 68 #[.int .i64 a0, .int .i64 a1] ws (Post1 w0 ws P0 (fun (_ : Unit) => .int .i64 r_1) (fun (_ : Unit) => [])) := by
  unfold spec_l1Least.f at h
  refine enter Tryz.func68 rfl Tryz.ntmps68 rfl hF ?_
  refine c_seq ?_
  refine za0 ?_
  refine o_q rfl rfl (q_asg rfl) ?_
  refine o_end ?_
  refine za1 ?_
  refine c_seq ?_
  refine c_seq ?_
  refine za0 ?_
  refine o_q rfl rfl (za2 rfl) ?_
  refine o_q rfl rfl (za2 rfl) ?_
  refine o_q rfl rfl (q_lss rfl rfl) ?_
  refine o_end ?_
  refine za1 ?_
  refine zaq _ rfl (fun hb1 => ?_) (fun hb1 => ?_)
  · skip
    replace h := br_t hb1 h
    refine c_seq ?_
    refine za0 ?_
    refine o_q rfl rfl (za2 rfl) ?_
    refine o_q rfl rfl (q_asg rfl) ?_
    refine o_end ?_
    refine za1 ?_
    refine c_ret ?_
    refine za5 ?_
    have e0_ := Option.some.inj h; clear h
    subst e0_
    exact x_r1 () Tryz.results68 (zaf rfl) rfl (fun w h => za7 [] (by decide) rfl w h)
  · skip
    replace h := br_f hb1 h
    refine zak ?_
    refine za1 ?_
    refine c_seq ?_
    refine za0 ?_
    refine o_q rfl rfl (za2 rfl) ?_
    refine o_q rfl rfl (q_asg rfl) ?_
    refine o_end ?_
    refine za1 ?_
    refine c_ret ?_
    have e0_ := Option.some.inj h; clear h
    subst e0_
    exact x_r1 () Tryz.results68 (zaf rfl) rfl (fun w h => za7 [] (by decide) rfl w h)

/-! ### loop.example/g01098/spec.l1Most: function 67 -/
def spec_l1Most.f (a0 : Int) (a1 : Int) : Option Int := if a1 < a0 then (some a0) else (some a1)
set_option maxHeartbeats 600000 in
set_option maxRecDepth 100000 in
theorem spec_l1Most.calls {w0 ws : World} {P0 : Nat → Prop} (a0 : Int) (a1 : Int) (Z : Below w0.heap.size w0 ws) (hF : Fr w0 ws P0 [] ws)  (r_1 : Int) (h : spec_l1Most.f a0 a1 = some r_1) :
    Calls Tryz.prog 67 #[.int .i64 a0, .int .i64 a1] ws (Post1 w0 ws P0 (fun (_ : Unit) => .int .i64 r_1) (fun (_ : Unit) => [])) := by
  unfold spec_l1Most.f at h
  refine enter Tryz.func67 rfl Tryz.ntmps67 rfl hF ?_
  refine c_seq ?_
  refine za0 ?_
  refine o_q rfl rfl (q_asg rfl) ?_
  refine o_end ?_
  refine za1 ?_
  refine c_seq ?_
  refine c_seq ?_
  refine za0 ?_
  refine o_q rfl rfl (za2 rfl) ?_
  refine o_q rfl rfl (za2 rfl) ?_
  refine o_q rfl rfl (q_gtr rfl rfl) ?_
  refine o_end ?_
  refine za1 ?_
  refine zaq _ rfl (fun hb1 => ?_) (fun hb1 => ?_)
  · skip
    replace h := br_t hb1 h
    refine c_seq ?_
    refine za0 ?_
    refine o_q rfl rfl (za2 rfl) ?_
    refine o_q rfl rfl (q_asg rfl) ?_
    refine o_end ?_
    refine za1 ?_
    refine c_ret ?_
    refine za5 ?_
    have e0_ := Option.some.inj h; clear h
    subst e0_
    exact x_r1 () Tryz.results67 (zaf rfl) rfl (fun w h => za7 [] (by decide) rfl w h)
  · skip
    replace h := br_f hb1 h
    refine zak ?_
    refine za1 ?_
    refine c_seq ?_
    refine za0 ?_
    refine o_q rfl rfl (za2 rfl) ?_
    refine o_q rfl rfl (q_asg rfl) ?_
    refine o_end ?_
    refine za1 ?_
    refine c_ret ?_
    have e0_ := Option.some.inj h; clear h
    subst e0_
    exact x_r1 () Tryz.results67 (zaf rfl) rfl (fun w h => za7 [] (by decide) rfl w h)

/-! ### loop.example/g01098/spec.plStep: function 96 -/
def spec_plStep.f (a0 : Int) (a1 : Int) : Option SStep := (spec_l1Least.f a0 a1).bind fun i4 => (spec_l1Most.f a0 a1).bind fun i6 => some (⟨i4, i6⟩ : SStep)
set_option maxHeartbeats 600000 in
set_option maxRecDepth 100000 in
theorem spec_plStep.calls {w0 ws : World} {P0 : Nat → Prop} (a0 : Int) (a1 : Int) (Z : Below w0.heap.size w0 ws) (hF : Fr w0 ws P0 [] ws)  (r_1 : SStep) (h : spec_plStep.f a0 a1 = some r_1) :
    Calls Tryz.prog 96 #[.int .i64 a0, .int .i64 a1] ws (Post1 w0 ws P0 (fun (_ : Unit) => .agg #[.int .i64 r_1.f0, .int .i64 r_1.f1]) (fun (_ : Unit) => [])) := by
  unfold spec_plStep.f at h
  refine enter Tryz.func96 rfl Tryz.ntmps96 rfl hF ?_
  refine c_seq ?_
  refine za0 ?_
  refine o_e rfl (zau V72 rfl) (fun g1 => ?_)
  refine o_end ?_
  refine za1 ?_
  refine c_seq ?_
  refine za0 ?_
  refine o_q rfl rfl (za2 rfl) ?_
  refine o_q rfl rfl (za2 rfl) ?_
  refine za6 h (fun i4 hx3 h => ?_) rfl
  refine o_e rfl (za9 0 Z Tryz.func68 N68 rfl rfl rfl (fun w P1 hF hB hS hT => spec_l1Least.calls a0 a1 hB hF _ hx3)) (fun _ => ?_)
  refine o_q rfl rfl (za2 rfl) ?_
  refine o_q rfl rfl (za2 rfl) ?_
  refine za6 h (fun i6 hx5 h => ?_) rfl
  refine o_e rfl (za9 0 Z Tryz.func67 N67 rfl rfl rfl (fun w P1 hF hB hS hT => spec_l1Most.calls a0 a1 hB hF _ hx5)) (fun _ => ?_)
  refine o_q rfl rfl (q_build (vs := [(0, .int .i64 i4), (1, .int .i64 i6)]) (cs := [.int .i64 i4, .int .i64 i6]) rfl rfl) ?_
  refine o_e rfl (zam (i := 0) rfl rfl rfl Z72 rfl rfl) (fun _ => ?_)
  refine o_end ?_
  refine za1 ?_
  refine c_ret ?_
  have e0_ := Option.some.inj h; clear h
  subst e0_
  exact x_r1 () Tryz.results96 (rv_cell rfl G72 Z72 (fun w h => h.zae (i := 0) rfl) rfl) rfl (fun w h => za7 [] (by decide) rfl w h)

/-! ### loop.example/g01098/spec.reValues: function 124 -/
def spec_reValues.l2 (l0_1 : List Int) : (List SRegOp) → (List Int) → (List SStep) → Int → Option (((List Int) × (List SStep) × Bool) ⊕ ((List Int) × (List SStep)))
  | [], l41, l42, i45 => some (.inr (l41, l42))
  | y46 :: ys47, l41, l42, i45 => ((gt l41 y46.f1).bind fun y74 => if y74 < 0 then (some true) else ((gt l41 y46.f2).bind fun y77 => some (decide (y77 < 0)))).bind fun b66 => if b66 = true then (some (.inl (([] : List Int), ([] : List SStep), false))) else ((gt l41 y46.f1).bind fun y81 => (gt l41 y46.f2).bind fun y83 => (spec_plStep.f y81 y83).bind fun z85 => (ap l42 ([z85] : List SStep)).bind fun l89 => (gt l41 y46.f0).bind fun y94 => (st l41 y46.f0 (w64 (w64 ((l0_1.length : Int) + (l89.length : Int)) - 1))).bind fun l95 => spec_reValues.l2 l0_1 ys47 l95 l89 (i45 + 1))
def spec_reValues.l1 : (List Int) → (List Int) → Int → Option (List Int)
  | [], l26, i27 => some l26
  | y28 :: ys29, l26, i27 => (gt l26 y28).bind fun y100 => (st l26 y28 i27).bind fun l101 => spec_reValues.l1 ys29 l101 (i27 + 1)
def spec_reValues.l0 (a0_0 : Int) : Nat → (List Int) → Int → Option (List Int)
  | 0, _, _ => none
  | k10 + 1, l4, i7 => if i7 < a0_0 then ((ap l4 ([(-1)] : List Int)).bind fun l22 => spec_reValues.l0 a0_0 k10 l22 (w64 (i7 + 1))) else (some l4)
def spec_reValues.f (k : Nat) (a0_0 : Int) (l0_1 : List Int) (l0_2 : List SRegOp) (l0_3 : List Int) (a1 : Int) : Option ((List Int) × (List SStep) × Bool) := (spec_reValues.l0 a0_0 k ([] : List Int) 0).bind fun l4 => (spec_reValues.l1 l0_1 l4 0).bind fun l26 => (ct l0_2 (0 : Int) a1).bind fun l38 => (spec_reValues.l2 l0_1 l38 l26 ([] : List SStep) 0).bind fun o_ => match o_ with | .inl r_ => some r_ | .inr (l41, l42) => some (l41, l42, true)
set_option maxHeartbeats 600000 in
set_option maxRecDepth 100000 in
theorem spec_reValues.calls (k : Nat) {w0 ws : World} {P0 : Nat → Prop} (a0_0 : Int) (A0_1 : Option Addr) (c0_1 : Nat) (n0_1 : Nat) (l0_1 : List Int) (A0_2 : Option Addr) (c0_2 : Nat) (n0_2 : Nat) (l0_2 : List SRegOp) (A0_3 : Option Addr) (c0_3 : Nat) (n0_3 : Nat) (l0_3 : List Int) (a1 : Int) (Z : Below w0.heap.size w0 ws) (hF : Fr w0 ws P0 [] ws) (R0_1 : Stable ws P0 (fun w => Kd.C (Kd.int .i64) w A0_1 n0_1 l0_1)) (hc0_1 : n0_1 ≤ c0_1) (R0_2 : Stable ws P0 (fun w => Kd.C zax w A0_2 n0_2 l0_2)) (hc0_2 : n0_2 ≤ c0_2) (R0_3 : Stable ws P0 (fun w => Kd.C (Kd.int .i64) w A0_3 n0_3 l0_3)) (hc0_3 : n0_3 ≤ c0_3) (r_1 : List Int) (r_4 : List SStep) (r_7 : Bool) (h : spec_reValues.f k a0_0 l0_1 l0_2 l0_3 a1 = some (r_1, r_4, r_7)) :
    Calls Tryz.prog 124 #[.agg #[.int .i64 a0_0, .slice A0_1 n0_1 c0_1, .slice A0_2 n0_2 c0_2, .slice A0_3 n0_3 c0_3], .int .i64 a1] ws (Post1 w0 ws P0 (fun ((q_2, q_3, q_5, q_6) : (Option Addr) × Nat × (Option Addr) × Nat) => .tuple #[.slice q_2 r_1.length q_3, .slice q_5 r_4.length q_6, .bool r_7]) (fun ((q_2, q_3, q_5, q_6) : (Option Addr) × Nat × (Option Addr) × Nat) => [row (Kd.int .i64) 3 (.slice q_2 r_1.length q_3) r_1, row kStep 72 (.slice q_5 r_4.length q_6) r_4])) := by
  unfold spec_reValues.f at h
  obtain rfl := (R0_1 ws (KeptB.refl _ _)).1
  obtain rfl := (R0_2 ws (KeptB.refl _ _)).1
  obtain rfl := (R0_3 ws (KeptB.refl _ _)).1
  refine enter Tryz.func124 rfl Tryz.ntmps124 rfl hF ?_
  refine c_seq ?_
  refine za0 ?_
  refine o_e rfl (e_box rfl) (fun g1 => ?_)
  refine o_q rfl rfl (q_asg rfl) ?_
  refine o_q rfl rfl (q_asg rfl) ?_
  refine o_q rfl rfl (q_asg rfl) ?_
  refine o_end ?_
  refine za1 ?_
  refine c_seq ?_
  refine za0 ?_
  refine o_q rfl rfl (q_asg rfl) ?_
  refine o_end ?_
  refine za1 ?_
  refine c_seq ?_
  refine c_seq ?_
  refine za0 ?_
  refine o_q rfl rfl (q_asg rfl) ?_
  refine o_end ?_
  refine za1 ?_
  refine zal ?_
  refine c_nil (Kd.int .i64) 3 ?_
  refine za6 h (fun o15 hl14 hR13 => ?_) rfl
  clear h
  refine zb1 (σ := (List Int) × Int × (Option Addr) × Nat) (fun k10 ((l4, i7, A5, c6) : (List Int) × Int × (Option Addr) × Nat) => spec_reValues.l0 a0_0 k10 l4 i7 = some o15) [7, 8, 14, 15, 16, 17, 18, 19, 20, 21, 22] (fun ((l4, i7, A5, c6) : (List Int) × Int × (Option Addr) × Nat) => [(7, .slice A5 l4.length c6), (8, .int .i64 i7)]) (fun ((l4, i7, A5, c6) : (List Int) × Int × (Option Addr) × Nat) => [row (Kd.int .i64) 3 (.slice A5 l4.length c6) l4, box g1 38 #[.int .i64 a0_0, .slice A0_1 l0_1.length c0_1, .slice A0_2 l0_2.length c0_2, .slice A0_3 l0_3.length c0_3]]) k (([] : List Int), 0, none, 0) hl14 ⟨rfl, rfl, trivial⟩ (fun w h => h) ?_
  refine natC (cur4 (fun l4 i7 A5 c6 => fun U16 hJ_ => ?_)) (fun k10 => (cur4 (fun l4 i7 A5 c6 => fun U16 hJ_ => ?_)))
  · skip
    replace hJ_ : spec_reValues.l0 a0_0 0 l4 i7 = some o15 := hJ_
    rw [spec_reValues.l0] at hJ_
    exact noneE hJ_
  · skip
    clear hl14
    have h := hJ_; clear hJ_
    replace h : spec_reValues.l0 a0_0 (k10 + 1) l4 i7 = some o15 := h
    rw [spec_reValues.l0] at h
    refine c_seq ?_
    refine c_seq ?_
    refine za0 ?_
    refine o_q rfl rfl (za2 rfl) ?_
    refine o_q rfl rfl (q_f F38_0 rfl) ?_
    refine o_q rfl rfl (q_ldb Y3 rfl (fun w h => h.zae (i := 1) rfl) rfl) ?_
    refine o_q rfl rfl (q_lss rfl rfl) ?_
    refine o_end ?_
    refine za1 ?_
    refine zaq _ rfl (fun hb18 => ?_) (fun hb18 => ?_)
    · skip
      replace h := br_t hb18 h
      refine zak ?_
      refine za1 ?_
      refine c_seq ?_
      refine zal ?_
      refine za0 ?_
      refine o_q rfl rfl (za2 rfl) ?_
      refine o_e rfl (e_lit (vs := [(0, .int .i64 (-1))]) (cs := [.int .i64 (-1)]) (Kd.int .i64) ([(-1)] : List Int) Tryz.underlying25 I3 (by decide) rfl (by decide) rfl rfl (fun _ _ => Kd.zav _)) (cur2 (fun A19 c20 => ?_))
      refine za6 h (fun l22 ha23 h => ?_) rfl
      refine o_e rfl (e_app (i := 1) (j := 0) Tryz.underlying25 I3 rfl (by decide) (by decide) rfl rfl rfl rfl rfl ha23) (cur2 (fun A24 c25 => ?_))
      refine o_q rfl rfl (q_asg rfl) ?_
      refine o_end ?_
      refine zaw ?_
      refine za1 ?_
      refine za0 ?_
      refine o_q rfl rfl (za2 rfl) ?_
      refine o_q rfl rfl (q_add64 rfl rfl) ?_
      refine o_q rfl rfl (q_asg rfl) ?_
      refine o_end ?_
      refine zao k10 (l22, w64 (i7 + 1), A24, c25) (Nat.lt_succ_self _) h ⟨rfl, rfl, trivial⟩ (fun w h => za7 [1, 2] (by decide) rfl w h) ?_
      repeat (first | exact zac _ _ | refine zai rfl ?_ | refine zad rfl ?_ | refine zaj rfl ?_)
    · skip
      replace h := br_f hb18 h
      refine c_exit ?_
      refine zaa ?_
      refine zaa ?_
      have e_ := Option.some.inj h; replace h := hR13; rw [← e_] at h; clear e_
      refine x_hit ?_
      refine za1 ?_
      refine c_seq ?_
      refine c_seq ?_
      refine za0 ?_
      refine o_q rfl rfl (q_f F38_1 rfl) ?_
      refine o_q rfl rfl (q_ldb Y25 rfl (fun w h => h.zae (i := 1) rfl) rfl) ?_
      refine o_q rfl rfl (q_len Tryz.underlying25 rfl) ?_
      refine o_q rfl rfl (za2 rfl) ?_
      refine o_end ?_
      refine za1 ?_
      refine zal ?_
      refine za6 h (fun o35 hl34 hR33 => ?_) rfl
      clear h
      refine c_fact (p := l0_1.length ≤ 9223372036854775807) (fun w h => (R0_1.now Z h).2.1) (fun hm32 => ?_)
      refine zb1 (σ := (List Int) × (List Int) × Int) (fun k30 ((ys29, l26, i27) : (List Int) × (List Int) × Int) => Rg l0_1 i27 ys29 ∧ ys29.length = k30 ∧ spec_reValues.l1 ys29 l26 i27 = some o35) [9, 10, 26, 27, 28, 29, 30, 31, 32, 33, 34, 35] (fun ((ys29, l26, i27) : (List Int) × (List Int) × Int) => [(26, .int .i64 i27)]) (fun ((ys29, l26, i27) : (List Int) × (List Int) × Int) => [row (Kd.int .i64) 3 (.slice A5 l4.length c6) l26, box g1 38 #[.int .i64 a0_0, .slice A0_1 l0_1.length c0_1, .slice A0_2 l0_2.length c0_2, .slice A0_3 l0_3.length c0_3]]) l0_1.length (l0_1, l4, 0) ⟨Rg.start _, rfl, hl34⟩ ⟨rfl, trivial⟩ (fun w h => h) ?_
      refine fun k30 => cur3 (listC (fun l26 i27 U36 hJ_ => ?_) (fun y28 ys29 l26 i27 U36 hJ_ => ?_))
      · skip
        clear hl34
        have hr31 := hJ_.1; have hk37 := hJ_.2.1; have h := hJ_.2.2; clear hJ_
        replace h : spec_reValues.l1 [] l26 i27 = some o35 := h
        rw [spec_reValues.l1] at h
        refine c_seq ?_
        refine za0 ?_
        refine o_q rfl rfl (q_lss rfl rfl) ?_
        refine o_end ?_
        refine za1 ?_
        refine c_seq ?_
        refine c_false (congrArg Value.bool hr31.ge) ?_
        refine c_exit ?_
        refine zaa ?_
        refine zaa ?_
        have e_ := Option.some.inj h; replace h := hR33; rw [← e_] at h; clear e_
        refine x_hit ?_
        refine za1 ?_
        refine c_seq ?_
        refine za0 ?_
        refine o_q rfl rfl (q_asg rfl) ?_
        refine o_end ?_
        refine za1 ?_
        refine c_seq ?_
        refine c_seq ?_
        refine za0 ?_
        refine o_q rfl rfl (q_f F38_2 rfl) ?_
        refine o_q rfl rfl (q_ldb Y36 rfl (fun w h => h.zae (i := 1) rfl) rfl) ?_
        refine o_q rfl rfl (za2 rfl) ?_
        refine za6 h (fun l38 hz39 h => ?_) rfl
        refine o_q rfl rfl (q_ctv Tryz.underlying36 Z84 rfl rfl ⟨_, rfl⟩ rfl hc0_2 hz39) ?_
        refine o_q rfl rfl (q_len Tryz.underlying36 rfl) ?_
        refine o_q rfl rfl (za2 rfl) ?_
        refine o_end ?_
        refine za1 ?_
        refine zal ?_
        refine c_nil kStep 72 ?_
        refine za6 h (fun o53 hl52 hR51 => ?_) rfl
        clear h
        refine c_fact (p := l38.length ≤ 9223372036854775807) (fun w h => (C_cut (dk := zax) rfl hz39 hc0_2 (R0_2.now Z h)).2.1) (fun hm50 => ?_)
        refine zb1 (σ := (List SRegOp) × (List Int) × (List SStep) × Int × (Option Addr) × Nat) (fun k48 ((ys47, l41, l42, i45, A43, c44) : (List SRegOp) × (List Int) × (List SStep) × Int × (Option Addr) × Nat) => Rg l38 i45 ys47 ∧ ys47.length = k48 ∧ spec_reValues.l2 l0_1 ys47 l41 l42 i45 = some o53) [4, 5, 6, 11, 13, 41, 42, 43, 44, 45, 46, 47, 48, 49, 50, 51, 52, 53, 54, 55, 56, 57, 58, 59, 60, 61, 62, 63, 64, 65, 66, 67, 68, 69, 70, 71, 72, 73, 74, 75, 76, 77, 78, 79, 80, 81, 82, 83, 84] (fun ((ys47, l41, l42, i45, A43, c44) : (List SRegOp) × (List Int) × (List SStep) × Int × (Option Addr) × Nat) => [(11, .slice A43 l42.length c44), (41, .int .i64 i45)]) (fun ((ys47, l41, l42, i45, A43, c44) : (List SRegOp) × (List Int) × (List SStep) × Int × (Option Addr) × Nat) => [row kStep 72 (.slice A43 l42.length c44) l42, row (Kd.int .i64) 3 (.slice A5 l4.length c6) l41, box g1 38 #[.int .i64 a0_0, .slice A0_1 l0_1.length c0_1, .slice A0_2 l0_2.length c0_2, .slice A0_3 l0_3.length c0_3]]) l38.length (l38, l26, ([] : List SStep), 0, none, 0) ⟨Rg.start _, rfl, hl52⟩ ⟨rfl, rfl, trivial⟩ (fun w h => h) ?_
        refine fun k48 => cur6 (listC (fun l41 l42 i45 A43 c44 U54 hJ_ => ?_) (fun y46 ys47 l41 l42 i45 A43 c44 U54 hJ_ => ?_))
        · skip
          clear hl52
          have hr49 := hJ_.1; have hk55 := hJ_.2.1; have h := hJ_.2.2; clear hJ_
          replace h : spec_reValues.l2 l0_1 [] l41 l42 i45 = some o53 := h
          rw [spec_reValues.l2] at h
          refine c_seq ?_
          refine za0 ?_
          refine o_q rfl rfl (q_lss rfl rfl) ?_
          refine o_end ?_
          refine za1 ?_
          refine c_seq ?_
          refine c_false (congrArg Value.bool hr49.ge) ?_
          refine c_exit ?_
          refine zaa ?_
          refine zaa ?_
          have e_ := Option.some.inj h; replace h := hR51; rw [← e_] at h; clear e_
          refine x_hit ?_
          refine za1 ?_
          refine c_seq ?_
          refine za0 ?_
          refine o_q rfl rfl (za2 rfl) ?_
          refine o_q rfl rfl (za2 rfl) ?_
          refine o_q rfl rfl (q_asg rfl) ?_
          refine o_q rfl rfl (q_asg rfl) ?_
          refine o_q rfl rfl (q_asg rfl) ?_
          refine o_end ?_
          refine za1 ?_
          refine c_ret ?_
          refine x_fact (p := l4.length = l41.length) (fun w h => (h.row_C (i := 1) rfl).2.1) (fun hn56 => ?_)
          have e0_ := Option.some.inj h; clear h
          have d0_ := (Prod.mk.inj e0_).1; have e1_ := (Prod.mk.inj e0_).2; clear e0_; subst d0_
          have d1_ := (Prod.mk.inj e1_).1; have e2_ := (Prod.mk.inj e1_).2; clear e1_; subst d1_
          subst e2_
          exact x_r3 (A5, c6, A43, c44) Tryz.results124 (zaf (v := .slice A5 l4.length c6) rfl) (zaf (v := .slice A43 l42.length c44) rfl) (zaf (v := .bool true) rfl) (by (try rw [hn56]); first | done | rfl) (f_pickE (L1 := [row kStep 72 (.slice A43 l42.length c44) l42, row (Kd.int .i64) 3 (.slice A5 l4.length c6) l41, box g1 38 #[.int .i64 a0_0, .slice A0_1 l0_1.length c0_1, .slice A0_2 l0_2.length c0_2, .slice A0_3 l0_3.length c0_3]]) rfl [1, 0] (by decide) rfl (by (try rw [hn56]); first | done | rfl))
        · skip
          clear hl52
          have hr49 := hJ_.1; have hk55 := hJ_.2.1; have h := hJ_.2.2; clear hJ_
          replace h : spec_reValues.l2 l0_1 (y46 :: ys47) l41 l42 i45 = some o53 := h
          rw [spec_reValues.l2] at h
          refine c_seq ?_
          refine za0 ?_
          refine o_q rfl rfl (q_lss rfl rfl) ?_
          refine o_end ?_
          refine za1 ?_
          refine c_seq ?_
          refine c_true (congrArg Value.bool hr49.lt) ?_
          refine zak ?_
          refine za1 ?_
          refine c_seq ?_
          refine zal ?_
          refine c_seq ?_
          refine za0 ?_
          refine zb2 (p := Sh (cutA A0_2 c0_2 (0 : Int).toNat 3) l38.length l38.length) (fun w h => f_sh (dk := zax) h (fun w h => C_cut (dk := zax) rfl hz39 hc0_2 (R0_2.now Z h))) (fun hq57 => ?_)
          refine o_q rfl rfl (q_ix Tryz.underlying36 Z84 rfl rfl hq57 hr49.get) ?_
          refine o_q rfl rfl (q_ldE G84 Z84 rfl rfl (fun w h => C_cut (dk := zax) rfl hz39 hc0_2 (R0_2.now Z h)) hr49.get (fun _ _ h => h) rfl) ?_
          refine o_e rfl (zau V84 rfl) (fun g58 => ?_)
          refine o_e rfl (zam (i := 0) rfl rfl rfl Z84 rfl rfl) (fun _ => ?_)
          refine o_end ?_
          refine za1 ?_
          refine c_seq ?_
          refine za6 h (fun o67 hl68 hR69 => ?_) rfl
          clear h
          refine c_cutJ (σ := Bool) (fun b66 => some b66 = some o67) [45, 46, 47, 48, 49, 50, 51, 52, 53, 54, 55, 56, 57, 58] (fun b66 => [(58, .bool b66)]) (fun b66 => [box g1 38 #[.int .i64 a0_0, .slice A0_1 l0_1.length c0_1, .slice A0_2 l0_2.length c0_2, .slice A0_3 l0_3.length c0_3], row (Kd.int .i64) 3 (.slice A5 l4.length c6) l41, row kStep 72 (.slice A43 l42.length c44) l42, box g58 84 #[.int .i64 y46.f0, .int .i64 y46.f1, .int .i64 y46.f2]]) ?_ ?_
          · skip
            have h := hl68; clear hl68
            clear hR69
            refine za0 ?_
            refine o_q rfl rfl (za2 rfl) ?_
            refine o_q rfl rfl (q_f F84_1 rfl) ?_
            refine o_q rfl rfl (q_ldb Y3 rfl (fun w h => h.zae (i := 0) rfl) rfl) ?_
            refine zb2 (p := Sh A5 l4.length l41.length) (fun w h => f_sh (dk := (Kd.int .i64)) h (fun w h => h.zan (i := 2) rfl)) (fun hq72 => ?_)
            refine za6 h (fun y74 hg73 h => ?_) rfl
            refine o_q rfl rfl (q_ix Tryz.underlying25 Z3 rfl rfl hq72 hg73) ?_
            refine o_q rfl rfl (q_lde (off := 0) Y3 rfl rfl (fun w h => h.zan (i := 2) rfl) hg73 (fun _ _ h => h) rfl) ?_
            refine o_q rfl rfl (q_lss rfl rfl) ?_
            refine o_q rfl rfl (za2 rfl) ?_
            refine byB (decide (y74 < 0)) (fun hb75 => ?_) (fun hb75 => ?_)
            · replace h := br_t hb75 h
              refine @o_n _ _ _ _ _ _ _ _ _ _ _ 52 (za3 rfl rfl rfl (congrArg Value.bool hb75) rfl) (Eq.refl (some 52)) ?_
              refine @o_n _ _ _ _ _ _ _ _ _ _ _ 53 (za3 rfl rfl rfl (congrArg Value.bool hb75) rfl) (Eq.refl (some 53)) ?_
              refine @o_n _ _ _ _ _ _ _ _ _ _ _ 54 (za3 rfl rfl rfl (congrArg Value.bool hb75) rfl) (Eq.refl (some 54)) ?_
              refine @o_n _ _ _ _ _ _ _ _ _ _ _ 55 (za3 rfl rfl rfl (congrArg Value.bool hb75) rfl) (Eq.refl (some 55)) ?_
              refine @o_n _ _ _ _ _ _ _ _ _ _ _ 56 (za3 rfl rfl rfl (congrArg Value.bool hb75) rfl) (Eq.refl (some 56)) ?_
              refine @o_n _ _ _ _ _ _ _ _ _ _ _ 57 (za3 rfl rfl rfl (congrArg Value.bool hb75) rfl) (Eq.refl (some 57)) ?_
              refine o_q rfl rfl (zas true (congrArg Value.bool hb75) rfl) ?_
              refine o_end ?_
              refine zat true h ⟨rfl, trivial⟩ (fun w h => za7 [3, 2, 1, 0] (by decide) rfl w h) ?_
              repeat (first | exact zac _ _ | refine zai rfl ?_ | refine zad rfl ?_ | refine zaj rfl ?_)
            · replace h := br_f hb75 h
              refine o_w (za4 rfl rfl rfl (congrArg Value.bool hb75)) rfl (za2 rfl) ?_
              refine o_w (za4 rfl rfl rfl (congrArg Value.bool hb75)) rfl (q_f F84_2 rfl) ?_
              refine o_w (za4 rfl rfl rfl (congrArg Value.bool hb75)) rfl (q_ldb Y3 rfl (fun w h => h.zae (i := 0) rfl) rfl) ?_
              refine za6 h (fun y77 hg76 h => ?_) rfl
              refine o_w (za4 rfl rfl rfl (congrArg Value.bool hb75)) rfl (q_ix Tryz.underlying25 Z3 rfl rfl hq72 hg76) ?_
              refine o_w (za4 rfl rfl rfl (congrArg Value.bool hb75)) rfl (q_lde (off := 0) Y3 rfl rfl (fun w h => h.zan (i := 2) rfl) hg76 (fun _ _ h => h) rfl) ?_
              refine o_w (za4 rfl rfl rfl (congrArg Value.bool hb75)) rfl (q_lss rfl rfl) ?_
              refine o_q rfl rfl (zas false (congrArg Value.bool hb75) rfl) ?_
              refine o_end ?_
              refine zat (decide (y77 < 0)) h ⟨rfl, trivial⟩ (fun w h => za7 [3, 2, 1, 0] (by decide) rfl w h) ?_
              repeat (first | exact zac _ _ | refine zai rfl ?_ | refine zad rfl ?_ | refine zaj rfl ?_)
          · skip
            refine (fun b66 => fun U70 hJ71 => ?_)
            have e_ := Option.some.inj hJ71; have h := hR69; rw [← e_] at h; clear e_ hJ71 hR69 hl68
            refine zaq _ rfl (fun hb78 => ?_) (fun hb78 => ?_)
            · skip
              replace h := bb_t hb78 h
              refine c_seq ?_
              refine za0 ?_
              refine o_q rfl rfl (q_asg rfl) ?_
              refine o_q rfl rfl (q_asg rfl) ?_
              refine o_q rfl rfl (q_asg rfl) ?_
              refine o_end ?_
              refine za1 ?_
              refine c_ret ?_
              refine za5 ?_
              refine zah ?_
              refine za5 ?_
              refine za5 ?_
              have e_ := Option.some.inj h; replace h := hR51; rw [← e_] at h; clear e_
              refine zah ?_
              refine za5 ?_
              refine x_nil (Kd.int .i64) 3 ?_
              refine x_nil kStep 72 ?_
              have e0_ := Option.some.inj h; clear h
              have d0_ := (Prod.mk.inj e0_).1; have e1_ := (Prod.mk.inj e0_).2; clear e0_; subst d0_
              have d1_ := (Prod.mk.inj e1_).1; have e2_ := (Prod.mk.inj e1_).2; clear e1_; subst d1_
              subst e2_
              exact x_r3 (none, 0, none, 0) Tryz.results124 (zaf rfl) (zaf rfl) (zaf rfl) rfl (fun w h => za7 [1, 0] (by decide) rfl w h)
            · skip
              replace h := bb_f hb78 h
              refine zak ?_
              refine za1 ?_
              refine c_seq ?_
              refine a_startS (ds := []) [some 0, some 1, none, some 3] MO rfl ?_
              refine zab 0 rfl rfl rfl (by kernel_rfl) (fun _ _ _ h => h) (za2 rfl) ?_
              refine zab 1 rfl rfl rfl (by kernel_rfl) (fun _ _ _ h => h) (za2 rfl) ?_
              refine zab 2 rfl rfl rfl (by kernel_rfl) (fun _ _ _ h => h) (q_f F84_1 rfl) ?_
              refine zaz 3 rfl rfl rfl (by kernel_rfl) (fun _ _ _ h => h) (fun w h => za8 [some 0, some 1, none, some 3] (by decide) w h rfl) (q_ldb Y3 rfl (fun w h => h.zae (i := 3) rfl) rfl) ?_
              refine a_fact (p := Sh A5 l4.length l41.length) (fun w h => f_sh (dk := (Kd.int .i64)) h (fun w h => h.zan (i := 1) rfl)) (fun hq79 => ?_)
              refine za6 h (fun y81 hg80 h => ?_) rfl
              refine zab 4 rfl rfl rfl (by kernel_rfl) (fun _ _ _ h => h) (q_ix Tryz.underlying25 Z3 rfl rfl hq79 hg80) ?_
              refine zaz 5 rfl rfl rfl (by kernel_rfl) (fun _ _ _ h => h) (fun w h => za8 [some 0, some 1, none, some 3] (by decide) w h rfl) (q_lde (off := 0) Y3 rfl rfl (fun w h => h.zan (i := 1) rfl) hg80 (fun _ _ h => h) rfl) ?_
              refine zab 6 rfl rfl rfl (by kernel_rfl) (fun _ _ _ h => h) (za2 rfl) ?_
              refine zab 7 rfl rfl rfl (by kernel_rfl) (fun _ _ _ h => h) (q_f F84_2 rfl) ?_
              refine zaz 8 rfl rfl rfl (by kernel_rfl) (fun _ _ _ h => h) (fun w h => za8 [some 0, some 1, none, some 3] (by decide) w h rfl) (q_ldb Y3 rfl (fun w h => h.zae (i := 3) rfl) rfl) ?_
              refine za6 h (fun y83 hg82 h => ?_) rfl
              refine zab 9 rfl rfl rfl (by kernel_rfl) (fun _ _ _ h => h) (q_ix Tryz.underlying25 Z3 rfl rfl hq79 hg82) ?_
              refine zaz 10 rfl rfl rfl (by kernel_rfl) (fun _ _ _ h => h) (fun w h => za8 [some 0, some 1, none, some 3] (by decide) w h rfl) (q_lde (off := 0) Y3 rfl rfl (fun w h => h.zan (i := 1) rfl) hg82 (fun _ _ h => h) rfl) ?_
              refine za6 h (fun z85 hx84 h => ?_) rfl
              refine a_one 11 rfl rfl (by kernel_rfl) rfl (za9 0 Z Tryz.func96 N96 rfl rfl rfl (fun w P1 hF hB hS hT => spec_plStep.calls y81 y83 hB hF _ hx84)) (fun s w h => za8 [some 0, some 1, none, some 3] (by decide) w h rfl) (fun _ => ?_)
              refine a_one 12 rfl rfl (by kernel_rfl) rfl (e_lit (vs := [(0, .agg #[.int .i64 z85.f0, .int .i64 z85.f1])]) (cs := [.int .i64 z85.f0, .int .i64 z85.f1]) kStep ([z85] : List SStep) Tryz.underlying24 I72 (by decide) rfl (by decide) rfl rfl (fun _ _ => reps_flat _)) (fun s w h => za8 [some 1, some 2, none, some 4] (by decide) w h rfl) (cur2 (fun A86 c87 => ?_))
              refine za6 h (fun l89 ha90 h => ?_) rfl
              refine a_one 13 rfl rfl (by kernel_rfl) rfl (e_app (i := 3) (j := 0) Tryz.underlying24 I72 rfl (by decide) (by decide) rfl rfl rfl rfl rfl ha90) (fun s w h => za8 [some 1, some 2, none, some 4] (by decide) w h rfl) (cur2 (fun A91 c92 => ?_))
              refine zab 14 rfl rfl rfl (by kernel_rfl) (fun _ _ _ h => h) (q_asg rfl) ?_
              refine zay (by kernel_rfl) ?_
              refine za1 ?_
              refine za0 ?_
              refine o_q rfl rfl (za2 rfl) ?_
              refine o_q rfl rfl (q_f F84_0 rfl) ?_
              refine o_q rfl rfl (q_ldb Y3 rfl (fun w h => h.zae (i := 4) rfl) rfl) ?_
              refine o_q rfl rfl (q_f F38_1 rfl) ?_
              refine o_q rfl rfl (q_ldb Y25 rfl (fun w h => h.zae (i := 1) rfl) rfl) ?_
              refine o_q rfl rfl (q_len Tryz.underlying25 rfl) ?_
              refine o_q rfl rfl (za2 rfl) ?_
              refine o_q rfl rfl (q_len Tryz.underlying24 rfl) ?_
              refine o_q rfl rfl (q_add64 rfl rfl) ?_
              refine o_q rfl rfl (q_sub64 rfl rfl) ?_
              refine za6 h (fun y94 hg93 h => ?_) rfl
              refine o_q rfl rfl (q_ix Tryz.underlying25 Z3 rfl rfl hq79 hg93) ?_
              refine za6 h (fun l95 hs96 h => ?_) rfl
              refine o_e rfl (e_set (i := 2) rfl rfl rfl Z3 hs96) (fun _ => ?_)
              refine o_end ?_
              refine zaw ?_
              refine za1 ?_
              refine za0 ?_
              refine o_q rfl rfl (q_up rfl rfl (hr49.up hm50)) ?_
              refine o_q rfl rfl (za2 rfl) ?_
              refine o_end ?_
              refine zao ys47.length (ys47, l95, l89, i45 + 1, A91, c92) (by rw [← hk55]; exact Nat.lt_succ_self _) ⟨hr49.step, rfl, h⟩ ⟨rfl, rfl, trivial⟩ (fun w h => za7 [3, 2, 1] (by decide) rfl w h) ?_
              repeat (first | exact zac _ _ | refine zai rfl ?_ | refine zad rfl ?_ | refine zaj rfl ?_)
      · skip
        clear hl34
        have hr31 := hJ_.1; have hk37 := hJ_.2.1; have h := hJ_.2.2; clear hJ_
        replace h : spec_reValues.l1 (y28 :: ys29) l26 i27 = some o35 := h
        rw [spec_reValues.l1] at h
        refine c_seq ?_
        refine za0 ?_
        refine o_q rfl rfl (q_lss rfl rfl) ?_
        refine o_end ?_
        refine za1 ?_
        refine c_seq ?_
        refine c_true (congrArg Value.bool hr31.lt) ?_
        refine zak ?_
        refine za1 ?_
        refine c_seq ?_
        refine zal ?_
        refine c_seq ?_
        refine za0 ?_
        refine o_q rfl rfl (za2 rfl) ?_
        refine zb2 (p := Sh A0_1 l0_1.length l0_1.length) (fun w h => f_sh (dk := (Kd.int .i64)) h (fun w h => R0_1.now Z h)) (fun hq97 => ?_)
        refine o_q rfl rfl (q_ix Tryz.underlying25 Z3 rfl rfl hq97 hr31.get) ?_
        refine o_q rfl rfl (q_lde (off := 0) Y3 rfl rfl (fun w h => R0_1.now Z h) hr31.get (fun _ _ h => h) rfl) ?_
        refine o_q rfl rfl (q_asg rfl) ?_
        refine o_q rfl rfl (q_asg rfl) ?_
        refine o_end ?_
        refine za1 ?_
        refine za0 ?_
        refine o_q rfl rfl (za2 rfl) ?_
        refine o_q rfl rfl (za2 rfl) ?_
        refine o_q rfl rfl (za2 rfl) ?_
        refine zb2 (p := Sh A5 l4.length l26.length) (fun w h => f_sh (dk := (Kd.int .i64)) h (fun w h => h.zan (i := 0) rfl)) (fun hq98 => ?_)
        refine za6 h (fun y100 hg99 h => ?_) rfl
        refine o_q rfl rfl (q_ix Tryz.underlying25 Z3 rfl rfl hq98 hg99) ?_
        refine za6 h (fun l101 hs102 h => ?_) rfl
        refine o_e rfl (e_set (i := 0) rfl rfl rfl Z3 hs102) (fun _ => ?_)
        refine o_end ?_
        refine zaw ?_
        refine za1 ?_
        refine za0 ?_
        refine o_q rfl rfl (q_up rfl rfl (hr31.up hm32)) ?_
        refine o_q rfl rfl (za2 rfl) ?_
        refine o_end ?_
        refine zao ys29.length (ys29, l101, i27 + 1) (by rw [← hk37]; exact Nat.lt_succ_self _) ⟨hr31.step, rfl, h⟩ ⟨rfl, trivial⟩ (fun w h => za7 [0, 1] (by decide) rfl w h) ?_
        repeat (first | exact zac _ _ | refine zai rfl ?_ | refine zad rfl ?_ | refine zaj rfl ?_)

/-! ### loop.example/g01098/spec.plSum: function 115 -/
def spec_plSum.l0 (l1 : List Int) : (List Int) → (List Int) → Int → Option (List Int)
  | [], l3, i6 => some l3
  | y7 :: ys8, l3, i6 => (gt l1 i6).bind fun y20 => (spec_l1Least.f (w64 (y7 + y20)) 1000001).bind fun i22 => (ap l3 ([i22] : List Int)).bind fun l26 => spec_plSum.l0 l1 ys8 l26 (i6 + 1)
def spec_plSum.f (l0 : List Int) (l1 : List Int) : Option (List Int) := (spec_plSum.l0 l1 l0 ([] : List Int) 0).bind fun l3 => some l3
set_option maxHeartbeats 600000 in
set_option maxRecDepth 100000 in
theorem spec_plSum.calls {w0 ws : World} {P0 : Nat → Prop} (A0 : Option Addr) (c0 : Nat) (n0 : Nat) (l0 : List Int) (A1 : Option Addr) (c1 : Nat) (n1 : Nat) (l1 : List Int) (Z : Below w0.heap.size w0 ws) (hF : Fr w0 ws P0 [] ws) (R0 : Stable ws P0 (fun w => Kd.C (Kd.int .i64) w A0 n0 l0)) (hc0 : n0 ≤ c0) (R1 : Stable ws P0 (fun w => Kd.C (Kd.int .i64) w A1 n1 l1)) (hc1 : n1 ≤ c1) (r_1 : List Int) (h : spec_plSum.f l0 l1 = some r_1) :
    Calls Tryz.prog 115 #[.slice A0 n0 c0, .slice A1 n1 c1] ws (Post1 w0 ws P0 (fun ((q_2, q_3) : (Option Addr) × Nat) => .slice q_2 r_1.length q_3) (fun ((q_2, q_3) : (Option Addr) × Nat) => [row (Kd.int .i64) 3 (.slice q_2 r_1.length q_3) r_1])) := by
  unfold spec_plSum.f at h
  obtain rfl := (R0 ws (KeptB.refl _ _)).1
  obtain rfl := (R1 ws (KeptB.refl _ _)).1
  refine enter Tryz.func115 rfl Tryz.ntmps115 rfl hF ?_
  refine c_seq ?_
  refine za0 ?_
  refine o_q rfl rfl (q_asg rfl) ?_
  refine o_end ?_
  refine za1 ?_
  refine c_seq ?_
  refine za0 ?_
  refine o_q rfl rfl (q_asg rfl) ?_
  refine o_end ?_
  refine za1 ?_
  refine c_seq ?_
  refine c_seq ?_
  refine za0 ?_
  refine o_q rfl rfl (za2 rfl) ?_
  refine o_q rfl rfl (q_len Tryz.underlying25 rfl) ?_
  refine o_q rfl rfl (za2 rfl) ?_
  refine o_end ?_
  refine za1 ?_
  refine zal ?_
  refine c_nil (Kd.int .i64) 3 ?_
  refine za6 h (fun o14 hl13 hR12 => ?_) rfl
  clear h
  refine c_fact (p := l0.length ≤ 9223372036854775807) (fun w h => (R0.now Z h).2.1) (fun hm11 => ?_)
  refine zb1 (σ := (List Int) × (List Int) × Int × (Option Addr) × Nat) (fun k9 ((ys8, l3, i6, A4, c5) : (List Int) × (List Int) × Int × (Option Addr) × Nat) => Rg l0 i6 ys8 ∧ ys8.length = k9 ∧ spec_plSum.l0 l1 ys8 l3 i6 = some o14) [5, 6, 9, 10, 11, 12, 13, 14, 15, 16, 17, 18, 19, 20, 21, 22, 23, 24, 25] (fun ((ys8, l3, i6, A4, c5) : (List Int) × (List Int) × Int × (Option Addr) × Nat) => [(5, .slice A4 l3.length c5), (9, .int .i64 i6)]) (fun ((ys8, l3, i6, A4, c5) : (List Int) × (List Int) × Int × (Option Addr) × Nat) => [row (Kd.int .i64) 3 (.slice A4 l3.length c5) l3]) l0.length (l0, ([] : List Int), 0, none, 0) ⟨Rg.start _, rfl, hl13⟩ ⟨rfl, rfl, trivial⟩ (fun w h => h) ?_
  refine fun k9 => cur5 (listC (fun l3 i6 A4 c5 U15 hJ_ => ?_) (fun y7 ys8 l3 i6 A4 c5 U15 hJ_ => ?_))
  · skip
    clear hl13
    have hr10 := hJ_.1; have hk16 := hJ_.2.1; have h := hJ_.2.2; clear hJ_
    replace h : spec_plSum.l0 l1 [] l3 i6 = some o14 := h
    rw [spec_plSum.l0] at h
    refine c_seq ?_
    refine za0 ?_
    refine o_q rfl rfl (q_lss rfl rfl) ?_
    refine o_end ?_
    refine za1 ?_
    refine c_seq ?_
    refine c_false (congrArg Value.bool hr10.ge) ?_
    refine c_exit ?_
    refine zaa ?_
    refine zaa ?_
    have e_ := Option.some.inj h; replace h := hR12; rw [← e_] at h; clear e_
    refine x_hit ?_
    refine za1 ?_
    refine c_seq ?_
    refine za0 ?_
    refine o_q rfl rfl (za2 rfl) ?_
    refine o_q rfl rfl (q_asg rfl) ?_
    refine o_end ?_
    refine za1 ?_
    refine c_ret ?_
    have e0_ := Option.some.inj h; clear h
    subst e0_
    exact x_r1 (A4, c5) Tryz.results115 (zaf rfl) rfl (fun w h => za7 [0] (by decide) rfl w h)
  · skip
    clear hl13
    have hr10 := hJ_.1; have hk16 := hJ_.2.1; have h := hJ_.2.2; clear hJ_
    replace h : spec_plSum.l0 l1 (y7 :: ys8) l3 i6 = some o14 := h
    rw [spec_plSum.l0] at h
    refine c_seq ?_
    refine za0 ?_
    refine o_q rfl rfl (q_lss rfl rfl) ?_
    refine o_end ?_
    refine za1 ?_
    refine c_seq ?_
    refine c_true (congrArg Value.bool hr10.lt) ?_
    refine zak ?_
    refine za1 ?_
    refine c_seq ?_
    refine zal ?_
    refine c_seq ?_
    refine za0 ?_
    refine o_q rfl rfl (za2 rfl) ?_
    refine o_q rfl rfl (q_asg rfl) ?_
    refine o_end ?_
    refine za1 ?_
    refine a_startS (ds := []) [none] MO rfl ?_
    refine zab 0 rfl rfl rfl (by kernel_rfl) (fun _ _ _ h => h) (za2 rfl) ?_
    refine zab 1 rfl rfl rfl (by kernel_rfl) (fun _ _ _ h => h) (za2 rfl) ?_
    refine zab 2 rfl rfl rfl (by kernel_rfl) (fun _ _ _ h => h) (za2 rfl) ?_
    refine a_fact (p := Sh A0 l0.length l0.length) (fun w h => f_sh (dk := (Kd.int .i64)) h (fun w h => R0.now Z h)) (fun hq17 => ?_)
    refine zab 3 rfl rfl rfl (by kernel_rfl) (fun _ _ _ h => h) (q_ix Tryz.underlying25 Z3 rfl rfl hq17 hr10.get) ?_
    refine zaz 4 rfl rfl rfl (by kernel_rfl) (fun _ _ _ h => h) (fun w h => za8 [none] (by decide) w h rfl) (q_lde (off := 0) Y3 rfl rfl (fun w h => R0.now Z h) hr10.get (fun _ _ h => h) rfl) ?_
    refine zab 5 rfl rfl rfl (by kernel_rfl) (fun _ _ _ h => h) (za2 rfl) ?_
    refine zab 6 rfl rfl rfl (by kernel_rfl) (fun _ _ _ h => h) (za2 rfl) ?_
    refine a_fact (p := Sh A1 l1.length l1.length) (fun w h => f_sh (dk := (Kd.int .i64)) h (fun w h => R1.now Z h)) (fun hq18 => ?_)
    refine za6 h (fun y20 hg19 h => ?_) rfl
    refine zab 7 rfl rfl rfl (by kernel_rfl) (fun _ _ _ h => h) (q_ix Tryz.underlying25 Z3 rfl rfl hq18 hg19) ?_
    refine zaz 8 rfl rfl rfl (by kernel_rfl) (fun _ _ _ h => h) (fun w h => za8 [none] (by decide) w h rfl) (q_lde (off := 0) Y3 rfl rfl (fun w h => R1.now Z h) hg19 (fun _ _ h => h) rfl) ?_
    refine zab 9 rfl rfl rfl (by kernel_rfl) (fun _ _ _ h => h) (q_add64 rfl rfl) ?_
    refine za6 h (fun i22 hx21 h => ?_) rfl
    refine a_one 10 rfl rfl (by kernel_rfl) rfl (za9 0 Z Tryz.func68 N68 rfl rfl rfl (fun w P1 hF hB hS hT => spec_l1Least.calls (w64 (y7 + y20)) 1000001 hB hF _ hx21)) (fun s w h => za8 [none] (by decide) w h rfl) (fun _ => ?_)
    refine a_one 11 rfl rfl (by kernel_rfl) rfl (e_lit (vs := [(0, .int .i64 i22)]) (cs := [.int .i64 i22]) (Kd.int .i64) ([i22] : List Int) Tryz.underlying25 I3 (by decide) rfl (by decide) rfl rfl (fun _ _ => Kd.zav _)) (fun s w h => za8 [none] (by decide) w h rfl) (cur2 (fun A23 c24 => ?_))
    refine za6 h (fun l26 ha27 h => ?_) rfl
    refine a_one 12 rfl rfl (by kernel_rfl) rfl (e_app (i := 1) (j := 0) Tryz.underlying25 I3 rfl (by decide) (by decide) rfl rfl rfl rfl rfl ha27) (fun s w h => za8 [none] (by decide) w h rfl) (cur2 (fun A28 c29 => ?_))
    refine zab 13 rfl rfl rfl (by kernel_rfl) (fun _ _ _ h => h) (q_asg rfl) ?_
    refine zay (by kernel_rfl) ?_
    refine zaw ?_
    refine za1 ?_
    refine za0 ?_
    refine o_q rfl rfl (q_up rfl rfl (hr10.up hm11)) ?_
    refine o_q rfl rfl (za2 rfl) ?_
    refine o_end ?_
    refine zao ys8.length (ys8, l26, i6 + 1, A28, c29) (by rw [← hk16]; exact Nat.lt_succ_self _) ⟨hr10.step, rfl, h⟩ ⟨rfl, rfl, trivial⟩ (fun w h => za7 [1] (by decide) rfl w h) ?_
    repeat (first | exact zac _ _ | refine zai rfl ?_ | refine zad rfl ?_ | refine zaj rfl ?_)

/-! ### loop.example/g01098/spec.plExponents: function 85 -/
def spec_plExponents.l1 : (List SStep) → (List (List Int)) → Int → Option (List (List Int))
  | [], l39, i43 => some l39
  | y44 :: ys45, l39, i43 => (gt l39 y44.f0).bind fun y300 => (gt l39 y44.f1).bind fun y599 => (spec_plSum.f y300 y599).bind fun l719 => (ap l39 ([l719] : List (List Int))).bind fun l838 => spec_plExponents.l1 ys45 l838 (i43 + 1)
def spec_plExponents.l0 (a0_0 : Int) : Nat → (List (List Int)) → Int → Option (List (List Int))
  | 0, _, _ => none
  | k11 + 1, l4, i8 => if i8 < a0_0 then ((mk0 a0_0 (0 : Int)).bind fun l20 => (gt l20 i8).bind fun y27 => (st l20 i8 1).bind fun l28 => (ap l4 ([l28] : List (List Int))).bind fun l34 => spec_plExponents.l0 a0_0 k11 l34 (w64 (i8 + 1))) else (some l4)
def spec_plExponents.f (k : Nat) (a0_0 : Int) (l0_1 : List SStep) (l0_2 : List Int) : Option (List (List Int)) := (spec_plExponents.l0 a0_0 k ([] : List (List Int)) 0).bind fun l4 => (spec_plExponents.l1 l0_1 l4 0).bind fun l39 => some l39
set_option maxHeartbeats 600000 in
set_option maxRecDepth 100000 in
theorem spec_plExponents.calls (k : Nat) {w0 ws : World} {P0 : Nat → Prop} (a0_0 : Int) (A0_1 : Option Addr) (c0_1 : Nat) (n0_1 : Nat) (l0_1 : List SStep) (A0_2 : Option Addr) (c0_2 : Nat) (n0_2 : Nat) (l0_2 : List Int) (Z : Below w0.heap.size w0 ws) (hF : Fr w0 ws P0 [] ws) (R0_1 : Stable ws P0 (fun w => Kd.C kStep w A0_1 n0_1 l0_1)) (hc0_1 : n0_1 ≤ c0_1) (R0_2 : Stable ws P0 (fun w => Kd.C (Kd.int .i64) w A0_2 n0_2 l0_2)) (hc0_2 : n0_2 ≤ c0_2) (r_1 : List (List Int)) (h : spec_plExponents.f k a0_0 l0_1 l0_2 = some r_1) :
    Calls Tryz.prog 85 #[.agg #[.int .i64 a0_0, .slice A0_1 n0_1 c0_1, .slice A0_2 n0_2 c0_2]] ws (Post1 w0 ws P0 (fun ((q_2, q_3, q_4) : (Option Addr) × Nat × Hd) => .slice q_2 r_1.length q_3) (fun ((q_2, q_3, q_4) : (Option Addr) × Nat × Hd) => [row (gk 3 (Kd.int .i64)) 25 (.slice q_2 r_1.length q_3) (zp q_4 r_1)])) := by
  unfold spec_plExponents.f at h
  obtain rfl := (R0_1 ws (KeptB.refl _ _)).1
  obtain rfl := (R0_2 ws (KeptB.refl _ _)).1
  refine enter Tryz.func85 rfl Tryz.ntmps85 rfl hF ?_
  refine c_seq ?_
  refine za0 ?_
  refine o_e rfl (e_box rfl) (fun g1 => ?_)
  refine o_q rfl rfl (q_asg rfl) ?_
  refine o_end ?_
  refine za1 ?_
  refine c_seq ?_
  refine za0 ?_
  refine o_q rfl rfl (q_asg rfl) ?_
  refine o_end ?_
  refine za1 ?_
  refine c_seq ?_
  refine c_seq ?_
  refine za0 ?_
  refine o_q rfl rfl (q_asg rfl) ?_
  refine o_end ?_
  refine za1 ?_
  refine zal ?_
  refine c_nil (gk 3 (Kd.int .i64)) 25 ?_
  refine za6 h (fun o16 hl15 hR14 => ?_) rfl
  clear h
  refine zb1 (σ := (List (List Int)) × Int × (Option Addr) × Nat × Hd) (fun k11 ((l4, i8, A5, c6, H7) : (List (List Int)) × Int × (Option Addr) × Nat × Hd) => spec_plExponents.l0 a0_0 k11 l4 i8 = some o16) [3, 4, 5, 8, 9, 10, 11, 12, 13, 14, 15, 16, 17, 18, 19, 20, 21, 22, 23] (fun ((l4, i8, A5, c6, H7) : (List (List Int)) × Int × (Option Addr) × Nat × Hd) => [(3, .slice A5 l4.length c6), (4, .int .i64 i8)]) (fun ((l4, i8, A5, c6, H7) : (List (List Int)) × Int × (Option Addr) × Nat × Hd) => [row (gk 3 (Kd.int .i64)) 25 (.slice A5 l4.length c6) (zp H7 l4), box g1 27 #[.int .i64 a0_0, .slice A0_1 l0_1.length c0_1, .slice A0_2 l0_2.length c0_2]]) k (([] : List (List Int)), 0, none, 0, ([] : Hd)) hl15 ⟨rfl, rfl, trivial⟩ (fun w h => h) ?_
  refine natC (cur5 (fun l4 i8 A5 c6 H7 => fun U17 hJ_ => ?_)) (fun k11 => (cur5 (fun l4 i8 A5 c6 H7 => fun U17 hJ_ => ?_)))
  · skip
    replace hJ_ : spec_plExponents.l0 a0_0 0 l4 i8 = some o16 := hJ_
    rw [spec_plExponents.l0] at hJ_
    exact noneE hJ_
  · skip
    clear hl15
    have h := hJ_; clear hJ_
    replace h : spec_plExponents.l0 a0_0 (k11 + 1) l4 i8 = some o16 := h
    rw [spec_plExponents.l0] at h
    refine c_seq ?_
    refine c_seq ?_
    refine za0 ?_
    refine o_q rfl rfl (za2 rfl) ?_
    refine o_q rfl rfl (q_f F27_0 rfl) ?_
    refine o_q rfl rfl (q_ldb Y3 rfl (fun w h => h.zae (i := 1) rfl) rfl) ?_
    refine o_q rfl rfl (q_lss rfl rfl) ?_
    refine o_end ?_
    refine za1 ?_
    refine zaq _ rfl (fun hb19 => ?_) (fun hb19 => ?_)
    · skip
      replace h := br_t hb19 h
      refine zak ?_
      refine za1 ?_
      refine c_seq ?_
      refine zal ?_
      refine c_seq ?_
      refine za0 ?_
      refine o_q rfl rfl (q_f F27_0 rfl) ?_
      refine o_q rfl rfl (q_ldb Y3 rfl (fun w h => h.zae (i := 1) rfl) rfl) ?_
      refine za6 h (fun l20 hm21 h => ?_) rfl
      refine o_e rfl (e_make (Kd.int .i64) (0 : Int) Tryz.underlying25 I3 rfl (by decide) (by decide) (fun _ _ => rfl) rfl rfl hm21) (cur2 (fun A22 c23 => ?_))
      refine o_q rfl rfl (q_asg rfl) ?_
      refine o_end ?_
      refine za1 ?_
      refine c_seq ?_
      refine za0 ?_
      refine o_q rfl rfl (za2 rfl) ?_
      refine o_q rfl rfl (za2 rfl) ?_
      refine zb2 (p := Sh A22 l20.length l20.length) (fun w h => f_sh (dk := (Kd.int .i64)) h (fun w h => h.zan (i := 0) rfl)) (fun hq25 => ?_)
      refine za6 h (fun y27 hg26 h => ?_) rfl
      refine o_q rfl rfl (q_ix Tryz.underlying25 Z3 rfl rfl hq25 hg26) ?_
      refine za6 h (fun l28 hs29 h => ?_) rfl
      refine o_e rfl (e_set (i := 0) rfl rfl rfl Z3 hs29) (fun _ => ?_)
      refine o_end ?_
      refine za1 ?_
      refine za0 ?_
      refine o_q rfl rfl (za2 rfl) ?_
      refine o_q rfl rfl (za2 rfl) ?_
      refine o_e rfl (e_litG (j := 0) (ue := 3) (dk := (Kd.int .i64)) (ys := l28) Tryz.underlying60 I25 rfl rfl rfl) (cur3 (fun A30 c31 H33 => ?_))
      refine za6 h (fun l34 ha35 h => ?_) rfl
      refine o_e rfl (e_appG (i := 2) (j := 0) Tryz.underlying60 I25 rfl (by decide) rfl rfl rfl rfl rfl ha35) (cur3 (fun A36 c37 H38 => ?_))
      refine o_q rfl rfl (q_asg rfl) ?_
      refine o_end ?_
      refine zaw ?_
      refine za1 ?_
      refine za0 ?_
      refine o_q rfl rfl (za2 rfl) ?_
      refine o_q rfl rfl (q_add64 rfl rfl) ?_
      refine o_q rfl rfl (q_asg rfl) ?_
      refine o_end ?_
      refine zao k11 (l34, w64 (i8 + 1), A36, c37, H38) (Nat.lt_succ_self _) h ⟨rfl, rfl, trivial⟩ (fun w h => za7 [2, 3] (by decide) rfl w h) ?_
      repeat (first | exact zac _ _ | refine zai rfl ?_ | refine zad rfl ?_ | refine zaj rfl ?_)
    · skip
      replace h := br_f hb19 h
      refine c_exit ?_
      refine zaa ?_
      refine zaa ?_
      have e_ := Option.some.inj h; replace h := hR14; rw [← e_] at h; clear e_
      refine x_hit ?_
      refine za1 ?_
      refine c_seq ?_
      refine c_seq ?_
      refine za0 ?_
      refine o_q rfl rfl (q_f F27_1 rfl) ?_
      refine o_q rfl rfl (q_ldb Y24 rfl (fun w h => h.zae (i := 1) rfl) rfl) ?_
      refine o_q rfl rfl (q_len Tryz.underlying24 rfl) ?_
      refine o_q rfl rfl (za2 rfl) ?_
      refine o_end ?_
      refine za1 ?_
      refine zal ?_
      refine za6 h (fun o51 hl50 hR49 => ?_) rfl
      clear h
      refine c_fact (p := l0_1.length ≤ 9223372036854775807) (fun w h => (R0_1.now Z h).2.1) (fun hm48 => ?_)
      refine zb1 (σ := (List SStep) × (List (List Int)) × Int × (Option Addr) × Nat × Hd) (fun k46 ((ys45, l39, i43, A40, c41, H42) : (List SStep) × (List (List Int)) × Int × (Option Addr) × Nat × Hd) => Rg l0_1 i43 ys45 ∧ ys45.length = k46 ∧ spec_plExponents.l1 ys45 l39 i43 = some o51) [3, 7, 27, 28, 29, 30, 31, 32, 33, 34, 35, 36, 37, 38, 39, 40, 41, 42, 43, 44, 45] (fun ((ys45, l39, i43, A40, c41, H42) : (List SStep) × (List (List Int)) × Int × (Option Addr) × Nat × Hd) => [(3, .slice A40 l39.length c41), (27, .int .i64 i43)]) (fun ((ys45, l39, i43, A40, c41, H42) : (List SStep) × (List (List Int)) × Int × (Option Addr) × Nat × Hd) => [row (gk 3 (Kd.int .i64)) 25 (.slice A40 l39.length c41) (zp H42 l39), box g1 27 #[.int .i64 a0_0, .slice A0_1 l0_1.length c0_1, .slice A0_2 l0_2.length c0_2]]) l0_1.length (l0_1, l4, 0, A5, c6, H7) ⟨Rg.start _, rfl, hl50⟩ ⟨rfl, rfl, trivial⟩ (fun w h => h) ?_
      refine fun k46 => cur6 (listC (fun l39 i43 A40 c41 H42 U52 hJ_ => ?_) (fun y44 ys45 l39 i43 A40 c41 H42 U52 hJ_ => ?_))
      · skip
        clear hl50
        have hr47 := hJ_.1; have hk53 := hJ_.2.1; have h := hJ_.2.2; clear hJ_
        replace h : spec_plExponents.l1 [] l39 i43 = some o51 := h
        rw [spec_plExponents.l1] at h
        refine c_seq ?_
        refine za0 ?_
        refine o_q rfl rfl (q_lss rfl rfl) ?_
        refine o_end ?_
        refine za1 ?_
        refine c_seq ?_
        refine c_false (congrArg Value.bool hr47.ge) ?_
        refine c_exit ?_
        refine zaa ?_
        refine zaa ?_
        have e_ := Option.some.inj h; replace h := hR49; rw [← e_] at h; clear e_
        refine x_hit ?_
        refine za1 ?_
        refine c_seq ?_
        refine za0 ?_
        refine o_q rfl rfl (za2 rfl) ?_
        refine o_q rfl rfl (q_asg rfl) ?_
        refine o_end ?_
        refine za1 ?_
        refine c_ret ?_
        have e0_ := Option.some.inj h; clear h
        subst e0_
        exact x_r1 (A40, c41, H42) Tryz.results85 (zaf rfl) rfl (fun w h => za7 [0] (by decide) rfl w h)
      · skip
        clear hl50
        have hr47 := hJ_.1; have hk53 := hJ_.2.1; have h := hJ_.2.2; clear hJ_
        replace h : spec_plExponents.l1 (y44 :: ys45) l39 i43 = some o51 := h
        rw [spec_plExponents.l1] at h
        refine c_seq ?_
        refine za0 ?_
        refine o_q rfl rfl (q_lss rfl rfl) ?_
        refine o_end ?_
        refine za1 ?_
        refine c_seq ?_
        refine c_true (congrArg Value.bool hr47.lt) ?_
        refine zak ?_
        refine za1 ?_
        refine c_seq ?_
        refine zal ?_
        refine c_seq ?_
        refine za0 ?_
        refine zb2 (p := Sh A0_1 l0_1.length l0_1.length) (fun w h => f_sh (dk := kStep) h (fun w h => R0_1.now Z h)) (fun hq54 => ?_)
        refine o_q rfl rfl (q_ix Tryz.underlying24 Z72 rfl rfl hq54 hr47.get) ?_
        refine o_q rfl rfl (q_ldE G72 Z72 rfl rfl (fun w h => R0_1.now Z h) hr47.get (fun _ _ h => h) rfl) ?_
        refine o_e rfl (zau V72 rfl) (fun g55 => ?_)
        refine o_e rfl (zam (i := 0) rfl rfl rfl Z72 rfl rfl) (fun _ => ?_)
        refine o_end ?_
        refine za1 ?_
        refine za6 h (fun y300 hg299 h => ?_) rfl
        refine za6 h (fun y599 hg598 h => ?_) rfl
        refine za6 h (fun l719 hx718 h => ?_) rfl
        refine za6 h (fun l838 ha839 h => ?_) rfl
        refine a_startS (ds := []) [some 0, none, some 2] MO rfl ?_
        refine zab 0 rfl rfl rfl (by kernel_rfl) (fun _ _ _ h => h) (za2 rfl) ?_
        refine zab 1 rfl rfl rfl (by kernel_rfl) (fun _ _ _ h => h) (za2 rfl) ?_
        refine zab 2 rfl rfl rfl (by kernel_rfl) (fun _ _ _ h => h) (q_f F72_0 rfl) ?_
        refine zaz 3 rfl rfl rfl (by kernel_rfl) (fun _ _ _ h => h) (fun w h => za8 [some 0, none, some 2] (by decide) w h rfl) (q_ldb Y3 rfl (fun w h => h.zae (i := 0) rfl) rfl) ?_
        refine a_fact (p := Sh A40 l39.length (zp H42 l39).length) (fun w h => f_sh (dk := (gk 3 (Kd.int .i64))) h (fun w h => h.zan (i := 1) rfl)) (fun hq298 => ?_)
        refine zab 4 rfl rfl rfl (by kernel_rfl) (fun _ _ _ h => h) (q_ix Tryz.underlying60 Z25 rfl rfl hq298 (gt_zp hg299)) ?_
        refine zab 6 rfl rfl rfl (by kernel_rfl) (fun _ _ _ h => h) (za2 rfl) ?_
        refine zab 7 rfl rfl rfl (by kernel_rfl) (fun _ _ _ h => h) (q_f F72_1 rfl) ?_
        refine zaz 8 rfl rfl rfl (by kernel_rfl) (fun _ _ _ h => h) (fun w h => za8 [some 0, none, some 2] (by decide) w h rfl) (q_ldb Y3 rfl (fun w h => h.zae (i := 0) rfl) rfl) ?_
        refine zab 9 rfl rfl rfl (by kernel_rfl) (fun _ _ _ h => h) (q_ix Tryz.underlying60 Z25 rfl rfl hq298 (gt_zp hg598)) ?_
        refine a_fact (p := y300.length ≤ hC H42 y44.f0) (fun w h => (K_in (h.zan (i := 1) rfl) hg299).1) (fun hc358 => ?_)
        refine a_fact (p := y599.length ≤ hC H42 y44.f1) (fun w h => (K_in (h.zan (i := 1) rfl) hg598).1) (fun hc658 => ?_)
        refine a_two 5 10 rfl rfl rfl rfl (by kernel_rfl) rfl rfl (ev_q rfl (q_lde (off := 0) Y25 rfl rfl (fun w h => h.zan (i := 1) rfl) (gt_zp hg299) (fun _ _ h => h.1) rfl)) (fun s w h => za8 [some 0, none, some 2] (by decide) w h rfl) (ev_q rfl (q_lde (off := 0) Y25 rfl rfl (fun w h => h.zan (i := 1) rfl) (gt_zp hg598) (fun _ _ h => h.1) rfl)) (fun s w h => za8 [some 0, none, some 2] (by decide) w h rfl) (fun _ => ?_) (fun _ => ?_)
        · skip
          refine a_fact (p := y599.length ≤ hC H42 y44.f1) (fun w h => (K_in (h.zan (i := 1) rfl) hg598).1) (fun hc658 => ?_)
          refine a_one 10 rfl rfl (by kernel_rfl) rfl (ev_q rfl (q_lde (off := 0) Y25 rfl rfl (fun w h => h.zan (i := 1) rfl) (gt_zp hg598) (fun _ _ h => h.1) rfl)) (fun s w h => za8 [some 0, none, some 2] (by decide) w h rfl) (fun _ => ?_)
          refine a_one 11 rfl rfl (by kernel_rfl) rfl (za9 0 Z Tryz.func115 N115 rfl rfl rfl (fun w P1 hF hB hS hT => spec_plSum.calls (hA H42 y44.f0) (hC H42 y44.f0) y300.length y300 (hA H42 y44.f1) (hC H42 y44.f1) y599.length y599 hB hF (stab_in (hT 1 _ rfl).row hg299) hc358 (stab_in (hT 1 _ rfl).row hg598) hc658 _ hx718)) (fun s w h => za8 [some 1, none, some 3] (by decide) w h rfl) (cur2 (fun A720 c721 => ?_))
          refine a_one 12 rfl rfl (by kernel_rfl) rfl (e_litG (j := 0) (ue := 3) (dk := (Kd.int .i64)) (ys := l719) Tryz.underlying60 I25 rfl rfl rfl) (fun s w h => za8 [some 2, none, some 4] (by decide) w h rfl) (cur3 (fun A778 c779 H781 => ?_))
          refine a_one 13 rfl rfl (by kernel_rfl) rfl (e_appG (i := 3) (j := 0) Tryz.underlying60 I25 rfl (by decide) rfl rfl rfl rfl rfl ha839) (fun s w h => za8 [some 2, none, some 4] (by decide) w h rfl) (cur3 (fun A840 c841 H842 => ?_))
          refine zab 14 rfl rfl rfl (by kernel_rfl) (fun _ _ _ h => h) (q_asg rfl) ?_
          refine zay (by kernel_rfl) ?_
          refine zaw ?_
          refine za1 ?_
          refine za0 ?_
          refine o_q rfl rfl (q_up rfl rfl (hr47.up hm48)) ?_
          refine o_q rfl rfl (za2 rfl) ?_
          refine o_end ?_
          refine zao ys45.length (ys45, l838, i43 + 1, A840, c841, H842) (by rw [← hk53]; exact Nat.lt_succ_self _) ⟨hr47.step, rfl, h⟩ ⟨rfl, rfl, trivial⟩ (fun w h => za7 [3, 4] (by decide) rfl w h) ?_
          repeat (first | exact zac _ _ | refine zai rfl ?_ | refine zad rfl ?_ | refine zaj rfl ?_)
        · skip
          refine a_fact (p := y300.length ≤ hC H42 y44.f0) (fun w h => (K_in (h.zan (i := 1) rfl) hg299).1) (fun hc358 => ?_)
          refine a_one 5 rfl rfl (by kernel_rfl) rfl (ev_q rfl (q_lde (off := 0) Y25 rfl rfl (fun w h => h.zan (i := 1) rfl) (gt_zp hg299) (fun _ _ h => h.1) rfl)) (fun s w h => za8 [some 0, none, some 2] (by decide) w h rfl) (fun _ => ?_)
          refine a_one 11 rfl rfl (by kernel_rfl) rfl (za9 0 Z Tryz.func115 N115 rfl rfl rfl (fun w P1 hF hB hS hT => spec_plSum.calls (hA H42 y44.f0) (hC H42 y44.f0) y300.length y300 (hA H42 y44.f1) (hC H42 y44.f1) y599.length y599 hB hF (stab_in (hT 1 _ rfl).row hg299) hc358 (stab_in (hT 1 _ rfl).row hg598) hc658 _ hx718)) (fun s w h => za8 [some 1, none, some 3] (by decide) w h rfl) (cur2 (fun A720 c721 => ?_))
          refine a_one 12 rfl rfl (by kernel_rfl) rfl (e_litG (j := 0) (ue := 3) (dk := (Kd.int .i64)) (ys := l719) Tryz.underlying60 I25 rfl rfl rfl) (fun s w h => za8 [some 2, none, some 4] (by decide) w h rfl) (cur3 (fun A778 c779 H781 => ?_))
          refine a_one 13 rfl rfl (by kernel_rfl) rfl (e_appG (i := 3) (j := 0) Tryz.underlying60 I25 rfl (by decide) rfl rfl rfl rfl rfl ha839) (fun s w h => za8 [some 2, none, some 4] (by decide) w h rfl) (cur3 (fun A840 c841 H842 => ?_))
          refine zab 14 rfl rfl rfl (by kernel_rfl) (fun _ _ _ h => h) (q_asg rfl) ?_
          refine zay (by kernel_rfl) ?_
          refine zaw ?_
          refine za1 ?_
          refine za0 ?_
          refine o_q rfl rfl (q_up rfl rfl (hr47.up hm48)) ?_
          refine o_q rfl rfl (za2 rfl) ?_
          refine o_end ?_
          refine zao ys45.length (ys45, l838, i43 + 1, A840, c841, H842) (by rw [← hk53]; exact Nat.lt_succ_self _) ⟨hr47.step, rfl, h⟩ ⟨rfl, rfl, trivial⟩ (fun w h => za7 [3, 4] (by decide) rfl w h) ?_
          repeat (first | exact zac _ _ | refine zai rfl ?_ | refine zad rfl ?_ | refine zaj rfl ?_)

/-! ### loop.example/g01098/spec.plGood: function 33 -/
def spec_plGood.l1 : (List (List Int)) → Int → Option ((Bool) ⊕ (Unit))
  | [], i24 => some (.inr ())
  | y25 :: ys26, i24 => (spec_l1All.f y25 0 1000000).bind fun b40 => if b40 = true then (spec_plGood.l1 ys26 (i24 + 1)) else (some (.inl false))
def spec_plGood.l0 (a0_0 : Int) : (List SStep) → Int → Option ((Bool) ⊕ (Unit))
  | [], i8 => some (.inr ())
  | y9 :: ys10, i8 => (spec_l1In.f y9.f0 0 y9.f1).bind fun b46 => if b46 = true then (if w64 (a0_0 + i8) ≤ y9.f1 then (some (.inl false)) else (spec_plGood.l0 a0_0 ys10 (i8 + 1))) else (some (.inl false))
def spec_plGood.f (k : Nat) (a0_0 : Int) (l0_1 : List SStep) (l0_2 : List Int) : Option Bool := (spec_l1In.f a0_0 1 6).bind fun b4 => if b4 = true then (if 40 < (l0_1.length : Int) then (some false) else (if 6 < (l0_2.length : Int) then (some false) else ((spec_plGood.l0 a0_0 l0_1 0).bind fun o_ => match o_ with | .inl r_ => some r_ | .inr _ => (spec_plExponents.f k a0_0 l0_1 l0_2).bind fun l20 => (spec_plGood.l1 l20 0).bind fun o_ => match o_ with | .inl r_ => some r_ | .inr _ => (spec_l1All.f l0_2 0 (w64 (w64 (a0_0 + (l0_1.length : Int)) - 1))).bind fun b36 => some b36))) else (some false)
set_option maxHeartbeats 600000 in
set_option maxRecDepth 100000 in
theorem spec_plGood.calls (k : Nat) {w0 ws : World} {P0 : Nat → Prop} (a0_0 : Int) (A0_1 : Option Addr) (c0_1 : Nat) (n0_1 : Nat) (l0_1 : List SStep) (A0_2 : Option Addr) (c0_2 : Nat) (n0_2 : Nat) (l0_2 : List Int) (Z : Below w0.heap.size w0 ws) (hF : Fr w0 ws P0 [] ws) (R0_1 : Stable ws P0 (fun w => Kd.C kStep w A0_1 n0_1 l0_1)) (hc0_1 : n0_1 ≤ c0_1) (R0_2 : Stable ws P0 (fun w => Kd.C (Kd.int .i64) w A0_2 n0_2 l0_2)) (hc0_2 : n0_2 ≤ c0_2) (r_1 : Bool) (h : spec_plGood.f k a0_0 l0_1 l0_2 = some r_1) :
    Calls Tryz.prog 33 #[.agg #[.int .i64 a0_0, .slice A0_1 n0_1 c0_1, .slice A0_2 n0_2 c0_2]] ws (Post1 w0 ws P0 (fun (_ : Unit) => .bool r_1) (fun (_ : Unit) => [])) := by
  unfold spec_plGood.f at h
  obtain rfl := (R0_1 ws (KeptB.refl _ _)).1
  obtain rfl := (R0_2 ws (KeptB.refl _ _)).1
  refine enter Tryz.func33 rfl Tryz.ntmps33 rfl hF ?_
  refine c_seq ?_
  refine za0 ?_
  refine o_e rfl (e_box rfl) (fun g1 => ?_)
  refine o_q rfl rfl (q_asg rfl) ?_
  refine o_end ?_
  refine za1 ?_
  refine c_seq ?_
  refine c_seq ?_
  refine za0 ?_
  refine o_q rfl rfl (q_f F27_0 rfl) ?_
  refine o_q rfl rfl (q_ldb Y3 rfl (fun w h => h.zae (i := 0) rfl) rfl) ?_
  refine za6 h (fun b4 hx3 h => ?_) rfl
  refine o_e rfl (za9 0 Z Tryz.func84 N84 rfl rfl rfl (fun w P1 hF hB hS hT => spec_l1In.calls a0_0 1 6 hB hF _ hx3)) (fun _ => ?_)
  refine o_q rfl rfl (q_not rfl) ?_
  refine o_q rfl rfl (za2 rfl) ?_
  refine byB b4 (fun hb5 => ?_) (fun hb5 => ?_)
  · replace h := bb_t hb5 h
    refine o_w (za4 rfl rfl rfl (congrArg (fun b => Value.bool (!(b))) hb5)) rfl (q_f F27_1 rfl) ?_
    refine o_w (za4 rfl rfl rfl (congrArg (fun b => Value.bool (!(b))) hb5)) rfl (q_ldb Y24 rfl (fun w h => h.zae (i := 0) rfl) rfl) ?_
    refine o_w (za4 rfl rfl rfl (congrArg (fun b => Value.bool (!(b))) hb5)) rfl (q_len Tryz.underlying24 rfl) ?_
    refine o_w (za4 rfl rfl rfl (congrArg (fun b => Value.bool (!(b))) hb5)) rfl (q_gtr rfl rfl) ?_
    refine o_q rfl rfl (zas false (congrArg (fun b => Value.bool (!(b))) hb5) rfl) ?_
    refine o_q rfl rfl (za2 rfl) ?_
    refine byB (decide (40 < (l0_1.length : Int))) (fun hb6 => ?_) (fun hb6 => ?_)
    · replace h := br_t hb6 h
      refine @o_n _ _ _ _ _ _ _ _ _ _ _ 18 (za3 rfl rfl rfl (congrArg Value.bool hb6) rfl) (Eq.refl (some 18)) ?_
      refine @o_n _ _ _ _ _ _ _ _ _ _ _ 19 (za3 rfl rfl rfl (congrArg Value.bool hb6) rfl) (Eq.refl (some 19)) ?_
      refine @o_n _ _ _ _ _ _ _ _ _ _ _ 20 (za3 rfl rfl rfl (congrArg Value.bool hb6) rfl) (Eq.refl (some 20)) ?_
      refine @o_n _ _ _ _ _ _ _ _ _ _ _ 21 (za3 rfl rfl rfl (congrArg Value.bool hb6) rfl) (Eq.refl (some 21)) ?_
      refine o_q rfl rfl (zas true (congrArg Value.bool hb6) rfl) ?_
      refine o_end ?_
      refine za1 ?_
      refine c_true rfl ?_
      refine c_seq ?_
      refine za0 ?_
      refine o_q rfl rfl (q_asg rfl) ?_
      refine o_end ?_
      refine za1 ?_
      refine c_ret ?_
      refine za5 ?_
      have e0_ := Option.some.inj h; clear h
      subst e0_
      exact x_r1 () Tryz.results33 (zaf rfl) rfl (fun w h => za7 [] (by decide) rfl w h)
    · replace h := br_f hb6 h
      refine o_w (za4 rfl rfl rfl (congrArg Value.bool hb6)) rfl (q_f F27_2 rfl) ?_
      refine o_w (za4 rfl rfl rfl (congrArg Value.bool hb6)) rfl (q_ldb Y25 rfl (fun w h => h.zae (i := 0) rfl) rfl) ?_
      refine o_w (za4 rfl rfl rfl (congrArg Value.bool hb6)) rfl (q_len Tryz.underlying25 rfl) ?_
      refine o_w (za4 rfl rfl rfl (congrArg Value.bool hb6)) rfl (q_gtr rfl rfl) ?_
      refine o_q rfl rfl (zas false (congrArg Value.bool hb6) rfl) ?_
      refine o_end ?_
      refine za1 ?_
      refine zaq _ rfl (fun hb7 => ?_) (fun hb7 => ?_)
      · skip
        replace h := br_t hb7 h
        refine c_seq ?_
        refine za0 ?_
        refine o_q rfl rfl (q_asg rfl) ?_
        refine o_end ?_
        refine za1 ?_
        refine c_ret ?_
        refine za5 ?_
        have e0_ := Option.some.inj h; clear h
        subst e0_
        exact x_r1 () Tryz.results33 (zaf rfl) rfl (fun w h => za7 [] (by decide) rfl w h)
      · skip
        replace h := br_f hb7 h
        refine zak ?_
        refine za1 ?_
        refine c_seq ?_
        refine c_seq ?_
        refine za0 ?_
        refine o_q rfl rfl (q_f F27_1 rfl) ?_
        refine o_q rfl rfl (q_ldb Y24 rfl (fun w h => h.zae (i := 0) rfl) rfl) ?_
        refine o_q rfl rfl (q_len Tryz.underlying24 rfl) ?_
        refine o_q rfl rfl (za2 rfl) ?_
        refine o_end ?_
        refine za1 ?_
        refine zal ?_
        refine za6 h (fun o16 hl15 hR14 => ?_) rfl
        clear h
        refine c_fact (p := l0_1.length ≤ 9223372036854775807) (fun w h => (R0_1.now Z h).2.1) (fun hm13 => ?_)
        refine zb1 (σ := (List SStep) × Int) (fun k11 ((ys10, i8) : (List SStep) × Int) => Rg l0_1 i8 ys10 ∧ ys10.length = k11 ∧ spec_plGood.l0 a0_0 ys10 i8 = some o16) [2, 3, 4, 26, 27, 28, 29, 30, 31, 32, 33, 34, 35, 36, 37, 38, 39, 40, 41, 42, 43, 44, 45, 46] (fun ((ys10, i8) : (List SStep) × Int) => [(26, .int .i64 i8)]) (fun ((ys10, i8) : (List SStep) × Int) => [box g1 27 #[.int .i64 a0_0, .slice A0_1 l0_1.length c0_1, .slice A0_2 l0_2.length c0_2]]) l0_1.length (l0_1, 0) ⟨Rg.start _, rfl, hl15⟩ ⟨rfl, trivial⟩ (fun w h => h) ?_
        refine fun k11 => cur2 (listC (fun i8 U17 hJ_ => ?_) (fun y9 ys10 i8 U17 hJ_ => ?_))
        · skip
          clear hl15
          have hr12 := hJ_.1; have hk18 := hJ_.2.1; have h := hJ_.2.2; clear hJ_
          replace h : spec_plGood.l0 a0_0 [] i8 = some o16 := h
          rw [spec_plGood.l0] at h
          refine c_seq ?_
          refine za0 ?_
          refine o_q rfl rfl (q_lss rfl rfl) ?_
          refine o_end ?_
          refine za1 ?_
          refine c_seq ?_
          refine c_false (congrArg Value.bool hr12.ge) ?_
          refine c_exit ?_
          refine zaa ?_
          refine zaa ?_
          have e_ := Option.some.inj h; replace h := hR14; rw [← e_] at h; clear e_
          refine x_hit ?_
          refine za1 ?_
          refine c_seq ?_
          refine c_seq ?_
          refine za0 ?_
          refine o_q rfl rfl (q_ldB G27 Z27 rfl (fun w h => h.zae (i := 0) rfl) rfl) ?_
          refine za6 h (fun l20 hx19 h => ?_) rfl
          refine o_e rfl (za9 0 Z Tryz.func85 N85 rfl rfl rfl (fun w P1 hF hB hS hT => spec_plExponents.calls k a0_0 A0_1 c0_1 l0_1.length l0_1 A0_2 c0_2 l0_2.length l0_2 hB hF (hS _ R0_1) hc0_1 (hS _ R0_2) hc0_2 _ hx19)) (cur3 (fun A21 c22 H23 => ?_))
          refine o_q rfl rfl (q_len Tryz.underlying60 rfl) ?_
          refine o_q rfl rfl (za2 rfl) ?_
          refine o_end ?_
          refine za1 ?_
          refine zal ?_
          refine za6 h (fun o32 hl31 hR30 => ?_) rfl
          clear h
          refine c_fact (p := l20.length ≤ 9223372036854775807) (fun w h => (h.zan (i := 0) rfl).2.1) (fun hm29 => ?_)
          refine zb1 (σ := (List (List Int)) × Int) (fun k27 ((ys26, i24) : (List (List Int)) × Int) => Rg l20 i24 ys26 ∧ ys26.length = k27 ∧ spec_plGood.l1 ys26 i24 = some o32) [2, 6, 50, 51, 52, 53, 54, 55, 56, 57] (fun ((ys26, i24) : (List (List Int)) × Int) => [(50, .int .i64 i24)]) (fun ((ys26, i24) : (List (List Int)) × Int) => [row (gk 3 (Kd.int .i64)) 25 (.slice A21 l20.length c22) (zp H23 l20), box g1 27 #[.int .i64 a0_0, .slice A0_1 l0_1.length c0_1, .slice A0_2 l0_2.length c0_2]]) l20.length (l20, 0) ⟨Rg.start _, rfl, hl31⟩ ⟨rfl, trivial⟩ (fun w h => h) ?_
          refine fun k27 => cur2 (listC (fun i24 U33 hJ_ => ?_) (fun y25 ys26 i24 U33 hJ_ => ?_))
          · skip
            clear hl31
            have hr28 := hJ_.1; have hk34 := hJ_.2.1; have h := hJ_.2.2; clear hJ_
            replace h : spec_plGood.l1 [] i24 = some o32 := h
            rw [spec_plGood.l1] at h
            refine c_seq ?_
            refine za0 ?_
            refine o_q rfl rfl (q_lss rfl rfl) ?_
            refine o_end ?_
            refine za1 ?_
            refine c_seq ?_
            refine c_false (congrArg Value.bool hr28.ge) ?_
            refine c_exit ?_
            refine zaa ?_
            refine zaa ?_
            have e_ := Option.some.inj h; replace h := hR30; rw [← e_] at h; clear e_
            refine x_hit ?_
            refine za1 ?_
            refine c_seq ?_
            refine za0 ?_
            refine o_q rfl rfl (q_f F27_2 rfl) ?_
            refine o_q rfl rfl (q_ldb Y25 rfl (fun w h => h.zae (i := 1) rfl) rfl) ?_
            refine o_q rfl rfl (q_f F27_0 rfl) ?_
            refine o_q rfl rfl (q_ldb Y3 rfl (fun w h => h.zae (i := 1) rfl) rfl) ?_
            refine o_q rfl rfl (q_f F27_1 rfl) ?_
            refine o_q rfl rfl (q_ldb Y24 rfl (fun w h => h.zae (i := 1) rfl) rfl) ?_
            refine o_q rfl rfl (q_len Tryz.underlying24 rfl) ?_
            refine o_q rfl rfl (q_add64 rfl rfl) ?_
            refine o_q rfl rfl (q_sub64 rfl rfl) ?_
            refine za6 h (fun b36 hx35 h => ?_) rfl
            refine o_e rfl (za9 0 Z Tryz.func71 N71 rfl rfl rfl (fun w P1 hF hB hS hT => spec_l1All.calls A0_2 c0_2 l0_2.length l0_2 0 (w64 (w64 (a0_0 + (l0_1.length : Int)) - 1)) hB hF (hS _ R0_2) hc0_2 _ hx35)) (fun _ => ?_)
            refine o_q rfl rfl (q_asg rfl) ?_
            refine o_end ?_
            refine za1 ?_
            refine c_ret ?_
            have e0_ := Option.some.inj h; clear h
            subst e0_
            exact x_r1 () Tryz.results33 (zaf rfl) rfl (fun w h => za7 [] (by decide) rfl w h)
          · skip
            clear hl31
            have hr28 := hJ_.1; have hk34 := hJ_.2.1; have h := hJ_.2.2; clear hJ_
            replace h : spec_plGood.l1 (y25 :: ys26) i24 = some o32 := h
            rw [spec_plGood.l1] at h
            refine c_seq ?_
            refine za0 ?_
            refine o_q rfl rfl (q_lss rfl rfl) ?_
            refine o_end ?_
            refine za1 ?_
            refine c_seq ?_
            refine c_true (congrArg Value.bool hr28.lt) ?_
            refine zak ?_
            refine za1 ?_
            refine c_seq ?_
            refine zal ?_
            refine c_seq ?_
            refine za0 ?_
            refine zb2 (p := Sh A21 l20.length (zp H23 l20).length) (fun w h => f_sh (dk := (gk 3 (Kd.int .i64))) h (fun w h => h.zan (i := 0) rfl)) (fun hq37 => ?_)
            refine o_q rfl rfl (q_ix Tryz.underlying60 Z25 rfl rfl hq37 (gt_zp hr28.get)) ?_
            refine zb2 (p := y25.length ≤ hC H23 i24) (fun w h => (K_in (h.zan (i := 0) rfl) hr28.get).1) (fun hc38 => ?_)
            refine o_q rfl rfl (q_lde (off := 0) Y25 rfl rfl (fun w h => h.zan (i := 0) rfl) (gt_zp hr28.get) (fun _ _ h => h.1) rfl) ?_
            refine o_q rfl rfl (q_asg rfl) ?_
            refine o_end ?_
            refine za1 ?_
            refine c_seq ?_
            refine za0 ?_
            refine o_q rfl rfl (za2 rfl) ?_
            refine za6 h (fun b40 hx39 h => ?_) rfl
            refine o_e rfl (za9 0 Z Tryz.func71 N71 rfl rfl rfl (fun w P1 hF hB hS hT => spec_l1All.calls (hA H23 i24) (hC H23 i24) y25.length y25 0 1000000 hB hF (stab_in (hT 0 _ rfl).row hr28.get) hc38 _ hx39)) (fun _ => ?_)
            refine o_q rfl rfl (q_not rfl) ?_
            refine o_end ?_
            refine za1 ?_
            refine zaq _ rfl (fun hb41 => ?_) (fun hb41 => ?_)
            · replace hb41 := nt_t hb41
              replace h := bb_f hb41 h
              refine c_seq ?_
              refine za0 ?_
              refine o_q rfl rfl (q_asg rfl) ?_
              refine o_end ?_
              refine za1 ?_
              refine c_ret ?_
              refine zah ?_
              refine za5 ?_
              refine za5 ?_
              have e_ := Option.some.inj h; replace h := hR30; rw [← e_] at h; clear e_
              refine zah ?_
              refine za5 ?_
              have e0_ := Option.some.inj h; clear h
              subst e0_
              exact x_r1 () Tryz.results33 (zaf rfl) rfl (fun w h => za7 [] (by decide) rfl w h)
            · replace hb41 := nt_f hb41
              replace h := bb_t hb41 h
              refine zak ?_
              refine zaw ?_
              refine za1 ?_
              refine za0 ?_
              refine o_q rfl rfl (q_up rfl rfl (hr28.up hm29)) ?_
              refine o_q rfl rfl (za2 rfl) ?_
              refine o_end ?_
              refine zao ys26.length (ys26, i24 + 1) (by rw [← hk34]; exact Nat.lt_succ_self _) ⟨hr28.step, rfl, h⟩ ⟨rfl, trivial⟩ (fun w h => za7 [0, 1] (by decide) rfl w h) ?_
              repeat (first | exact zac _ _ | refine zai rfl ?_ | refine zad rfl ?_ | refine zaj rfl ?_)
        · skip
          clear hl15
          have hr12 := hJ_.1; have hk18 := hJ_.2.1; have h := hJ_.2.2; clear hJ_
          replace h : spec_plGood.l0 a0_0 (y9 :: ys10) i8 = some o16 := h
          rw [spec_plGood.l0] at h
          refine c_seq ?_
          refine za0 ?_
          refine o_q rfl rfl (q_lss rfl rfl) ?_
          refine o_end ?_
          refine za1 ?_
          refine c_seq ?_
          refine c_true (congrArg Value.bool hr12.lt) ?_
          refine zak ?_
          refine za1 ?_
          refine c_seq ?_
          refine zal ?_
          refine c_seq ?_
          refine za0 ?_
          refine o_q rfl rfl (za2 rfl) ?_
          refine zb2 (p := Sh A0_1 l0_1.length l0_1.length) (fun w h => f_sh (dk := kStep) h (fun w h => R0_1.now Z h)) (fun hq42 => ?_)
          refine o_q rfl rfl (q_ix Tryz.underlying24 Z72 rfl rfl hq42 hr12.get) ?_
          refine o_q rfl rfl (q_ldE G72 Z72 rfl rfl (fun w h => R0_1.now Z h) hr12.get (fun _ _ h => h) rfl) ?_
          refine o_e rfl (zau V72 rfl) (fun g43 => ?_)
          refine o_q rfl rfl (q_asg rfl) ?_
          refine o_e rfl (zam (i := 0) rfl rfl rfl Z72 rfl rfl) (fun _ => ?_)
          refine o_end ?_
          refine za1 ?_
          refine c_seq ?_
          refine za0 ?_
          refine o_q rfl rfl (q_f F72_0 rfl) ?_
          refine o_q rfl rfl (q_ldb Y3 rfl (fun w h => h.zae (i := 0) rfl) rfl) ?_
          refine o_q rfl rfl (q_f F72_1 rfl) ?_
          refine o_q rfl rfl (q_ldb Y3 rfl (fun w h => h.zae (i := 0) rfl) rfl) ?_
          refine za6 h (fun b46 hx45 h => ?_) rfl
          refine o_e rfl (za9 0 Z Tryz.func84 N84 rfl rfl rfl (fun w P1 hF hB hS hT => spec_l1In.calls y9.f0 0 y9.f1 hB hF _ hx45)) (fun _ => ?_)
          refine o_q rfl rfl (q_not rfl) ?_
          refine o_q rfl rfl (za2 rfl) ?_
          refine byB b46 (fun hb47 => ?_) (fun hb47 => ?_)
          · replace h := bb_t hb47 h
            refine o_w (za4 rfl rfl rfl (congrArg (fun b => Value.bool (!(b))) hb47)) rfl (q_f F72_1 rfl) ?_
            refine o_w (za4 rfl rfl rfl (congrArg (fun b => Value.bool (!(b))) hb47)) rfl (q_ldb Y3 rfl (fun w h => h.zae (i := 0) rfl) rfl) ?_
            refine o_w (za4 rfl rfl rfl (congrArg (fun b => Value.bool (!(b))) hb47)) rfl (q_f F27_0 rfl) ?_
            refine o_w (za4 rfl rfl rfl (congrArg (fun b => Value.bool (!(b))) hb47)) rfl (q_ldb Y3 rfl (fun w h => h.zae (i := 1) rfl) rfl) ?_
            refine o_w (za4 rfl rfl rfl (congrArg (fun b => Value.bool (!(b))) hb47)) rfl (za2 rfl) ?_
            refine o_w (za4 rfl rfl rfl (congrArg (fun b => Value.bool (!(b))) hb47)) rfl (q_add64 rfl rfl) ?_
            refine o_w (za4 rfl rfl rfl (congrArg (fun b => Value.bool (!(b))) hb47)) rfl (q_geq rfl rfl) ?_
            refine o_q rfl rfl (zas false (congrArg (fun b => Value.bool (!(b))) hb47) rfl) ?_
            refine o_end ?_
            refine za1 ?_
            refine zaq _ rfl (fun hb48 => ?_) (fun hb48 => ?_)
            · skip
              replace h := br_t hb48 h
              refine c_seq ?_
              refine za0 ?_
              refine o_q rfl rfl (q_asg rfl) ?_
              refine o_end ?_
              refine za1 ?_
              refine c_ret ?_
              refine zah ?_
              refine za5 ?_
              refine za5 ?_
              have e_ := Option.some.inj h; replace h := hR14; rw [← e_] at h; clear e_
              refine zah ?_
              refine za5 ?_
              have e0_ := Option.some.inj h; clear h
              subst e0_
              exact x_r1 () Tryz.results33 (zaf rfl) rfl (fun w h => za7 [] (by decide) rfl w h)
            · skip
              replace h := br_f hb48 h
              refine zak ?_
              refine zaw ?_
              refine za1 ?_
              refine za0 ?_
              refine o_q rfl rfl (q_up rfl rfl (hr12.up hm13)) ?_
              refine o_q rfl rfl (za2 rfl) ?_
              refine o_end ?_
              refine zao ys10.length (ys10, i8 + 1) (by rw [← hk18]; exact Nat.lt_succ_self _) ⟨hr12.step, rfl, h⟩ ⟨rfl, trivial⟩ (fun w h => za7 [1] (by decide) rfl w h) ?_
              repeat (first | exact zac _ _ | refine zai rfl ?_ | refine zad rfl ?_ | refine zaj rfl ?_)
          · replace h := bb_f hb47 h
            refine @o_n _ _ _ _ _ _ _ _ _ _ _ 38 (za3 rfl rfl rfl (congrArg (fun b => Value.bool (!(b))) hb47) rfl) (Eq.refl (some 38)) ?_
            refine @o_n _ _ _ _ _ _ _ _ _ _ _ 39 (za3 rfl rfl rfl (congrArg (fun b => Value.bool (!(b))) hb47) rfl) (Eq.refl (some 39)) ?_
            refine @o_n _ _ _ _ _ _ _ _ _ _ _ 40 (za3 rfl rfl rfl (congrArg (fun b => Value.bool (!(b))) hb47) rfl) (Eq.refl (some 40)) ?_
            refine @o_n _ _ _ _ _ _ _ _ _ _ _ 41 (za3 rfl rfl rfl (congrArg (fun b => Value.bool (!(b))) hb47) rfl) (Eq.refl (some 41)) ?_
            refine @o_n _ _ _ _ _ _ _ _ _ _ _ 42 (za3 rfl rfl rfl (congrArg (fun b => Value.bool (!(b))) hb47) rfl) (Eq.refl (some 42)) ?_
            refine @o_n _ _ _ _ _ _ _ _ _ _ _ 43 (za3 rfl rfl rfl (congrArg (fun b => Value.bool (!(b))) hb47) rfl) (Eq.refl (some 43)) ?_
            refine @o_n _ _ _ _ _ _ _ _ _ _ _ 44 (za3 rfl rfl rfl (congrArg (fun b => Value.bool (!(b))) hb47) rfl) (Eq.refl (some 44)) ?_
            refine o_q rfl rfl (zas true (congrArg (fun b => Value.bool (!(b))) hb47) rfl) ?_
            refine o_end ?_
            refine za1 ?_
            refine c_true rfl ?_
            refine c_seq ?_
            refine za0 ?_
            refine o_q rfl rfl (q_asg rfl) ?_
            refine o_end ?_
            refine za1 ?_
            refine c_ret ?_
            refine zah ?_
            refine za5 ?_
            refine za5 ?_
            have e_ := Option.some.inj h; replace h := hR14; rw [← e_] at h; clear e_
            refine zah ?_
            refine za5 ?_
            have e0_ := Option.some.inj h; clear h
            subst e0_
            exact x_r1 () Tryz.results33 (zaf rfl) rfl (fun w h => za7 [] (by decide) rfl w h)
  · replace h := bb_f hb5 h
    refine @o_n _ _ _ _ _ _ _ _ _ _ _ 12 (za3 rfl rfl rfl (congrArg (fun b => Value.bool (!(b))) hb5) rfl) (Eq.refl (some 12)) ?_
    refine @o_n _ _ _ _ _ _ _ _ _ _ _ 13 (za3 rfl rfl rfl (congrArg (fun b => Value.bool (!(b))) hb5) rfl) (Eq.refl (some 13)) ?_
    refine @o_n _ _ _ _ _ _ _ _ _ _ _ 14 (za3 rfl rfl rfl (congrArg (fun b => Value.bool (!(b))) hb5) rfl) (Eq.refl (some 14)) ?_
    refine @o_n _ _ _ _ _ _ _ _ _ _ _ 15 (za3 rfl rfl rfl (congrArg (fun b => Value.bool (!(b))) hb5) rfl) (Eq.refl (some 15)) ?_
    refine o_q rfl rfl (zas true (congrArg (fun b => Value.bool (!(b))) hb5) rfl) ?_
    refine o_q rfl rfl (za2 rfl) ?_
    refine @o_n _ _ _ _ _ _ _ _ _ _ _ 18 (za3 rfl rfl rfl rfl rfl) (Eq.refl (some 18)) ?_
    refine @o_n _ _ _ _ _ _ _ _ _ _ _ 19 (za3 rfl rfl rfl rfl rfl) (Eq.refl (some 19)) ?_
    refine @o_n _ _ _ _ _ _ _ _ _ _ _ 20 (za3 rfl rfl rfl rfl rfl) (Eq.refl (some 20)) ?_
    refine @o_n _ _ _ _ _ _ _ _ _ _ _ 21 (za3 rfl rfl rfl rfl rfl) (Eq.refl (some 21)) ?_
    refine o_q rfl rfl (zas true rfl rfl) ?_
    refine o_end ?_
    refine za1 ?_
    refine c_true rfl ?_
    refine c_seq ?_
    refine za0 ?_
    refine o_q rfl rfl (q_asg rfl) ?_
    refine o_end ?_
    refine za1 ?_
    refine c_ret ?_
    refine za5 ?_
    have e0_ := Option.some.inj h; clear h
    subst e0_
    exact x_r1 () Tryz.results33 (zaf rfl) rfl (fun w h => za7 [] (by decide) rfl w h)

/-! ### loop.example/g01098/spec.rePlan: function 97 -/
def spec_rePlan.l0 (l9 : List Int) : (List Int) → (List Int) → Int → Option ((Int × (List SStep) × (List Int) × Bool) ⊕ ((List Int)))
  | [], l20, i23 => some (.inr l20)
  | y24 :: ys25, l20, i23 => (gt l9 y24).bind fun y39 => if y39 < 0 then (some (.inl (0, ([] : List SStep), ([] : List Int), false))) else ((gt l9 y24).bind fun y283 => (ap l20 ([y283] : List Int)).bind fun l462 => spec_rePlan.l0 l9 ys25 l462 (i23 + 1))
def spec_rePlan.f (k : Nat) (a0_0 : Int) (l0_1 : List Int) (l0_2 : List SRegOp) (l0_3 : List Int) : Option (Int × (List SStep) × (List Int) × Bool) := (spec_reShape.f a0_0 l0_1 l0_2 l0_3).bind fun b6 => if b6 = true then ((spec_reValues.f k a0_0 l0_1 l0_2 l0_3 (l0_2.length : Int)).bind fun (l9, l10, b11) => if b11 = true then ((spec_rePlan.l0 l9 l0_3 ([] : List Int) 0).bind fun o_ => match o_ with | .inl r_ => some r_ | .inr l20 => (spec_plGood.f k (l0_1.length : Int) l10 l20).bind fun b35 => some ((l0_1.length : Int), l10, l20, b35)) else (some (0, ([] : List SStep), ([] : List Int), false))) else (some (0, ([] : List SStep), ([] : List Int), false))
set_option maxHeartbeats 600000 in
set_option maxRecDepth 100000 in
theorem spec_rePlan.calls (k : Nat) {w0 ws : World} {P0 : Nat → Prop} (a0_0 : Int) (A0_1 : Option Addr) (c0_1 : Nat) (n0_1 : Nat) (l0_1 : List Int) (A0_2 : Option Addr) (c0_2 : Nat) (n0_2 : Nat) (l0_2 : List SRegOp) (A0_3 : Option Addr) (c0_3 : Nat) (n0_3 : Nat) (l0_3 : List Int) (Z : Below w0.heap.size w0 ws) (hF : Fr w0 ws P0 [] ws) (R0_1 : Stable ws P0 (fun w => Kd.C (Kd.int .i64) w A0_1 n0_1 l0_1)) (hc0_1 : n0_1 ≤ c0_1) (R0_2 : Stable ws P0 (fun w => Kd.C zax w A0_2 n0_2 l0_2)) (hc0_2 : n0_2 ≤ c0_2) (R0_3 : Stable ws P0 (fun w => Kd.C (Kd.int .i64) w A0_3 n0_3 l0_3)) (hc0_3 : n0_3 ≤ c0_3) (r_1 : Int) (r_2 : List SStep) (r_5 : List Int) (r_8 : Bool) (h : spec_rePlan.f k a0_0 l0_1 l0_2 l0_3 = some (r_1, r_2, r_5, r_8)) :
    Calls Tryz.prog 97 #[.agg #[.int .i64 a0_0, .slice A0_1 n0_1 c0_1, .slice A0_2 n0_2 c0_2, .slice A0_3 n0_3 c0_3]] ws (Post1 w0 ws P0 (fun ((q_3, q_4, q_6, q_7) : (Option Addr) × Nat × (Option Addr) × Nat) => .tuple #[.agg #[.int .i64 r_1, .slice q_3 r_2.length q_4, .slice q_6 r_5.length q_7], .bool r_8]) (fun ((q_3, q_4, q_6, q_7) : (Option Addr) × Nat × (Option Addr) × Nat) => [row kStep 72 (.slice q_3 r_2.length q_4) r_2, row (Kd.int .i64) 3 (.slice q_6 r_5.length q_7) r_5])) := by
  unfold spec_rePlan.f at h
  obtain rfl := (R0_1 ws (KeptB.refl _ _)).1
  obtain rfl := (R0_2 ws (KeptB.refl _ _)).1
  obtain rfl := (R0_3 ws (KeptB.refl _ _)).1
  refine enter Tryz.func97 rfl Tryz.ntmps97 rfl hF ?_
  refine c_seq ?_
  refine za0 ?_
  refine o_e rfl (e_box rfl) (fun g1 => ?_)
  refine o_e rfl (zau V27 rfl) (fun g3 => ?_)
  refine o_q rfl rfl (q_asg rfl) ?_
  refine o_end ?_
  refine za1 ?_
  refine c_seq ?_
  refine c_seq ?_
  refine za0 ?_
  refine o_q rfl rfl (q_ldB G38 Z38 rfl (fun w h => h.zae (i := 1) rfl) rfl) ?_
  refine za6 h (fun b6 hx5 h => ?_) rfl
  refine o_e rfl (za9 0 Z Tryz.func123 N123 rfl rfl rfl (fun w P1 hF hB hS hT => spec_reShape.calls a0_0 A0_1 c0_1 l0_1.length l0_1 A0_2 c0_2 l0_2.length l0_2 A0_3 c0_3 l0_3.length l0_3 hB hF (hS _ R0_1) hc0_1 (hS _ R0_2) hc0_2 (hS _ R0_3) hc0_3 _ hx5)) (fun _ => ?_)
  refine o_q rfl rfl (q_not rfl) ?_
  refine o_end ?_
  refine za1 ?_
  refine zaq _ rfl (fun hb7 => ?_) (fun hb7 => ?_)
  · replace hb7 := nt_t hb7
    replace h := bb_f hb7 h
    refine c_seq ?_
    refine za0 ?_
    refine o_q rfl rfl (q_build (vs := []) (cs := [.int .i64 0, .slice none 0 0, .slice none 0 0]) rfl rfl) ?_
    refine o_e rfl (zam (i := 0) rfl rfl rfl Z27 rfl rfl) (fun _ => ?_)
    refine o_q rfl rfl (q_asg rfl) ?_
    refine o_end ?_
    refine za1 ?_
    refine c_ret ?_
    refine za5 ?_
    refine x_nil kStep 72 ?_
    refine x_nil (Kd.int .i64) 3 ?_
    have e0_ := Option.some.inj h; clear h
    have d0_ := (Prod.mk.inj e0_).1; have e1_ := (Prod.mk.inj e0_).2; clear e0_; subst d0_
    have d1_ := (Prod.mk.inj e1_).1; have e2_ := (Prod.mk.inj e1_).2; clear e1_; subst d1_
    have d2_ := (Prod.mk.inj e2_).1; have e3_ := (Prod.mk.inj e2_).2; clear e2_; subst d2_
    subst e3_
    exact x_r2 (none, 0, none, 0) Tryz.results97 (rv_cell rfl G27 Z27 (fun w h => h.zae (i := 2) rfl) rfl) (zaf rfl) rfl (fun w h => za7 [1, 0] (by decide) rfl w h)
  · replace hb7 := nt_f hb7
    replace h := bb_t hb7 h
    refine zak ?_
    refine za1 ?_
    refine c_seq ?_
    refine za0 ?_
    refine o_q rfl rfl (q_ldB G38 Z38 rfl (fun w h => h.zae (i := 1) rfl) rfl) ?_
    refine o_q rfl rfl (q_f F38_2 rfl) ?_
    refine o_q rfl rfl (q_ldb Y36 rfl (fun w h => h.zae (i := 1) rfl) rfl) ?_
    refine o_q rfl rfl (q_len Tryz.underlying36 rfl) ?_
    refine bindE3 h (fun l9 l10 b11 hx8 h => ?_) rfl
    refine o_e rfl (za9 0 Z Tryz.func124 N124 rfl rfl rfl (fun w P1 hF hB hS hT => spec_reValues.calls k a0_0 A0_1 c0_1 l0_1.length l0_1 A0_2 c0_2 l0_2.length l0_2 A0_3 c0_3 l0_3.length l0_3 (l0_2.length : Int) hB hF (hS _ R0_1) hc0_1 (hS _ R0_2) hc0_2 (hS _ R0_3) hc0_3 _ _ _ hx8)) (cur4 (fun A12 c13 A14 c15 => ?_))
    refine o_q rfl rfl (za2 rfl) ?_
    refine o_q rfl rfl (q_ext rfl rfl) ?_
    refine o_q rfl rfl (q_ext rfl rfl) ?_
    refine o_q rfl rfl (q_ext rfl rfl) ?_
    refine o_q rfl rfl (q_asg rfl) ?_
    refine o_q rfl rfl (q_asg rfl) ?_
    refine o_q rfl rfl (q_asg rfl) ?_
    refine o_end ?_
    refine za1 ?_
    refine c_seq ?_
    refine c_seq ?_
    refine za0 ?_
    refine o_q rfl rfl (za2 rfl) ?_
    refine o_q rfl rfl (q_not rfl) ?_
    refine o_end ?_
    refine za1 ?_
    refine zaq _ rfl (fun hb16 => ?_) (fun hb16 => ?_)
    · replace hb16 := nt_t hb16
      replace h := bb_f hb16 h
      refine c_seq ?_
      refine za0 ?_
      refine o_q rfl rfl (q_build (vs := []) (cs := [.int .i64 0, .slice none 0 0, .slice none 0 0]) rfl rfl) ?_
      refine o_e rfl (zam (i := 2) rfl rfl rfl Z27 rfl rfl) (fun _ => ?_)
      refine o_q rfl rfl (q_asg rfl) ?_
      refine o_end ?_
      refine za1 ?_
      refine c_ret ?_
      refine za5 ?_
      refine x_nil kStep 72 ?_
      refine x_nil (Kd.int .i64) 3 ?_
      have e0_ := Option.some.inj h; clear h
      have d0_ := (Prod.mk.inj e0_).1; have e1_ := (Prod.mk.inj e0_).2; clear e0_; subst d0_
      have d1_ := (Prod.mk.inj e1_).1; have e2_ := (Prod.mk.inj e1_).2; clear e1_; subst d1_
      have d2_ := (Prod.mk.inj e2_).1; have e3_ := (Prod.mk.inj e2_).2; clear e2_; subst d2_
      subst e3_
      exact x_r2 (none, 0, none, 0) Tryz.results97 (rv_cell rfl G27 Z27 (fun w h => h.zae (i := 4) rfl) rfl) (zaf rfl) rfl (fun w h => za7 [1, 0] (by decide) rfl w h)
    · replace hb16 := nt_f hb16
      replace h := bb_t hb16 h
      refine zak ?_
      refine za1 ?_
      refine c_seq ?_
      refine za0 ?_
      refine o_q rfl rfl (q_f F38_1 rfl) ?_
      refine o_q rfl rfl (q_ldb Y25 rfl (fun w h => h.zae (i := 3) rfl) rfl) ?_
      refine o_q rfl rfl (q_len Tryz.underlying25 rfl) ?_
      refine o_q rfl rfl (za2 rfl) ?_
      refine o_q rfl rfl (q_build (vs := [(0, .int .i64 (l0_1.length : Int)), (1, .slice A14 l10.length c15)]) (cs := [.int .i64 (l0_1.length : Int), .slice A14 l10.length c15, .slice none 0 0]) rfl rfl) ?_
      refine o_e rfl (zau V27 rfl) (fun g17 => ?_)
      refine o_e rfl (zam (i := 0) rfl rfl rfl Z27 rfl rfl) (fun _ => ?_)
      refine o_end ?_
      refine za1 ?_
      refine c_seq ?_
      refine c_seq ?_
      refine za0 ?_
      refine o_q rfl rfl (q_f F38_3 rfl) ?_
      refine o_q rfl rfl (q_ldb Y25 rfl (fun w h => h.zae (i := 4) rfl) rfl) ?_
      refine o_q rfl rfl (q_len Tryz.underlying25 rfl) ?_
      refine o_q rfl rfl (za2 rfl) ?_
      refine o_end ?_
      refine za1 ?_
      refine zal ?_
      refine c_nil (Kd.int .i64) 3 ?_
      refine za6 h (fun o31 hl30 hR29 => ?_) rfl
      clear h
      refine c_fact (p := l0_3.length ≤ 9223372036854775807) (fun w h => (R0_3.now Z h).2.1) (fun hm28 => ?_)
      refine zb1 (σ := (List Int) × (List Int) × Int × (Option Addr) × Nat) (fun k26 ((ys25, l20, i23, A21, c22) : (List Int) × (List Int) × Int × (Option Addr) × Nat) => Rg l0_3 i23 ys25 ∧ ys25.length = k26 ∧ spec_rePlan.l0 l9 ys25 l20 i23 = some o31) [3, 9, 34, 35, 36, 37, 38, 39, 40, 41, 42, 43, 44, 45, 46, 47, 48, 49, 50, 51, 52, 53] (fun ((ys25, l20, i23, A21, c22) : (List Int) × (List Int) × Int × (Option Addr) × Nat) => [(34, .int .i64 i23)]) (fun ((ys25, l20, i23, A21, c22) : (List Int) × (List Int) × Int × (Option Addr) × Nat) => [row (Kd.int .i64) 3 (.slice A21 l20.length c22) l20, box g17 27 #[.int .i64 (l0_1.length : Int), .slice A14 l10.length c15, .slice A21 l20.length c22], row (Kd.int .i64) 3 (.slice A12 l9.length c13) l9, row kStep 72 (.slice A14 l10.length c15) l10, box g3 27 #[.int .i64 0, .slice none 0 0, .slice none 0 0], box g1 38 #[.int .i64 a0_0, .slice A0_1 l0_1.length c0_1, .slice A0_2 l0_2.length c0_2, .slice A0_3 l0_3.length c0_3]]) l0_3.length (l0_3, ([] : List Int), 0, none, 0) ⟨Rg.start _, rfl, hl30⟩ ⟨rfl, trivial⟩ (fun w h => h) ?_
      refine fun k26 => cur5 (listC (fun l20 i23 A21 c22 U32 hJ_ => ?_) (fun y24 ys25 l20 i23 A21 c22 U32 hJ_ => ?_))
      · skip
        clear hl30
        have hr27 := hJ_.1; have hk33 := hJ_.2.1; have h := hJ_.2.2; clear hJ_
        replace h : spec_rePlan.l0 l9 [] l20 i23 = some o31 := h
        rw [spec_rePlan.l0] at h
        refine c_seq ?_
        refine za0 ?_
        refine o_q rfl rfl (q_lss rfl rfl) ?_
        refine o_end ?_
        refine za1 ?_
        refine c_seq ?_
        refine c_false (congrArg Value.bool hr27.ge) ?_
        refine c_exit ?_
        refine zaa ?_
        refine zaa ?_
        have e_ := Option.some.inj h; replace h := hR29; rw [← e_] at h; clear e_
        refine x_hit ?_
        refine za1 ?_
        refine c_seq ?_
        refine a_startS (ds := []) [some 0, some 1, some 2, some 3, none, some 5] MO rfl ?_
        refine zaz 0 rfl rfl rfl (by kernel_rfl) (fun _ _ _ h => h) (fun w h => za8 [some 0, some 1, some 2, some 3, none, some 5] (by decide) w h rfl) (q_ldB G27 Z27 rfl (fun w h => h.zae (i := 1) rfl) rfl) ?_
        refine zaz 1 rfl rfl rfl (by kernel_rfl) (fun _ _ _ h => h) (fun w h => za8 [some 0, some 1, some 2, some 3, none, some 5] (by decide) w h rfl) (q_ldB G27 Z27 rfl (fun w h => h.zae (i := 1) rfl) rfl) ?_
        refine za6 h (fun b35 hx34 h => ?_) rfl
        refine a_one 2 rfl rfl (by kernel_rfl) rfl (za9 0 Z Tryz.func33 N33 rfl rfl rfl (fun w P1 hF hB hS hT => spec_plGood.calls k (l0_1.length : Int) A14 c15 l10.length l10 A21 c22 l20.length l20 hB hF (hT 3 _ rfl).row (hT 3 _ rfl).cap (hT 0 _ rfl).row (hT 0 _ rfl).cap _ hx34)) (fun s w h => za8 [some 0, some 1, some 2, some 3, none, some 5] (by decide) w h rfl) (fun _ => ?_)
        refine a_one 3 rfl rfl (by kernel_rfl) rfl (zam (i := 4) rfl rfl rfl Z27 rfl rfl) (fun s w h => za8 [some 0, some 1, some 2, some 3, none, some 5] (by decide) w h rfl) (fun _ => ?_)
        refine zab 4 rfl rfl rfl (by kernel_rfl) (fun _ _ _ h => h) (q_asg rfl) ?_
        refine zay (by kernel_rfl) ?_
        refine za1 ?_
        refine c_ret ?_
        have e0_ := Option.some.inj h; clear h
        have d0_ := (Prod.mk.inj e0_).1; have e1_ := (Prod.mk.inj e0_).2; clear e0_; subst d0_
        have d1_ := (Prod.mk.inj e1_).1; have e2_ := (Prod.mk.inj e1_).2; clear e1_; subst d1_
        have d2_ := (Prod.mk.inj e2_).1; have e3_ := (Prod.mk.inj e2_).2; clear e2_; subst d2_
        subst e3_
        exact x_r2 (A14, c15, A21, c22) Tryz.results97 (rv_cell rfl G27 Z27 (fun w h => h.zae (i := 4) rfl) rfl) (zaf rfl) rfl (fun w h => za7 [3, 0] (by decide) rfl w h)
      · skip
        clear hl30
        have hr27 := hJ_.1; have hk33 := hJ_.2.1; have h := hJ_.2.2; clear hJ_
        replace h : spec_rePlan.l0 l9 (y24 :: ys25) l20 i23 = some o31 := h
        rw [spec_rePlan.l0] at h
        refine c_seq ?_
        refine za0 ?_
        refine o_q rfl rfl (q_lss rfl rfl) ?_
        refine o_end ?_
        refine za1 ?_
        refine c_seq ?_
        refine c_true (congrArg Value.bool hr27.lt) ?_
        refine zak ?_
        refine za1 ?_
        refine c_seq ?_
        refine zal ?_
        refine c_seq ?_
        refine za0 ?_
        refine zb2 (p := Sh A0_3 l0_3.length l0_3.length) (fun w h => f_sh (dk := (Kd.int .i64)) h (fun w h => R0_3.now Z h)) (fun hq36 => ?_)
        refine o_q rfl rfl (q_ix Tryz.underlying25 Z3 rfl rfl hq36 hr27.get) ?_
        refine o_q rfl rfl (q_lde (off := 0) Y3 rfl rfl (fun w h => R0_3.now Z h) hr27.get (fun _ _ h => h) rfl) ?_
        refine o_q rfl rfl (q_asg rfl) ?_
        refine o_end ?_
        refine za1 ?_
        refine c_seq ?_
        refine c_seq ?_
        refine za0 ?_
        refine o_q rfl rfl (za2 rfl) ?_
        refine o_q rfl rfl (za2 rfl) ?_
        refine zb2 (p := Sh A12 l9.length l9.length) (fun w h => f_sh (dk := (Kd.int .i64)) h (fun w h => h.zan (i := 2) rfl)) (fun hq37 => ?_)
        refine za6 h (fun y39 hg38 h => ?_) rfl
        refine o_q rfl rfl (q_ix Tryz.underlying25 Z3 rfl rfl hq37 hg38) ?_
        refine o_q rfl rfl (q_lde (off := 0) Y3 rfl rfl (fun w h => h.zan (i := 2) rfl) hg38 (fun _ _ h => h) rfl) ?_
        refine o_q rfl rfl (q_lss rfl rfl) ?_
        refine o_end ?_
        refine za1 ?_
        refine zaq _ rfl (fun hb40 => ?_) (fun hb40 => ?_)
        · skip
          replace h := br_t hb40 h
          refine c_seq ?_
          refine za0 ?_
          refine o_q rfl rfl (q_build (vs := []) (cs := [.int .i64 0, .slice none 0 0, .slice none 0 0]) rfl rfl) ?_
          refine o_e rfl (zam (i := 4) rfl rfl rfl Z27 rfl rfl) (fun _ => ?_)
          refine o_q rfl rfl (q_asg rfl) ?_
          refine o_end ?_
          refine za1 ?_
          refine c_ret ?_
          refine za5 ?_
          refine zah ?_
          refine za5 ?_
          refine za5 ?_
          have e_ := Option.some.inj h; replace h := hR29; rw [← e_] at h; clear e_
          refine zah ?_
          refine za5 ?_
          refine x_nil kStep 72 ?_
          refine x_nil (Kd.int .i64) 3 ?_
          have e0_ := Option.some.inj h; clear h
          have d0_ := (Prod.mk.inj e0_).1; have e1_ := (Prod.mk.inj e0_).2; clear e0_; subst d0_
          have d1_ := (Prod.mk.inj e1_).1; have e2_ := (Prod.mk.inj e1_).2; clear e1_; subst d1_
          have d2_ := (Prod.mk.inj e2_).1; have e3_ := (Prod.mk.inj e2_).2; clear e2_; subst d2_
          subst e3_
          exact x_r2 (none, 0, none, 0) Tryz.results97 (rv_cell rfl G27 Z27 (fun w h => h.zae (i := 6) rfl) rfl) (zaf rfl) rfl (fun w h => za7 [1, 0] (by decide) rfl w h)
        · skip
          replace h := br_f hb40 h
          refine zak ?_
          refine za1 ?_
          refine za6 h (fun y283 hg282 h => ?_) rfl
          refine za6 h (fun l462 ha463 h => ?_) rfl
          refine a_startS (ds := []) [none, none, some 2, some 3, some 4, some 5] MO rfl ?_
          refine zab 0 rfl rfl rfl (by kernel_rfl) (fun _ _ _ h => h) (q_f F27_2 rfl) ?_
          refine zab 2 rfl rfl rfl (by kernel_rfl) (fun _ _ _ h => h) (za2 rfl) ?_
          refine zab 3 rfl rfl rfl (by kernel_rfl) (fun _ _ _ h => h) (za2 rfl) ?_
          refine zab 4 rfl rfl rfl (by kernel_rfl) (fun _ _ _ h => h) (q_ix Tryz.underlying25 Z3 rfl rfl hq37 hg282) ?_
          refine zaz 5 rfl rfl rfl (by kernel_rfl) (fun _ _ _ h => h) (fun w h => za8 [none, none, some 2, some 3, some 4, some 5] (by decide) w h rfl) (q_lde (off := 0) Y3 rfl rfl (fun w h => h.zan (i := 2) rfl) hg282 (fun _ _ h => h) rfl) ?_
          refine a_two 1 6 rfl rfl rfl rfl (by kernel_rfl) rfl rfl (ev_q rfl (q_ldb Y25 rfl (fun w h => h.zae (i := 1) rfl) rfl)) (fun s w h => za8 [none, none, some 2, some 3, some 4, some 5] (by decide) w h rfl) (e_lit (vs := [(0, .int .i64 y283)]) (cs := [.int .i64 y283]) (Kd.int .i64) ([y283] : List Int) Tryz.underlying25 I3 (by decide) rfl (by decide) rfl rfl (fun _ _ => Kd.zav _)) (fun s w h => za8 [none, none, some 3, some 4, some 5, some 6] (by decide) w h rfl) (fun _ => ?_) (cur2 (fun A402 c403 => ?_))
          · skip
            refine a_one 6 rfl rfl (by kernel_rfl) rfl (e_lit (vs := [(0, .int .i64 y283)]) (cs := [.int .i64 y283]) (Kd.int .i64) ([y283] : List Int) Tryz.underlying25 I3 (by decide) rfl (by decide) rfl rfl (fun _ _ => Kd.zav _)) (fun s w h => za8 [none, none, some 3, some 4, some 5, some 6] (by decide) w h rfl) (cur2 (fun A402 c403 => ?_))
            refine a_one 7 rfl rfl (by kernel_rfl) rfl (e_app (i := 1) (j := 0) Tryz.underlying25 I3 rfl (by decide) (by decide) rfl rfl rfl rfl rfl ha463) (fun s w h => za8 [none, none, some 3, some 4, some 5, some 6] (by decide) w h rfl) (cur2 (fun A464 c465 => ?_))
            refine zab 8 rfl rfl rfl (by kernel_rfl) (fun _ _ _ h => h) (q_f F27_2 rfl) ?_
            refine a_one 9 rfl rfl (by kernel_rfl) rfl (e_store (i := 2) rfl rfl rfl rfl Z25 rfl rfl) (fun s w h => za8 [none, none, some 3, some 4, some 5, some 6] (by decide) w h rfl) (fun _ => ?_)
            refine zay (by kernel_rfl) ?_
            refine zaw ?_
            refine za1 ?_
            refine za0 ?_
            refine o_q rfl rfl (q_up rfl rfl (hr27.up hm28)) ?_
            refine o_q rfl rfl (za2 rfl) ?_
            refine o_end ?_
            refine zao ys25.length (ys25, l462, i23 + 1, A464, c465) (by rw [← hk33]; exact Nat.lt_succ_self _) ⟨hr27.step, rfl, h⟩ ⟨rfl, trivial⟩ (fun w h => za7 [1, 2, 3, 4, 5, 6] (by decide) rfl w h) ?_
            repeat (first | exact zac _ _ | refine zai rfl ?_ | refine zad rfl ?_ | refine zaj rfl ?_)
          · skip
            refine a_one 1 rfl rfl (by kernel_rfl) rfl (ev_q rfl (q_ldb Y25 rfl (fun w h => h.zae (i := 2) rfl) rfl)) (fun s w h => za8 [none, none, some 3, some 4, some 5, some 6] (by decide) w h rfl) (fun _ => ?_)
            refine a_one 7 rfl rfl (by kernel_rfl) rfl (e_app (i := 1) (j := 0) Tryz.underlying25 I3 rfl (by decide) (by decide) rfl rfl rfl rfl rfl ha463) (fun s w h => za8 [none, none, some 3, some 4, some 5, some 6] (by decide) w h rfl) (cur2 (fun A464 c465 => ?_))
            refine zab 8 rfl rfl rfl (by kernel_rfl) (fun _ _ _ h => h) (q_f F27_2 rfl) ?_
            refine a_one 9 rfl rfl (by kernel_rfl) rfl (e_store (i := 2) rfl rfl rfl rfl Z25 rfl rfl) (fun s w h => za8 [none, none, some 3, some 4, some 5, some 6] (by decide) w h rfl) (fun _ => ?_)
            refine zay (by kernel_rfl) ?_
            refine zaw ?_
            refine za1 ?_
            refine za0 ?_
            refine o_q rfl rfl (q_up rfl rfl (hr27.up hm28)) ?_
            refine o_q rfl rfl (za2 rfl) ?_
            refine o_end ?_
            refine zao ys25.length (ys25, l462, i23 + 1, A464, c465) (by rw [← hk33]; exact Nat.lt_succ_self _) ⟨hr27.step, rfl, h⟩ ⟨rfl, trivial⟩ (fun w h => za7 [1, 2, 3, 4, 5, 6] (by decide) rfl w h) ?_
            repeat (first | exact zac _ _ | refine zai rfl ?_ | refine zad rfl ?_ | refine zaj rfl ?_)

/-! ### loop.example/g01098/spec.reCode: function 56 -/
def spec_reCode.f (k : Nat) (a0_0 : Int) (l0_1 : List Int) (l0_2 : List SRegOp) (l0_3 : List Int) : Option Bool := (spec_rePlan.f k a0_0 l0_1 l0_2 l0_3).bind fun (i4, l5, l6, b7) => some b7
set_option maxHeartbeats 600000 in
set_option maxRecDepth 100000 in
theorem spec_reCode.calls (k : Nat) {w0 ws : World} {P0 : Nat → Prop} (a0_0 : Int) (A0_1 : Option Addr) (c0_1 : Nat) (n0_1 : Nat) (l0_1 : List Int) (A0_2 : Option Addr) (c0_2 : Nat) (n0_2 : Nat) (l0_2 : List SRegOp) (A0_3 : Option Addr) (c0_3 : Nat) (n0_3 : Nat) (l0_3 : List Int) (Z : Below w0.heap.size w0 ws) (hF : Fr w0 ws P0 [] ws) (R0_1 : Stable ws P0 (fun w => Kd.C (Kd.int .i64) w A0_1 n0_1 l0_1)) (hc0_1 : n0_1 ≤ c0_1) (R0_2 : Stable ws P0 (fun w => Kd.C zax w A0_2 n0_2 l0_2)) (hc0_2 : n0_2 ≤ c0_2) (R0_3 : Stable ws P0 (fun w => Kd.C (Kd.int .i64) w A0_3 n0_3 l0_3)) (hc0_3 : n0_3 ≤ c0_3) (r_1 : Bool) (h : spec_reCode.f k a0_0 l0_1 l0_2 l0_3 = some r_1) :
    Calls Tryz.prog 56 #[.agg #[.int .i64 a0_0, .slice A0_1 n0_1 c0_1, .slice A0_2 n0_2 c0_2, .slice A0_3 n0_3 c0_3]] ws (Post1 w0 ws P0 (fun (_ : Unit) => .bool r_1) (fun (_ : Unit) => [])) := by
  unfold spec_reCode.f at h
  obtain rfl := (R0_1 ws (KeptB.refl _ _)).1
  obtain rfl := (R0_2 ws (KeptB.refl _ _)).1
  obtain rfl := (R0_3 ws (KeptB.refl _ _)).1
  refine enter Tryz.func56 rfl Tryz.ntmps56 rfl hF ?_
  refine c_seq ?_
  refine za0 ?_
  refine o_e rfl (e_box rfl) (fun g1 => ?_)
  refine o_q rfl rfl (q_asg rfl) ?_
  refine o_end ?_
  refine za1 ?_
  refine c_seq ?_
  refine za0 ?_
  refine o_q rfl rfl (q_ldB G38 Z38 rfl (fun w h => h.zae (i := 0) rfl) rfl) ?_
  refine bindE4 h (fun i4 l5 l6 b7 hx3 h => ?_) rfl
  refine o_e rfl (za9 0 Z Tryz.func97 N97 rfl rfl rfl (fun w P1 hF hB hS hT => spec_rePlan.calls k a0_0 A0_1 c0_1 l0_1.length l0_1 A0_2 c0_2 l0_2.length l0_2 A0_3 c0_3 l0_3.length l0_3 hB hF (hS _ R0_1) hc0_1 (hS _ R0_2) hc0_2 (hS _ R0_3) hc0_3 _ _ _ _ hx3)) (cur4 (fun A8 c9 A10 c11 => ?_))
  refine o_q rfl rfl (za2 rfl) ?_
  refine o_q rfl rfl (q_ext rfl rfl) ?_
  refine o_q rfl rfl (q_ext rfl rfl) ?_
  refine o_e rfl (zau V27 rfl) (fun g12 => ?_)
  refine o_e rfl (zam (i := 0) rfl rfl rfl Z27 rfl rfl) (fun _ => ?_)
  refine o_q rfl rfl (q_asg rfl) ?_
  refine o_end ?_
  refine za1 ?_
  refine c_seq ?_
  refine za0 ?_
  refine o_q rfl rfl (za2 rfl) ?_
  refine o_q rfl rfl (q_asg rfl) ?_
  refine o_end ?_
  refine za1 ?_
  refine c_ret ?_
  have e0_ := Option.some.inj h; clear h
  subst e0_
  exact x_r1 () Tryz.results56 (zaf rfl) rfl (fun w h => za7 [] (by decide) rfl w h)

/-! ### loop.example/g01098/spec.l1Num: function 86 -/
def spec_l1Num.f : Nat → Int → Option ByteArray
  | 0, _ => none
  | k + 1, a0 => if a0 < 10 then (some (strOfNums ([IntKind.u8.wrap (w64 (48 + a0))] : List Int))) else (((spec_l1Num.f k) (w64 (a0.tdiv 10))).bind fun s127 => (sap s127 (strOfNums ([IntKind.u8.wrap (w64 (48 + (a0.tmod 10)))] : List Int))).bind fun s547 => some s547)
set_option maxHeartbeats 600000 in
set_option maxRecDepth 100000 in
theorem spec_l1Num.calls : ∀ (k : Nat) {w0 ws : World} {P0 : Nat → Prop} (a0 : Int) (Z : Below w0.heap.size w0 ws) (hF : Fr w0 ws P0 [] ws)  (r_1 : ByteArray) (h : spec_l1Num.f k a0 = some r_1),
    Calls Tryz.prog 86 #[.int .i64 a0] ws (Post1 w0 ws P0 (fun (_ : Unit) => .string r_1) (fun (_ : Unit) => [])) := by
  intro k
  induction k with
  | zero =>
    intros
    rename_i h
    cases h
  | succ k ih =>
    intro w0 ws P0 a0 Z hF  r_1 h
    rw [spec_l1Num.f] at h
    refine enter Tryz.func86 rfl Tryz.ntmps86 rfl hF ?_
    refine c_seq ?_
    refine za0 ?_
    refine o_q rfl rfl (q_asg rfl) ?_
    refine o_end ?_
    refine za1 ?_
    refine c_seq ?_
    refine c_seq ?_
    refine za0 ?_
    refine o_q rfl rfl (za2 rfl) ?_
    refine o_q rfl rfl (q_lss rfl rfl) ?_
    refine o_end ?_
    refine za1 ?_
    refine zaq _ rfl (fun hb1 => ?_) (fun hb1 => ?_)
    · skip
      replace h := br_t hb1 h
      refine c_seq ?_
      refine za0 ?_
      refine o_q rfl rfl (za2 rfl) ?_
      refine o_q rfl rfl (q_add64 rfl rfl) ?_
      refine o_q rfl rfl (q_conv (by rw [Tryz.underlying3]; rfl) Tryz.underlying5 rfl) ?_
      refine o_e rfl (e_lit (vs := [(0, .int .u8 (IntKind.u8.wrap (w64 (48 + a0))))]) (cs := [.int .u8 (IntKind.u8.wrap (w64 (48 + a0)))]) (Kd.int .u8) ([IntKind.u8.wrap (w64 (48 + a0))] : List Int) Tryz.underlying22 I5 (by decide) rfl (by decide) rfl rfl (fun _ _ => Kd.zav _)) (cur2 (fun A2 c3 => ?_))
      refine o_q rfl rfl (q_bstr Tryz.underlying22 Tryz.underlying5 Tryz.underlying9 rfl (fun w h => h.zan (i := 0) rfl) (Nat.succ_pos _)) ?_
      refine o_q rfl rfl (q_asg rfl) ?_
      refine o_end ?_
      refine za1 ?_
      refine c_ret ?_
      refine za5 ?_
      have e0_ := Option.some.inj h; clear h
      subst e0_
      exact x_r1 () Tryz.results86 (zaf rfl) rfl (fun w h => za7 [] (by decide) rfl w h)
    · skip
      replace h := br_f hb1 h
      refine zak ?_
      refine za1 ?_
      refine c_seq ?_
      refine za6 h (fun s127 hx126 h => ?_) rfl
      refine za6 h (fun s547 hs546 h => ?_) rfl
      refine a_start (ds := []) MO rfl ?_
      refine zab 0 rfl rfl rfl (by kernel_rfl) (fun _ _ _ h => h) (za2 rfl) ?_
      refine zab 1 rfl rfl rfl (by kernel_rfl) (fun _ _ _ h => h) (q_quo64 rfl rfl (by decide)) ?_
      refine zab 3 rfl rfl rfl (by kernel_rfl) (fun _ _ _ h => h) (za2 rfl) ?_
      refine zab 4 rfl rfl rfl (by kernel_rfl) (fun _ _ _ h => h) (q_rem rfl rfl (by decide)) ?_
      refine zab 5 rfl rfl rfl (by kernel_rfl) (fun _ _ _ h => h) (q_add64 rfl rfl) ?_
      refine zab 6 rfl rfl rfl (by kernel_rfl) (fun _ _ _ h => h) (q_conv (by rw [Tryz.underlying3]; rfl) Tryz.underlying5 rfl) ?_
      refine a_two 2 7 rfl rfl rfl rfl (by kernel_rfl) rfl rfl (za9 0 Z Tryz.func86 N86 rfl rfl rfl (fun w P1 hF hB hS hT => ih (w64 (a0.tdiv 10)) hB hF _ hx126)) (fun s w h => h) (e_lit (vs := [(0, .int .u8 (IntKind.u8.wrap (w64 (48 + (a0.tmod 10)))))]) (cs := [.int .u8 (IntKind.u8.wrap (w64 (48 + (a0.tmod 10))))]) (Kd.int .u8) ([IntKind.u8.wrap (w64 (48 + (a0.tmod 10)))] : List Int) Tryz.underlying22 I5 (by decide) rfl (by decide) rfl rfl (fun _ _ => Kd.zav _)) (fun s w h => za8 [] (by decide) w h rfl) (fun _ => ?_) (cur2 (fun A426 c427 => ?_))
      · skip
        refine a_one 7 rfl rfl (by kernel_rfl) rfl (e_lit (vs := [(0, .int .u8 (IntKind.u8.wrap (w64 (48 + (a0.tmod 10)))))]) (cs := [.int .u8 (IntKind.u8.wrap (w64 (48 + (a0.tmod 10))))]) (Kd.int .u8) ([IntKind.u8.wrap (w64 (48 + (a0.tmod 10)))] : List Int) Tryz.underlying22 I5 (by decide) rfl (by decide) rfl rfl (fun _ _ => Kd.zav _)) (fun s w h => za8 [] (by decide) w h rfl) (cur2 (fun A426 c427 => ?_))
        refine a_one 8 rfl rfl (by kernel_rfl) rfl (ev_q rfl (q_bstr Tryz.underlying22 Tryz.underlying5 Tryz.underlying9 rfl (fun w h => h.zan (i := 0) rfl) (Nat.succ_pos _))) (fun s w h => za8 [] (by decide) w h rfl) (fun _ => ?_)
        refine zab 9 rfl rfl rfl (by kernel_rfl) (fun _ _ _ h => h) (q_sap rfl rfl hs546) ?_
        refine zab 10 rfl rfl rfl (by kernel_rfl) (fun _ _ _ h => h) (q_asg rfl) ?_
        refine zay (by kernel_rfl) ?_
        refine za1 ?_
        refine c_ret ?_
        have e0_ := Option.some.inj h; clear h
        subst e0_
        exact x_r1 () Tryz.results86 (zaf rfl) rfl (fun w h => za7 [] (by decide) rfl w h)
      · skip
        refine a_two 2 8 rfl rfl rfl rfl (by kernel_rfl) rfl rfl (za9 0 Z Tryz.func86 N86 rfl rfl rfl (fun w P1 hF hB hS hT => ih (w64 (a0.tdiv 10)) hB hF _ hx126)) (fun s w h => za8 [] (by decide) w h rfl) (ev_q rfl (q_bstr Tryz.underlying22 Tryz.underlying5 Tryz.underlying9 rfl (fun w h => h.zan (i := 0) rfl) (Nat.succ_pos _))) (fun s w h => za8 [] (by decide) w h rfl) (fun _ => ?_) (fun _ => ?_)
        · skip
          refine a_one 8 rfl rfl (by kernel_rfl) rfl (ev_q rfl (q_bstr Tryz.underlying22 Tryz.underlying5 Tryz.underlying9 rfl (fun w h => h.zan (i := 0) rfl) (Nat.succ_pos _))) (fun s w h => za8 [] (by decide) w h rfl) (fun _ => ?_)
          refine zab 9 rfl rfl rfl (by kernel_rfl) (fun _ _ _ h => h) (q_sap rfl rfl hs546) ?_
          refine zab 10 rfl rfl rfl (by kernel_rfl) (fun _ _ _ h => h) (q_asg rfl) ?_
          refine zay (by kernel_rfl) ?_
          refine za1 ?_
          refine c_ret ?_
          have e0_ := Option.some.inj h; clear h
          subst e0_
          exact x_r1 () Tryz.results86 (zaf rfl) rfl (fun w h => za7 [] (by decide) rfl w h)
        · skip
          refine a_one 2 rfl rfl (by kernel_rfl) rfl (za9 0 Z Tryz.func86 N86 rfl rfl rfl (fun w P1 hF hB hS hT => ih (w64 (a0.tdiv 10)) hB hF _ hx126)) (fun s w h => za8 [] (by decide) w h rfl) (fun _ => ?_)
          refine zab 9 rfl rfl rfl (by kernel_rfl) (fun _ _ _ h => h) (q_sap rfl rfl hs546) ?_
          refine zab 10 rfl rfl rfl (by kernel_rfl) (fun _ _ _ h => h) (q_asg rfl) ?_
          refine zay (by kernel_rfl) ?_
          refine za1 ?_
          refine c_ret ?_
          have e0_ := Option.some.inj h; clear h
          subst e0_
          exact x_r1 () Tryz.results86 (zaf rfl) rfl (fun w h => za7 [] (by decide) rfl w h)

/-! ### loop.example/g01098/spec.reList: function 98 -/
def spec_reList.l0 (k : Nat) : (List Int) → ByteArray → Int → Option ByteArray
  | [], s1, i2 => some s1
  | y3 :: ys4, s1, i2 => (if 0 < i2 then ((sap s1 (⟨#[44]⟩ : ByteArray)).bind fun s26 => some s26) else (some s1)).bind fun s18 => (spec_l1Num.f k y3).bind fun s28 => (sap s18 s28).bind fun s30 => spec_reList.l0 k ys4 s30 (i2 + 1)
def spec_reList.f (k : Nat) (l0 : List Int) : Option ByteArray := (spec_reList.l0 k l0 (⟨#[]⟩ : ByteArray) 0).bind fun s1 => if s1 = (⟨#[]⟩ : ByteArray) then (some (⟨#[45]⟩ : ByteArray)) else (some s1)
set_option maxHeartbeats 600000 in
set_option maxRecDepth 100000 in
theorem spec_reList.calls (k : Nat) {w0 ws : World} {P0 : Nat → Prop} (A0 : Option Addr) (c0 : Nat) (n0 : Nat) (l0 : List Int) (Z : Below w0.heap.size w0 ws) (hF : Fr w0 ws P0 [] ws) (R0 : Stable ws P0 (fun w => Kd.C (Kd.int .i64) w A0 n0 l0)) (hc0 : n0 ≤ c0) (r_1 : ByteArray) (h : spec_reList.f k l0 = some r_1) :
    Calls Tryz.prog 98 #[.slice A0 n0 c0] ws (Post1 w0 ws P0 (fun (_ : Unit) => .string r_1) (fun (_ : Unit) => [])) := by
  unfold spec_reList.f at h
  obtain rfl := (R0 ws (KeptB.refl _ _)).1
  refine enter Tryz.func98 rfl Tryz.ntmps98 rfl hF ?_
  refine c_seq ?_
  refine za0 ?_
  refine o_q rfl rfl (q_asg rfl) ?_
  refine o_end ?_
  refine za1 ?_
  refine c_seq ?_
  refine za0 ?_
  refine o_q rfl rfl (q_asg rfl) ?_
  refine o_end ?_
  refine za1 ?_
  refine c_seq ?_
  refine c_seq ?_
  refine za0 ?_
  refine o_q rfl rfl (za2 rfl) ?_
  refine o_q rfl rfl (q_len Tryz.underlying25 rfl) ?_
  refine o_q rfl rfl (za2 rfl) ?_
  refine o_end ?_
  refine za1 ?_
  refine zal ?_
  refine za6 h (fun o10 hl9 hR8 => ?_) rfl
  clear h
  refine c_fact (p := l0.length ≤ 9223372036854775807) (fun w h => (R0.now Z h).2.1) (fun hm7 => ?_)
  refine zb1 (σ := (List Int) × ByteArray × Int) (fun k5 ((ys4, s1, i2) : (List Int) × ByteArray × Int) => Rg l0 i2 ys4 ∧ ys4.length = k5 ∧ spec_reList.l0 k ys4 s1 i2 = some o10) [3, 4, 5, 8, 9, 10, 11, 12, 13, 14, 15, 16, 17, 18, 19, 20, 21] (fun ((ys4, s1, i2) : (List Int) × ByteArray × Int) => [(3, .string s1), (8, .int .i64 i2)]) (fun ((ys4, s1, i2) : (List Int) × ByteArray × Int) => []) l0.length (l0, (⟨#[]⟩ : ByteArray), 0) ⟨Rg.start _, rfl, hl9⟩ ⟨rfl, rfl, trivial⟩ (fun w h => h) ?_
  refine fun k5 => cur3 (listC (fun s1 i2 U11 hJ_ => ?_) (fun y3 ys4 s1 i2 U11 hJ_ => ?_))
  · skip
    clear hl9
    have hr6 := hJ_.1; have hk12 := hJ_.2.1; have h := hJ_.2.2; clear hJ_
    replace h : spec_reList.l0 k [] s1 i2 = some o10 := h
    rw [spec_reList.l0] at h
    refine c_seq ?_
    refine za0 ?_
    refine o_q rfl rfl (q_lss rfl rfl) ?_
    refine o_end ?_
    refine za1 ?_
    refine c_seq ?_
    refine c_false (congrArg Value.bool hr6.ge) ?_
    refine c_exit ?_
    refine zaa ?_
    refine zaa ?_
    have e_ := Option.some.inj h; replace h := hR8; rw [← e_] at h; clear e_
    refine x_hit ?_
    refine za1 ?_
    refine c_seq ?_
    refine c_seq ?_
    refine za0 ?_
    refine o_q rfl rfl (za2 rfl) ?_
    refine o_q rfl rfl (q_seql rfl rfl) ?_
    refine o_end ?_
    refine za1 ?_
    refine zaq _ rfl (fun hb13 => ?_) (fun hb13 => ?_)
    · skip
      replace h := br_t hb13 h
      refine c_seq ?_
      refine za0 ?_
      refine o_q rfl rfl (q_asg rfl) ?_
      refine o_end ?_
      refine za1 ?_
      refine c_ret ?_
      refine za5 ?_
      have e0_ := Option.some.inj h; clear h
      subst e0_
      exact x_r1 () Tryz.results98 (zaf rfl) rfl (fun w h => za7 [] (by decide) rfl w h)
    · skip
      replace h := br_f hb13 h
      refine zak ?_
      refine za1 ?_
      refine c_seq ?_
      refine za0 ?_
      refine o_q rfl rfl (za2 rfl) ?_
      refine o_q rfl rfl (q_asg rfl) ?_
      refine o_end ?_
      refine za1 ?_
      refine c_ret ?_
      have e0_ := Option.some.inj h; clear h
      subst e0_
      exact x_r1 () Tryz.results98 (zaf rfl) rfl (fun w h => za7 [] (by decide) rfl w h)
  · skip
    clear hl9
    have hr6 := hJ_.1; have hk12 := hJ_.2.1; have h := hJ_.2.2; clear hJ_
    replace h : spec_reList.l0 k (y3 :: ys4) s1 i2 = some o10 := h
    rw [spec_reList.l0] at h
    refine c_seq ?_
    refine za0 ?_
    refine o_q rfl rfl (q_lss rfl rfl) ?_
    refine o_end ?_
    refine za1 ?_
    refine c_seq ?_
    refine c_true (congrArg Value.bool hr6.lt) ?_
    refine zak ?_
    refine za1 ?_
    refine c_seq ?_
    refine zal ?_
    refine c_seq ?_
    refine za0 ?_
    refine o_q rfl rfl (za2 rfl) ?_
    refine zb2 (p := Sh A0 l0.length l0.length) (fun w h => f_sh (dk := (Kd.int .i64)) h (fun w h => R0.now Z h)) (fun hq14 => ?_)
    refine o_q rfl rfl (q_ix Tryz.underlying25 Z3 rfl rfl hq14 hr6.get) ?_
    refine o_q rfl rfl (q_lde (off := 0) Y3 rfl rfl (fun w h => R0.now Z h) hr6.get (fun _ _ h => h) rfl) ?_
    refine o_q rfl rfl (q_asg rfl) ?_
    refine o_q rfl rfl (q_asg rfl) ?_
    refine o_end ?_
    refine za1 ?_
    refine za6 h (fun o19 hl20 hR21 => ?_) rfl
    clear h
    refine c_cutJ (σ := ByteArray) (fun s18 => some s18 = some o19) [3, 13, 14, 15, 16] (fun s18 => [(3, .string s18)]) (fun s18 => []) ?_ ?_
    · skip
      have h := hl20; clear hl20
      clear hR21
      refine c_seq ?_
      refine za0 ?_
      refine o_q rfl rfl (za2 rfl) ?_
      refine o_q rfl rfl (q_gtr rfl rfl) ?_
      refine o_end ?_
      refine za1 ?_
      refine zaq _ rfl (fun hb24 => ?_) (fun hb24 => ?_)
      · skip
        replace h := br_t hb24 h
        refine za0 ?_
        refine o_q rfl rfl (za2 rfl) ?_
        refine za6 h (fun s26 hs25 h => ?_) rfl
        refine o_q rfl rfl (q_sap rfl rfl hs25) ?_
        refine o_q rfl rfl (q_asg rfl) ?_
        refine o_end ?_
        refine zat s26 h ⟨rfl, trivial⟩ (fun w h => za7 [] (by decide) rfl w h) ?_
        repeat (first | exact zac _ _ | refine zai rfl ?_ | refine zad rfl ?_ | refine zaj rfl ?_)
      · skip
        replace h := br_f hb24 h
        refine zak ?_
        refine zat s1 h ⟨rfl, trivial⟩ (fun w h => za7 [] (by decide) rfl w h) ?_
        repeat (first | exact zac _ _ | refine zai rfl ?_ | refine zad rfl ?_ | refine zaj rfl ?_)
    · skip
      refine (fun s18 => fun U22 hJ23 => ?_)
      have e_ := Option.some.inj hJ23; have h := hR21; rw [← e_] at h; clear e_ hJ23 hR21 hl20
      refine za0 ?_
      refine o_q rfl rfl (za2 rfl) ?_
      refine o_q rfl rfl (za2 rfl) ?_
      refine za6 h (fun s28 hx27 h => ?_) rfl
      refine o_e rfl (za9 0 Z Tryz.func86 N86 rfl rfl rfl (fun w P1 hF hB hS hT => spec_l1Num.calls k y3 hB hF _ hx27)) (fun _ => ?_)
      refine za6 h (fun s30 hs29 h => ?_) rfl
      refine o_q rfl rfl (q_sap rfl rfl hs29) ?_
      refine o_q rfl rfl (q_asg rfl) ?_
      refine o_end ?_
      refine zaw ?_
      refine za1 ?_
      refine za0 ?_
      refine o_q rfl rfl (q_up rfl rfl (hr6.up hm7)) ?_
      refine o_q rfl rfl (za2 rfl) ?_
      refine o_end ?_
      refine zao ys4.length (ys4, s30, i2 + 1) (by rw [← hk12]; exact Nat.lt_succ_self _) ⟨hr6.step, rfl, h⟩ ⟨rfl, rfl, trivial⟩ (fun w h => za7 [] (by decide) rfl w h) ?_
      repeat (first | exact zac _ _ | refine zai rfl ?_ | refine zad rfl ?_ | refine zaj rfl ?_)

/-! ### loop.example/g01098/spec.reText: function 57 -/
def spec_reText.l0 (k : Nat) : (List SRegOp) → ByteArray → Int → Option ByteArray
  | [], s3, i4 => some s3
  | y5 :: ys6, s3, i4 => (if 0 < i4 then ((sap s3 (⟨#[44]⟩ : ByteArray)).bind fun s55 => some s55) else (some s3)).bind fun s47 => (spec_l1Num.f k y5.f0).bind fun s57 => (sap s57 (⟨#[61]⟩ : ByteArray)).bind fun s59 => (spec_l1Num.f k y5.f1).bind fun s61 => (sap s59 s61).bind fun s63 => (sap s63 (⟨#[42]⟩ : ByteArray)).bind fun s65 => (spec_l1Num.f k y5.f2).bind fun s67 => (sap s65 s67).bind fun s69 => (sap s47 s69).bind fun s71 => spec_reText.l0 k ys6 s71 (i4 + 1)
def spec_reText.f (k : Nat) (a0_0 : Int) (l0_1 : List Int) (l0_2 : List SRegOp) (l0_3 : List Int) : Option ByteArray := (spec_reText.l0 k l0_2 (⟨#[]⟩ : ByteArray) 0).bind fun s3 => (if s3 = (⟨#[]⟩ : ByteArray) then (some (⟨#[45]⟩ : ByteArray)) else (some s3)).bind fun s16 => (spec_l1Num.f k a0_0).bind fun s24 => (sap s24 (⟨#[58]⟩ : ByteArray)).bind fun s26 => (spec_reList.f k l0_1).bind fun s28 => (sap s26 s28).bind fun s30 => (sap s30 (⟨#[58]⟩ : ByteArray)).bind fun s32 => (sap s32 s16).bind fun s34 => (sap s34 (⟨#[58]⟩ : ByteArray)).bind fun s36 => (spec_reList.f k l0_3).bind fun s38 => (sap s36 s38).bind fun s40 => some s40
set_option maxHeartbeats 600000 in
set_option maxRecDepth 100000 in
theorem spec_reText.calls (k : Nat) {w0 ws : World} {P0 : Nat → Prop} (a0_0 : Int) (A0_1 : Option Addr) (c0_1 : Nat) (n0_1 : Nat) (l0_1 : List Int) (A0_2 : Option Addr) (c0_2 : Nat) (n0_2 : Nat) (l0_2 : List SRegOp) (A0_3 : Option Addr) (c0_3 : Nat) (n0_3 : Nat) (l0_3 : List Int) (Z : Below w0.heap.size w0 ws) (hF : Fr w0 ws P0 [] ws) (R0_1 : Stable ws P0 (fun w => Kd.C (Kd.int .i64) w A0_1 n0_1 l0_1)) (hc0_1 : n0_1 ≤ c0_1) (R0_2 : Stable ws P0 (fun w => Kd.C zax w A0_2 n0_2 l0_2)) (hc0_2 : n0_2 ≤ c0_2) (R0_3 : Stable ws P0 (fun w => Kd.C (Kd.int .i64) w A0_3 n0_3 l0_3)) (hc0_3 : n0_3 ≤ c0_3) (r_1 : ByteArray) (h : spec_reText.f k a0_0 l0_1 l0_2 l0_3 = some r_1) :
    Calls Tryz.prog 57 #[.agg #[.int .i64 a0_0, .slice A0_1 n0_1 c0_1, .slice A0_2 n0_2 c0_2, .slice A0_3 n0_3 c0_3]] ws (Post1 w0 ws P0 (fun (_ : Unit) => .string r_1) (fun (_ : Unit) => [])) := by
  unfold spec_reText.f at h
  obtain rfl := (R0_1 ws (KeptB.refl _ _)).1
  obtain rfl := (R0_2 ws (KeptB.refl _ _)).1
  obtain rfl := (R0_3 ws (KeptB.refl _ _)).1
  refine enter Tryz.func57 rfl Tryz.ntmps57 rfl hF ?_
  refine c_seq ?_
  refine za0 ?_
  refine o_e rfl (e_box rfl) (fun g1 => ?_)
  refine o_q rfl rfl (q_asg rfl) ?_
  refine o_end ?_
  refine za1 ?_
  refine c_seq ?_
  refine za0 ?_
  refine o_q rfl rfl (q_asg rfl) ?_
  refine o_end ?_
  refine za1 ?_
  refine c_seq ?_
  refine c_seq ?_
  refine za0 ?_
  refine o_q rfl rfl (q_f F38_2 rfl) ?_
  refine o_q rfl rfl (q_ldb Y36 rfl (fun w h => h.zae (i := 0) rfl) rfl) ?_
  refine o_q rfl rfl (q_len Tryz.underlying36 rfl) ?_
  refine o_q rfl rfl (za2 rfl) ?_
  refine o_end ?_
  refine za1 ?_
  refine zal ?_
  refine za6 h (fun o12 hl11 hR10 => ?_) rfl
  clear h
  refine c_fact (p := l0_2.length ≤ 9223372036854775807) (fun w h => (R0_2.now Z h).2.1) (fun hm9 => ?_)
  refine zb1 (σ := (List SRegOp) × ByteArray × Int) (fun k7 ((ys6, s3, i4) : (List SRegOp) × ByteArray × Int) => Rg l0_2 i4 ys6 ∧ ys6.length = k7 ∧ spec_reText.l0 k ys6 s3 i4 = some o12) [3, 4, 5, 9, 10, 11, 12, 13, 14, 15, 16, 17, 18, 19, 20, 21, 22, 23, 24, 25, 26, 27, 28, 29, 30, 31, 32, 33] (fun ((ys6, s3, i4) : (List SRegOp) × ByteArray × Int) => [(3, .string s3), (9, .int .i64 i4)]) (fun ((ys6, s3, i4) : (List SRegOp) × ByteArray × Int) => [box g1 38 #[.int .i64 a0_0, .slice A0_1 l0_1.length c0_1, .slice A0_2 l0_2.length c0_2, .slice A0_3 l0_3.length c0_3]]) l0_2.length (l0_2, (⟨#[]⟩ : ByteArray), 0) ⟨Rg.start _, rfl, hl11⟩ ⟨rfl, rfl, trivial⟩ (fun w h => h) ?_
  refine fun k7 => cur3 (listC (fun s3 i4 U13 hJ_ => ?_) (fun y5 ys6 s3 i4 U13 hJ_ => ?_))
  · skip
    clear hl11
    have hr8 := hJ_.1; have hk14 := hJ_.2.1; have h := hJ_.2.2; clear hJ_
    replace h : spec_reText.l0 k [] s3 i4 = some o12 := h
    rw [spec_reText.l0] at h
    refine c_seq ?_
    refine za0 ?_
    refine o_q rfl rfl (q_lss rfl rfl) ?_
    refine o_end ?_
    refine za1 ?_
    refine c_seq ?_
    refine c_false (congrArg Value.bool hr8.ge) ?_
    refine c_exit ?_
    refine zaa ?_
    refine zaa ?_
    have e_ := Option.some.inj h; replace h := hR10; rw [← e_] at h; clear e_
    refine x_hit ?_
    refine za1 ?_
    refine za6 h (fun o17 hl18 hR19 => ?_) rfl
    clear h
    refine c_cutJ (σ := ByteArray) (fun s16 => some s16 = some o17) [3, 34, 35] (fun s16 => [(3, .string s16)]) (fun s16 => [box g1 38 #[.int .i64 a0_0, .slice A0_1 l0_1.length c0_1, .slice A0_2 l0_2.length c0_2, .slice A0_3 l0_3.length c0_3]]) ?_ ?_
    · skip
      have h := hl18; clear hl18
      clear hR19
      refine c_seq ?_
      refine za0 ?_
      refine o_q rfl rfl (za2 rfl) ?_
      refine o_q rfl rfl (q_seql rfl rfl) ?_
      refine o_end ?_
      refine za1 ?_
      refine zaq _ rfl (fun hb22 => ?_) (fun hb22 => ?_)
      · skip
        replace h := br_t hb22 h
        refine za0 ?_
        refine o_q rfl rfl (q_asg rfl) ?_
        refine o_end ?_
        refine zat (⟨#[45]⟩ : ByteArray) h ⟨rfl, trivial⟩ (fun w h => za7 [0] (by decide) rfl w h) ?_
        repeat (first | exact zac _ _ | refine zai rfl ?_ | refine zad rfl ?_ | refine zaj rfl ?_)
      · skip
        replace h := br_f hb22 h
        refine zak ?_
        refine zat s3 h ⟨rfl, trivial⟩ (fun w h => za7 [0] (by decide) rfl w h) ?_
        repeat (first | exact zac _ _ | refine zai rfl ?_ | refine zad rfl ?_ | refine zaj rfl ?_)
    · skip
      refine (fun s16 => fun U20 hJ21 => ?_)
      have e_ := Option.some.inj hJ21; have h := hR19; rw [← e_] at h; clear e_ hJ21 hR19 hl18
      refine c_seq ?_
      refine a_start (ds := []) MO rfl ?_
      refine zab 0 rfl rfl rfl (by kernel_rfl) (fun _ _ _ h => h) (q_f F38_0 rfl) ?_
      refine zaz 1 rfl rfl rfl (by kernel_rfl) (fun _ _ _ h => h) (fun w h => h) (q_ldb Y3 rfl (fun w h => h.zae (i := 0) rfl) rfl) ?_
      refine zab 4 rfl rfl rfl (by kernel_rfl) (fun _ _ _ h => h) (q_f F38_1 rfl) ?_
      refine zaz 5 rfl rfl rfl (by kernel_rfl) (fun _ _ _ h => h) (fun w h => h) (q_ldb Y25 rfl (fun w h => h.zae (i := 0) rfl) rfl) ?_
      refine zab 9 rfl rfl rfl (by kernel_rfl) (fun _ _ _ h => h) (za2 rfl) ?_
      refine zab 12 rfl rfl rfl (by kernel_rfl) (fun _ _ _ h => h) (q_f F38_3 rfl) ?_
      refine zaz 13 rfl rfl rfl (by kernel_rfl) (fun _ _ _ h => h) (fun w h => h) (q_ldb Y25 rfl (fun w h => h.zae (i := 0) rfl) rfl) ?_
      refine za6 h (fun s24 hx23 h => ?_) rfl
      refine a_one 2 rfl rfl (by kernel_rfl) rfl (za9 0 Z Tryz.func86 N86 rfl rfl rfl (fun w P1 hF hB hS hT => spec_l1Num.calls k a0_0 hB hF _ hx23)) (fun s w h => h) (fun _ => ?_)
      refine za6 h (fun s26 hs25 h => ?_) rfl
      refine zab 3 rfl rfl rfl (by kernel_rfl) (fun _ _ _ h => h) (q_sap rfl rfl hs25) ?_
      refine za6 h (fun s28 hx27 h => ?_) rfl
      refine a_one 6 rfl rfl (by kernel_rfl) rfl (za9 0 Z Tryz.func98 N98 rfl rfl rfl (fun w P1 hF hB hS hT => spec_reList.calls k A0_1 c0_1 l0_1.length l0_1 hB hF (hS _ R0_1) hc0_1 _ hx27)) (fun s w h => h) (fun _ => ?_)
      refine za6 h (fun s30 hs29 h => ?_) rfl
      refine zab 7 rfl rfl rfl (by kernel_rfl) (fun _ _ _ h => h) (q_sap rfl rfl hs29) ?_
      refine za6 h (fun s32 hs31 h => ?_) rfl
      refine zab 8 rfl rfl rfl (by kernel_rfl) (fun _ _ _ h => h) (q_sap rfl rfl hs31) ?_
      refine za6 h (fun s34 hs33 h => ?_) rfl
      refine zab 10 rfl rfl rfl (by kernel_rfl) (fun _ _ _ h => h) (q_sap rfl rfl hs33) ?_
      refine za6 h (fun s36 hs35 h => ?_) rfl
      refine zab 11 rfl rfl rfl (by kernel_rfl) (fun _ _ _ h => h) (q_sap rfl rfl hs35) ?_
      refine za6 h (fun s38 hx37 h => ?_) rfl
      refine a_one 14 rfl rfl (by kernel_rfl) rfl (za9 0 Z Tryz.func98 N98 rfl rfl rfl (fun w P1 hF hB hS hT => spec_reList.calls k A0_3 c0_3 l0_3.length l0_3 hB hF (hS _ R0_3) hc0_3 _ hx37)) (fun s w h => h) (fun _ => ?_)
      refine za6 h (fun s40 hs39 h => ?_) rfl
      refine zab 15 rfl rfl rfl (by kernel_rfl) (fun _ _ _ h => h) (q_sap rfl rfl hs39) ?_
      refine zab 16 rfl rfl rfl (by kernel_rfl) (fun _ _ _ h => h) (q_asg rfl) ?_
      refine zay (by kernel_rfl) ?_
      refine za1 ?_
      refine c_ret ?_
      have e0_ := Option.some.inj h; clear h
      subst e0_
      exact x_r1 () Tryz.results57 (zaf rfl) rfl (fun w h => za7 [] (by decide) rfl w h)
  · skip
    clear hl11
    have hr8 := hJ_.1; have hk14 := hJ_.2.1; have h := hJ_.2.2; clear hJ_
    replace h : spec_reText.l0 k (y5 :: ys6) s3 i4 = some o12 := h
    rw [spec_reText.l0] at h
    refine c_seq ?_
    refine za0 ?_
    refine o_q rfl rfl (q_lss rfl rfl) ?_
    refine o_end ?_
    refine za1 ?_
    refine c_seq ?_
    refine c_true (congrArg Value.bool hr8.lt) ?_
    refine zak ?_
    refine za1 ?_
    refine c_seq ?_
    refine zal ?_
    refine c_seq ?_
    refine za0 ?_
    refine o_q rfl rfl (za2 rfl) ?_
    refine zb2 (p := Sh A0_2 l0_2.length l0_2.length) (fun w h => f_sh (dk := zax) h (fun w h => R0_2.now Z h)) (fun hq41 => ?_)
    refine o_q rfl rfl (q_ix Tryz.underlying36 Z84 rfl rfl hq41 hr8.get) ?_
    refine o_q rfl rfl (q_ldE G84 Z84 rfl rfl (fun w h => R0_2.now Z h) hr8.get (fun _ _ h => h) rfl) ?_
    refine o_e rfl (zau V84 rfl) (fun g42 => ?_)
    refine o_q rfl rfl (q_asg rfl) ?_
    refine o_e rfl (zam (i := 0) rfl rfl rfl Z84 rfl rfl) (fun _ => ?_)
    refine o_end ?_
    refine za1 ?_
    refine za6 h (fun o48 hl49 hR50 => ?_) rfl
    clear h
    refine c_cutJ (σ := ByteArray) (fun s47 => some s47 = some o48) [3, 14, 15, 16, 17] (fun s47 => [(3, .string s47)]) (fun s47 => [box g1 38 #[.int .i64 a0_0, .slice A0_1 l0_1.length c0_1, .slice A0_2 l0_2.length c0_2, .slice A0_3 l0_3.length c0_3], box g42 84 #[.int .i64 y5.f0, .int .i64 y5.f1, .int .i64 y5.f2]]) ?_ ?_
    · skip
      have h := hl49; clear hl49
      clear hR50
      refine c_seq ?_
      refine za0 ?_
      refine o_q rfl rfl (za2 rfl) ?_
      refine o_q rfl rfl (q_gtr rfl rfl) ?_
      refine o_end ?_
      refine za1 ?_
      refine zaq _ rfl (fun hb53 => ?_) (fun hb53 => ?_)
      · skip
        replace h := br_t hb53 h
        refine za0 ?_
        refine o_q rfl rfl (za2 rfl) ?_
        refine za6 h (fun s55 hs54 h => ?_) rfl
        refine o_q rfl rfl (q_sap rfl rfl hs54) ?_
        refine o_q rfl rfl (q_asg rfl) ?_
        refine o_end ?_
        refine zat s55 h ⟨rfl, trivial⟩ (fun w h => za7 [1, 0] (by decide) rfl w h) ?_
        repeat (first | exact zac _ _ | refine zai rfl ?_ | refine zad rfl ?_ | refine zaj rfl ?_)
      · skip
        replace h := br_f hb53 h
        refine zak ?_
        refine zat s3 h ⟨rfl, trivial⟩ (fun w h => za7 [1, 0] (by decide) rfl w h) ?_
        repeat (first | exact zac _ _ | refine zai rfl ?_ | refine zad rfl ?_ | refine zaj rfl ?_)
    · skip
      refine (fun s47 => fun U51 hJ52 => ?_)
      have e_ := Option.some.inj hJ52; have h := hR50; rw [← e_] at h; clear e_ hJ52 hR50 hl49
      refine a_start (ds := []) MO rfl ?_
      refine zab 0 rfl rfl rfl (by kernel_rfl) (fun _ _ _ h => h) (za2 rfl) ?_
      refine zab 1 rfl rfl rfl (by kernel_rfl) (fun _ _ _ h => h) (q_f F84_0 rfl) ?_
      refine zaz 2 rfl rfl rfl (by kernel_rfl) (fun _ _ _ h => h) (fun w h => h) (q_ldb Y3 rfl (fun w h => h.zae (i := 1) rfl) rfl) ?_
      refine zab 5 rfl rfl rfl (by kernel_rfl) (fun _ _ _ h => h) (q_f F84_1 rfl) ?_
      refine zaz 6 rfl rfl rfl (by kernel_rfl) (fun _ _ _ h => h) (fun w h => h) (q_ldb Y3 rfl (fun w h => h.zae (i := 1) rfl) rfl) ?_
      refine zab 10 rfl rfl rfl (by kernel_rfl) (fun _ _ _ h => h) (q_f F84_2 rfl) ?_
      refine zaz 11 rfl rfl rfl (by kernel_rfl) (fun _ _ _ h => h) (fun w h => h) (q_ldb Y3 rfl (fun w h => h.zae (i := 1) rfl) rfl) ?_
      refine za6 h (fun s57 hx56 h => ?_) rfl
      refine a_one 3 rfl rfl (by kernel_rfl) rfl (za9 0 Z Tryz.func86 N86 rfl rfl rfl (fun w P1 hF hB hS hT => spec_l1Num.calls k y5.f0 hB hF _ hx56)) (fun s w h => h) (fun _ => ?_)
      refine za6 h (fun s59 hs58 h => ?_) rfl
      refine zab 4 rfl rfl rfl (by kernel_rfl) (fun _ _ _ h => h) (q_sap rfl rfl hs58) ?_
      refine za6 h (fun s61 hx60 h => ?_) rfl
      refine a_one 7 rfl rfl (by kernel_rfl) rfl (za9 0 Z Tryz.func86 N86 rfl rfl rfl (fun w P1 hF hB hS hT => spec_l1Num.calls k y5.f1 hB hF _ hx60)) (fun s w h => h) (fun _ => ?_)
      refine za6 h (fun s63 hs62 h => ?_) rfl
      refine zab 8 rfl rfl rfl (by kernel_rfl) (fun _ _ _ h => h) (q_sap rfl rfl hs62) ?_
      refine za6 h (fun s65 hs64 h => ?_) rfl
      refine zab 9 rfl rfl rfl (by kernel_rfl) (fun _ _ _ h => h) (q_sap rfl rfl hs64) ?_
      refine za6 h (fun s67 hx66 h => ?_) rfl
      refine a_one 12 rfl rfl (by kernel_rfl) rfl (za9 0 Z Tryz.func86 N86 rfl rfl rfl (fun w P1 hF hB hS hT => spec_l1Num.calls k y5.f2 hB hF _ hx66)) (fun s w h => h) (fun _ => ?_)
      refine za6 h (fun s69 hs68 h => ?_) rfl
      refine zab 13 rfl rfl rfl (by kernel_rfl) (fun _ _ _ h => h) (q_sap rfl rfl hs68) ?_
      refine za6 h (fun s71 hs70 h => ?_) rfl
      refine zab 14 rfl rfl rfl (by kernel_rfl) (fun _ _ _ h => h) (q_sap rfl rfl hs70) ?_
      refine zab 15 rfl rfl rfl (by kernel_rfl) (fun _ _ _ h => h) (q_asg rfl) ?_
      refine zay (by kernel_rfl) ?_
      refine zaw ?_
      refine za1 ?_
      refine za0 ?_
      refine o_q rfl rfl (q_up rfl rfl (hr8.up hm9)) ?_
      refine o_q rfl rfl (za2 rfl) ?_
      refine o_end ?_
      refine zao ys6.length (ys6, s71, i4 + 1) (by rw [← hk14]; exact Nat.lt_succ_self _) ⟨hr8.step, rfl, h⟩ ⟨rfl, rfl, trivial⟩ (fun w h => za7 [0] (by decide) rfl w h) ?_
      repeat (first | exact zac _ _ | refine zai rfl ?_ | refine zad rfl ?_ | refine zaj rfl ?_)

/-! ### loop.example/g01098/spec.ParseRegCode: function 15 -/
def spec_ParseRegCode.f (k : Nat) (a0 : ByteArray) : Option (Int × (List Int) × (List SRegOp) × (List Int) × Bool) := (spec_l1Split.f k a0 58).bind fun l4 => if (l4.length : Int) ≠ 4 then (some (0, ([] : List Int), ([] : List SRegOp), ([] : List Int), false)) else ((gt l4 2).bind fun y10 => (spec_reOps.f k y10).bind fun (l12, b13) => ((gt l4 0).bind fun y1112 => (spec_l1Read.f k y1112).bind fun i1232 => (gt l4 1).bind fun y1352 => (spec_reNumbers.f k y1352).bind fun l1472 => (gt l4 3).bind fun y1652 => (spec_reNumbers.f k y1652).bind fun l1772 => some (i1232, l1472, l1772)).bind fun (i1038, l1039, l1042) => (if b13 = true then ((spec_reCode.f k i1038 l1039 l12 l1042).bind fun b2085 => if b2085 = true then ((spec_reText.f k i1038 l1039 l12 l1042).bind fun s2088 => some (decide (s2088 ≠ a0))) else (some true)) else (some true)).bind fun b2077 => if b2077 = true then (some (0, ([] : List Int), ([] : List SRegOp), ([] : List Int), false)) else (some (i1038, l1039, l12, l1042, true)))
set_option maxHeartbeats 600000 in
set_option maxRecDepth 100000 in
theorem spec_ParseRegCode.calls (k : Nat) {w0 ws : World} {P0 : Nat → Prop} (a0 : ByteArray) (Z : Below w0.heap.size w0 ws) (hF : Fr w0 ws P0 [] ws)  (r_1 : Int) (r_2 : List Int) (r_5 : List SRegOp) (r_8 : List Int) (r_11 : Bool) (h : spec_ParseRegCode.f k a0 = some (r_1, r_2, r_5, r_8, r_11)) :
    Calls Tryz.prog 15 #[.string a0] ws (Post1 w0 ws P0 (fun ((q_3, q_4, q_6, q_7, q_9, q_10) : (Option Addr) × Nat × (Option Addr) × Nat × (Option Addr) × Nat) => .tuple #[.agg #[.int .i64 r_1, .slice q_3 r_2.length q_4, .slice q_6 r_5.length q_7, .slice q_9 r_8.length q_10], .bool r_11]) (fun ((q_3, q_4, q_6, q_7, q_9, q_10) : (Option Addr) × Nat × (Option Addr) × Nat × (Option Addr) × Nat) => [row (Kd.int .i64) 3 (.slice q_3 r_2.length q_4) r_2, row zax 84 (.slice q_6 r_5.length q_7) r_5, row (Kd.int .i64) 3 (.slice q_9 r_8.length q_10) r_8])) := by
  unfold spec_ParseRegCode.f at h
  refine enter Tryz.func15 rfl Tryz.ntmps15 rfl hF ?_
  refine c_seq ?_
  refine za0 ?_
  refine o_e rfl (zau V38 rfl) (fun g1 => ?_)
  refine o_q rfl rfl (q_asg rfl) ?_
  refine o_end ?_
  refine za1 ?_
  refine c_seq ?_
  refine za0 ?_
  refine o_q rfl rfl (za2 rfl) ?_
  refine za6 h (fun l4 hx3 h => ?_) rfl
  refine o_e rfl (za9 0 Z Tryz.func50 N50 rfl rfl rfl (fun w P1 hF hB hS hT => spec_l1Split.calls k a0 58 hB hF _ hx3)) (cur2 (fun A5 c6 => ?_))
  refine o_q rfl rfl (q_asg rfl) ?_
  refine o_end ?_
  refine za1 ?_
  refine c_seq ?_
  refine c_seq ?_
  refine za0 ?_
  refine o_q rfl rfl (za2 rfl) ?_
  refine o_q rfl rfl (q_len Tryz.underlying64 rfl) ?_
  refine o_q rfl rfl (q_neq rfl rfl) ?_
  refine o_end ?_
  refine za1 ?_
  refine zaq _ rfl (fun hb7 => ?_) (fun hb7 => ?_)
  · skip
    replace h := br_t hb7 h
    refine c_seq ?_
    refine za0 ?_
    refine o_q rfl rfl (q_build (vs := []) (cs := [.int .i64 0, .slice none 0 0, .slice none 0 0, .slice none 0 0]) rfl rfl) ?_
    refine o_e rfl (zam (i := 1) rfl rfl rfl Z38 rfl rfl) (fun _ => ?_)
    refine o_q rfl rfl (q_asg rfl) ?_
    refine o_end ?_
    refine za1 ?_
    refine c_ret ?_
    refine za5 ?_
    refine x_nil (Kd.int .i64) 3 ?_
    refine x_nil zax 84 ?_
    refine x_nil (Kd.int .i64) 3 ?_
    have e0_ := Option.some.inj h; clear h
    have d0_ := (Prod.mk.inj e0_).1; have e1_ := (Prod.mk.inj e0_).2; clear e0_; subst d0_
    have d1_ := (Prod.mk.inj e1_).1; have e2_ := (Prod.mk.inj e1_).2; clear e1_; subst d1_
    have d2_ := (Prod.mk.inj e2_).1; have e3_ := (Prod.mk.inj e2_).2; clear e2_; subst d2_
    have d3_ := (Prod.mk.inj e3_).1; have e4_ := (Prod.mk.inj e3_).2; clear e3_; subst d3_
    subst e4_
    exact x_r2 (none, 0, none, 0, none, 0) Tryz.results15 (rv_cell rfl G38 Z38 (fun w h => h.zae (i := 4) rfl) rfl) (zaf rfl) rfl (fun w h => za7 [2, 1, 0] (by decide) rfl w h)
  · skip
    replace h := br_f hb7 h
    refine zak ?_
    refine za1 ?_
    refine c_seq ?_
    refine za0 ?_
    refine o_q rfl rfl (za2 rfl) ?_
    refine zb2 (p := Sh A5 l4.length l4.length) (fun w h => f_sh (dk := Kd.string) h (fun w h => h.zan (i := 0) rfl)) (fun hq8 => ?_)
    refine za6 h (fun y10 hg9 h => ?_) rfl
    refine o_q rfl rfl (q_ix Tryz.underlying64 Z9 rfl rfl hq8 hg9) ?_
    refine o_q rfl rfl (q_lde (off := 0) Y9 rfl rfl (fun w h => h.zan (i := 0) rfl) hg9 (fun _ _ h => h) rfl) ?_
    refine bindE2 h (fun l12 b13 hx11 h => ?_) rfl
    refine o_e rfl (za9 0 Z Tryz.func54 N54 rfl rfl rfl (fun w P1 hF hB hS hT => spec_reOps.calls k y10 hB hF _ _ hx11)) (cur2 (fun A14 c15 => ?_))
    refine o_q rfl rfl (za2 rfl) ?_
    refine o_q rfl rfl (q_ext rfl rfl) ?_
    refine o_q rfl rfl (q_ext rfl rfl) ?_
    refine o_q rfl rfl (q_asg rfl) ?_
    refine o_q rfl rfl (q_asg rfl) ?_
    refine o_end ?_
    refine za1 ?_
    refine za6 h (fun o1045 hl1046 hR1047 => ?_) rfl
    clear h
    refine c_cutJ (σ := Int × (List Int) × (List Int) × Nat × (Option Addr) × Nat × (Option Addr) × Nat) (fun (i1038, l1039, l1042, g1037, A1040, c1041, A1043, c1044) => some (i1038, l1039, l1042) = some o1045) [7, 21, 22, 23, 24, 25, 26, 27, 28, 29, 30, 31, 32, 33, 34] (fun (i1038, l1039, l1042, g1037, A1040, c1041, A1043, c1044) => [(7, .pointer (some ⟨g1037, 0, none⟩))]) (fun (i1038, l1039, l1042, g1037, A1040, c1041, A1043, c1044) => [box g1 38 #[.int .i64 0, .slice none 0 0, .slice none 0 0, .slice none 0 0], box g1037 38 #[.int .i64 i1038, .slice A1040 l1039.length c1041, .slice A14 l12.length c15, .slice A1043 l1042.length c1044], row (Kd.int .i64) 3 (.slice A1040 l1039.length c1041) l1039, row zax 84 (.slice A14 l12.length c15) l12, row (Kd.int .i64) 3 (.slice A1043 l1042.length c1044) l1042, row Kd.string 9 (.slice A5 l4.length c6) l4]) ?_ ?_
    · skip
      have h := hl1046; clear hl1046
      clear hR1047
      refine za6 h (fun y1112 hg1111 h => ?_) rfl
      refine za6 h (fun i1232 hx1231 h => ?_) rfl
      refine za6 h (fun y1352 hg1351 h => ?_) rfl
      refine za6 h (fun l1472 hx1471 h => ?_) rfl
      refine za6 h (fun y1652 hg1651 h => ?_) rfl
      refine za6 h (fun l1772 hx1771 h => ?_) rfl
      refine a_start (ds := []) MO rfl ?_
      refine zab 0 rfl rfl rfl (by kernel_rfl) (fun _ _ _ h => h) (za2 rfl) ?_
      refine zab 1 rfl rfl rfl (by kernel_rfl) (fun _ _ _ h => h) (q_ix Tryz.underlying64 Z9 rfl rfl hq8 hg1111) ?_
      refine zaz 2 rfl rfl rfl (by kernel_rfl) (fun _ _ _ h => h) (fun w h => h) (q_lde (off := 0) Y9 rfl rfl (fun w h => h.zan (i := 1) rfl) hg1111 (fun _ _ h => h) rfl) ?_
      refine zab 4 rfl rfl rfl (by kernel_rfl) (fun _ _ _ h => h) (za2 rfl) ?_
      refine zab 5 rfl rfl rfl (by kernel_rfl) (fun _ _ _ h => h) (q_ix Tryz.underlying64 Z9 rfl rfl hq8 hg1351) ?_
      refine zaz 6 rfl rfl rfl (by kernel_rfl) (fun _ _ _ h => h) (fun w h => h) (q_lde (off := 0) Y9 rfl rfl (fun w h => h.zan (i := 1) rfl) hg1351 (fun _ _ h => h) rfl) ?_
      refine zab 8 rfl rfl rfl (by kernel_rfl) (fun _ _ _ h => h) (za2 rfl) ?_
      refine zab 9 rfl rfl rfl (by kernel_rfl) (fun _ _ _ h => h) (za2 rfl) ?_
      refine zab 10 rfl rfl rfl (by kernel_rfl) (fun _ _ _ h => h) (q_ix Tryz.underlying64 Z9 rfl rfl hq8 hg1651) ?_
      refine zaz 11 rfl rfl rfl (by kernel_rfl) (fun _ _ _ h => h) (fun w h => h) (q_lde (off := 0) Y9 rfl rfl (fun w h => h.zan (i := 1) rfl) hg1651 (fun _ _ h => h) rfl) ?_
      refine a_two 3 14 rfl rfl rfl rfl (by kernel_rfl) rfl rfl (za9 0 Z Tryz.func51 N51 rfl rfl rfl (fun w P1 hF hB hS hT => spec_l1Read.calls k y1112 hB hF _ hx1231)) (fun s w h => h) (zau V38 rfl) (fun s w h => za8 [some 1, some 2, some 3] (by decide) w h rfl) (fun _ => ?_) (fun g1891 => ?_)
      · skip
        refine a_two 7 14 rfl rfl rfl rfl (by kernel_rfl) rfl rfl (za9 0 Z Tryz.func55 N55 rfl rfl rfl (fun w P1 hF hB hS hT => spec_reNumbers.calls k y1352 hB hF _ hx1471)) (fun s w h => za8 [some 1, some 2, some 3] (by decide) w h rfl) (zau V38 rfl) (fun s w h => za8 [some 1, some 2, some 3] (by decide) w h rfl) (cur2 (fun A1473 c1474 => ?_)) (fun g1891 => ?_)
        · skip
          refine a_two 12 14 rfl rfl rfl rfl (by kernel_rfl) rfl rfl (za9 0 Z Tryz.func55 N55 rfl rfl rfl (fun w P1 hF hB hS hT => spec_reNumbers.calls k y1652 hB hF _ hx1771)) (fun s w h => za8 [some 2, some 3, some 4] (by decide) w h rfl) (zau V38 rfl) (fun s w h => za8 [some 2, some 3, some 4] (by decide) w h rfl) (cur2 (fun A1773 c1774 => ?_)) (fun g1891 => ?_)
          · skip
            refine zab 13 rfl rfl rfl (by kernel_rfl) (fun _ _ _ h => h) (q_build (vs := [(0, .int .i64 i1232), (1, .slice A1473 l1472.length c1474), (2, .slice A14 l12.length c15), (3, .slice A1773 l1772.length c1774)]) (cs := [.int .i64 i1232, .slice A1473 l1472.length c1474, .slice A14 l12.length c15, .slice A1773 l1772.length c1774]) rfl rfl) ?_
            refine a_one 14 rfl rfl (by kernel_rfl) rfl (zau V38 rfl) (fun s w h => za8 [some 3, some 4, some 5] (by decide) w h rfl) (fun g1891 => ?_)
            refine a_one 15 rfl rfl (by kernel_rfl) rfl (zam (i := 0) rfl rfl rfl Z38 rfl rfl) (fun s w h => za8 [some 3, some 4, some 5] (by decide) w h rfl) (fun _ => ?_)
            refine zay (by kernel_rfl) ?_
            refine zat (i1232, l1472, l1772, g1891, A1473, c1474, A1773, c1774) h ⟨rfl, trivial⟩ (fun w h => za7 [5, 0, 2, 3, 1, 4] (by decide) rfl w h) ?_
            repeat (first | exact zac _ _ | refine zai rfl ?_ | refine zad rfl ?_ | refine zaj rfl ?_)
          · skip
            refine a_one 12 rfl rfl (by kernel_rfl) rfl (za9 0 Z Tryz.func55 N55 rfl rfl rfl (fun w P1 hF hB hS hT => spec_reNumbers.calls k y1652 hB hF _ hx1771)) (fun s w h => za8 [some 3, some 4, some 5] (by decide) w h rfl) (cur2 (fun A1773 c1774 => ?_))
            refine zab 13 rfl rfl rfl (by kernel_rfl) (fun _ _ _ h => h) (q_build (vs := [(0, .int .i64 i1232), (1, .slice A1473 l1472.length c1474), (2, .slice A14 l12.length c15), (3, .slice A1773 l1772.length c1774)]) (cs := [.int .i64 i1232, .slice A1473 l1472.length c1474, .slice A14 l12.length c15, .slice A1773 l1772.length c1774]) rfl rfl) ?_
            refine a_one 15 rfl rfl (by kernel_rfl) rfl (zam (i := 1) rfl rfl rfl Z38 rfl rfl) (fun s w h => za8 [some 3, some 4, some 5] (by decide) w h rfl) (fun _ => ?_)
            refine zay (by kernel_rfl) ?_
            refine zat (i1232, l1472, l1772, g1891, A1473, c1474, A1773, c1774) h ⟨rfl, trivial⟩ (fun w h => za7 [5, 1, 2, 3, 0, 4] (by decide) rfl w h) ?_
            repeat (first | exact zac _ _ | refine zai rfl ?_ | refine zad rfl ?_ | refine zaj rfl ?_)
        · skip
          refine a_one 7 rfl rfl (by kernel_rfl) rfl (za9 0 Z Tryz.func55 N55 rfl rfl rfl (fun w P1 hF hB hS hT => spec_reNumbers.calls k y1352 hB hF _ hx1471)) (fun s w h => za8 [some 2, some 3, some 4] (by decide) w h rfl) (cur2 (fun A1473 c1474 => ?_))
          refine a_one 12 rfl rfl (by kernel_rfl) rfl (za9 0 Z Tryz.func55 N55 rfl rfl rfl (fun w P1 hF hB hS hT => spec_reNumbers.calls k y1652 hB hF _ hx1771)) (fun s w h => za8 [some 3, some 4, some 5] (by decide) w h rfl) (cur2 (fun A1773 c1774 => ?_))
          refine zab 13 rfl rfl rfl (by kernel_rfl) (fun _ _ _ h => h) (q_build (vs := [(0, .int .i64 i1232), (1, .slice A1473 l1472.length c1474), (2, .slice A14 l12.length c15), (3, .slice A1773 l1772.length c1774)]) (cs := [.int .i64 i1232, .slice A1473 l1472.length c1474, .slice A14 l12.length c15, .slice A1773 l1772.length c1774]) rfl rfl) ?_
          refine a_one 15 rfl rfl (by kernel_rfl) rfl (zam (i := 2) rfl rfl rfl Z38 rfl rfl) (fun s w h => za8 [some 3, some 4, some 5] (by decide) w h rfl) (fun _ => ?_)
          refine zay (by kernel_rfl) ?_
          refine zat (i1232, l1472, l1772, g1891, A1473, c1474, A1773, c1774) h ⟨rfl, trivial⟩ (fun w h => za7 [5, 2, 1, 3, 0, 4] (by decide) rfl w h) ?_
          repeat (first | exact zac _ _ | refine zai rfl ?_ | refine zad rfl ?_ | refine zaj rfl ?_)
      · skip
        refine a_one 3 rfl rfl (by kernel_rfl) rfl (za9 0 Z Tryz.func51 N51 rfl rfl rfl (fun w P1 hF hB hS hT => spec_l1Read.calls k y1112 hB hF _ hx1231)) (fun s w h => za8 [some 1, some 2, some 3] (by decide) w h rfl) (fun _ => ?_)
        refine a_one 7 rfl rfl (by kernel_rfl) rfl (za9 0 Z Tryz.func55 N55 rfl rfl rfl (fun w P1 hF hB hS hT => spec_reNumbers.calls k y1352 hB hF _ hx1471)) (fun s w h => za8 [some 2, some 3, some 4] (by decide) w h rfl) (cur2 (fun A1473 c1474 => ?_))
        refine a_one 12 rfl rfl (by kernel_rfl) rfl (za9 0 Z Tryz.func55 N55 rfl rfl rfl (fun w P1 hF hB hS hT => spec_reNumbers.calls k y1652 hB hF _ hx1771)) (fun s w h => za8 [some 3, some 4, some 5] (by decide) w h rfl) (cur2 (fun A1773 c1774 => ?_))
        refine zab 13 rfl rfl rfl (by kernel_rfl) (fun _ _ _ h => h) (q_build (vs := [(0, .int .i64 i1232), (1, .slice A1473 l1472.length c1474), (2, .slice A14 l12.length c15), (3, .slice A1773 l1772.length c1774)]) (cs := [.int .i64 i1232, .slice A1473 l1472.length c1474, .slice A14 l12.length c15, .slice A1773 l1772.length c1774]) rfl rfl) ?_
        refine a_one 15 rfl rfl (by kernel_rfl) rfl (zam (i := 2) rfl rfl rfl Z38 rfl rfl) (fun s w h => za8 [some 3, some 4, some 5] (by decide) w h rfl) (fun _ => ?_)
        refine zay (by kernel_rfl) ?_
        refine zat (i1232, l1472, l1772, g1891, A1473, c1474, A1773, c1774) h ⟨rfl, trivial⟩ (fun w h => za7 [5, 2, 1, 3, 0, 4] (by decide) rfl w h) ?_
        repeat (first | exact zac _ _ | refine zai rfl ?_ | refine zad rfl ?_ | refine zaj rfl ?_)
    · skip
      refine (cur8 (fun i1038 l1039 l1042 g1037 A1040 c1041 A1043 c1044 => fun U1048 hJ1049 => ?_))
      have e_ := Option.some.inj hJ1049; have h := hR1047; rw [← e_] at h; clear e_ hJ1049 hR1047 hl1046
      refine c_seq ?_
      refine za6 h (fun o2078 hl2079 hR2080 => ?_) rfl
      clear h
      refine c_cutJ (σ := Bool) (fun b2077 => some b2077 = some o2078) [35, 36, 37, 38, 39, 40, 41, 42, 43, 44, 45, 46, 47] (fun b2077 => [(47, .bool b2077)]) (fun b2077 => [box g1 38 #[.int .i64 0, .slice none 0 0, .slice none 0 0, .slice none 0 0], box g1037 38 #[.int .i64 i1038, .slice A1040 l1039.length c1041, .slice A14 l12.length c15, .slice A1043 l1042.length c1044], row (Kd.int .i64) 3 (.slice A1040 l1039.length c1041) l1039, row zax 84 (.slice A14 l12.length c15) l12, row (Kd.int .i64) 3 (.slice A1043 l1042.length c1044) l1042, row Kd.string 9 (.slice A5 l4.length c6) l4]) ?_ ?_
      · skip
        have h := hl2079; clear hl2079
        clear hR2080
        refine za0 ?_
        refine o_q rfl rfl (za2 rfl) ?_
        refine o_q rfl rfl (q_not rfl) ?_
        refine o_q rfl rfl (za2 rfl) ?_
        refine byB b13 (fun hb2083 => ?_) (fun hb2083 => ?_)
        · replace h := bb_t hb2083 h
          refine o_w (za4 rfl rfl rfl (congrArg (fun b => Value.bool (!(b))) hb2083)) rfl (q_ldB G38 Z38 rfl (fun w h => h.zae (i := 1) rfl) rfl) ?_
          refine za6 h (fun b2085 hx2084 h => ?_) rfl
          refine o_ew (za4 rfl rfl rfl (congrArg (fun b => Value.bool (!(b))) hb2083)) (za9 0 Z Tryz.func56 N56 rfl rfl rfl (fun w P1 hF hB hS hT => spec_reCode.calls k i1038 A1040 c1041 l1039.length l1039 A14 c15 l12.length l12 A1043 c1044 l1042.length l1042 hB hF (hT 2 _ rfl).row (hT 2 _ rfl).cap (hT 3 _ rfl).row (hT 3 _ rfl).cap (hT 4 _ rfl).row (hT 4 _ rfl).cap _ hx2084)) (fun _ => ?_)
          refine o_w (za4 rfl rfl rfl (congrArg (fun b => Value.bool (!(b))) hb2083)) rfl (q_not rfl) ?_
          refine o_q rfl rfl (zas false (congrArg (fun b => Value.bool (!(b))) hb2083) rfl) ?_
          refine o_q rfl rfl (za2 rfl) ?_
          refine byB b2085 (fun hb2086 => ?_) (fun hb2086 => ?_)
          · replace h := bb_t hb2086 h
            refine o_w (za4 rfl rfl rfl (congrArg (fun b => Value.bool (!(b))) hb2086)) rfl (q_ldB G38 Z38 rfl (fun w h => h.zae (i := 1) rfl) rfl) ?_
            refine za6 h (fun s2088 hx2087 h => ?_) rfl
            refine o_ew (za4 rfl rfl rfl (congrArg (fun b => Value.bool (!(b))) hb2086)) (za9 0 Z Tryz.func57 N57 rfl rfl rfl (fun w P1 hF hB hS hT => spec_reText.calls k i1038 A1040 c1041 l1039.length l1039 A14 c15 l12.length l12 A1043 c1044 l1042.length l1042 hB hF (hT 2 _ rfl).row (hT 2 _ rfl).cap (hT 3 _ rfl).row (hT 3 _ rfl).cap (hT 4 _ rfl).row (hT 4 _ rfl).cap _ hx2087)) (fun _ => ?_)
            refine o_w (za4 rfl rfl rfl (congrArg (fun b => Value.bool (!(b))) hb2086)) rfl (za2 rfl) ?_
            refine o_w (za4 rfl rfl rfl (congrArg (fun b => Value.bool (!(b))) hb2086)) rfl (q_sneq rfl rfl) ?_
            refine o_q rfl rfl (zas false (congrArg (fun b => Value.bool (!(b))) hb2086) rfl) ?_
            refine o_end ?_
            refine zat (decide (s2088 ≠ a0)) h ⟨rfl, trivial⟩ (fun w h => za7 [0, 1, 2, 3, 4, 5] (by decide) rfl w h) ?_
            repeat (first | exact zac _ _ | refine zai rfl ?_ | refine zad rfl ?_ | refine zaj rfl ?_)
          · replace h := bb_f hb2086 h
            refine @o_n _ _ _ _ _ _ _ _ _ _ _ 43 (za3 rfl rfl rfl (congrArg (fun b => Value.bool (!(b))) hb2086) rfl) (Eq.refl (some 43)) ?_
            refine @o_n _ _ _ _ _ _ _ _ _ _ _ 44 (za3 rfl rfl rfl (congrArg (fun b => Value.bool (!(b))) hb2086) rfl) (Eq.refl (some 44)) ?_
            refine @o_n _ _ _ _ _ _ _ _ _ _ _ 45 (za3 rfl rfl rfl (congrArg (fun b => Value.bool (!(b))) hb2086) rfl) (Eq.refl (some 45)) ?_
            refine @o_n _ _ _ _ _ _ _ _ _ _ _ 46 (za3 rfl rfl rfl (congrArg (fun b => Value.bool (!(b))) hb2086) rfl) (Eq.refl (some 46)) ?_
            refine o_q rfl rfl (zas true (congrArg (fun b => Value.bool (!(b))) hb2086) rfl) ?_
            refine o_end ?_
            refine zat true h ⟨rfl, trivial⟩ (fun w h => za7 [0, 1, 2, 3, 4, 5] (by decide) rfl w h) ?_
            repeat (first | exact zac _ _ | refine zai rfl ?_ | refine zad rfl ?_ | refine zaj rfl ?_)
        · replace h := bb_f hb2083 h
          refine @o_n _ _ _ _ _ _ _ _ _ _ _ 38 (za3 rfl rfl rfl (congrArg (fun b => Value.bool (!(b))) hb2083) rfl) (Eq.refl (some 38)) ?_
          refine @o_n _ _ _ _ _ _ _ _ _ _ _ 39 (za3 rfl rfl rfl (congrArg (fun b => Value.bool (!(b))) hb2083) rfl) (Eq.refl (some 39)) ?_
          refine @o_n _ _ _ _ _ _ _ _ _ _ _ 40 (za3 rfl rfl rfl (congrArg (fun b => Value.bool (!(b))) hb2083) rfl) (Eq.refl (some 40)) ?_
          refine o_q rfl rfl (zas true (congrArg (fun b => Value.bool (!(b))) hb2083) rfl) ?_
          refine o_q rfl rfl (za2 rfl) ?_
          refine @o_n _ _ _ _ _ _ _ _ _ _ _ 43 (za3 rfl rfl rfl rfl rfl) (Eq.refl (some 43)) ?_
          refine @o_n _ _ _ _ _ _ _ _ _ _ _ 44 (za3 rfl rfl rfl rfl rfl) (Eq.refl (some 44)) ?_
          refine @o_n _ _ _ _ _ _ _ _ _ _ _ 45 (za3 rfl rfl rfl rfl rfl) (Eq.refl (some 45)) ?_
          refine @o_n _ _ _ _ _ _ _ _ _ _ _ 46 (za3 rfl rfl rfl rfl rfl) (Eq.refl (some 46)) ?_
          refine o_q rfl rfl (zas true rfl rfl) ?_
          refine o_end ?_
          refine zat true h ⟨rfl, trivial⟩ (fun w h => za7 [0, 1, 2, 3, 4, 5] (by decide) rfl w h) ?_
          repeat (first | exact zac _ _ | refine zai rfl ?_ | refine zad rfl ?_ | refine zaj rfl ?_)
      · skip
        refine (fun b2077 => fun U2081 hJ2082 => ?_)
        have e_ := Option.some.inj hJ2082; have h := hR2080; rw [← e_] at h; clear e_ hJ2082 hR2080 hl2079
        refine zaq _ rfl (fun hb2089 => ?_) (fun hb2089 => ?_)
        · skip
          replace h := bb_t hb2089 h
          refine c_seq ?_
          refine za0 ?_
          refine o_q rfl rfl (q_build (vs := []) (cs := [.int .i64 0, .slice none 0 0, .slice none 0 0, .slice none 0 0]) rfl rfl) ?_
          refine o_e rfl (zam (i := 0) rfl rfl rfl Z38 rfl rfl) (fun _ => ?_)
          refine o_q rfl rfl (q_asg rfl) ?_
          refine o_end ?_
          refine za1 ?_
          refine c_ret ?_
          refine za5 ?_
          refine x_nil (Kd.int .i64) 3 ?_
          refine x_nil zax 84 ?_
          refine x_nil (Kd.int .i64) 3 ?_
          have e0_ := Option.some.inj h; clear h
          have d0_ := (Prod.mk.inj e0_).1; have e1_ := (Prod.mk.inj e0_).2; clear e0_; subst d0_
          have d1_ := (Prod.mk.inj e1_).1; have e2_ := (Prod.mk.inj e1_).2; clear e1_; subst d1_
          have d2_ := (Prod.mk.inj e2_).1; have e3_ := (Prod.mk.inj e2_).2; clear e2_; subst d2_
          have d3_ := (Prod.mk.inj e3_).1; have e4_ := (Prod.mk.inj e3_).2; clear e3_; subst d3_
          subst e4_
          exact x_r2 (none, 0, none, 0, none, 0) Tryz.results15 (rv_cell rfl G38 Z38 (fun w h => h.zae (i := 3) rfl) rfl) (zaf rfl) rfl (fun w h => za7 [2, 1, 0] (by decide) rfl w h)
        · skip
          replace h := bb_f hb2089 h
          refine zak ?_
          refine za1 ?_
          refine c_seq ?_
          refine za0 ?_
          refine o_q rfl rfl (q_ldB G38 Z38 rfl (fun w h => h.zae (i := 1) rfl) rfl) ?_
          refine o_e rfl (zam (i := 0) rfl rfl rfl Z38 rfl rfl) (fun _ => ?_)
          refine o_q rfl rfl (q_asg rfl) ?_
          refine o_end ?_
          refine za1 ?_
          refine c_ret ?_
          have e0_ := Option.some.inj h; clear h
          have d0_ := (Prod.mk.inj e0_).1; have e1_ := (Prod.mk.inj e0_).2; clear e0_; subst d0_
          have d1_ := (Prod.mk.inj e1_).1; have e2_ := (Prod.mk.inj e1_).2; clear e1_; subst d1_
          have d2_ := (Prod.mk.inj e2_).1; have e3_ := (Prod.mk.inj e2_).2; clear e2_; subst d2_
          have d3_ := (Prod.mk.inj e3_).1; have e4_ := (Prod.mk.inj e3_).2; clear e3_; subst d3_
          subst e4_
          exact x_r2 (A1040, c1041, A14, c15, A1043, c1044) Tryz.results15 (rv_cell rfl G38 Z38 (fun w h => h.zae (i := 0) rfl) rfl) (zaf rfl) rfl (fun w h => za7 [2, 3, 4] (by decide) rfl w h)

end Go.Proofs.YtnnlfipcoahcnaaGreatDoor.G1
