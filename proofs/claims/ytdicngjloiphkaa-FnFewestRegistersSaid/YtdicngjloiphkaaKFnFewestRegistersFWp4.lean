import Derived.Test.YtdicngjloiphkaaKFnFewestRegistersFWp3
namespace Go.Proofs.Ytdicngjloiphkaa.FW
open Go.RowKit Go.Proofs.Ytdicngjloiphkaa.Frame Go.Proofs.YtdicngjloiphkaaW.PrintLast Go.Proofs.Ytdicngjloiphkaa.Hand
open Go.Proofs.YtdicngjloiphkaaW.PrintWords hiding mn mx
set_option linter.unusedVariables false
/-! ### loop.example/g01098/spec.l1Put: function 127 -/
def spec_l1Put.l0 (l0 : List Int) (a1 : Int) : Nat → Int → Option Int
  | 0, _ => none
  | k26 + 1, i23 => if i23 < (l0.length : Int) then ((gt l0 i23).bind fun y37 => if y37 < a1 then (spec_l1Put.l0 l0 a1 k26 (w64 (i23 + 1))) else (some i23)) else (some i23)
def spec_l1Put.f (k : Nat) (l0 : List Int) (a1 : Int) : Option (List Int) := ((spec_l1Put.l0 l0 a1 k 0)).bind fun i17 => (if i17 < (l0.length : Int) then ((gt l0 i17).bind fun y52 => if y52 = a1 then (some (.inl l0)) else (some (.inr ()))) else (some (.inr ())) : Option (((List Int)) ⊕ (Unit))).bind fun o_ => match o_ with | .inl r_ => some r_ | .inr _ => (ct l0 (0 : Int) i17).bind fun l57 => (ap ([] : List Int) l57).bind fun l60 => (ap l60 ([a1] : List Int)).bind fun l67 => (ct l0 i17 (l0.length : Int)).bind fun l71 => (ap l67 l71).bind fun l74 => some l74
set_option maxHeartbeats 600000 in
set_option maxRecDepth 100000 in
theorem spec_l1Put.calls (k : Nat) {w0 ws : World} {P0 : Nat → Prop} (A0 : Option Addr) (c0 : Nat) (n0 : Nat) (l0 : List Int) (a1 : Int) (Z : Below w0.heap.size w0 ws) (hF : Fr w0 ws P0 [row (Kd.int .i64) 3 (.slice A0 n0 c0) l0] ws)  (r_1 : List Int) (h : spec_l1Put.f k l0 a1 = some r_1) :
    Calls Try.prog 127 #[.slice A0 n0 c0, .int .i64 a1] ws (Post1 w0 ws P0 (fun ((q_2, q_3) : (Option Addr) × Nat) => .slice q_2 r_1.length q_3) (fun ((q_2, q_3) : (Option Addr) × Nat) => [row (Kd.int .i64) 3 (.slice q_2 r_1.length q_3) r_1])) := by
  unfold spec_l1Put.f at h
  obtain rfl := (hF.row_C (i := 0) rfl).2.1
  refine enter Try.func127 rfl Try.ntmps127 rfl hF ?_
  refine c_seq ?_
  refine za0 ?_
  refine o_q rfl rfl (q_asg rfl) ?_
  refine o_end ?_
  refine za2 ?_
  refine c_seq ?_
  refine za0 ?_
  refine o_q rfl rfl (q_asg rfl) ?_
  refine o_end ?_
  refine za2 ?_
  refine za8 h (fun o18 hl19 hR20 => ?_) rfl
  clear h
  refine c_cutJ (σ := Int) (fun i17 => some i17 = some o18) [5, 7, 8, 9, 10, 11, 12, 13, 14, 15, 16, 17, 18, 19, 20] (fun i17 => [(5, .int .i64 i17)]) (fun i17 => [row (Kd.int .i64) 3 (.slice A0 l0.length c0) l0]) ?_ ?_
  · skip
    have h := hl19; clear hl19
    clear hR20
    refine zam ?_
    have hl30 := h; clear h
    refine zaw (σ := Int) (fun k26 (i23 : Int) => spec_l1Put.l0 l0 a1 k26 i23 = some o18) [5, 7, 8, 9, 10, 11, 12, 13, 14, 15, 16, 17, 18, 19, 20] (fun (i23 : Int) => [(5, .int .i64 i23)]) (fun (i23 : Int) => [row (Kd.int .i64) 3 (.slice A0 l0.length c0) l0]) k 0 hl30 ⟨rfl, trivial⟩ (fun w h => h) ?_
    refine natC (fun i23 => fun U32 hJ_ => ?_) (fun k26 => (fun i23 => fun U32 hJ_ => ?_))
    · skip
      replace hJ_ : spec_l1Put.l0 l0 a1 0 i23 = some o18 := hJ_
      rw [spec_l1Put.l0] at hJ_
      exact noneE hJ_
    · skip
      clear hl30
      have h := hJ_; clear hJ_
      replace h : spec_l1Put.l0 l0 a1 (k26 + 1) i23 = some o18 := h
      rw [spec_l1Put.l0] at h
      refine c_seq ?_
      refine c_seq ?_
      refine za0 ?_
      refine o_q rfl rfl (za3 rfl) ?_
      refine o_q rfl rfl (za3 rfl) ?_
      refine o_q rfl rfl (q_len Try.underlying25 rfl) ?_
      refine o_q rfl rfl (q_lss rfl rfl) ?_
      refine o_q rfl rfl (za3 rfl) ?_
      refine byB (decide (i23 < (l0.length : Int))) (fun hb34 => ?_) (fun hb34 => ?_)
      · replace h := br_t hb34 h
        refine o_w (za4 rfl rfl rfl (congrArg Value.bool hb34)) rfl (za3 rfl) ?_
        refine o_w (za4 rfl rfl rfl (congrArg Value.bool hb34)) rfl (za3 rfl) ?_
        refine o_fact (p := Sh A0 l0.length l0.length) (fun w h => f_sh (dk := (Kd.int .i64)) h (fun w h => h.zay (i := 0) rfl)) (fun hq35 => ?_)
        refine za8 h (fun y37 hg36 h => ?_) rfl
        refine o_w (za4 rfl rfl rfl (congrArg Value.bool hb34)) rfl (q_ix Try.underlying25 Z3 rfl rfl hq35 hg36) ?_
        refine o_w (za4 rfl rfl rfl (congrArg Value.bool hb34)) rfl (q_lde (off := 0) Y3 rfl rfl (fun w h => h.zay (i := 0) rfl) hg36 (fun _ _ h => h) rfl) ?_
        refine o_w (za4 rfl rfl rfl (congrArg Value.bool hb34)) rfl (za3 rfl) ?_
        refine o_w (za4 rfl rfl rfl (congrArg Value.bool hb34)) rfl (q_lss rfl rfl) ?_
        refine o_q rfl rfl (zaa true (congrArg Value.bool hb34) rfl) ?_
        refine o_end ?_
        refine za2 ?_
        refine zat _ rfl (fun hb38 => ?_) (fun hb38 => ?_)
        · skip
          replace h := br_t hb38 h
          refine zaq ?_
          refine za2 ?_
          refine zam ?_
          refine za0 ?_
          refine o_q rfl rfl (za3 rfl) ?_
          refine o_q rfl rfl (q_add64 rfl rfl) ?_
          refine o_q rfl rfl (q_asg rfl) ?_
          refine o_end ?_
          refine zal ?_
          refine zak k26 (w64 (i23 + 1)) (Nat.lt_succ_self _) h ⟨rfl, trivial⟩ (fun w h => za5 [0] (by decide) rfl w h) ?_
          repeat (first | exact zad _ _ | refine zah rfl ?_ | refine zae rfl ?_ | refine zai rfl ?_)
        · skip
          replace h := br_f hb38 h
          refine c_exit ?_
          refine za6 ?_
          refine za6 ?_
          refine x_hit ?_
          refine x_meetJ i23 h ⟨rfl, trivial⟩ (fun w h => za5 [0] (by decide) rfl w h) ?_
          repeat (first | exact zad _ _ | refine zah rfl ?_ | refine zae rfl ?_ | refine zai rfl ?_)
      · replace h := br_f hb34 h
        refine @o_n _ _ _ _ _ _ _ _ _ _ _ 12 (za1 rfl rfl rfl (congrArg Value.bool hb34) rfl) (Eq.refl (some 12)) ?_
        refine @o_n _ _ _ _ _ _ _ _ _ _ _ 13 (za1 rfl rfl rfl (congrArg Value.bool hb34) rfl) (Eq.refl (some 13)) ?_
        refine @o_n _ _ _ _ _ _ _ _ _ _ _ 14 (za1 rfl rfl rfl (congrArg Value.bool hb34) rfl) (Eq.refl (some 14)) ?_
        refine @o_n _ _ _ _ _ _ _ _ _ _ _ 15 (za1 rfl rfl rfl (congrArg Value.bool hb34) rfl) (Eq.refl (some 15)) ?_
        refine @o_n _ _ _ _ _ _ _ _ _ _ _ 16 (za1 rfl rfl rfl (congrArg Value.bool hb34) rfl) (Eq.refl (some 16)) ?_
        refine @o_n _ _ _ _ _ _ _ _ _ _ _ 17 (za1 rfl rfl rfl (congrArg Value.bool hb34) rfl) (Eq.refl (some 17)) ?_
        refine o_q rfl rfl (zaa false (congrArg Value.bool hb34) rfl) ?_
        refine o_end ?_
        refine za2 ?_
        refine c_false rfl ?_
        refine c_exit ?_
        refine za6 ?_
        refine za6 ?_
        refine x_hit ?_
        refine x_meetJ i23 h ⟨rfl, trivial⟩ (fun w h => za5 [0] (by decide) rfl w h) ?_
        repeat (first | exact zad _ _ | refine zah rfl ?_ | refine zae rfl ?_ | refine zai rfl ?_)
  · skip
    refine (fun i17 => fun U21 hJ22 => ?_)
    have e_ := Option.some.inj hJ22; have h := hR20; rw [← e_] at h; clear e_ hJ22 hR20 hl19
    refine za8 h (fun o44 hl45 hR46 => ?_) rfl
    clear h
    refine c_cutJ (σ := Unit) (fun _ => some (.inr ()) = some o44) [4, 21, 22, 23, 24, 25, 26, 27, 28, 29, 30, 31, 32, 33] (fun _ => []) (fun _ => [row (Kd.int .i64) 3 (.slice A0 l0.length c0) l0]) ?_ ?_
    · skip
      have h := hl45; clear hl45
      refine c_seq ?_
      refine za0 ?_
      refine o_q rfl rfl (za3 rfl) ?_
      refine o_q rfl rfl (za3 rfl) ?_
      refine o_q rfl rfl (q_len Try.underlying25 rfl) ?_
      refine o_q rfl rfl (q_lss rfl rfl) ?_
      refine o_q rfl rfl (za3 rfl) ?_
      refine byB (decide (i17 < (l0.length : Int))) (fun hb49 => ?_) (fun hb49 => ?_)
      · replace h := br_t hb49 h
        refine o_w (za4 rfl rfl rfl (congrArg Value.bool hb49)) rfl (za3 rfl) ?_
        refine o_w (za4 rfl rfl rfl (congrArg Value.bool hb49)) rfl (za3 rfl) ?_
        refine o_fact (p := Sh A0 l0.length l0.length) (fun w h => f_sh (dk := (Kd.int .i64)) h (fun w h => h.zay (i := 0) rfl)) (fun hq50 => ?_)
        refine za8 h (fun y52 hg51 h => ?_) rfl
        refine o_w (za4 rfl rfl rfl (congrArg Value.bool hb49)) rfl (q_ix Try.underlying25 Z3 rfl rfl hq50 hg51) ?_
        refine o_w (za4 rfl rfl rfl (congrArg Value.bool hb49)) rfl (q_lde (off := 0) Y3 rfl rfl (fun w h => h.zay (i := 0) rfl) hg51 (fun _ _ h => h) rfl) ?_
        refine o_w (za4 rfl rfl rfl (congrArg Value.bool hb49)) rfl (za3 rfl) ?_
        refine o_w (za4 rfl rfl rfl (congrArg Value.bool hb49)) rfl (q_eql rfl rfl) ?_
        refine o_q rfl rfl (zaa true (congrArg Value.bool hb49) rfl) ?_
        refine o_end ?_
        refine za2 ?_
        refine zat _ rfl (fun hb53 => ?_) (fun hb53 => ?_)
        · skip
          replace h := br_t hb53 h
          refine c_seq ?_
          refine za0 ?_
          refine o_q rfl rfl (za3 rfl) ?_
          refine o_q rfl rfl (q_asg rfl) ?_
          refine o_end ?_
          refine za2 ?_
          refine c_ret ?_
          refine zaf ?_
          have e_ := Option.some.inj h; replace h := hR46; rw [← e_] at h; clear e_
          have e0_ := Option.some.inj h; clear h
          subst e0_
          exact x_r1 (A0, c0) Try.results127 (zaj rfl) rfl (fun w h => za5 [0] (by decide) rfl w h)
        · skip
          replace h := br_f hb53 h
          refine zaq ?_
          refine x_meetJ () h trivial (fun w h => za5 [0] (by decide) rfl w h) ?_
          repeat (first | exact zad _ _ | refine zah rfl ?_ | refine zae rfl ?_ | refine zai rfl ?_)
      · replace h := br_f hb49 h
        refine @o_n _ _ _ _ _ _ _ _ _ _ _ 26 (za1 rfl rfl rfl (congrArg Value.bool hb49) rfl) (Eq.refl (some 26)) ?_
        refine @o_n _ _ _ _ _ _ _ _ _ _ _ 27 (za1 rfl rfl rfl (congrArg Value.bool hb49) rfl) (Eq.refl (some 27)) ?_
        refine @o_n _ _ _ _ _ _ _ _ _ _ _ 28 (za1 rfl rfl rfl (congrArg Value.bool hb49) rfl) (Eq.refl (some 28)) ?_
        refine @o_n _ _ _ _ _ _ _ _ _ _ _ 29 (za1 rfl rfl rfl (congrArg Value.bool hb49) rfl) (Eq.refl (some 29)) ?_
        refine @o_n _ _ _ _ _ _ _ _ _ _ _ 30 (za1 rfl rfl rfl (congrArg Value.bool hb49) rfl) (Eq.refl (some 30)) ?_
        refine @o_n _ _ _ _ _ _ _ _ _ _ _ 31 (za1 rfl rfl rfl (congrArg Value.bool hb49) rfl) (Eq.refl (some 31)) ?_
        refine o_q rfl rfl (zaa false (congrArg Value.bool hb49) rfl) ?_
        refine o_end ?_
        refine za2 ?_
        refine c_false rfl ?_
        refine zaq ?_
        refine x_meetJ () h trivial (fun w h => za5 [0] (by decide) rfl w h) ?_
        repeat (first | exact zad _ _ | refine zah rfl ?_ | refine zae rfl ?_ | refine zai rfl ?_)
    · skip
      refine (fun _ => fun U47 hJ48 => ?_)
      have e_ := Option.some.inj hJ48; have h := hR46; rw [← e_] at h; clear e_ hJ48 hR46 hl45
      refine c_seq ?_
      refine za0 ?_
      refine o_e rfl (e_lit0 (Kd.int .i64) Try.underlying25 I3) (cur2 (fun A54 c55 => ?_))
      refine o_q rfl rfl (za3 rfl) ?_
      refine o_q rfl rfl (za3 rfl) ?_
      refine za8 h (fun l57 hz58 h => ?_) rfl
      refine o_fact (p := l0.length = l0.length ∧ l0.length ≤ c0) (fun w h => h.row_nc (i := 1) rfl) (fun hk59 => ?_)
      refine o_q rfl rfl (q_ctv Try.underlying25 Z3 rfl rfl ⟨_, rfl⟩ hk59.1 hk59.2 hz58) ?_
      refine za8 h (fun l60 ha61 h => ?_) rfl
      refine o_e rfl (e_appr (i := 0) Try.underlying25 I3 rfl (by decide) (by decide) (fun _ _ _ _ h => h) rfl (fun w h => C_cut (dk := (Kd.int .i64)) rfl hz58 hk59.2 (h.zay (i := 1) rfl)) rfl rfl ha61) (cur2 (fun A62 c63 => ?_))
      refine o_q rfl rfl (q_asg rfl) ?_
      refine o_end ?_
      refine za2 ?_
      refine c_seq ?_
      refine za0 ?_
      refine o_q rfl rfl (za3 rfl) ?_
      refine o_q rfl rfl (za3 rfl) ?_
      refine o_e rfl (e_lit (vs := [(0, .int .i64 a1)]) (cs := [.int .i64 a1]) (Kd.int .i64) ([a1] : List Int) Try.underlying25 I3 (by decide) rfl (by decide) rfl rfl (fun _ _ => Kd.zao _)) (cur2 (fun A64 c65 => ?_))
      refine za8 h (fun l67 ha68 h => ?_) rfl
      refine o_e rfl (e_app (i := 1) (j := 0) Try.underlying25 I3 rfl (by decide) (by decide) rfl rfl rfl rfl rfl ha68) (cur2 (fun A69 c70 => ?_))
      refine o_q rfl rfl (q_asg rfl) ?_
      refine o_end ?_
      refine za2 ?_
      refine c_seq ?_
      refine za0 ?_
      refine o_q rfl rfl (za3 rfl) ?_
      refine o_q rfl rfl (za3 rfl) ?_
      refine o_q rfl rfl (za3 rfl) ?_
      refine za8 h (fun l71 hz72 h => ?_) rfl
      refine o_fact (p := l0.length = l0.length ∧ l0.length ≤ c0) (fun w h => h.row_nc (i := 2) rfl) (fun hk73 => ?_)
      refine o_q rfl rfl (q_ctv Try.underlying25 Z3 rfl ⟨_, rfl⟩ rfl hk73.1 hk73.2 hz72) ?_
      refine za8 h (fun l74 ha75 h => ?_) rfl
      refine o_e rfl (e_appr (i := 1) Try.underlying25 I3 rfl (by decide) (by decide) (fun _ _ _ _ h => h) rfl (fun w h => C_cut (dk := (Kd.int .i64)) rfl hz72 hk73.2 (h.zay (i := 2) rfl)) rfl rfl ha75) (cur2 (fun A76 c77 => ?_))
      refine o_q rfl rfl (q_asg rfl) ?_
      refine o_end ?_
      refine za2 ?_
      refine c_ret ?_
      have e0_ := Option.some.inj h; clear h
      subst e0_
      exact x_r1 (A76, c77) Try.results127 (zaj rfl) rfl (fun w h => za5 [1] (by decide) rfl w h)

/-! ### loop.example/g01098/spec.rePressure: function 63 -/
def spec_rePressure.l0 (k : Nat) (a0_0 : Int) (l0_1 : List SStep) (l0_2 : List Int) (l1 : List Int) : (List Int) → Int → Int → Option Int
  | [], i3, i4 => some i4
  | y5 :: ys6, i3, i4 => (ct l1 (0 : Int) (i3 + 1)).bind fun l16 => (spec_reNeeded.f k a0_0 l0_1 l0_2 l16).bind fun l19 => (spec_l1Put.f k l19 (w64 (a0_0 + y5))).bind fun l23 => (spec_l1Most.f i4 (l23.length : Int)).bind fun i27 => spec_rePressure.l0 k a0_0 l0_1 l0_2 l1 ys6 (i3 + 1) i27
def spec_rePressure.f (k : Nat) (a0_0 : Int) (l0_1 : List SStep) (l0_2 : List Int) (l1 : List Int) : Option Int := (spec_rePressure.l0 k a0_0 l0_1 l0_2 l1 l1 0 a0_0).bind fun i4 => some i4
set_option maxHeartbeats 600000 in
set_option maxRecDepth 100000 in
theorem spec_rePressure.calls (k : Nat) {w0 ws : World} {P0 : Nat → Prop} (a0_0 : Int) (A0_1 : Option Addr) (c0_1 : Nat) (n0_1 : Nat) (l0_1 : List SStep) (A0_2 : Option Addr) (c0_2 : Nat) (n0_2 : Nat) (l0_2 : List Int) (A1 : Option Addr) (c1 : Nat) (n1 : Nat) (l1 : List Int) (Z : Below w0.heap.size w0 ws) (hF : Fr w0 ws P0 [] ws) (R0_1 : Stable ws P0 (fun w => Kd.C kStep w A0_1 n0_1 l0_1)) (hc0_1 : n0_1 ≤ c0_1) (R0_2 : Stable ws P0 (fun w => Kd.C (Kd.int .i64) w A0_2 n0_2 l0_2)) (hc0_2 : n0_2 ≤ c0_2) (R1 : Stable ws P0 (fun w => Kd.C (Kd.int .i64) w A1 n1 l1)) (hc1 : n1 ≤ c1) (r_1 : Int) (h : spec_rePressure.f k a0_0 l0_1 l0_2 l1 = some r_1) :
    Calls Try.prog 63 #[.agg #[.int .i64 a0_0, .slice A0_1 n0_1 c0_1, .slice A0_2 n0_2 c0_2], .slice A1 n1 c1] ws (Post1 w0 ws P0 (fun (_ : Unit) => .int .i64 r_1) (fun (_ : Unit) => [])) := by
  unfold spec_rePressure.f at h
  obtain rfl := (R0_1 ws (KeptB.refl _ _)).1
  obtain rfl := (R0_2 ws (KeptB.refl _ _)).1
  obtain rfl := (R1 ws (KeptB.refl _ _)).1
  refine enter Try.func63 rfl Try.ntmps63 rfl hF ?_
  refine c_seq ?_
  refine za0 ?_
  refine o_e rfl (e_box rfl) (fun g1 => ?_)
  refine o_q rfl rfl (q_asg rfl) ?_
  refine o_end ?_
  refine za2 ?_
  refine c_seq ?_
  refine za0 ?_
  refine o_q rfl rfl (q_f F27_0 rfl) ?_
  refine o_q rfl rfl (q_ldb Y3 rfl (fun w h => h.zac (i := 0) rfl) rfl) ?_
  refine o_q rfl rfl (q_asg rfl) ?_
  refine o_end ?_
  refine za2 ?_
  refine c_seq ?_
  refine c_seq ?_
  refine za0 ?_
  refine o_q rfl rfl (za3 rfl) ?_
  refine o_q rfl rfl (q_len Try.underlying25 rfl) ?_
  refine o_q rfl rfl (za3 rfl) ?_
  refine o_end ?_
  refine za2 ?_
  refine zam ?_
  refine za8 h (fun o12 hl11 hR10 => ?_) rfl
  clear h
  refine c_fact (p := l1.length ≤ 9223372036854775807) (fun w h => (R1.now Z h).2.1) (fun hm9 => ?_)
  refine zaw (σ := (List Int) × Int × Int) (fun k7 ((ys6, i3, i4) : (List Int) × Int × Int) => Rg l1 i3 ys6 ∧ ys6.length = k7 ∧ spec_rePressure.l0 k a0_0 l0_1 l0_2 l1 ys6 i3 i4 = some o12) [5, 6, 7, 12, 13, 14, 15, 16, 17, 18, 19, 20, 21, 22, 23, 24, 25, 26, 27, 28, 29, 30, 31] (fun ((ys6, i3, i4) : (List Int) × Int × Int) => [(5, .int .i64 i4), (12, .int .i64 i3)]) (fun ((ys6, i3, i4) : (List Int) × Int × Int) => [box g1 27 #[.int .i64 a0_0, .slice A0_1 l0_1.length c0_1, .slice A0_2 l0_2.length c0_2]]) l1.length (l1, 0, a0_0) ⟨Rg.start _, rfl, hl11⟩ ⟨rfl, rfl, trivial⟩ (fun w h => h) ?_
  refine fun k7 => cur3 (listC (fun i3 i4 U13 hJ_ => ?_) (fun y5 ys6 i3 i4 U13 hJ_ => ?_))
  · skip
    clear hl11
    have hr8 := hJ_.1; have hk14 := hJ_.2.1; have h := hJ_.2.2; clear hJ_
    replace h : spec_rePressure.l0 k a0_0 l0_1 l0_2 l1 [] i3 i4 = some o12 := h
    rw [spec_rePressure.l0] at h
    refine c_seq ?_
    refine za0 ?_
    refine o_q rfl rfl (q_lss rfl rfl) ?_
    refine o_end ?_
    refine za2 ?_
    refine c_seq ?_
    refine c_false (congrArg Value.bool hr8.ge) ?_
    refine c_exit ?_
    refine za6 ?_
    refine za6 ?_
    have e_ := Option.some.inj h; replace h := hR10; rw [← e_] at h; clear e_
    refine x_hit ?_
    refine za2 ?_
    refine c_seq ?_
    refine za0 ?_
    refine o_q rfl rfl (za3 rfl) ?_
    refine o_q rfl rfl (q_asg rfl) ?_
    refine o_end ?_
    refine za2 ?_
    refine c_ret ?_
    have e0_ := Option.some.inj h; clear h
    subst e0_
    exact x_r1 () Try.results63 (zaj rfl) rfl (fun w h => za5 [] (by decide) rfl w h)
  · skip
    clear hl11
    have hr8 := hJ_.1; have hk14 := hJ_.2.1; have h := hJ_.2.2; clear hJ_
    replace h : spec_rePressure.l0 k a0_0 l0_1 l0_2 l1 (y5 :: ys6) i3 i4 = some o12 := h
    rw [spec_rePressure.l0] at h
    refine c_seq ?_
    refine za0 ?_
    refine o_q rfl rfl (q_lss rfl rfl) ?_
    refine o_end ?_
    refine za2 ?_
    refine c_seq ?_
    refine c_true (congrArg Value.bool hr8.lt) ?_
    refine zaq ?_
    refine za2 ?_
    refine c_seq ?_
    refine zam ?_
    refine c_seq ?_
    refine za0 ?_
    refine o_q rfl rfl (za3 rfl) ?_
    refine o_fact (p := Sh A1 l1.length l1.length) (fun w h => f_sh (dk := (Kd.int .i64)) h (fun w h => R1.now Z h)) (fun hq15 => ?_)
    refine o_q rfl rfl (q_ix Try.underlying25 Z3 rfl rfl hq15 hr8.get) ?_
    refine o_q rfl rfl (q_lde (off := 0) Y3 rfl rfl (fun w h => R1.now Z h) hr8.get (fun _ _ h => h) rfl) ?_
    refine o_q rfl rfl (q_asg rfl) ?_
    refine o_q rfl rfl (q_asg rfl) ?_
    refine o_end ?_
    refine za2 ?_
    refine a_start (ds := []) MO rfl ?_
    refine za7 0 rfl rfl rfl (by kernel_rfl) (fun _ _ _ h => h) (za3 rfl) ?_
    refine zau 1 rfl rfl rfl (by kernel_rfl) (fun _ _ _ h => h) (fun w h => h) (q_ldB G27 Z27 rfl (fun w h => h.zac (i := 0) rfl) rfl) ?_
    refine za7 2 rfl rfl rfl (by kernel_rfl) (fun _ _ _ h => h) (za3 rfl) ?_
    refine za7 3 rfl rfl rfl (by kernel_rfl) (fun _ _ _ h => h) (za3 rfl) ?_
    refine za7 4 rfl rfl rfl (by kernel_rfl) (fun _ _ _ h => h) (q_up rfl rfl (hr8.up hm9)) ?_
    refine za8 h (fun l16 hz17 h => ?_) rfl
    refine za7 5 rfl rfl rfl (by kernel_rfl) (fun _ _ _ h => h) (q_ctv Try.underlying25 Z3 rfl rfl ⟨_, rfl⟩ rfl hc1 hz17) ?_
    refine za7 7 rfl rfl rfl (by kernel_rfl) (fun _ _ _ h => h) (q_f F27_0 rfl) ?_
    refine zau 8 rfl rfl rfl (by kernel_rfl) (fun _ _ _ h => h) (fun w h => h) (q_ldb Y3 rfl (fun w h => h.zac (i := 0) rfl) rfl) ?_
    refine za7 9 rfl rfl rfl (by kernel_rfl) (fun _ _ _ h => h) (za3 rfl) ?_
    refine za7 10 rfl rfl rfl (by kernel_rfl) (fun _ _ _ h => h) (q_add64 rfl rfl) ?_
    refine za8 h (fun l19 hx18 h => ?_) rfl
    refine a_one 6 rfl rfl (by kernel_rfl) rfl (za9 0 Z Try.func71 N71 rfl rfl rfl (fun w P1 hF hB hS hT => spec_reNeeded.calls k a0_0 A0_1 c0_1 l0_1.length l0_1 A0_2 c0_2 l0_2.length l0_2 (cutA A1 c1 (0 : Int).toNat 1) (c1 - (0 : Int).toNat) l16.length l16 hB hF (hS _ R0_1) hc0_1 (hS _ R0_2) hc0_2 (stab_cut (dk := (Kd.int .i64)) rfl hz17 hc1 (hS _ R1)) (ct_cap hz17 rfl hc1) _ hx18)) (fun s w h => zab [some 1] (by decide) w h rfl) (cur2 (fun A20 c21 => ?_))
    refine za8 h (fun l23 hx22 h => ?_) rfl
    refine a_one 11 rfl rfl (by kernel_rfl) rfl (za9 1 Z Try.func127 N127 rfl rfl rfl (fun w P1 hF hB hS hT => spec_l1Put.calls k A20 c21 l19.length l19 (w64 (a0_0 + y5)) hB hF _ hx22)) (fun s w h => zab [some 1] (by decide) w h rfl) (cur2 (fun A24 c25 => ?_))
    refine za7 12 rfl rfl rfl (by kernel_rfl) (fun _ _ _ h => h) (q_len Try.underlying25 rfl) ?_
    refine za8 h (fun i27 hx26 h => ?_) rfl
    refine a_one 13 rfl rfl (by kernel_rfl) rfl (za9 0 Z Try.func126 N126 rfl rfl rfl (fun w P1 hF hB hS hT => spec_l1Most.calls i4 (l23.length : Int) hB hF _ hx26)) (fun s w h => zab [some 1] (by decide) w h rfl) (fun _ => ?_)
    refine za7 14 rfl rfl rfl (by kernel_rfl) (fun _ _ _ h => h) (q_asg rfl) ?_
    refine zav (by kernel_rfl) ?_
    refine zal ?_
    refine za2 ?_
    refine za0 ?_
    refine o_q rfl rfl (q_up rfl rfl (hr8.up hm9)) ?_
    refine o_q rfl rfl (za3 rfl) ?_
    refine o_end ?_
    refine zak ys6.length (ys6, i3 + 1, i27) (by rw [← hk14]; exact Nat.lt_succ_self _) ⟨hr8.step, rfl, h⟩ ⟨rfl, rfl, trivial⟩ (fun w h => za5 [1] (by decide) rfl w h) ?_
    repeat (first | exact zad _ _ | refine zah rfl ?_ | refine zae rfl ?_ | refine zai rfl ?_)

/-! ### loop.example/g01098/spec.reBest: function 75 -/
def spec_reBest.l0 (k : Nat) (a0_0 : Int) (l0_1 : List SStep) (l0_2 : List Int) : (List (List Int)) → (List Int) → Int → Int → Option ((List Int) × Int)
  | [], l8, i12, i13 => some (l8, i13)
  | y14 :: ys15, l8, i12, i13 => (spec_rePressure.f k a0_0 l0_1 l0_2 y14).bind fun i27 => if i27 < i13 then (spec_reBest.l0 k a0_0 l0_1 l0_2 ys15 y14 (i12 + 1) i27) else (spec_reBest.l0 k a0_0 l0_1 l0_2 ys15 l8 (i12 + 1) i13)
def spec_reBest.f (k : Nat) (a0_0 : Int) (l0_1 : List SStep) (l0_2 : List Int) : Option ((List Int) × Int) := (spec_reOrders.f k a0_0 l0_1 l0_2 []).bind fun l4 => (spec_reBest.l0 k a0_0 l0_1 l0_2 l4 [] 0 47).bind fun (l8, i13) => some (l8, i13)
set_option maxHeartbeats 600000 in
set_option maxRecDepth 100000 in
theorem spec_reBest.calls (k : Nat) {w0 ws : World} {P0 : Nat → Prop} (a0_0 : Int) (A0_1 : Option Addr) (c0_1 : Nat) (n0_1 : Nat) (l0_1 : List SStep) (A0_2 : Option Addr) (c0_2 : Nat) (n0_2 : Nat) (l0_2 : List Int) (Z : Below w0.heap.size w0 ws) (hF : Fr w0 ws P0 [] ws) (R0_1 : Stable ws P0 (fun w => Kd.C kStep w A0_1 n0_1 l0_1)) (hc0_1 : n0_1 ≤ c0_1) (R0_2 : Stable ws P0 (fun w => Kd.C (Kd.int .i64) w A0_2 n0_2 l0_2)) (hc0_2 : n0_2 ≤ c0_2) (r_1 : List Int) (r_4 : Int) (h : spec_reBest.f k a0_0 l0_1 l0_2 = some (r_1, r_4)) :
    Calls Try.prog 75 #[.agg #[.int .i64 a0_0, .slice A0_1 n0_1 c0_1, .slice A0_2 n0_2 c0_2]] ws (Post1 w0 ws P0 (fun ((q_2, q_3) : (Option Addr) × Nat) => .tuple #[.slice q_2 r_1.length q_3, .int .i64 r_4]) (fun ((q_2, q_3) : (Option Addr) × Nat) => [row (Kd.int .i64) 3 (.slice q_2 r_1.length q_3) r_1])) := by
  unfold spec_reBest.f at h
  obtain rfl := (R0_1 ws (KeptB.refl _ _)).1
  obtain rfl := (R0_2 ws (KeptB.refl _ _)).1
  refine enter Try.func75 rfl Try.ntmps75 rfl hF ?_
  refine c_seq ?_
  refine za0 ?_
  refine o_e rfl (e_box rfl) (fun g1 => ?_)
  refine o_q rfl rfl (q_asg rfl) ?_
  refine o_q rfl rfl (q_asg rfl) ?_
  refine o_end ?_
  refine za2 ?_
  refine c_seq ?_
  refine za0 ?_
  refine o_q rfl rfl (q_asg rfl) ?_
  refine o_end ?_
  refine za2 ?_
  refine c_seq ?_
  refine za0 ?_
  refine o_q rfl rfl (q_asg rfl) ?_
  refine o_end ?_
  refine za2 ?_
  refine c_seq ?_
  refine c_seq ?_
  refine za0 ?_
  refine o_q rfl rfl (q_ldB G27 Z27 rfl (fun w h => h.zac (i := 0) rfl) rfl) ?_
  refine za8 h (fun l4 hx3 h => ?_) rfl
  refine o_e rfl (za9 0 Z Try.func62 N62 rfl rfl rfl (fun w P1 hF hB hS hT => spec_reOrders.calls k a0_0 A0_1 c0_1 l0_1.length l0_1 A0_2 c0_2 l0_2.length l0_2 none 0 0 [] hB hF (hS _ R0_1) hc0_1 (hS _ R0_2) hc0_2 (stab_nil _) (Nat.le_refl 0) _ hx3)) (cur3 (fun A5 c6 H7 => ?_))
  refine o_q rfl rfl (q_len Try.underlying73 rfl) ?_
  refine o_q rfl rfl (za3 rfl) ?_
  refine o_end ?_
  refine za2 ?_
  refine zam ?_
  refine za8 h (fun o21 hl20 hR19 => ?_) rfl
  clear h
  refine c_fact (p := l4.length ≤ 9223372036854775807) (fun w h => (h.zay (i := 0) rfl).2.1) (fun hm18 => ?_)
  refine zaw (σ := (List (List Int)) × (List Int) × Int × Int × (Option Addr) × Nat) (fun k16 ((ys15, l8, i12, i13, A9, c10) : (List (List Int)) × (List Int) × Int × Int × (Option Addr) × Nat) => Rg l4 i12 ys15 ∧ ys15.length = k16 ∧ spec_reBest.l0 k a0_0 l0_1 l0_2 ys15 l8 i12 i13 = some o21 ∧ Pk H7 l4 A9 c10 l8) [4, 5, 7, 8, 12, 13, 14, 15, 16, 17, 18, 19, 20, 21, 22, 23, 24] (fun ((ys15, l8, i12, i13, A9, c10) : (List (List Int)) × (List Int) × Int × Int × (Option Addr) × Nat) => [(4, .slice A9 l8.length c10), (5, .int .i64 i13), (12, .int .i64 i12)]) (fun ((ys15, l8, i12, i13, A9, c10) : (List (List Int)) × (List Int) × Int × Int × (Option Addr) × Nat) => [row (gk 3 (Kd.int .i64)) 25 (.slice A5 l4.length c6) (zp H7 l4), box g1 27 #[.int .i64 a0_0, .slice A0_1 l0_1.length c0_1, .slice A0_2 l0_2.length c0_2]]) l4.length (l4, [], 0, 47, none, 0) ⟨Rg.start _, rfl, hl20, Pk.nil⟩ ⟨rfl, rfl, rfl, trivial⟩ (fun w h => h) ?_
  refine fun k16 => cur6 (listC (fun l8 i12 i13 A9 c10 U22 hJ_ => ?_) (fun y14 ys15 l8 i12 i13 A9 c10 U22 hJ_ => ?_))
  · skip
    clear hl20
    have hr17 := hJ_.1; have hk23 := hJ_.2.1; have h := hJ_.2.2; clear hJ_
    have hpk_ := h.2; replace h := h.1
    have hp11 := hpk_; clear hpk_
    replace h : spec_reBest.l0 k a0_0 l0_1 l0_2 [] l8 i12 i13 = some o21 := h
    rw [spec_reBest.l0] at h
    refine c_seq ?_
    refine za0 ?_
    refine o_q rfl rfl (q_lss rfl rfl) ?_
    refine o_end ?_
    refine za2 ?_
    refine c_seq ?_
    refine c_false (congrArg Value.bool hr17.ge) ?_
    refine c_exit ?_
    refine za6 ?_
    refine za6 ?_
    have e_ := Option.some.inj h; replace h := hR19; rw [← e_] at h; clear e_
    refine x_hit ?_
    refine za2 ?_
    refine c_seq ?_
    refine za0 ?_
    refine o_q rfl rfl (za3 rfl) ?_
    refine o_q rfl rfl (za3 rfl) ?_
    refine o_q rfl rfl (q_asg rfl) ?_
    refine o_q rfl rfl (q_asg rfl) ?_
    refine o_end ?_
    refine za2 ?_
    refine c_ret ?_
    refine x_takeP (i := 0) rfl hp11 ?_
    have e0_ := Option.some.inj h; clear h
    have d0_ := (Prod.mk.inj e0_).1; have e1_ := (Prod.mk.inj e0_).2; clear e0_; subst d0_
    subst e1_
    exact x_r2 (A9, c10) Try.results75 (zaj rfl) (zaj rfl) rfl (fun w h => za5 [0] (by decide) rfl w h)
  · skip
    clear hl20
    have hr17 := hJ_.1; have hk23 := hJ_.2.1; have h := hJ_.2.2; clear hJ_
    have hpk_ := h.2; replace h := h.1
    have hp11 := hpk_; clear hpk_
    replace h : spec_reBest.l0 k a0_0 l0_1 l0_2 (y14 :: ys15) l8 i12 i13 = some o21 := h
    rw [spec_reBest.l0] at h
    refine c_seq ?_
    refine za0 ?_
    refine o_q rfl rfl (q_lss rfl rfl) ?_
    refine o_end ?_
    refine za2 ?_
    refine c_seq ?_
    refine c_true (congrArg Value.bool hr17.lt) ?_
    refine zaq ?_
    refine za2 ?_
    refine c_seq ?_
    refine zam ?_
    refine c_seq ?_
    refine za0 ?_
    refine o_fact (p := Sh A5 l4.length (zp H7 l4).length) (fun w h => f_sh (dk := (gk 3 (Kd.int .i64))) h (fun w h => h.zay (i := 0) rfl)) (fun hq24 => ?_)
    refine o_q rfl rfl (q_ix Try.underlying73 Z25 rfl rfl hq24 (gt_zp hr17.get)) ?_
    refine o_fact (p := y14.length ≤ hC H7 i12) (fun w h => (K_in (h.zay (i := 0) rfl) hr17.get).1) (fun hc25 => ?_)
    refine o_q rfl rfl (q_lde (off := 0) Y25 rfl rfl (fun w h => h.zay (i := 0) rfl) (gt_zp hr17.get) (fun _ _ h => h.1) rfl) ?_
    refine o_q rfl rfl (q_asg rfl) ?_
    refine o_end ?_
    refine za2 ?_
    refine c_seq ?_
    refine za0 ?_
    refine o_q rfl rfl (q_ldB G27 Z27 rfl (fun w h => h.zac (i := 1) rfl) rfl) ?_
    refine o_q rfl rfl (za3 rfl) ?_
    refine za8 h (fun i27 hx26 h => ?_) rfl
    refine o_e rfl (za9 0 Z Try.func63 N63 rfl rfl rfl (fun w P1 hF hB hS hT => spec_rePressure.calls k a0_0 A0_1 c0_1 l0_1.length l0_1 A0_2 c0_2 l0_2.length l0_2 (hA H7 i12) (hC H7 i12) y14.length y14 hB hF (hS _ R0_1) hc0_1 (hS _ R0_2) hc0_2 (stab_in (hT 0 _ rfl).row hr17.get) hc25 _ hx26)) (fun _ => ?_)
    refine o_q rfl rfl (q_asg rfl) ?_
    refine o_end ?_
    refine za2 ?_
    refine c_seq ?_
    refine za0 ?_
    refine o_q rfl rfl (za3 rfl) ?_
    refine o_q rfl rfl (za3 rfl) ?_
    refine o_q rfl rfl (q_lss rfl rfl) ?_
    refine o_end ?_
    refine za2 ?_
    refine zat _ rfl (fun hb28 => ?_) (fun hb28 => ?_)
    · skip
      replace h := br_t hb28 h
      refine c_seq ?_
      refine za0 ?_
      refine o_q rfl rfl (za3 rfl) ?_
      refine o_q rfl rfl (q_asg rfl) ?_
      refine o_end ?_
      refine za2 ?_
      refine za0 ?_
      refine o_q rfl rfl (za3 rfl) ?_
      refine o_q rfl rfl (q_asg rfl) ?_
      refine o_end ?_
      refine zal ?_
      refine za2 ?_
      refine za0 ?_
      refine o_q rfl rfl (q_up rfl rfl (hr17.up hm18)) ?_
      refine o_q rfl rfl (za3 rfl) ?_
      refine o_end ?_
      refine zak ys15.length (ys15, y14, i12 + 1, i27, hA H7 i12, hC H7 i12) (by rw [← hk23]; exact Nat.lt_succ_self _) ⟨hr17.step, rfl, h, (Pk.inn hr17.get)⟩ ⟨rfl, rfl, rfl, trivial⟩ (fun w h => za5 [0, 1] (by decide) rfl w h) ?_
      repeat (first | exact zad _ _ | refine zah rfl ?_ | refine zae rfl ?_ | refine zai rfl ?_)
    · skip
      replace h := br_f hb28 h
      refine zaq ?_
      refine zal ?_
      refine za2 ?_
      refine za0 ?_
      refine o_q rfl rfl (q_up rfl rfl (hr17.up hm18)) ?_
      refine o_q rfl rfl (za3 rfl) ?_
      refine o_end ?_
      refine zak ys15.length (ys15, l8, i12 + 1, i13, A9, c10) (by rw [← hk23]; exact Nat.lt_succ_self _) ⟨hr17.step, rfl, h, hp11⟩ ⟨rfl, rfl, rfl, trivial⟩ (fun w h => za5 [0, 1] (by decide) rfl w h) ?_
      repeat (first | exact zad _ _ | refine zah rfl ?_ | refine zae rfl ?_ | refine zai rfl ?_)

/-! ### loop.example/g01098/spec.BestOrder: function 19 -/
def spec_BestOrder.f (k : Nat) (a0_0 : Int) (l0_1 : List SStep) (l0_2 : List Int) : Option ((List Int) × Bool) := (spec_reFew.f k a0_0 l0_1 l0_2).bind fun b4 => if b4 = true then ((spec_reBest.f k a0_0 l0_1 l0_2).bind fun (l7, i8) => some (l7, true)) else (some (([] : List Int), false))
set_option maxHeartbeats 600000 in
set_option maxRecDepth 100000 in
theorem spec_BestOrder.calls (k : Nat) {w0 ws : World} {P0 : Nat → Prop} (a0_0 : Int) (A0_1 : Option Addr) (c0_1 : Nat) (n0_1 : Nat) (l0_1 : List SStep) (A0_2 : Option Addr) (c0_2 : Nat) (n0_2 : Nat) (l0_2 : List Int) (Z : Below w0.heap.size w0 ws) (hF : Fr w0 ws P0 [] ws) (R0_1 : Stable ws P0 (fun w => Kd.C kStep w A0_1 n0_1 l0_1)) (hc0_1 : n0_1 ≤ c0_1) (R0_2 : Stable ws P0 (fun w => Kd.C (Kd.int .i64) w A0_2 n0_2 l0_2)) (hc0_2 : n0_2 ≤ c0_2) (r_1 : List Int) (r_4 : Bool) (h : spec_BestOrder.f k a0_0 l0_1 l0_2 = some (r_1, r_4)) :
    Calls Try.prog 19 #[.agg #[.int .i64 a0_0, .slice A0_1 n0_1 c0_1, .slice A0_2 n0_2 c0_2]] ws (Post1 w0 ws P0 (fun ((q_2, q_3) : (Option Addr) × Nat) => .tuple #[.slice q_2 r_1.length q_3, .bool r_4]) (fun ((q_2, q_3) : (Option Addr) × Nat) => [row (Kd.int .i64) 3 (.slice q_2 r_1.length q_3) r_1])) := by
  unfold spec_BestOrder.f at h
  obtain rfl := (R0_1 ws (KeptB.refl _ _)).1
  obtain rfl := (R0_2 ws (KeptB.refl _ _)).1
  refine enter Try.func19 rfl Try.ntmps19 rfl hF ?_
  refine c_seq ?_
  refine za0 ?_
  refine o_e rfl (e_box rfl) (fun g1 => ?_)
  refine o_q rfl rfl (q_asg rfl) ?_
  refine o_q rfl rfl (q_asg rfl) ?_
  refine o_end ?_
  refine za2 ?_
  refine c_seq ?_
  refine c_seq ?_
  refine za0 ?_
  refine o_q rfl rfl (q_ldB G27 Z27 rfl (fun w h => h.zac (i := 0) rfl) rfl) ?_
  refine za8 h (fun b4 hx3 h => ?_) rfl
  refine o_e rfl (za9 0 Z Try.func60 N60 rfl rfl rfl (fun w P1 hF hB hS hT => spec_reFew.calls k a0_0 A0_1 c0_1 l0_1.length l0_1 A0_2 c0_2 l0_2.length l0_2 hB hF (hS _ R0_1) hc0_1 (hS _ R0_2) hc0_2 _ hx3)) (fun _ => ?_)
  refine o_q rfl rfl (q_not rfl) ?_
  refine o_end ?_
  refine za2 ?_
  refine zat _ rfl (fun hb5 => ?_) (fun hb5 => ?_)
  · replace hb5 := nt_t hb5
    replace h := bb_f hb5 h
    refine c_seq ?_
    refine za0 ?_
    refine o_q rfl rfl (q_asg rfl) ?_
    refine o_q rfl rfl (q_asg rfl) ?_
    refine o_end ?_
    refine za2 ?_
    refine c_ret ?_
    refine zaf ?_
    refine x_nil (Kd.int .i64) 3 ?_
    have e0_ := Option.some.inj h; clear h
    have d0_ := (Prod.mk.inj e0_).1; have e1_ := (Prod.mk.inj e0_).2; clear e0_; subst d0_
    subst e1_
    exact x_r2 (none, 0) Try.results19 (zaj rfl) (zaj rfl) rfl (fun w h => za5 [0] (by decide) rfl w h)
  · replace hb5 := nt_f hb5
    replace h := bb_t hb5 h
    refine zaq ?_
    refine za2 ?_
    refine c_seq ?_
    refine za0 ?_
    refine o_q rfl rfl (q_ldB G27 Z27 rfl (fun w h => h.zac (i := 0) rfl) rfl) ?_
    refine bindE2 h (fun l7 i8 hx6 h => ?_) rfl
    refine o_e rfl (za9 0 Z Try.func75 N75 rfl rfl rfl (fun w P1 hF hB hS hT => spec_reBest.calls k a0_0 A0_1 c0_1 l0_1.length l0_1 A0_2 c0_2 l0_2.length l0_2 hB hF (hS _ R0_1) hc0_1 (hS _ R0_2) hc0_2 _ _ hx6)) (cur2 (fun A9 c10 => ?_))
    refine o_q rfl rfl (za3 rfl) ?_
    refine o_q rfl rfl (q_ext rfl rfl) ?_
    refine o_q rfl rfl (q_ext rfl rfl) ?_
    refine o_q rfl rfl (q_asg rfl) ?_
    refine o_q rfl rfl (q_asg rfl) ?_
    refine o_end ?_
    refine za2 ?_
    refine c_seq ?_
    refine za0 ?_
    refine o_q rfl rfl (za3 rfl) ?_
    refine o_q rfl rfl (q_asg rfl) ?_
    refine o_q rfl rfl (q_asg rfl) ?_
    refine o_end ?_
    refine za2 ?_
    refine c_ret ?_
    have e0_ := Option.some.inj h; clear h
    have d0_ := (Prod.mk.inj e0_).1; have e1_ := (Prod.mk.inj e0_).2; clear e0_; subst d0_
    subst e1_
    exact x_r2 (A9, c10) Try.results19 (zaj rfl) (zaj rfl) rfl (fun w h => za5 [0] (by decide) rfl w h)

/-! ### loop.example/g01098/laws.rSame: function 15 -/
def laws_rSame.l0 (l1 : List Int) : (List Int) → Int → Option ((Bool) ⊕ (Unit))
  | [], i2 => some (.inr ())
  | y3 :: ys4, i2 => (gt l1 i2).bind fun y16 => if y3 ≠ y16 then (some (.inl false)) else (laws_rSame.l0 l1 ys4 (i2 + 1))
def laws_rSame.f (l0 : List Int) (l1 : List Int) : Option Bool := if (l0.length : Int) ≠ (l1.length : Int) then (some false) else ((laws_rSame.l0 l1 l0 0).bind fun o_ => match o_ with | .inl r_ => some r_ | .inr _ => some true)
set_option maxHeartbeats 600000 in
set_option maxRecDepth 100000 in
theorem laws_rSame.calls {w0 ws : World} {P0 : Nat → Prop} (A0 : Option Addr) (c0 : Nat) (n0 : Nat) (l0 : List Int) (A1 : Option Addr) (c1 : Nat) (n1 : Nat) (l1 : List Int) (Z : Below w0.heap.size w0 ws) (hF : Fr w0 ws P0 [] ws) (R0 : Stable ws P0 (fun w => Kd.C (Kd.int .i64) w A0 n0 l0)) (hc0 : n0 ≤ c0) (R1 : Stable ws P0 (fun w => Kd.C (Kd.int .i64) w A1 n1 l1)) (hc1 : n1 ≤ c1) (r_1 : Bool) (h : laws_rSame.f l0 l1 = some r_1) :
    Calls Try.prog 15 #[.slice A0 n0 c0, .slice A1 n1 c1] ws (Post1 w0 ws P0 (fun (_ : Unit) => .bool r_1) (fun (_ : Unit) => [])) := by
  unfold laws_rSame.f at h
  obtain rfl := (R0 ws (KeptB.refl _ _)).1
  obtain rfl := (R1 ws (KeptB.refl _ _)).1
  refine enter Try.func15 rfl Try.ntmps15 rfl hF ?_
  refine c_seq ?_
  refine za0 ?_
  refine o_q rfl rfl (q_asg rfl) ?_
  refine o_end ?_
  refine za2 ?_
  refine c_seq ?_
  refine c_seq ?_
  refine za0 ?_
  refine o_q rfl rfl (za3 rfl) ?_
  refine o_q rfl rfl (q_len Try.underlying25 rfl) ?_
  refine o_q rfl rfl (za3 rfl) ?_
  refine o_q rfl rfl (q_len Try.underlying25 rfl) ?_
  refine o_q rfl rfl (q_neq rfl rfl) ?_
  refine o_end ?_
  refine za2 ?_
  refine zat _ rfl (fun hb1 => ?_) (fun hb1 => ?_)
  · skip
    replace h := br_t hb1 h
    refine c_seq ?_
    refine za0 ?_
    refine o_q rfl rfl (q_asg rfl) ?_
    refine o_end ?_
    refine za2 ?_
    refine c_ret ?_
    refine zaf ?_
    have e0_ := Option.some.inj h; clear h
    subst e0_
    exact x_r1 () Try.results15 (zaj rfl) rfl (fun w h => za5 [] (by decide) rfl w h)
  · skip
    replace h := br_f hb1 h
    refine zaq ?_
    refine za2 ?_
    refine c_seq ?_
    refine c_seq ?_
    refine za0 ?_
    refine o_q rfl rfl (za3 rfl) ?_
    refine o_q rfl rfl (q_len Try.underlying25 rfl) ?_
    refine o_q rfl rfl (za3 rfl) ?_
    refine o_end ?_
    refine za2 ?_
    refine zam ?_
    refine za8 h (fun o10 hl9 hR8 => ?_) rfl
    clear h
    refine c_fact (p := l0.length ≤ 9223372036854775807) (fun w h => (R0.now Z h).2.1) (fun hm7 => ?_)
    refine zaw (σ := (List Int) × Int) (fun k5 ((ys4, i2) : (List Int) × Int) => Rg l0 i2 ys4 ∧ ys4.length = k5 ∧ laws_rSame.l0 l1 ys4 i2 = some o10) [4, 5, 13, 14, 15, 16, 17, 18, 19, 20, 21, 22, 23, 24, 25] (fun ((ys4, i2) : (List Int) × Int) => [(13, .int .i64 i2)]) (fun ((ys4, i2) : (List Int) × Int) => []) l0.length (l0, 0) ⟨Rg.start _, rfl, hl9⟩ ⟨rfl, trivial⟩ (fun w h => h) ?_
    refine fun k5 => cur2 (listC (fun i2 U11 hJ_ => ?_) (fun y3 ys4 i2 U11 hJ_ => ?_))
    · skip
      clear hl9
      have hr6 := hJ_.1; have hk12 := hJ_.2.1; have h := hJ_.2.2; clear hJ_
      replace h : laws_rSame.l0 l1 [] i2 = some o10 := h
      rw [laws_rSame.l0] at h
      refine c_seq ?_
      refine za0 ?_
      refine o_q rfl rfl (q_lss rfl rfl) ?_
      refine o_end ?_
      refine za2 ?_
      refine c_seq ?_
      refine c_false (congrArg Value.bool hr6.ge) ?_
      refine c_exit ?_
      refine za6 ?_
      refine za6 ?_
      have e_ := Option.some.inj h; replace h := hR8; rw [← e_] at h; clear e_
      refine x_hit ?_
      refine za2 ?_
      refine c_seq ?_
      refine za0 ?_
      refine o_q rfl rfl (q_asg rfl) ?_
      refine o_end ?_
      refine za2 ?_
      refine c_ret ?_
      have e0_ := Option.some.inj h; clear h
      subst e0_
      exact x_r1 () Try.results15 (zaj rfl) rfl (fun w h => za5 [] (by decide) rfl w h)
    · skip
      clear hl9
      have hr6 := hJ_.1; have hk12 := hJ_.2.1; have h := hJ_.2.2; clear hJ_
      replace h : laws_rSame.l0 l1 (y3 :: ys4) i2 = some o10 := h
      rw [laws_rSame.l0] at h
      refine c_seq ?_
      refine za0 ?_
      refine o_q rfl rfl (q_lss rfl rfl) ?_
      refine o_end ?_
      refine za2 ?_
      refine c_seq ?_
      refine c_true (congrArg Value.bool hr6.lt) ?_
      refine zaq ?_
      refine za2 ?_
      refine c_seq ?_
      refine zam ?_
      refine c_seq ?_
      refine za0 ?_
      refine o_q rfl rfl (za3 rfl) ?_
      refine o_q rfl rfl (q_asg rfl) ?_
      refine o_end ?_
      refine za2 ?_
      refine c_seq ?_
      refine a_start (ds := []) MO rfl ?_
      refine za7 0 rfl rfl rfl (by kernel_rfl) (fun _ _ _ h => h) (za3 rfl) ?_
      refine za7 1 rfl rfl rfl (by kernel_rfl) (fun _ _ _ h => h) (za3 rfl) ?_
      refine a_fact (p := Sh A0 l0.length l0.length) (fun w h => f_sh (dk := (Kd.int .i64)) h (fun w h => R0.now Z h)) (fun hq13 => ?_)
      refine za7 2 rfl rfl rfl (by kernel_rfl) (fun _ _ _ h => h) (q_ix Try.underlying25 Z3 rfl rfl hq13 hr6.get) ?_
      refine zau 3 rfl rfl rfl (by kernel_rfl) (fun _ _ _ h => h) (fun w h => h) (q_lde (off := 0) Y3 rfl rfl (fun w h => R0.now Z h) hr6.get (fun _ _ h => h) rfl) ?_
      refine za7 4 rfl rfl rfl (by kernel_rfl) (fun _ _ _ h => h) (za3 rfl) ?_
      refine za7 5 rfl rfl rfl (by kernel_rfl) (fun _ _ _ h => h) (za3 rfl) ?_
      refine a_fact (p := Sh A1 l1.length l1.length) (fun w h => f_sh (dk := (Kd.int .i64)) h (fun w h => R1.now Z h)) (fun hq14 => ?_)
      refine za8 h (fun y16 hg15 h => ?_) rfl
      refine za7 6 rfl rfl rfl (by kernel_rfl) (fun _ _ _ h => h) (q_ix Try.underlying25 Z3 rfl rfl hq14 hg15) ?_
      refine zau 7 rfl rfl rfl (by kernel_rfl) (fun _ _ _ h => h) (fun w h => h) (q_lde (off := 0) Y3 rfl rfl (fun w h => R1.now Z h) hg15 (fun _ _ h => h) rfl) ?_
      refine za7 8 rfl rfl rfl (by kernel_rfl) (fun _ _ _ h => h) (q_neq rfl rfl) ?_
      refine zav (by kernel_rfl) ?_
      refine za2 ?_
      refine zat _ rfl (fun hb17 => ?_) (fun hb17 => ?_)
      · skip
        replace h := br_t hb17 h
        refine c_seq ?_
        refine za0 ?_
        refine o_q rfl rfl (q_asg rfl) ?_
        refine o_end ?_
        refine za2 ?_
        refine c_ret ?_
        refine zas ?_
        refine zaf ?_
        refine zaf ?_
        have e_ := Option.some.inj h; replace h := hR8; rw [← e_] at h; clear e_
        refine zas ?_
        refine zaf ?_
        have e0_ := Option.some.inj h; clear h
        subst e0_
        exact x_r1 () Try.results15 (zaj rfl) rfl (fun w h => za5 [] (by decide) rfl w h)
      · skip
        replace h := br_f hb17 h
        refine zaq ?_
        refine zal ?_
        refine za2 ?_
        refine za0 ?_
        refine o_q rfl rfl (q_up rfl rfl (hr6.up hm7)) ?_
        refine o_q rfl rfl (za3 rfl) ?_
        refine o_end ?_
        refine zak ys4.length (ys4, i2 + 1) (by rw [← hk12]; exact Nat.lt_succ_self _) ⟨hr6.step, rfl, h⟩ ⟨rfl, trivial⟩ (fun w h => za5 [] (by decide) rfl w h) ?_
        repeat (first | exact zad _ _ | refine zah rfl ?_ | refine zae rfl ?_ | refine zai rfl ?_)

/-! ### loop.example/g01098/impl.FewestRegisters: function 20 -/
def impl_FewestRegisters.f (k : Nat) (a0_0 : Int) (l0_1 : List SStep) (l0_2 : List Int) : Option (Int × Bool) := (impl_orderable.f k a0_0 l0_1 l0_2).bind fun b4 => if b4 = true then ((impl_Plan_best.f k a0_0 l0_1 l0_2).bind fun (l7, i8) => some (i8, true)) else (some (0, false))
set_option maxHeartbeats 600000 in
set_option maxRecDepth 100000 in
theorem impl_FewestRegisters.calls (k : Nat) {w0 ws : World} {P0 : Nat → Prop} (a0_0 : Int) (A0_1 : Option Addr) (c0_1 : Nat) (n0_1 : Nat) (l0_1 : List SStep) (A0_2 : Option Addr) (c0_2 : Nat) (n0_2 : Nat) (l0_2 : List Int) (Z : Below w0.heap.size w0 ws) (hF : Fr w0 ws P0 [] ws) (R0_1 : Stable ws P0 (fun w => Kd.C kStep w A0_1 n0_1 l0_1)) (hc0_1 : n0_1 ≤ c0_1) (R0_2 : Stable ws P0 (fun w => Kd.C (Kd.int .i64) w A0_2 n0_2 l0_2)) (hc0_2 : n0_2 ≤ c0_2) (r_1 : Int) (r_2 : Bool) (h : impl_FewestRegisters.f k a0_0 l0_1 l0_2 = some (r_1, r_2)) :
    Calls Try.prog 20 #[.agg #[.int .i64 a0_0, .slice A0_1 n0_1 c0_1, .slice A0_2 n0_2 c0_2]] ws (Post1 w0 ws P0 (fun (_ : Unit) => .tuple #[.int .i64 r_1, .bool r_2]) (fun (_ : Unit) => [])) := by
  unfold impl_FewestRegisters.f at h
  obtain rfl := (R0_1 ws (KeptB.refl _ _)).1
  obtain rfl := (R0_2 ws (KeptB.refl _ _)).1
  refine enter Try.func20 rfl Try.ntmps20 rfl hF ?_
  refine c_seq ?_
  refine za0 ?_
  refine o_e rfl (e_box rfl) (fun g1 => ?_)
  refine o_q rfl rfl (q_asg rfl) ?_
  refine o_q rfl rfl (q_asg rfl) ?_
  refine o_end ?_
  refine za2 ?_
  refine c_seq ?_
  refine c_seq ?_
  refine za0 ?_
  refine o_q rfl rfl (q_ldB G27 Z27 rfl (fun w h => h.zac (i := 0) rfl) rfl) ?_
  refine za8 h (fun b4 hx3 h => ?_) rfl
  refine o_e rfl (za9 0 Z Try.func57 N57 rfl rfl rfl (fun w P1 hF hB hS hT => impl_orderable.calls k a0_0 A0_1 c0_1 l0_1.length l0_1 A0_2 c0_2 l0_2.length l0_2 hB hF (hS _ R0_1) hc0_1 (hS _ R0_2) hc0_2 _ hx3)) (fun _ => ?_)
  refine o_q rfl rfl (q_not rfl) ?_
  refine o_end ?_
  refine za2 ?_
  refine zat _ rfl (fun hb5 => ?_) (fun hb5 => ?_)
  · replace hb5 := nt_t hb5
    replace h := bb_f hb5 h
    refine c_seq ?_
    refine za0 ?_
    refine o_q rfl rfl (q_asg rfl) ?_
    refine o_q rfl rfl (q_asg rfl) ?_
    refine o_end ?_
    refine za2 ?_
    refine c_ret ?_
    refine zaf ?_
    have e0_ := Option.some.inj h; clear h
    have d0_ := (Prod.mk.inj e0_).1; have e1_ := (Prod.mk.inj e0_).2; clear e0_; subst d0_
    subst e1_
    exact x_r2 () Try.results20 (zaj rfl) (zaj rfl) rfl (fun w h => za5 [] (by decide) rfl w h)
  · replace hb5 := nt_f hb5
    replace h := bb_t hb5 h
    refine zaq ?_
    refine za2 ?_
    refine c_seq ?_
    refine za0 ?_
    refine bindE2 h (fun l7 i8 hx6 h => ?_) rfl
    refine o_e rfl (za9 0 Z Try.func74 N74 rfl rfl rfl (fun w P1 hF hB hS hT => impl_Plan_best.calls k g1 a0_0 A0_1 c0_1 l0_1.length l0_1 A0_2 c0_2 l0_2.length l0_2 hB hF (hS _ R0_1) hc0_1 (hS _ R0_2) hc0_2 (hT 0 _ rfl).box _ _ hx6)) (cur2 (fun A9 c10 => ?_))
    refine o_q rfl rfl (za3 rfl) ?_
    refine o_q rfl rfl (q_ext rfl rfl) ?_
    refine o_q rfl rfl (q_ext rfl rfl) ?_
    refine o_q rfl rfl (q_asg rfl) ?_
    refine o_q rfl rfl (q_asg rfl) ?_
    refine o_end ?_
    refine za2 ?_
    refine c_seq ?_
    refine za0 ?_
    refine o_q rfl rfl (za3 rfl) ?_
    refine o_q rfl rfl (q_asg rfl) ?_
    refine o_q rfl rfl (q_asg rfl) ?_
    refine o_end ?_
    refine za2 ?_
    refine c_ret ?_
    have e0_ := Option.some.inj h; clear h
    have d0_ := (Prod.mk.inj e0_).1; have e1_ := (Prod.mk.inj e0_).2; clear e0_; subst d0_
    subst e1_
    exact x_r2 () Try.results20 (zaj rfl) (zaj rfl) rfl (fun w h => za5 [] (by decide) rfl w h)

/-! ### loop.example/g01098/impl.CountOrders: function 21 -/
def impl_CountOrders.f (k : Nat) (a0_0 : Int) (l0_1 : List SStep) (l0_2 : List Int) : Option (Int × Bool) := (impl_orderable.f k a0_0 l0_1 l0_2).bind fun b4 => if b4 = true then ((impl_Plan_within.f k a0_0 l0_1 l0_2 46).bind fun i7 => some (i7, true)) else (some (0, false))
set_option maxHeartbeats 600000 in
set_option maxRecDepth 100000 in
theorem impl_CountOrders.calls (k : Nat) {w0 ws : World} {P0 : Nat → Prop} (a0_0 : Int) (A0_1 : Option Addr) (c0_1 : Nat) (n0_1 : Nat) (l0_1 : List SStep) (A0_2 : Option Addr) (c0_2 : Nat) (n0_2 : Nat) (l0_2 : List Int) (Z : Below w0.heap.size w0 ws) (hF : Fr w0 ws P0 [] ws) (R0_1 : Stable ws P0 (fun w => Kd.C kStep w A0_1 n0_1 l0_1)) (hc0_1 : n0_1 ≤ c0_1) (R0_2 : Stable ws P0 (fun w => Kd.C (Kd.int .i64) w A0_2 n0_2 l0_2)) (hc0_2 : n0_2 ≤ c0_2) (r_1 : Int) (r_2 : Bool) (h : impl_CountOrders.f k a0_0 l0_1 l0_2 = some (r_1, r_2)) :
    Calls Try.prog 21 #[.agg #[.int .i64 a0_0, .slice A0_1 n0_1 c0_1, .slice A0_2 n0_2 c0_2]] ws (Post1 w0 ws P0 (fun (_ : Unit) => .tuple #[.int .i64 r_1, .bool r_2]) (fun (_ : Unit) => [])) := by
  unfold impl_CountOrders.f at h
  obtain rfl := (R0_1 ws (KeptB.refl _ _)).1
  obtain rfl := (R0_2 ws (KeptB.refl _ _)).1
  refine enter Try.func21 rfl Try.ntmps21 rfl hF ?_
  refine c_seq ?_
  refine za0 ?_
  refine o_e rfl (e_box rfl) (fun g1 => ?_)
  refine o_q rfl rfl (q_asg rfl) ?_
  refine o_q rfl rfl (q_asg rfl) ?_
  refine o_end ?_
  refine za2 ?_
  refine c_seq ?_
  refine c_seq ?_
  refine za0 ?_
  refine o_q rfl rfl (q_ldB G27 Z27 rfl (fun w h => h.zac (i := 0) rfl) rfl) ?_
  refine za8 h (fun b4 hx3 h => ?_) rfl
  refine o_e rfl (za9 0 Z Try.func57 N57 rfl rfl rfl (fun w P1 hF hB hS hT => impl_orderable.calls k a0_0 A0_1 c0_1 l0_1.length l0_1 A0_2 c0_2 l0_2.length l0_2 hB hF (hS _ R0_1) hc0_1 (hS _ R0_2) hc0_2 _ hx3)) (fun _ => ?_)
  refine o_q rfl rfl (q_not rfl) ?_
  refine o_end ?_
  refine za2 ?_
  refine zat _ rfl (fun hb5 => ?_) (fun hb5 => ?_)
  · replace hb5 := nt_t hb5
    replace h := bb_f hb5 h
    refine c_seq ?_
    refine za0 ?_
    refine o_q rfl rfl (q_asg rfl) ?_
    refine o_q rfl rfl (q_asg rfl) ?_
    refine o_end ?_
    refine za2 ?_
    refine c_ret ?_
    refine zaf ?_
    have e0_ := Option.some.inj h; clear h
    have d0_ := (Prod.mk.inj e0_).1; have e1_ := (Prod.mk.inj e0_).2; clear e0_; subst d0_
    subst e1_
    exact x_r2 () Try.results21 (zaj rfl) (zaj rfl) rfl (fun w h => za5 [] (by decide) rfl w h)
  · replace hb5 := nt_f hb5
    replace h := bb_t hb5 h
    refine zaq ?_
    refine za2 ?_
    refine c_seq ?_
    refine za0 ?_
    refine za8 h (fun i7 hx6 h => ?_) rfl
    refine o_e rfl (za9 0 Z Try.func59 N59 rfl rfl rfl (fun w P1 hF hB hS hT => impl_Plan_within.calls k g1 a0_0 A0_1 c0_1 l0_1.length l0_1 A0_2 c0_2 l0_2.length l0_2 46 hB hF (hS _ R0_1) hc0_1 (hS _ R0_2) hc0_2 (hT 0 _ rfl).box _ hx6)) (fun _ => ?_)
    refine o_q rfl rfl (q_asg rfl) ?_
    refine o_q rfl rfl (q_asg rfl) ?_
    refine o_end ?_
    refine za2 ?_
    refine c_ret ?_
    have e0_ := Option.some.inj h; clear h
    have d0_ := (Prod.mk.inj e0_).1; have e1_ := (Prod.mk.inj e0_).2; clear e0_; subst d0_
    subst e1_
    exact x_r2 () Try.results21 (zaj rfl) (zaj rfl) rfl (fun w h => za5 [] (by decide) rfl w h)

/-! ### loop.example/g01098/impl.firsts: function 77 -/
def impl_firsts.l0 : Nat → (List Int) → Int → Option (List Int)
  | 0, l4, i7 => some l4
  | k10 + 1, l4, i7 => (ap l4 ([i7] : List Int)).bind fun l22 => impl_firsts.l0 k10 l22 (i7 + 1)
def impl_firsts.f (a0 : Int) : Option (List Int) := (bd a0).bind fun _ => (impl_firsts.l0 ((a0).toNat) ([] : List Int) 0).bind fun l4 => some l4
set_option maxHeartbeats 600000 in
set_option maxRecDepth 100000 in
theorem impl_firsts.calls {w0 ws : World} {P0 : Nat → Prop} (a0 : Int) (Z : Below w0.heap.size w0 ws) (hF : Fr w0 ws P0 [] ws)  (r_1 : List Int) (h : impl_firsts.f a0 = some r_1) :
    Calls Try.prog 77 #[.int .i64 a0] ws (Post1 w0 ws P0 (fun ((q_2, q_3) : (Option Addr) × Nat) => .slice q_2 r_1.length q_3) (fun ((q_2, q_3) : (Option Addr) × Nat) => [row (Kd.int .i64) 3 (.slice q_2 r_1.length q_3) r_1])) := by
  unfold impl_firsts.f at h
  refine enter Try.func77 rfl Try.ntmps77 rfl hF ?_
  refine c_seq ?_
  refine za0 ?_
  refine o_q rfl rfl (q_asg rfl) ?_
  refine o_end ?_
  refine za2 ?_
  refine c_seq ?_
  refine za0 ?_
  refine o_e rfl (e_lit0 (Kd.int .i64) Try.underlying25 I3) (cur2 (fun A1 c2 => ?_))
  refine o_q rfl rfl (q_asg rfl) ?_
  refine o_end ?_
  refine za2 ?_
  refine c_seq ?_
  refine c_seq ?_
  refine za0 ?_
  refine o_q rfl rfl (za3 rfl) ?_
  refine o_q rfl rfl (za3 rfl) ?_
  refine o_end ?_
  refine za2 ?_
  refine zam ?_
  refine za8 h (fun _ hbd16 h => ?_) rfl
  refine za8 h (fun o15 hl14 hR13 => ?_) rfl
  clear h
  have hm12 : a0 ≤ 9223372036854775807 := bd_le hbd16
  refine zaw (σ := (List Int) × Int × (Option Addr) × Nat) (fun k10 ((l4, i7, A5, c6) : (List Int) × Int × (Option Addr) × Nat) => Cn a0 i7 k10 ∧ impl_firsts.l0 k10 l4 i7 = some o15) [3, 4, 7, 8, 9, 10, 11, 12, 13, 14] (fun ((l4, i7, A5, c6) : (List Int) × Int × (Option Addr) × Nat) => [(3, .slice A5 l4.length c6), (7, .int .i64 i7)]) (fun ((l4, i7, A5, c6) : (List Int) × Int × (Option Addr) × Nat) => [row (Kd.int .i64) 3 (.slice A5 l4.length c6) l4]) (a0).toNat (([] : List Int), 0, A1, c2) ⟨Cn.start hm12, hl14⟩ ⟨rfl, rfl, trivial⟩ (fun w h => h) ?_
  refine natC (cur4 (fun l4 i7 A5 c6 => fun U17 hJ_ => ?_)) (fun k10 => (cur4 (fun l4 i7 A5 c6 => fun U17 hJ_ => ?_)))
  · skip
    clear hl14
    have hr11 := hJ_.1; have h := hJ_.2; clear hJ_
    replace h : impl_firsts.l0 0 l4 i7 = some o15 := h
    rw [impl_firsts.l0] at h
    refine c_seq ?_
    refine za0 ?_
    refine o_q rfl rfl (q_lss rfl rfl) ?_
    refine o_end ?_
    refine za2 ?_
    refine c_seq ?_
    refine c_false (congrArg Value.bool hr11.ge) ?_
    refine c_exit ?_
    refine za6 ?_
    refine za6 ?_
    have e_ := Option.some.inj h; replace h := hR13; rw [← e_] at h; clear e_
    refine x_hit ?_
    refine za2 ?_
    refine c_seq ?_
    refine za0 ?_
    refine o_q rfl rfl (za3 rfl) ?_
    refine o_q rfl rfl (q_asg rfl) ?_
    refine o_end ?_
    refine za2 ?_
    refine c_ret ?_
    have e0_ := Option.some.inj h; clear h
    subst e0_
    exact x_r1 (A5, c6) Try.results77 (zaj rfl) rfl (fun w h => za5 [0] (by decide) rfl w h)
  · skip
    clear hl14
    have hr11 := hJ_.1; have h := hJ_.2; clear hJ_
    replace h : impl_firsts.l0 (k10 + 1) l4 i7 = some o15 := h
    rw [impl_firsts.l0] at h
    refine c_seq ?_
    refine za0 ?_
    refine o_q rfl rfl (q_lss rfl rfl) ?_
    refine o_end ?_
    refine za2 ?_
    refine c_seq ?_
    refine c_true (congrArg Value.bool hr11.lt) ?_
    refine zaq ?_
    refine za2 ?_
    refine c_seq ?_
    refine zam ?_
    refine c_seq ?_
    refine za0 ?_
    refine o_q rfl rfl (za3 rfl) ?_
    refine o_q rfl rfl (q_asg rfl) ?_
    refine o_end ?_
    refine za2 ?_
    refine za0 ?_
    refine o_q rfl rfl (za3 rfl) ?_
    refine o_q rfl rfl (za3 rfl) ?_
    refine o_e rfl (e_lit (vs := [(0, .int .i64 i7)]) (cs := [.int .i64 i7]) (Kd.int .i64) ([i7] : List Int) Try.underlying25 I3 (by decide) rfl (by decide) rfl rfl (fun _ _ => Kd.zao _)) (cur2 (fun A19 c20 => ?_))
    refine za8 h (fun l22 ha23 h => ?_) rfl
    refine o_e rfl (e_app (i := 1) (j := 0) Try.underlying25 I3 rfl (by decide) (by decide) rfl rfl rfl rfl rfl ha23) (cur2 (fun A24 c25 => ?_))
    refine o_q rfl rfl (q_asg rfl) ?_
    refine o_end ?_
    refine zal ?_
    refine za2 ?_
    refine za0 ?_
    refine o_q rfl rfl (q_up rfl rfl hr11.up) ?_
    refine o_q rfl rfl (za3 rfl) ?_
    refine o_end ?_
    refine zak k10 (l22, i7 + 1, A24, c25) (Nat.lt_succ_self _) ⟨hr11.step, h⟩ ⟨rfl, rfl, trivial⟩ (fun w h => za5 [1] (by decide) rfl w h) ?_
    repeat (first | exact zad _ _ | refine zah rfl ?_ | refine zae rfl ?_ | refine zai rfl ?_)

/-! ### slices.Equal[[]int,int]: function 138 -/
def slices_Equal_int_int.l0 (l1 : List Int) : (List Int) → Int → Option ((Bool) ⊕ (Unit))
  | [], i2 => some (.inr ())
  | y3 :: ys4, i2 => (gt l1 i2).bind fun y16 => if y3 ≠ y16 then (some (.inl false)) else (slices_Equal_int_int.l0 l1 ys4 (i2 + 1))
def slices_Equal_int_int.f (l0 : List Int) (l1 : List Int) : Option Bool := if (l0.length : Int) ≠ (l1.length : Int) then (some false) else ((slices_Equal_int_int.l0 l1 l0 0).bind fun o_ => match o_ with | .inl r_ => some r_ | .inr _ => some true)
set_option maxHeartbeats 600000 in
set_option maxRecDepth 100000 in
theorem slices_Equal_int_int.calls {w0 ws : World} {P0 : Nat → Prop} (A0 : Option Addr) (c0 : Nat) (n0 : Nat) (l0 : List Int) (A1 : Option Addr) (c1 : Nat) (n1 : Nat) (l1 : List Int) (Z : Below w0.heap.size w0 ws) (hF : Fr w0 ws P0 [] ws) (R0 : Stable ws P0 (fun w => Kd.C (Kd.int .i64) w A0 n0 l0)) (hc0 : n0 ≤ c0) (R1 : Stable ws P0 (fun w => Kd.C (Kd.int .i64) w A1 n1 l1)) (hc1 : n1 ≤ c1) (r_1 : Bool) (h : slices_Equal_int_int.f l0 l1 = some r_1) :
    Calls Try.prog 138 #[.slice A0 n0 c0, .slice A1 n1 c1] ws (Post1 w0 ws P0 (fun (_ : Unit) => .bool r_1) (fun (_ : Unit) => [])) := by
  unfold slices_Equal_int_int.f at h
  obtain rfl := (R0 ws (KeptB.refl _ _)).1
  obtain rfl := (R1 ws (KeptB.refl _ _)).1
  refine enter Try.func138 rfl Try.ntmps138 rfl hF ?_
  refine c_seq ?_
  refine za0 ?_
  refine o_q rfl rfl (q_asg rfl) ?_
  refine o_end ?_
  refine za2 ?_
  refine c_seq ?_
  refine c_seq ?_
  refine za0 ?_
  refine o_q rfl rfl (za3 rfl) ?_
  refine o_q rfl rfl (q_len Try.underlying25 rfl) ?_
  refine o_q rfl rfl (za3 rfl) ?_
  refine o_q rfl rfl (q_len Try.underlying25 rfl) ?_
  refine o_q rfl rfl (q_neq rfl rfl) ?_
  refine o_end ?_
  refine za2 ?_
  refine zat _ rfl (fun hb1 => ?_) (fun hb1 => ?_)
  · skip
    replace h := br_t hb1 h
    refine c_seq ?_
    refine za0 ?_
    refine o_q rfl rfl (q_asg rfl) ?_
    refine o_end ?_
    refine za2 ?_
    refine c_ret ?_
    refine zaf ?_
    have e0_ := Option.some.inj h; clear h
    subst e0_
    exact x_r1 () Try.results138 (zaj rfl) rfl (fun w h => za5 [] (by decide) rfl w h)
  · skip
    replace h := br_f hb1 h
    refine zaq ?_
    refine za2 ?_
    refine c_seq ?_
    refine c_seq ?_
    refine za0 ?_
    refine o_q rfl rfl (za3 rfl) ?_
    refine o_q rfl rfl (q_len Try.underlying25 rfl) ?_
    refine o_q rfl rfl (za3 rfl) ?_
    refine o_end ?_
    refine za2 ?_
    refine zam ?_
    refine za8 h (fun o10 hl9 hR8 => ?_) rfl
    clear h
    refine c_fact (p := l0.length ≤ 9223372036854775807) (fun w h => (R0.now Z h).2.1) (fun hm7 => ?_)
    refine zaw (σ := (List Int) × Int) (fun k5 ((ys4, i2) : (List Int) × Int) => Rg l0 i2 ys4 ∧ ys4.length = k5 ∧ slices_Equal_int_int.l0 l1 ys4 i2 = some o10) [4, 5, 13, 14, 15, 16, 17, 18, 19, 20, 21, 22, 23, 24, 25] (fun ((ys4, i2) : (List Int) × Int) => [(13, .int .i64 i2)]) (fun ((ys4, i2) : (List Int) × Int) => []) l0.length (l0, 0) ⟨Rg.start _, rfl, hl9⟩ ⟨rfl, trivial⟩ (fun w h => h) ?_
    refine fun k5 => cur2 (listC (fun i2 U11 hJ_ => ?_) (fun y3 ys4 i2 U11 hJ_ => ?_))
    · skip
      clear hl9
      have hr6 := hJ_.1; have hk12 := hJ_.2.1; have h := hJ_.2.2; clear hJ_
      replace h : slices_Equal_int_int.l0 l1 [] i2 = some o10 := h
      rw [slices_Equal_int_int.l0] at h
      refine c_seq ?_
      refine za0 ?_
      refine o_q rfl rfl (q_lss rfl rfl) ?_
      refine o_end ?_
      refine za2 ?_
      refine c_seq ?_
      refine c_false (congrArg Value.bool hr6.ge) ?_
      refine c_exit ?_
      refine za6 ?_
      refine za6 ?_
      have e_ := Option.some.inj h; replace h := hR8; rw [← e_] at h; clear e_
      refine x_hit ?_
      refine za2 ?_
      refine c_seq ?_
      refine za0 ?_
      refine o_q rfl rfl (q_asg rfl) ?_
      refine o_end ?_
      refine za2 ?_
      refine c_ret ?_
      have e0_ := Option.some.inj h; clear h
      subst e0_
      exact x_r1 () Try.results138 (zaj rfl) rfl (fun w h => za5 [] (by decide) rfl w h)
    · skip
      clear hl9
      have hr6 := hJ_.1; have hk12 := hJ_.2.1; have h := hJ_.2.2; clear hJ_
      replace h : slices_Equal_int_int.l0 l1 (y3 :: ys4) i2 = some o10 := h
      rw [slices_Equal_int_int.l0] at h
      refine c_seq ?_
      refine za0 ?_
      refine o_q rfl rfl (q_lss rfl rfl) ?_
      refine o_end ?_
      refine za2 ?_
      refine c_seq ?_
      refine c_true (congrArg Value.bool hr6.lt) ?_
      refine zaq ?_
      refine za2 ?_
      refine c_seq ?_
      refine zam ?_
      refine c_seq ?_
      refine za0 ?_
      refine o_q rfl rfl (za3 rfl) ?_
      refine o_q rfl rfl (q_asg rfl) ?_
      refine o_end ?_
      refine za2 ?_
      refine c_seq ?_
      refine a_start (ds := []) MO rfl ?_
      refine za7 0 rfl rfl rfl (by kernel_rfl) (fun _ _ _ h => h) (za3 rfl) ?_
      refine za7 1 rfl rfl rfl (by kernel_rfl) (fun _ _ _ h => h) (za3 rfl) ?_
      refine a_fact (p := Sh A0 l0.length l0.length) (fun w h => f_sh (dk := (Kd.int .i64)) h (fun w h => R0.now Z h)) (fun hq13 => ?_)
      refine za7 2 rfl rfl rfl (by kernel_rfl) (fun _ _ _ h => h) (q_ix Try.underlying25 Z3 rfl rfl hq13 hr6.get) ?_
      refine zau 3 rfl rfl rfl (by kernel_rfl) (fun _ _ _ h => h) (fun w h => h) (q_lde (off := 0) Y3 rfl rfl (fun w h => R0.now Z h) hr6.get (fun _ _ h => h) rfl) ?_
      refine za7 4 rfl rfl rfl (by kernel_rfl) (fun _ _ _ h => h) (za3 rfl) ?_
      refine za7 5 rfl rfl rfl (by kernel_rfl) (fun _ _ _ h => h) (za3 rfl) ?_
      refine a_fact (p := Sh A1 l1.length l1.length) (fun w h => f_sh (dk := (Kd.int .i64)) h (fun w h => R1.now Z h)) (fun hq14 => ?_)
      refine za8 h (fun y16 hg15 h => ?_) rfl
      refine za7 6 rfl rfl rfl (by kernel_rfl) (fun _ _ _ h => h) (q_ix Try.underlying25 Z3 rfl rfl hq14 hg15) ?_
      refine zau 7 rfl rfl rfl (by kernel_rfl) (fun _ _ _ h => h) (fun w h => h) (q_lde (off := 0) Y3 rfl rfl (fun w h => R1.now Z h) hg15 (fun _ _ h => h) rfl) ?_
      refine za7 8 rfl rfl rfl (by kernel_rfl) (fun _ _ _ h => h) (q_neq rfl rfl) ?_
      refine zav (by kernel_rfl) ?_
      refine za2 ?_
      refine zat _ rfl (fun hb17 => ?_) (fun hb17 => ?_)
      · skip
        replace h := br_t hb17 h
        refine c_seq ?_
        refine za0 ?_
        refine o_q rfl rfl (q_asg rfl) ?_
        refine o_end ?_
        refine za2 ?_
        refine c_ret ?_
        refine zas ?_
        refine zaf ?_
        refine zaf ?_
        have e_ := Option.some.inj h; replace h := hR8; rw [← e_] at h; clear e_
        refine zas ?_
        refine zaf ?_
        have e0_ := Option.some.inj h; clear h
        subst e0_
        exact x_r1 () Try.results138 (zaj rfl) rfl (fun w h => za5 [] (by decide) rfl w h)
      · skip
        replace h := br_f hb17 h
        refine zaq ?_
        refine zal ?_
        refine za2 ?_
        refine za0 ?_
        refine o_q rfl rfl (q_up rfl rfl (hr6.up hm7)) ?_
        refine o_q rfl rfl (za3 rfl) ?_
        refine o_end ?_
        refine zak ys4.length (ys4, i2 + 1) (by rw [← hk12]; exact Nat.lt_succ_self _) ⟨hr6.step, rfl, h⟩ ⟨rfl, trivial⟩ (fun w h => za5 [] (by decide) rfl w h) ?_
        repeat (first | exact zad _ _ | refine zah rfl ?_ | refine zae rfl ?_ | refine zai rfl ?_)

/-! ### isOrder, by hand: the sorted list is the first numbers -/
def impl_isOrder.f (l0 : List Int) (a1 : Int) : Option Bool := if l0.length ≤ 100000000 then (impl_firsts.f a1).bind fun l2 => (slices_Equal_int_int.f (l0.mergeSort fun x y => decide (x ≤ y)) l2).bind fun b6 => some b6 else none
set_option maxHeartbeats 600000 in
set_option maxRecDepth 100000 in
theorem impl_isOrder.calls {w0 ws : World} {P0 : Nat → Prop} (A0 : Option Addr) (c0 : Nat) (n0 : Nat) (l0 : List Int) (a1 : Int) (Z : Below w0.heap.size w0 ws) (hF : Fr w0 ws P0 [] ws) (R0 : Stable ws P0 (fun w => Kd.C (Kd.int .i64) w A0 n0 l0)) (hc0 : n0 ≤ c0) (r_1 : Bool) (h : impl_isOrder.f l0 a1 = some r_1) :
    Calls Try.prog 76 #[.slice A0 n0 c0, .int .i64 a1] ws (Post1 w0 ws P0 (fun (_ : Unit) => .bool r_1) (fun (_ : Unit) => [])) := by
  unfold impl_isOrder.f at h
  obtain rfl := (R0 ws (KeptB.refl _ _)).1
  split at h
  rotate_left
  · cases h
  next hz =>
  refine enter Try.func76 rfl Try.ntmps76 rfl hF ?_
  refine c_seq ?_
  refine za0 ?_
  refine o_q rfl rfl (q_asg rfl) ?_
  refine o_end ?_
  refine za2 ?_
  refine c_seq ?_
  refine za0 ?_
  refine o_q rfl rfl (za3 rfl) ?_
  refine o_e rfl (za9 0 Z Try.func140 N140 rfl rfl rfl (fun w P1 hF hB hS hT => Srt.vlc.calls A0 l0.length c0 hF)) (fun Bs => ?_)
  refine o_e rfl (za9 0 Z Try.func139 N139 rfl rfl rfl (fun w P1 hF hB hS hT => Srt.sorted.calls Bs A0 c0 l0 hB hF (hS _ R0) (hT 0 _ rfl).box hz)) (cur2 (fun A8 c9 => ?_))
  refine o_q rfl rfl (za3 rfl) ?_
  refine za8 h (fun l2 hx1 h => ?_) rfl
  refine o_e rfl (za9 0 Z Try.func77 N77 rfl rfl rfl (fun w P1 hF hB hS hT => impl_firsts.calls a1 hB hF _ hx1)) (cur2 (fun A3 c4 => ?_))
  refine za8 h (fun b6 hx5 h => ?_) rfl
  refine o_e rfl (za9 0 Z Try.func138 N138 rfl rfl rfl (fun w P1 hF hB hS hT => slices_Equal_int_int.calls A8 c9 l0.length (l0.mergeSort fun x y => decide (x ≤ y)) A3 c4 l2.length l2 hB hF (hT 1 _ rfl).row (hT 1 _ rfl).cap (hT 0 _ rfl).row (hT 0 _ rfl).cap _ hx5)) (fun _ => ?_)
  refine o_q rfl rfl (q_asg rfl) ?_
  refine o_end ?_
  refine za2 ?_
  refine c_ret ?_
  have e0_ := Option.some.inj h; clear h
  subst e0_
  exact x_r1 () Try.results76 (zaj rfl) rfl (fun w h => za5 [] (by decide) rfl w h)

/-! ### loop.example/g01098/impl.renamed: function 78 -/
def impl_renamed.l0 (l1 : List Int) : (List Int) → (List Int) → Int → Option (List Int)
  | [], l5, i8 => some l5
  | y9 :: ys10, l5, i8 => (gt l1 y9).bind fun y22 => (ap l5 ([y22] : List Int)).bind fun l26 => impl_renamed.l0 l1 ys10 l26 (i8 + 1)
def impl_renamed.f (l0 : List Int) (l1 : List Int) : Option (List Int) := (impl_renamed.l0 l1 l0 ([] : List Int) 0).bind fun l5 => some l5
set_option maxHeartbeats 600000 in
set_option maxRecDepth 100000 in
theorem impl_renamed.calls {w0 ws : World} {P0 : Nat → Prop} (A0 : Option Addr) (c0 : Nat) (n0 : Nat) (l0 : List Int) (A1 : Option Addr) (c1 : Nat) (n1 : Nat) (l1 : List Int) (Z : Below w0.heap.size w0 ws) (hF : Fr w0 ws P0 [] ws) (R0 : Stable ws P0 (fun w => Kd.C (Kd.int .i64) w A0 n0 l0)) (hc0 : n0 ≤ c0) (R1 : Stable ws P0 (fun w => Kd.C (Kd.int .i64) w A1 n1 l1)) (hc1 : n1 ≤ c1) (r_1 : List Int) (h : impl_renamed.f l0 l1 = some r_1) :
    Calls Try.prog 78 #[.slice A0 n0 c0, .slice A1 n1 c1] ws (Post1 w0 ws P0 (fun ((q_2, q_3) : (Option Addr) × Nat) => .slice q_2 r_1.length q_3) (fun ((q_2, q_3) : (Option Addr) × Nat) => [row (Kd.int .i64) 3 (.slice q_2 r_1.length q_3) r_1])) := by
  unfold impl_renamed.f at h
  obtain rfl := (R0 ws (KeptB.refl _ _)).1
  obtain rfl := (R1 ws (KeptB.refl _ _)).1
  refine enter Try.func78 rfl Try.ntmps78 rfl hF ?_
  refine c_seq ?_
  refine za0 ?_
  refine o_q rfl rfl (q_asg rfl) ?_
  refine o_end ?_
  refine za2 ?_
  refine c_seq ?_
  refine za0 ?_
  refine o_e rfl (e_lit0 (Kd.int .i64) Try.underlying25 I3) (cur2 (fun A2 c3 => ?_))
  refine o_q rfl rfl (q_asg rfl) ?_
  refine o_end ?_
  refine za2 ?_
  refine c_seq ?_
  refine c_seq ?_
  refine za0 ?_
  refine o_q rfl rfl (za3 rfl) ?_
  refine o_q rfl rfl (q_len Try.underlying25 rfl) ?_
  refine o_q rfl rfl (za3 rfl) ?_
  refine o_end ?_
  refine za2 ?_
  refine zam ?_
  refine za8 h (fun o16 hl15 hR14 => ?_) rfl
  clear h
  refine c_fact (p := l0.length ≤ 9223372036854775807) (fun w h => (R0.now Z h).2.1) (fun hm13 => ?_)
  refine zaw (σ := (List Int) × (List Int) × Int × (Option Addr) × Nat) (fun k11 ((ys10, l5, i8, A6, c7) : (List Int) × (List Int) × Int × (Option Addr) × Nat) => Rg l0 i8 ys10 ∧ ys10.length = k11 ∧ impl_renamed.l0 l1 ys10 l5 i8 = some o16) [5, 7, 11, 12, 13, 14, 15, 16, 17, 18, 19, 20, 21, 22] (fun ((ys10, l5, i8, A6, c7) : (List Int) × (List Int) × Int × (Option Addr) × Nat) => [(5, .slice A6 l5.length c7), (11, .int .i64 i8)]) (fun ((ys10, l5, i8, A6, c7) : (List Int) × (List Int) × Int × (Option Addr) × Nat) => [row (Kd.int .i64) 3 (.slice A6 l5.length c7) l5]) l0.length (l0, ([] : List Int), 0, A2, c3) ⟨Rg.start _, rfl, hl15⟩ ⟨rfl, rfl, trivial⟩ (fun w h => h) ?_
  refine fun k11 => cur5 (listC (fun l5 i8 A6 c7 U17 hJ_ => ?_) (fun y9 ys10 l5 i8 A6 c7 U17 hJ_ => ?_))
  · skip
    clear hl15
    have hr12 := hJ_.1; have hk18 := hJ_.2.1; have h := hJ_.2.2; clear hJ_
    replace h : impl_renamed.l0 l1 [] l5 i8 = some o16 := h
    rw [impl_renamed.l0] at h
    refine c_seq ?_
    refine za0 ?_
    refine o_q rfl rfl (q_lss rfl rfl) ?_
    refine o_end ?_
    refine za2 ?_
    refine c_seq ?_
    refine c_false (congrArg Value.bool hr12.ge) ?_
    refine c_exit ?_
    refine za6 ?_
    refine za6 ?_
    have e_ := Option.some.inj h; replace h := hR14; rw [← e_] at h; clear e_
    refine x_hit ?_
    refine za2 ?_
    refine c_seq ?_
    refine za0 ?_
    refine o_q rfl rfl (za3 rfl) ?_
    refine o_q rfl rfl (q_asg rfl) ?_
    refine o_end ?_
    refine za2 ?_
    refine c_ret ?_
    have e0_ := Option.some.inj h; clear h
    subst e0_
    exact x_r1 (A6, c7) Try.results78 (zaj rfl) rfl (fun w h => za5 [0] (by decide) rfl w h)
  · skip
    clear hl15
    have hr12 := hJ_.1; have hk18 := hJ_.2.1; have h := hJ_.2.2; clear hJ_
    replace h : impl_renamed.l0 l1 (y9 :: ys10) l5 i8 = some o16 := h
    rw [impl_renamed.l0] at h
    refine c_seq ?_
    refine za0 ?_
    refine o_q rfl rfl (q_lss rfl rfl) ?_
    refine o_end ?_
    refine za2 ?_
    refine c_seq ?_
    refine c_true (congrArg Value.bool hr12.lt) ?_
    refine zaq ?_
    refine za2 ?_
    refine c_seq ?_
    refine zam ?_
    refine c_seq ?_
    refine za0 ?_
    refine o_fact (p := Sh A0 l0.length l0.length) (fun w h => f_sh (dk := (Kd.int .i64)) h (fun w h => R0.now Z h)) (fun hq19 => ?_)
    refine o_q rfl rfl (q_ix Try.underlying25 Z3 rfl rfl hq19 hr12.get) ?_
    refine o_q rfl rfl (q_lde (off := 0) Y3 rfl rfl (fun w h => R0.now Z h) hr12.get (fun _ _ h => h) rfl) ?_
    refine o_q rfl rfl (q_asg rfl) ?_
    refine o_end ?_
    refine za2 ?_
    refine za0 ?_
    refine o_q rfl rfl (za3 rfl) ?_
    refine o_q rfl rfl (za3 rfl) ?_
    refine o_q rfl rfl (za3 rfl) ?_
    refine o_fact (p := Sh A1 l1.length l1.length) (fun w h => f_sh (dk := (Kd.int .i64)) h (fun w h => R1.now Z h)) (fun hq20 => ?_)
    refine za8 h (fun y22 hg21 h => ?_) rfl
    refine o_q rfl rfl (q_ix Try.underlying25 Z3 rfl rfl hq20 hg21) ?_
    refine o_q rfl rfl (q_lde (off := 0) Y3 rfl rfl (fun w h => R1.now Z h) hg21 (fun _ _ h => h) rfl) ?_
    refine o_e rfl (e_lit (vs := [(0, .int .i64 y22)]) (cs := [.int .i64 y22]) (Kd.int .i64) ([y22] : List Int) Try.underlying25 I3 (by decide) rfl (by decide) rfl rfl (fun _ _ => Kd.zao _)) (cur2 (fun A23 c24 => ?_))
    refine za8 h (fun l26 ha27 h => ?_) rfl
    refine o_e rfl (e_app (i := 1) (j := 0) Try.underlying25 I3 rfl (by decide) (by decide) rfl rfl rfl rfl rfl ha27) (cur2 (fun A28 c29 => ?_))
    refine o_q rfl rfl (q_asg rfl) ?_
    refine o_end ?_
    refine zal ?_
    refine za2 ?_
    refine za0 ?_
    refine o_q rfl rfl (q_up rfl rfl (hr12.up hm13)) ?_
    refine o_q rfl rfl (za3 rfl) ?_
    refine o_end ?_
    refine zak ys10.length (ys10, l26, i8 + 1, A28, c29) (by rw [← hk18]; exact Nat.lt_succ_self _) ⟨hr12.step, rfl, h⟩ ⟨rfl, rfl, trivial⟩ (fun w h => za5 [1] (by decide) rfl w h) ?_
    repeat (first | exact zad _ _ | refine zah rfl ?_ | refine zae rfl ?_ | refine zai rfl ?_)

/-! ### loop.example/g01098/impl.step: function 79 -/
def impl_step.f (a0 : Int) (a1 : Int) : Option Unit := some ()
set_option maxHeartbeats 600000 in
set_option maxRecDepth 100000 in
theorem impl_step.calls {w0 ws : World} {P0 : Nat → Prop} (a0 : Int) (a1 : Int) (Z : Below w0.heap.size w0 ws) (hF : Fr w0 ws P0 [] ws)   (h : impl_step.f a0 a1 = some ()) :
    Calls Try.prog 79 #[.int .i64 a0, .int .i64 a1] ws (Post1 w0 ws P0 (fun (_ : Unit) => .agg #[.int .i64 (mn a0 a1), .int .i64 (mx a0 a1)]) (fun (_ : Unit) => [])) := by
  unfold impl_step.f at h
  refine enter Try.func79 rfl Try.ntmps79 rfl hF ?_
  refine c_seq ?_
  refine za0 ?_
  refine o_e rfl (e_alloc V88 rfl) (fun g1 => ?_)
  refine o_end ?_
  refine za2 ?_
  refine c_seq ?_
  refine za0 ?_
  refine o_q rfl rfl (za3 rfl) ?_
  refine o_q rfl rfl (za3 rfl) ?_
  refine o_q rfl rfl (q_min rfl rfl) ?_
  refine o_q rfl rfl (za3 rfl) ?_
  refine o_q rfl rfl (za3 rfl) ?_
  refine o_q rfl rfl (q_max rfl rfl) ?_
  refine o_q rfl rfl (q_build (vs := [(0, .int .i64 (mn a0 a1)), (1, .int .i64 (mx a0 a1))]) (cs := [.int .i64 (mn a0 a1), .int .i64 (mx a0 a1)]) rfl rfl) ?_
  refine o_e rfl (zaz (i := 0) rfl rfl rfl Z88 rfl rfl) (fun _ => ?_)
  refine o_end ?_
  refine za2 ?_
  refine c_ret ?_
  exact x_r1 () Try.results79 (rv_cell rfl G88 Z88 (fun w h => h.zac (i := 0) rfl) rfl) rfl (fun w h => za5 [] (by decide) rfl w h)

/-! ### loop.example/g01098/impl.told: function 80 -/
def impl_told.f (k : Nat) (a0_0 : Int) (l0_1 : List SStep) (l0_2 : List Int) : Option (Int × (List SStep) × (List Int) × Bool) := (impl_IsPlan.f k a0_0 l0_1 l0_2).bind fun b6 => if b6 = true then (some (a0_0, l0_1, l0_2, true)) else (some (0, ([] : List SStep), ([] : List Int), false))
set_option maxHeartbeats 600000 in
set_option maxRecDepth 100000 in
theorem impl_told.calls (k : Nat) {w0 ws : World} {P0 : Nat → Prop} (a0_0 : Int) (A0_1 : Option Addr) (c0_1 : Nat) (n0_1 : Nat) (l0_1 : List SStep) (A0_2 : Option Addr) (c0_2 : Nat) (n0_2 : Nat) (l0_2 : List Int) (Z : Below w0.heap.size w0 ws) (hF : Fr w0 ws P0 [row kStep 88 (.slice A0_1 n0_1 c0_1) l0_1, row (Kd.int .i64) 3 (.slice A0_2 n0_2 c0_2) l0_2] ws)  (r_1 : Int) (r_2 : List SStep) (r_5 : List Int) (r_8 : Bool) (h : impl_told.f k a0_0 l0_1 l0_2 = some (r_1, r_2, r_5, r_8)) :
    Calls Try.prog 80 #[.agg #[.int .i64 a0_0, .slice A0_1 n0_1 c0_1, .slice A0_2 n0_2 c0_2]] ws (Post1 w0 ws P0 (fun ((q_3, q_4, q_6, q_7) : (Option Addr) × Nat × (Option Addr) × Nat) => .tuple #[.agg #[.int .i64 r_1, .slice q_3 r_2.length q_4, .slice q_6 r_5.length q_7], .bool r_8]) (fun ((q_3, q_4, q_6, q_7) : (Option Addr) × Nat × (Option Addr) × Nat) => [row kStep 88 (.slice q_3 r_2.length q_4) r_2, row (Kd.int .i64) 3 (.slice q_6 r_5.length q_7) r_5])) := by
  unfold impl_told.f at h
  obtain rfl := (hF.row_C (i := 0) rfl).2.1
  obtain rfl := (hF.row_C (i := 1) rfl).2.1
  refine enter Try.func80 rfl Try.ntmps80 rfl hF ?_
  refine c_seq ?_
  refine za0 ?_
  refine o_e rfl (e_box rfl) (fun g1 => ?_)
  refine o_e rfl (e_alloc V27 rfl) (fun g3 => ?_)
  refine o_q rfl rfl (q_asg rfl) ?_
  refine o_end ?_
  refine za2 ?_
  refine c_seq ?_
  refine c_seq ?_
  refine za0 ?_
  refine o_q rfl rfl (q_ldB G27 Z27 rfl (fun w h => h.zac (i := 1) rfl) rfl) ?_
  refine za8 h (fun b6 hx5 h => ?_) rfl
  refine o_e rfl (za9 0 Z Try.func67 N67 rfl rfl rfl (fun w P1 hF hB hS hT => impl_IsPlan.calls k a0_0 A0_1 c0_1 l0_1.length l0_1 A0_2 c0_2 l0_2.length l0_2 hB hF (hT 2 _ rfl).row (hT 2 _ rfl).cap (hT 3 _ rfl).row (hT 3 _ rfl).cap _ hx5)) (fun _ => ?_)
  refine o_q rfl rfl (q_not rfl) ?_
  refine o_end ?_
  refine za2 ?_
  refine zat _ rfl (fun hb7 => ?_) (fun hb7 => ?_)
  · replace hb7 := nt_t hb7
    replace h := bb_f hb7 h
    refine c_seq ?_
    refine za0 ?_
    refine o_q rfl rfl (q_build (vs := []) (cs := [.int .i64 0, .slice none 0 0, .slice none 0 0]) rfl rfl) ?_
    refine o_e rfl (zaz (i := 0) rfl rfl rfl Z27 rfl rfl) (fun _ => ?_)
    refine o_q rfl rfl (q_asg rfl) ?_
    refine o_end ?_
    refine za2 ?_
    refine c_ret ?_
    refine zaf ?_
    refine x_nil kStep 88 ?_
    refine x_nil (Kd.int .i64) 3 ?_
    have e0_ := Option.some.inj h; clear h
    have d0_ := (Prod.mk.inj e0_).1; have e1_ := (Prod.mk.inj e0_).2; clear e0_; subst d0_
    have d1_ := (Prod.mk.inj e1_).1; have e2_ := (Prod.mk.inj e1_).2; clear e1_; subst d1_
    have d2_ := (Prod.mk.inj e2_).1; have e3_ := (Prod.mk.inj e2_).2; clear e2_; subst d2_
    subst e3_
    exact x_r2 (none, 0, none, 0) Try.results80 (rv_cell rfl G27 Z27 (fun w h => h.zac (i := 2) rfl) rfl) (zaj rfl) rfl (fun w h => za5 [1, 0] (by decide) rfl w h)
  · replace hb7 := nt_f hb7
    replace h := bb_t hb7 h
    refine zaq ?_
    refine za2 ?_
    refine c_seq ?_
    refine za0 ?_
    refine o_q rfl rfl (q_ldB G27 Z27 rfl (fun w h => h.zac (i := 1) rfl) rfl) ?_
    refine o_e rfl (zaz (i := 0) rfl rfl rfl Z27 rfl rfl) (fun _ => ?_)
    refine o_q rfl rfl (q_asg rfl) ?_
    refine o_end ?_
    refine za2 ?_
    refine c_ret ?_
    have e0_ := Option.some.inj h; clear h
    have d0_ := (Prod.mk.inj e0_).1; have e1_ := (Prod.mk.inj e0_).2; clear e0_; subst d0_
    have d1_ := (Prod.mk.inj e1_).1; have e2_ := (Prod.mk.inj e1_).2; clear e1_; subst d1_
    have d2_ := (Prod.mk.inj e2_).1; have e3_ := (Prod.mk.inj e2_).2; clear e2_; subst d2_
    subst e3_
    exact x_r2 (A0_1, c0_1, A0_2, c0_2) Try.results80 (rv_cell rfl G27 Z27 (fun w h => h.zac (i := 0) rfl) rfl) (zaj rfl) rfl (fun w h => za5 [2, 3] (by decide) rfl w h)

/-! ### loop.example/g01098/impl.ReorderSteps: function 22 -/
def impl_ReorderSteps.l1 (l0_1 : List SStep) (l30 : List Int) : (List Int) → (List SStep) → Int → Option (List SStep)
  | [], l1254, i1257 => some l1254
  | y1258 :: ys1259, l1254, i1257 => (gt l0_1 y1258).bind fun y1641 => (gt l30 y1641.f0).bind fun y1821 => (gt l0_1 y1258).bind fun y2180 => (gt l30 y2180.f1).bind fun y2360 => (impl_step.f y1821 y2360).bind fun _ => (ap l1254 ([(⟨mn y1821 y2360, mx y1821 y2360⟩ : SStep)] : List SStep)).bind fun l2599 => impl_ReorderSteps.l1 l0_1 l30 ys1259 l2599 (i1257 + 1)
def impl_ReorderSteps.l0 (a0_0 : Int) : (List Int) → (List Int) → Int → Option (List Int)
  | [], l30, i31 => some l30
  | y32 :: ys33, l30, i31 => (gt l30 (w64 (a0_0 + y32))).bind fun y2842 => (st l30 (w64 (a0_0 + y32)) (w64 (a0_0 + i31))).bind fun l2843 => impl_ReorderSteps.l0 a0_0 ys33 l2843 (i31 + 1)
def impl_ReorderSteps.f (k : Nat) (a0_0 : Int) (l0_1 : List SStep) (l0_2 : List Int) (l1 : List Int) : Option (Int × (List SStep) × (List Int) × Bool) := ((impl_IsPlan.f k a0_0 l0_1 l0_2).bind fun b17 => if b17 = true then ((impl_isOrder.f l1 (l0_1.length : Int)).bind fun b20 => some (!b20)) else (some true)).bind fun b10 => if b10 = true then (some (0, ([] : List SStep), ([] : List Int), false)) else ((impl_firsts.f a0_0).bind fun l23 => (apm l23 (l0_1.length : Int)).bind fun l26 => (impl_ReorderSteps.l0 a0_0 l1 l26 0).bind fun l30 => ((impl_renamed.f l0_2 l30).bind fun l954 => some l954).bind fun l644 => (impl_ReorderSteps.l1 l0_1 l30 l1 ([] : List SStep) 0).bind fun l1254 => (impl_told.f k a0_0 l1254 l644).bind fun (i1269, l1270, l1271, b1272) => some (i1269, l1270, l1271, b1272))
set_option maxHeartbeats 600000 in
set_option maxRecDepth 100000 in
theorem impl_ReorderSteps.calls (k : Nat) {w0 ws : World} {P0 : Nat → Prop} (a0_0 : Int) (A0_1 : Option Addr) (c0_1 : Nat) (n0_1 : Nat) (l0_1 : List SStep) (A0_2 : Option Addr) (c0_2 : Nat) (n0_2 : Nat) (l0_2 : List Int) (A1 : Option Addr) (c1 : Nat) (n1 : Nat) (l1 : List Int) (Z : Below w0.heap.size w0 ws) (hF : Fr w0 ws P0 [] ws) (R0_1 : Stable ws P0 (fun w => Kd.C kStep w A0_1 n0_1 l0_1)) (hc0_1 : n0_1 ≤ c0_1) (R0_2 : Stable ws P0 (fun w => Kd.C (Kd.int .i64) w A0_2 n0_2 l0_2)) (hc0_2 : n0_2 ≤ c0_2) (R1 : Stable ws P0 (fun w => Kd.C (Kd.int .i64) w A1 n1 l1)) (hc1 : n1 ≤ c1) (r_1 : Int) (r_2 : List SStep) (r_5 : List Int) (r_8 : Bool) (h : impl_ReorderSteps.f k a0_0 l0_1 l0_2 l1 = some (r_1, r_2, r_5, r_8)) :
    Calls Try.prog 22 #[.agg #[.int .i64 a0_0, .slice A0_1 n0_1 c0_1, .slice A0_2 n0_2 c0_2], .slice A1 n1 c1] ws (Post1 w0 ws P0 (fun ((q_3, q_4, q_6, q_7) : (Option Addr) × Nat × (Option Addr) × Nat) => .tuple #[.agg #[.int .i64 r_1, .slice q_3 r_2.length q_4, .slice q_6 r_5.length q_7], .bool r_8]) (fun ((q_3, q_4, q_6, q_7) : (Option Addr) × Nat × (Option Addr) × Nat) => [row kStep 88 (.slice q_3 r_2.length q_4) r_2, row (Kd.int .i64) 3 (.slice q_6 r_5.length q_7) r_5])) := by
  unfold impl_ReorderSteps.f at h
  obtain rfl := (R0_1 ws (KeptB.refl _ _)).1
  obtain rfl := (R0_2 ws (KeptB.refl _ _)).1
  obtain rfl := (R1 ws (KeptB.refl _ _)).1
  refine enter Try.func22 rfl Try.ntmps22 rfl hF ?_
  refine c_seq ?_
  refine za0 ?_
  refine o_e rfl (e_box rfl) (fun g1 => ?_)
  refine o_e rfl (e_alloc V27 rfl) (fun g3 => ?_)
  refine o_q rfl rfl (q_asg rfl) ?_
  refine o_end ?_
  refine za2 ?_
  refine c_seq ?_
  refine za8 h (fun o11 hl12 hR13 => ?_) rfl
  clear h
  refine c_cutJ (σ := Bool) (fun b10 => some b10 = some o11) [12, 13, 14, 15, 16, 17, 18, 19, 20, 21, 22] (fun b10 => [(22, .bool b10)]) (fun b10 => [box g1 27 #[.int .i64 a0_0, .slice A0_1 l0_1.length c0_1, .slice A0_2 l0_2.length c0_2], box g3 27 #[.int .i64 0, .slice none 0 0, .slice none 0 0]]) ?_ ?_
  · skip
    have h := hl12; clear hl12
    clear hR13
    refine za0 ?_
    refine o_q rfl rfl (q_ldB G27 Z27 rfl (fun w h => h.zac (i := 1) rfl) rfl) ?_
    refine za8 h (fun b17 hx16 h => ?_) rfl
    refine o_e rfl (za9 0 Z Try.func67 N67 rfl rfl rfl (fun w P1 hF hB hS hT => impl_IsPlan.calls k a0_0 A0_1 c0_1 l0_1.length l0_1 A0_2 c0_2 l0_2.length l0_2 hB hF (hS _ R0_1) hc0_1 (hS _ R0_2) hc0_2 _ hx16)) (fun _ => ?_)
    refine o_q rfl rfl (q_not rfl) ?_
    refine o_q rfl rfl (za3 rfl) ?_
    refine byB b17 (fun hb18 => ?_) (fun hb18 => ?_)
    · replace h := bb_t hb18 h
      refine o_w (za4 rfl rfl rfl (congrArg (fun b => Value.bool (!(b))) hb18)) rfl (za3 rfl) ?_
      refine o_w (za4 rfl rfl rfl (congrArg (fun b => Value.bool (!(b))) hb18)) rfl (q_f F27_1 rfl) ?_
      refine o_w (za4 rfl rfl rfl (congrArg (fun b => Value.bool (!(b))) hb18)) rfl (q_ldb Y24 rfl (fun w h => h.zac (i := 1) rfl) rfl) ?_
      refine o_w (za4 rfl rfl rfl (congrArg (fun b => Value.bool (!(b))) hb18)) rfl (q_len Try.underlying24 rfl) ?_
      refine za8 h (fun b20 hx19 h => ?_) rfl
      refine o_ew (za4 rfl rfl rfl (congrArg (fun b => Value.bool (!(b))) hb18)) (za9 0 Z Try.func76 N76 rfl rfl rfl (fun w P1 hF hB hS hT => impl_isOrder.calls A1 c1 l1.length l1 (l0_1.length : Int) hB hF (hS _ R1) hc1 _ hx19)) (fun _ => ?_)
      refine o_w (za4 rfl rfl rfl (congrArg (fun b => Value.bool (!(b))) hb18)) rfl (q_not rfl) ?_
      refine o_q rfl rfl (zaa false (congrArg (fun b => Value.bool (!(b))) hb18) rfl) ?_
      refine o_end ?_
      refine x_meetJ (!b20) h ⟨rfl, trivial⟩ (fun w h => za5 [1, 0] (by decide) rfl w h) ?_
      repeat (first | exact zad _ _ | refine zah rfl ?_ | refine zae rfl ?_ | refine zai rfl ?_)
    · replace h := bb_f hb18 h
      refine @o_n _ _ _ _ _ _ _ _ _ _ _ 16 (za1 rfl rfl rfl (congrArg (fun b => Value.bool (!(b))) hb18) rfl) (Eq.refl (some 16)) ?_
      refine @o_n _ _ _ _ _ _ _ _ _ _ _ 17 (za1 rfl rfl rfl (congrArg (fun b => Value.bool (!(b))) hb18) rfl) (Eq.refl (some 17)) ?_
      refine @o_n _ _ _ _ _ _ _ _ _ _ _ 18 (za1 rfl rfl rfl (congrArg (fun b => Value.bool (!(b))) hb18) rfl) (Eq.refl (some 18)) ?_
      refine @o_n _ _ _ _ _ _ _ _ _ _ _ 19 (za1 rfl rfl rfl (congrArg (fun b => Value.bool (!(b))) hb18) rfl) (Eq.refl (some 19)) ?_
      refine @o_n _ _ _ _ _ _ _ _ _ _ _ 20 (za1 rfl rfl rfl (congrArg (fun b => Value.bool (!(b))) hb18) rfl) (Eq.refl (some 20)) ?_
      refine @o_n _ _ _ _ _ _ _ _ _ _ _ 21 (za1 rfl rfl rfl (congrArg (fun b => Value.bool (!(b))) hb18) rfl) (Eq.refl (some 21)) ?_
      refine o_q rfl rfl (zaa true (congrArg (fun b => Value.bool (!(b))) hb18) rfl) ?_
      refine o_end ?_
      refine x_meetJ true h ⟨rfl, trivial⟩ (fun w h => za5 [1, 0] (by decide) rfl w h) ?_
      repeat (first | exact zad _ _ | refine zah rfl ?_ | refine zae rfl ?_ | refine zai rfl ?_)
  · skip
    refine (fun b10 => fun U14 hJ15 => ?_)
    have e_ := Option.some.inj hJ15; have h := hR13; rw [← e_] at h; clear e_ hJ15 hR13 hl12
    refine zat _ rfl (fun hb21 => ?_) (fun hb21 => ?_)
    · skip
      replace h := bb_t hb21 h
      refine c_seq ?_
      refine za0 ?_
      refine o_q rfl rfl (q_build (vs := []) (cs := [.int .i64 0, .slice none 0 0, .slice none 0 0]) rfl rfl) ?_
      refine o_e rfl (zaz (i := 1) rfl rfl rfl Z27 rfl rfl) (fun _ => ?_)
      refine o_q rfl rfl (q_asg rfl) ?_
      refine o_end ?_
      refine za2 ?_
      refine c_ret ?_
      refine zaf ?_
      refine x_nil kStep 88 ?_
      refine x_nil (Kd.int .i64) 3 ?_
      have e0_ := Option.some.inj h; clear h
      have d0_ := (Prod.mk.inj e0_).1; have e1_ := (Prod.mk.inj e0_).2; clear e0_; subst d0_
      have d1_ := (Prod.mk.inj e1_).1; have e2_ := (Prod.mk.inj e1_).2; clear e1_; subst d1_
      have d2_ := (Prod.mk.inj e2_).1; have e3_ := (Prod.mk.inj e2_).2; clear e2_; subst d2_
      subst e3_
      exact x_r2 (none, 0, none, 0) Try.results22 (rv_cell rfl G27 Z27 (fun w h => h.zac (i := 3) rfl) rfl) (zaj rfl) rfl (fun w h => za5 [1, 0] (by decide) rfl w h)
    · skip
      replace h := bb_f hb21 h
      refine zaq ?_
      refine za2 ?_
      refine c_seq ?_
      refine a_start (ds := []) MO rfl ?_
      refine za7 0 rfl rfl rfl (by kernel_rfl) (fun _ _ _ h => h) (q_f F27_0 rfl) ?_
      refine zau 1 rfl rfl rfl (by kernel_rfl) (fun _ _ _ h => h) (fun w h => h) (q_ldb Y3 rfl (fun w h => h.zac (i := 0) rfl) rfl) ?_
      refine za7 3 rfl rfl rfl (by kernel_rfl) (fun _ _ _ h => h) (q_f F27_1 rfl) ?_
      refine zau 4 rfl rfl rfl (by kernel_rfl) (fun _ _ _ h => h) (fun w h => h) (q_ldb Y24 rfl (fun w h => h.zac (i := 0) rfl) rfl) ?_
      refine za7 5 rfl rfl rfl (by kernel_rfl) (fun _ _ _ h => h) (q_len Try.underlying24 rfl) ?_
      refine za8 h (fun l23 hx22 h => ?_) rfl
      refine a_one 2 rfl rfl (by kernel_rfl) rfl (za9 0 Z Try.func77 N77 rfl rfl rfl (fun w P1 hF hB hS hT => impl_firsts.calls a0_0 hB hF _ hx22)) (fun s w h => zab [some 1, some 2] (by decide) w h rfl) (cur2 (fun A24 c25 => ?_))
      refine za8 h (fun l26 ha27 h => ?_) rfl
      refine a_one 6 rfl rfl (by kernel_rfl) rfl (e_appM (i := 0) Try.underlying25 Try.underlying3 I3 (by decide) rfl rfl ⟨_, rfl⟩ ha27) (fun s w h => zab [some 1, some 2] (by decide) w h rfl) (cur2 (fun A28 c29 => ?_))
      refine za7 7 rfl rfl rfl (by kernel_rfl) (fun _ _ _ h => h) (q_asg rfl) ?_
      refine zav (by kernel_rfl) ?_
      refine za2 ?_
      refine c_seq ?_
      refine c_seq ?_
      refine za0 ?_
      refine o_q rfl rfl (za3 rfl) ?_
      refine o_q rfl rfl (q_len Try.underlying25 rfl) ?_
      refine o_q rfl rfl (za3 rfl) ?_
      refine o_end ?_
      refine za2 ?_
      refine zam ?_
      refine za8 h (fun o39 hl38 hR37 => ?_) rfl
      clear h
      refine c_fact (p := l1.length ≤ 9223372036854775807) (fun w h => (R1.now Z h).2.1) (fun hm36 => ?_)
      refine zaw (σ := (List Int) × (List Int) × Int) (fun k34 ((ys33, l30, i31) : (List Int) × (List Int) × Int) => Rg l1 i31 ys33 ∧ ys33.length = k34 ∧ impl_ReorderSteps.l0 a0_0 ys33 l30 i31 = some o39) [7, 8, 33, 34, 35, 36, 37, 38, 39, 40, 41, 42, 43, 44, 45, 46, 47, 48] (fun ((ys33, l30, i31) : (List Int) × (List Int) × Int) => [(33, .int .i64 i31)]) (fun ((ys33, l30, i31) : (List Int) × (List Int) × Int) => [row (Kd.int .i64) 3 (.slice A28 l26.length c29) l30, box g1 27 #[.int .i64 a0_0, .slice A0_1 l0_1.length c0_1, .slice A0_2 l0_2.length c0_2], box g3 27 #[.int .i64 0, .slice none 0 0, .slice none 0 0]]) l1.length (l1, l26, 0) ⟨Rg.start _, rfl, hl38⟩ ⟨rfl, trivial⟩ (fun w h => h) ?_
      refine fun k34 => cur3 (listC (fun l30 i31 U40 hJ_ => ?_) (fun y32 ys33 l30 i31 U40 hJ_ => ?_))
      · skip
        clear hl38
        have hr35 := hJ_.1; have hk41 := hJ_.2.1; have h := hJ_.2.2; clear hJ_
        replace h : impl_ReorderSteps.l0 a0_0 [] l30 i31 = some o39 := h
        rw [impl_ReorderSteps.l0] at h
        refine c_seq ?_
        refine za0 ?_
        refine o_q rfl rfl (q_lss rfl rfl) ?_
        refine o_end ?_
        refine za2 ?_
        refine c_seq ?_
        refine c_false (congrArg Value.bool hr35.ge) ?_
        refine c_exit ?_
        refine za6 ?_
        refine za6 ?_
        have e_ := Option.some.inj h; replace h := hR37; rw [← e_] at h; clear e_
        refine x_hit ?_
        refine za2 ?_
        refine za8 h (fun o647 hl648 hR649 => ?_) rfl
        clear h
        refine c_cutJ (σ := (List Int) × Nat × (Option Addr) × Nat) (fun (l644, g643, A645, c646) => some l644 = some o647) [9, 49, 50, 51, 52, 53, 54, 55] (fun (l644, g643, A645, c646) => [(9, .pointer (some ⟨g643, 0, none⟩))]) (fun (l644, g643, A645, c646) => [box g1 27 #[.int .i64 a0_0, .slice A0_1 l0_1.length c0_1, .slice A0_2 l0_2.length c0_2], box g3 27 #[.int .i64 0, .slice none 0 0, .slice none 0 0], row (Kd.int .i64) 3 (.slice A28 l26.length c29) l30, box g643 27 #[.int .i64 a0_0, .slice none 0 0, .slice A645 l644.length c646], row (Kd.int .i64) 3 (.slice A645 l644.length c646) l644]) ?_ ?_
        · skip
          have h := hl648; clear hl648
          clear hR649
          refine za8 h (fun l954 hx953 h => ?_) rfl
          refine a_start (ds := []) MO rfl ?_
          refine za7 0 rfl rfl rfl (by kernel_rfl) (fun _ _ _ h => h) (q_f F27_0 rfl) ?_
          refine zau 1 rfl rfl rfl (by kernel_rfl) (fun _ _ _ h => h) (fun w h => h) (q_ldb Y3 rfl (fun w h => h.zac (i := 1) rfl) rfl) ?_
          refine za7 2 rfl rfl rfl (by kernel_rfl) (fun _ _ _ h => h) (q_f F27_2 rfl) ?_
          refine zau 3 rfl rfl rfl (by kernel_rfl) (fun _ _ _ h => h) (fun w h => h) (q_ldb Y25 rfl (fun w h => h.zac (i := 1) rfl) rfl) ?_
          refine za7 4 rfl rfl rfl (by kernel_rfl) (fun _ _ _ h => h) (za3 rfl) ?_
          refine a_two 5 7 rfl rfl rfl rfl (by kernel_rfl) rfl rfl (za9 0 Z Try.func78 N78 rfl rfl rfl (fun w P1 hF hB hS hT => impl_renamed.calls A0_2 c0_2 l0_2.length l0_2 A28 c29 l26.length l30 hB hF (hS _ R0_2) hc0_2 (hT 0 _ rfl).row (hT 0 _ rfl).cap _ hx953)) (fun s w h => zab [some 1, some 2, some 3] (by decide) w h rfl) (e_alloc V27 rfl) (fun s w h => zab [some 1, some 2, some 3] (by decide) w h rfl) (cur2 (fun A955 c956 => ?_)) (fun g1073 => ?_)
          · skip
            refine za7 6 rfl rfl rfl (by kernel_rfl) (fun _ _ _ h => h) (q_build (vs := [(0, .int .i64 a0_0), (2, .slice A955 l954.length c956)]) (cs := [.int .i64 a0_0, .slice none 0 0, .slice A955 l954.length c956]) rfl rfl) ?_
            refine a_one 7 rfl rfl (by kernel_rfl) rfl (e_alloc V27 rfl) (fun s w h => zab [some 2, some 3, some 4] (by decide) w h rfl) (fun g1073 => ?_)
            refine a_one 8 rfl rfl (by kernel_rfl) rfl (zaz (i := 0) rfl rfl rfl Z27 rfl rfl) (fun s w h => zab [some 2, some 3, some 4] (by decide) w h rfl) (fun _ => ?_)
            refine zav (by kernel_rfl) ?_
            refine x_meetJ (l954, g1073, A955, c956) h ⟨rfl, trivial⟩ (fun w h => za5 [3, 4, 2, 0, 1] (by decide) rfl w h) ?_
            repeat (first | exact zad _ _ | refine zah rfl ?_ | refine zae rfl ?_ | refine zai rfl ?_)
          · skip
            refine a_one 5 rfl rfl (by kernel_rfl) rfl (za9 0 Z Try.func78 N78 rfl rfl rfl (fun w P1 hF hB hS hT => impl_renamed.calls A0_2 c0_2 l0_2.length l0_2 A28 c29 l26.length l30 hB hF (hS _ R0_2) hc0_2 (hT 1 _ rfl).row (hT 1 _ rfl).cap _ hx953)) (fun s w h => zab [some 2, some 3, some 4] (by decide) w h rfl) (cur2 (fun A955 c956 => ?_))
            refine za7 6 rfl rfl rfl (by kernel_rfl) (fun _ _ _ h => h) (q_build (vs := [(0, .int .i64 a0_0), (2, .slice A955 l954.length c956)]) (cs := [.int .i64 a0_0, .slice none 0 0, .slice A955 l954.length c956]) rfl rfl) ?_
            refine a_one 8 rfl rfl (by kernel_rfl) rfl (zaz (i := 1) rfl rfl rfl Z27 rfl rfl) (fun s w h => zab [some 2, some 3, some 4] (by decide) w h rfl) (fun _ => ?_)
            refine zav (by kernel_rfl) ?_
            refine x_meetJ (l954, g1073, A955, c956) h ⟨rfl, trivial⟩ (fun w h => za5 [3, 4, 2, 1, 0] (by decide) rfl w h) ?_
            repeat (first | exact zad _ _ | refine zah rfl ?_ | refine zae rfl ?_ | refine zai rfl ?_)
        · skip
          refine (cur4 (fun l644 g643 A645 c646 => fun U650 hJ651 => ?_))
          have e_ := Option.some.inj hJ651; have h := hR649; rw [← e_] at h; clear e_ hJ651 hR649 hl648
          refine c_seq ?_
          refine c_seq ?_
          refine za0 ?_
          refine o_q rfl rfl (za3 rfl) ?_
          refine o_q rfl rfl (q_len Try.underlying25 rfl) ?_
          refine o_q rfl rfl (za3 rfl) ?_
          refine o_end ?_
          refine za2 ?_
          refine zam ?_
          refine c_nil kStep 88 ?_
          refine za8 h (fun o1265 hl1264 hR1263 => ?_) rfl
          clear h
          refine c_fact (p := l1.length ≤ 9223372036854775807) (fun w h => (R1.now Z h).2.1) (fun hm1262 => ?_)
          refine zaw (σ := (List Int) × (List SStep) × Int × (Option Addr) × Nat) (fun k1260 ((ys1259, l1254, i1257, A1255, c1256) : (List Int) × (List SStep) × Int × (Option Addr) × Nat) => Rg l1 i1257 ys1259 ∧ ys1259.length = k1260 ∧ impl_ReorderSteps.l1 l0_1 l30 ys1259 l1254 i1257 = some o1265) [11, 58, 59, 60, 61, 62, 63, 64, 65, 66, 67, 68, 69, 70, 71, 72, 73, 74, 75, 76, 77, 78, 79, 80, 81, 82, 83, 84, 85, 86] (fun ((ys1259, l1254, i1257, A1255, c1256) : (List Int) × (List SStep) × Int × (Option Addr) × Nat) => [(58, .int .i64 i1257)]) (fun ((ys1259, l1254, i1257, A1255, c1256) : (List Int) × (List SStep) × Int × (Option Addr) × Nat) => [row kStep 88 (.slice A1255 l1254.length c1256) l1254, box g1 27 #[.int .i64 a0_0, .slice A0_1 l0_1.length c0_1, .slice A0_2 l0_2.length c0_2], box g3 27 #[.int .i64 0, .slice none 0 0, .slice none 0 0], row (Kd.int .i64) 3 (.slice A28 l26.length c29) l30, box g643 27 #[.int .i64 a0_0, .slice A1255 l1254.length c1256, .slice A645 l644.length c646], row (Kd.int .i64) 3 (.slice A645 l644.length c646) l644]) l1.length (l1, ([] : List SStep), 0, none, 0) ⟨Rg.start _, rfl, hl1264⟩ ⟨rfl, trivial⟩ (fun w h => h) ?_
          refine fun k1260 => cur5 (listC (fun l1254 i1257 A1255 c1256 U1266 hJ_ => ?_) (fun y1258 ys1259 l1254 i1257 A1255 c1256 U1266 hJ_ => ?_))
          · skip
            clear hl1264
            have hr1261 := hJ_.1; have hk1267 := hJ_.2.1; have h := hJ_.2.2; clear hJ_
            replace h : impl_ReorderSteps.l1 l0_1 l30 [] l1254 i1257 = some o1265 := h
            rw [impl_ReorderSteps.l1] at h
            refine c_seq ?_
            refine za0 ?_
            refine o_q rfl rfl (q_lss rfl rfl) ?_
            refine o_end ?_
            refine za2 ?_
            refine c_seq ?_
            refine c_false (congrArg Value.bool hr1261.ge) ?_
            refine c_exit ?_
            refine za6 ?_
            refine za6 ?_
            have e_ := Option.some.inj h; replace h := hR1263; rw [← e_] at h; clear e_
            refine x_hit ?_
            refine za2 ?_
            refine c_seq ?_
            refine za0 ?_
            refine o_q rfl rfl (q_ldB G27 Z27 rfl (fun w h => h.zac (i := 4) rfl) rfl) ?_
            refine o_pick [0, 5, 1, 2, 3, 4] (by decide) rfl ?_
            refine bindE4 h (fun i1269 l1270 l1271 b1272 hx1268 h => ?_) rfl
            refine o_e rfl (za9 2 Z Try.func80 N80 rfl rfl rfl (fun w P1 hF hB hS hT => impl_told.calls k a0_0 A1255 c1256 l1254.length l1254 A645 c646 l644.length l644 hB hF _ _ _ _ hx1268)) (cur4 (fun A1273 c1274 A1275 c1276 => ?_))
            refine o_q rfl rfl (q_ext rfl rfl) ?_
            refine o_q rfl rfl (q_ext rfl rfl) ?_
            refine o_e rfl (zaz (i := 3) rfl rfl rfl Z27 rfl rfl) (fun _ => ?_)
            refine o_q rfl rfl (q_asg rfl) ?_
            refine o_end ?_
            refine za2 ?_
            refine c_ret ?_
            have e0_ := Option.some.inj h; clear h
            have d0_ := (Prod.mk.inj e0_).1; have e1_ := (Prod.mk.inj e0_).2; clear e0_; subst d0_
            have d1_ := (Prod.mk.inj e1_).1; have e2_ := (Prod.mk.inj e1_).2; clear e1_; subst d1_
            have d2_ := (Prod.mk.inj e2_).1; have e3_ := (Prod.mk.inj e2_).2; clear e2_; subst d2_
            subst e3_
            exact x_r2 (A1273, c1274, A1275, c1276) Try.results22 (rv_cell rfl G27 Z27 (fun w h => h.zac (i := 3) rfl) rfl) (zaj rfl) rfl (fun w h => za5 [0, 1] (by decide) rfl w h)
          · skip
            clear hl1264
            have hr1261 := hJ_.1; have hk1267 := hJ_.2.1; have h := hJ_.2.2; clear hJ_
            replace h : impl_ReorderSteps.l1 l0_1 l30 (y1258 :: ys1259) l1254 i1257 = some o1265 := h
            rw [impl_ReorderSteps.l1] at h
            refine c_seq ?_
            refine za0 ?_
            refine o_q rfl rfl (q_lss rfl rfl) ?_
            refine o_end ?_
            refine za2 ?_
            refine c_seq ?_
            refine c_true (congrArg Value.bool hr1261.lt) ?_
            refine zaq ?_
            refine za2 ?_
            refine c_seq ?_
            refine zam ?_
            refine c_seq ?_
            refine za0 ?_
            refine o_fact (p := Sh A1 l1.length l1.length) (fun w h => f_sh (dk := (Kd.int .i64)) h (fun w h => R1.now Z h)) (fun hq1277 => ?_)
            refine o_q rfl rfl (q_ix Try.underlying25 Z3 rfl rfl hq1277 hr1261.get) ?_
            refine o_q rfl rfl (q_lde (off := 0) Y3 rfl rfl (fun w h => R1.now Z h) hr1261.get (fun _ _ h => h) rfl) ?_
            refine o_q rfl rfl (q_asg rfl) ?_
            refine o_end ?_
            refine za2 ?_
            refine za8 h (fun y1641 hg1640 h => ?_) rfl
            refine za8 h (fun y1821 hg1820 h => ?_) rfl
            refine za8 h (fun y2180 hg2179 h => ?_) rfl
            refine za8 h (fun y2360 hg2359 h => ?_) rfl
            refine za8 h (fun _ hx2479 h => ?_) rfl
            refine za8 h (fun l2599 ha2600 h => ?_) rfl
            refine a_startS (ds := []) [none, some 1, some 2, some 3, none, some 5] MO rfl ?_
            refine za7 0 rfl rfl rfl (by kernel_rfl) (fun _ _ _ h => h) (q_f F27_1 rfl) ?_
            refine za7 2 rfl rfl rfl (by kernel_rfl) (fun _ _ _ h => h) (za3 rfl) ?_
            refine za7 3 rfl rfl rfl (by kernel_rfl) (fun _ _ _ h => h) (q_f F27_1 rfl) ?_
            refine zau 4 rfl rfl rfl (by kernel_rfl) (fun _ _ _ h => h) (fun w h => zab [none, some 1, some 2, some 3, none, some 5] (by decide) w h rfl) (q_ldb Y24 rfl (fun w h => h.zac (i := 1) rfl) rfl) ?_
            refine za7 5 rfl rfl rfl (by kernel_rfl) (fun _ _ _ h => h) (za3 rfl) ?_
            refine a_fact (p := Sh A0_1 l0_1.length l0_1.length) (fun w h => f_sh (dk := kStep) h (fun w h => R0_1.now Z h)) (fun hq1639 => ?_)
            refine za7 6 rfl rfl rfl (by kernel_rfl) (fun _ _ _ h => h) (q_ix Try.underlying24 Z88 rfl rfl hq1639 hg1640) ?_
            refine za7 7 rfl rfl rfl (by kernel_rfl) (fun _ _ _ h => h) (q_fe F88_0 rfl) ?_
            refine zau 8 rfl rfl rfl (by kernel_rfl) (fun _ _ _ h => h) (fun w h => zab [none, some 1, some 2, some 3, none, some 5] (by decide) w h rfl) (q_lde (off := 0) Y3 rfl rfl (fun w h => R0_1.now Z h) hg1640 (fun _ _ h => h) rfl) ?_
            refine a_fact (p := Sh A28 l26.length l30.length) (fun w h => f_sh (dk := (Kd.int .i64)) h (fun w h => h.zay (i := 3) rfl)) (fun hq1819 => ?_)
            refine za7 9 rfl rfl rfl (by kernel_rfl) (fun _ _ _ h => h) (q_ix Try.underlying25 Z3 rfl rfl hq1819 hg1820) ?_
            refine zau 10 rfl rfl rfl (by kernel_rfl) (fun _ _ _ h => h) (fun w h => zab [none, some 1, some 2, some 3, none, some 5] (by decide) w h rfl) (q_lde (off := 0) Y3 rfl rfl (fun w h => h.zay (i := 3) rfl) hg1820 (fun _ _ h => h) rfl) ?_
            refine za7 11 rfl rfl rfl (by kernel_rfl) (fun _ _ _ h => h) (za3 rfl) ?_
            refine za7 12 rfl rfl rfl (by kernel_rfl) (fun _ _ _ h => h) (q_f F27_1 rfl) ?_
            refine zau 13 rfl rfl rfl (by kernel_rfl) (fun _ _ _ h => h) (fun w h => zab [none, some 1, some 2, some 3, none, some 5] (by decide) w h rfl) (q_ldb Y24 rfl (fun w h => h.zac (i := 1) rfl) rfl) ?_
            refine za7 14 rfl rfl rfl (by kernel_rfl) (fun _ _ _ h => h) (za3 rfl) ?_
            refine za7 15 rfl rfl rfl (by kernel_rfl) (fun _ _ _ h => h) (q_ix Try.underlying24 Z88 rfl rfl hq1639 hg2179) ?_
            refine za7 16 rfl rfl rfl (by kernel_rfl) (fun _ _ _ h => h) (q_fe F88_1 rfl) ?_
            refine zau 17 rfl rfl rfl (by kernel_rfl) (fun _ _ _ h => h) (fun w h => zab [none, some 1, some 2, some 3, none, some 5] (by decide) w h rfl) (q_lde (off := 1) Y3 rfl rfl (fun w h => R0_1.now Z h) hg2179 (fun _ _ h => h) rfl) ?_
            refine za7 18 rfl rfl rfl (by kernel_rfl) (fun _ _ _ h => h) (q_ix Try.underlying25 Z3 rfl rfl hq1819 hg2359) ?_
            refine zau 19 rfl rfl rfl (by kernel_rfl) (fun _ _ _ h => h) (fun w h => zab [none, some 1, some 2, some 3, none, some 5] (by decide) w h rfl) (q_lde (off := 0) Y3 rfl rfl (fun w h => h.zay (i := 3) rfl) hg2359 (fun _ _ h => h) rfl) ?_
            refine a_two 1 20 rfl rfl rfl rfl (by kernel_rfl) rfl rfl (ev_q rfl (q_ldb Y24 rfl (fun w h => h.zac (i := 4) rfl) rfl)) (fun s w h => zab [none, some 1, some 2, some 3, none, some 5] (by decide) w h rfl) (za9 0 Z Try.func79 N79 rfl rfl rfl (fun w P1 hF hB hS hT => impl_step.calls y1821 y2360 hB hF hx2479)) (fun s w h => zab [none, some 1, some 2, some 3, none, some 5] (by decide) w h rfl) (fun _ => ?_) (fun _ => ?_)
            · skip
              refine a_one 20 rfl rfl (by kernel_rfl) rfl (za9 0 Z Try.func79 N79 rfl rfl rfl (fun w P1 hF hB hS hT => impl_step.calls y1821 y2360 hB hF hx2479)) (fun s w h => zab [none, some 1, some 2, some 3, none, some 5] (by decide) w h rfl) (fun _ => ?_)
              refine a_one 21 rfl rfl (by kernel_rfl) rfl (e_lit (vs := [(0, .agg #[.int .i64 (mn y1821 y2360), .int .i64 (mx y1821 y2360)])]) (cs := [.int .i64 (mn y1821 y2360), .int .i64 (mx y1821 y2360)]) kStep ([(⟨mn y1821 y2360, mx y1821 y2360⟩ : SStep)] : List SStep) Try.underlying24 I88 (by decide) rfl (by decide) rfl rfl (fun _ _ => reps_flat _)) (fun s w h => zab [none, some 2, some 3, some 4, none, some 6] (by decide) w h rfl) (cur2 (fun A2539 c2540 => ?_))
              refine a_one 22 rfl rfl (by kernel_rfl) rfl (e_app (i := 1) (j := 0) Try.underlying24 I88 rfl (by decide) (by decide) rfl rfl rfl rfl rfl ha2600) (fun s w h => zab [none, some 2, some 3, some 4, none, some 6] (by decide) w h rfl) (cur2 (fun A2601 c2602 => ?_))
              refine za7 23 rfl rfl rfl (by kernel_rfl) (fun _ _ _ h => h) (q_f F27_1 rfl) ?_
              refine a_one 24 rfl rfl (by kernel_rfl) rfl (e_store (i := 5) rfl rfl rfl rfl Z24 rfl rfl) (fun s w h => zab [none, some 2, some 3, some 4, none, some 6] (by decide) w h rfl) (fun _ => ?_)
              refine zav (by kernel_rfl) ?_
              refine zal ?_
              refine za2 ?_
              refine za0 ?_
              refine o_q rfl rfl (q_up rfl rfl (hr1261.up hm1262)) ?_
              refine o_q rfl rfl (za3 rfl) ?_
              refine o_end ?_
              refine zak ys1259.length (ys1259, l2599, i1257 + 1, A2601, c2602) (by rw [← hk1267]; exact Nat.lt_succ_self _) ⟨hr1261.step, rfl, h⟩ ⟨rfl, trivial⟩ (fun w h => za5 [1, 2, 3, 4, 5, 6] (by decide) rfl w h) ?_
              repeat (first | exact zad _ _ | refine zah rfl ?_ | refine zae rfl ?_ | refine zai rfl ?_)
            · skip
              refine a_two 1 21 rfl rfl rfl rfl (by kernel_rfl) rfl rfl (ev_q rfl (q_ldb Y24 rfl (fun w h => h.zac (i := 4) rfl) rfl)) (fun s w h => zab [none, some 1, some 2, some 3, none, some 5] (by decide) w h rfl) (e_lit (vs := [(0, .agg #[.int .i64 (mn y1821 y2360), .int .i64 (mx y1821 y2360)])]) (cs := [.int .i64 (mn y1821 y2360), .int .i64 (mx y1821 y2360)]) kStep ([(⟨mn y1821 y2360, mx y1821 y2360⟩ : SStep)] : List SStep) Try.underlying24 I88 (by decide) rfl (by decide) rfl rfl (fun _ _ => reps_flat _)) (fun s w h => zab [none, some 2, some 3, some 4, none, some 6] (by decide) w h rfl) (fun _ => ?_) (cur2 (fun A2539 c2540 => ?_))
              · skip
                refine a_one 21 rfl rfl (by kernel_rfl) rfl (e_lit (vs := [(0, .agg #[.int .i64 (mn y1821 y2360), .int .i64 (mx y1821 y2360)])]) (cs := [.int .i64 (mn y1821 y2360), .int .i64 (mx y1821 y2360)]) kStep ([(⟨mn y1821 y2360, mx y1821 y2360⟩ : SStep)] : List SStep) Try.underlying24 I88 (by decide) rfl (by decide) rfl rfl (fun _ _ => reps_flat _)) (fun s w h => zab [none, some 2, some 3, some 4, none, some 6] (by decide) w h rfl) (cur2 (fun A2539 c2540 => ?_))
                refine a_one 22 rfl rfl (by kernel_rfl) rfl (e_app (i := 1) (j := 0) Try.underlying24 I88 rfl (by decide) (by decide) rfl rfl rfl rfl rfl ha2600) (fun s w h => zab [none, some 2, some 3, some 4, none, some 6] (by decide) w h rfl) (cur2 (fun A2601 c2602 => ?_))
                refine za7 23 rfl rfl rfl (by kernel_rfl) (fun _ _ _ h => h) (q_f F27_1 rfl) ?_
                refine a_one 24 rfl rfl (by kernel_rfl) rfl (e_store (i := 5) rfl rfl rfl rfl Z24 rfl rfl) (fun s w h => zab [none, some 2, some 3, some 4, none, some 6] (by decide) w h rfl) (fun _ => ?_)
                refine zav (by kernel_rfl) ?_
                refine zal ?_
                refine za2 ?_
                refine za0 ?_
                refine o_q rfl rfl (q_up rfl rfl (hr1261.up hm1262)) ?_
                refine o_q rfl rfl (za3 rfl) ?_
                refine o_end ?_
                refine zak ys1259.length (ys1259, l2599, i1257 + 1, A2601, c2602) (by rw [← hk1267]; exact Nat.lt_succ_self _) ⟨hr1261.step, rfl, h⟩ ⟨rfl, trivial⟩ (fun w h => za5 [1, 2, 3, 4, 5, 6] (by decide) rfl w h) ?_
                repeat (first | exact zad _ _ | refine zah rfl ?_ | refine zae rfl ?_ | refine zai rfl ?_)
              · skip
                refine a_one 1 rfl rfl (by kernel_rfl) rfl (ev_q rfl (q_ldb Y24 rfl (fun w h => h.zac (i := 5) rfl) rfl)) (fun s w h => zab [none, some 2, some 3, some 4, none, some 6] (by decide) w h rfl) (fun _ => ?_)
                refine a_one 22 rfl rfl (by kernel_rfl) rfl (e_app (i := 1) (j := 0) Try.underlying24 I88 rfl (by decide) (by decide) rfl rfl rfl rfl rfl ha2600) (fun s w h => zab [none, some 2, some 3, some 4, none, some 6] (by decide) w h rfl) (cur2 (fun A2601 c2602 => ?_))
                refine za7 23 rfl rfl rfl (by kernel_rfl) (fun _ _ _ h => h) (q_f F27_1 rfl) ?_
                refine a_one 24 rfl rfl (by kernel_rfl) rfl (e_store (i := 5) rfl rfl rfl rfl Z24 rfl rfl) (fun s w h => zab [none, some 2, some 3, some 4, none, some 6] (by decide) w h rfl) (fun _ => ?_)
                refine zav (by kernel_rfl) ?_
                refine zal ?_
                refine za2 ?_
                refine za0 ?_
                refine o_q rfl rfl (q_up rfl rfl (hr1261.up hm1262)) ?_
                refine o_q rfl rfl (za3 rfl) ?_
                refine o_end ?_
                refine zak ys1259.length (ys1259, l2599, i1257 + 1, A2601, c2602) (by rw [← hk1267]; exact Nat.lt_succ_self _) ⟨hr1261.step, rfl, h⟩ ⟨rfl, trivial⟩ (fun w h => za5 [1, 2, 3, 4, 5, 6] (by decide) rfl w h) ?_
                repeat (first | exact zad _ _ | refine zah rfl ?_ | refine zae rfl ?_ | refine zai rfl ?_)
      · skip
        clear hl38
        have hr35 := hJ_.1; have hk41 := hJ_.2.1; have h := hJ_.2.2; clear hJ_
        replace h : impl_ReorderSteps.l0 a0_0 (y32 :: ys33) l30 i31 = some o39 := h
        rw [impl_ReorderSteps.l0] at h
        refine c_seq ?_
        refine za0 ?_
        refine o_q rfl rfl (q_lss rfl rfl) ?_
        refine o_end ?_
        refine za2 ?_
        refine c_seq ?_
        refine c_true (congrArg Value.bool hr35.lt) ?_
        refine zaq ?_
        refine za2 ?_
        refine c_seq ?_
        refine zam ?_
        refine c_seq ?_
        refine za0 ?_
        refine o_q rfl rfl (za3 rfl) ?_
        refine o_fact (p := Sh A1 l1.length l1.length) (fun w h => f_sh (dk := (Kd.int .i64)) h (fun w h => R1.now Z h)) (fun hq2839 => ?_)
        refine o_q rfl rfl (q_ix Try.underlying25 Z3 rfl rfl hq2839 hr35.get) ?_
        refine o_q rfl rfl (q_lde (off := 0) Y3 rfl rfl (fun w h => R1.now Z h) hr35.get (fun _ _ h => h) rfl) ?_
        refine o_q rfl rfl (q_asg rfl) ?_
        refine o_q rfl rfl (q_asg rfl) ?_
        refine o_end ?_
        refine za2 ?_
        refine za0 ?_
        refine o_q rfl rfl (za3 rfl) ?_
        refine o_q rfl rfl (q_f F27_0 rfl) ?_
        refine o_q rfl rfl (q_ldb Y3 rfl (fun w h => h.zac (i := 1) rfl) rfl) ?_
        refine o_q rfl rfl (za3 rfl) ?_
        refine o_q rfl rfl (q_add64 rfl rfl) ?_
        refine o_q rfl rfl (q_f F27_0 rfl) ?_
        refine o_q rfl rfl (q_ldb Y3 rfl (fun w h => h.zac (i := 1) rfl) rfl) ?_
        refine o_q rfl rfl (za3 rfl) ?_
        refine o_q rfl rfl (q_add64 rfl rfl) ?_
        refine o_fact (p := Sh A28 l26.length l30.length) (fun w h => f_sh (dk := (Kd.int .i64)) h (fun w h => h.zay (i := 0) rfl)) (fun hq2840 => ?_)
        refine za8 h (fun y2842 hg2841 h => ?_) rfl
        refine o_q rfl rfl (q_ix Try.underlying25 Z3 rfl rfl hq2840 hg2841) ?_
        refine za8 h (fun l2843 hs2844 h => ?_) rfl
        refine o_e rfl (e_set (i := 0) rfl rfl rfl Z3 hs2844) (fun _ => ?_)
        refine o_end ?_
        refine zal ?_
        refine za2 ?_
        refine za0 ?_
        refine o_q rfl rfl (q_up rfl rfl (hr35.up hm36)) ?_
        refine o_q rfl rfl (za3 rfl) ?_
        refine o_end ?_
        refine zak ys33.length (ys33, l2843, i31 + 1) (by rw [← hk41]; exact Nat.lt_succ_self _) ⟨hr35.step, rfl, h⟩ ⟨rfl, trivial⟩ (fun w h => za5 [0, 1, 2] (by decide) rfl w h) ?_
        repeat (first | exact zad _ _ | refine zah rfl ?_ | refine zae rfl ?_ | refine zai rfl ?_)

/-! ### loop.example/g01098/impl.PressureOf: function 23 -/
def impl_PressureOf.f (k : Nat) (a0_0 : Int) (l0_1 : List SStep) (l0_2 : List Int) : Option (Int × Bool) := (impl_IsPlan.f k a0_0 l0_1 l0_2).bind fun b4 => if b4 = true then ((impl_firsts.f (l0_1.length : Int)).bind fun l7 => (impl_Plan_pressure.f a0_0 l0_1 l0_2 l7).bind fun i11 => some (i11, true)) else (some (0, false))
set_option maxHeartbeats 600000 in
set_option maxRecDepth 100000 in
theorem impl_PressureOf.calls (k : Nat) {w0 ws : World} {P0 : Nat → Prop} (a0_0 : Int) (A0_1 : Option Addr) (c0_1 : Nat) (n0_1 : Nat) (l0_1 : List SStep) (A0_2 : Option Addr) (c0_2 : Nat) (n0_2 : Nat) (l0_2 : List Int) (Z : Below w0.heap.size w0 ws) (hF : Fr w0 ws P0 [] ws) (R0_1 : Stable ws P0 (fun w => Kd.C kStep w A0_1 n0_1 l0_1)) (hc0_1 : n0_1 ≤ c0_1) (R0_2 : Stable ws P0 (fun w => Kd.C (Kd.int .i64) w A0_2 n0_2 l0_2)) (hc0_2 : n0_2 ≤ c0_2) (r_1 : Int) (r_2 : Bool) (h : impl_PressureOf.f k a0_0 l0_1 l0_2 = some (r_1, r_2)) :
    Calls Try.prog 23 #[.agg #[.int .i64 a0_0, .slice A0_1 n0_1 c0_1, .slice A0_2 n0_2 c0_2]] ws (Post1 w0 ws P0 (fun (_ : Unit) => .tuple #[.int .i64 r_1, .bool r_2]) (fun (_ : Unit) => [])) := by
  unfold impl_PressureOf.f at h
  obtain rfl := (R0_1 ws (KeptB.refl _ _)).1
  obtain rfl := (R0_2 ws (KeptB.refl _ _)).1
  refine enter Try.func23 rfl Try.ntmps23 rfl hF ?_
  refine c_seq ?_
  refine za0 ?_
  refine o_e rfl (e_box rfl) (fun g1 => ?_)
  refine o_q rfl rfl (q_asg rfl) ?_
  refine o_q rfl rfl (q_asg rfl) ?_
  refine o_end ?_
  refine za2 ?_
  refine c_seq ?_
  refine c_seq ?_
  refine za0 ?_
  refine o_q rfl rfl (q_ldB G27 Z27 rfl (fun w h => h.zac (i := 0) rfl) rfl) ?_
  refine za8 h (fun b4 hx3 h => ?_) rfl
  refine o_e rfl (za9 0 Z Try.func67 N67 rfl rfl rfl (fun w P1 hF hB hS hT => impl_IsPlan.calls k a0_0 A0_1 c0_1 l0_1.length l0_1 A0_2 c0_2 l0_2.length l0_2 hB hF (hS _ R0_1) hc0_1 (hS _ R0_2) hc0_2 _ hx3)) (fun _ => ?_)
  refine o_q rfl rfl (q_not rfl) ?_
  refine o_end ?_
  refine za2 ?_
  refine zat _ rfl (fun hb5 => ?_) (fun hb5 => ?_)
  · replace hb5 := nt_t hb5
    replace h := bb_f hb5 h
    refine c_seq ?_
    refine za0 ?_
    refine o_q rfl rfl (q_asg rfl) ?_
    refine o_q rfl rfl (q_asg rfl) ?_
    refine o_end ?_
    refine za2 ?_
    refine c_ret ?_
    refine zaf ?_
    have e0_ := Option.some.inj h; clear h
    have d0_ := (Prod.mk.inj e0_).1; have e1_ := (Prod.mk.inj e0_).2; clear e0_; subst d0_
    subst e1_
    exact x_r2 () Try.results23 (zaj rfl) (zaj rfl) rfl (fun w h => za5 [] (by decide) rfl w h)
  · replace hb5 := nt_f hb5
    replace h := bb_t hb5 h
    refine zaq ?_
    refine za2 ?_
    refine c_seq ?_
    refine za0 ?_
    refine o_q rfl rfl (q_f F27_1 rfl) ?_
    refine o_q rfl rfl (q_ldb Y24 rfl (fun w h => h.zac (i := 0) rfl) rfl) ?_
    refine o_q rfl rfl (q_len Try.underlying24 rfl) ?_
    refine za8 h (fun l7 hx6 h => ?_) rfl
    refine o_e rfl (za9 0 Z Try.func77 N77 rfl rfl rfl (fun w P1 hF hB hS hT => impl_firsts.calls (l0_1.length : Int) hB hF _ hx6)) (cur2 (fun A8 c9 => ?_))
    refine za8 h (fun i11 hx10 h => ?_) rfl
    refine o_e rfl (za9 0 Z Try.func81 N81 rfl rfl rfl (fun w P1 hF hB hS hT => impl_Plan_pressure.calls g1 a0_0 A0_1 c0_1 l0_1.length l0_1 A0_2 c0_2 l0_2.length l0_2 A8 c9 l7.length l7 hB hF (hS _ R0_1) hc0_1 (hS _ R0_2) hc0_2 (hT 1 _ rfl).box (hT 0 _ rfl).row (hT 0 _ rfl).cap _ hx10)) (fun _ => ?_)
    refine o_q rfl rfl (q_asg rfl) ?_
    refine o_q rfl rfl (q_asg rfl) ?_
    refine o_end ?_
    refine za2 ?_
    refine c_ret ?_
    have e0_ := Option.some.inj h; clear h
    have d0_ := (Prod.mk.inj e0_).1; have e1_ := (Prod.mk.inj e0_).2; clear e0_; subst d0_
    subst e1_
    exact x_r2 () Try.results23 (zaj rfl) (zaj rfl) rfl (fun w h => za5 [] (by decide) rfl w h)

/-! ### loop.example/g01098/laws.FnFewestRegisters: function 4 -/
def laws_FnFewestRegisters.f (k : Nat) (l0 : List Int) (l1 : List Int) : Option Bool := (laws_big.f l0 l1).bind fun b2 => if b2 = true then (some true) else ((spec_DrawBestOrder.f k l0).bind fun (i5, l6, l7) => (impl_BestOrder.f k i5 l6 l7).bind fun (l15, b16) => (spec_BestOrder.f k i5 l6 l7).bind fun (l20, b21) => if (b16 != b21) = true then (some false) else ((laws_rSame.f l15 l20).bind fun b26 => if b26 = true then (if b16 = true then ((impl_FewestRegisters.f k i5 l6 l7).bind fun (i37, b38) => (impl_ReorderSteps.f k i5 l6 l7 l15).bind fun (i40, l41, l42, b43) => (impl_PressureOf.f k i40 l41 l42).bind fun (i51, b52) => (impl_PressureOf.f k i5 l6 l7).bind fun (i54, b55) => (impl_CountOrders.f k i5 l6 l7).bind fun (i57, b58) => (impl_OrdersWithin.f k i5 l6 l7 46).bind fun (i60, b61) => (impl_OrdersWithin.f k i5 l6 l7 i37).bind fun (i63, b64) => (impl_OrdersWithin.f k i5 l6 l7 (w64 (i37 - 1))).bind fun (i66, b67) => if b38 = true then (if b43 = true then (if b52 = true then (if b55 = true then (if b58 = true then (if b61 = true then (if b64 = true then (if b67 = true then (if i51 = i37 then (if i37 ≤ i54 then (if i60 = i57 then (if 0 < i63 then (if i66 = 0 then (some (decide (0 < i57))) else (some false)) else (some false)) else (some false)) else (some false)) else (some false)) else (some false)) else (some false)) else (some false)) else (some false)) else (some false)) else (some false)) else (some false)) else (some false)) else ((impl_FewestRegisters.f k i5 l6 l7).bind fun (i30, b31) => (impl_CountOrders.f k i5 l6 l7).bind fun (i33, b34) => if b31 = true then (some false) else (some (!b34)))) else (some false)))
set_option maxHeartbeats 600000 in
set_option maxRecDepth 100000 in
theorem laws_FnFewestRegisters.calls (k : Nat) {w0 ws : World} {P0 : Nat → Prop} (A0 : Option Addr) (c0 : Nat) (n0 : Nat) (l0 : List Int) (A1 : Option Addr) (c1 : Nat) (n1 : Nat) (l1 : List Int) (Z : Below w0.heap.size w0 ws) (hF : Fr w0 ws P0 [] ws) (R0 : Stable ws P0 (fun w => Kd.C (Kd.int .u8) w A0 n0 l0)) (hc0 : n0 ≤ c0) (R1 : Stable ws P0 (fun w => Kd.C (Kd.int .u8) w A1 n1 l1)) (hc1 : n1 ≤ c1) (r_1 : Bool) (h : laws_FnFewestRegisters.f k l0 l1 = some r_1) :
    Calls Try.prog 4 #[.slice A0 n0 c0, .slice A1 n1 c1] ws (Post1 w0 ws P0 (fun (_ : Unit) => .bool r_1) (fun (_ : Unit) => [])) := by
  unfold laws_FnFewestRegisters.f at h
  obtain rfl := (R0 ws (KeptB.refl _ _)).1
  obtain rfl := (R1 ws (KeptB.refl _ _)).1
  refine enter Try.func4 rfl Try.ntmps4 rfl hF ?_
  refine c_seq ?_
  refine za0 ?_
  refine o_q rfl rfl (q_asg rfl) ?_
  refine o_end ?_
  refine za2 ?_
  refine c_seq ?_
  refine c_seq ?_
  refine za0 ?_
  refine o_q rfl rfl (za3 rfl) ?_
  refine o_q rfl rfl (za3 rfl) ?_
  refine za8 h (fun b2 hx1 h => ?_) rfl
  refine o_e rfl (za9 0 Z Try.func8 N8 rfl rfl rfl (fun w P1 hF hB hS hT => laws_big.calls A0 c0 l0.length l0 A1 c1 l1.length l1 hB hF (hS _ R0) hc0 (hS _ R1) hc1 _ hx1)) (fun _ => ?_)
  refine o_end ?_
  refine za2 ?_
  refine zat _ rfl (fun hb3 => ?_) (fun hb3 => ?_)
  · skip
    replace h := bb_t hb3 h
    refine c_seq ?_
    refine za0 ?_
    refine o_q rfl rfl (q_asg rfl) ?_
    refine o_end ?_
    refine za2 ?_
    refine c_ret ?_
    refine zaf ?_
    have e0_ := Option.some.inj h; clear h
    subst e0_
    exact x_r1 () Try.results4 (zaj rfl) rfl (fun w h => za5 [] (by decide) rfl w h)
  · skip
    replace h := bb_f hb3 h
    refine zaq ?_
    refine za2 ?_
    refine c_seq ?_
    refine za0 ?_
    refine o_q rfl rfl (za3 rfl) ?_
    refine bindE3 h (fun i5 l6 l7 hx4 h => ?_) rfl
    refine o_e rfl (za9 0 Z Try.func17 N17 rfl rfl rfl (fun w P1 hF hB hS hT => spec_DrawBestOrder.calls k A0 c0 l0.length l0 hB hF (hS _ R0) hc0 _ _ _ hx4)) (cur4 (fun A8 c9 A10 c11 => ?_))
    refine o_e rfl (e_alloc V27 rfl) (fun g12 => ?_)
    refine o_e rfl (zaz (i := 0) rfl rfl rfl Z27 rfl rfl) (fun _ => ?_)
    refine o_end ?_
    refine za2 ?_
    refine c_seq ?_
    refine za0 ?_
    refine o_q rfl rfl (q_ldB G27 Z27 rfl (fun w h => h.zac (i := 0) rfl) rfl) ?_
    refine bindE2 h (fun l15 b16 hx14 h => ?_) rfl
    refine o_e rfl (za9 0 Z Try.func18 N18 rfl rfl rfl (fun w P1 hF hB hS hT => impl_BestOrder.calls k i5 A8 c9 l6.length l6 A10 c11 l7.length l7 hB hF (hT 1 _ rfl).row (hT 1 _ rfl).cap (hT 2 _ rfl).row (hT 2 _ rfl).cap _ _ hx14)) (cur2 (fun A17 c18 => ?_))
    refine o_q rfl rfl (za3 rfl) ?_
    refine o_q rfl rfl (q_ext rfl rfl) ?_
    refine o_q rfl rfl (q_ext rfl rfl) ?_
    refine o_q rfl rfl (q_asg rfl) ?_
    refine o_q rfl rfl (q_asg rfl) ?_
    refine o_end ?_
    refine za2 ?_
    refine c_seq ?_
    refine za0 ?_
    refine o_q rfl rfl (q_ldB G27 Z27 rfl (fun w h => h.zac (i := 1) rfl) rfl) ?_
    refine bindE2 h (fun l20 b21 hx19 h => ?_) rfl
    refine o_e rfl (za9 0 Z Try.func19 N19 rfl rfl rfl (fun w P1 hF hB hS hT => spec_BestOrder.calls k i5 A8 c9 l6.length l6 A10 c11 l7.length l7 hB hF (hT 2 _ rfl).row (hT 2 _ rfl).cap (hT 3 _ rfl).row (hT 3 _ rfl).cap _ _ hx19)) (cur2 (fun A22 c23 => ?_))
    refine o_q rfl rfl (za3 rfl) ?_
    refine o_q rfl rfl (q_ext rfl rfl) ?_
    refine o_q rfl rfl (q_ext rfl rfl) ?_
    refine o_q rfl rfl (q_asg rfl) ?_
    refine o_q rfl rfl (q_asg rfl) ?_
    refine o_end ?_
    refine za2 ?_
    refine c_seq ?_
    refine c_seq ?_
    refine za0 ?_
    refine o_q rfl rfl (za3 rfl) ?_
    refine o_q rfl rfl (za3 rfl) ?_
    refine o_q rfl rfl (q_bneq Try.underlying4 rfl rfl) ?_
    refine o_q rfl rfl (za3 rfl) ?_
    refine byB (b16 != b21) (fun hb24 => ?_) (fun hb24 => ?_)
    · replace h := bb_t hb24 h
      refine @o_n _ _ _ _ _ _ _ _ _ _ _ 49 (za1 rfl rfl rfl (congrArg Value.bool hb24) rfl) (Eq.refl (some 49)) ?_
      refine @o_n _ _ _ _ _ _ _ _ _ _ _ 50 (za1 rfl rfl rfl (congrArg Value.bool hb24) rfl) (Eq.refl (some 50)) ?_
      refine @o_n _ _ _ _ _ _ _ _ _ _ _ 51 (za1 rfl rfl rfl (congrArg Value.bool hb24) rfl) (Eq.refl (some 51)) ?_
      refine @o_n _ _ _ _ _ _ _ _ _ _ _ 52 (za1 rfl rfl rfl (congrArg Value.bool hb24) rfl) (Eq.refl (some 52)) ?_
      refine o_q rfl rfl (zaa true (congrArg Value.bool hb24) rfl) ?_
      refine o_end ?_
      refine za2 ?_
      refine c_true rfl ?_
      refine c_seq ?_
      refine za0 ?_
      refine o_q rfl rfl (q_asg rfl) ?_
      refine o_end ?_
      refine za2 ?_
      refine c_ret ?_
      refine zaf ?_
      have e0_ := Option.some.inj h; clear h
      subst e0_
      exact x_r1 () Try.results4 (zaj rfl) rfl (fun w h => za5 [] (by decide) rfl w h)
    · replace h := bb_f hb24 h
      refine o_w (za4 rfl rfl rfl (congrArg Value.bool hb24)) rfl (za3 rfl) ?_
      refine o_w (za4 rfl rfl rfl (congrArg Value.bool hb24)) rfl (za3 rfl) ?_
      refine za8 h (fun b26 hx25 h => ?_) rfl
      refine o_ew (za4 rfl rfl rfl (congrArg Value.bool hb24)) (za9 0 Z Try.func15 N15 rfl rfl rfl (fun w P1 hF hB hS hT => laws_rSame.calls A17 c18 l15.length l15 A22 c23 l20.length l20 hB hF (hT 1 _ rfl).row (hT 1 _ rfl).cap (hT 0 _ rfl).row (hT 0 _ rfl).cap _ hx25)) (fun _ => ?_)
      refine o_w (za4 rfl rfl rfl (congrArg Value.bool hb24)) rfl (q_not rfl) ?_
      refine o_q rfl rfl (zaa false (congrArg Value.bool hb24) rfl) ?_
      refine o_end ?_
      refine za2 ?_
      refine zat _ rfl (fun hb27 => ?_) (fun hb27 => ?_)
      · replace hb27 := nt_t hb27
        replace h := bb_f hb27 h
        refine c_seq ?_
        refine za0 ?_
        refine o_q rfl rfl (q_asg rfl) ?_
        refine o_end ?_
        refine za2 ?_
        refine c_ret ?_
        refine zaf ?_
        have e0_ := Option.some.inj h; clear h
        subst e0_
        exact x_r1 () Try.results4 (zaj rfl) rfl (fun w h => za5 [] (by decide) rfl w h)
      · replace hb27 := nt_f hb27
        replace h := bb_t hb27 h
        refine zaq ?_
        refine za2 ?_
        refine c_seq ?_
        refine c_seq ?_
        refine za0 ?_
        refine o_q rfl rfl (za3 rfl) ?_
        refine o_q rfl rfl (q_not rfl) ?_
        refine o_end ?_
        refine za2 ?_
        refine zat _ rfl (fun hb28 => ?_) (fun hb28 => ?_)
        · replace hb28 := nt_t hb28
          replace h := bb_f hb28 h
          refine c_seq ?_
          refine za0 ?_
          refine o_q rfl rfl (q_ldB G27 Z27 rfl (fun w h => h.zac (i := 2) rfl) rfl) ?_
          refine bindE2 h (fun i30 b31 hx29 h => ?_) rfl
          refine o_e rfl (za9 0 Z Try.func20 N20 rfl rfl rfl (fun w P1 hF hB hS hT => impl_FewestRegisters.calls k i5 A8 c9 l6.length l6 A10 c11 l7.length l7 hB hF (hT 3 _ rfl).row (hT 3 _ rfl).cap (hT 4 _ rfl).row (hT 4 _ rfl).cap _ _ hx29)) (fun _ => ?_)
          refine o_q rfl rfl (za3 rfl) ?_
          refine o_q rfl rfl (q_ext rfl rfl) ?_
          refine o_q rfl rfl (q_ext rfl rfl) ?_
          refine o_q rfl rfl (q_asg rfl) ?_
          refine o_q rfl rfl (q_asg rfl) ?_
          refine o_end ?_
          refine za2 ?_
          refine c_seq ?_
          refine za0 ?_
          refine o_q rfl rfl (q_ldB G27 Z27 rfl (fun w h => h.zac (i := 2) rfl) rfl) ?_
          refine bindE2 h (fun i33 b34 hx32 h => ?_) rfl
          refine o_e rfl (za9 0 Z Try.func21 N21 rfl rfl rfl (fun w P1 hF hB hS hT => impl_CountOrders.calls k i5 A8 c9 l6.length l6 A10 c11 l7.length l7 hB hF (hT 3 _ rfl).row (hT 3 _ rfl).cap (hT 4 _ rfl).row (hT 4 _ rfl).cap _ _ hx32)) (fun _ => ?_)
          refine o_q rfl rfl (za3 rfl) ?_
          refine o_q rfl rfl (q_ext rfl rfl) ?_
          refine o_q rfl rfl (q_ext rfl rfl) ?_
          refine o_q rfl rfl (q_asg rfl) ?_
          refine o_q rfl rfl (q_asg rfl) ?_
          refine o_end ?_
          refine za2 ?_
          refine c_seq ?_
          refine za0 ?_
          refine o_q rfl rfl (za3 rfl) ?_
          refine o_q rfl rfl (q_not rfl) ?_
          refine o_q rfl rfl (za3 rfl) ?_
          refine byB b31 (fun hb35 => ?_) (fun hb35 => ?_)
          · replace h := bb_t hb35 h
            refine @o_n _ _ _ _ _ _ _ _ _ _ _ 69 (za1 rfl rfl rfl (congrArg (fun b => Value.bool (!(b))) hb35) rfl) (Eq.refl (some 69)) ?_
            refine @o_n _ _ _ _ _ _ _ _ _ _ _ 70 (za1 rfl rfl rfl (congrArg (fun b => Value.bool (!(b))) hb35) rfl) (Eq.refl (some 70)) ?_
            refine o_q rfl rfl (zaa false (congrArg (fun b => Value.bool (!(b))) hb35) rfl) ?_
            refine o_q rfl rfl (q_asg rfl) ?_
            refine o_end ?_
            refine za2 ?_
            refine c_ret ?_
            refine zaf ?_
            have e0_ := Option.some.inj h; clear h
            subst e0_
            exact x_r1 () Try.results4 (zaj rfl) rfl (fun w h => za5 [] (by decide) rfl w h)
          · replace h := bb_f hb35 h
            refine o_w (za4 rfl rfl rfl (congrArg (fun b => Value.bool (!(b))) hb35)) rfl (za3 rfl) ?_
            refine o_w (za4 rfl rfl rfl (congrArg (fun b => Value.bool (!(b))) hb35)) rfl (q_not rfl) ?_
            refine o_q rfl rfl (zaa true (congrArg (fun b => Value.bool (!(b))) hb35) rfl) ?_
            refine o_q rfl rfl (q_asg rfl) ?_
            refine o_end ?_
            refine za2 ?_
            refine c_ret ?_
            refine zaf ?_
            have e0_ := Option.some.inj h; clear h
            subst e0_
            exact x_r1 () Try.results4 (zaj rfl) rfl (fun w h => za5 [] (by decide) rfl w h)
        · replace hb28 := nt_f hb28
          replace h := bb_t hb28 h
          refine zaq ?_
          refine za2 ?_
          refine c_seq ?_
          refine za0 ?_
          refine o_q rfl rfl (q_ldB G27 Z27 rfl (fun w h => h.zac (i := 2) rfl) rfl) ?_
          refine bindE2 h (fun i37 b38 hx36 h => ?_) rfl
          refine o_e rfl (za9 0 Z Try.func20 N20 rfl rfl rfl (fun w P1 hF hB hS hT => impl_FewestRegisters.calls k i5 A8 c9 l6.length l6 A10 c11 l7.length l7 hB hF (hT 3 _ rfl).row (hT 3 _ rfl).cap (hT 4 _ rfl).row (hT 4 _ rfl).cap _ _ hx36)) (fun _ => ?_)
          refine o_q rfl rfl (za3 rfl) ?_
          refine o_q rfl rfl (q_ext rfl rfl) ?_
          refine o_q rfl rfl (q_ext rfl rfl) ?_
          refine o_q rfl rfl (q_asg rfl) ?_
          refine o_q rfl rfl (q_asg rfl) ?_
          refine o_end ?_
          refine za2 ?_
          refine c_seq ?_
          refine za0 ?_
          refine o_q rfl rfl (q_ldB G27 Z27 rfl (fun w h => h.zac (i := 2) rfl) rfl) ?_
          refine o_q rfl rfl (za3 rfl) ?_
          refine bindE4 h (fun i40 l41 l42 b43 hx39 h => ?_) rfl
          refine o_e rfl (za9 0 Z Try.func22 N22 rfl rfl rfl (fun w P1 hF hB hS hT => impl_ReorderSteps.calls k i5 A8 c9 l6.length l6 A10 c11 l7.length l7 A17 c18 l15.length l15 hB hF (hT 3 _ rfl).row (hT 3 _ rfl).cap (hT 4 _ rfl).row (hT 4 _ rfl).cap (hT 1 _ rfl).row (hT 1 _ rfl).cap _ _ _ _ hx39)) (cur4 (fun A44 c45 A46 c47 => ?_))
          refine o_q rfl rfl (za3 rfl) ?_
          refine o_q rfl rfl (q_ext rfl rfl) ?_
          refine o_q rfl rfl (q_ext rfl rfl) ?_
          refine o_e rfl (e_alloc V27 rfl) (fun g48 => ?_)
          refine o_e rfl (zaz (i := 0) rfl rfl rfl Z27 rfl rfl) (fun _ => ?_)
          refine o_q rfl rfl (q_asg rfl) ?_
          refine o_end ?_
          refine za2 ?_
          refine c_seq ?_
          refine za0 ?_
          refine o_q rfl rfl (q_ldB G27 Z27 rfl (fun w h => h.zac (i := 0) rfl) rfl) ?_
          refine bindE2 h (fun i51 b52 hx50 h => ?_) rfl
          refine o_e rfl (za9 0 Z Try.func23 N23 rfl rfl rfl (fun w P1 hF hB hS hT => impl_PressureOf.calls k i40 A44 c45 l41.length l41 A46 c47 l42.length l42 hB hF (hT 1 _ rfl).row (hT 1 _ rfl).cap (hT 2 _ rfl).row (hT 2 _ rfl).cap _ _ hx50)) (fun _ => ?_)
          refine o_q rfl rfl (za3 rfl) ?_
          refine o_q rfl rfl (q_ext rfl rfl) ?_
          refine o_q rfl rfl (q_ext rfl rfl) ?_
          refine o_q rfl rfl (q_asg rfl) ?_
          refine o_q rfl rfl (q_asg rfl) ?_
          refine o_end ?_
          refine za2 ?_
          refine c_seq ?_
          refine za0 ?_
          refine o_q rfl rfl (q_ldB G27 Z27 rfl (fun w h => h.zac (i := 5) rfl) rfl) ?_
          refine bindE2 h (fun i54 b55 hx53 h => ?_) rfl
          refine o_e rfl (za9 0 Z Try.func23 N23 rfl rfl rfl (fun w P1 hF hB hS hT => impl_PressureOf.calls k i5 A8 c9 l6.length l6 A10 c11 l7.length l7 hB hF (hT 6 _ rfl).row (hT 6 _ rfl).cap (hT 7 _ rfl).row (hT 7 _ rfl).cap _ _ hx53)) (fun _ => ?_)
          refine o_q rfl rfl (za3 rfl) ?_
          refine o_q rfl rfl (q_ext rfl rfl) ?_
          refine o_q rfl rfl (q_ext rfl rfl) ?_
          refine o_q rfl rfl (q_asg rfl) ?_
          refine o_q rfl rfl (q_asg rfl) ?_
          refine o_end ?_
          refine za2 ?_
          refine c_seq ?_
          refine za0 ?_
          refine o_q rfl rfl (q_ldB G27 Z27 rfl (fun w h => h.zac (i := 5) rfl) rfl) ?_
          refine bindE2 h (fun i57 b58 hx56 h => ?_) rfl
          refine o_e rfl (za9 0 Z Try.func21 N21 rfl rfl rfl (fun w P1 hF hB hS hT => impl_CountOrders.calls k i5 A8 c9 l6.length l6 A10 c11 l7.length l7 hB hF (hT 6 _ rfl).row (hT 6 _ rfl).cap (hT 7 _ rfl).row (hT 7 _ rfl).cap _ _ hx56)) (fun _ => ?_)
          refine o_q rfl rfl (za3 rfl) ?_
          refine o_q rfl rfl (q_ext rfl rfl) ?_
          refine o_q rfl rfl (q_ext rfl rfl) ?_
          refine o_q rfl rfl (q_asg rfl) ?_
          refine o_q rfl rfl (q_asg rfl) ?_
          refine o_end ?_
          refine za2 ?_
          refine c_seq ?_
          refine za0 ?_
          refine o_q rfl rfl (q_ldB G27 Z27 rfl (fun w h => h.zac (i := 5) rfl) rfl) ?_
          refine bindE2 h (fun i60 b61 hx59 h => ?_) rfl
          refine o_e rfl (za9 0 Z Try.func10 N10 rfl rfl rfl (fun w P1 hF hB hS hT => impl_OrdersWithin.calls k i5 A8 c9 l6.length l6 A10 c11 l7.length l7 46 hB hF (hT 6 _ rfl).row (hT 6 _ rfl).cap (hT 7 _ rfl).row (hT 7 _ rfl).cap _ _ hx59)) (fun _ => ?_)
          refine o_q rfl rfl (za3 rfl) ?_
          refine o_q rfl rfl (q_ext rfl rfl) ?_
          refine o_q rfl rfl (q_ext rfl rfl) ?_
          refine o_q rfl rfl (q_asg rfl) ?_
          refine o_q rfl rfl (q_asg rfl) ?_
          refine o_end ?_
          refine za2 ?_
          refine c_seq ?_
          refine za0 ?_
          refine o_q rfl rfl (q_ldB G27 Z27 rfl (fun w h => h.zac (i := 5) rfl) rfl) ?_
          refine o_q rfl rfl (za3 rfl) ?_
          refine bindE2 h (fun i63 b64 hx62 h => ?_) rfl
          refine o_e rfl (za9 0 Z Try.func10 N10 rfl rfl rfl (fun w P1 hF hB hS hT => impl_OrdersWithin.calls k i5 A8 c9 l6.length l6 A10 c11 l7.length l7 i37 hB hF (hT 6 _ rfl).row (hT 6 _ rfl).cap (hT 7 _ rfl).row (hT 7 _ rfl).cap _ _ hx62)) (fun _ => ?_)
          refine o_q rfl rfl (za3 rfl) ?_
          refine o_q rfl rfl (q_ext rfl rfl) ?_
          refine o_q rfl rfl (q_ext rfl rfl) ?_
          refine o_q rfl rfl (q_asg rfl) ?_
          refine o_q rfl rfl (q_asg rfl) ?_
          refine o_end ?_
          refine za2 ?_
          refine c_seq ?_
          refine za0 ?_
          refine o_q rfl rfl (q_ldB G27 Z27 rfl (fun w h => h.zac (i := 5) rfl) rfl) ?_
          refine o_q rfl rfl (za3 rfl) ?_
          refine o_q rfl rfl (q_sub64 rfl rfl) ?_
          refine bindE2 h (fun i66 b67 hx65 h => ?_) rfl
          refine o_e rfl (za9 0 Z Try.func10 N10 rfl rfl rfl (fun w P1 hF hB hS hT => impl_OrdersWithin.calls k i5 A8 c9 l6.length l6 A10 c11 l7.length l7 (w64 (i37 - 1)) hB hF (hT 6 _ rfl).row (hT 6 _ rfl).cap (hT 7 _ rfl).row (hT 7 _ rfl).cap _ _ hx65)) (fun _ => ?_)
          refine o_q rfl rfl (za3 rfl) ?_
          refine o_q rfl rfl (q_ext rfl rfl) ?_
          refine o_q rfl rfl (q_ext rfl rfl) ?_
          refine o_q rfl rfl (q_asg rfl) ?_
          refine o_q rfl rfl (q_asg rfl) ?_
          refine o_end ?_
          refine za2 ?_
          refine c_seq ?_
          refine za0 ?_
          refine o_q rfl rfl (za3 rfl) ?_
          refine o_q rfl rfl (za3 rfl) ?_
          refine byB b38 (fun hb68 => ?_) (fun hb68 => ?_)
          · replace h := bb_t hb68 h
            refine o_w (za4 rfl rfl rfl (congrArg Value.bool hb68)) rfl (za3 rfl) ?_
            refine o_q rfl rfl (zaa true (congrArg Value.bool hb68) rfl) ?_
            refine o_q rfl rfl (za3 rfl) ?_
            refine byB b43 (fun hb69 => ?_) (fun hb69 => ?_)
            · replace h := bb_t hb69 h
              refine o_w (za4 rfl rfl rfl (congrArg Value.bool hb69)) rfl (za3 rfl) ?_
              refine o_q rfl rfl (zaa true (congrArg Value.bool hb69) rfl) ?_
              refine o_q rfl rfl (za3 rfl) ?_
              refine byB b52 (fun hb70 => ?_) (fun hb70 => ?_)
              · replace h := bb_t hb70 h
                refine o_w (za4 rfl rfl rfl (congrArg Value.bool hb70)) rfl (za3 rfl) ?_
                refine o_q rfl rfl (zaa true (congrArg Value.bool hb70) rfl) ?_
                refine o_q rfl rfl (za3 rfl) ?_
                refine byB b55 (fun hb71 => ?_) (fun hb71 => ?_)
                · replace h := bb_t hb71 h
                  refine o_w (za4 rfl rfl rfl (congrArg Value.bool hb71)) rfl (za3 rfl) ?_
                  refine o_q rfl rfl (zaa true (congrArg Value.bool hb71) rfl) ?_
                  refine o_q rfl rfl (za3 rfl) ?_
                  refine byB b58 (fun hb72 => ?_) (fun hb72 => ?_)
                  · replace h := bb_t hb72 h
                    refine o_w (za4 rfl rfl rfl (congrArg Value.bool hb72)) rfl (za3 rfl) ?_
                    refine o_q rfl rfl (zaa true (congrArg Value.bool hb72) rfl) ?_
                    refine o_q rfl rfl (za3 rfl) ?_
                    refine byB b61 (fun hb73 => ?_) (fun hb73 => ?_)
                    · replace h := bb_t hb73 h
                      refine o_w (za4 rfl rfl rfl (congrArg Value.bool hb73)) rfl (za3 rfl) ?_
                      refine o_q rfl rfl (zaa true (congrArg Value.bool hb73) rfl) ?_
                      refine o_q rfl rfl (za3 rfl) ?_
                      refine byB b64 (fun hb74 => ?_) (fun hb74 => ?_)
                      · replace h := bb_t hb74 h
                        refine o_w (za4 rfl rfl rfl (congrArg Value.bool hb74)) rfl (za3 rfl) ?_
                        refine o_q rfl rfl (zaa true (congrArg Value.bool hb74) rfl) ?_
                        refine o_q rfl rfl (za3 rfl) ?_
                        refine byB b67 (fun hb75 => ?_) (fun hb75 => ?_)
                        · replace h := bb_t hb75 h
                          refine o_w (za4 rfl rfl rfl (congrArg Value.bool hb75)) rfl (za3 rfl) ?_
                          refine o_w (za4 rfl rfl rfl (congrArg Value.bool hb75)) rfl (za3 rfl) ?_
                          refine o_w (za4 rfl rfl rfl (congrArg Value.bool hb75)) rfl (q_eql rfl rfl) ?_
                          refine o_q rfl rfl (zaa true (congrArg Value.bool hb75) rfl) ?_
                          refine o_q rfl rfl (za3 rfl) ?_
                          refine byB (decide (i51 = i37)) (fun hb76 => ?_) (fun hb76 => ?_)
                          · replace h := br_t hb76 h
                            refine o_w (za4 rfl rfl rfl (congrArg Value.bool hb76)) rfl (za3 rfl) ?_
                            refine o_w (za4 rfl rfl rfl (congrArg Value.bool hb76)) rfl (za3 rfl) ?_
                            refine o_w (za4 rfl rfl rfl (congrArg Value.bool hb76)) rfl (q_geq rfl rfl) ?_
                            refine o_q rfl rfl (zaa true (congrArg Value.bool hb76) rfl) ?_
                            refine o_q rfl rfl (za3 rfl) ?_
                            refine byB (decide (i37 ≤ i54)) (fun hb77 => ?_) (fun hb77 => ?_)
                            · replace h := br_t hb77 h
                              refine o_w (za4 rfl rfl rfl (congrArg Value.bool hb77)) rfl (za3 rfl) ?_
                              refine o_w (za4 rfl rfl rfl (congrArg Value.bool hb77)) rfl (za3 rfl) ?_
                              refine o_w (za4 rfl rfl rfl (congrArg Value.bool hb77)) rfl (q_eql rfl rfl) ?_
                              refine o_q rfl rfl (zaa true (congrArg Value.bool hb77) rfl) ?_
                              refine o_q rfl rfl (za3 rfl) ?_
                              refine byB (decide (i60 = i57)) (fun hb78 => ?_) (fun hb78 => ?_)
                              · replace h := br_t hb78 h
                                refine o_w (za4 rfl rfl rfl (congrArg Value.bool hb78)) rfl (za3 rfl) ?_
                                refine o_w (za4 rfl rfl rfl (congrArg Value.bool hb78)) rfl (q_gtr rfl rfl) ?_
                                refine o_q rfl rfl (zaa true (congrArg Value.bool hb78) rfl) ?_
                                refine o_q rfl rfl (za3 rfl) ?_
                                refine byB (decide (0 < i63)) (fun hb79 => ?_) (fun hb79 => ?_)
                                · replace h := br_t hb79 h
                                  refine o_w (za4 rfl rfl rfl (congrArg Value.bool hb79)) rfl (za3 rfl) ?_
                                  refine o_w (za4 rfl rfl rfl (congrArg Value.bool hb79)) rfl (q_eql rfl rfl) ?_
                                  refine o_q rfl rfl (zaa true (congrArg Value.bool hb79) rfl) ?_
                                  refine o_q rfl rfl (za3 rfl) ?_
                                  refine byB (decide (i66 = 0)) (fun hb80 => ?_) (fun hb80 => ?_)
                                  · replace h := br_t hb80 h
                                    refine o_w (za4 rfl rfl rfl (congrArg Value.bool hb80)) rfl (za3 rfl) ?_
                                    refine o_w (za4 rfl rfl rfl (congrArg Value.bool hb80)) rfl (q_gtr rfl rfl) ?_
                                    refine o_q rfl rfl (zaa true (congrArg Value.bool hb80) rfl) ?_
                                    refine o_q rfl rfl (q_asg rfl) ?_
                                    refine o_end ?_
                                    refine za2 ?_
                                    refine c_ret ?_
                                    have e0_ := Option.some.inj h; clear h
                                    subst e0_
                                    exact x_r1 () Try.results4 (zaj rfl) rfl (fun w h => za5 [] (by decide) rfl w h)
                                  · replace h := br_f hb80 h
                                    refine @o_n _ _ _ _ _ _ _ _ _ _ _ 162 (za1 rfl rfl rfl (congrArg Value.bool hb80) rfl) (Eq.refl (some 162)) ?_
                                    refine @o_n _ _ _ _ _ _ _ _ _ _ _ 163 (za1 rfl rfl rfl (congrArg Value.bool hb80) rfl) (Eq.refl (some 163)) ?_
                                    refine o_q rfl rfl (zaa false (congrArg Value.bool hb80) rfl) ?_
                                    refine o_q rfl rfl (q_asg rfl) ?_
                                    refine o_end ?_
                                    refine za2 ?_
                                    refine c_ret ?_
                                    have e0_ := Option.some.inj h; clear h
                                    subst e0_
                                    exact x_r1 () Try.results4 (zaj rfl) rfl (fun w h => za5 [] (by decide) rfl w h)
                                · replace h := br_f hb79 h
                                  refine @o_n _ _ _ _ _ _ _ _ _ _ _ 158 (za1 rfl rfl rfl (congrArg Value.bool hb79) rfl) (Eq.refl (some 158)) ?_
                                  refine @o_n _ _ _ _ _ _ _ _ _ _ _ 159 (za1 rfl rfl rfl (congrArg Value.bool hb79) rfl) (Eq.refl (some 159)) ?_
                                  refine o_q rfl rfl (zaa false (congrArg Value.bool hb79) rfl) ?_
                                  refine o_q rfl rfl (za3 rfl) ?_
                                  refine @o_n _ _ _ _ _ _ _ _ _ _ _ 162 (za1 rfl rfl rfl rfl rfl) (Eq.refl (some 162)) ?_
                                  refine @o_n _ _ _ _ _ _ _ _ _ _ _ 163 (za1 rfl rfl rfl rfl rfl) (Eq.refl (some 163)) ?_
                                  refine o_q rfl rfl (zaa false rfl rfl) ?_
                                  refine o_q rfl rfl (q_asg rfl) ?_
                                  refine o_end ?_
                                  refine za2 ?_
                                  refine c_ret ?_
                                  have e0_ := Option.some.inj h; clear h
                                  subst e0_
                                  exact x_r1 () Try.results4 (zaj rfl) rfl (fun w h => za5 [] (by decide) rfl w h)
                              · replace h := br_f hb78 h
                                refine @o_n _ _ _ _ _ _ _ _ _ _ _ 154 (za1 rfl rfl rfl (congrArg Value.bool hb78) rfl) (Eq.refl (some 154)) ?_
                                refine @o_n _ _ _ _ _ _ _ _ _ _ _ 155 (za1 rfl rfl rfl (congrArg Value.bool hb78) rfl) (Eq.refl (some 155)) ?_
                                refine o_q rfl rfl (zaa false (congrArg Value.bool hb78) rfl) ?_
                                refine o_q rfl rfl (za3 rfl) ?_
                                refine @o_n _ _ _ _ _ _ _ _ _ _ _ 158 (za1 rfl rfl rfl rfl rfl) (Eq.refl (some 158)) ?_
                                refine @o_n _ _ _ _ _ _ _ _ _ _ _ 159 (za1 rfl rfl rfl rfl rfl) (Eq.refl (some 159)) ?_
                                refine o_q rfl rfl (zaa false rfl rfl) ?_
                                refine o_q rfl rfl (za3 rfl) ?_
                                refine @o_n _ _ _ _ _ _ _ _ _ _ _ 162 (za1 rfl rfl rfl rfl rfl) (Eq.refl (some 162)) ?_
                                refine @o_n _ _ _ _ _ _ _ _ _ _ _ 163 (za1 rfl rfl rfl rfl rfl) (Eq.refl (some 163)) ?_
                                refine o_q rfl rfl (zaa false rfl rfl) ?_
                                refine o_q rfl rfl (q_asg rfl) ?_
                                refine o_end ?_
                                refine za2 ?_
                                refine c_ret ?_
                                have e0_ := Option.some.inj h; clear h
                                subst e0_
                                exact x_r1 () Try.results4 (zaj rfl) rfl (fun w h => za5 [] (by decide) rfl w h)
                            · replace h := br_f hb77 h
                              refine @o_n _ _ _ _ _ _ _ _ _ _ _ 149 (za1 rfl rfl rfl (congrArg Value.bool hb77) rfl) (Eq.refl (some 149)) ?_
                              refine @o_n _ _ _ _ _ _ _ _ _ _ _ 150 (za1 rfl rfl rfl (congrArg Value.bool hb77) rfl) (Eq.refl (some 150)) ?_
                              refine @o_n _ _ _ _ _ _ _ _ _ _ _ 151 (za1 rfl rfl rfl (congrArg Value.bool hb77) rfl) (Eq.refl (some 151)) ?_
                              refine o_q rfl rfl (zaa false (congrArg Value.bool hb77) rfl) ?_
                              refine o_q rfl rfl (za3 rfl) ?_
                              refine @o_n _ _ _ _ _ _ _ _ _ _ _ 154 (za1 rfl rfl rfl rfl rfl) (Eq.refl (some 154)) ?_
                              refine @o_n _ _ _ _ _ _ _ _ _ _ _ 155 (za1 rfl rfl rfl rfl rfl) (Eq.refl (some 155)) ?_
                              refine o_q rfl rfl (zaa false rfl rfl) ?_
                              refine o_q rfl rfl (za3 rfl) ?_
                              refine @o_n _ _ _ _ _ _ _ _ _ _ _ 158 (za1 rfl rfl rfl rfl rfl) (Eq.refl (some 158)) ?_
                              refine @o_n _ _ _ _ _ _ _ _ _ _ _ 159 (za1 rfl rfl rfl rfl rfl) (Eq.refl (some 159)) ?_
                              refine o_q rfl rfl (zaa false rfl rfl) ?_
                              refine o_q rfl rfl (za3 rfl) ?_
                              refine @o_n _ _ _ _ _ _ _ _ _ _ _ 162 (za1 rfl rfl rfl rfl rfl) (Eq.refl (some 162)) ?_
                              refine @o_n _ _ _ _ _ _ _ _ _ _ _ 163 (za1 rfl rfl rfl rfl rfl) (Eq.refl (some 163)) ?_
                              refine o_q rfl rfl (zaa false rfl rfl) ?_
                              refine o_q rfl rfl (q_asg rfl) ?_
                              refine o_end ?_
                              refine za2 ?_
                              refine c_ret ?_
                              have e0_ := Option.some.inj h; clear h
                              subst e0_
                              exact x_r1 () Try.results4 (zaj rfl) rfl (fun w h => za5 [] (by decide) rfl w h)
                          · replace h := br_f hb76 h
                            refine @o_n _ _ _ _ _ _ _ _ _ _ _ 144 (za1 rfl rfl rfl (congrArg Value.bool hb76) rfl) (Eq.refl (some 144)) ?_
                            refine @o_n _ _ _ _ _ _ _ _ _ _ _ 145 (za1 rfl rfl rfl (congrArg Value.bool hb76) rfl) (Eq.refl (some 145)) ?_
                            refine @o_n _ _ _ _ _ _ _ _ _ _ _ 146 (za1 rfl rfl rfl (congrArg Value.bool hb76) rfl) (Eq.refl (some 146)) ?_
                            refine o_q rfl rfl (zaa false (congrArg Value.bool hb76) rfl) ?_
                            refine o_q rfl rfl (za3 rfl) ?_
                            refine @o_n _ _ _ _ _ _ _ _ _ _ _ 149 (za1 rfl rfl rfl rfl rfl) (Eq.refl (some 149)) ?_
                            refine @o_n _ _ _ _ _ _ _ _ _ _ _ 150 (za1 rfl rfl rfl rfl rfl) (Eq.refl (some 150)) ?_
                            refine @o_n _ _ _ _ _ _ _ _ _ _ _ 151 (za1 rfl rfl rfl rfl rfl) (Eq.refl (some 151)) ?_
                            refine o_q rfl rfl (zaa false rfl rfl) ?_
                            refine o_q rfl rfl (za3 rfl) ?_
                            refine @o_n _ _ _ _ _ _ _ _ _ _ _ 154 (za1 rfl rfl rfl rfl rfl) (Eq.refl (some 154)) ?_
                            refine @o_n _ _ _ _ _ _ _ _ _ _ _ 155 (za1 rfl rfl rfl rfl rfl) (Eq.refl (some 155)) ?_
                            refine o_q rfl rfl (zaa false rfl rfl) ?_
                            refine o_q rfl rfl (za3 rfl) ?_
                            refine @o_n _ _ _ _ _ _ _ _ _ _ _ 158 (za1 rfl rfl rfl rfl rfl) (Eq.refl (some 158)) ?_
                            refine @o_n _ _ _ _ _ _ _ _ _ _ _ 159 (za1 rfl rfl rfl rfl rfl) (Eq.refl (some 159)) ?_
                            refine o_q rfl rfl (zaa false rfl rfl) ?_
                            refine o_q rfl rfl (za3 rfl) ?_
                            refine @o_n _ _ _ _ _ _ _ _ _ _ _ 162 (za1 rfl rfl rfl rfl rfl) (Eq.refl (some 162)) ?_
                            refine @o_n _ _ _ _ _ _ _ _ _ _ _ 163 (za1 rfl rfl rfl rfl rfl) (Eq.refl (some 163)) ?_
                            refine o_q rfl rfl (zaa false rfl rfl) ?_
                            refine o_q rfl rfl (q_asg rfl) ?_
                            refine o_end ?_
                            refine za2 ?_
                            refine c_ret ?_
                            have e0_ := Option.some.inj h; clear h
                            subst e0_
                            exact x_r1 () Try.results4 (zaj rfl) rfl (fun w h => za5 [] (by decide) rfl w h)
                        · replace h := bb_f hb75 h
                          refine @o_n _ _ _ _ _ _ _ _ _ _ _ 139 (za1 rfl rfl rfl (congrArg Value.bool hb75) rfl) (Eq.refl (some 139)) ?_
                          refine @o_n _ _ _ _ _ _ _ _ _ _ _ 140 (za1 rfl rfl rfl (congrArg Value.bool hb75) rfl) (Eq.refl (some 140)) ?_
                          refine @o_n _ _ _ _ _ _ _ _ _ _ _ 141 (za1 rfl rfl rfl (congrArg Value.bool hb75) rfl) (Eq.refl (some 141)) ?_
                          refine o_q rfl rfl (zaa false (congrArg Value.bool hb75) rfl) ?_
                          refine o_q rfl rfl (za3 rfl) ?_
                          refine @o_n _ _ _ _ _ _ _ _ _ _ _ 144 (za1 rfl rfl rfl rfl rfl) (Eq.refl (some 144)) ?_
                          refine @o_n _ _ _ _ _ _ _ _ _ _ _ 145 (za1 rfl rfl rfl rfl rfl) (Eq.refl (some 145)) ?_
                          refine @o_n _ _ _ _ _ _ _ _ _ _ _ 146 (za1 rfl rfl rfl rfl rfl) (Eq.refl (some 146)) ?_
                          refine o_q rfl rfl (zaa false rfl rfl) ?_
                          refine o_q rfl rfl (za3 rfl) ?_
                          refine @o_n _ _ _ _ _ _ _ _ _ _ _ 149 (za1 rfl rfl rfl rfl rfl) (Eq.refl (some 149)) ?_
                          refine @o_n _ _ _ _ _ _ _ _ _ _ _ 150 (za1 rfl rfl rfl rfl rfl) (Eq.refl (some 150)) ?_
                          refine @o_n _ _ _ _ _ _ _ _ _ _ _ 151 (za1 rfl rfl rfl rfl rfl) (Eq.refl (some 151)) ?_
                          refine o_q rfl rfl (zaa false rfl rfl) ?_
                          refine o_q rfl rfl (za3 rfl) ?_
                          refine @o_n _ _ _ _ _ _ _ _ _ _ _ 154 (za1 rfl rfl rfl rfl rfl) (Eq.refl (some 154)) ?_
                          refine @o_n _ _ _ _ _ _ _ _ _ _ _ 155 (za1 rfl rfl rfl rfl rfl) (Eq.refl (some 155)) ?_
                          refine o_q rfl rfl (zaa false rfl rfl) ?_
                          refine o_q rfl rfl (za3 rfl) ?_
                          refine @o_n _ _ _ _ _ _ _ _ _ _ _ 158 (za1 rfl rfl rfl rfl rfl) (Eq.refl (some 158)) ?_
                          refine @o_n _ _ _ _ _ _ _ _ _ _ _ 159 (za1 rfl rfl rfl rfl rfl) (Eq.refl (some 159)) ?_
                          refine o_q rfl rfl (zaa false rfl rfl) ?_
                          refine o_q rfl rfl (za3 rfl) ?_
                          refine @o_n _ _ _ _ _ _ _ _ _ _ _ 162 (za1 rfl rfl rfl rfl rfl) (Eq.refl (some 162)) ?_
                          refine @o_n _ _ _ _ _ _ _ _ _ _ _ 163 (za1 rfl rfl rfl rfl rfl) (Eq.refl (some 163)) ?_
                          refine o_q rfl rfl (zaa false rfl rfl) ?_
                          refine o_q rfl rfl (q_asg rfl) ?_
                          refine o_end ?_
                          refine za2 ?_
                          refine c_ret ?_
                          have e0_ := Option.some.inj h; clear h
                          subst e0_
                          exact x_r1 () Try.results4 (zaj rfl) rfl (fun w h => za5 [] (by decide) rfl w h)
                      · replace h := bb_f hb74 h
                        refine @o_n _ _ _ _ _ _ _ _ _ _ _ 136 (za1 rfl rfl rfl (congrArg Value.bool hb74) rfl) (Eq.refl (some 136)) ?_
                        refine o_q rfl rfl (zaa false (congrArg Value.bool hb74) rfl) ?_
                        refine o_q rfl rfl (za3 rfl) ?_
                        refine @o_n _ _ _ _ _ _ _ _ _ _ _ 139 (za1 rfl rfl rfl rfl rfl) (Eq.refl (some 139)) ?_
                        refine @o_n _ _ _ _ _ _ _ _ _ _ _ 140 (za1 rfl rfl rfl rfl rfl) (Eq.refl (some 140)) ?_
                        refine @o_n _ _ _ _ _ _ _ _ _ _ _ 141 (za1 rfl rfl rfl rfl rfl) (Eq.refl (some 141)) ?_
                        refine o_q rfl rfl (zaa false rfl rfl) ?_
                        refine o_q rfl rfl (za3 rfl) ?_
                        refine @o_n _ _ _ _ _ _ _ _ _ _ _ 144 (za1 rfl rfl rfl rfl rfl) (Eq.refl (some 144)) ?_
                        refine @o_n _ _ _ _ _ _ _ _ _ _ _ 145 (za1 rfl rfl rfl rfl rfl) (Eq.refl (some 145)) ?_
                        refine @o_n _ _ _ _ _ _ _ _ _ _ _ 146 (za1 rfl rfl rfl rfl rfl) (Eq.refl (some 146)) ?_
                        refine o_q rfl rfl (zaa false rfl rfl) ?_
                        refine o_q rfl rfl (za3 rfl) ?_
                        refine @o_n _ _ _ _ _ _ _ _ _ _ _ 149 (za1 rfl rfl rfl rfl rfl) (Eq.refl (some 149)) ?_
                        refine @o_n _ _ _ _ _ _ _ _ _ _ _ 150 (za1 rfl rfl rfl rfl rfl) (Eq.refl (some 150)) ?_
                        refine @o_n _ _ _ _ _ _ _ _ _ _ _ 151 (za1 rfl rfl rfl rfl rfl) (Eq.refl (some 151)) ?_
                        refine o_q rfl rfl (zaa false rfl rfl) ?_
                        refine o_q rfl rfl (za3 rfl) ?_
                        refine @o_n _ _ _ _ _ _ _ _ _ _ _ 154 (za1 rfl rfl rfl rfl rfl) (Eq.refl (some 154)) ?_
                        refine @o_n _ _ _ _ _ _ _ _ _ _ _ 155 (za1 rfl rfl rfl rfl rfl) (Eq.refl (some 155)) ?_
                        refine o_q rfl rfl (zaa false rfl rfl) ?_
                        refine o_q rfl rfl (za3 rfl) ?_
                        refine @o_n _ _ _ _ _ _ _ _ _ _ _ 158 (za1 rfl rfl rfl rfl rfl) (Eq.refl (some 158)) ?_
                        refine @o_n _ _ _ _ _ _ _ _ _ _ _ 159 (za1 rfl rfl rfl rfl rfl) (Eq.refl (some 159)) ?_
                        refine o_q rfl rfl (zaa false rfl rfl) ?_
                        refine o_q rfl rfl (za3 rfl) ?_
                        refine @o_n _ _ _ _ _ _ _ _ _ _ _ 162 (za1 rfl rfl rfl rfl rfl) (Eq.refl (some 162)) ?_
                        refine @o_n _ _ _ _ _ _ _ _ _ _ _ 163 (za1 rfl rfl rfl rfl rfl) (Eq.refl (some 163)) ?_
                        refine o_q rfl rfl (zaa false rfl rfl) ?_
                        refine o_q rfl rfl (q_asg rfl) ?_
                        refine o_end ?_
                        refine za2 ?_
                        refine c_ret ?_
                        have e0_ := Option.some.inj h; clear h
                        subst e0_
                        exact x_r1 () Try.results4 (zaj rfl) rfl (fun w h => za5 [] (by decide) rfl w h)
                    · replace h := bb_f hb73 h
                      refine @o_n _ _ _ _ _ _ _ _ _ _ _ 133 (za1 rfl rfl rfl (congrArg Value.bool hb73) rfl) (Eq.refl (some 133)) ?_
                      refine o_q rfl rfl (zaa false (congrArg Value.bool hb73) rfl) ?_
                      refine o_q rfl rfl (za3 rfl) ?_
                      refine @o_n _ _ _ _ _ _ _ _ _ _ _ 136 (za1 rfl rfl rfl rfl rfl) (Eq.refl (some 136)) ?_
                      refine o_q rfl rfl (zaa false rfl rfl) ?_
                      refine o_q rfl rfl (za3 rfl) ?_
                      refine @o_n _ _ _ _ _ _ _ _ _ _ _ 139 (za1 rfl rfl rfl rfl rfl) (Eq.refl (some 139)) ?_
                      refine @o_n _ _ _ _ _ _ _ _ _ _ _ 140 (za1 rfl rfl rfl rfl rfl) (Eq.refl (some 140)) ?_
                      refine @o_n _ _ _ _ _ _ _ _ _ _ _ 141 (za1 rfl rfl rfl rfl rfl) (Eq.refl (some 141)) ?_
                      refine o_q rfl rfl (zaa false rfl rfl) ?_
                      refine o_q rfl rfl (za3 rfl) ?_
                      refine @o_n _ _ _ _ _ _ _ _ _ _ _ 144 (za1 rfl rfl rfl rfl rfl) (Eq.refl (some 144)) ?_
                      refine @o_n _ _ _ _ _ _ _ _ _ _ _ 145 (za1 rfl rfl rfl rfl rfl) (Eq.refl (some 145)) ?_
                      refine @o_n _ _ _ _ _ _ _ _ _ _ _ 146 (za1 rfl rfl rfl rfl rfl) (Eq.refl (some 146)) ?_
                      refine o_q rfl rfl (zaa false rfl rfl) ?_
                      refine o_q rfl rfl (za3 rfl) ?_
                      refine @o_n _ _ _ _ _ _ _ _ _ _ _ 149 (za1 rfl rfl rfl rfl rfl) (Eq.refl (some 149)) ?_
                      refine @o_n _ _ _ _ _ _ _ _ _ _ _ 150 (za1 rfl rfl rfl rfl rfl) (Eq.refl (some 150)) ?_
                      refine @o_n _ _ _ _ _ _ _ _ _ _ _ 151 (za1 rfl rfl rfl rfl rfl) (Eq.refl (some 151)) ?_
                      refine o_q rfl rfl (zaa false rfl rfl) ?_
                      refine o_q rfl rfl (za3 rfl) ?_
                      refine @o_n _ _ _ _ _ _ _ _ _ _ _ 154 (za1 rfl rfl rfl rfl rfl) (Eq.refl (some 154)) ?_
                      refine @o_n _ _ _ _ _ _ _ _ _ _ _ 155 (za1 rfl rfl rfl rfl rfl) (Eq.refl (some 155)) ?_
                      refine o_q rfl rfl (zaa false rfl rfl) ?_
                      refine o_q rfl rfl (za3 rfl) ?_
                      refine @o_n _ _ _ _ _ _ _ _ _ _ _ 158 (za1 rfl rfl rfl rfl rfl) (Eq.refl (some 158)) ?_
                      refine @o_n _ _ _ _ _ _ _ _ _ _ _ 159 (za1 rfl rfl rfl rfl rfl) (Eq.refl (some 159)) ?_
                      refine o_q rfl rfl (zaa false rfl rfl) ?_
                      refine o_q rfl rfl (za3 rfl) ?_
                      refine @o_n _ _ _ _ _ _ _ _ _ _ _ 162 (za1 rfl rfl rfl rfl rfl) (Eq.refl (some 162)) ?_
                      refine @o_n _ _ _ _ _ _ _ _ _ _ _ 163 (za1 rfl rfl rfl rfl rfl) (Eq.refl (some 163)) ?_
                      refine o_q rfl rfl (zaa false rfl rfl) ?_
                      refine o_q rfl rfl (q_asg rfl) ?_
                      refine o_end ?_
                      refine za2 ?_
                      refine c_ret ?_
                      have e0_ := Option.some.inj h; clear h
                      subst e0_
                      exact x_r1 () Try.results4 (zaj rfl) rfl (fun w h => za5 [] (by decide) rfl w h)
                  · replace h := bb_f hb72 h
                    refine @o_n _ _ _ _ _ _ _ _ _ _ _ 130 (za1 rfl rfl rfl (congrArg Value.bool hb72) rfl) (Eq.refl (some 130)) ?_
                    refine o_q rfl rfl (zaa false (congrArg Value.bool hb72) rfl) ?_
                    refine o_q rfl rfl (za3 rfl) ?_
                    refine @o_n _ _ _ _ _ _ _ _ _ _ _ 133 (za1 rfl rfl rfl rfl rfl) (Eq.refl (some 133)) ?_
                    refine o_q rfl rfl (zaa false rfl rfl) ?_
                    refine o_q rfl rfl (za3 rfl) ?_
                    refine @o_n _ _ _ _ _ _ _ _ _ _ _ 136 (za1 rfl rfl rfl rfl rfl) (Eq.refl (some 136)) ?_
                    refine o_q rfl rfl (zaa false rfl rfl) ?_
                    refine o_q rfl rfl (za3 rfl) ?_
                    refine @o_n _ _ _ _ _ _ _ _ _ _ _ 139 (za1 rfl rfl rfl rfl rfl) (Eq.refl (some 139)) ?_
                    refine @o_n _ _ _ _ _ _ _ _ _ _ _ 140 (za1 rfl rfl rfl rfl rfl) (Eq.refl (some 140)) ?_
                    refine @o_n _ _ _ _ _ _ _ _ _ _ _ 141 (za1 rfl rfl rfl rfl rfl) (Eq.refl (some 141)) ?_
                    refine o_q rfl rfl (zaa false rfl rfl) ?_
                    refine o_q rfl rfl (za3 rfl) ?_
                    refine @o_n _ _ _ _ _ _ _ _ _ _ _ 144 (za1 rfl rfl rfl rfl rfl) (Eq.refl (some 144)) ?_
                    refine @o_n _ _ _ _ _ _ _ _ _ _ _ 145 (za1 rfl rfl rfl rfl rfl) (Eq.refl (some 145)) ?_
                    refine @o_n _ _ _ _ _ _ _ _ _ _ _ 146 (za1 rfl rfl rfl rfl rfl) (Eq.refl (some 146)) ?_
                    refine o_q rfl rfl (zaa false rfl rfl) ?_
                    refine o_q rfl rfl (za3 rfl) ?_
                    refine @o_n _ _ _ _ _ _ _ _ _ _ _ 149 (za1 rfl rfl rfl rfl rfl) (Eq.refl (some 149)) ?_
                    refine @o_n _ _ _ _ _ _ _ _ _ _ _ 150 (za1 rfl rfl rfl rfl rfl) (Eq.refl (some 150)) ?_
                    refine @o_n _ _ _ _ _ _ _ _ _ _ _ 151 (za1 rfl rfl rfl rfl rfl) (Eq.refl (some 151)) ?_
                    refine o_q rfl rfl (zaa false rfl rfl) ?_
                    refine o_q rfl rfl (za3 rfl) ?_
                    refine @o_n _ _ _ _ _ _ _ _ _ _ _ 154 (za1 rfl rfl rfl rfl rfl) (Eq.refl (some 154)) ?_
                    refine @o_n _ _ _ _ _ _ _ _ _ _ _ 155 (za1 rfl rfl rfl rfl rfl) (Eq.refl (some 155)) ?_
                    refine o_q rfl rfl (zaa false rfl rfl) ?_
                    refine o_q rfl rfl (za3 rfl) ?_
                    refine @o_n _ _ _ _ _ _ _ _ _ _ _ 158 (za1 rfl rfl rfl rfl rfl) (Eq.refl (some 158)) ?_
                    refine @o_n _ _ _ _ _ _ _ _ _ _ _ 159 (za1 rfl rfl rfl rfl rfl) (Eq.refl (some 159)) ?_
                    refine o_q rfl rfl (zaa false rfl rfl) ?_
                    refine o_q rfl rfl (za3 rfl) ?_
                    refine @o_n _ _ _ _ _ _ _ _ _ _ _ 162 (za1 rfl rfl rfl rfl rfl) (Eq.refl (some 162)) ?_
                    refine @o_n _ _ _ _ _ _ _ _ _ _ _ 163 (za1 rfl rfl rfl rfl rfl) (Eq.refl (some 163)) ?_
                    refine o_q rfl rfl (zaa false rfl rfl) ?_
                    refine o_q rfl rfl (q_asg rfl) ?_
                    refine o_end ?_
                    refine za2 ?_
                    refine c_ret ?_
                    have e0_ := Option.some.inj h; clear h
                    subst e0_
                    exact x_r1 () Try.results4 (zaj rfl) rfl (fun w h => za5 [] (by decide) rfl w h)
                · replace h := bb_f hb71 h
                  refine @o_n _ _ _ _ _ _ _ _ _ _ _ 127 (za1 rfl rfl rfl (congrArg Value.bool hb71) rfl) (Eq.refl (some 127)) ?_
                  refine o_q rfl rfl (zaa false (congrArg Value.bool hb71) rfl) ?_
                  refine o_q rfl rfl (za3 rfl) ?_
                  refine @o_n _ _ _ _ _ _ _ _ _ _ _ 130 (za1 rfl rfl rfl rfl rfl) (Eq.refl (some 130)) ?_
                  refine o_q rfl rfl (zaa false rfl rfl) ?_
                  refine o_q rfl rfl (za3 rfl) ?_
                  refine @o_n _ _ _ _ _ _ _ _ _ _ _ 133 (za1 rfl rfl rfl rfl rfl) (Eq.refl (some 133)) ?_
                  refine o_q rfl rfl (zaa false rfl rfl) ?_
                  refine o_q rfl rfl (za3 rfl) ?_
                  refine @o_n _ _ _ _ _ _ _ _ _ _ _ 136 (za1 rfl rfl rfl rfl rfl) (Eq.refl (some 136)) ?_
                  refine o_q rfl rfl (zaa false rfl rfl) ?_
                  refine o_q rfl rfl (za3 rfl) ?_
                  refine @o_n _ _ _ _ _ _ _ _ _ _ _ 139 (za1 rfl rfl rfl rfl rfl) (Eq.refl (some 139)) ?_
                  refine @o_n _ _ _ _ _ _ _ _ _ _ _ 140 (za1 rfl rfl rfl rfl rfl) (Eq.refl (some 140)) ?_
                  refine @o_n _ _ _ _ _ _ _ _ _ _ _ 141 (za1 rfl rfl rfl rfl rfl) (Eq.refl (some 141)) ?_
                  refine o_q rfl rfl (zaa false rfl rfl) ?_
                  refine o_q rfl rfl (za3 rfl) ?_
                  refine @o_n _ _ _ _ _ _ _ _ _ _ _ 144 (za1 rfl rfl rfl rfl rfl) (Eq.refl (some 144)) ?_
                  refine @o_n _ _ _ _ _ _ _ _ _ _ _ 145 (za1 rfl rfl rfl rfl rfl) (Eq.refl (some 145)) ?_
                  refine @o_n _ _ _ _ _ _ _ _ _ _ _ 146 (za1 rfl rfl rfl rfl rfl) (Eq.refl (some 146)) ?_
                  refine o_q rfl rfl (zaa false rfl rfl) ?_
                  refine o_q rfl rfl (za3 rfl) ?_
                  refine @o_n _ _ _ _ _ _ _ _ _ _ _ 149 (za1 rfl rfl rfl rfl rfl) (Eq.refl (some 149)) ?_
                  refine @o_n _ _ _ _ _ _ _ _ _ _ _ 150 (za1 rfl rfl rfl rfl rfl) (Eq.refl (some 150)) ?_
                  refine @o_n _ _ _ _ _ _ _ _ _ _ _ 151 (za1 rfl rfl rfl rfl rfl) (Eq.refl (some 151)) ?_
                  refine o_q rfl rfl (zaa false rfl rfl) ?_
                  refine o_q rfl rfl (za3 rfl) ?_
                  refine @o_n _ _ _ _ _ _ _ _ _ _ _ 154 (za1 rfl rfl rfl rfl rfl) (Eq.refl (some 154)) ?_
                  refine @o_n _ _ _ _ _ _ _ _ _ _ _ 155 (za1 rfl rfl rfl rfl rfl) (Eq.refl (some 155)) ?_
                  refine o_q rfl rfl (zaa false rfl rfl) ?_
                  refine o_q rfl rfl (za3 rfl) ?_
                  refine @o_n _ _ _ _ _ _ _ _ _ _ _ 158 (za1 rfl rfl rfl rfl rfl) (Eq.refl (some 158)) ?_
                  refine @o_n _ _ _ _ _ _ _ _ _ _ _ 159 (za1 rfl rfl rfl rfl rfl) (Eq.refl (some 159)) ?_
                  refine o_q rfl rfl (zaa false rfl rfl) ?_
                  refine o_q rfl rfl (za3 rfl) ?_
                  refine @o_n _ _ _ _ _ _ _ _ _ _ _ 162 (za1 rfl rfl rfl rfl rfl) (Eq.refl (some 162)) ?_
                  refine @o_n _ _ _ _ _ _ _ _ _ _ _ 163 (za1 rfl rfl rfl rfl rfl) (Eq.refl (some 163)) ?_
                  refine o_q rfl rfl (zaa false rfl rfl) ?_
                  refine o_q rfl rfl (q_asg rfl) ?_
                  refine o_end ?_
                  refine za2 ?_
                  refine c_ret ?_
                  have e0_ := Option.some.inj h; clear h
                  subst e0_
                  exact x_r1 () Try.results4 (zaj rfl) rfl (fun w h => za5 [] (by decide) rfl w h)
              · replace h := bb_f hb70 h
                refine @o_n _ _ _ _ _ _ _ _ _ _ _ 124 (za1 rfl rfl rfl (congrArg Value.bool hb70) rfl) (Eq.refl (some 124)) ?_
                refine o_q rfl rfl (zaa false (congrArg Value.bool hb70) rfl) ?_
                refine o_q rfl rfl (za3 rfl) ?_
                refine @o_n _ _ _ _ _ _ _ _ _ _ _ 127 (za1 rfl rfl rfl rfl rfl) (Eq.refl (some 127)) ?_
                refine o_q rfl rfl (zaa false rfl rfl) ?_
                refine o_q rfl rfl (za3 rfl) ?_
                refine @o_n _ _ _ _ _ _ _ _ _ _ _ 130 (za1 rfl rfl rfl rfl rfl) (Eq.refl (some 130)) ?_
                refine o_q rfl rfl (zaa false rfl rfl) ?_
                refine o_q rfl rfl (za3 rfl) ?_
                refine @o_n _ _ _ _ _ _ _ _ _ _ _ 133 (za1 rfl rfl rfl rfl rfl) (Eq.refl (some 133)) ?_
                refine o_q rfl rfl (zaa false rfl rfl) ?_
                refine o_q rfl rfl (za3 rfl) ?_
                refine @o_n _ _ _ _ _ _ _ _ _ _ _ 136 (za1 rfl rfl rfl rfl rfl) (Eq.refl (some 136)) ?_
                refine o_q rfl rfl (zaa false rfl rfl) ?_
                refine o_q rfl rfl (za3 rfl) ?_
                refine @o_n _ _ _ _ _ _ _ _ _ _ _ 139 (za1 rfl rfl rfl rfl rfl) (Eq.refl (some 139)) ?_
                refine @o_n _ _ _ _ _ _ _ _ _ _ _ 140 (za1 rfl rfl rfl rfl rfl) (Eq.refl (some 140)) ?_
                refine @o_n _ _ _ _ _ _ _ _ _ _ _ 141 (za1 rfl rfl rfl rfl rfl) (Eq.refl (some 141)) ?_
                refine o_q rfl rfl (zaa false rfl rfl) ?_
                refine o_q rfl rfl (za3 rfl) ?_
                refine @o_n _ _ _ _ _ _ _ _ _ _ _ 144 (za1 rfl rfl rfl rfl rfl) (Eq.refl (some 144)) ?_
                refine @o_n _ _ _ _ _ _ _ _ _ _ _ 145 (za1 rfl rfl rfl rfl rfl) (Eq.refl (some 145)) ?_
                refine @o_n _ _ _ _ _ _ _ _ _ _ _ 146 (za1 rfl rfl rfl rfl rfl) (Eq.refl (some 146)) ?_
                refine o_q rfl rfl (zaa false rfl rfl) ?_
                refine o_q rfl rfl (za3 rfl) ?_
                refine @o_n _ _ _ _ _ _ _ _ _ _ _ 149 (za1 rfl rfl rfl rfl rfl) (Eq.refl (some 149)) ?_
                refine @o_n _ _ _ _ _ _ _ _ _ _ _ 150 (za1 rfl rfl rfl rfl rfl) (Eq.refl (some 150)) ?_
                refine @o_n _ _ _ _ _ _ _ _ _ _ _ 151 (za1 rfl rfl rfl rfl rfl) (Eq.refl (some 151)) ?_
                refine o_q rfl rfl (zaa false rfl rfl) ?_
                refine o_q rfl rfl (za3 rfl) ?_
                refine @o_n _ _ _ _ _ _ _ _ _ _ _ 154 (za1 rfl rfl rfl rfl rfl) (Eq.refl (some 154)) ?_
                refine @o_n _ _ _ _ _ _ _ _ _ _ _ 155 (za1 rfl rfl rfl rfl rfl) (Eq.refl (some 155)) ?_
                refine o_q rfl rfl (zaa false rfl rfl) ?_
                refine o_q rfl rfl (za3 rfl) ?_
                refine @o_n _ _ _ _ _ _ _ _ _ _ _ 158 (za1 rfl rfl rfl rfl rfl) (Eq.refl (some 158)) ?_
                refine @o_n _ _ _ _ _ _ _ _ _ _ _ 159 (za1 rfl rfl rfl rfl rfl) (Eq.refl (some 159)) ?_
                refine o_q rfl rfl (zaa false rfl rfl) ?_
                refine o_q rfl rfl (za3 rfl) ?_
                refine @o_n _ _ _ _ _ _ _ _ _ _ _ 162 (za1 rfl rfl rfl rfl rfl) (Eq.refl (some 162)) ?_
                refine @o_n _ _ _ _ _ _ _ _ _ _ _ 163 (za1 rfl rfl rfl rfl rfl) (Eq.refl (some 163)) ?_
                refine o_q rfl rfl (zaa false rfl rfl) ?_
                refine o_q rfl rfl (q_asg rfl) ?_
                refine o_end ?_
                refine za2 ?_
                refine c_ret ?_
                have e0_ := Option.some.inj h; clear h
                subst e0_
                exact x_r1 () Try.results4 (zaj rfl) rfl (fun w h => za5 [] (by decide) rfl w h)
            · replace h := bb_f hb69 h
              refine @o_n _ _ _ _ _ _ _ _ _ _ _ 121 (za1 rfl rfl rfl (congrArg Value.bool hb69) rfl) (Eq.refl (some 121)) ?_
              refine o_q rfl rfl (zaa false (congrArg Value.bool hb69) rfl) ?_
              refine o_q rfl rfl (za3 rfl) ?_
              refine @o_n _ _ _ _ _ _ _ _ _ _ _ 124 (za1 rfl rfl rfl rfl rfl) (Eq.refl (some 124)) ?_
              refine o_q rfl rfl (zaa false rfl rfl) ?_
              refine o_q rfl rfl (za3 rfl) ?_
              refine @o_n _ _ _ _ _ _ _ _ _ _ _ 127 (za1 rfl rfl rfl rfl rfl) (Eq.refl (some 127)) ?_
              refine o_q rfl rfl (zaa false rfl rfl) ?_
              refine o_q rfl rfl (za3 rfl) ?_
              refine @o_n _ _ _ _ _ _ _ _ _ _ _ 130 (za1 rfl rfl rfl rfl rfl) (Eq.refl (some 130)) ?_
              refine o_q rfl rfl (zaa false rfl rfl) ?_
              refine o_q rfl rfl (za3 rfl) ?_
              refine @o_n _ _ _ _ _ _ _ _ _ _ _ 133 (za1 rfl rfl rfl rfl rfl) (Eq.refl (some 133)) ?_
              refine o_q rfl rfl (zaa false rfl rfl) ?_
              refine o_q rfl rfl (za3 rfl) ?_
              refine @o_n _ _ _ _ _ _ _ _ _ _ _ 136 (za1 rfl rfl rfl rfl rfl) (Eq.refl (some 136)) ?_
              refine o_q rfl rfl (zaa false rfl rfl) ?_
              refine o_q rfl rfl (za3 rfl) ?_
              refine @o_n _ _ _ _ _ _ _ _ _ _ _ 139 (za1 rfl rfl rfl rfl rfl) (Eq.refl (some 139)) ?_
              refine @o_n _ _ _ _ _ _ _ _ _ _ _ 140 (za1 rfl rfl rfl rfl rfl) (Eq.refl (some 140)) ?_
              refine @o_n _ _ _ _ _ _ _ _ _ _ _ 141 (za1 rfl rfl rfl rfl rfl) (Eq.refl (some 141)) ?_
              refine o_q rfl rfl (zaa false rfl rfl) ?_
              refine o_q rfl rfl (za3 rfl) ?_
              refine @o_n _ _ _ _ _ _ _ _ _ _ _ 144 (za1 rfl rfl rfl rfl rfl) (Eq.refl (some 144)) ?_
              refine @o_n _ _ _ _ _ _ _ _ _ _ _ 145 (za1 rfl rfl rfl rfl rfl) (Eq.refl (some 145)) ?_
              refine @o_n _ _ _ _ _ _ _ _ _ _ _ 146 (za1 rfl rfl rfl rfl rfl) (Eq.refl (some 146)) ?_
              refine o_q rfl rfl (zaa false rfl rfl) ?_
              refine o_q rfl rfl (za3 rfl) ?_
              refine @o_n _ _ _ _ _ _ _ _ _ _ _ 149 (za1 rfl rfl rfl rfl rfl) (Eq.refl (some 149)) ?_
              refine @o_n _ _ _ _ _ _ _ _ _ _ _ 150 (za1 rfl rfl rfl rfl rfl) (Eq.refl (some 150)) ?_
              refine @o_n _ _ _ _ _ _ _ _ _ _ _ 151 (za1 rfl rfl rfl rfl rfl) (Eq.refl (some 151)) ?_
              refine o_q rfl rfl (zaa false rfl rfl) ?_
              refine o_q rfl rfl (za3 rfl) ?_
              refine @o_n _ _ _ _ _ _ _ _ _ _ _ 154 (za1 rfl rfl rfl rfl rfl) (Eq.refl (some 154)) ?_
              refine @o_n _ _ _ _ _ _ _ _ _ _ _ 155 (za1 rfl rfl rfl rfl rfl) (Eq.refl (some 155)) ?_
              refine o_q rfl rfl (zaa false rfl rfl) ?_
              refine o_q rfl rfl (za3 rfl) ?_
              refine @o_n _ _ _ _ _ _ _ _ _ _ _ 158 (za1 rfl rfl rfl rfl rfl) (Eq.refl (some 158)) ?_
              refine @o_n _ _ _ _ _ _ _ _ _ _ _ 159 (za1 rfl rfl rfl rfl rfl) (Eq.refl (some 159)) ?_
              refine o_q rfl rfl (zaa false rfl rfl) ?_
              refine o_q rfl rfl (za3 rfl) ?_
              refine @o_n _ _ _ _ _ _ _ _ _ _ _ 162 (za1 rfl rfl rfl rfl rfl) (Eq.refl (some 162)) ?_
              refine @o_n _ _ _ _ _ _ _ _ _ _ _ 163 (za1 rfl rfl rfl rfl rfl) (Eq.refl (some 163)) ?_
              refine o_q rfl rfl (zaa false rfl rfl) ?_
              refine o_q rfl rfl (q_asg rfl) ?_
              refine o_end ?_
              refine za2 ?_
              refine c_ret ?_
              have e0_ := Option.some.inj h; clear h
              subst e0_
              exact x_r1 () Try.results4 (zaj rfl) rfl (fun w h => za5 [] (by decide) rfl w h)
          · replace h := bb_f hb68 h
            refine @o_n _ _ _ _ _ _ _ _ _ _ _ 118 (za1 rfl rfl rfl (congrArg Value.bool hb68) rfl) (Eq.refl (some 118)) ?_
            refine o_q rfl rfl (zaa false (congrArg Value.bool hb68) rfl) ?_
            refine o_q rfl rfl (za3 rfl) ?_
            refine @o_n _ _ _ _ _ _ _ _ _ _ _ 121 (za1 rfl rfl rfl rfl rfl) (Eq.refl (some 121)) ?_
            refine o_q rfl rfl (zaa false rfl rfl) ?_
            refine o_q rfl rfl (za3 rfl) ?_
            refine @o_n _ _ _ _ _ _ _ _ _ _ _ 124 (za1 rfl rfl rfl rfl rfl) (Eq.refl (some 124)) ?_
            refine o_q rfl rfl (zaa false rfl rfl) ?_
            refine o_q rfl rfl (za3 rfl) ?_
            refine @o_n _ _ _ _ _ _ _ _ _ _ _ 127 (za1 rfl rfl rfl rfl rfl) (Eq.refl (some 127)) ?_
            refine o_q rfl rfl (zaa false rfl rfl) ?_
            refine o_q rfl rfl (za3 rfl) ?_
            refine @o_n _ _ _ _ _ _ _ _ _ _ _ 130 (za1 rfl rfl rfl rfl rfl) (Eq.refl (some 130)) ?_
            refine o_q rfl rfl (zaa false rfl rfl) ?_
            refine o_q rfl rfl (za3 rfl) ?_
            refine @o_n _ _ _ _ _ _ _ _ _ _ _ 133 (za1 rfl rfl rfl rfl rfl) (Eq.refl (some 133)) ?_
            refine o_q rfl rfl (zaa false rfl rfl) ?_
            refine o_q rfl rfl (za3 rfl) ?_
            refine @o_n _ _ _ _ _ _ _ _ _ _ _ 136 (za1 rfl rfl rfl rfl rfl) (Eq.refl (some 136)) ?_
            refine o_q rfl rfl (zaa false rfl rfl) ?_
            refine o_q rfl rfl (za3 rfl) ?_
            refine @o_n _ _ _ _ _ _ _ _ _ _ _ 139 (za1 rfl rfl rfl rfl rfl) (Eq.refl (some 139)) ?_
            refine @o_n _ _ _ _ _ _ _ _ _ _ _ 140 (za1 rfl rfl rfl rfl rfl) (Eq.refl (some 140)) ?_
            refine @o_n _ _ _ _ _ _ _ _ _ _ _ 141 (za1 rfl rfl rfl rfl rfl) (Eq.refl (some 141)) ?_
            refine o_q rfl rfl (zaa false rfl rfl) ?_
            refine o_q rfl rfl (za3 rfl) ?_
            refine @o_n _ _ _ _ _ _ _ _ _ _ _ 144 (za1 rfl rfl rfl rfl rfl) (Eq.refl (some 144)) ?_
            refine @o_n _ _ _ _ _ _ _ _ _ _ _ 145 (za1 rfl rfl rfl rfl rfl) (Eq.refl (some 145)) ?_
            refine @o_n _ _ _ _ _ _ _ _ _ _ _ 146 (za1 rfl rfl rfl rfl rfl) (Eq.refl (some 146)) ?_
            refine o_q rfl rfl (zaa false rfl rfl) ?_
            refine o_q rfl rfl (za3 rfl) ?_
            refine @o_n _ _ _ _ _ _ _ _ _ _ _ 149 (za1 rfl rfl rfl rfl rfl) (Eq.refl (some 149)) ?_
            refine @o_n _ _ _ _ _ _ _ _ _ _ _ 150 (za1 rfl rfl rfl rfl rfl) (Eq.refl (some 150)) ?_
            refine @o_n _ _ _ _ _ _ _ _ _ _ _ 151 (za1 rfl rfl rfl rfl rfl) (Eq.refl (some 151)) ?_
            refine o_q rfl rfl (zaa false rfl rfl) ?_
            refine o_q rfl rfl (za3 rfl) ?_
            refine @o_n _ _ _ _ _ _ _ _ _ _ _ 154 (za1 rfl rfl rfl rfl rfl) (Eq.refl (some 154)) ?_
            refine @o_n _ _ _ _ _ _ _ _ _ _ _ 155 (za1 rfl rfl rfl rfl rfl) (Eq.refl (some 155)) ?_
            refine o_q rfl rfl (zaa false rfl rfl) ?_
            refine o_q rfl rfl (za3 rfl) ?_
            refine @o_n _ _ _ _ _ _ _ _ _ _ _ 158 (za1 rfl rfl rfl rfl rfl) (Eq.refl (some 158)) ?_
            refine @o_n _ _ _ _ _ _ _ _ _ _ _ 159 (za1 rfl rfl rfl rfl rfl) (Eq.refl (some 159)) ?_
            refine o_q rfl rfl (zaa false rfl rfl) ?_
            refine o_q rfl rfl (za3 rfl) ?_
            refine @o_n _ _ _ _ _ _ _ _ _ _ _ 162 (za1 rfl rfl rfl rfl rfl) (Eq.refl (some 162)) ?_
            refine @o_n _ _ _ _ _ _ _ _ _ _ _ 163 (za1 rfl rfl rfl rfl rfl) (Eq.refl (some 163)) ?_
            refine o_q rfl rfl (zaa false rfl rfl) ?_
            refine o_q rfl rfl (q_asg rfl) ?_
            refine o_end ?_
            refine za2 ?_
            refine c_ret ?_
            have e0_ := Option.some.inj h; clear h
            subst e0_
            exact x_r1 () Try.results4 (zaj rfl) rfl (fun w h => za5 [] (by decide) rfl w h)

end Go.Proofs.Ytdicngjloiphkaa.FW
