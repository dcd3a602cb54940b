import Derived.Test.YtpdpomjgfmdjfaaKFnExactAllocatePlanG2p5
namespace Go.Proofs.Ytpdpomjgfmdjfaa.G2
open Go.RowKit Go.Proofs.Ytpdpomjgfmdjfaa.Frame Go.Proofs.YtpdpomjgfmdjfaaW.PrintLast Go.Proofs.Ytpdpomjgfmdjfaa.Hand
open Go.Proofs.YtpdpomjgfmdjfaaW.PrintWords hiding mn mx
set_option linter.unusedVariables false
/-! ### loop.example/g01098/laws.eqStep: function 130 -/
def laws_eqStep.f (a0 : SStep) (a1 : SStep) : Option Bool := if a0.f0 ≠ a1.f0 then (some false) else (if a0.f1 ≠ a1.f1 then (some false) else (some true))
set_option maxHeartbeats 600000 in
set_option maxRecDepth 100000 in
theorem laws_eqStep.calls {w0 ws : World} {P0 : Nat → Prop} (a0 : SStep) (a1 : SStep) (Z : Below w0.heap.size w0 ws) (hF : Fr w0 ws P0 [] ws)  (r_1 : Bool) (h : laws_eqStep.f a0 a1 = some r_1) :
    Calls Try.prog 130 #[.agg #[.int .i64 a0.f0, .int .i64 a0.f1], .agg #[.int .i64 a1.f0, .int .i64 a1.f1]] ws (Post1 w0 ws P0 (fun (_ : Unit) => .bool r_1) (fun (_ : Unit) => [])) := by
  unfold laws_eqStep.f at h
  refine enter Try.func130 rfl Try.ntmps130 rfl hF ?_
  refine c_seq ?_
  refine za0 ?_
  refine o_e rfl (e_box rfl) (fun g1 => ?_)
  refine o_e rfl (e_box rfl) (fun g3 => ?_)
  refine o_q rfl rfl (q_asg rfl) ?_
  refine o_end ?_
  refine za1 ?_
  refine c_seq ?_
  refine c_seq ?_
  refine za0 ?_
  refine o_q rfl rfl (q_f F117_0 rfl) ?_
  refine o_q rfl rfl (q_ldb Y3 rfl (fun w h => h.za9 (i := 1) rfl) rfl) ?_
  refine o_q rfl rfl (q_f F117_0 rfl) ?_
  refine o_q rfl rfl (q_ldb Y3 rfl (fun w h => h.za9 (i := 0) rfl) rfl) ?_
  refine o_q rfl rfl (q_neq rfl rfl) ?_
  refine o_end ?_
  refine za1 ?_
  refine zar _ rfl (fun hb5 => ?_) (fun hb5 => ?_)
  · skip
    replace h := br_t hb5 h
    refine c_seq ?_
    refine za0 ?_
    refine o_q rfl rfl (q_asg rfl) ?_
    refine o_end ?_
    refine za1 ?_
    refine c_ret ?_
    refine za5 ?_
    have e0_ := Option.some.inj h; clear h
    subst e0_
    exact x_r1 () Try.results130 (zaf rfl) rfl (fun w h => za8 [] (by decide) rfl w h)
  · skip
    replace h := br_f hb5 h
    refine zak ?_
    refine za1 ?_
    refine c_seq ?_
    refine c_seq ?_
    refine za0 ?_
    refine o_q rfl rfl (q_f F117_1 rfl) ?_
    refine o_q rfl rfl (q_ldb Y3 rfl (fun w h => h.za9 (i := 1) rfl) rfl) ?_
    refine o_q rfl rfl (q_f F117_1 rfl) ?_
    refine o_q rfl rfl (q_ldb Y3 rfl (fun w h => h.za9 (i := 0) rfl) rfl) ?_
    refine o_q rfl rfl (q_neq rfl rfl) ?_
    refine o_end ?_
    refine za1 ?_
    refine zar _ rfl (fun hb6 => ?_) (fun hb6 => ?_)
    · skip
      replace h := br_t hb6 h
      refine c_seq ?_
      refine za0 ?_
      refine o_q rfl rfl (q_asg rfl) ?_
      refine o_end ?_
      refine za1 ?_
      refine c_ret ?_
      refine za5 ?_
      have e0_ := Option.some.inj h; clear h
      subst e0_
      exact x_r1 () Try.results130 (zaf rfl) rfl (fun w h => za8 [] (by decide) rfl w h)
    · skip
      replace h := br_f hb6 h
      refine zak ?_
      refine za1 ?_
      refine c_seq ?_
      refine za0 ?_
      refine o_q rfl rfl (q_asg rfl) ?_
      refine o_end ?_
      refine za1 ?_
      refine c_ret ?_
      have e0_ := Option.some.inj h; clear h
      subst e0_
      exact x_r1 () Try.results130 (zaf rfl) rfl (fun w h => za8 [] (by decide) rfl w h)

/-! ### loop.example/g01098/laws.eqStepS: function 63 -/
def laws_eqStepS.l0 (l0 : List SStep) (l1 : List SStep) : Nat → Int → Option ((Bool) ⊕ (Unit))
  | 0, _ => none
  | k5 + 1, i2 => if i2 < (l0.length : Int) then ((gt l0 i2).bind fun y16 => (gt l1 i2).bind fun y19 => (laws_eqStep.f y16 y19).bind fun b21 => if b21 = true then (laws_eqStepS.l0 l0 l1 k5 (w64 (i2 + 1))) else (some (.inl false))) else (some (.inr ()))
def laws_eqStepS.f (k : Nat) (l0 : List SStep) (l1 : List SStep) : Option Bool := if (l0.length : Int) ≠ (l1.length : Int) then (some false) else ((laws_eqStepS.l0 l0 l1 k 0).bind fun o_ => match o_ with | .inl r_ => some r_ | .inr _ => some true)
set_option maxHeartbeats 600000 in
set_option maxRecDepth 100000 in
theorem laws_eqStepS.calls (k : Nat) {w0 ws : World} {P0 : Nat → Prop} (A0 : Option Addr) (c0 : Nat) (n0 : Nat) (l0 : List SStep) (A1 : Option Addr) (c1 : Nat) (n1 : Nat) (l1 : List SStep) (Z : Below w0.heap.size w0 ws) (hF : Fr w0 ws P0 [] ws) (R0 : Stable ws P0 (fun w => Kd.C kStep w A0 n0 l0)) (hc0 : n0 ≤ c0) (R1 : Stable ws P0 (fun w => Kd.C kStep w A1 n1 l1)) (hc1 : n1 ≤ c1) (r_1 : Bool) (h : laws_eqStepS.f k l0 l1 = some r_1) :
    Calls Try.prog 63 #[.slice A0 n0 c0, .slice A1 n1 c1] ws (Post1 w0 ws P0 (fun (_ : Unit) => .bool r_1) (fun (_ : Unit) => [])) := by
  unfold laws_eqStepS.f at h
  obtain rfl := (R0 ws (KeptB.refl _ _)).1
  obtain rfl := (R1 ws (KeptB.refl _ _)).1
  refine enter Try.func63 rfl Try.ntmps63 rfl hF ?_
  refine c_seq ?_
  refine za0 ?_
  refine o_q rfl rfl (q_asg rfl) ?_
  refine o_end ?_
  refine za1 ?_
  refine c_seq ?_
  refine c_seq ?_
  refine za0 ?_
  refine o_q rfl rfl (za2 rfl) ?_
  refine o_q rfl rfl (q_len Try.underlying34 rfl) ?_
  refine o_q rfl rfl (za2 rfl) ?_
  refine o_q rfl rfl (q_len Try.underlying34 rfl) ?_
  refine o_q rfl rfl (q_neq rfl rfl) ?_
  refine o_end ?_
  refine za1 ?_
  refine zar _ rfl (fun hb1 => ?_) (fun hb1 => ?_)
  · skip
    replace h := br_t hb1 h
    refine c_seq ?_
    refine za0 ?_
    refine o_q rfl rfl (q_asg rfl) ?_
    refine o_end ?_
    refine za1 ?_
    refine c_ret ?_
    refine za5 ?_
    have e0_ := Option.some.inj h; clear h
    subst e0_
    exact x_r1 () Try.results63 (zaf rfl) rfl (fun w h => za8 [] (by decide) rfl w h)
  · skip
    replace h := br_f hb1 h
    refine zak ?_
    refine za1 ?_
    refine c_seq ?_
    refine c_seq ?_
    refine za0 ?_
    refine o_q rfl rfl (q_asg rfl) ?_
    refine o_end ?_
    refine za1 ?_
    refine zaj ?_
    refine za6 h (fun o10 hl9 hR8 => ?_) rfl
    clear h
    refine zav (σ := Int) (fun k5 (i2 : Int) => laws_eqStepS.l0 l0 l1 k5 i2 = some o10) [4, 5, 11, 12, 13, 14, 15, 16, 17, 18, 19, 20, 21, 22, 23, 24, 25, 26] (fun (i2 : Int) => [(5, .int .i64 i2)]) (fun (i2 : Int) => []) k 0 hl9 ⟨rfl, trivial⟩ (fun w h => h) ?_
    refine natC (fun i2 => fun U11 hJ_ => ?_) (fun k5 => (fun i2 => fun U11 hJ_ => ?_))
    · skip
      replace hJ_ : laws_eqStepS.l0 l0 l1 0 i2 = some o10 := hJ_
      rw [laws_eqStepS.l0] at hJ_
      exact noneE hJ_
    · skip
      clear hl9
      have h := hJ_; clear hJ_
      replace h : laws_eqStepS.l0 l0 l1 (k5 + 1) i2 = some o10 := h
      rw [laws_eqStepS.l0] at h
      refine c_seq ?_
      refine c_seq ?_
      refine za0 ?_
      refine o_q rfl rfl (za2 rfl) ?_
      refine o_q rfl rfl (za2 rfl) ?_
      refine o_q rfl rfl (q_len Try.underlying34 rfl) ?_
      refine o_q rfl rfl (q_lss rfl rfl) ?_
      refine o_end ?_
      refine za1 ?_
      refine zar _ rfl (fun hb13 => ?_) (fun hb13 => ?_)
      · skip
        replace h := br_t hb13 h
        refine zak ?_
        refine za1 ?_
        refine c_seq ?_
        refine zaj ?_
        refine c_seq ?_
        refine a_start (ds := []) MO rfl ?_
        refine zae 0 rfl rfl rfl (by kernel_rfl) (fun _ _ _ h => h) (za2 rfl) ?_
        refine zae 1 rfl rfl rfl (by kernel_rfl) (fun _ _ _ h => h) (za2 rfl) ?_
        refine a_fact (p := Sh A0 l0.length l0.length) (fun w h => f_sh (dk := kStep) h (fun w h => R0.now Z h)) (fun hq14 => ?_)
        refine za6 h (fun y16 hg15 h => ?_) rfl
        refine zae 2 rfl rfl rfl (by kernel_rfl) (fun _ _ _ h => h) (q_ix Try.underlying34 Z117 rfl rfl hq14 hg15) ?_
        refine zb3 3 rfl rfl rfl (by kernel_rfl) (fun _ _ _ h => h) (fun w h => h) (q_ldE G117 Z117 rfl rfl (fun w h => R0.now Z h) hg15 (fun _ _ h => h) rfl) ?_
        refine zae 4 rfl rfl rfl (by kernel_rfl) (fun _ _ _ h => h) (za2 rfl) ?_
        refine zae 5 rfl rfl rfl (by kernel_rfl) (fun _ _ _ h => h) (za2 rfl) ?_
        refine a_fact (p := Sh A1 l1.length l1.length) (fun w h => f_sh (dk := kStep) h (fun w h => R1.now Z h)) (fun hq17 => ?_)
        refine za6 h (fun y19 hg18 h => ?_) rfl
        refine zae 6 rfl rfl rfl (by kernel_rfl) (fun _ _ _ h => h) (q_ix Try.underlying34 Z117 rfl rfl hq17 hg18) ?_
        refine zb3 7 rfl rfl rfl (by kernel_rfl) (fun _ _ _ h => h) (fun w h => h) (q_ldE G117 Z117 rfl rfl (fun w h => R1.now Z h) hg18 (fun _ _ h => h) rfl) ?_
        refine za6 h (fun b21 hx20 h => ?_) rfl
        refine a_one 8 rfl rfl (by kernel_rfl) rfl (zaa 0 Z Try.func130 N130 rfl rfl rfl (fun w P1 hF hB hS hT => laws_eqStep.calls y16 y19 hB hF _ hx20)) (fun s w h => h) (fun _ => ?_)
        refine zae 9 rfl rfl rfl (by kernel_rfl) (fun _ _ _ h => h) (q_not rfl) ?_
        refine zb5 (by kernel_rfl) ?_
        refine za1 ?_
        refine zar _ rfl (fun hb22 => ?_) (fun hb22 => ?_)
        · replace hb22 := nt_t hb22
          replace h := bb_f hb22 h
          refine c_seq ?_
          refine za0 ?_
          refine o_q rfl rfl (q_asg rfl) ?_
          refine o_end ?_
          refine za1 ?_
          refine c_ret ?_
          refine zal ?_
          refine za5 ?_
          refine za5 ?_
          have e_ := Option.some.inj h; replace h := hR8; rw [← e_] at h; clear e_
          refine zal ?_
          refine za5 ?_
          have e0_ := Option.some.inj h; clear h
          subst e0_
          exact x_r1 () Try.results63 (zaf rfl) rfl (fun w h => za8 [] (by decide) rfl w h)
        · replace hb22 := nt_f hb22
          replace h := bb_t hb22 h
          refine zak ?_
          refine zaq ?_
          refine za1 ?_
          refine za0 ?_
          refine o_q rfl rfl (za2 rfl) ?_
          refine o_q rfl rfl (zb0 rfl rfl) ?_
          refine o_q rfl rfl (q_asg rfl) ?_
          refine o_end ?_
          refine zam k5 (w64 (i2 + 1)) (Nat.lt_succ_self _) h ⟨rfl, trivial⟩ (fun w h => za8 [] (by decide) rfl w h) ?_
          repeat (first | exact zac _ _ | refine zah rfl ?_ | refine zad rfl ?_ | refine zai rfl ?_)
      · skip
        replace h := br_f hb13 h
        refine zb1 ?_
        refine za7 ?_
        refine za7 ?_
        have e_ := Option.some.inj h; replace h := hR8; rw [← e_] at h; clear e_
        refine x_hit ?_
        refine za1 ?_
        refine c_seq ?_
        refine za0 ?_
        refine o_q rfl rfl (q_asg rfl) ?_
        refine o_end ?_
        refine za1 ?_
        refine c_ret ?_
        have e0_ := Option.some.inj h; clear h
        subst e0_
        exact x_r1 () Try.results63 (zaf rfl) rfl (fun w h => za8 [] (by decide) rfl w h)

/-! ### loop.example/g01098/laws.eqPlan: function 23 -/
def laws_eqPlan.f (k : Nat) (a0_0 : Int) (l0_1 : List SStep) (l0_2 : List Int) (a1_0 : Int) (l1_1 : List SStep) (l1_2 : List Int) : Option Bool := if a0_0 ≠ a1_0 then (some false) else ((laws_eqStepS.f k l0_1 l1_1).bind fun b7 => if b7 = true then ((laws_eqIntS.f k l0_2 l1_2).bind fun b10 => if b10 = true then (some true) else (some false)) else (some false))
set_option maxHeartbeats 600000 in
set_option maxRecDepth 100000 in
theorem laws_eqPlan.calls (k : Nat) {w0 ws : World} {P0 : Nat → Prop} (a0_0 : Int) (A0_1 : Option Addr) (c0_1 : Nat) (n0_1 : Nat) (l0_1 : List SStep) (A0_2 : Option Addr) (c0_2 : Nat) (n0_2 : Nat) (l0_2 : List Int) (a1_0 : Int) (A1_1 : Option Addr) (c1_1 : Nat) (n1_1 : Nat) (l1_1 : List SStep) (A1_2 : Option Addr) (c1_2 : Nat) (n1_2 : Nat) (l1_2 : List Int) (Z : Below w0.heap.size w0 ws) (hF : Fr w0 ws P0 [] ws) (R0_1 : Stable ws P0 (fun w => Kd.C kStep w A0_1 n0_1 l0_1)) (hc0_1 : n0_1 ≤ c0_1) (R0_2 : Stable ws P0 (fun w => Kd.C (Kd.int .i64) w A0_2 n0_2 l0_2)) (hc0_2 : n0_2 ≤ c0_2) (R1_1 : Stable ws P0 (fun w => Kd.C kStep w A1_1 n1_1 l1_1)) (hc1_1 : n1_1 ≤ c1_1) (R1_2 : Stable ws P0 (fun w => Kd.C (Kd.int .i64) w A1_2 n1_2 l1_2)) (hc1_2 : n1_2 ≤ c1_2) (r_1 : Bool) (h : laws_eqPlan.f k a0_0 l0_1 l0_2 a1_0 l1_1 l1_2 = some r_1) :
    Calls Try.prog 23 #[.agg #[.int .i64 a0_0, .slice A0_1 n0_1 c0_1, .slice A0_2 n0_2 c0_2], .agg #[.int .i64 a1_0, .slice A1_1 n1_1 c1_1, .slice A1_2 n1_2 c1_2]] ws (Post1 w0 ws P0 (fun (_ : Unit) => .bool r_1) (fun (_ : Unit) => [])) := by
  unfold laws_eqPlan.f at h
  obtain rfl := (R0_1 ws (KeptB.refl _ _)).1
  obtain rfl := (R0_2 ws (KeptB.refl _ _)).1
  obtain rfl := (R1_1 ws (KeptB.refl _ _)).1
  obtain rfl := (R1_2 ws (KeptB.refl _ _)).1
  refine enter Try.func23 rfl Try.ntmps23 rfl hF ?_
  refine c_seq ?_
  refine za0 ?_
  refine o_e rfl (e_box rfl) (fun g1 => ?_)
  refine o_e rfl (e_box rfl) (fun g3 => ?_)
  refine o_q rfl rfl (q_asg rfl) ?_
  refine o_end ?_
  refine za1 ?_
  refine c_seq ?_
  refine c_seq ?_
  refine za0 ?_
  refine o_q rfl rfl (q_f F36_0 rfl) ?_
  refine o_q rfl rfl (q_ldb Y3 rfl (fun w h => h.za9 (i := 1) rfl) rfl) ?_
  refine o_q rfl rfl (q_f F36_0 rfl) ?_
  refine o_q rfl rfl (q_ldb Y3 rfl (fun w h => h.za9 (i := 0) rfl) rfl) ?_
  refine o_q rfl rfl (q_neq rfl rfl) ?_
  refine o_end ?_
  refine za1 ?_
  refine zar _ rfl (fun hb5 => ?_) (fun hb5 => ?_)
  · skip
    replace h := br_t hb5 h
    refine c_seq ?_
    refine za0 ?_
    refine o_q rfl rfl (q_asg rfl) ?_
    refine o_end ?_
    refine za1 ?_
    refine c_ret ?_
    refine za5 ?_
    have e0_ := Option.some.inj h; clear h
    subst e0_
    exact x_r1 () Try.results23 (zaf rfl) rfl (fun w h => za8 [] (by decide) rfl w h)
  · skip
    replace h := br_f hb5 h
    refine zak ?_
    refine za1 ?_
    refine c_seq ?_
    refine c_seq ?_
    refine za0 ?_
    refine o_q rfl rfl (q_f F36_1 rfl) ?_
    refine o_q rfl rfl (q_ldb Y34 rfl (fun w h => h.za9 (i := 1) rfl) rfl) ?_
    refine o_q rfl rfl (q_f F36_1 rfl) ?_
    refine o_q rfl rfl (q_ldb Y34 rfl (fun w h => h.za9 (i := 0) rfl) rfl) ?_
    refine za6 h (fun b7 hx6 h => ?_) rfl
    refine o_e rfl (zaa 0 Z Try.func63 N63 rfl rfl rfl (fun w P1 hF hB hS hT => laws_eqStepS.calls k A0_1 c0_1 l0_1.length l0_1 A1_1 c1_1 l1_1.length l1_1 hB hF (hS _ R0_1) hc0_1 (hS _ R1_1) hc1_1 _ hx6)) (fun _ => ?_)
    refine o_q rfl rfl (q_not rfl) ?_
    refine o_end ?_
    refine za1 ?_
    refine zar _ rfl (fun hb8 => ?_) (fun hb8 => ?_)
    · replace hb8 := nt_t hb8
      replace h := bb_f hb8 h
      refine c_seq ?_
      refine za0 ?_
      refine o_q rfl rfl (q_asg rfl) ?_
      refine o_end ?_
      refine za1 ?_
      refine c_ret ?_
      refine za5 ?_
      have e0_ := Option.some.inj h; clear h
      subst e0_
      exact x_r1 () Try.results23 (zaf rfl) rfl (fun w h => za8 [] (by decide) rfl w h)
    · replace hb8 := nt_f hb8
      replace h := bb_t hb8 h
      refine zak ?_
      refine za1 ?_
      refine c_seq ?_
      refine c_seq ?_
      refine za0 ?_
      refine o_q rfl rfl (q_f F36_2 rfl) ?_
      refine o_q rfl rfl (q_ldb Y22 rfl (fun w h => h.za9 (i := 1) rfl) rfl) ?_
      refine o_q rfl rfl (q_f F36_2 rfl) ?_
      refine o_q rfl rfl (q_ldb Y22 rfl (fun w h => h.za9 (i := 0) rfl) rfl) ?_
      refine za6 h (fun b10 hx9 h => ?_) rfl
      refine o_e rfl (zaa 0 Z Try.func30 N30 rfl rfl rfl (fun w P1 hF hB hS hT => laws_eqIntS.calls k A0_2 c0_2 l0_2.length l0_2 A1_2 c1_2 l1_2.length l1_2 hB hF (hS _ R0_2) hc0_2 (hS _ R1_2) hc1_2 _ hx9)) (fun _ => ?_)
      refine o_q rfl rfl (q_not rfl) ?_
      refine o_end ?_
      refine za1 ?_
      refine zar _ rfl (fun hb11 => ?_) (fun hb11 => ?_)
      · replace hb11 := nt_t hb11
        replace h := bb_f hb11 h
        refine c_seq ?_
        refine za0 ?_
        refine o_q rfl rfl (q_asg rfl) ?_
        refine o_end ?_
        refine za1 ?_
        refine c_ret ?_
        refine za5 ?_
        have e0_ := Option.some.inj h; clear h
        subst e0_
        exact x_r1 () Try.results23 (zaf rfl) rfl (fun w h => za8 [] (by decide) rfl w h)
      · replace hb11 := nt_f hb11
        replace h := bb_t hb11 h
        refine zak ?_
        refine za1 ?_
        refine c_seq ?_
        refine za0 ?_
        refine o_q rfl rfl (q_asg rfl) ?_
        refine o_end ?_
        refine za1 ?_
        refine c_ret ?_
        have e0_ := Option.some.inj h; clear h
        subst e0_
        exact x_r1 () Try.results23 (zaf rfl) rfl (fun w h => za8 [] (by decide) rfl w h)

/-! ### loop.example/g01098/laws.markStepS: function 65 -/
def laws_markStepS.l0 (l0 : List SStep) : Nat → (List SStep) → Int → Int → Option ((List SStep) × Int)
  | 0, _, _, _ => none
  | k6 + 1, l1, i2, i3 => if i3 < (l0.length : Int) then ((gt l1 i3).bind fun y17 => (st l1 i3 (⟨i2, y17.f1⟩ : SStep)).bind fun l18 => (gt l18 i3).bind fun y22 => (st l18 i3 (⟨y22.f0, w64 (i2 + 1)⟩ : SStep)).bind fun l23 => laws_markStepS.l0 l0 k6 l23 (w64 (w64 (i2 + 1) + 1)) (w64 (i3 + 1))) else (some (l1, i2))
def laws_markStepS.f (k : Nat) (l0 : List SStep) (a1 : Int) : Option (Int × (List SStep)) := (laws_markStepS.l0 l0 k l0 a1 0).bind fun (l1, i2) => some (i2, l1)
set_option maxHeartbeats 600000 in
set_option maxRecDepth 100000 in
theorem laws_markStepS.calls (k : Nat) {w0 ws : World} {P0 : Nat → Prop} (A0 : Option Addr) (c0 : Nat) (n0 : Nat) (l0 : List SStep) (a1 : Int) (Z : Below w0.heap.size w0 ws) (hF : Fr w0 ws P0 [row kStep 117 (.slice A0 n0 c0) l0] ws)  (r_1 : Int) (r_2 : List SStep) (h : laws_markStepS.f k l0 a1 = some (r_1, r_2)) :
    Calls Try.prog 65 #[.slice A0 n0 c0, .int .i64 a1] ws (Post1 w0 ws P0 (fun (_ : Unit) => .int .i64 r_1) (fun (_ : Unit) => [row kStep 117 (.slice A0 n0 c0) r_2])) := by
  unfold laws_markStepS.f at h
  obtain rfl := (hF.row_C (i := 0) rfl).2.1
  refine enter Try.func65 rfl Try.ntmps65 rfl hF ?_
  refine c_seq ?_
  refine za0 ?_
  refine o_q rfl rfl (q_asg rfl) ?_
  refine o_end ?_
  refine za1 ?_
  refine c_seq ?_
  refine c_seq ?_
  refine za0 ?_
  refine o_q rfl rfl (q_asg rfl) ?_
  refine o_end ?_
  refine za1 ?_
  refine zaj ?_
  refine za6 h (fun o11 hl10 hR9 => ?_) rfl
  clear h
  refine zav (σ := (List SStep) × Int × Int) (fun k6 ((l1, i2, i3) : (List SStep) × Int × Int) => laws_markStepS.l0 l0 k6 l1 i2 i3 = some o11) [1, 5, 6, 7, 8, 9, 10, 11, 12, 13, 14, 15, 16, 17, 18, 19, 20, 21, 22, 23, 24, 25] (fun ((l1, i2, i3) : (List SStep) × Int × Int) => [(1, .int .i64 i2), (5, .int .i64 i3)]) (fun ((l1, i2, i3) : (List SStep) × Int × Int) => [row kStep 117 (.slice A0 l0.length c0) l1]) k (l0, a1, 0) hl10 ⟨rfl, rfl, trivial⟩ (fun w h => h) ?_
  refine natC (cur3 (fun l1 i2 i3 => fun U12 hJ_ => ?_)) (fun k6 => (cur3 (fun l1 i2 i3 => fun U12 hJ_ => ?_)))
  · skip
    replace hJ_ : laws_markStepS.l0 l0 0 l1 i2 i3 = some o11 := hJ_
    rw [laws_markStepS.l0] at hJ_
    exact noneE hJ_
  · skip
    clear hl10
    have h := hJ_; clear hJ_
    replace h : laws_markStepS.l0 l0 (k6 + 1) l1 i2 i3 = some o11 := h
    rw [laws_markStepS.l0] at h
    refine c_seq ?_
    refine c_seq ?_
    refine za0 ?_
    refine o_q rfl rfl (za2 rfl) ?_
    refine o_q rfl rfl (za2 rfl) ?_
    refine o_q rfl rfl (q_len Try.underlying34 rfl) ?_
    refine o_q rfl rfl (q_lss rfl rfl) ?_
    refine o_end ?_
    refine za1 ?_
    refine zar _ rfl (fun hb14 => ?_) (fun hb14 => ?_)
    · skip
      replace h := br_t hb14 h
      refine zak ?_
      refine za1 ?_
      refine c_seq ?_
      refine zaj ?_
      refine c_seq ?_
      refine za0 ?_
      refine o_q rfl rfl (za2 rfl) ?_
      refine o_q rfl rfl (za2 rfl) ?_
      refine o_q rfl rfl (za2 rfl) ?_
      refine zau (p := Sh A0 l0.length l1.length) (fun w h => f_sh (dk := kStep) h (fun w h => h.zas (i := 0) rfl)) (fun hq15 => ?_)
      refine za6 h (fun y17 hg16 h => ?_) rfl
      refine o_q rfl rfl (q_ix Try.underlying34 Z117 rfl rfl hq15 hg16) ?_
      refine o_q rfl rfl (q_fe F117_0 rfl) ?_
      refine za6 h (fun l18 hs19 h => ?_) rfl
      refine o_e rfl (e_setF (i := 0) (off := 0) (vs := [.int .i64 i2]) (q' := (⟨i2, y17.f1⟩ : SStep)) rfl rfl rfl rfl rfl rfl Z3 hg16 rfl rfl hs19) (fun _ => ?_)
      refine o_end ?_
      refine za1 ?_
      refine c_seq ?_
      refine za0 ?_
      refine o_q rfl rfl (za2 rfl) ?_
      refine o_q rfl rfl (zb0 rfl rfl) ?_
      refine o_q rfl rfl (q_asg rfl) ?_
      refine o_end ?_
      refine za1 ?_
      refine c_seq ?_
      refine za0 ?_
      refine o_q rfl rfl (za2 rfl) ?_
      refine o_q rfl rfl (za2 rfl) ?_
      refine o_q rfl rfl (za2 rfl) ?_
      refine zau (p := Sh A0 l0.length l18.length) (fun w h => f_sh (dk := kStep) h (fun w h => h.zas (i := 0) rfl)) (fun hq20 => ?_)
      refine za6 h (fun y22 hg21 h => ?_) rfl
      refine o_q rfl rfl (q_ix Try.underlying34 Z117 rfl rfl hq20 hg21) ?_
      refine o_q rfl rfl (q_fe F117_1 rfl) ?_
      refine za6 h (fun l23 hs24 h => ?_) rfl
      refine o_e rfl (e_setF (i := 0) (off := 1) (vs := [.int .i64 (w64 (i2 + 1))]) (q' := (⟨y22.f0, w64 (i2 + 1)⟩ : SStep)) rfl rfl rfl rfl rfl rfl Z3 hg21 rfl rfl hs24) (fun _ => ?_)
      refine o_end ?_
      refine za1 ?_
      refine za0 ?_
      refine o_q rfl rfl (za2 rfl) ?_
      refine o_q rfl rfl (zb0 rfl rfl) ?_
      refine o_q rfl rfl (q_asg rfl) ?_
      refine o_end ?_
      refine zaq ?_
      refine za1 ?_
      refine za0 ?_
      refine o_q rfl rfl (za2 rfl) ?_
      refine o_q rfl rfl (zb0 rfl rfl) ?_
      refine o_q rfl rfl (q_asg rfl) ?_
      refine o_end ?_
      refine zam k6 (l23, w64 (w64 (i2 + 1) + 1), w64 (i3 + 1)) (Nat.lt_succ_self _) h ⟨rfl, rfl, trivial⟩ (fun w h => za8 [0] (by decide) rfl w h) ?_
      repeat (first | exact zac _ _ | refine zah rfl ?_ | refine zad rfl ?_ | refine zai rfl ?_)
    · skip
      replace h := br_f hb14 h
      refine zb1 ?_
      refine za7 ?_
      refine za7 ?_
      have e_ := Option.some.inj h; replace h := hR9; rw [← e_] at h; clear e_
      refine x_hit ?_
      refine za1 ?_
      refine c_seq ?_
      refine za0 ?_
      refine o_q rfl rfl (za2 rfl) ?_
      refine o_q rfl rfl (q_asg rfl) ?_
      refine o_end ?_
      refine za1 ?_
      refine c_ret ?_
      have e0_ := Option.some.inj h; clear h
      have d0_ := (Prod.mk.inj e0_).1; have e1_ := (Prod.mk.inj e0_).2; clear e0_; subst d0_
      subst e1_
      exact x_r1 () Try.results65 (zaf rfl) rfl (fun w h => za8 [0] (by decide) rfl w h)

/-! ### loop.example/g01098/laws.markPlan: function 25 -/
def laws_markPlan.f (k : Nat) (a0_0 : Int) (l0_1 : List SStep) (l0_2 : List Int) (a1 : Int) : Option (Int × (List SStep) × (List Int)) := (laws_markStepS.f k l0_1 a1).bind fun (i4, l5) => (laws_markIntS.f k l0_2 i4).bind fun (i7, l8) => some (i7, l5, l8)
set_option maxHeartbeats 600000 in
set_option maxRecDepth 100000 in
theorem laws_markPlan.calls (k : Nat) {w0 ws : World} {P0 : Nat → Prop} (a0_0 : Int) (A0_1 : Option Addr) (c0_1 : Nat) (n0_1 : Nat) (l0_1 : List SStep) (A0_2 : Option Addr) (c0_2 : Nat) (n0_2 : Nat) (l0_2 : List Int) (a1 : Int) (Z : Below w0.heap.size w0 ws) (hF : Fr w0 ws P0 [row kStep 117 (.slice A0_1 n0_1 c0_1) l0_1, row (Kd.int .i64) 3 (.slice A0_2 n0_2 c0_2) l0_2] ws)  (r_1 : Int) (r_2 : List SStep) (r_3 : List Int) (h : laws_markPlan.f k a0_0 l0_1 l0_2 a1 = some (r_1, r_2, r_3)) :
    Calls Try.prog 25 #[.agg #[.int .i64 a0_0, .slice A0_1 n0_1 c0_1, .slice A0_2 n0_2 c0_2], .int .i64 a1] ws (Post1 w0 ws P0 (fun (_ : Unit) => .int .i64 r_1) (fun (_ : Unit) => [row kStep 117 (.slice A0_1 n0_1 c0_1) r_2, row (Kd.int .i64) 3 (.slice A0_2 n0_2 c0_2) r_3])) := by
  unfold laws_markPlan.f at h
  obtain rfl := (hF.row_C (i := 0) rfl).2.1
  obtain rfl := (hF.row_C (i := 1) rfl).2.1
  refine enter Try.func25 rfl Try.ntmps25 rfl hF ?_
  refine c_seq ?_
  refine za0 ?_
  refine o_e rfl (e_box rfl) (fun g1 => ?_)
  refine o_q rfl rfl (q_asg rfl) ?_
  refine o_end ?_
  refine za1 ?_
  refine c_seq ?_
  refine za0 ?_
  refine o_q rfl rfl (q_f F36_1 rfl) ?_
  refine o_q rfl rfl (q_ldb Y34 rfl (fun w h => h.za9 (i := 0) rfl) rfl) ?_
  refine o_q rfl rfl (za2 rfl) ?_
  refine o_pick [1, 0, 2] (by decide) rfl ?_
  refine bindE2 h (fun i4 l5 hx3 h => ?_) rfl
  refine o_e rfl (zaa 1 Z Try.func65 N65 rfl rfl rfl (fun w P1 hF hB hS hT => laws_markStepS.calls k A0_1 c0_1 l0_1.length l0_1 a1 hB hF _ _ hx3)) (fun _ => ?_)
  refine o_q rfl rfl (q_asg rfl) ?_
  refine o_end ?_
  refine za1 ?_
  refine c_seq ?_
  refine za0 ?_
  refine o_q rfl rfl (q_f F36_2 rfl) ?_
  refine o_q rfl rfl (q_ldb Y22 rfl (fun w h => h.za9 (i := 1) rfl) rfl) ?_
  refine o_q rfl rfl (za2 rfl) ?_
  refine o_pick [2, 0, 1] (by decide) rfl ?_
  refine bindE2 h (fun i7 l8 hx6 h => ?_) rfl
  refine o_e rfl (zaa 1 Z Try.func31 N31 rfl rfl rfl (fun w P1 hF hB hS hT => laws_markIntS.calls k A0_2 c0_2 l0_2.length l0_2 i4 hB hF _ _ hx6)) (fun _ => ?_)
  refine o_q rfl rfl (q_asg rfl) ?_
  refine o_end ?_
  refine za1 ?_
  refine c_seq ?_
  refine za0 ?_
  refine o_q rfl rfl (za2 rfl) ?_
  refine o_q rfl rfl (q_asg rfl) ?_
  refine o_end ?_
  refine za1 ?_
  refine c_ret ?_
  have e0_ := Option.some.inj h; clear h
  have d0_ := (Prod.mk.inj e0_).1; have e1_ := (Prod.mk.inj e0_).2; clear e0_; subst d0_
  have d1_ := (Prod.mk.inj e1_).1; have e2_ := (Prod.mk.inj e1_).2; clear e1_; subst d1_
  subst e2_
  exact x_r1 () Try.results25 (zaf rfl) rfl (fun w h => za8 [1, 0] (by decide) rfl w h)

/-! ### loop.example/g01098/laws.heldRegOpS: function 124 -/
def laws_heldRegOpS.l0 (l0 : List SRegOp) : Nat → Int → Int → Option ((Int) ⊕ (Int))
  | 0, _, _ => none
  | k5 + 1, i1, i2 => if i2 < (l0.length : Int) then ((gt l0 i2).bind fun y16 => if y16.f0 ≠ i1 then (some (.inl (-1))) else ((gt l0 i2).bind fun y19 => if y19.f1 ≠ w64 (i1 + 1) then (some (.inl (-1))) else ((gt l0 i2).bind fun y22 => if y22.f2 ≠ w64 (w64 (i1 + 1) + 1) then (some (.inl (-1))) else (laws_heldRegOpS.l0 l0 k5 (w64 (w64 (w64 (i1 + 1) + 1) + 1)) (w64 (i2 + 1)))))) else (some (.inr i1))
def laws_heldRegOpS.f (k : Nat) (l0 : List SRegOp) (a1 : Int) : Option Int := (laws_heldRegOpS.l0 l0 k a1 0).bind fun o_ => match o_ with | .inl r_ => some r_ | .inr i1 => some i1
set_option maxHeartbeats 600000 in
set_option maxRecDepth 100000 in
theorem laws_heldRegOpS.calls (k : Nat) {w0 ws : World} {P0 : Nat → Prop} (A0 : Option Addr) (c0 : Nat) (n0 : Nat) (l0 : List SRegOp) (a1 : Int) (Z : Below w0.heap.size w0 ws) (hF : Fr w0 ws P0 [] ws) (R0 : Stable ws P0 (fun w => Kd.C zb4 w A0 n0 l0)) (hc0 : n0 ≤ c0) (r_1 : Int) (h : laws_heldRegOpS.f k l0 a1 = some r_1) :
    Calls Try.prog 124 #[.slice A0 n0 c0, .int .i64 a1] ws (Post1 w0 ws P0 (fun (_ : Unit) => .int .i64 r_1) (fun (_ : Unit) => [])) := by
  unfold laws_heldRegOpS.f at h
  obtain rfl := (R0 ws (KeptB.refl _ _)).1
  refine enter Try.func124 rfl Try.ntmps124 rfl hF ?_
  refine c_seq ?_
  refine za0 ?_
  refine o_q rfl rfl (q_asg rfl) ?_
  refine o_end ?_
  refine za1 ?_
  refine c_seq ?_
  refine c_seq ?_
  refine za0 ?_
  refine o_q rfl rfl (q_asg rfl) ?_
  refine o_end ?_
  refine za1 ?_
  refine zaj ?_
  refine za6 h (fun o10 hl9 hR8 => ?_) rfl
  clear h
  refine zav (σ := Int × Int) (fun k5 ((i1, i2) : Int × Int) => laws_heldRegOpS.l0 l0 k5 i1 i2 = some o10) [1, 4, 5, 6, 7, 8, 9, 10, 11, 12, 13, 14, 15, 16, 17, 18, 19, 20, 21, 22, 23, 24, 25, 26, 27, 28, 29, 30, 31, 32, 33, 34, 35, 36, 37, 38] (fun ((i1, i2) : Int × Int) => [(1, .int .i64 i1), (5, .int .i64 i2)]) (fun ((i1, i2) : Int × Int) => []) k (a1, 0) hl9 ⟨rfl, rfl, trivial⟩ (fun w h => h) ?_
  refine natC (cur2 (fun i1 i2 => fun U11 hJ_ => ?_)) (fun k5 => (cur2 (fun i1 i2 => fun U11 hJ_ => ?_)))
  · skip
    replace hJ_ : laws_heldRegOpS.l0 l0 0 i1 i2 = some o10 := hJ_
    rw [laws_heldRegOpS.l0] at hJ_
    exact noneE hJ_
  · skip
    clear hl9
    have h := hJ_; clear hJ_
    replace h : laws_heldRegOpS.l0 l0 (k5 + 1) i1 i2 = some o10 := h
    rw [laws_heldRegOpS.l0] at h
    refine c_seq ?_
    refine c_seq ?_
    refine za0 ?_
    refine o_q rfl rfl (za2 rfl) ?_
    refine o_q rfl rfl (za2 rfl) ?_
    refine o_q rfl rfl (q_len Try.underlying28 rfl) ?_
    refine o_q rfl rfl (q_lss rfl rfl) ?_
    refine o_end ?_
    refine za1 ?_
    refine zar _ rfl (fun hb13 => ?_) (fun hb13 => ?_)
    · skip
      replace h := br_t hb13 h
      refine zak ?_
      refine za1 ?_
      refine c_seq ?_
      refine zaj ?_
      refine c_seq ?_
      refine c_seq ?_
      refine za0 ?_
      refine o_q rfl rfl (za2 rfl) ?_
      refine o_q rfl rfl (za2 rfl) ?_
      refine zau (p := Sh A0 l0.length l0.length) (fun w h => f_sh (dk := zb4) h (fun w h => R0.now Z h)) (fun hq14 => ?_)
      refine za6 h (fun y16 hg15 h => ?_) rfl
      refine o_q rfl rfl (q_ix Try.underlying28 Z80 rfl rfl hq14 hg15) ?_
      refine o_q rfl rfl (q_fe F80_0 rfl) ?_
      refine o_q rfl rfl (q_lde (off := 0) Y3 rfl rfl (fun w h => R0.now Z h) hg15 (fun _ _ h => h) rfl) ?_
      refine o_q rfl rfl (za2 rfl) ?_
      refine o_q rfl rfl (q_neq rfl rfl) ?_
      refine o_end ?_
      refine za1 ?_
      refine zar _ rfl (fun hb17 => ?_) (fun hb17 => ?_)
      · skip
        replace h := br_t hb17 h
        refine c_seq ?_
        refine za0 ?_
        refine o_q rfl rfl (q_asg rfl) ?_
        refine o_end ?_
        refine za1 ?_
        refine c_ret ?_
        refine za5 ?_
        refine zal ?_
        refine za5 ?_
        refine za5 ?_
        have e_ := Option.some.inj h; replace h := hR8; rw [← e_] at h; clear e_
        refine zal ?_
        refine za5 ?_
        have e0_ := Option.some.inj h; clear h
        subst e0_
        exact x_r1 () Try.results124 (zaf rfl) rfl (fun w h => za8 [] (by decide) rfl w h)
      · skip
        replace h := br_f hb17 h
        refine zak ?_
        refine za1 ?_
        refine c_seq ?_
        refine za0 ?_
        refine o_q rfl rfl (za2 rfl) ?_
        refine o_q rfl rfl (zb0 rfl rfl) ?_
        refine o_q rfl rfl (q_asg rfl) ?_
        refine o_end ?_
        refine za1 ?_
        refine c_seq ?_
        refine c_seq ?_
        refine za0 ?_
        refine o_q rfl rfl (za2 rfl) ?_
        refine o_q rfl rfl (za2 rfl) ?_
        refine za6 h (fun y19 hg18 h => ?_) rfl
        refine o_q rfl rfl (q_ix Try.underlying28 Z80 rfl rfl hq14 hg18) ?_
        refine o_q rfl rfl (q_fe F80_1 rfl) ?_
        refine o_q rfl rfl (q_lde (off := 1) Y3 rfl rfl (fun w h => R0.now Z h) hg18 (fun _ _ h => h) rfl) ?_
        refine o_q rfl rfl (za2 rfl) ?_
        refine o_q rfl rfl (q_neq rfl rfl) ?_
        refine o_end ?_
        refine za1 ?_
        refine zar _ rfl (fun hb20 => ?_) (fun hb20 => ?_)
        · skip
          replace h := br_t hb20 h
          refine c_seq ?_
          refine za0 ?_
          refine o_q rfl rfl (q_asg rfl) ?_
          refine o_end ?_
          refine za1 ?_
          refine c_ret ?_
          refine za5 ?_
          refine zal ?_
          refine za5 ?_
          refine za5 ?_
          have e_ := Option.some.inj h; replace h := hR8; rw [← e_] at h; clear e_
          refine zal ?_
          refine za5 ?_
          have e0_ := Option.some.inj h; clear h
          subst e0_
          exact x_r1 () Try.results124 (zaf rfl) rfl (fun w h => za8 [] (by decide) rfl w h)
        · skip
          replace h := br_f hb20 h
          refine zak ?_
          refine za1 ?_
          refine c_seq ?_
          refine za0 ?_
          refine o_q rfl rfl (za2 rfl) ?_
          refine o_q rfl rfl (zb0 rfl rfl) ?_
          refine o_q rfl rfl (q_asg rfl) ?_
          refine o_end ?_
          refine za1 ?_
          refine c_seq ?_
          refine c_seq ?_
          refine za0 ?_
          refine o_q rfl rfl (za2 rfl) ?_
          refine o_q rfl rfl (za2 rfl) ?_
          refine za6 h (fun y22 hg21 h => ?_) rfl
          refine o_q rfl rfl (q_ix Try.underlying28 Z80 rfl rfl hq14 hg21) ?_
          refine o_q rfl rfl (q_fe F80_2 rfl) ?_
          refine o_q rfl rfl (q_lde (off := 2) Y3 rfl rfl (fun w h => R0.now Z h) hg21 (fun _ _ h => h) rfl) ?_
          refine o_q rfl rfl (za2 rfl) ?_
          refine o_q rfl rfl (q_neq rfl rfl) ?_
          refine o_end ?_
          refine za1 ?_
          refine zar _ rfl (fun hb23 => ?_) (fun hb23 => ?_)
          · skip
            replace h := br_t hb23 h
            refine c_seq ?_
            refine za0 ?_
            refine o_q rfl rfl (q_asg rfl) ?_
            refine o_end ?_
            refine za1 ?_
            refine c_ret ?_
            refine za5 ?_
            refine zal ?_
            refine za5 ?_
            refine za5 ?_
            have e_ := Option.some.inj h; replace h := hR8; rw [← e_] at h; clear e_
            refine zal ?_
            refine za5 ?_
            have e0_ := Option.some.inj h; clear h
            subst e0_
            exact x_r1 () Try.results124 (zaf rfl) rfl (fun w h => za8 [] (by decide) rfl w h)
          · skip
            replace h := br_f hb23 h
            refine zak ?_
            refine za1 ?_
            refine za0 ?_
            refine o_q rfl rfl (za2 rfl) ?_
            refine o_q rfl rfl (zb0 rfl rfl) ?_
            refine o_q rfl rfl (q_asg rfl) ?_
            refine o_end ?_
            refine zaq ?_
            refine za1 ?_
            refine za0 ?_
            refine o_q rfl rfl (za2 rfl) ?_
            refine o_q rfl rfl (zb0 rfl rfl) ?_
            refine o_q rfl rfl (q_asg rfl) ?_
            refine o_end ?_
            refine zam k5 (w64 (w64 (w64 (i1 + 1) + 1) + 1), w64 (i2 + 1)) (Nat.lt_succ_self _) h ⟨rfl, rfl, trivial⟩ (fun w h => za8 [] (by decide) rfl w h) ?_
            repeat (first | exact zac _ _ | refine zah rfl ?_ | refine zad rfl ?_ | refine zai rfl ?_)
    · skip
      replace h := br_f hb13 h
      refine zb1 ?_
      refine za7 ?_
      refine za7 ?_
      have e_ := Option.some.inj h; replace h := hR8; rw [← e_] at h; clear e_
      refine x_hit ?_
      refine za1 ?_
      refine c_seq ?_
      refine za0 ?_
      refine o_q rfl rfl (za2 rfl) ?_
      refine o_q rfl rfl (q_asg rfl) ?_
      refine o_end ?_
      refine za1 ?_
      refine c_ret ?_
      have e0_ := Option.some.inj h; clear h
      subst e0_
      exact x_r1 () Try.results124 (zaf rfl) rfl (fun w h => za8 [] (by decide) rfl w h)

/-! ### loop.example/g01098/laws.heldRegCode: function 55 -/
def laws_heldRegCode.f (k : Nat) (a0_0 : Int) (l0_1 : List Int) (l0_2 : List SRegOp) (l0_3 : List Int) (a1 : Int) : Option Int := (laws_heldIntS.f k l0_1 a1).bind fun i4 => if i4 < 0 then (some (-1)) else ((laws_heldRegOpS.f k l0_2 i4).bind fun i7 => if i7 < 0 then (some (-1)) else ((laws_heldIntS.f k l0_3 i7).bind fun i10 => if i10 < 0 then (some (-1)) else (some i10)))
set_option maxHeartbeats 600000 in
set_option maxRecDepth 100000 in
theorem laws_heldRegCode.calls (k : Nat) {w0 ws : World} {P0 : Nat → Prop} (a0_0 : Int) (A0_1 : Option Addr) (c0_1 : Nat) (n0_1 : Nat) (l0_1 : List Int) (A0_2 : Option Addr) (c0_2 : Nat) (n0_2 : Nat) (l0_2 : List SRegOp) (A0_3 : Option Addr) (c0_3 : Nat) (n0_3 : Nat) (l0_3 : List Int) (a1 : Int) (Z : Below w0.heap.size w0 ws) (hF : Fr w0 ws P0 [] ws) (R0_1 : Stable ws P0 (fun w => Kd.C (Kd.int .i64) w A0_1 n0_1 l0_1)) (hc0_1 : n0_1 ≤ c0_1) (R0_2 : Stable ws P0 (fun w => Kd.C zb4 w A0_2 n0_2 l0_2)) (hc0_2 : n0_2 ≤ c0_2) (R0_3 : Stable ws P0 (fun w => Kd.C (Kd.int .i64) w A0_3 n0_3 l0_3)) (hc0_3 : n0_3 ≤ c0_3) (r_1 : Int) (h : laws_heldRegCode.f k a0_0 l0_1 l0_2 l0_3 a1 = some r_1) :
    Calls Try.prog 55 #[.agg #[.int .i64 a0_0, .slice A0_1 n0_1 c0_1, .slice A0_2 n0_2 c0_2, .slice A0_3 n0_3 c0_3], .int .i64 a1] ws (Post1 w0 ws P0 (fun (_ : Unit) => .int .i64 r_1) (fun (_ : Unit) => [])) := by
  unfold laws_heldRegCode.f at h
  obtain rfl := (R0_1 ws (KeptB.refl _ _)).1
  obtain rfl := (R0_2 ws (KeptB.refl _ _)).1
  obtain rfl := (R0_3 ws (KeptB.refl _ _)).1
  refine enter Try.func55 rfl Try.ntmps55 rfl hF ?_
  refine c_seq ?_
  refine za0 ?_
  refine o_e rfl (e_box rfl) (fun g1 => ?_)
  refine o_q rfl rfl (q_asg rfl) ?_
  refine o_end ?_
  refine za1 ?_
  refine c_seq ?_
  refine za0 ?_
  refine o_q rfl rfl (q_f F30_1 rfl) ?_
  refine o_q rfl rfl (q_ldb Y22 rfl (fun w h => h.za9 (i := 0) rfl) rfl) ?_
  refine o_q rfl rfl (za2 rfl) ?_
  refine za6 h (fun i4 hx3 h => ?_) rfl
  refine o_e rfl (zaa 0 Z Try.func32 N32 rfl rfl rfl (fun w P1 hF hB hS hT => laws_heldIntS.calls k A0_1 c0_1 l0_1.length l0_1 a1 hB hF (hS _ R0_1) hc0_1 _ hx3)) (fun _ => ?_)
  refine o_q rfl rfl (q_asg rfl) ?_
  refine o_end ?_
  refine za1 ?_
  refine c_seq ?_
  refine c_seq ?_
  refine za0 ?_
  refine o_q rfl rfl (za2 rfl) ?_
  refine o_q rfl rfl (q_lss rfl rfl) ?_
  refine o_end ?_
  refine za1 ?_
  refine zar _ rfl (fun hb5 => ?_) (fun hb5 => ?_)
  · skip
    replace h := br_t hb5 h
    refine c_seq ?_
    refine za0 ?_
    refine o_q rfl rfl (q_asg rfl) ?_
    refine o_end ?_
    refine za1 ?_
    refine c_ret ?_
    refine za5 ?_
    have e0_ := Option.some.inj h; clear h
    subst e0_
    exact x_r1 () Try.results55 (zaf rfl) rfl (fun w h => za8 [] (by decide) rfl w h)
  · skip
    replace h := br_f hb5 h
    refine zak ?_
    refine za1 ?_
    refine c_seq ?_
    refine za0 ?_
    refine o_q rfl rfl (q_f F30_2 rfl) ?_
    refine o_q rfl rfl (q_ldb Y28 rfl (fun w h => h.za9 (i := 0) rfl) rfl) ?_
    refine o_q rfl rfl (za2 rfl) ?_
    refine za6 h (fun i7 hx6 h => ?_) rfl
    refine o_e rfl (zaa 0 Z Try.func124 N124 rfl rfl rfl (fun w P1 hF hB hS hT => laws_heldRegOpS.calls k A0_2 c0_2 l0_2.length l0_2 i4 hB hF (hS _ R0_2) hc0_2 _ hx6)) (fun _ => ?_)
    refine o_q rfl rfl (q_asg rfl) ?_
    refine o_end ?_
    refine za1 ?_
    refine c_seq ?_
    refine c_seq ?_
    refine za0 ?_
    refine o_q rfl rfl (za2 rfl) ?_
    refine o_q rfl rfl (q_lss rfl rfl) ?_
    refine o_end ?_
    refine za1 ?_
    refine zar _ rfl (fun hb8 => ?_) (fun hb8 => ?_)
    · skip
      replace h := br_t hb8 h
      refine c_seq ?_
      refine za0 ?_
      refine o_q rfl rfl (q_asg rfl) ?_
      refine o_end ?_
      refine za1 ?_
      refine c_ret ?_
      refine za5 ?_
      have e0_ := Option.some.inj h; clear h
      subst e0_
      exact x_r1 () Try.results55 (zaf rfl) rfl (fun w h => za8 [] (by decide) rfl w h)
    · skip
      replace h := br_f hb8 h
      refine zak ?_
      refine za1 ?_
      refine c_seq ?_
      refine za0 ?_
      refine o_q rfl rfl (q_f F30_3 rfl) ?_
      refine o_q rfl rfl (q_ldb Y22 rfl (fun w h => h.za9 (i := 0) rfl) rfl) ?_
      refine o_q rfl rfl (za2 rfl) ?_
      refine za6 h (fun i10 hx9 h => ?_) rfl
      refine o_e rfl (zaa 0 Z Try.func32 N32 rfl rfl rfl (fun w P1 hF hB hS hT => laws_heldIntS.calls k A0_3 c0_3 l0_3.length l0_3 i7 hB hF (hS _ R0_3) hc0_3 _ hx9)) (fun _ => ?_)
      refine o_q rfl rfl (q_asg rfl) ?_
      refine o_end ?_
      refine za1 ?_
      refine c_seq ?_
      refine c_seq ?_
      refine za0 ?_
      refine o_q rfl rfl (za2 rfl) ?_
      refine o_q rfl rfl (q_lss rfl rfl) ?_
      refine o_end ?_
      refine za1 ?_
      refine zar _ rfl (fun hb11 => ?_) (fun hb11 => ?_)
      · skip
        replace h := br_t hb11 h
        refine c_seq ?_
        refine za0 ?_
        refine o_q rfl rfl (q_asg rfl) ?_
        refine o_end ?_
        refine za1 ?_
        refine c_ret ?_
        refine za5 ?_
        have e0_ := Option.some.inj h; clear h
        subst e0_
        exact x_r1 () Try.results55 (zaf rfl) rfl (fun w h => za8 [] (by decide) rfl w h)
      · skip
        replace h := br_f hb11 h
        refine zak ?_
        refine za1 ?_
        refine c_seq ?_
        refine za0 ?_
        refine o_q rfl rfl (za2 rfl) ?_
        refine o_q rfl rfl (q_asg rfl) ?_
        refine o_end ?_
        refine za1 ?_
        refine c_ret ?_
        have e0_ := Option.some.inj h; clear h
        subst e0_
        exact x_r1 () Try.results55 (zaf rfl) rfl (fun w h => za8 [] (by decide) rfl w h)

/-! ### loop.example/g01098/laws.FnExactAllocatePlan: function 15 -/
def laws_FnExactAllocatePlan.f (k : Nat) (a0_0 : Int) (l0_1 : List SStep) (l0_2 : List Int) : Option Bool := (laws_szPlan.f a0_0 l0_1 l0_2 1048576).bind fun i4 => if i4 < 0 then (some true) else ((laws_toPlan.f k a0_0 l0_1 l0_2).bind fun (l7, l8) => (spec_AllocatePlan.f k a0_0 l7 l8).bind fun (i14, l15, l16, l17, b18) => (laws_toPlan.f k a0_0 l0_1 l0_2).bind fun (l28, l29) => (impl_AllocatePlan.f k a0_0 l28 l29).bind fun (i37, l38, l39, l40, b41) => (laws_eqRegCode.f k i37 l38 l39 l40 i14 l15 l16 l17).bind fun b51 => if b51 = true then (if (b41 != b18) = true then (some false) else ((laws_toPlan.f k a0_0 l0_1 l0_2).bind fun (l55, l56) => (laws_eqPlan.f k a0_0 l28 l29 a0_0 l55 l56).bind fun b62 => if b62 = true then ((laws_markPlan.f k a0_0 l28 l29 1).bind fun (i65, l66, l67) => if i65 < 0 then (some false) else ((laws_eqRegCode.f k i37 l38 l39 l40 i14 l15 l16 l17).bind fun b70 => if b70 = true then ((laws_markRegCode.f k i37 l38 l39 l40 1).bind fun (i73, l74, l75, l76) => (laws_heldRegCode.f k i37 l74 l75 l76 1).bind fun i78 => if i78 < 0 then (some false) else (if i78 ≠ i73 then (some false) else ((laws_toPlan.f k a0_0 l0_1 l0_2).bind fun (l82, l83) => (impl_AllocatePlan.f k a0_0 l82 l83).bind fun (i89, l90, l91, l92, b93) => (laws_eqRegCode.f k i89 l90 l91 l92 i14 l15 l16 l17).bind fun b103 => if b103 = true then (if (b93 != b18) = true then (some false) else ((laws_heldRegCode.f k i37 l74 l75 l76 1).bind fun i107 => if i107 < 0 then (some false) else (if i107 ≠ i73 then (some false) else (some true)))) else (some false)))) else (some false))) else (some false))) else (some false))
set_option maxHeartbeats 600000 in
set_option maxRecDepth 100000 in
theorem laws_FnExactAllocatePlan.calls (k : Nat) {w0 ws : World} {P0 : Nat → Prop} (a0_0 : Int) (A0_1 : Option Addr) (c0_1 : Nat) (n0_1 : Nat) (l0_1 : List SStep) (A0_2 : Option Addr) (c0_2 : Nat) (n0_2 : Nat) (l0_2 : List Int) (Z : Below w0.heap.size w0 ws) (hF : Fr w0 ws P0 [] ws) (R0_1 : Stable ws P0 (fun w => Kd.C kStep w A0_1 n0_1 l0_1)) (hc0_1 : n0_1 ≤ c0_1) (R0_2 : Stable ws P0 (fun w => Kd.C (Kd.int .i64) w A0_2 n0_2 l0_2)) (hc0_2 : n0_2 ≤ c0_2) (r_1 : Bool) (h : laws_FnExactAllocatePlan.f k a0_0 l0_1 l0_2 = some r_1) :
    Calls Try.prog 15 #[.agg #[.int .i64 a0_0, .slice A0_1 n0_1 c0_1, .slice A0_2 n0_2 c0_2]] ws (Post1 w0 ws P0 (fun (_ : Unit) => .bool r_1) (fun (_ : Unit) => [])) := by
  unfold laws_FnExactAllocatePlan.f at h
  obtain rfl := (R0_1 ws (KeptB.refl _ _)).1
  obtain rfl := (R0_2 ws (KeptB.refl _ _)).1
  refine enter Try.func15 rfl Try.ntmps15 rfl hF ?_
  refine c_seq ?_
  refine za0 ?_
  refine o_e rfl (e_box rfl) (fun g1 => ?_)
  refine o_q rfl rfl (q_asg rfl) ?_
  refine o_end ?_
  refine za1 ?_
  refine c_seq ?_
  refine za0 ?_
  refine o_q rfl rfl (q_asg rfl) ?_
  refine o_end ?_
  refine za1 ?_
  refine c_seq ?_
  refine za0 ?_
  refine o_q rfl rfl (q_ldB G50 Z50 rfl (fun w h => h.za9 (i := 0) rfl) rfl) ?_
  refine o_q rfl rfl (za2 rfl) ?_
  refine za6 h (fun i4 hx3 h => ?_) rfl
  refine o_e rfl (zaa 0 Z Try.func33 N33 rfl rfl rfl (fun w P1 hF hB hS hT => laws_szPlan.calls a0_0 A0_1 c0_1 l0_1.length l0_1 A0_2 c0_2 l0_2.length l0_2 1048576 hB hF (hS _ R0_1) hc0_1 (hS _ R0_2) hc0_2 _ hx3)) (fun _ => ?_)
  refine o_q rfl rfl (q_asg rfl) ?_
  refine o_end ?_
  refine za1 ?_
  refine c_seq ?_
  refine c_seq ?_
  refine za0 ?_
  refine o_q rfl rfl (za2 rfl) ?_
  refine o_q rfl rfl (q_lss rfl rfl) ?_
  refine o_end ?_
  refine za1 ?_
  refine zar _ rfl (fun hb5 => ?_) (fun hb5 => ?_)
  · skip
    replace h := br_t hb5 h
    refine c_seq ?_
    refine za0 ?_
    refine o_q rfl rfl (q_asg rfl) ?_
    refine o_end ?_
    refine za1 ?_
    refine c_ret ?_
    refine za5 ?_
    have e0_ := Option.some.inj h; clear h
    subst e0_
    exact x_r1 () Try.results15 (zaf rfl) rfl (fun w h => za8 [] (by decide) rfl w h)
  · skip
    replace h := br_f hb5 h
    refine zak ?_
    refine za1 ?_
    refine c_seq ?_
    refine za0 ?_
    refine o_q rfl rfl (q_ldB G50 Z50 rfl (fun w h => h.za9 (i := 0) rfl) rfl) ?_
    refine bindE2 h (fun l7 l8 hx6 h => ?_) rfl
    refine o_e rfl (zaa 0 Z Try.func35 N35 rfl rfl rfl (fun w P1 hF hB hS hT => laws_toPlan.calls k a0_0 A0_1 c0_1 l0_1.length l0_1 A0_2 c0_2 l0_2.length l0_2 hB hF (hS _ R0_1) hc0_1 (hS _ R0_2) hc0_2 _ _ hx6)) (cur4 (fun A9 c10 A11 c12 => ?_))
    refine bindE5 h (fun i14 l15 l16 l17 b18 hx13 h => ?_) rfl
    refine o_e rfl (zaa 0 Z Try.func53 N53 rfl rfl rfl (fun w P1 hF hB hS hT => spec_AllocatePlan.calls k a0_0 A9 c10 l7.length l7 A11 c12 l8.length l8 hB hF (hT 0 _ rfl).row (hT 0 _ rfl).cap (hT 1 _ rfl).row (hT 1 _ rfl).cap _ _ _ _ _ hx13)) (cur6 (fun A19 c20 A21 c22 A23 c24 => ?_))
    refine o_q rfl rfl (za2 rfl) ?_
    refine o_q rfl rfl (q_ext rfl rfl) ?_
    refine o_q rfl rfl (q_ext rfl rfl) ?_
    refine o_e rfl (zat V30 rfl) (fun g25 => ?_)
    refine o_e rfl (zao (i := 0) rfl rfl rfl Z30 rfl rfl) (fun _ => ?_)
    refine o_q rfl rfl (q_asg rfl) ?_
    refine o_end ?_
    refine za1 ?_
    refine c_seq ?_
    refine za0 ?_
    refine o_q rfl rfl (q_ldB G50 Z50 rfl (fun w h => h.za9 (i := 6) rfl) rfl) ?_
    refine bindE2 h (fun l28 l29 hx27 h => ?_) rfl
    refine o_e rfl (zaa 0 Z Try.func35 N35 rfl rfl rfl (fun w P1 hF hB hS hT => laws_toPlan.calls k a0_0 A0_1 c0_1 l0_1.length l0_1 A0_2 c0_2 l0_2.length l0_2 hB hF (hS _ R0_1) hc0_1 (hS _ R0_2) hc0_2 _ _ hx27)) (cur4 (fun A30 c31 A32 c33 => ?_))
    refine o_e rfl (zat V36 rfl) (fun g34 => ?_)
    refine o_e rfl (zao (i := 0) rfl rfl rfl Z36 rfl rfl) (fun _ => ?_)
    refine o_end ?_
    refine za1 ?_
    refine c_seq ?_
    refine za0 ?_
    refine o_q rfl rfl (q_ldB G36 Z36 rfl (fun w h => h.za9 (i := 0) rfl) rfl) ?_
    refine bindE5 h (fun i37 l38 l39 l40 b41 hx36 h => ?_) rfl
    refine o_e rfl (zaa 0 Z Try.func54 N54 rfl rfl rfl (fun w P1 hF hB hS hT => impl_AllocatePlan.calls k a0_0 A30 c31 l28.length l28 A32 c33 l29.length l29 hB hF (hT 1 _ rfl).row (hT 1 _ rfl).cap (hT 2 _ rfl).row (hT 2 _ rfl).cap _ _ _ _ _ hx36)) (cur6 (fun A42 c43 A44 c45 A46 c47 => ?_))
    refine o_q rfl rfl (za2 rfl) ?_
    refine o_q rfl rfl (q_ext rfl rfl) ?_
    refine o_q rfl rfl (q_ext rfl rfl) ?_
    refine o_e rfl (zat V30 rfl) (fun g48 => ?_)
    refine o_e rfl (zao (i := 0) rfl rfl rfl Z30 rfl rfl) (fun _ => ?_)
    refine o_q rfl rfl (q_asg rfl) ?_
    refine o_end ?_
    refine za1 ?_
    refine c_seq ?_
    refine c_seq ?_
    refine za0 ?_
    refine o_q rfl rfl (q_ldB G30 Z30 rfl (fun w h => h.za9 (i := 0) rfl) rfl) ?_
    refine o_q rfl rfl (q_ldB G30 Z30 rfl (fun w h => h.za9 (i := 7) rfl) rfl) ?_
    refine za6 h (fun b51 hx50 h => ?_) rfl
    refine o_e rfl (zaa 0 Z Try.func20 N20 rfl rfl rfl (fun w P1 hF hB hS hT => laws_eqRegCode.calls k i37 A42 c43 l38.length l38 A44 c45 l39.length l39 A46 c47 l40.length l40 i14 A19 c20 l15.length l15 A21 c22 l16.length l16 A23 c24 l17.length l17 hB hF (hT 1 _ rfl).row (hT 1 _ rfl).cap (hT 2 _ rfl).row (hT 2 _ rfl).cap (hT 3 _ rfl).row (hT 3 _ rfl).cap (hT 8 _ rfl).row (hT 8 _ rfl).cap (hT 9 _ rfl).row (hT 9 _ rfl).cap (hT 10 _ rfl).row (hT 10 _ rfl).cap _ hx50)) (fun _ => ?_)
    refine o_q rfl rfl (q_not rfl) ?_
    refine o_q rfl rfl (za2 rfl) ?_
    refine byB b51 (fun hb52 => ?_) (fun hb52 => ?_)
    · replace h := bb_t hb52 h
      refine o_w (za4 rfl rfl rfl (congrArg (fun b => Value.bool (!(b))) hb52)) rfl (za2 rfl) ?_
      refine o_w (za4 rfl rfl rfl (congrArg (fun b => Value.bool (!(b))) hb52)) rfl (za2 rfl) ?_
      refine o_w (za4 rfl rfl rfl (congrArg (fun b => Value.bool (!(b))) hb52)) rfl (q_bneq Try.underlying4 rfl rfl) ?_
      refine o_q rfl rfl (zan false (congrArg (fun b => Value.bool (!(b))) hb52) rfl) ?_
      refine o_end ?_
      refine za1 ?_
      refine zar _ rfl (fun hb53 => ?_) (fun hb53 => ?_)
      · skip
        replace h := bb_t hb53 h
        refine c_seq ?_
        refine za0 ?_
        refine o_q rfl rfl (q_asg rfl) ?_
        refine o_end ?_
        refine za1 ?_
        refine c_ret ?_
        refine za5 ?_
        have e0_ := Option.some.inj h; clear h
        subst e0_
        exact x_r1 () Try.results15 (zaf rfl) rfl (fun w h => za8 [] (by decide) rfl w h)
      · skip
        replace h := bb_f hb53 h
        refine zak ?_
        refine za1 ?_
        refine c_seq ?_
        refine c_seq ?_
        refine a_start (ds := []) MO rfl ?_
        refine zb3 0 rfl rfl rfl (by kernel_rfl) (fun _ _ _ h => h) (fun w h => h) (q_ldB G36 Z36 rfl (fun w h => h.za9 (i := 4) rfl) rfl) ?_
        refine zb3 1 rfl rfl rfl (by kernel_rfl) (fun _ _ _ h => h) (fun w h => h) (q_ldB G50 Z50 rfl (fun w h => h.za9 (i := 13) rfl) rfl) ?_
        refine bindE2 h (fun l55 l56 hx54 h => ?_) rfl
        refine a_one 2 rfl rfl (by kernel_rfl) rfl (zaa 0 Z Try.func35 N35 rfl rfl rfl (fun w P1 hF hB hS hT => laws_toPlan.calls k a0_0 A0_1 c0_1 l0_1.length l0_1 A0_2 c0_2 l0_2.length l0_2 hB hF (hS _ R0_1) hc0_1 (hS _ R0_2) hc0_2 _ _ hx54)) (fun s w h => zab [some 2, some 3, some 4, some 5, some 6, some 7, some 8, some 9, some 10, some 11, some 12, some 13, some 14, some 15] (by decide) w h rfl) (cur4 (fun A57 c58 A59 c60 => ?_))
        refine za6 h (fun b62 hx61 h => ?_) rfl
        refine a_one 3 rfl rfl (by kernel_rfl) rfl (zaa 0 Z Try.func23 N23 rfl rfl rfl (fun w P1 hF hB hS hT => laws_eqPlan.calls k a0_0 A30 c31 l28.length l28 A32 c33 l29.length l29 a0_0 A57 c58 l55.length l55 A59 c60 l56.length l56 hB hF (hT 7 _ rfl).row (hT 7 _ rfl).cap (hT 8 _ rfl).row (hT 8 _ rfl).cap (hT 0 _ rfl).row (hT 0 _ rfl).cap (hT 1 _ rfl).row (hT 1 _ rfl).cap _ hx61)) (fun s w h => zab [some 2, some 3, some 4, some 5, some 6, some 7, some 8, some 9, some 10, some 11, some 12, some 13, some 14, some 15] (by decide) w h rfl) (fun _ => ?_)
        refine zae 4 rfl rfl rfl (by kernel_rfl) (fun _ _ _ h => h) (q_not rfl) ?_
        refine zb5 (by kernel_rfl) ?_
        refine za1 ?_
        refine zar _ rfl (fun hb63 => ?_) (fun hb63 => ?_)
        · replace hb63 := nt_t hb63
          replace h := bb_f hb63 h
          refine c_seq ?_
          refine za0 ?_
          refine o_q rfl rfl (q_asg rfl) ?_
          refine o_end ?_
          refine za1 ?_
          refine c_ret ?_
          refine za5 ?_
          have e0_ := Option.some.inj h; clear h
          subst e0_
          exact x_r1 () Try.results15 (zaf rfl) rfl (fun w h => za8 [] (by decide) rfl w h)
        · replace hb63 := nt_f hb63
          replace h := bb_t hb63 h
          refine zak ?_
          refine za1 ?_
          refine c_seq ?_
          refine za0 ?_
          refine o_q rfl rfl (q_asg rfl) ?_
          refine o_end ?_
          refine za1 ?_
          refine c_seq ?_
          refine za0 ?_
          refine o_q rfl rfl (q_ldB G36 Z36 rfl (fun w h => h.za9 (i := 6) rfl) rfl) ?_
          refine o_q rfl rfl (za2 rfl) ?_
          refine o_pick [7, 8, 0, 1, 2, 3, 4, 5, 6, 9, 10, 11, 12, 13, 14, 15] (by decide) rfl ?_
          refine bindE3 h (fun i65 l66 l67 hx64 h => ?_) rfl
          refine o_e rfl (zaa 2 Z Try.func25 N25 rfl rfl rfl (fun w P1 hF hB hS hT => laws_markPlan.calls k a0_0 A30 c31 l28.length l28 A32 c33 l29.length l29 1 hB hF _ _ _ hx64)) (fun _ => ?_)
          refine o_q rfl rfl (q_asg rfl) ?_
          refine o_end ?_
          refine za1 ?_
          refine c_seq ?_
          refine c_seq ?_
          refine za0 ?_
          refine o_q rfl rfl (za2 rfl) ?_
          refine o_q rfl rfl (q_lss rfl rfl) ?_
          refine o_q rfl rfl (za2 rfl) ?_
          refine byB (decide (i65 < 0)) (fun hb68 => ?_) (fun hb68 => ?_)
          · replace h := br_t hb68 h
            refine @o_n _ _ _ _ _ _ _ _ _ _ _ 52 (za3 rfl rfl rfl (congrArg Value.bool hb68) rfl) (Eq.refl (some 52)) ?_
            refine @o_n _ _ _ _ _ _ _ _ _ _ _ 53 (za3 rfl rfl rfl (congrArg Value.bool hb68) rfl) (Eq.refl (some 53)) ?_
            refine @o_n _ _ _ _ _ _ _ _ _ _ _ 54 (za3 rfl rfl rfl (congrArg Value.bool hb68) rfl) (Eq.refl (some 54)) ?_
            refine @o_n _ _ _ _ _ _ _ _ _ _ _ 55 (za3 rfl rfl rfl (congrArg Value.bool hb68) rfl) (Eq.refl (some 55)) ?_
            refine o_q rfl rfl (zan true (congrArg Value.bool hb68) rfl) ?_
            refine o_q rfl rfl (za2 rfl) ?_
            refine @o_n _ _ _ _ _ _ _ _ _ _ _ 58 (za3 rfl rfl rfl rfl rfl) (Eq.refl (some 58)) ?_
            refine @o_n _ _ _ _ _ _ _ _ _ _ _ 59 (za3 rfl rfl rfl rfl rfl) (Eq.refl (some 59)) ?_
            refine @o_n _ _ _ _ _ _ _ _ _ _ _ 60 (za3 rfl rfl rfl rfl rfl) (Eq.refl (some 60)) ?_
            refine o_q rfl rfl (zan true rfl rfl) ?_
            refine o_end ?_
            refine za1 ?_
            refine zay rfl ?_
            refine c_seq ?_
            refine za0 ?_
            refine o_q rfl rfl (q_asg rfl) ?_
            refine o_end ?_
            refine za1 ?_
            refine c_ret ?_
            refine za5 ?_
            have e0_ := Option.some.inj h; clear h
            subst e0_
            exact x_r1 () Try.results15 (zaf rfl) rfl (fun w h => za8 [] (by decide) rfl w h)
          · replace h := br_f hb68 h
            refine o_w (za4 rfl rfl rfl (congrArg Value.bool hb68)) rfl (q_ldB G30 Z30 rfl (fun w h => h.za9 (i := 4) rfl) rfl) ?_
            refine o_w (za4 rfl rfl rfl (congrArg Value.bool hb68)) rfl (q_ldB G30 Z30 rfl (fun w h => h.za9 (i := 9) rfl) rfl) ?_
            refine za6 h (fun b70 hx69 h => ?_) rfl
            refine o_ew (za4 rfl rfl rfl (congrArg Value.bool hb68)) (zaa 0 Z Try.func20 N20 rfl rfl rfl (fun w P1 hF hB hS hT => laws_eqRegCode.calls k i37 A42 c43 l38.length l38 A44 c45 l39.length l39 A46 c47 l40.length l40 i14 A19 c20 l15.length l15 A21 c22 l16.length l16 A23 c24 l17.length l17 hB hF (hT 5 _ rfl).row (hT 5 _ rfl).cap (hT 6 _ rfl).row (hT 6 _ rfl).cap (hT 7 _ rfl).row (hT 7 _ rfl).cap (hT 10 _ rfl).row (hT 10 _ rfl).cap (hT 11 _ rfl).row (hT 11 _ rfl).cap (hT 12 _ rfl).row (hT 12 _ rfl).cap _ hx69)) (fun _ => ?_)
            refine o_w (za4 rfl rfl rfl (congrArg Value.bool hb68)) rfl (q_not rfl) ?_
            refine o_q rfl rfl (zan false (congrArg Value.bool hb68) rfl) ?_
            refine o_q rfl rfl (za2 rfl) ?_
            refine byB b70 (fun hb71 => ?_) (fun hb71 => ?_)
            · replace h := bb_t hb71 h
              refine o_w (za4 rfl rfl rfl (congrArg (fun b => Value.bool (!(b))) hb71)) rfl (za2 rfl) ?_
              refine o_w (za4 rfl rfl rfl (congrArg (fun b => Value.bool (!(b))) hb71)) rfl (za2 rfl) ?_
              refine o_w (za4 rfl rfl rfl (congrArg (fun b => Value.bool (!(b))) hb71)) rfl (q_bneq Try.underlying4 rfl rfl) ?_
              refine o_q rfl rfl (zan false (congrArg (fun b => Value.bool (!(b))) hb71) rfl) ?_
              refine o_end ?_
              refine za1 ?_
              refine zaz (congrArg Value.bool hb53) ?_
              refine zak ?_
              refine za1 ?_
              refine c_seq ?_
              refine za0 ?_
              refine o_q rfl rfl (q_asg rfl) ?_
              refine o_end ?_
              refine za1 ?_
              refine c_seq ?_
              refine za0 ?_
              refine o_q rfl rfl (q_ldB G30 Z30 rfl (fun w h => h.za9 (i := 4) rfl) rfl) ?_
              refine o_q rfl rfl (za2 rfl) ?_
              refine o_pick [5, 6, 7, 0, 1, 2, 3, 4, 8, 9, 10, 11, 12, 13, 14, 15] (by decide) rfl ?_
              refine bindE4 h (fun i73 l74 l75 l76 hx72 h => ?_) rfl
              refine o_e rfl (zaa 3 Z Try.func24 N24 rfl rfl rfl (fun w P1 hF hB hS hT => laws_markRegCode.calls k i37 A42 c43 l38.length l38 A44 c45 l39.length l39 A46 c47 l40.length l40 1 hB hF _ _ _ _ hx72)) (fun _ => ?_)
              refine o_q rfl rfl (q_asg rfl) ?_
              refine o_end ?_
              refine za1 ?_
              refine c_seq ?_
              refine za0 ?_
              refine o_q rfl rfl (q_asg rfl) ?_
              refine o_end ?_
              refine za1 ?_
              refine c_seq ?_
              refine za0 ?_
              refine o_q rfl rfl (q_ldB G30 Z30 rfl (fun w h => h.za9 (i := 7) rfl) rfl) ?_
              refine o_q rfl rfl (za2 rfl) ?_
              refine za6 h (fun i78 hx77 h => ?_) rfl
              refine o_e rfl (zaa 0 Z Try.func55 N55 rfl rfl rfl (fun w P1 hF hB hS hT => laws_heldRegCode.calls k i37 A42 c43 l38.length l74 A44 c45 l39.length l75 A46 c47 l40.length l76 1 hB hF (hT 0 _ rfl).row (hT 0 _ rfl).cap (hT 1 _ rfl).row (hT 1 _ rfl).cap (hT 2 _ rfl).row (hT 2 _ rfl).cap _ hx77)) (fun _ => ?_)
              refine o_q rfl rfl (q_asg rfl) ?_
              refine o_end ?_
              refine za1 ?_
              refine c_seq ?_
              refine c_seq ?_
              refine za0 ?_
              refine o_q rfl rfl (za2 rfl) ?_
              refine o_q rfl rfl (q_lss rfl rfl) ?_
              refine o_end ?_
              refine za1 ?_
              refine zar _ rfl (fun hb79 => ?_) (fun hb79 => ?_)
              · skip
                replace h := br_t hb79 h
                refine c_seq ?_
                refine za0 ?_
                refine o_q rfl rfl (q_asg rfl) ?_
                refine o_end ?_
                refine za1 ?_
                refine c_ret ?_
                refine za5 ?_
                have e0_ := Option.some.inj h; clear h
                subst e0_
                exact x_r1 () Try.results15 (zaf rfl) rfl (fun w h => za8 [] (by decide) rfl w h)
              · skip
                replace h := br_f hb79 h
                refine zak ?_
                refine za1 ?_
                refine c_seq ?_
                refine c_seq ?_
                refine za0 ?_
                refine o_q rfl rfl (za2 rfl) ?_
                refine o_q rfl rfl (za2 rfl) ?_
                refine o_q rfl rfl (q_neq rfl rfl) ?_
                refine o_end ?_
                refine za1 ?_
                refine zar _ rfl (fun hb80 => ?_) (fun hb80 => ?_)
                · skip
                  replace h := br_t hb80 h
                  refine c_seq ?_
                  refine za0 ?_
                  refine o_q rfl rfl (q_asg rfl) ?_
                  refine o_end ?_
                  refine za1 ?_
                  refine c_ret ?_
                  refine za5 ?_
                  have e0_ := Option.some.inj h; clear h
                  subst e0_
                  exact x_r1 () Try.results15 (zaf rfl) rfl (fun w h => za8 [] (by decide) rfl w h)
                · skip
                  replace h := br_f hb80 h
                  refine zak ?_
                  refine za1 ?_
                  refine c_seq ?_
                  refine za0 ?_
                  refine o_q rfl rfl (q_ldB G50 Z50 rfl (fun w h => h.za9 (i := 15) rfl) rfl) ?_
                  refine bindE2 h (fun l82 l83 hx81 h => ?_) rfl
                  refine o_e rfl (zaa 0 Z Try.func35 N35 rfl rfl rfl (fun w P1 hF hB hS hT => laws_toPlan.calls k a0_0 A0_1 c0_1 l0_1.length l0_1 A0_2 c0_2 l0_2.length l0_2 hB hF (hS _ R0_1) hc0_1 (hS _ R0_2) hc0_2 _ _ hx81)) (cur4 (fun A84 c85 A86 c87 => ?_))
                  refine bindE5 h (fun i89 l90 l91 l92 b93 hx88 h => ?_) rfl
                  refine o_e rfl (zaa 0 Z Try.func54 N54 rfl rfl rfl (fun w P1 hF hB hS hT => impl_AllocatePlan.calls k a0_0 A84 c85 l82.length l82 A86 c87 l83.length l83 hB hF (hT 0 _ rfl).row (hT 0 _ rfl).cap (hT 1 _ rfl).row (hT 1 _ rfl).cap _ _ _ _ _ hx88)) (cur6 (fun A94 c95 A96 c97 A98 c99 => ?_))
                  refine o_q rfl rfl (za2 rfl) ?_
                  refine o_q rfl rfl (q_ext rfl rfl) ?_
                  refine o_q rfl rfl (q_ext rfl rfl) ?_
                  refine o_e rfl (zat V30 rfl) (fun g100 => ?_)
                  refine o_e rfl (zao (i := 0) rfl rfl rfl Z30 rfl rfl) (fun _ => ?_)
                  refine o_q rfl rfl (q_asg rfl) ?_
                  refine o_end ?_
                  refine za1 ?_
                  refine c_seq ?_
                  refine c_seq ?_
                  refine za0 ?_
                  refine o_q rfl rfl (q_ldB G30 Z30 rfl (fun w h => h.za9 (i := 0) rfl) rfl) ?_
                  refine o_q rfl rfl (q_ldB G30 Z30 rfl (fun w h => h.za9 (i := 15) rfl) rfl) ?_
                  refine za6 h (fun b103 hx102 h => ?_) rfl
                  refine o_e rfl (zaa 0 Z Try.func20 N20 rfl rfl rfl (fun w P1 hF hB hS hT => laws_eqRegCode.calls k i89 A94 c95 l90.length l90 A96 c97 l91.length l91 A98 c99 l92.length l92 i14 A19 c20 l15.length l15 A21 c22 l16.length l16 A23 c24 l17.length l17 hB hF (hT 1 _ rfl).row (hT 1 _ rfl).cap (hT 2 _ rfl).row (hT 2 _ rfl).cap (hT 3 _ rfl).row (hT 3 _ rfl).cap (hT 16 _ rfl).row (hT 16 _ rfl).cap (hT 17 _ rfl).row (hT 17 _ rfl).cap (hT 18 _ rfl).row (hT 18 _ rfl).cap _ hx102)) (fun _ => ?_)
                  refine o_q rfl rfl (q_not rfl) ?_
                  refine o_q rfl rfl (za2 rfl) ?_
                  refine byB b103 (fun hb104 => ?_) (fun hb104 => ?_)
                  · replace h := bb_t hb104 h
                    refine o_w (za4 rfl rfl rfl (congrArg (fun b => Value.bool (!(b))) hb104)) rfl (za2 rfl) ?_
                    refine o_w (za4 rfl rfl rfl (congrArg (fun b => Value.bool (!(b))) hb104)) rfl (za2 rfl) ?_
                    refine o_w (za4 rfl rfl rfl (congrArg (fun b => Value.bool (!(b))) hb104)) rfl (q_bneq Try.underlying4 rfl rfl) ?_
                    refine o_q rfl rfl (zan false (congrArg (fun b => Value.bool (!(b))) hb104) rfl) ?_
                    refine o_end ?_
                    refine za1 ?_
                    refine zar _ rfl (fun hb105 => ?_) (fun hb105 => ?_)
                    · skip
                      replace h := bb_t hb105 h
                      refine c_seq ?_
                      refine za0 ?_
                      refine o_q rfl rfl (q_asg rfl) ?_
                      refine o_end ?_
                      refine za1 ?_
                      refine c_ret ?_
                      refine za5 ?_
                      have e0_ := Option.some.inj h; clear h
                      subst e0_
                      exact x_r1 () Try.results15 (zaf rfl) rfl (fun w h => za8 [] (by decide) rfl w h)
                    · skip
                      replace h := bb_f hb105 h
                      refine zak ?_
                      refine za1 ?_
                      refine c_seq ?_
                      refine za0 ?_
                      refine o_q rfl rfl (q_asg rfl) ?_
                      refine o_end ?_
                      refine za1 ?_
                      refine c_seq ?_
                      refine za0 ?_
                      refine o_q rfl rfl (q_ldB G30 Z30 rfl (fun w h => h.za9 (i := 13) rfl) rfl) ?_
                      refine o_q rfl rfl (za2 rfl) ?_
                      refine za6 h (fun i107 hx106 h => ?_) rfl
                      refine o_e rfl (zaa 0 Z Try.func55 N55 rfl rfl rfl (fun w P1 hF hB hS hT => laws_heldRegCode.calls k i37 A42 c43 l38.length l74 A44 c45 l39.length l75 A46 c47 l40.length l76 1 hB hF (hT 6 _ rfl).row (hT 6 _ rfl).cap (hT 7 _ rfl).row (hT 7 _ rfl).cap (hT 8 _ rfl).row (hT 8 _ rfl).cap _ hx106)) (fun _ => ?_)
                      refine o_q rfl rfl (q_asg rfl) ?_
                      refine o_end ?_
                      refine za1 ?_
                      refine c_seq ?_
                      refine c_seq ?_
                      refine za0 ?_
                      refine o_q rfl rfl (za2 rfl) ?_
                      refine o_q rfl rfl (q_lss rfl rfl) ?_
                      refine o_end ?_
                      refine za1 ?_
                      refine zar _ rfl (fun hb108 => ?_) (fun hb108 => ?_)
                      · skip
                        replace h := br_t hb108 h
                        refine c_seq ?_
                        refine za0 ?_
                        refine o_q rfl rfl (q_asg rfl) ?_
                        refine o_end ?_
                        refine za1 ?_
                        refine c_ret ?_
                        refine za5 ?_
                        have e0_ := Option.some.inj h; clear h
                        subst e0_
                        exact x_r1 () Try.results15 (zaf rfl) rfl (fun w h => za8 [] (by decide) rfl w h)
                      · skip
                        replace h := br_f hb108 h
                        refine zak ?_
                        refine za1 ?_
                        refine c_seq ?_
                        refine c_seq ?_
                        refine za0 ?_
                        refine o_q rfl rfl (za2 rfl) ?_
                        refine o_q rfl rfl (za2 rfl) ?_
                        refine o_q rfl rfl (q_neq rfl rfl) ?_
                        refine o_end ?_
                        refine za1 ?_
                        refine zar _ rfl (fun hb109 => ?_) (fun hb109 => ?_)
                        · skip
                          replace h := br_t hb109 h
                          refine c_seq ?_
                          refine za0 ?_
                          refine o_q rfl rfl (q_asg rfl) ?_
                          refine o_end ?_
                          refine za1 ?_
                          refine c_ret ?_
                          refine za5 ?_
                          have e0_ := Option.some.inj h; clear h
                          subst e0_
                          exact x_r1 () Try.results15 (zaf rfl) rfl (fun w h => za8 [] (by decide) rfl w h)
                        · skip
                          replace h := br_f hb109 h
                          refine zak ?_
                          refine za1 ?_
                          refine c_seq ?_
                          refine za0 ?_
                          refine o_q rfl rfl (q_asg rfl) ?_
                          refine o_end ?_
                          refine za1 ?_
                          refine c_ret ?_
                          have e0_ := Option.some.inj h; clear h
                          subst e0_
                          exact x_r1 () Try.results15 (zaf rfl) rfl (fun w h => za8 [] (by decide) rfl w h)
                  · replace h := bb_f hb104 h
                    refine @o_n _ _ _ _ _ _ _ _ _ _ _ 84 (za3 rfl rfl rfl (congrArg (fun b => Value.bool (!(b))) hb104) rfl) (Eq.refl (some 84)) ?_
                    refine @o_n _ _ _ _ _ _ _ _ _ _ _ 85 (za3 rfl rfl rfl (congrArg (fun b => Value.bool (!(b))) hb104) rfl) (Eq.refl (some 85)) ?_
                    refine @o_n _ _ _ _ _ _ _ _ _ _ _ 86 (za3 rfl rfl rfl (congrArg (fun b => Value.bool (!(b))) hb104) rfl) (Eq.refl (some 86)) ?_
                    refine o_q rfl rfl (zan true (congrArg (fun b => Value.bool (!(b))) hb104) rfl) ?_
                    refine o_end ?_
                    refine za1 ?_
                    refine zay rfl ?_
                    refine c_seq ?_
                    refine za0 ?_
                    refine o_q rfl rfl (q_asg rfl) ?_
                    refine o_end ?_
                    refine za1 ?_
                    refine c_ret ?_
                    refine za5 ?_
                    have e0_ := Option.some.inj h; clear h
                    subst e0_
                    exact x_r1 () Try.results15 (zaf rfl) rfl (fun w h => za8 [] (by decide) rfl w h)
            · replace h := bb_f hb71 h
              refine @o_n _ _ _ _ _ _ _ _ _ _ _ 58 (za3 rfl rfl rfl (congrArg (fun b => Value.bool (!(b))) hb71) rfl) (Eq.refl (some 58)) ?_
              refine @o_n _ _ _ _ _ _ _ _ _ _ _ 59 (za3 rfl rfl rfl (congrArg (fun b => Value.bool (!(b))) hb71) rfl) (Eq.refl (some 59)) ?_
              refine @o_n _ _ _ _ _ _ _ _ _ _ _ 60 (za3 rfl rfl rfl (congrArg (fun b => Value.bool (!(b))) hb71) rfl) (Eq.refl (some 60)) ?_
              refine o_q rfl rfl (zan true (congrArg (fun b => Value.bool (!(b))) hb71) rfl) ?_
              refine o_end ?_
              refine za1 ?_
              refine zay rfl ?_
              refine c_seq ?_
              refine za0 ?_
              refine o_q rfl rfl (q_asg rfl) ?_
              refine o_end ?_
              refine za1 ?_
              refine c_ret ?_
              refine za5 ?_
              have e0_ := Option.some.inj h; clear h
              subst e0_
              exact x_r1 () Try.results15 (zaf rfl) rfl (fun w h => za8 [] (by decide) rfl w h)
    · replace h := bb_f hb52 h
      refine @o_n _ _ _ _ _ _ _ _ _ _ _ 37 (za3 rfl rfl rfl (congrArg (fun b => Value.bool (!(b))) hb52) rfl) (Eq.refl (some 37)) ?_
      refine @o_n _ _ _ _ _ _ _ _ _ _ _ 38 (za3 rfl rfl rfl (congrArg (fun b => Value.bool (!(b))) hb52) rfl) (Eq.refl (some 38)) ?_
      refine @o_n _ _ _ _ _ _ _ _ _ _ _ 39 (za3 rfl rfl rfl (congrArg (fun b => Value.bool (!(b))) hb52) rfl) (Eq.refl (some 39)) ?_
      refine o_q rfl rfl (zan true (congrArg (fun b => Value.bool (!(b))) hb52) rfl) ?_
      refine o_end ?_
      refine za1 ?_
      refine zay rfl ?_
      refine c_seq ?_
      refine za0 ?_
      refine o_q rfl rfl (q_asg rfl) ?_
      refine o_end ?_
      refine za1 ?_
      refine c_ret ?_
      refine za5 ?_
      have e0_ := Option.some.inj h; clear h
      subst e0_
      exact x_r1 () Try.results15 (zaf rfl) rfl (fun w h => za8 [] (by decide) rfl w h)

/-- THE ONE PURE STATEMENT of laws_FnExactRunRegCode. -/
def laws_FnExactRunRegCode.Pure : Prop := ∀ (a0_0 : Int) (l0_1 : List Int) (l0_2 : List SRegOp) (l0_3 : List Int) (a1 : Int) (l2 : List Int), (Lit.int .i64 a0_0).wf = true → l0_1.length ≤ maxLen → (∀ y ∈ l0_1, (Lit.int .i64 y).wf = true) → l0_2.length ≤ maxLen → (∀ y ∈ l0_2, (Lit.int .i64 y.f0).wf = true ∧ (Lit.int .i64 y.f1).wf = true ∧ (Lit.int .i64 y.f2).wf = true) → l0_3.length ≤ maxLen → (∀ y ∈ l0_3, (Lit.int .i64 y).wf = true) → (Lit.int .i64 a1).wf = true → l2.length ≤ maxLen → (∀ y ∈ l2, (Lit.int .i64 y).wf = true) → ∃ k, laws_FnExactRunRegCode.f k a0_0 l0_1 l0_2 l0_3 a1 l2 = some true
theorem laws_FnExactRunRegCode.walk (P : laws_FnExactRunRegCode.Pure) (a0_0 : Int) (A0_1 : Option Addr) (c0_1 : Nat) (l0_1 : List Int) (A0_2 : Option Addr) (c0_2 : Nat) (l0_2 : List SRegOp) (A0_3 : Option Addr) (c0_3 : Nat) (l0_3 : List Int) (a1 : Int) (A2 : Option Addr) (c2 : Nat) (l2 : List Int) (w : World) (hr0_1 : Kd.C (Kd.int .i64) w A0_1 l0_1.length l0_1) (hc0_1 : l0_1.length ≤ c0_1) (hr0_2 : Kd.C zb4 w A0_2 l0_2.length l0_2) (hc0_2 : l0_2.length ≤ c0_2) (hr0_3 : Kd.C (Kd.int .i64) w A0_3 l0_3.length l0_3) (hc0_3 : l0_3.length ≤ c0_3) (hr2 : Kd.C (Kd.int .i64) w A2 l2.length l2) (hc2 : l2.length ≤ c2) (q0 : (Lit.int .i64 a0_0).wf = true) (q1 : l0_1.length ≤ maxLen) (q2 : (∀ y ∈ l0_1, (Lit.int .i64 y).wf = true)) (q3 : l0_2.length ≤ maxLen) (q4 : (∀ y ∈ l0_2, (Lit.int .i64 y.f0).wf = true ∧ (Lit.int .i64 y.f1).wf = true ∧ (Lit.int .i64 y.f2).wf = true)) (q5 : l0_3.length ≤ maxLen) (q6 : (∀ y ∈ l0_3, (Lit.int .i64 y).wf = true)) (q7 : (Lit.int .i64 a1).wf = true) (q8 : l2.length ≤ maxLen) (q9 : (∀ y ∈ l2, (Lit.int .i64 y).wf = true)) :
    Calls Try.prog 5 #[.agg #[.int .i64 a0_0, .slice A0_1 l0_1.length c0_1, .slice A0_2 l0_2.length c0_2, .slice A0_3 l0_3.length c0_3], .int .i64 a1, .slice A2 l2.length c2] w fun e w' => e = .returned (.bool true) ∧ Below w.heap.size w w' := by
  obtain ⟨k, h⟩ := P a0_0 l0_1 l0_2 l0_3 a1 l2 q0 q1 q2 q3 q4 q5 q6 q7 q8 q9
  refine (laws_FnExactRunRegCode.calls k a0_0 A0_1 c0_1 l0_1.length l0_1 A0_2 c0_2 l0_2.length l0_2 A0_3 c0_3 l0_3.length l0_3 a1 A2 c2 l2.length l2 (Below.refl _ _) (Fr.start w) (fun W hW => Kd.C_below hr0_1 hW.below) hc0_1 (fun W hW => Kd.C_below hr0_2 hW.below) hc0_2 (fun W hW => Kd.C_below hr0_3 hW.below) hc0_3 (fun W hW => Kd.C_below hr2 hW.below) hc2 true h).mono ?_
  rintro e w' ⟨s, rfl, hF⟩
  exact ⟨rfl, hF.bel⟩
/-- THE ONE PURE STATEMENT of laws_FnExactAllocatePlan. -/
def laws_FnExactAllocatePlan.Pure : Prop := ∀ (a0_0 : Int) (l0_1 : List SStep) (l0_2 : List Int), (Lit.int .i64 a0_0).wf = true → l0_1.length ≤ maxLen → (∀ y ∈ l0_1, (Lit.int .i64 y.f0).wf = true ∧ (Lit.int .i64 y.f1).wf = true) → l0_2.length ≤ maxLen → (∀ y ∈ l0_2, (Lit.int .i64 y).wf = true) → ∃ k, laws_FnExactAllocatePlan.f k a0_0 l0_1 l0_2 = some true
theorem laws_FnExactAllocatePlan.walk (P : laws_FnExactAllocatePlan.Pure) (a0_0 : Int) (A0_1 : Option Addr) (c0_1 : Nat) (l0_1 : List SStep) (A0_2 : Option Addr) (c0_2 : Nat) (l0_2 : List Int) (w : World) (hr0_1 : Kd.C kStep w A0_1 l0_1.length l0_1) (hc0_1 : l0_1.length ≤ c0_1) (hr0_2 : Kd.C (Kd.int .i64) w A0_2 l0_2.length l0_2) (hc0_2 : l0_2.length ≤ c0_2) (q0 : (Lit.int .i64 a0_0).wf = true) (q1 : l0_1.length ≤ maxLen) (q2 : (∀ y ∈ l0_1, (Lit.int .i64 y.f0).wf = true ∧ (Lit.int .i64 y.f1).wf = true)) (q3 : l0_2.length ≤ maxLen) (q4 : (∀ y ∈ l0_2, (Lit.int .i64 y).wf = true)) :
    Calls Try.prog 15 #[.agg #[.int .i64 a0_0, .slice A0_1 l0_1.length c0_1, .slice A0_2 l0_2.length c0_2]] w fun e w' => e = .returned (.bool true) ∧ Below w.heap.size w w' := by
  obtain ⟨k, h⟩ := P a0_0 l0_1 l0_2 q0 q1 q2 q3 q4
  refine (laws_FnExactAllocatePlan.calls k a0_0 A0_1 c0_1 l0_1.length l0_1 A0_2 c0_2 l0_2.length l0_2 (Below.refl _ _) (Fr.start w) (fun W hW => Kd.C_below hr0_1 hW.below) hc0_1 (fun W hW => Kd.C_below hr0_2 hW.below) hc0_2 true h).mono ?_
  rintro e w' ⟨s, rfl, hF⟩
  exact ⟨rfl, hF.bel⟩
end Go.Proofs.Ytpdpomjgfmdjfaa.G2
