import Derived.Test.YtoegbcbdiggbjaaKFnJoinedPlansJPp2
namespace Go.Proofs.Ytoegbcbdiggbjaa.JP
open Go.RowKit Go.Proofs.Ytoegbcbdiggbjaa.Frame Go.Proofs.YtoegbcbdiggbjaaW.PrintLast Go.Proofs.Ytoegbcbdiggbjaa.Hand
open Go.Proofs.YtoegbcbdiggbjaaW.PrintWords hiding mn mx
set_option linter.unusedVariables false
/-! ### loop.example/g01098/laws.pSameSteps: function 99 -/
def laws_pSameSteps.l0 (l1 : List SStep) : (List SStep) → Int → Option ((Bool) ⊕ (Unit))
  | [], i2 => some (.inr ())
  | y3 :: ys4, i2 => (gt l1 i2).bind fun y16 => if (y3.f0 == y16.f0 && (y3.f1 == y16.f1 && true)) = true then (laws_pSameSteps.l0 l1 ys4 (i2 + 1)) else (some (.inl false))
def laws_pSameSteps.f (l0 : List SStep) (l1 : List SStep) : Option Bool := if (l0.length : Int) ≠ (l1.length : Int) then (some false) else ((laws_pSameSteps.l0 l1 l0 0).bind fun o_ => match o_ with | .inl r_ => some r_ | .inr _ => some true)
set_option maxHeartbeats 600000 in
set_option maxRecDepth 100000 in
theorem laws_pSameSteps.calls {w0 ws : World} {P0 : Nat → Prop} (A0 : Option Addr) (c0 : Nat) (n0 : Nat) (l0 : List SStep) (A1 : Option Addr) (c1 : Nat) (n1 : Nat) (l1 : List SStep) (Z : Below w0.heap.size w0 ws) (hF : Fr w0 ws P0 [] ws) (R0 : Stable ws P0 (fun w => Kd.C kStep w A0 n0 l0)) (hc0 : n0 ≤ c0) (R1 : Stable ws P0 (fun w => Kd.C kStep w A1 n1 l1)) (hc1 : n1 ≤ c1) (r_1 : Bool) (h : laws_pSameSteps.f l0 l1 = some r_1) :
    Calls Try.prog 99 #[.slice A0 n0 c0, .slice A1 n1 c1] ws (Post1 w0 ws P0 (fun (_ : Unit) => .bool r_1) (fun (_ : Unit) => [])) := by
  unfold laws_pSameSteps.f at h
  obtain rfl := (R0 ws (KeptB.refl _ _)).1
  obtain rfl := (R1 ws (KeptB.refl _ _)).1
  refine enter Try.func99 rfl Try.ntmps99 rfl hF ?_
  refine c_seq ?_
  refine za0 ?_
  refine o_q rfl rfl (q_asg rfl) ?_
  refine o_end ?_
  refine za1 ?_
  refine c_seq ?_
  refine c_seq ?_
  refine za0 ?_
  refine o_q rfl rfl (za2 rfl) ?_
  refine o_q rfl rfl (q_len Try.underlying24 rfl) ?_
  refine o_q rfl rfl (za2 rfl) ?_
  refine o_q rfl rfl (q_len Try.underlying24 rfl) ?_
  refine o_q rfl rfl (q_neq rfl rfl) ?_
  refine o_end ?_
  refine za1 ?_
  refine zau _ rfl (fun hb1 => ?_) (fun hb1 => ?_)
  · skip
    replace h := br_t hb1 h
    refine c_seq ?_
    refine za0 ?_
    refine o_q rfl rfl (q_asg rfl) ?_
    refine o_end ?_
    refine za1 ?_
    refine c_ret ?_
    refine zac ?_
    have e0_ := Option.some.inj h; clear h
    subst e0_
    exact x_r1 () Try.results99 (zaf rfl) rfl (fun w h => za6 [] (by decide) rfl w h)
  · skip
    replace h := br_f hb1 h
    refine zaq ?_
    refine za1 ?_
    refine c_seq ?_
    refine c_seq ?_
    refine za0 ?_
    refine o_q rfl rfl (za2 rfl) ?_
    refine o_q rfl rfl (q_len Try.underlying24 rfl) ?_
    refine o_q rfl rfl (za2 rfl) ?_
    refine o_end ?_
    refine za1 ?_
    refine zaj ?_
    refine za8 h (fun o10 hl9 hR8 => ?_) rfl
    clear h
    refine c_fact (p := l0.length ≤ 9223372036854775807) (fun w h => (R0.now Z h).2.1) (fun hm7 => ?_)
    refine c_loopL (σ := (List SStep) × Int) (fun k5 ((ys4, i2) : (List SStep) × Int) => Rg l0 i2 ys4 ∧ ys4.length = k5 ∧ laws_pSameSteps.l0 l1 ys4 i2 = some o10) [4, 5, 13, 14, 15, 16, 17, 18, 19, 20, 21, 22, 23, 24, 25] (fun ((ys4, i2) : (List SStep) × Int) => [(13, .int .i64 i2)]) (fun ((ys4, i2) : (List SStep) × Int) => []) l0.length (l0, 0) ⟨Rg.start _, rfl, hl9⟩ ⟨rfl, trivial⟩ (fun w h => h) ?_
    refine fun k5 => cur2 (listC (fun i2 U11 hJ_ => ?_) (fun y3 ys4 i2 U11 hJ_ => ?_))
    · skip
      clear hl9
      have hr6 := hJ_.1; have hk12 := hJ_.2.1; have h := hJ_.2.2; clear hJ_
      replace h : laws_pSameSteps.l0 l1 [] i2 = some o10 := h
      rw [laws_pSameSteps.l0] at h
      refine c_seq ?_
      refine za0 ?_
      refine o_q rfl rfl (q_lss rfl rfl) ?_
      refine o_end ?_
      refine za1 ?_
      refine c_seq ?_
      refine c_false (congrArg Value.bool hr6.ge) ?_
      refine c_exit ?_
      refine za9 ?_
      refine za9 ?_
      have e_ := Option.some.inj h; replace h := hR8; rw [← e_] at h; clear e_
      refine x_hit ?_
      refine za1 ?_
      refine c_seq ?_
      refine za0 ?_
      refine o_q rfl rfl (q_asg rfl) ?_
      refine o_end ?_
      refine za1 ?_
      refine c_ret ?_
      have e0_ := Option.some.inj h; clear h
      subst e0_
      exact x_r1 () Try.results99 (zaf rfl) rfl (fun w h => za6 [] (by decide) rfl w h)
    · skip
      clear hl9
      have hr6 := hJ_.1; have hk12 := hJ_.2.1; have h := hJ_.2.2; clear hJ_
      replace h : laws_pSameSteps.l0 l1 (y3 :: ys4) i2 = some o10 := h
      rw [laws_pSameSteps.l0] at h
      refine c_seq ?_
      refine za0 ?_
      refine o_q rfl rfl (q_lss rfl rfl) ?_
      refine o_end ?_
      refine za1 ?_
      refine c_seq ?_
      refine c_true (congrArg Value.bool hr6.lt) ?_
      refine zaq ?_
      refine za1 ?_
      refine c_seq ?_
      refine zaj ?_
      refine c_seq ?_
      refine za0 ?_
      refine o_q rfl rfl (za2 rfl) ?_
      refine o_q rfl rfl (q_asg rfl) ?_
      refine o_end ?_
      refine za1 ?_
      refine c_seq ?_
      refine a_start (ds := []) MO rfl ?_
      refine za5 0 rfl rfl rfl (by kernel_rfl) (fun _ _ _ h => h) (za2 rfl) ?_
      refine za5 1 rfl rfl rfl (by kernel_rfl) (fun _ _ _ h => h) (za2 rfl) ?_
      refine a_fact (p := Sh A0 l0.length l0.length) (fun w h => f_sh (dk := kStep) h (fun w h => R0.now Z h)) (fun hq13 => ?_)
      refine za5 2 rfl rfl rfl (by kernel_rfl) (fun _ _ _ h => h) (q_ix Try.underlying24 Z89 rfl rfl hq13 hr6.get) ?_
      refine zat 3 rfl rfl rfl (by kernel_rfl) (fun _ _ _ h => h) (fun w h => h) (q_ldE G89 Z89 rfl rfl (fun w h => R0.now Z h) hr6.get (fun _ _ h => h) rfl) ?_
      refine za5 4 rfl rfl rfl (by kernel_rfl) (fun _ _ _ h => h) (za2 rfl) ?_
      refine za5 5 rfl rfl rfl (by kernel_rfl) (fun _ _ _ h => h) (za2 rfl) ?_
      refine a_fact (p := Sh A1 l1.length l1.length) (fun w h => f_sh (dk := kStep) h (fun w h => R1.now Z h)) (fun hq14 => ?_)
      refine za8 h (fun y16 hg15 h => ?_) rfl
      refine za5 6 rfl rfl rfl (by kernel_rfl) (fun _ _ _ h => h) (q_ix Try.underlying24 Z89 rfl rfl hq14 hg15) ?_
      refine zat 7 rfl rfl rfl (by kernel_rfl) (fun _ _ _ h => h) (fun w h => h) (q_ldE G89 Z89 rfl rfl (fun w h => R1.now Z h) hg15 (fun _ _ h => h) rfl) ?_
      refine za5 8 rfl rfl rfl (by kernel_rfl) (fun _ _ _ h => h) (q_aneq E89 O89 P89 (Q89 y3.f0 y3.f1 y16.f0 y16.f1) rfl rfl) ?_
      refine a_done (by kernel_rfl) ?_
      refine za1 ?_
      refine zau _ rfl (fun hb17 => ?_) (fun hb17 => ?_)
      · replace hb17 := nt_t hb17
        replace h := bb_f hb17 h
        refine c_seq ?_
        refine za0 ?_
        refine o_q rfl rfl (q_asg rfl) ?_
        refine o_end ?_
        refine za1 ?_
        refine c_ret ?_
        refine zan ?_
        refine zac ?_
        refine zac ?_
        have e_ := Option.some.inj h; replace h := hR8; rw [← e_] at h; clear e_
        refine zan ?_
        refine zac ?_
        have e0_ := Option.some.inj h; clear h
        subst e0_
        exact x_r1 () Try.results99 (zaf rfl) rfl (fun w h => za6 [] (by decide) rfl w h)
      · replace hb17 := nt_f hb17
        replace h := bb_t hb17 h
        refine zaq ?_
        refine zal ?_
        refine za1 ?_
        refine za0 ?_
        refine o_q rfl rfl (q_up rfl rfl (hr6.up hm7)) ?_
        refine o_q rfl rfl (za2 rfl) ?_
        refine o_end ?_
        refine zam ys4.length (ys4, i2 + 1) (by rw [← hk12]; exact Nat.lt_succ_self _) ⟨hr6.step, rfl, h⟩ ⟨rfl, trivial⟩ (fun w h => za6 [] (by decide) rfl w h) ?_
        repeat (first | exact zad _ _ | refine zah rfl ?_ | refine zae rfl ?_ | refine zai rfl ?_)

/-! ### loop.example/g01098/laws.pSameInts: function 21 -/
def laws_pSameInts.l0 (l1 : List Int) : (List Int) → Int → Option ((Bool) ⊕ (Unit))
  | [], i2 => some (.inr ())
  | y3 :: ys4, i2 => (gt l1 i2).bind fun y16 => if y3 ≠ y16 then (some (.inl false)) else (laws_pSameInts.l0 l1 ys4 (i2 + 1))
def laws_pSameInts.f (l0 : List Int) (l1 : List Int) : Option Bool := if (l0.length : Int) ≠ (l1.length : Int) then (some false) else ((laws_pSameInts.l0 l1 l0 0).bind fun o_ => match o_ with | .inl r_ => some r_ | .inr _ => some true)
set_option maxHeartbeats 600000 in
set_option maxRecDepth 100000 in
theorem laws_pSameInts.calls {w0 ws : World} {P0 : Nat → Prop} (A0 : Option Addr) (c0 : Nat) (n0 : Nat) (l0 : List Int) (A1 : Option Addr) (c1 : Nat) (n1 : Nat) (l1 : List Int) (Z : Below w0.heap.size w0 ws) (hF : Fr w0 ws P0 [] ws) (R0 : Stable ws P0 (fun w => Kd.C (Kd.int .i64) w A0 n0 l0)) (hc0 : n0 ≤ c0) (R1 : Stable ws P0 (fun w => Kd.C (Kd.int .i64) w A1 n1 l1)) (hc1 : n1 ≤ c1) (r_1 : Bool) (h : laws_pSameInts.f l0 l1 = some r_1) :
    Calls Try.prog 21 #[.slice A0 n0 c0, .slice A1 n1 c1] ws (Post1 w0 ws P0 (fun (_ : Unit) => .bool r_1) (fun (_ : Unit) => [])) := by
  unfold laws_pSameInts.f at h
  obtain rfl := (R0 ws (KeptB.refl _ _)).1
  obtain rfl := (R1 ws (KeptB.refl _ _)).1
  refine enter Try.func21 rfl Try.ntmps21 rfl hF ?_
  refine c_seq ?_
  refine za0 ?_
  refine o_q rfl rfl (q_asg rfl) ?_
  refine o_end ?_
  refine za1 ?_
  refine c_seq ?_
  refine c_seq ?_
  refine za0 ?_
  refine o_q rfl rfl (za2 rfl) ?_
  refine o_q rfl rfl (q_len Try.underlying25 rfl) ?_
  refine o_q rfl rfl (za2 rfl) ?_
  refine o_q rfl rfl (q_len Try.underlying25 rfl) ?_
  refine o_q rfl rfl (q_neq rfl rfl) ?_
  refine o_end ?_
  refine za1 ?_
  refine zau _ rfl (fun hb1 => ?_) (fun hb1 => ?_)
  · skip
    replace h := br_t hb1 h
    refine c_seq ?_
    refine za0 ?_
    refine o_q rfl rfl (q_asg rfl) ?_
    refine o_end ?_
    refine za1 ?_
    refine c_ret ?_
    refine zac ?_
    have e0_ := Option.some.inj h; clear h
    subst e0_
    exact x_r1 () Try.results21 (zaf rfl) rfl (fun w h => za6 [] (by decide) rfl w h)
  · skip
    replace h := br_f hb1 h
    refine zaq ?_
    refine za1 ?_
    refine c_seq ?_
    refine c_seq ?_
    refine za0 ?_
    refine o_q rfl rfl (za2 rfl) ?_
    refine o_q rfl rfl (q_len Try.underlying25 rfl) ?_
    refine o_q rfl rfl (za2 rfl) ?_
    refine o_end ?_
    refine za1 ?_
    refine zaj ?_
    refine za8 h (fun o10 hl9 hR8 => ?_) rfl
    clear h
    refine c_fact (p := l0.length ≤ 9223372036854775807) (fun w h => (R0.now Z h).2.1) (fun hm7 => ?_)
    refine c_loopL (σ := (List Int) × Int) (fun k5 ((ys4, i2) : (List Int) × Int) => Rg l0 i2 ys4 ∧ ys4.length = k5 ∧ laws_pSameInts.l0 l1 ys4 i2 = some o10) [4, 5, 13, 14, 15, 16, 17, 18, 19, 20, 21, 22, 23, 24, 25] (fun ((ys4, i2) : (List Int) × Int) => [(13, .int .i64 i2)]) (fun ((ys4, i2) : (List Int) × Int) => []) l0.length (l0, 0) ⟨Rg.start _, rfl, hl9⟩ ⟨rfl, trivial⟩ (fun w h => h) ?_
    refine fun k5 => cur2 (listC (fun i2 U11 hJ_ => ?_) (fun y3 ys4 i2 U11 hJ_ => ?_))
    · skip
      clear hl9
      have hr6 := hJ_.1; have hk12 := hJ_.2.1; have h := hJ_.2.2; clear hJ_
      replace h : laws_pSameInts.l0 l1 [] i2 = some o10 := h
      rw [laws_pSameInts.l0] at h
      refine c_seq ?_
      refine za0 ?_
      refine o_q rfl rfl (q_lss rfl rfl) ?_
      refine o_end ?_
      refine za1 ?_
      refine c_seq ?_
      refine c_false (congrArg Value.bool hr6.ge) ?_
      refine c_exit ?_
      refine za9 ?_
      refine za9 ?_
      have e_ := Option.some.inj h; replace h := hR8; rw [← e_] at h; clear e_
      refine x_hit ?_
      refine za1 ?_
      refine c_seq ?_
      refine za0 ?_
      refine o_q rfl rfl (q_asg rfl) ?_
      refine o_end ?_
      refine za1 ?_
      refine c_ret ?_
      have e0_ := Option.some.inj h; clear h
      subst e0_
      exact x_r1 () Try.results21 (zaf rfl) rfl (fun w h => za6 [] (by decide) rfl w h)
    · skip
      clear hl9
      have hr6 := hJ_.1; have hk12 := hJ_.2.1; have h := hJ_.2.2; clear hJ_
      replace h : laws_pSameInts.l0 l1 (y3 :: ys4) i2 = some o10 := h
      rw [laws_pSameInts.l0] at h
      refine c_seq ?_
      refine za0 ?_
      refine o_q rfl rfl (q_lss rfl rfl) ?_
      refine o_end ?_
      refine za1 ?_
      refine c_seq ?_
      refine c_true (congrArg Value.bool hr6.lt) ?_
      refine zaq ?_
      refine za1 ?_
      refine c_seq ?_
      refine zaj ?_
      refine c_seq ?_
      refine za0 ?_
      refine o_q rfl rfl (za2 rfl) ?_
      refine o_q rfl rfl (q_asg rfl) ?_
      refine o_end ?_
      refine za1 ?_
      refine c_seq ?_
      refine a_start (ds := []) MO rfl ?_
      refine za5 0 rfl rfl rfl (by kernel_rfl) (fun _ _ _ h => h) (za2 rfl) ?_
      refine za5 1 rfl rfl rfl (by kernel_rfl) (fun _ _ _ h => h) (za2 rfl) ?_
      refine a_fact (p := Sh A0 l0.length l0.length) (fun w h => f_sh (dk := (Kd.int .i64)) h (fun w h => R0.now Z h)) (fun hq13 => ?_)
      refine za5 2 rfl rfl rfl (by kernel_rfl) (fun _ _ _ h => h) (q_ix Try.underlying25 Z3 rfl rfl hq13 hr6.get) ?_
      refine zat 3 rfl rfl rfl (by kernel_rfl) (fun _ _ _ h => h) (fun w h => h) (q_lde (off := 0) Y3 rfl rfl (fun w h => R0.now Z h) hr6.get (fun _ _ h => h) rfl) ?_
      refine za5 4 rfl rfl rfl (by kernel_rfl) (fun _ _ _ h => h) (za2 rfl) ?_
      refine za5 5 rfl rfl rfl (by kernel_rfl) (fun _ _ _ h => h) (za2 rfl) ?_
      refine a_fact (p := Sh A1 l1.length l1.length) (fun w h => f_sh (dk := (Kd.int .i64)) h (fun w h => R1.now Z h)) (fun hq14 => ?_)
      refine za8 h (fun y16 hg15 h => ?_) rfl
      refine za5 6 rfl rfl rfl (by kernel_rfl) (fun _ _ _ h => h) (q_ix Try.underlying25 Z3 rfl rfl hq14 hg15) ?_
      refine zat 7 rfl rfl rfl (by kernel_rfl) (fun _ _ _ h => h) (fun w h => h) (q_lde (off := 0) Y3 rfl rfl (fun w h => R1.now Z h) hg15 (fun _ _ h => h) rfl) ?_
      refine za5 8 rfl rfl rfl (by kernel_rfl) (fun _ _ _ h => h) (q_neq rfl rfl) ?_
      refine a_done (by kernel_rfl) ?_
      refine za1 ?_
      refine zau _ rfl (fun hb17 => ?_) (fun hb17 => ?_)
      · skip
        replace h := br_t hb17 h
        refine c_seq ?_
        refine za0 ?_
        refine o_q rfl rfl (q_asg rfl) ?_
        refine o_end ?_
        refine za1 ?_
        refine c_ret ?_
        refine zan ?_
        refine zac ?_
        refine zac ?_
        have e_ := Option.some.inj h; replace h := hR8; rw [← e_] at h; clear e_
        refine zan ?_
        refine zac ?_
        have e0_ := Option.some.inj h; clear h
        subst e0_
        exact x_r1 () Try.results21 (zaf rfl) rfl (fun w h => za6 [] (by decide) rfl w h)
      · skip
        replace h := br_f hb17 h
        refine zaq ?_
        refine zal ?_
        refine za1 ?_
        refine za0 ?_
        refine o_q rfl rfl (q_up rfl rfl (hr6.up hm7)) ?_
        refine o_q rfl rfl (za2 rfl) ?_
        refine o_end ?_
        refine zam ys4.length (ys4, i2 + 1) (by rw [← hk12]; exact Nat.lt_succ_self _) ⟨hr6.step, rfl, h⟩ ⟨rfl, trivial⟩ (fun w h => za6 [] (by decide) rfl w h) ?_
        repeat (first | exact zad _ _ | refine zah rfl ?_ | refine zae rfl ?_ | refine zai rfl ?_)

/-! ### loop.example/g01098/laws.pSamePlan: function 17 -/
def laws_pSamePlan.f (a0_0 : Int) (l0_1 : List SStep) (l0_2 : List Int) (a1_0 : Int) (l1_1 : List SStep) (l1_2 : List Int) : Option Bool := if a0_0 = a1_0 then ((laws_pSameSteps.f l0_1 l1_1).bind fun b7 => if b7 = true then ((laws_pSameInts.f l0_2 l1_2).bind fun b10 => some b10) else (some false)) else (some false)
set_option maxHeartbeats 600000 in
set_option maxRecDepth 100000 in
theorem laws_pSamePlan.calls {w0 ws : World} {P0 : Nat → Prop} (a0_0 : Int) (A0_1 : Option Addr) (c0_1 : Nat) (n0_1 : Nat) (l0_1 : List SStep) (A0_2 : Option Addr) (c0_2 : Nat) (n0_2 : Nat) (l0_2 : List Int) (a1_0 : Int) (A1_1 : Option Addr) (c1_1 : Nat) (n1_1 : Nat) (l1_1 : List SStep) (A1_2 : Option Addr) (c1_2 : Nat) (n1_2 : Nat) (l1_2 : List Int) (Z : Below w0.heap.size w0 ws) (hF : Fr w0 ws P0 [] ws) (R0_1 : Stable ws P0 (fun w => Kd.C kStep w A0_1 n0_1 l0_1)) (hc0_1 : n0_1 ≤ c0_1) (R0_2 : Stable ws P0 (fun w => Kd.C (Kd.int .i64) w A0_2 n0_2 l0_2)) (hc0_2 : n0_2 ≤ c0_2) (R1_1 : Stable ws P0 (fun w => Kd.C kStep w A1_1 n1_1 l1_1)) (hc1_1 : n1_1 ≤ c1_1) (R1_2 : Stable ws P0 (fun w => Kd.C (Kd.int .i64) w A1_2 n1_2 l1_2)) (hc1_2 : n1_2 ≤ c1_2) (r_1 : Bool) (h : laws_pSamePlan.f a0_0 l0_1 l0_2 a1_0 l1_1 l1_2 = some r_1) :
    Calls Try.prog 17 #[.agg #[.int .i64 a0_0, .slice A0_1 n0_1 c0_1, .slice A0_2 n0_2 c0_2], .agg #[.int .i64 a1_0, .slice A1_1 n1_1 c1_1, .slice A1_2 n1_2 c1_2]] ws (Post1 w0 ws P0 (fun (_ : Unit) => .bool r_1) (fun (_ : Unit) => [])) := by
  unfold laws_pSamePlan.f at h
  obtain rfl := (R0_1 ws (KeptB.refl _ _)).1
  obtain rfl := (R0_2 ws (KeptB.refl _ _)).1
  obtain rfl := (R1_1 ws (KeptB.refl _ _)).1
  obtain rfl := (R1_2 ws (KeptB.refl _ _)).1
  refine enter Try.func17 rfl Try.ntmps17 rfl hF ?_
  refine c_seq ?_
  refine za0 ?_
  refine o_e rfl (e_box rfl) (fun g1 => ?_)
  refine o_e rfl (e_box rfl) (fun g3 => ?_)
  refine o_q rfl rfl (q_asg rfl) ?_
  refine o_end ?_
  refine za1 ?_
  refine c_seq ?_
  refine za0 ?_
  refine o_q rfl rfl (q_f F27_0 rfl) ?_
  refine o_q rfl rfl (q_ldb Y3 rfl (fun w h => h.zaa (i := 1) rfl) rfl) ?_
  refine o_q rfl rfl (q_f F27_0 rfl) ?_
  refine o_q rfl rfl (q_ldb Y3 rfl (fun w h => h.zaa (i := 0) rfl) rfl) ?_
  refine o_q rfl rfl (q_eql rfl rfl) ?_
  refine o_q rfl rfl (za2 rfl) ?_
  refine byB (decide (a0_0 = a1_0)) (fun hb5 => ?_) (fun hb5 => ?_)
  · replace h := br_t hb5 h
    refine o_w (za4 rfl rfl rfl (congrArg Value.bool hb5)) rfl (q_f F27_1 rfl) ?_
    refine o_w (za4 rfl rfl rfl (congrArg Value.bool hb5)) rfl (q_ldb Y24 rfl (fun w h => h.zaa (i := 1) rfl) rfl) ?_
    refine o_w (za4 rfl rfl rfl (congrArg Value.bool hb5)) rfl (q_f F27_1 rfl) ?_
    refine o_w (za4 rfl rfl rfl (congrArg Value.bool hb5)) rfl (q_ldb Y24 rfl (fun w h => h.zaa (i := 0) rfl) rfl) ?_
    refine za8 h (fun b7 hx6 h => ?_) rfl
    refine o_ew (za4 rfl rfl rfl (congrArg Value.bool hb5)) (zab 0 Z Try.func99 N99 rfl rfl rfl (fun w P1 hF hB hS hT => laws_pSameSteps.calls A0_1 c0_1 l0_1.length l0_1 A1_1 c1_1 l1_1.length l1_1 hB hF (hS _ R0_1) hc0_1 (hS _ R1_1) hc1_1 _ hx6)) (fun _ => ?_)
    refine o_q rfl rfl (zak true (congrArg Value.bool hb5) rfl) ?_
    refine o_q rfl rfl (za2 rfl) ?_
    refine byB b7 (fun hb8 => ?_) (fun hb8 => ?_)
    · replace h := bb_t hb8 h
      refine o_w (za4 rfl rfl rfl (congrArg Value.bool hb8)) rfl (q_f F27_2 rfl) ?_
      refine o_w (za4 rfl rfl rfl (congrArg Value.bool hb8)) rfl (q_ldb Y25 rfl (fun w h => h.zaa (i := 1) rfl) rfl) ?_
      refine o_w (za4 rfl rfl rfl (congrArg Value.bool hb8)) rfl (q_f F27_2 rfl) ?_
      refine o_w (za4 rfl rfl rfl (congrArg Value.bool hb8)) rfl (q_ldb Y25 rfl (fun w h => h.zaa (i := 0) rfl) rfl) ?_
      refine za8 h (fun b10 hx9 h => ?_) rfl
      refine o_ew (za4 rfl rfl rfl (congrArg Value.bool hb8)) (zab 0 Z Try.func21 N21 rfl rfl rfl (fun w P1 hF hB hS hT => laws_pSameInts.calls A0_2 c0_2 l0_2.length l0_2 A1_2 c1_2 l1_2.length l1_2 hB hF (hS _ R0_2) hc0_2 (hS _ R1_2) hc1_2 _ hx9)) (fun _ => ?_)
      refine o_q rfl rfl (zak true (congrArg Value.bool hb8) rfl) ?_
      refine o_q rfl rfl (q_asg rfl) ?_
      refine o_end ?_
      refine za1 ?_
      refine c_ret ?_
      have e0_ := Option.some.inj h; clear h
      subst e0_
      exact x_r1 () Try.results17 (zaf rfl) rfl (fun w h => za6 [] (by decide) rfl w h)
    · replace h := bb_f hb8 h
      refine @o_n _ _ _ _ _ _ _ _ _ _ _ 18 (za3 rfl rfl rfl (congrArg Value.bool hb8) rfl) (Eq.refl (some 18)) ?_
      refine @o_n _ _ _ _ _ _ _ _ _ _ _ 19 (za3 rfl rfl rfl (congrArg Value.bool hb8) rfl) (Eq.refl (some 19)) ?_
      refine @o_n _ _ _ _ _ _ _ _ _ _ _ 20 (za3 rfl rfl rfl (congrArg Value.bool hb8) rfl) (Eq.refl (some 20)) ?_
      refine @o_n _ _ _ _ _ _ _ _ _ _ _ 21 (za3 rfl rfl rfl (congrArg Value.bool hb8) rfl) (Eq.refl (some 21)) ?_
      refine @o_n _ _ _ _ _ _ _ _ _ _ _ 22 (za3 rfl rfl rfl (congrArg Value.bool hb8) rfl) (Eq.refl (some 22)) ?_
      refine o_q rfl rfl (zak false (congrArg Value.bool hb8) rfl) ?_
      refine o_q rfl rfl (q_asg rfl) ?_
      refine o_end ?_
      refine za1 ?_
      refine c_ret ?_
      have e0_ := Option.some.inj h; clear h
      subst e0_
      exact x_r1 () Try.results17 (zaf rfl) rfl (fun w h => za6 [] (by decide) rfl w h)
  · replace h := br_f hb5 h
    refine @o_n _ _ _ _ _ _ _ _ _ _ _ 11 (za3 rfl rfl rfl (congrArg Value.bool hb5) rfl) (Eq.refl (some 11)) ?_
    refine @o_n _ _ _ _ _ _ _ _ _ _ _ 12 (za3 rfl rfl rfl (congrArg Value.bool hb5) rfl) (Eq.refl (some 12)) ?_
    refine @o_n _ _ _ _ _ _ _ _ _ _ _ 13 (za3 rfl rfl rfl (congrArg Value.bool hb5) rfl) (Eq.refl (some 13)) ?_
    refine @o_n _ _ _ _ _ _ _ _ _ _ _ 14 (za3 rfl rfl rfl (congrArg Value.bool hb5) rfl) (Eq.refl (some 14)) ?_
    refine @o_n _ _ _ _ _ _ _ _ _ _ _ 15 (za3 rfl rfl rfl (congrArg Value.bool hb5) rfl) (Eq.refl (some 15)) ?_
    refine o_q rfl rfl (zak false (congrArg Value.bool hb5) rfl) ?_
    refine o_q rfl rfl (za2 rfl) ?_
    refine @o_n _ _ _ _ _ _ _ _ _ _ _ 18 (za3 rfl rfl rfl rfl rfl) (Eq.refl (some 18)) ?_
    refine @o_n _ _ _ _ _ _ _ _ _ _ _ 19 (za3 rfl rfl rfl rfl rfl) (Eq.refl (some 19)) ?_
    refine @o_n _ _ _ _ _ _ _ _ _ _ _ 20 (za3 rfl rfl rfl rfl rfl) (Eq.refl (some 20)) ?_
    refine @o_n _ _ _ _ _ _ _ _ _ _ _ 21 (za3 rfl rfl rfl rfl rfl) (Eq.refl (some 21)) ?_
    refine @o_n _ _ _ _ _ _ _ _ _ _ _ 22 (za3 rfl rfl rfl rfl rfl) (Eq.refl (some 22)) ?_
    refine o_q rfl rfl (zak false rfl rfl) ?_
    refine o_q rfl rfl (q_asg rfl) ?_
    refine o_end ?_
    refine za1 ?_
    refine c_ret ?_
    have e0_ := Option.some.inj h; clear h
    subst e0_
    exact x_r1 () Try.results17 (zaf rfl) rfl (fun w h => za6 [] (by decide) rfl w h)

/-! ### loop.example/g01098/impl.PickOutputs$1: function 108 -/
def impl_PickOutputs_1.f (a0 : Int) (a1_0 : Int) (l1_1 : List SStep) (l1_2 : List Int) : Option Bool := (impl_in.f a0 0 (w64 ((l1_2.length : Int) - 1))).bind fun b2 => some (!b2)
set_option maxHeartbeats 600000 in
set_option maxRecDepth 100000 in
theorem impl_PickOutputs_1.calls {w0 ws : World} {P0 : Nat → Prop} (a0 : Int) (g1 : Nat) (a1_0 : Int) (A1_1 : Option Addr) (c1_1 : Nat) (n1_1 : Nat) (l1_1 : List SStep) (A1_2 : Option Addr) (c1_2 : Nat) (n1_2 : Nat) (l1_2 : List Int) (Z : Below w0.heap.size w0 ws) (hF : Fr w0 ws P0 [] ws) (R1_1 : Stable ws P0 (fun w => Kd.C kStep w A1_1 n1_1 l1_1)) (hc1_1 : n1_1 ≤ c1_1) (R1_2 : Stable ws P0 (fun w => Kd.C (Kd.int .i64) w A1_2 n1_2 l1_2)) (hc1_2 : n1_2 ≤ c1_2) (B1 : Stable ws P0 (fun w => w.heap[g1]? = some (.cells #[.int .i64 a1_0, .slice A1_1 n1_1 c1_1, .slice A1_2 n1_2 c1_2] 27 (0, 0)))) (r_1 : Bool) (h : impl_PickOutputs_1.f a0 a1_0 l1_1 l1_2 = some r_1) :
    Calls Try.prog 108 #[.int .i64 a0, .pointer (some ⟨g1, 0, none⟩)] ws (Post1 w0 ws P0 (fun (_ : Unit) => .bool r_1) (fun (_ : Unit) => [])) := by
  unfold impl_PickOutputs_1.f at h
  obtain rfl := (R1_1 ws (KeptB.refl _ _)).1
  obtain rfl := (R1_2 ws (KeptB.refl _ _)).1
  refine enter Try.func108 rfl Try.ntmps108 rfl hF ?_
  refine c_seq ?_
  refine za0 ?_
  refine o_q rfl rfl (q_asg rfl) ?_
  refine o_end ?_
  refine za1 ?_
  refine c_seq ?_
  refine za0 ?_
  refine o_q rfl rfl (za2 rfl) ?_
  refine o_q rfl rfl (q_f F27_2 rfl) ?_
  refine o_q rfl rfl (q_ldb Y25 rfl (fun w h => B1.now Z h) rfl) ?_
  refine o_q rfl rfl (q_len Try.underlying25 rfl) ?_
  refine o_q rfl rfl (q_sub64 rfl rfl) ?_
  refine za8 h (fun b2 hx1 h => ?_) rfl
  refine o_e rfl (zab 0 Z Try.func87 N87 rfl rfl rfl (fun w P1 hF hB hS hT => impl_in.calls a0 0 (w64 ((l1_2.length : Int) - 1)) hB hF _ hx1)) (fun _ => ?_)
  refine o_q rfl rfl (q_not rfl) ?_
  refine o_q rfl rfl (q_asg rfl) ?_
  refine o_end ?_
  refine za1 ?_
  refine c_ret ?_
  have e0_ := Option.some.inj h; clear h
  subst e0_
  exact x_r1 () Try.results108 (zaf rfl) rfl (fun w h => za6 [] (by decide) rfl w h)

/-! ### slices.IndexFunc[[]int,int]: function 186 -/
def slices_IndexFunc_int_int_3.l0 (a1_c0_0 : Int) (l1_c0_1 : List SStep) (l1_c0_2 : List Int) : (List Int) → Int → Option ((Int) ⊕ (Unit))
  | [], i1 => some (.inr ())
  | y2 :: ys3, i1 => (impl_PickOutputs_1.f y2 a1_c0_0 l1_c0_1 l1_c0_2).bind fun b14 => if b14 = true then (some (.inl i1)) else (slices_IndexFunc_int_int_3.l0 a1_c0_0 l1_c0_1 l1_c0_2 ys3 (i1 + 1))
def slices_IndexFunc_int_int_3.f (l0 : List Int) (a1_c0_0 : Int) (l1_c0_1 : List SStep) (l1_c0_2 : List Int) : Option Int := (slices_IndexFunc_int_int_3.l0 a1_c0_0 l1_c0_1 l1_c0_2 l0 0).bind fun o_ => match o_ with | .inl r_ => some r_ | .inr _ => some (-1)
set_option maxHeartbeats 600000 in
set_option maxRecDepth 100000 in
theorem slices_IndexFunc_int_int_3.calls {w0 ws : World} {P0 : Nat → Prop} (A0 : Option Addr) (c0 : Nat) (n0 : Nat) (l0 : List Int) (g1_c0 : Nat) (a1_c0_0 : Int) (A1_c0_1 : Option Addr) (c1_c0_1 : Nat) (n1_c0_1 : Nat) (l1_c0_1 : List SStep) (A1_c0_2 : Option Addr) (c1_c0_2 : Nat) (n1_c0_2 : Nat) (l1_c0_2 : List Int) (Z : Below w0.heap.size w0 ws) (hF : Fr w0 ws P0 [] ws) (R0 : Stable ws P0 (fun w => Kd.C (Kd.int .i64) w A0 n0 l0)) (hc0 : n0 ≤ c0) (R1_c0_1 : Stable ws P0 (fun w => Kd.C kStep w A1_c0_1 n1_c0_1 l1_c0_1)) (hc1_c0_1 : n1_c0_1 ≤ c1_c0_1) (R1_c0_2 : Stable ws P0 (fun w => Kd.C (Kd.int .i64) w A1_c0_2 n1_c0_2 l1_c0_2)) (hc1_c0_2 : n1_c0_2 ≤ c1_c0_2) (B1_c0 : Stable ws P0 (fun w => w.heap[g1_c0]? = some (.cells #[.int .i64 a1_c0_0, .slice A1_c0_1 n1_c0_1 c1_c0_1, .slice A1_c0_2 n1_c0_2 c1_c0_2] 27 (0, 0)))) (r_1 : Int) (h : slices_IndexFunc_int_int_3.f l0 a1_c0_0 l1_c0_1 l1_c0_2 = some r_1) :
    Calls Try.prog 186 #[.slice A0 n0 c0, .func (.func 108) #[] #[.pointer (some ⟨g1_c0, 0, none⟩)]] ws (Post1 w0 ws P0 (fun (_ : Unit) => .int .i64 r_1) (fun (_ : Unit) => [])) := by
  unfold slices_IndexFunc_int_int_3.f at h
  obtain rfl := (R0 ws (KeptB.refl _ _)).1
  obtain rfl := (R1_c0_1 ws (KeptB.refl _ _)).1
  obtain rfl := (R1_c0_2 ws (KeptB.refl _ _)).1
  refine enter Try.func186 rfl Try.ntmps186 rfl hF ?_
  refine c_seq ?_
  refine za0 ?_
  refine o_q rfl rfl (q_asg rfl) ?_
  refine o_end ?_
  refine za1 ?_
  refine c_seq ?_
  refine c_seq ?_
  refine za0 ?_
  refine o_q rfl rfl (za2 rfl) ?_
  refine o_q rfl rfl (q_len Try.underlying25 rfl) ?_
  refine o_q rfl rfl (za2 rfl) ?_
  refine o_end ?_
  refine za1 ?_
  refine zaj ?_
  refine za8 h (fun o9 hl8 hR7 => ?_) rfl
  clear h
  refine c_fact (p := l0.length ≤ 9223372036854775807) (fun w h => (R0.now Z h).2.1) (fun hm6 => ?_)
  refine c_loopL (σ := (List Int) × Int) (fun k4 ((ys3, i1) : (List Int) × Int) => Rg l0 i1 ys3 ∧ ys3.length = k4 ∧ slices_IndexFunc_int_int_3.l0 a1_c0_0 l1_c0_1 l1_c0_2 ys3 i1 = some o9) [4, 5, 8, 9, 10, 11, 12, 13, 14, 15, 16, 17, 18] (fun ((ys3, i1) : (List Int) × Int) => [(8, .int .i64 i1)]) (fun ((ys3, i1) : (List Int) × Int) => []) l0.length (l0, 0) ⟨Rg.start _, rfl, hl8⟩ ⟨rfl, trivial⟩ (fun w h => h) ?_
  refine fun k4 => cur2 (listC (fun i1 U10 hJ_ => ?_) (fun y2 ys3 i1 U10 hJ_ => ?_))
  · skip
    clear hl8
    have hr5 := hJ_.1; have hk11 := hJ_.2.1; have h := hJ_.2.2; clear hJ_
    replace h : slices_IndexFunc_int_int_3.l0 a1_c0_0 l1_c0_1 l1_c0_2 [] i1 = some o9 := h
    rw [slices_IndexFunc_int_int_3.l0] at h
    refine c_seq ?_
    refine za0 ?_
    refine o_q rfl rfl (q_lss rfl rfl) ?_
    refine o_end ?_
    refine za1 ?_
    refine c_seq ?_
    refine c_false (congrArg Value.bool hr5.ge) ?_
    refine c_exit ?_
    refine za9 ?_
    refine za9 ?_
    have e_ := Option.some.inj h; replace h := hR7; rw [← e_] at h; clear e_
    refine x_hit ?_
    refine za1 ?_
    refine c_seq ?_
    refine za0 ?_
    refine o_q rfl rfl (q_asg rfl) ?_
    refine o_end ?_
    refine za1 ?_
    refine c_ret ?_
    have e0_ := Option.some.inj h; clear h
    subst e0_
    exact x_r1 () Try.results186 (zaf rfl) rfl (fun w h => za6 [] (by decide) rfl w h)
  · skip
    clear hl8
    have hr5 := hJ_.1; have hk11 := hJ_.2.1; have h := hJ_.2.2; clear hJ_
    replace h : slices_IndexFunc_int_int_3.l0 a1_c0_0 l1_c0_1 l1_c0_2 (y2 :: ys3) i1 = some o9 := h
    rw [slices_IndexFunc_int_int_3.l0] at h
    refine c_seq ?_
    refine za0 ?_
    refine o_q rfl rfl (q_lss rfl rfl) ?_
    refine o_end ?_
    refine za1 ?_
    refine c_seq ?_
    refine c_true (congrArg Value.bool hr5.lt) ?_
    refine zaq ?_
    refine za1 ?_
    refine c_seq ?_
    refine zaj ?_
    refine c_seq ?_
    refine za0 ?_
    refine o_q rfl rfl (za2 rfl) ?_
    refine o_q rfl rfl (q_asg rfl) ?_
    refine o_end ?_
    refine za1 ?_
    refine c_seq ?_
    refine za0 ?_
    refine o_q rfl rfl (za2 rfl) ?_
    refine o_q rfl rfl (za2 rfl) ?_
    refine o_q rfl rfl (za2 rfl) ?_
    refine o_fact (p := Sh A0 l0.length l0.length) (fun w h => f_sh (dk := (Kd.int .i64)) h (fun w h => R0.now Z h)) (fun hq12 => ?_)
    refine o_q rfl rfl (q_ix Try.underlying25 Z3 rfl rfl hq12 hr5.get) ?_
    refine o_q rfl rfl (q_lde (off := 0) Y3 rfl rfl (fun w h => R0.now Z h) hr5.get (fun _ _ h => h) rfl) ?_
    refine za8 h (fun b14 hx13 h => ?_) rfl
    refine o_e rfl (zab 0 Z Try.func108 N108 rfl rfl rfl (fun w P1 hF hB hS hT => impl_PickOutputs_1.calls y2 g1_c0 a1_c0_0 A1_c0_1 c1_c0_1 l1_c0_1.length l1_c0_1 A1_c0_2 c1_c0_2 l1_c0_2.length l1_c0_2 hB hF (hS _ R1_c0_1) hc1_c0_1 (hS _ R1_c0_2) hc1_c0_2 (hS _ B1_c0) _ hx13)) (fun _ => ?_)
    refine o_end ?_
    refine za1 ?_
    refine zau _ rfl (fun hb15 => ?_) (fun hb15 => ?_)
    · skip
      replace h := bb_t hb15 h
      refine c_seq ?_
      refine za0 ?_
      refine o_q rfl rfl (za2 rfl) ?_
      refine o_q rfl rfl (q_asg rfl) ?_
      refine o_end ?_
      refine za1 ?_
      refine c_ret ?_
      refine zan ?_
      refine zac ?_
      refine zac ?_
      have e_ := Option.some.inj h; replace h := hR7; rw [← e_] at h; clear e_
      refine zan ?_
      refine zac ?_
      have e0_ := Option.some.inj h; clear h
      subst e0_
      exact x_r1 () Try.results186 (zaf rfl) rfl (fun w h => za6 [] (by decide) rfl w h)
    · skip
      replace h := bb_f hb15 h
      refine zaq ?_
      refine zal ?_
      refine za1 ?_
      refine za0 ?_
      refine o_q rfl rfl (q_up rfl rfl (hr5.up hm6)) ?_
      refine o_q rfl rfl (za2 rfl) ?_
      refine o_end ?_
      refine zam ys3.length (ys3, i1 + 1) (by rw [← hk11]; exact Nat.lt_succ_self _) ⟨hr5.step, rfl, h⟩ ⟨rfl, trivial⟩ (fun w h => za6 [] (by decide) rfl w h) ?_
      repeat (first | exact zad _ _ | refine zah rfl ?_ | refine zae rfl ?_ | refine zai rfl ?_)

/-! ### slices.ContainsFunc[[]int,int]: function 107 -/
def slices_ContainsFunc_int_int_3.f (l0 : List Int) (a1_c0_0 : Int) (l1_c0_1 : List SStep) (l1_c0_2 : List Int) : Option Bool := (slices_IndexFunc_int_int_3.f l0 a1_c0_0 l1_c0_1 l1_c0_2).bind fun i2 => some (decide (0 ≤ i2))
set_option maxHeartbeats 600000 in
set_option maxRecDepth 100000 in
theorem slices_ContainsFunc_int_int_3.calls {w0 ws : World} {P0 : Nat → Prop} (A0 : Option Addr) (c0 : Nat) (n0 : Nat) (l0 : List Int) (g1_c0 : Nat) (a1_c0_0 : Int) (A1_c0_1 : Option Addr) (c1_c0_1 : Nat) (n1_c0_1 : Nat) (l1_c0_1 : List SStep) (A1_c0_2 : Option Addr) (c1_c0_2 : Nat) (n1_c0_2 : Nat) (l1_c0_2 : List Int) (Z : Below w0.heap.size w0 ws) (hF : Fr w0 ws P0 [] ws) (R0 : Stable ws P0 (fun w => Kd.C (Kd.int .i64) w A0 n0 l0)) (hc0 : n0 ≤ c0) (R1_c0_1 : Stable ws P0 (fun w => Kd.C kStep w A1_c0_1 n1_c0_1 l1_c0_1)) (hc1_c0_1 : n1_c0_1 ≤ c1_c0_1) (R1_c0_2 : Stable ws P0 (fun w => Kd.C (Kd.int .i64) w A1_c0_2 n1_c0_2 l1_c0_2)) (hc1_c0_2 : n1_c0_2 ≤ c1_c0_2) (B1_c0 : Stable ws P0 (fun w => w.heap[g1_c0]? = some (.cells #[.int .i64 a1_c0_0, .slice A1_c0_1 n1_c0_1 c1_c0_1, .slice A1_c0_2 n1_c0_2 c1_c0_2] 27 (0, 0)))) (r_1 : Bool) (h : slices_ContainsFunc_int_int_3.f l0 a1_c0_0 l1_c0_1 l1_c0_2 = some r_1) :
    Calls Try.prog 107 #[.slice A0 n0 c0, .func (.func 108) #[] #[.pointer (some ⟨g1_c0, 0, none⟩)]] ws (Post1 w0 ws P0 (fun (_ : Unit) => .bool r_1) (fun (_ : Unit) => [])) := by
  unfold slices_ContainsFunc_int_int_3.f at h
  obtain rfl := (R0 ws (KeptB.refl _ _)).1
  obtain rfl := (R1_c0_1 ws (KeptB.refl _ _)).1
  obtain rfl := (R1_c0_2 ws (KeptB.refl _ _)).1
  refine enter Try.func107 rfl Try.ntmps107 rfl hF ?_
  refine c_seq ?_
  refine za0 ?_
  refine o_q rfl rfl (q_asg rfl) ?_
  refine o_end ?_
  refine za1 ?_
  refine c_seq ?_
  refine za0 ?_
  refine o_q rfl rfl (za2 rfl) ?_
  refine o_q rfl rfl (za2 rfl) ?_
  refine za8 h (fun i2 hx1 h => ?_) rfl
  refine o_e rfl (zab 0 Z Try.func186 N186 rfl rfl rfl (fun w P1 hF hB hS hT => slices_IndexFunc_int_int_3.calls A0 c0 l0.length l0 g1_c0 a1_c0_0 A1_c0_1 c1_c0_1 l1_c0_1.length l1_c0_1 A1_c0_2 c1_c0_2 l1_c0_2.length l1_c0_2 hB hF (hS _ R0) hc0 (hS _ R1_c0_1) hc1_c0_1 (hS _ R1_c0_2) hc1_c0_2 (hS _ B1_c0) _ hx1)) (fun _ => ?_)
  refine o_q rfl rfl (q_geq rfl rfl) ?_
  refine o_q rfl rfl (q_asg rfl) ?_
  refine o_end ?_
  refine za1 ?_
  refine c_ret ?_
  have e0_ := Option.some.inj h; clear h
  subst e0_
  exact x_r1 () Try.results107 (zaf rfl) rfl (fun w h => za6 [] (by decide) rfl w h)

/-! ### loop.example/g01098/impl.PickOutputs: function 26 -/
def impl_PickOutputs.f (k : Nat) (a0_0 : Int) (l0_1 : List SStep) (l0_2 : List Int) (l1 : List Int) : Option (Int × (List SStep) × (List Int) × Bool) := ((impl_IsPlan.f k a0_0 l0_1 l0_2).bind fun b17 => if b17 = true then ((slices_ContainsFunc_int_int_3.f l1 a0_0 l0_1 l0_2).bind fun b20 => some b20) else (some true)).bind fun b10 => if b10 = true then (some (0, ([] : List SStep), ([] : List Int), false)) else ((impl_clonePlan.f a0_0 l0_1 l0_2).bind fun (l23, l24) => (impl_renamed.f l1 l0_2).bind fun l32 => (impl_told.f k a0_0 l23 l32).bind fun (i36, l37, l38, b39) => some (i36, l37, l38, b39))
set_option maxHeartbeats 600000 in
set_option maxRecDepth 100000 in
theorem impl_PickOutputs.calls (k : Nat) {w0 ws : World} {P0 : Nat → Prop} (a0_0 : Int) (A0_1 : Option Addr) (c0_1 : Nat) (n0_1 : Nat) (l0_1 : List SStep) (A0_2 : Option Addr) (c0_2 : Nat) (n0_2 : Nat) (l0_2 : List Int) (A1 : Option Addr) (c1 : Nat) (n1 : Nat) (l1 : List Int) (Z : Below w0.heap.size w0 ws) (hF : Fr w0 ws P0 [] ws) (R0_1 : Stable ws P0 (fun w => Kd.C kStep w A0_1 n0_1 l0_1)) (hc0_1 : n0_1 ≤ c0_1) (R0_2 : Stable ws P0 (fun w => Kd.C (Kd.int .i64) w A0_2 n0_2 l0_2)) (hc0_2 : n0_2 ≤ c0_2) (R1 : Stable ws P0 (fun w => Kd.C (Kd.int .i64) w A1 n1 l1)) (hc1 : n1 ≤ c1) (r_1 : Int) (r_2 : List SStep) (r_5 : List Int) (r_8 : Bool) (h : impl_PickOutputs.f k a0_0 l0_1 l0_2 l1 = some (r_1, r_2, r_5, r_8)) :
    Calls Try.prog 26 #[.agg #[.int .i64 a0_0, .slice A0_1 n0_1 c0_1, .slice A0_2 n0_2 c0_2], .slice A1 n1 c1] ws (Post1 w0 ws P0 (fun ((q_3, q_4, q_6, q_7) : (Option Addr) × Nat × (Option Addr) × Nat) => .tuple #[.agg #[.int .i64 r_1, .slice q_3 r_2.length q_4, .slice q_6 r_5.length q_7], .bool r_8]) (fun ((q_3, q_4, q_6, q_7) : (Option Addr) × Nat × (Option Addr) × Nat) => [row kStep 89 (.slice q_3 r_2.length q_4) r_2, row (Kd.int .i64) 3 (.slice q_6 r_5.length q_7) r_5])) := by
  unfold impl_PickOutputs.f at h
  obtain rfl := (R0_1 ws (KeptB.refl _ _)).1
  obtain rfl := (R0_2 ws (KeptB.refl _ _)).1
  obtain rfl := (R1 ws (KeptB.refl _ _)).1
  refine enter Try.func26 rfl Try.ntmps26 rfl hF ?_
  refine c_seq ?_
  refine za0 ?_
  refine o_e rfl (e_box rfl) (fun g1 => ?_)
  refine o_e rfl (zax V27 rfl) (fun g3 => ?_)
  refine o_q rfl rfl (q_asg rfl) ?_
  refine o_end ?_
  refine za1 ?_
  refine c_seq ?_
  refine za8 h (fun o11 hl12 hR13 => ?_) rfl
  clear h
  refine c_cutJ (σ := Bool) (fun b10 => some b10 = some o11) [7, 8, 9, 10, 11, 12, 13, 14] (fun b10 => [(14, .bool b10)]) (fun b10 => [box g1 27 #[.int .i64 a0_0, .slice A0_1 l0_1.length c0_1, .slice A0_2 l0_2.length c0_2], box g3 27 #[.int .i64 0, .slice none 0 0, .slice none 0 0]]) ?_ ?_
  · skip
    have h := hl12; clear hl12
    clear hR13
    refine za0 ?_
    refine o_q rfl rfl (q_ldB G27 Z27 rfl (fun w h => h.zaa (i := 1) rfl) rfl) ?_
    refine za8 h (fun b17 hx16 h => ?_) rfl
    refine o_e rfl (zab 0 Z Try.func86 N86 rfl rfl rfl (fun w P1 hF hB hS hT => impl_IsPlan.calls k a0_0 A0_1 c0_1 l0_1.length l0_1 A0_2 c0_2 l0_2.length l0_2 hB hF (hS _ R0_1) hc0_1 (hS _ R0_2) hc0_2 _ hx16)) (fun _ => ?_)
    refine o_q rfl rfl (q_not rfl) ?_
    refine o_q rfl rfl (za2 rfl) ?_
    refine byB b17 (fun hb18 => ?_) (fun hb18 => ?_)
    · replace h := bb_t hb18 h
      refine o_w (za4 rfl rfl rfl (congrArg (fun b => Value.bool (!(b))) hb18)) rfl (za2 rfl) ?_
      refine o_w (za4 rfl rfl rfl (congrArg (fun b => Value.bool (!(b))) hb18)) rfl (q_func rfl rfl) ?_
      refine za8 h (fun b20 hx19 h => ?_) rfl
      refine o_ew (za4 rfl rfl rfl (congrArg (fun b => Value.bool (!(b))) hb18)) (zab 0 Z Try.func107 N107 rfl rfl rfl (fun w P1 hF hB hS hT => slices_ContainsFunc_int_int_3.calls A1 c1 l1.length l1 g1 a0_0 A0_1 c0_1 l0_1.length l0_1 A0_2 c0_2 l0_2.length l0_2 hB hF (hS _ R1) hc1 (hS _ R0_1) hc0_1 (hS _ R0_2) hc0_2 (hT 1 _ rfl).box _ hx19)) (fun _ => ?_)
      refine o_q rfl rfl (zak false (congrArg (fun b => Value.bool (!(b))) hb18) rfl) ?_
      refine o_end ?_
      refine x_meetJ b20 h ⟨rfl, trivial⟩ (fun w h => za6 [1, 0] (by decide) rfl w h) ?_
      repeat (first | exact zad _ _ | refine zah rfl ?_ | refine zae rfl ?_ | refine zai rfl ?_)
    · replace h := bb_f hb18 h
      refine @o_n _ _ _ _ _ _ _ _ _ _ _ 11 (za3 rfl rfl rfl (congrArg (fun b => Value.bool (!(b))) hb18) rfl) (Eq.refl (some 11)) ?_
      refine @o_n _ _ _ _ _ _ _ _ _ _ _ 12 (za3 rfl rfl rfl (congrArg (fun b => Value.bool (!(b))) hb18) rfl) (Eq.refl (some 12)) ?_
      refine @o_n _ _ _ _ _ _ _ _ _ _ _ 13 (za3 rfl rfl rfl (congrArg (fun b => Value.bool (!(b))) hb18) rfl) (Eq.refl (some 13)) ?_
      refine o_q rfl rfl (zak true (congrArg (fun b => Value.bool (!(b))) hb18) rfl) ?_
      refine o_end ?_
      refine x_meetJ true h ⟨rfl, trivial⟩ (fun w h => za6 [1, 0] (by decide) rfl w h) ?_
      repeat (first | exact zad _ _ | refine zah rfl ?_ | refine zae rfl ?_ | refine zai rfl ?_)
  · skip
    refine (fun b10 => fun U14 hJ15 => ?_)
    have e_ := Option.some.inj hJ15; have h := hR13; rw [← e_] at h; clear e_ hJ15 hR13 hl12
    refine zau _ rfl (fun hb21 => ?_) (fun hb21 => ?_)
    · skip
      replace h := bb_t hb21 h
      refine c_seq ?_
      refine za0 ?_
      refine o_q rfl rfl (q_build (vs := []) (cs := [.int .i64 0, .slice none 0 0, .slice none 0 0]) rfl rfl) ?_
      refine o_e rfl (zao (i := 1) rfl rfl rfl Z27 rfl rfl) (fun _ => ?_)
      refine o_q rfl rfl (q_asg rfl) ?_
      refine o_end ?_
      refine za1 ?_
      refine c_ret ?_
      refine zac ?_
      refine x_nil kStep 89 ?_
      refine x_nil (Kd.int .i64) 3 ?_
      have e0_ := Option.some.inj h; clear h
      have d0_ := (Prod.mk.inj e0_).1; have e1_ := (Prod.mk.inj e0_).2; clear e0_; subst d0_
      have d1_ := (Prod.mk.inj e1_).1; have e2_ := (Prod.mk.inj e1_).2; clear e1_; subst d1_
      have d2_ := (Prod.mk.inj e2_).1; have e3_ := (Prod.mk.inj e2_).2; clear e2_; subst d2_
      subst e3_
      exact x_r2 (none, 0, none, 0) Try.results26 (rv_cell rfl G27 Z27 (fun w h => h.zaa (i := 3) rfl) rfl) (zaf rfl) rfl (fun w h => za6 [1, 0] (by decide) rfl w h)
    · skip
      replace h := bb_f hb21 h
      refine zaq ?_
      refine za1 ?_
      refine c_seq ?_
      refine za0 ?_
      refine o_q rfl rfl (q_ldB G27 Z27 rfl (fun w h => h.zaa (i := 0) rfl) rfl) ?_
      refine bindE2 h (fun l23 l24 hx22 h => ?_) rfl
      refine o_e rfl (zab 0 Z Try.func100 N100 rfl rfl rfl (fun w P1 hF hB hS hT => impl_clonePlan.calls a0_0 A0_1 c0_1 l0_1.length l0_1 A0_2 c0_2 l0_2.length l0_2 hB hF (hS _ R0_1) hc0_1 (hS _ R0_2) hc0_2 _ _ hx22)) (cur4 (fun A25 c26 A27 c28 => ?_))
      refine o_e rfl (zax V27 rfl) (fun g29 => ?_)
      refine o_e rfl (zao (i := 0) rfl rfl rfl Z27 rfl rfl) (fun _ => ?_)
      refine o_end ?_
      refine za1 ?_
      refine c_seq ?_
      refine za0 ?_
      refine o_q rfl rfl (za2 rfl) ?_
      refine o_q rfl rfl (q_f F27_2 rfl) ?_
      refine o_q rfl rfl (q_ldb Y25 rfl (fun w h => h.zaa (i := 3) rfl) rfl) ?_
      refine za8 h (fun l32 hx31 h => ?_) rfl
      refine o_e rfl (zab 0 Z Try.func92 N92 rfl rfl rfl (fun w P1 hF hB hS hT => impl_renamed.calls A1 c1 l1.length l1 A0_2 c0_2 l0_2.length l0_2 hB hF (hS _ R1) hc1 (hS _ R0_2) hc0_2 _ hx31)) (cur2 (fun A33 c34 => ?_))
      refine o_q rfl rfl (q_f F27_2 rfl) ?_
      refine o_e rfl (e_store (i := 1) rfl rfl rfl rfl Z25 rfl rfl) (fun _ => ?_)
      refine o_end ?_
      refine za1 ?_
      refine c_seq ?_
      refine za0 ?_
      refine o_q rfl rfl (q_ldB G27 Z27 rfl (fun w h => h.zaa (i := 1) rfl) rfl) ?_
      refine o_pick [2, 0, 1, 3, 4, 5] (by decide) rfl ?_
      refine bindE4 h (fun i36 l37 l38 b39 hx35 h => ?_) rfl
      refine o_e rfl (zab 2 Z Try.func102 N102 rfl rfl rfl (fun w P1 hF hB hS hT => impl_told.calls k a0_0 A25 c26 l23.length l23 A33 c34 l32.length l32 hB hF _ _ _ _ hx35)) (cur4 (fun A40 c41 A42 c43 => ?_))
      refine o_q rfl rfl (q_ext rfl rfl) ?_
      refine o_q rfl rfl (q_ext rfl rfl) ?_
      refine o_e rfl (zao (i := 5) rfl rfl rfl Z27 rfl rfl) (fun _ => ?_)
      refine o_q rfl rfl (q_asg rfl) ?_
      refine o_end ?_
      refine za1 ?_
      refine c_ret ?_
      have e0_ := Option.some.inj h; clear h
      have d0_ := (Prod.mk.inj e0_).1; have e1_ := (Prod.mk.inj e0_).2; clear e0_; subst d0_
      have d1_ := (Prod.mk.inj e1_).1; have e2_ := (Prod.mk.inj e1_).2; clear e1_; subst d1_
      have d2_ := (Prod.mk.inj e2_).1; have e3_ := (Prod.mk.inj e2_).2; clear e2_; subst d2_
      subst e3_
      exact x_r2 (A40, c41, A42, c43) Try.results26 (rv_cell rfl G27 Z27 (fun w h => h.zaa (i := 5) rfl) rfl) (zaf rfl) rfl (fun w h => za6 [0, 1] (by decide) rfl w h)

/-! ### (*loop.example/g01098/impl.Plan).outputExponents: function 135 -/
def impl_Plan_outputExponents.l0 (l2 : List (List Int)) : (List Int) → (List (List Int)) → Int → Option (List (List Int))
  | [], l9, i13 => some l9
  | y14 :: ys15, l9, i13 => (gt l2 y14).bind fun y27 => (slices_Clone_int_int.f y27).bind fun l30 => (ap l9 ([l30] : List (List Int))).bind fun l37 => impl_Plan_outputExponents.l0 l2 ys15 l37 (i13 + 1)
def impl_Plan_outputExponents.f (a0_0 : Int) (l0_1 : List SStep) (l0_2 : List Int) : Option (List (List Int)) := (impl_Plan_exponents.f a0_0 l0_1 l0_2).bind fun l2 => (impl_Plan_outputExponents.l0 l2 l0_2 ([] : List (List Int)) 0).bind fun l9 => some l9
set_option maxHeartbeats 600000 in
set_option maxRecDepth 100000 in
theorem impl_Plan_outputExponents.calls {w0 ws : World} {P0 : Nat → Prop} (g0 : Nat) (a0_0 : Int) (A0_1 : Option Addr) (c0_1 : Nat) (n0_1 : Nat) (l0_1 : List SStep) (A0_2 : Option Addr) (c0_2 : Nat) (n0_2 : Nat) (l0_2 : List Int) (Z : Below w0.heap.size w0 ws) (hF : Fr w0 ws P0 [] ws) (R0_1 : Stable ws P0 (fun w => Kd.C kStep w A0_1 n0_1 l0_1)) (hc0_1 : n0_1 ≤ c0_1) (R0_2 : Stable ws P0 (fun w => Kd.C (Kd.int .i64) w A0_2 n0_2 l0_2)) (hc0_2 : n0_2 ≤ c0_2) (B0 : Stable ws P0 (fun w => w.heap[g0]? = some (.cells #[.int .i64 a0_0, .slice A0_1 n0_1 c0_1, .slice A0_2 n0_2 c0_2] 27 (0, 0)))) (r_1 : List (List Int)) (h : impl_Plan_outputExponents.f a0_0 l0_1 l0_2 = some r_1) :
    Calls Try.prog 135 #[.pointer (some ⟨g0, 0, none⟩)] ws (Post1 w0 ws P0 (fun ((q_2, q_3, q_4) : (Option Addr) × Nat × Hd) => .slice q_2 r_1.length q_3) (fun ((q_2, q_3, q_4) : (Option Addr) × Nat × Hd) => [row (gk 3 (Kd.int .i64)) 25 (.slice q_2 r_1.length q_3) (zp q_4 r_1)])) := by
  unfold impl_Plan_outputExponents.f at h
  obtain rfl := (R0_1 ws (KeptB.refl _ _)).1
  obtain rfl := (R0_2 ws (KeptB.refl _ _)).1
  refine enter Try.func135 rfl Try.ntmps135 rfl hF ?_
  refine c_seq ?_
  refine za0 ?_
  refine o_q rfl rfl (q_asg rfl) ?_
  refine o_end ?_
  refine za1 ?_
  refine c_seq ?_
  refine za0 ?_
  refine o_q rfl rfl (za2 rfl) ?_
  refine za8 h (fun l2 hx1 h => ?_) rfl
  refine o_e rfl (zab 0 Z Try.func120 N120 rfl rfl rfl (fun w P1 hF hB hS hT => impl_Plan_exponents.calls g0 a0_0 A0_1 c0_1 l0_1.length l0_1 A0_2 c0_2 l0_2.length l0_2 hB hF (hS _ R0_1) hc0_1 (hS _ R0_2) hc0_2 (hS _ B0) _ hx1)) (cur3 (fun A3 c4 H5 => ?_))
  refine o_e rfl (e_lit0 (gk 3 (Kd.int .i64)) Try.underlying60 I25) (cur2 (fun A6 c7 => ?_))
  refine o_q rfl rfl (q_asg rfl) ?_
  refine o_q rfl rfl (q_asg rfl) ?_
  refine o_end ?_
  refine za1 ?_
  refine c_seq ?_
  refine c_seq ?_
  refine za0 ?_
  refine o_q rfl rfl (za2 rfl) ?_
  refine o_q rfl rfl (q_nil rfl) ?_
  refine o_q rfl rfl (q_f F27_2 rfl) ?_
  refine o_q rfl rfl (q_ldb Y25 rfl (fun w h => B0.now Z h) rfl) ?_
  refine o_q rfl rfl (q_len Try.underlying25 rfl) ?_
  refine o_q rfl rfl (za2 rfl) ?_
  refine o_end ?_
  refine za1 ?_
  refine zaj ?_
  refine za8 h (fun o21 hl20 hR19 => ?_) rfl
  clear h
  refine c_fact (p := l0_2.length ≤ 9223372036854775807) (fun w h => (R0_2.now Z h).2.1) (fun hm18 => ?_)
  refine c_loopL (σ := (List Int) × (List (List Int)) × Int × (Option Addr) × Nat × Hd) (fun k16 ((ys15, l9, i13, A10, c11, H12) : (List Int) × (List (List Int)) × Int × (Option Addr) × Nat × Hd) => Rg l0_2 i13 ys15 ∧ ys15.length = k16 ∧ impl_Plan_outputExponents.l0 l2 ys15 l9 i13 = some o21) [4, 6, 15, 16, 17, 18, 19, 20, 21, 22, 23, 24, 25, 26, 27] (fun ((ys15, l9, i13, A10, c11, H12) : (List Int) × (List (List Int)) × Int × (Option Addr) × Nat × Hd) => [(4, .slice A10 l9.length c11), (15, .int .i64 i13)]) (fun ((ys15, l9, i13, A10, c11, H12) : (List Int) × (List (List Int)) × Int × (Option Addr) × Nat × Hd) => [row (gk 3 (Kd.int .i64)) 25 (.slice A10 l9.length c11) (zp H12 l9), row (gk 3 (Kd.int .i64)) 25 (.slice A3 l2.length c4) (zp H5 l2)]) l0_2.length (l0_2, ([] : List (List Int)), 0, A6, c7, ([] : Hd)) ⟨Rg.start _, rfl, hl20⟩ ⟨rfl, rfl, trivial⟩ (fun w h => h) ?_
  refine fun k16 => cur6 (listC (fun l9 i13 A10 c11 H12 U22 hJ_ => ?_) (fun y14 ys15 l9 i13 A10 c11 H12 U22 hJ_ => ?_))
  · skip
    clear hl20
    have hr17 := hJ_.1; have hk23 := hJ_.2.1; have h := hJ_.2.2; clear hJ_
    replace h : impl_Plan_outputExponents.l0 l2 [] l9 i13 = some o21 := h
    rw [impl_Plan_outputExponents.l0] at h
    refine c_seq ?_
    refine za0 ?_
    refine o_q rfl rfl (q_lss rfl rfl) ?_
    refine o_end ?_
    refine za1 ?_
    refine c_seq ?_
    refine c_false (congrArg Value.bool hr17.ge) ?_
    refine c_exit ?_
    refine za9 ?_
    refine za9 ?_
    have e_ := Option.some.inj h; replace h := hR19; rw [← e_] at h; clear e_
    refine x_hit ?_
    refine za1 ?_
    refine c_seq ?_
    refine za0 ?_
    refine o_q rfl rfl (za2 rfl) ?_
    refine o_q rfl rfl (q_asg rfl) ?_
    refine o_end ?_
    refine za1 ?_
    refine c_ret ?_
    have e0_ := Option.some.inj h; clear h
    subst e0_
    exact x_r1 (A10, c11, H12) Try.results135 (zaf rfl) rfl (fun w h => za6 [0] (by decide) rfl w h)
  · skip
    clear hl20
    have hr17 := hJ_.1; have hk23 := hJ_.2.1; have h := hJ_.2.2; clear hJ_
    replace h : impl_Plan_outputExponents.l0 l2 (y14 :: ys15) l9 i13 = some o21 := h
    rw [impl_Plan_outputExponents.l0] at h
    refine c_seq ?_
    refine za0 ?_
    refine o_q rfl rfl (q_lss rfl rfl) ?_
    refine o_end ?_
    refine za1 ?_
    refine c_seq ?_
    refine c_true (congrArg Value.bool hr17.lt) ?_
    refine zaq ?_
    refine za1 ?_
    refine c_seq ?_
    refine zaj ?_
    refine c_seq ?_
    refine za0 ?_
    refine o_fact (p := Sh A0_2 l0_2.length l0_2.length) (fun w h => f_sh (dk := (Kd.int .i64)) h (fun w h => R0_2.now Z h)) (fun hq24 => ?_)
    refine o_q rfl rfl (q_ix Try.underlying25 Z3 rfl rfl hq24 hr17.get) ?_
    refine o_q rfl rfl (q_lde (off := 0) Y3 rfl rfl (fun w h => R0_2.now Z h) hr17.get (fun _ _ h => h) rfl) ?_
    refine o_q rfl rfl (q_asg rfl) ?_
    refine o_end ?_
    refine za1 ?_
    refine za0 ?_
    refine o_q rfl rfl (za2 rfl) ?_
    refine o_q rfl rfl (za2 rfl) ?_
    refine o_q rfl rfl (za2 rfl) ?_
    refine o_fact (p := Sh A3 l2.length (zp H5 l2).length) (fun w h => f_sh (dk := (gk 3 (Kd.int .i64))) h (fun w h => h.zaw (i := 1) rfl)) (fun hq25 => ?_)
    refine za8 h (fun y27 hg26 h => ?_) rfl
    refine o_q rfl rfl (q_ix Try.underlying60 Z25 rfl rfl hq25 (gt_zp hg26)) ?_
    refine o_fact (p := y27.length ≤ hC H5 y14) (fun w h => (K_in (h.zaw (i := 1) rfl) hg26).1) (fun hc28 => ?_)
    refine o_q rfl rfl (q_lde (off := 0) Y25 rfl rfl (fun w h => h.zaw (i := 1) rfl) (gt_zp hg26) (fun _ _ h => h.1) rfl) ?_
    refine za8 h (fun l30 hx29 h => ?_) rfl
    refine o_e rfl (zab 0 Z Try.func141 N141 rfl rfl rfl (fun w P1 hF hB hS hT => slices_Clone_int_int.calls (hA H5 y14) (hC H5 y14) y27.length y27 hB hF (stab_in (hT 1 _ rfl).row hg26) hc28 _ hx29)) (cur2 (fun A31 c32 => ?_))
    refine o_e rfl (e_litG (j := 0) (ue := 3) (dk := (Kd.int .i64)) (ys := l30) Try.underlying60 I25 rfl rfl rfl) (cur3 (fun A33 c34 H36 => ?_))
    refine za8 h (fun l37 ha38 h => ?_) rfl
    refine o_e rfl (e_appG (i := 2) (j := 0) Try.underlying60 I25 rfl (by decide) rfl rfl rfl rfl rfl ha38) (cur3 (fun A39 c40 H41 => ?_))
    refine o_q rfl rfl (q_asg rfl) ?_
    refine o_end ?_
    refine zal ?_
    refine za1 ?_
    refine za0 ?_
    refine o_q rfl rfl (q_up rfl rfl (hr17.up hm18)) ?_
    refine o_q rfl rfl (za2 rfl) ?_
    refine o_end ?_
    refine zam ys15.length (ys15, l37, i13 + 1, A39, c40, H41) (by rw [← hk23]; exact Nat.lt_succ_self _) ⟨hr17.step, rfl, h⟩ ⟨rfl, rfl, trivial⟩ (fun w h => za6 [2, 3] (by decide) rfl w h) ?_
    repeat (first | exact zad _ _ | refine zah rfl ?_ | refine zae rfl ?_ | refine zai rfl ?_)

/-! ### slices.Equal[[]int,int]: function 144 -/
def slices_Equal_int_int.l0 (l1 : List Int) : (List Int) → Int → Option ((Bool) ⊕ (Unit))
  | [], i2 => some (.inr ())
  | y3 :: ys4, i2 => (gt l1 i2).bind fun y16 => if y3 ≠ y16 then (some (.inl false)) else (slices_Equal_int_int.l0 l1 ys4 (i2 + 1))
def slices_Equal_int_int.f (l0 : List Int) (l1 : List Int) : Option Bool := if (l0.length : Int) ≠ (l1.length : Int) then (some false) else ((slices_Equal_int_int.l0 l1 l0 0).bind fun o_ => match o_ with | .inl r_ => some r_ | .inr _ => some true)
set_option maxHeartbeats 600000 in
set_option maxRecDepth 100000 in
theorem slices_Equal_int_int.calls {w0 ws : World} {P0 : Nat → Prop} (A0 : Option Addr) (c0 : Nat) (n0 : Nat) (l0 : List Int) (A1 : Option Addr) (c1 : Nat) (n1 : Nat) (l1 : List Int) (Z : Below w0.heap.size w0 ws) (hF : Fr w0 ws P0 [] ws) (R0 : Stable ws P0 (fun w => Kd.C (Kd.int .i64) w A0 n0 l0)) (hc0 : n0 ≤ c0) (R1 : Stable ws P0 (fun w => Kd.C (Kd.int .i64) w A1 n1 l1)) (hc1 : n1 ≤ c1) (r_1 : Bool) (h : slices_Equal_int_int.f l0 l1 = some r_1) :
    Calls Try.prog 144 #[.slice A0 n0 c0, .slice A1 n1 c1] ws (Post1 w0 ws P0 (fun (_ : Unit) => .bool r_1) (fun (_ : Unit) => [])) := by
  unfold slices_Equal_int_int.f at h
  obtain rfl := (R0 ws (KeptB.refl _ _)).1
  obtain rfl := (R1 ws (KeptB.refl _ _)).1
  refine enter Try.func144 rfl Try.ntmps144 rfl hF ?_
  refine c_seq ?_
  refine za0 ?_
  refine o_q rfl rfl (q_asg rfl) ?_
  refine o_end ?_
  refine za1 ?_
  refine c_seq ?_
  refine c_seq ?_
  refine za0 ?_
  refine o_q rfl rfl (za2 rfl) ?_
  refine o_q rfl rfl (q_len Try.underlying25 rfl) ?_
  refine o_q rfl rfl (za2 rfl) ?_
  refine o_q rfl rfl (q_len Try.underlying25 rfl) ?_
  refine o_q rfl rfl (q_neq rfl rfl) ?_
  refine o_end ?_
  refine za1 ?_
  refine zau _ rfl (fun hb1 => ?_) (fun hb1 => ?_)
  · skip
    replace h := br_t hb1 h
    refine c_seq ?_
    refine za0 ?_
    refine o_q rfl rfl (q_asg rfl) ?_
    refine o_end ?_
    refine za1 ?_
    refine c_ret ?_
    refine zac ?_
    have e0_ := Option.some.inj h; clear h
    subst e0_
    exact x_r1 () Try.results144 (zaf rfl) rfl (fun w h => za6 [] (by decide) rfl w h)
  · skip
    replace h := br_f hb1 h
    refine zaq ?_
    refine za1 ?_
    refine c_seq ?_
    refine c_seq ?_
    refine za0 ?_
    refine o_q rfl rfl (za2 rfl) ?_
    refine o_q rfl rfl (q_len Try.underlying25 rfl) ?_
    refine o_q rfl rfl (za2 rfl) ?_
    refine o_end ?_
    refine za1 ?_
    refine zaj ?_
    refine za8 h (fun o10 hl9 hR8 => ?_) rfl
    clear h
    refine c_fact (p := l0.length ≤ 9223372036854775807) (fun w h => (R0.now Z h).2.1) (fun hm7 => ?_)
    refine c_loopL (σ := (List Int) × Int) (fun k5 ((ys4, i2) : (List Int) × Int) => Rg l0 i2 ys4 ∧ ys4.length = k5 ∧ slices_Equal_int_int.l0 l1 ys4 i2 = some o10) [4, 5, 13, 14, 15, 16, 17, 18, 19, 20, 21, 22, 23, 24, 25] (fun ((ys4, i2) : (List Int) × Int) => [(13, .int .i64 i2)]) (fun ((ys4, i2) : (List Int) × Int) => []) l0.length (l0, 0) ⟨Rg.start _, rfl, hl9⟩ ⟨rfl, trivial⟩ (fun w h => h) ?_
    refine fun k5 => cur2 (listC (fun i2 U11 hJ_ => ?_) (fun y3 ys4 i2 U11 hJ_ => ?_))
    · skip
      clear hl9
      have hr6 := hJ_.1; have hk12 := hJ_.2.1; have h := hJ_.2.2; clear hJ_
      replace h : slices_Equal_int_int.l0 l1 [] i2 = some o10 := h
      rw [slices_Equal_int_int.l0] at h
      refine c_seq ?_
      refine za0 ?_
      refine o_q rfl rfl (q_lss rfl rfl) ?_
      refine o_end ?_
      refine za1 ?_
      refine c_seq ?_
      refine c_false (congrArg Value.bool hr6.ge) ?_
      refine c_exit ?_
      refine za9 ?_
      refine za9 ?_
      have e_ := Option.some.inj h; replace h := hR8; rw [← e_] at h; clear e_
      refine x_hit ?_
      refine za1 ?_
      refine c_seq ?_
      refine za0 ?_
      refine o_q rfl rfl (q_asg rfl) ?_
      refine o_end ?_
      refine za1 ?_
      refine c_ret ?_
      have e0_ := Option.some.inj h; clear h
      subst e0_
      exact x_r1 () Try.results144 (zaf rfl) rfl (fun w h => za6 [] (by decide) rfl w h)
    · skip
      clear hl9
      have hr6 := hJ_.1; have hk12 := hJ_.2.1; have h := hJ_.2.2; clear hJ_
      replace h : slices_Equal_int_int.l0 l1 (y3 :: ys4) i2 = some o10 := h
      rw [slices_Equal_int_int.l0] at h
      refine c_seq ?_
      refine za0 ?_
      refine o_q rfl rfl (q_lss rfl rfl) ?_
      refine o_end ?_
      refine za1 ?_
      refine c_seq ?_
      refine c_true (congrArg Value.bool hr6.lt) ?_
      refine zaq ?_
      refine za1 ?_
      refine c_seq ?_
      refine zaj ?_
      refine c_seq ?_
      refine za0 ?_
      refine o_q rfl rfl (za2 rfl) ?_
      refine o_q rfl rfl (q_asg rfl) ?_
      refine o_end ?_
      refine za1 ?_
      refine c_seq ?_
      refine a_start (ds := []) MO rfl ?_
      refine za5 0 rfl rfl rfl (by kernel_rfl) (fun _ _ _ h => h) (za2 rfl) ?_
      refine za5 1 rfl rfl rfl (by kernel_rfl) (fun _ _ _ h => h) (za2 rfl) ?_
      refine a_fact (p := Sh A0 l0.length l0.length) (fun w h => f_sh (dk := (Kd.int .i64)) h (fun w h => R0.now Z h)) (fun hq13 => ?_)
      refine za5 2 rfl rfl rfl (by kernel_rfl) (fun _ _ _ h => h) (q_ix Try.underlying25 Z3 rfl rfl hq13 hr6.get) ?_
      refine zat 3 rfl rfl rfl (by kernel_rfl) (fun _ _ _ h => h) (fun w h => h) (q_lde (off := 0) Y3 rfl rfl (fun w h => R0.now Z h) hr6.get (fun _ _ h => h) rfl) ?_
      refine za5 4 rfl rfl rfl (by kernel_rfl) (fun _ _ _ h => h) (za2 rfl) ?_
      refine za5 5 rfl rfl rfl (by kernel_rfl) (fun _ _ _ h => h) (za2 rfl) ?_
      refine a_fact (p := Sh A1 l1.length l1.length) (fun w h => f_sh (dk := (Kd.int .i64)) h (fun w h => R1.now Z h)) (fun hq14 => ?_)
      refine za8 h (fun y16 hg15 h => ?_) rfl
      refine za5 6 rfl rfl rfl (by kernel_rfl) (fun _ _ _ h => h) (q_ix Try.underlying25 Z3 rfl rfl hq14 hg15) ?_
      refine zat 7 rfl rfl rfl (by kernel_rfl) (fun _ _ _ h => h) (fun w h => h) (q_lde (off := 0) Y3 rfl rfl (fun w h => R1.now Z h) hg15 (fun _ _ h => h) rfl) ?_
      refine za5 8 rfl rfl rfl (by kernel_rfl) (fun _ _ _ h => h) (q_neq rfl rfl) ?_
      refine a_done (by kernel_rfl) ?_
      refine za1 ?_
      refine zau _ rfl (fun hb17 => ?_) (fun hb17 => ?_)
      · skip
        replace h := br_t hb17 h
        refine c_seq ?_
        refine za0 ?_
        refine o_q rfl rfl (q_asg rfl) ?_
        refine o_end ?_
        refine za1 ?_
        refine c_ret ?_
        refine zan ?_
        refine zac ?_
        refine zac ?_
        have e_ := Option.some.inj h; replace h := hR8; rw [← e_] at h; clear e_
        refine zan ?_
        refine zac ?_
        have e0_ := Option.some.inj h; clear h
        subst e0_
        exact x_r1 () Try.results144 (zaf rfl) rfl (fun w h => za6 [] (by decide) rfl w h)
      · skip
        replace h := br_f hb17 h
        refine zaq ?_
        refine zal ?_
        refine za1 ?_
        refine za0 ?_
        refine o_q rfl rfl (q_up rfl rfl (hr6.up hm7)) ?_
        refine o_q rfl rfl (za2 rfl) ?_
        refine o_end ?_
        refine zam ys4.length (ys4, i2 + 1) (by rw [← hk12]; exact Nat.lt_succ_self _) ⟨hr6.step, rfl, h⟩ ⟨rfl, trivial⟩ (fun w h => za6 [] (by decide) rfl w h) ?_
        repeat (first | exact zad _ _ | refine zah rfl ?_ | refine zae rfl ?_ | refine zai rfl ?_)

/-! ### slices.EqualFunc[[][]int,[][]int,[]int,[]int]: function 187 -/
def slices_EqualFunc_int_int_int_int.l0 (l1 : List (List Int)) : (List (List Int)) → Int → Option ((Bool) ⊕ (Unit))
  | [], i2 => some (.inr ())
  | y3 :: ys4, i2 => (gt l1 i2).bind fun y17 => (slices_Equal_int_int.f y3 y17).bind fun b20 => if b20 = true then (slices_EqualFunc_int_int_int_int.l0 l1 ys4 (i2 + 1)) else (some (.inl false))
def slices_EqualFunc_int_int_int_int.f (l0 : List (List Int)) (l1 : List (List Int)) : Option Bool := if (l0.length : Int) ≠ (l1.length : Int) then (some false) else ((slices_EqualFunc_int_int_int_int.l0 l1 l0 0).bind fun o_ => match o_ with | .inl r_ => some r_ | .inr _ => some true)
set_option maxHeartbeats 600000 in
set_option maxRecDepth 100000 in
theorem slices_EqualFunc_int_int_int_int.calls {w0 ws : World} {P0 : Nat → Prop} (A0 : Option Addr) (c0 : Nat) (n0 : Nat) (H0 : Hd) (l0 : List (List Int)) (A1 : Option Addr) (c1 : Nat) (n1 : Nat) (H1 : Hd) (l1 : List (List Int)) (Z : Below w0.heap.size w0 ws) (hF : Fr w0 ws P0 [] ws) (R0 : Stable ws P0 (fun w => Kd.C (gk 3 (Kd.int .i64)) w A0 n0 (zp H0 l0))) (hc0 : n0 ≤ c0) (R1 : Stable ws P0 (fun w => Kd.C (gk 3 (Kd.int .i64)) w A1 n1 (zp H1 l1))) (hc1 : n1 ≤ c1) (r_1 : Bool) (h : slices_EqualFunc_int_int_int_int.f l0 l1 = some r_1) :
    Calls Try.prog 187 #[.slice A0 n0 c0, .slice A1 n1 c1, .func (.func 144) #[] #[]] ws (Post1 w0 ws P0 (fun (_ : Unit) => .bool r_1) (fun (_ : Unit) => [])) := by
  unfold slices_EqualFunc_int_int_int_int.f at h
  obtain rfl := (zp_len _ _).symm.trans (R0 ws (KeptB.refl _ _)).1
  obtain rfl := (zp_len _ _).symm.trans (R1 ws (KeptB.refl _ _)).1
  refine enter Try.func187 rfl Try.ntmps187 rfl hF ?_
  refine c_seq ?_
  refine za0 ?_
  refine o_q rfl rfl (q_asg rfl) ?_
  refine o_end ?_
  refine za1 ?_
  refine c_seq ?_
  refine c_seq ?_
  refine za0 ?_
  refine o_q rfl rfl (za2 rfl) ?_
  refine o_q rfl rfl (q_len Try.underlying60 rfl) ?_
  refine o_q rfl rfl (za2 rfl) ?_
  refine o_q rfl rfl (q_len Try.underlying60 rfl) ?_
  refine o_q rfl rfl (q_neq rfl rfl) ?_
  refine o_end ?_
  refine za1 ?_
  refine zau _ rfl (fun hb1 => ?_) (fun hb1 => ?_)
  · skip
    replace h := br_t hb1 h
    refine c_seq ?_
    refine za0 ?_
    refine o_q rfl rfl (q_asg rfl) ?_
    refine o_end ?_
    refine za1 ?_
    refine c_ret ?_
    refine zac ?_
    have e0_ := Option.some.inj h; clear h
    subst e0_
    exact x_r1 () Try.results187 (zaf rfl) rfl (fun w h => za6 [] (by decide) rfl w h)
  · skip
    replace h := br_f hb1 h
    refine zaq ?_
    refine za1 ?_
    refine c_seq ?_
    refine c_seq ?_
    refine za0 ?_
    refine o_q rfl rfl (za2 rfl) ?_
    refine o_q rfl rfl (q_len Try.underlying60 rfl) ?_
    refine o_q rfl rfl (za2 rfl) ?_
    refine o_end ?_
    refine za1 ?_
    refine zaj ?_
    refine za8 h (fun o10 hl9 hR8 => ?_) rfl
    clear h
    refine c_fact (p := l0.length ≤ 9223372036854775807) (fun w h => (R0.now Z h).2.1) (fun hm7 => ?_)
    refine c_loopL (σ := (List (List Int)) × Int) (fun k5 ((ys4, i2) : (List (List Int)) × Int) => Rg l0 i2 ys4 ∧ ys4.length = k5 ∧ slices_EqualFunc_int_int_int_int.l0 l1 ys4 i2 = some o10) [6, 7, 8, 9, 17, 18, 19, 20, 21, 22, 23, 24, 25, 26, 27, 28, 29, 30, 31] (fun ((ys4, i2) : (List (List Int)) × Int) => [(17, .int .i64 i2)]) (fun ((ys4, i2) : (List (List Int)) × Int) => []) l0.length (l0, 0) ⟨Rg.start _, rfl, hl9⟩ ⟨rfl, trivial⟩ (fun w h => h) ?_
    refine fun k5 => cur2 (listC (fun i2 U11 hJ_ => ?_) (fun y3 ys4 i2 U11 hJ_ => ?_))
    · skip
      clear hl9
      have hr6 := hJ_.1; have hk12 := hJ_.2.1; have h := hJ_.2.2; clear hJ_
      replace h : slices_EqualFunc_int_int_int_int.l0 l1 [] i2 = some o10 := h
      rw [slices_EqualFunc_int_int_int_int.l0] at h
      refine c_seq ?_
      refine za0 ?_
      refine o_q rfl rfl (q_lss rfl rfl) ?_
      refine o_end ?_
      refine za1 ?_
      refine c_seq ?_
      refine c_false (congrArg Value.bool hr6.ge) ?_
      refine c_exit ?_
      refine za9 ?_
      refine za9 ?_
      have e_ := Option.some.inj h; replace h := hR8; rw [← e_] at h; clear e_
      refine x_hit ?_
      refine za1 ?_
      refine c_seq ?_
      refine za0 ?_
      refine o_q rfl rfl (q_asg rfl) ?_
      refine o_end ?_
      refine za1 ?_
      refine c_ret ?_
      have e0_ := Option.some.inj h; clear h
      subst e0_
      exact x_r1 () Try.results187 (zaf rfl) rfl (fun w h => za6 [] (by decide) rfl w h)
    · skip
      clear hl9
      have hr6 := hJ_.1; have hk12 := hJ_.2.1; have h := hJ_.2.2; clear hJ_
      replace h : slices_EqualFunc_int_int_int_int.l0 l1 (y3 :: ys4) i2 = some o10 := h
      rw [slices_EqualFunc_int_int_int_int.l0] at h
      refine c_seq ?_
      refine za0 ?_
      refine o_q rfl rfl (q_lss rfl rfl) ?_
      refine o_end ?_
      refine za1 ?_
      refine c_seq ?_
      refine c_true (congrArg Value.bool hr6.lt) ?_
      refine zaq ?_
      refine za1 ?_
      refine c_seq ?_
      refine zaj ?_
      refine c_seq ?_
      refine za0 ?_
      refine o_q rfl rfl (za2 rfl) ?_
      refine o_fact (p := Sh A0 l0.length (zp H0 l0).length) (fun w h => f_sh (dk := (gk 3 (Kd.int .i64))) h (fun w h => R0.now Z h)) (fun hq13 => ?_)
      refine o_q rfl rfl (q_ix Try.underlying60 Z25 rfl rfl hq13 (gt_zp hr6.get)) ?_
      refine o_fact (p := y3.length ≤ hC H0 i2) (fun w h => (K_in (R0.now Z h) hr6.get).1) (fun hc14 => ?_)
      refine o_q rfl rfl (q_lde (off := 0) Y25 rfl rfl (fun w h => R0.now Z h) (gt_zp hr6.get) (fun _ _ h => h.1) rfl) ?_
      refine o_q rfl rfl (q_asg rfl) ?_
      refine o_q rfl rfl (q_asg rfl) ?_
      refine o_end ?_
      refine za1 ?_
      refine c_seq ?_
      refine za0 ?_
      refine o_q rfl rfl (za2 rfl) ?_
      refine o_q rfl rfl (za2 rfl) ?_
      refine o_fact (p := Sh A1 l1.length (zp H1 l1).length) (fun w h => f_sh (dk := (gk 3 (Kd.int .i64))) h (fun w h => R1.now Z h)) (fun hq15 => ?_)
      refine za8 h (fun y17 hg16 h => ?_) rfl
      refine o_q rfl rfl (q_ix Try.underlying60 Z25 rfl rfl hq15 (gt_zp hg16)) ?_
      refine o_fact (p := y17.length ≤ hC H1 i2) (fun w h => (K_in (R1.now Z h) hg16).1) (fun hc18 => ?_)
      refine o_q rfl rfl (q_lde (off := 0) Y25 rfl rfl (fun w h => R1.now Z h) (gt_zp hg16) (fun _ _ h => h.1) rfl) ?_
      refine o_q rfl rfl (q_asg rfl) ?_
      refine o_end ?_
      refine za1 ?_
      refine c_seq ?_
      refine za0 ?_
      refine o_q rfl rfl (za2 rfl) ?_
      refine o_q rfl rfl (za2 rfl) ?_
      refine o_q rfl rfl (za2 rfl) ?_
      refine za8 h (fun b20 hx19 h => ?_) rfl
      refine o_e rfl (zab 0 Z Try.func144 N144 rfl rfl rfl (fun w P1 hF hB hS hT => slices_Equal_int_int.calls (hA H0 i2) (hC H0 i2) y3.length y3 (hA H1 i2) (hC H1 i2) y17.length y17 hB hF (stab_in (hS _ R0) hr6.get) hc14 (stab_in (hS _ R1) hg16) hc18 _ hx19)) (fun _ => ?_)
      refine o_q rfl rfl (q_not rfl) ?_
      refine o_end ?_
      refine za1 ?_
      refine zau _ rfl (fun hb21 => ?_) (fun hb21 => ?_)
      · replace hb21 := nt_t hb21
        replace h := bb_f hb21 h
        refine c_seq ?_
        refine za0 ?_
        refine o_q rfl rfl (q_asg rfl) ?_
        refine o_end ?_
        refine za1 ?_
        refine c_ret ?_
        refine zan ?_
        refine zac ?_
        refine zac ?_
        have e_ := Option.some.inj h; replace h := hR8; rw [← e_] at h; clear e_
        refine zan ?_
        refine zac ?_
        have e0_ := Option.some.inj h; clear h
        subst e0_
        exact x_r1 () Try.results187 (zaf rfl) rfl (fun w h => za6 [] (by decide) rfl w h)
      · replace hb21 := nt_f hb21
        replace h := bb_t hb21 h
        refine zaq ?_
        refine zal ?_
        refine za1 ?_
        refine za0 ?_
        refine o_q rfl rfl (q_up rfl rfl (hr6.up hm7)) ?_
        refine o_q rfl rfl (za2 rfl) ?_
        refine o_end ?_
        refine zam ys4.length (ys4, i2 + 1) (by rw [← hk12]; exact Nat.lt_succ_self _) ⟨hr6.step, rfl, h⟩ ⟨rfl, trivial⟩ (fun w h => za6 [] (by decide) rfl w h) ?_
        repeat (first | exact zad _ _ | refine zah rfl ?_ | refine zae rfl ?_ | refine zai rfl ?_)

/-! ### loop.example/g01098/impl.samePowers: function 109 -/
def impl_samePowers.f (a0_0 : Int) (l0_1 : List SStep) (l0_2 : List Int) (a1_0 : Int) (l1_1 : List SStep) (l1_2 : List Int) : Option Bool := if a0_0 = a1_0 then ((impl_Plan_outputExponents.f a0_0 l0_1 l0_2).bind fun l3 => (impl_Plan_outputExponents.f a1_0 l1_1 l1_2).bind fun l8 => (slices_EqualFunc_int_int_int_int.f l3 l8).bind fun b13 => some b13) else (some false)
set_option maxHeartbeats 600000 in
set_option maxRecDepth 100000 in
theorem impl_samePowers.calls {w0 ws : World} {P0 : Nat → Prop} (g0 : Nat) (a0_0 : Int) (A0_1 : Option Addr) (c0_1 : Nat) (n0_1 : Nat) (l0_1 : List SStep) (A0_2 : Option Addr) (c0_2 : Nat) (n0_2 : Nat) (l0_2 : List Int) (g1 : Nat) (a1_0 : Int) (A1_1 : Option Addr) (c1_1 : Nat) (n1_1 : Nat) (l1_1 : List SStep) (A1_2 : Option Addr) (c1_2 : Nat) (n1_2 : Nat) (l1_2 : List Int) (Z : Below w0.heap.size w0 ws) (hF : Fr w0 ws P0 [] ws) (R0_1 : Stable ws P0 (fun w => Kd.C kStep w A0_1 n0_1 l0_1)) (hc0_1 : n0_1 ≤ c0_1) (R0_2 : Stable ws P0 (fun w => Kd.C (Kd.int .i64) w A0_2 n0_2 l0_2)) (hc0_2 : n0_2 ≤ c0_2) (B0 : Stable ws P0 (fun w => w.heap[g0]? = some (.cells #[.int .i64 a0_0, .slice A0_1 n0_1 c0_1, .slice A0_2 n0_2 c0_2] 27 (0, 0)))) (R1_1 : Stable ws P0 (fun w => Kd.C kStep w A1_1 n1_1 l1_1)) (hc1_1 : n1_1 ≤ c1_1) (R1_2 : Stable ws P0 (fun w => Kd.C (Kd.int .i64) w A1_2 n1_2 l1_2)) (hc1_2 : n1_2 ≤ c1_2) (B1 : Stable ws P0 (fun w => w.heap[g1]? = some (.cells #[.int .i64 a1_0, .slice A1_1 n1_1 c1_1, .slice A1_2 n1_2 c1_2] 27 (0, 0)))) (r_1 : Bool) (h : impl_samePowers.f a0_0 l0_1 l0_2 a1_0 l1_1 l1_2 = some r_1) :
    Calls Try.prog 109 #[.pointer (some ⟨g0, 0, none⟩), .pointer (some ⟨g1, 0, none⟩)] ws (Post1 w0 ws P0 (fun (_ : Unit) => .bool r_1) (fun (_ : Unit) => [])) := by
  unfold impl_samePowers.f at h
  obtain rfl := (R0_1 ws (KeptB.refl _ _)).1
  obtain rfl := (R0_2 ws (KeptB.refl _ _)).1
  obtain rfl := (R1_1 ws (KeptB.refl _ _)).1
  obtain rfl := (R1_2 ws (KeptB.refl _ _)).1
  refine enter Try.func109 rfl Try.ntmps109 rfl hF ?_
  refine c_seq ?_
  refine za0 ?_
  refine o_q rfl rfl (q_asg rfl) ?_
  refine o_end ?_
  refine za1 ?_
  refine c_seq ?_
  refine a_start (ds := []) MO rfl ?_
  refine za5 0 rfl rfl rfl (by kernel_rfl) (fun _ _ _ h => h) (za2 rfl) ?_
  refine za5 1 rfl rfl rfl (by kernel_rfl) (fun _ _ _ h => h) (q_nil rfl) ?_
  refine za5 2 rfl rfl rfl (by kernel_rfl) (fun _ _ _ h => h) (q_f F27_0 rfl) ?_
  refine zat 3 rfl rfl rfl (by kernel_rfl) (fun _ _ _ h => h) (fun w h => h) (q_ldb Y3 rfl (fun w h => B0.now Z h) rfl) ?_
  refine za5 4 rfl rfl rfl (by kernel_rfl) (fun _ _ _ h => h) (za2 rfl) ?_
  refine za5 5 rfl rfl rfl (by kernel_rfl) (fun _ _ _ h => h) (q_nil rfl) ?_
  refine za5 6 rfl rfl rfl (by kernel_rfl) (fun _ _ _ h => h) (q_f F27_0 rfl) ?_
  refine zat 7 rfl rfl rfl (by kernel_rfl) (fun _ _ _ h => h) (fun w h => h) (q_ldb Y3 rfl (fun w h => B1.now Z h) rfl) ?_
  refine za5 8 rfl rfl rfl (by kernel_rfl) (fun _ _ _ h => h) (q_eql rfl rfl) ?_
  refine za5 9 rfl rfl rfl (by kernel_rfl) (fun _ _ _ h => h) (za2 rfl) ?_
  refine byB (decide (a0_0 = a1_0)) (fun hb1 => ?_) (fun hb1 => ?_)
  · replace h := br_t hb1 h
    refine a_purew 10 rfl rfl (za4 rfl rfl rfl (congrArg Value.bool hb1)) (by kernel_rfl) (fun _ _ _ h => h) (za2 rfl) ?_
    refine a_purew 12 rfl rfl (za4 rfl rfl rfl (congrArg Value.bool hb1)) (by kernel_rfl) (fun _ _ _ h => h) (za2 rfl) ?_
    refine za8 h (fun l3 hx2 h => ?_) rfl
    refine a_onew 11 rfl (za4 rfl rfl rfl (congrArg Value.bool hb1)) (by kernel_rfl) rfl (zab 0 Z Try.func135 N135 rfl rfl rfl (fun w P1 hF hB hS hT => impl_Plan_outputExponents.calls g0 a0_0 A0_1 c0_1 l0_1.length l0_1 A0_2 c0_2 l0_2.length l0_2 hB hF (hS _ R0_1) hc0_1 (hS _ R0_2) hc0_2 (hS _ B0) _ hx2)) (fun s w h => za7 [] (by decide) w h rfl) (cur3 (fun A4 c5 H6 => ?_))
    refine za8 h (fun l8 hx7 h => ?_) rfl
    refine a_onew 13 rfl (za4 rfl rfl rfl (congrArg Value.bool hb1)) (by kernel_rfl) rfl (zab 0 Z Try.func135 N135 rfl rfl rfl (fun w P1 hF hB hS hT => impl_Plan_outputExponents.calls g1 a1_0 A1_1 c1_1 l1_1.length l1_1 A1_2 c1_2 l1_2.length l1_2 hB hF (hS _ R1_1) hc1_1 (hS _ R1_2) hc1_2 (hS _ B1) _ hx7)) (fun s w h => za7 [] (by decide) w h rfl) (cur3 (fun A9 c10 H11 => ?_))
    refine za8 h (fun b13 hx12 h => ?_) rfl
    refine a_onew 14 rfl (za4 rfl rfl rfl (congrArg Value.bool hb1)) (by kernel_rfl) rfl (zab 0 Z Try.func187 N187 rfl rfl rfl (fun w P1 hF hB hS hT => slices_EqualFunc_int_int_int_int.calls A4 c5 l3.length H6 l3 A9 c10 l8.length H11 l8 hB hF (hT 1 _ rfl).row (hT 1 _ rfl).cap (hT 0 _ rfl).row (hT 0 _ rfl).cap _ hx12)) (fun s w h => za7 [] (by decide) w h rfl) (fun _ => ?_)
    refine za5 15 rfl rfl rfl (by kernel_rfl) (fun _ _ _ h => h) (zak true (congrArg Value.bool hb1) rfl) ?_
    refine za5 16 rfl rfl rfl (by kernel_rfl) (fun _ _ _ h => h) (q_asg rfl) ?_
    refine a_done (by kernel_rfl) ?_
    refine za1 ?_
    refine c_ret ?_
    have e0_ := Option.some.inj h; clear h
    subst e0_
    exact x_r1 () Try.results109 (zaf rfl) rfl (fun w h => za6 [] (by decide) rfl w h)
  · replace h := br_f hb1 h
    refine a_no 10 rfl rfl (za3 rfl rfl rfl (congrArg Value.bool hb1) rfl) (by kernel_rfl) (fun _ _ _ h => h) ?_
    refine a_no 11 rfl rfl (za3 rfl rfl rfl (congrArg Value.bool hb1) rfl) (by kernel_rfl) (fun _ _ _ h => h) ?_
    refine a_no 12 rfl rfl (za3 rfl rfl rfl (congrArg Value.bool hb1) rfl) (by kernel_rfl) (fun _ _ _ h => h) ?_
    refine a_no 13 rfl rfl (za3 rfl rfl rfl (congrArg Value.bool hb1) rfl) (by kernel_rfl) (fun _ _ _ h => h) ?_
    refine a_no 14 rfl rfl (za3 rfl rfl rfl (congrArg Value.bool hb1) rfl) (by kernel_rfl) (fun _ _ _ h => h) ?_
    refine za5 15 rfl rfl rfl (by kernel_rfl) (fun _ _ _ h => h) (zak false (congrArg Value.bool hb1) rfl) ?_
    refine za5 16 rfl rfl rfl (by kernel_rfl) (fun _ _ _ h => h) (q_asg rfl) ?_
    refine a_done (by kernel_rfl) ?_
    refine za1 ?_
    refine c_ret ?_
    have e0_ := Option.some.inj h; clear h
    subst e0_
    exact x_r1 () Try.results109 (zaf rfl) rfl (fun w h => za6 [] (by decide) rfl w h)

/-! ### loop.example/g01098/impl.SamePowers: function 27 -/
def impl_SamePowers.f (k : Nat) (a0_0 : Int) (l0_1 : List SStep) (l0_2 : List Int) (a1_0 : Int) (l1_1 : List SStep) (l1_2 : List Int) : Option (Bool × Bool) := (impl_IsPlan.f k a0_0 l0_1 l0_2).bind fun b6 => if b6 = true then ((impl_IsPlan.f k a1_0 l1_1 l1_2).bind fun b9 => if b9 = true then ((impl_samePowers.f a0_0 l0_1 l0_2 a1_0 l1_1 l1_2).bind fun b12 => some (b12, true)) else (some (false, false))) else (some (false, false))
set_option maxHeartbeats 600000 in
set_option maxRecDepth 100000 in
theorem impl_SamePowers.calls (k : Nat) {w0 ws : World} {P0 : Nat → Prop} (a0_0 : Int) (A0_1 : Option Addr) (c0_1 : Nat) (n0_1 : Nat) (l0_1 : List SStep) (A0_2 : Option Addr) (c0_2 : Nat) (n0_2 : Nat) (l0_2 : List Int) (a1_0 : Int) (A1_1 : Option Addr) (c1_1 : Nat) (n1_1 : Nat) (l1_1 : List SStep) (A1_2 : Option Addr) (c1_2 : Nat) (n1_2 : Nat) (l1_2 : List Int) (Z : Below w0.heap.size w0 ws) (hF : Fr w0 ws P0 [] ws) (R0_1 : Stable ws P0 (fun w => Kd.C kStep w A0_1 n0_1 l0_1)) (hc0_1 : n0_1 ≤ c0_1) (R0_2 : Stable ws P0 (fun w => Kd.C (Kd.int .i64) w A0_2 n0_2 l0_2)) (hc0_2 : n0_2 ≤ c0_2) (R1_1 : Stable ws P0 (fun w => Kd.C kStep w A1_1 n1_1 l1_1)) (hc1_1 : n1_1 ≤ c1_1) (R1_2 : Stable ws P0 (fun w => Kd.C (Kd.int .i64) w A1_2 n1_2 l1_2)) (hc1_2 : n1_2 ≤ c1_2) (r_1 : Bool) (r_2 : Bool) (h : impl_SamePowers.f k a0_0 l0_1 l0_2 a1_0 l1_1 l1_2 = some (r_1, r_2)) :
    Calls Try.prog 27 #[.agg #[.int .i64 a0_0, .slice A0_1 n0_1 c0_1, .slice A0_2 n0_2 c0_2], .agg #[.int .i64 a1_0, .slice A1_1 n1_1 c1_1, .slice A1_2 n1_2 c1_2]] ws (Post1 w0 ws P0 (fun (_ : Unit) => .tuple #[.bool r_1, .bool r_2]) (fun (_ : Unit) => [])) := by
  unfold impl_SamePowers.f at h
  obtain rfl := (R0_1 ws (KeptB.refl _ _)).1
  obtain rfl := (R0_2 ws (KeptB.refl _ _)).1
  obtain rfl := (R1_1 ws (KeptB.refl _ _)).1
  obtain rfl := (R1_2 ws (KeptB.refl _ _)).1
  refine enter Try.func27 rfl Try.ntmps27 rfl hF ?_
  refine c_seq ?_
  refine za0 ?_
  refine o_e rfl (e_box rfl) (fun g1 => ?_)
  refine o_e rfl (e_box rfl) (fun g3 => ?_)
  refine o_q rfl rfl (q_asg rfl) ?_
  refine o_q rfl rfl (q_asg rfl) ?_
  refine o_end ?_
  refine za1 ?_
  refine c_seq ?_
  refine c_seq ?_
  refine za0 ?_
  refine o_q rfl rfl (q_ldB G27 Z27 rfl (fun w h => h.zaa (i := 1) rfl) rfl) ?_
  refine za8 h (fun b6 hx5 h => ?_) rfl
  refine o_e rfl (zab 0 Z Try.func86 N86 rfl rfl rfl (fun w P1 hF hB hS hT => impl_IsPlan.calls k a0_0 A0_1 c0_1 l0_1.length l0_1 A0_2 c0_2 l0_2.length l0_2 hB hF (hS _ R0_1) hc0_1 (hS _ R0_2) hc0_2 _ hx5)) (fun _ => ?_)
  refine o_q rfl rfl (q_not rfl) ?_
  refine o_q rfl rfl (za2 rfl) ?_
  refine byB b6 (fun hb7 => ?_) (fun hb7 => ?_)
  · replace h := bb_t hb7 h
    refine o_w (za4 rfl rfl rfl (congrArg (fun b => Value.bool (!(b))) hb7)) rfl (q_ldB G27 Z27 rfl (fun w h => h.zaa (i := 0) rfl) rfl) ?_
    refine za8 h (fun b9 hx8 h => ?_) rfl
    refine o_ew (za4 rfl rfl rfl (congrArg (fun b => Value.bool (!(b))) hb7)) (zab 0 Z Try.func86 N86 rfl rfl rfl (fun w P1 hF hB hS hT => impl_IsPlan.calls k a1_0 A1_1 c1_1 l1_1.length l1_1 A1_2 c1_2 l1_2.length l1_2 hB hF (hS _ R1_1) hc1_1 (hS _ R1_2) hc1_2 _ hx8)) (fun _ => ?_)
    refine o_w (za4 rfl rfl rfl (congrArg (fun b => Value.bool (!(b))) hb7)) rfl (q_not rfl) ?_
    refine o_q rfl rfl (zak false (congrArg (fun b => Value.bool (!(b))) hb7) rfl) ?_
    refine o_end ?_
    refine za1 ?_
    refine zau _ rfl (fun hb10 => ?_) (fun hb10 => ?_)
    · replace hb10 := nt_t hb10
      replace h := bb_f hb10 h
      refine c_seq ?_
      refine za0 ?_
      refine o_q rfl rfl (q_asg rfl) ?_
      refine o_q rfl rfl (q_asg rfl) ?_
      refine o_end ?_
      refine za1 ?_
      refine c_ret ?_
      refine zac ?_
      have e0_ := Option.some.inj h; clear h
      have d0_ := (Prod.mk.inj e0_).1; have e1_ := (Prod.mk.inj e0_).2; clear e0_; subst d0_
      subst e1_
      exact x_r2 () Try.results27 (zaf rfl) (zaf rfl) rfl (fun w h => za6 [] (by decide) rfl w h)
    · replace hb10 := nt_f hb10
      replace h := bb_t hb10 h
      refine zaq ?_
      refine za1 ?_
      refine c_seq ?_
      refine za0 ?_
      refine za8 h (fun b12 hx11 h => ?_) rfl
      refine o_e rfl (zab 0 Z Try.func109 N109 rfl rfl rfl (fun w P1 hF hB hS hT => impl_samePowers.calls g1 a0_0 A0_1 c0_1 l0_1.length l0_1 A0_2 c0_2 l0_2.length l0_2 g3 a1_0 A1_1 c1_1 l1_1.length l1_1 A1_2 c1_2 l1_2.length l1_2 hB hF (hS _ R0_1) hc0_1 (hS _ R0_2) hc0_2 (hT 1 _ rfl).box (hS _ R1_1) hc1_1 (hS _ R1_2) hc1_2 (hT 0 _ rfl).box _ hx11)) (fun _ => ?_)
      refine o_q rfl rfl (q_asg rfl) ?_
      refine o_q rfl rfl (q_asg rfl) ?_
      refine o_end ?_
      refine za1 ?_
      refine c_ret ?_
      have e0_ := Option.some.inj h; clear h
      have d0_ := (Prod.mk.inj e0_).1; have e1_ := (Prod.mk.inj e0_).2; clear e0_; subst d0_
      subst e1_
      exact x_r2 () Try.results27 (zaf rfl) (zaf rfl) rfl (fun w h => za6 [] (by decide) rfl w h)
  · replace h := bb_f hb7 h
    refine @o_n _ _ _ _ _ _ _ _ _ _ _ 10 (za3 rfl rfl rfl (congrArg (fun b => Value.bool (!(b))) hb7) rfl) (Eq.refl (some 10)) ?_
    refine @o_n _ _ _ _ _ _ _ _ _ _ _ 11 (za3 rfl rfl rfl (congrArg (fun b => Value.bool (!(b))) hb7) rfl) (Eq.refl (some 11)) ?_
    refine @o_n _ _ _ _ _ _ _ _ _ _ _ 12 (za3 rfl rfl rfl (congrArg (fun b => Value.bool (!(b))) hb7) rfl) (Eq.refl (some 12)) ?_
    refine o_q rfl rfl (zak true (congrArg (fun b => Value.bool (!(b))) hb7) rfl) ?_
    refine o_end ?_
    refine za1 ?_
    refine c_true rfl ?_
    refine c_seq ?_
    refine za0 ?_
    refine o_q rfl rfl (q_asg rfl) ?_
    refine o_q rfl rfl (q_asg rfl) ?_
    refine o_end ?_
    refine za1 ?_
    refine c_ret ?_
    refine zac ?_
    have e0_ := Option.some.inj h; clear h
    have d0_ := (Prod.mk.inj e0_).1; have e1_ := (Prod.mk.inj e0_).2; clear e0_; subst d0_
    subst e1_
    exact x_r2 () Try.results27 (zaf rfl) (zaf rfl) rfl (fun w h => za6 [] (by decide) rfl w h)

/-! ### slices.Backward at []Step, by hand -/
set_option maxRecDepth 100000 in
theorem bk_Step {w : World} {P1 : Nat → Prop} (Bs : Nat) (A : Option Addr) (cap : Nat) (zs : List SStep) (hR : Stable w P1 (fun W => Kd.C kStep W A zs.length zs)) (hB : Stable w P1 (fun W => W.heap[Bs]? = some (.cells #[.slice A zs.length cap] 24 (0, 0)))) :
    SeqStopsK Fence.wide 2 Try.prog 222 #[.pointer (some ⟨Bs, 0, none⟩)] (fun x : BackT zs => #[Value.int .i64 x.1.1, .agg #[.int .i64 x.1.2.f0, .int .i64 x.1.2.f1]]) (KpS w P1) (fun ys => ys.map Subtype.val = bwL zs) (fun _ => True) zs.length w := by
  intro l J Jx W hW hJ hJx hY h0
  have hk0 : KeptB w W P1 := ⟨⟨hW.size, fun i hi _ => hW.block i hi⟩, hW.os, hW.tape, hW.output⟩
  have hlen : zs.length ≤ 9223372036854775807 := (hR w (KeptB.refl _ _)).2.1
  refine enterG (m := 19) Try.func222 rfl Try.ntmps222 rfl ?_
  refine wpIn_seq (wpIn_region_list ?_)
  refine g_q (fun c hc => by cases hc) rfl rfl (q_ldb (bt := 24) Y24 rfl (fun w' h' => by subst h'; exact hB _ hk0) rfl) ?_
  refine g_q (fun c hc => by cases hc) rfl rfl (q_len Try.underlying24 rfl) ?_
  refine g_q (fun c hc => by cases hc) rfl rfl (q_sub64 rfl rfl) ?_
  refine g_q (fun c hc => by cases hc) rfl rfl (q_asg rfl) ?_
  refine wpListIn_nil ?_
  refine wpIn_block ?_
  refine wpIn_loop_ghost (fun m a W' => ∃ (e : Nat → Value) (pre : List (BackT zs)), m ≤ zs.length ∧ a = act ⟨19, [], none⟩ e ∧ e 0 = .func (.yield l) #[] #[] ∧ e 1 = .pointer (some ⟨Bs, 0, none⟩) ∧ e 3 = .int .i64 ((m : Int) - 1) ∧ pre.map Subtype.val = (bwL zs).take (zs.length - m) ∧ J pre W' ∧ KeptB w W' P1) zs.length ⟨_, [], Nat.le_refl _, rfl, rfl, rfl, ?_, by simp, h0, hk0⟩ ?_
  · show Value.int .i64 (w64 ((zs.length : Int) - 1)) = _
    rw [w64_id (by omega)]
  rintro m a W' ⟨e, pre, hm, rfl, he0, he1, he3, hpre, hJp, hk⟩
  have hpl : pre.length = zs.length - m := by
    have := congrArg List.length hpre
    rw [List.length_map, List.length_take, bwL_len] at this
    omega
  refine wpIn_seq (wpIn_seq (wpIn_region_list ?_))
  refine g_q (fun c hc => by cases hc) rfl rfl (za2 he3) ?_
  refine g_q (fun c hc => by cases hc) rfl rfl (q_geq rfl rfl) ?_
  refine wpListIn_nil ?_
  cases m with
  | zero =>
    refine wpIn_cond_false rfl (wpIn_exit ?_)
    refine exth (exth (inblk ?_))
    refine ⟨rfl, _, results_none rfl _ _ _, ⟨_, rfl⟩, .inl ⟨pre, ?_, hJp⟩⟩
    show pre.map Subtype.val = _
    rw [hpre, Nat.sub_zero, List.take_of_length_le (by rw [bwL_len]; exact Nat.le_refl _)]
  | succ m =>
    refine wpIn_cond_true ?_ (wpIn_skip ?_)
    · rw [act_eval]
      show Value.bool (decide ((0 : Int) ≤ ((m + 1 : Nat) : Int) - 1)) = _
      rw [decide_eq_true (by omega)]
    refine wpIn_seq (wpIn_block (wpIn_seq (wpIn_region_list ?_)))
    have e3 : e 3 = .int .i64 (m : Int) := by rw [he3]; congr 1; omega
    have hml : m < zs.length := hm
    have hC := hR W' hk
    refine g_q (fun c hc => by cases hc) rfl rfl (za2 he0) ?_
    refine g_q (fun c hc => by cases hc) rfl rfl (za2 e3) ?_
    refine g_q (fun c hc => by cases hc) rfl rfl (q_ldb (bt := 24) Y24 he1 (fun w' h' => by subst h'; exact hB _ hk) rfl) ?_
    refine g_q (fun c hc => by cases hc) rfl rfl (za2 e3) ?_
    refine g_q (fun c hc => by cases hc) rfl rfl (q_ix (xs := zs) Try.underlying24 Z89 rfl rfl (C_sh hC) (gt_at hml)) ?_
    refine g_q (fun c hc => by cases hc) rfl rfl (q_ldE G89 Z89 rfl rfl (fun w' h' => by subst h'; exact hC) (gt_at hml) (fun _ _ h => h) rfl) ?_
    have hx : ∃ j : Nat, ((m : Int), zs[m]).1 = (j : Int) ∧ zs[j]? = some ((m : Int), zs[m]).2 := ⟨m, rfl, List.getElem?_eq_getElem hml⟩
    refine g_yield rfl rfl rfl rfl (hY pre ⟨((m : Int), zs[m]), hx⟩ W' hJp (by omega)) (fun e w' h => by rcases h with ⟨rfl, _⟩ | ⟨rfl, _⟩ <;> exact ⟨_, rfl⟩) ?_
    rintro v W3 (⟨hv, hJ3, hk3⟩ | ⟨hv, hJx3⟩)
    · obtain rfl := Ending.returned.inj hv
      refine g_q (fun c hc => by cases hc) rfl rfl (q_not rfl) ?_
      refine wpListIn_nil ?_
      refine wpIn_cond_false rfl (wpIn_skip ?_)
      refine wpIn_region_list ?_
      refine g_q (fun c hc => by cases hc) rfl rfl (za2 e3) ?_
      refine g_q (fun c hc => by cases hc) rfl rfl (q_sub64 rfl rfl) ?_
      refine g_q (fun c hc => by cases hc) rfl rfl (q_asg rfl) ?_
      refine wpListIn_nil ?_
      refine ⟨m, Nat.lt_succ_self m, _, pre ++ [⟨((m : Int), zs[m]), hx⟩], by omega, rfl, he0, he1, ?_, ?_, hJ3, hk3 hk⟩
      · show Value.int .i64 (w64 ((m : Int) - 1)) = _
        rw [w64_id (by omega)]
      · rw [List.map_append, hpre]
        have ht := bwL_take zs (zs.length - (m + 1)) (by omega)
        have ei : zs.length - 1 - (zs.length - (m + 1)) = m := by omega
        rw [show zs.length - (m + 1) + 1 = zs.length - m by omega] at ht
        rw [ht]
        congr 1
        simp only [ei, List.map_cons, List.map_nil]
    · obtain rfl := Ending.returned.inj hv
      refine g_q (fun c hc => by cases hc) rfl rfl (q_not rfl) ?_
      refine wpListIn_nil ?_
      refine wpIn_cond_true rfl (wpIn_ret ?_)
      exact ⟨rfl, _, results_none rfl _ _ _, ⟨_, rfl⟩, .inr ⟨_, trivial, hJx3⟩⟩
theorem bkc_Step.calls {w0 ws : World} {P0 : Nat → Prop} (A : Option Addr) (n c : Nat) (hF : Fr w0 ws P0 [] ws) : Calls Try.prog 190 #[.slice A n c] ws (Post1 w0 ws P0 (fun (q : Nat) => .func (.func 222) #[] #[.pointer (some ⟨q, 0, none⟩)]) (fun (q : Nat) => [box q 24 #[.slice A n c]])) := by
  refine enter Try.func190 rfl Try.ntmps190 rfl hF ?_
  refine c_seq ?_
  refine za0 ?_
  refine o_e rfl (e_box rfl) (fun g1 => ?_)
  refine o_q rfl rfl (q_asg rfl) ?_
  refine o_end ?_
  refine za1 ?_
  refine c_seq ?_
  refine za0 ?_
  refine o_q rfl rfl (q_func (f := .func 222) (a := []) (b := [.tmp 1]) rfl rfl) ?_
  refine o_q rfl rfl (q_asg rfl) ?_
  refine o_end ?_
  refine za1 ?_
  refine c_ret ?_
  exact x_r1 g1 Try.results190 (zaf rfl) rfl (fun w h => h)

/-! ### (*Plan).used, by hand: a range over slices.Backward -/
/-- A round: the factors of a used step are used. -/
def impl_Plan_used.b (I : Int) (s : List Bool) (x : Int × SStep) : List Bool := if s.getD (I + x.1).toNat false = true then (s.set x.2.f0.toNat true).set x.2.f1.toNat true else s
def impl_Plan_used.l0 : (List Int) → (List Bool) → Int → Option (List Bool)
  | [], l11, i12 => some l11
  | y13 :: ys14, l11, i12 => (gt l11 y13).bind fun y46 => (st l11 y13 true).bind fun l47 => impl_Plan_used.l0 ys14 l47 (i12 + 1)
/-- As the rounds may come in any order: all steps must be right. -/
def impl_Plan_used.f (a0_0 : Int) (l0_1 : List SStep) (l0_2 : List Int) : Option (List Bool) := (impl_Plan_many.f a0_0 l0_1 l0_2).bind fun _ => (mk0 (w64 (a0_0 + (l0_1.length : Int))) false).bind fun l4 => (impl_Plan_used.l0 l0_2 l4 0).bind fun l11 =>
  if (0 ≤ a0_0 ∧ a0_0 ≤ 1000 ∧ l0_1.length ≤ 1000 ∧ l4.length = (a0_0 + (l0_1.length : Int)).toNat ∧ l11.length = (a0_0 + (l0_1.length : Int)).toNat) ∧ ∀ y ∈ l0_1, (0 ≤ y.f0 ∧ y.f0 < a0_0 + (l0_1.length : Int)) ∧ (0 ≤ y.f1 ∧ y.f1 < a0_0 + (l0_1.length : Int)) then some ((bwL l0_1).foldl (impl_Plan_used.b a0_0) l11) else none
theorem impl_Plan_used.blen (I : Int) (s : List Bool) (x : Int × SStep) : (impl_Plan_used.b I s x).length = s.length := by
  unfold impl_Plan_used.b
  split <;> simp
theorem impl_Plan_used.flen {zs : List SStep} (I : Int) (pre : List (BackT zs)) (s : List Bool) : (pre.foldl (fun s x => impl_Plan_used.b I s x.1) s).length = s.length := by
  induction pre generalizing s with
  | nil => rfl
  | cons x pre ih => rw [List.foldl_cons, ih, impl_Plan_used.blen]
theorem gt_getD {s : List Bool} {i : Int} (h0 : 0 ≤ i) (h1 : i < (s.length : Int)) : gt s i = some (s.getD i.toNat false) := by
  unfold gt
  rw [if_pos h0, List.getD_eq_getElem?_getD, List.getElem?_eq_getElem (by omega)]
  rfl
theorem st_ok {s : List Bool} {i : Int} (h0 : 0 ≤ i) (h1 : i < (s.length : Int)) : st s i true = some (s.set i.toNat true) := by
  unfold st
  rw [if_pos ⟨h0, h1⟩]
set_option maxHeartbeats 1600000 in
set_option maxRecDepth 100000 in
theorem impl_Plan_used.calls {w0 ws : World} {P0 : Nat → Prop} (g0 : Nat) (a0_0 : Int) (A0_1 : Option Addr) (c0_1 : Nat) (n0_1 : Nat) (l0_1 : List SStep) (A0_2 : Option Addr) (c0_2 : Nat) (n0_2 : Nat) (l0_2 : List Int) (Z : Below w0.heap.size w0 ws) (hF : Fr w0 ws P0 [] ws) (R0_1 : Stable ws P0 (fun w => Kd.C kStep w A0_1 n0_1 l0_1)) (hc0_1 : n0_1 ≤ c0_1) (R0_2 : Stable ws P0 (fun w => Kd.C (Kd.int .i64) w A0_2 n0_2 l0_2)) (hc0_2 : n0_2 ≤ c0_2) (B0 : Stable ws P0 (fun w => w.heap[g0]? = some (.cells #[.int .i64 a0_0, .slice A0_1 n0_1 c0_1, .slice A0_2 n0_2 c0_2] 27 (0, 0)))) (r_1 : List Bool) (h : impl_Plan_used.f a0_0 l0_1 l0_2 = some r_1) :
    Calls Try.prog 113 #[.pointer (some ⟨g0, 0, none⟩)] ws (Post1 w0 ws P0 (fun ((q_2, q_3) : (Option Addr) × Nat) => .slice q_2 r_1.length q_3) (fun ((q_2, q_3) : (Option Addr) × Nat) => [row Kd.bool 4 (.slice q_2 r_1.length q_3) r_1])) := by
  unfold impl_Plan_used.f at h
  obtain rfl := (R0_1 ws (KeptB.refl _ _)).1
  obtain rfl := (R0_2 ws (KeptB.refl _ _)).1
  refine enterM Try.func113 rfl Try.ntmps113 rfl hF ?_
  refine c_seq ?_
  refine za0 ?_
  refine o_e rfl (e_box rfl) (fun g1 => ?_)
  refine o_q rfl rfl (q_asg rfl) ?_
  refine o_end ?_
  refine za1 ?_
  refine c_seq ?_
  refine za0 ?_
  refine o_q rfl rfl (q_ldb Y99 rfl (fun w h => h.zaa (i := 0) rfl) rfl) ?_
  refine za8 h (fun _ hx3 h => ?_) rfl
  refine o_e rfl (zab 0 Z Try.func90 N90 rfl rfl rfl (fun w P1 hF hB hS hT => impl_Plan_many.calls g0 a0_0 A0_1 c0_1 l0_1.length l0_1 A0_2 c0_2 l0_2.length l0_2 hB hF (hS _ R0_1) hc0_1 (hS _ R0_2) hc0_2 (hS _ B0) hx3)) (fun _ => ?_)
  refine za8 h (fun l4 hm5 h => ?_) rfl
  refine o_e rfl (e_make Kd.bool false Try.underlying108 I4 rfl (by decide) (by decide) (fun _ _ => rfl) rfl rfl hm5) (cur2 (fun A6 c7 => ?_))
  refine o_e rfl (zax V108 rfl) (fun g9 => ?_)
  refine o_e rfl (e_store (i := 0) rfl rfl rfl rfl Z108 rfl rfl) (fun _ => ?_)
  refine o_end ?_
  refine za1 ?_
  refine c_seq ?_
  refine c_seq ?_
  refine za0 ?_
  refine o_q rfl rfl (q_ldb Y99 rfl (fun w h => h.zaa (i := 2) rfl) rfl) ?_
  refine o_q rfl rfl (q_nil rfl) ?_
  refine o_q rfl rfl (q_f F27_2 rfl) ?_
  refine o_q rfl rfl (q_ldb Y25 rfl (fun w h => B0.now Z h) rfl) ?_
  refine o_q rfl rfl (q_len Try.underlying25 rfl) ?_
  refine o_q rfl rfl (za2 rfl) ?_
  refine o_end ?_
  refine za1 ?_
  refine zaj ?_
  refine za8 h (fun o20 hl19 hR18 => ?_) rfl
  clear h
  refine c_fact (p := l0_2.length ≤ 9223372036854775807) (fun w h => (R0_2.now Z h).2.1) (fun hm17 => ?_)
  refine c_loopL (σ := (List Int) × (List Bool) × Int) (fun k15 ((ys14, l11, i12) : (List Int) × (List Bool) × Int) => Rg l0_2 i12 ys14 ∧ ys14.length = k15 ∧ impl_Plan_used.l0 ys14 l11 i12 = some o20) [5, 16, 17, 18, 19, 20, 21, 22, 23] (fun ((ys14, l11, i12) : (List Int) × (List Bool) × Int) => [(16, .int .i64 i12)]) (fun ((ys14, l11, i12) : (List Int) × (List Bool) × Int) => [box g9 108 #[.slice A6 l4.length c7], row Kd.bool 4 (.slice A6 l4.length c7) l11, box g1 99 #[.pointer (some ⟨g0, 0, none⟩)]]) l0_2.length (l0_2, l4, 0) ⟨Rg.start _, rfl, hl19⟩ ⟨rfl, trivial⟩ (fun w h => h) ?_
  refine fun k15 => cur3 (listC (fun l11 i12 U21 hJ_ => ?_) (fun y13 ys14 l11 i12 U21 hJ_ => ?_))
  · skip
    clear hl19
    have hr16 := hJ_.1; have hk22 := hJ_.2.1; have h := hJ_.2.2; clear hJ_
    replace h : impl_Plan_used.l0 [] l11 i12 = some o20 := h
    rw [impl_Plan_used.l0] at h
    refine c_seq ?_
    refine za0 ?_
    refine o_q rfl rfl (q_lss rfl rfl) ?_
    refine o_end ?_
    refine za1 ?_
    refine c_seq ?_
    refine c_false (congrArg Value.bool hr16.ge) ?_
    refine c_exit ?_
    refine za9 ?_
    refine za9 ?_
    have e_ := Option.some.inj h; replace h := hR18; rw [← e_] at h; clear e_
    refine x_hit ?_
    refine za1 ?_
    refine c_seq ?_
    refine c_seq ?_
    refine za0 ?_
    refine o_q rfl rfl (q_ldb Y99 rfl (fun w h => h.zaa (i := 2) rfl) rfl) ?_
    refine o_q rfl rfl (q_nil rfl) ?_
    refine o_q rfl rfl (q_f F27_1 rfl) ?_
    refine o_q rfl rfl (q_ldb Y24 rfl (fun w h => B0.now Z h) rfl) ?_
    refine o_e rfl (zab 0 Z Try.func190 N190 rfl rfl rfl (fun w P1 hF hB hS hT => bkc_Step.calls A0_1 l0_1.length c0_1 hF)) (fun Bs => ?_)
    refine o_end ?_
    refine za1 ?_
    refine zaj ?_
    split at h
    rotate_left
    · cases h
    next hok =>
    obtain ⟨⟨o1, o2, o3, o4, o5⟩, o6⟩ := hok
    have e0_ := Option.some.inj h; clear h
    -- the range
    intro w hw
    have hw1 : Fr w0 ws P0 ([box g9 108 #[.slice A6 l4.length c7], row Kd.bool 4 (.slice A6 l4.length c7) l11, box g1 99 #[.pointer (some ⟨g0, 0, none⟩)]] ++ [box Bs 24 #[.slice A0_1 l0_1.length c0_1]]) w := za6 [1, 2, 3, 0] (by decide) rfl w hw
    obtain ⟨P2, hF2, hst, hbx, hc2, hback⟩ := hw1.here Z
    have hZ2 : Below w0.heap.size w0 w := hF2.bel
    have hBs := Own.box (hbx 0 _ rfl)
    refine wpIn_any (N := ⟨49, [], none⟩) (n := 3) ?_
    refine wp_range (σ := List Bool) (α := BackT l0_1) (fun x => #[Value.int .i64 x.1.1, .agg #[.int .i64 x.1.2.f0, .int .i64 x.1.2.f1]]) (fun _ => rfl) l11 (fun s x => impl_Plan_used.b a0_0 s x.1)
      (fun s => [box g9 108 #[.slice A6 l4.length c7], row Kd.bool 4 (.slice A6 l4.length c7) s, box g1 99 #[.pointer (some ⟨g0, 0, none⟩)]])
      (fun s x q => [box q 89 #[.int .i64 x.1.2.f0, .int .i64 x.1.2.f1], box g9 108 #[.slice A6 l4.length c7], row Kd.bool 4 (.slice A6 l4.length c7) s, box g1 99 #[.pointer (some ⟨g0, 0, none⟩)]])
      (fun x => [(30, .agg #[.int .i64 x.1.2.f0, .int .i64 x.1.2.f1]), (29, .int .i64 x.1.1)]) (fun x q => [(7, .pointer (some ⟨q, 0, none⟩)), (6, .int .i64 x.1.1), (30, .agg #[.int .i64 x.1.2.f0, .int .i64 x.1.2.f1]), (29, .int .i64 x.1.1)])
      rfl (enters9 Try.func222 N222 rfl) hF2 (bk_Step Bs A0_1 c0_1 l0_1 (hst _ R0_1) hBs) ?_ ?_ (fun s x q W P3 W' h => za6 [1, 2, 3] (by decide) rfl _ h) ?_ ?_ ?_
    · intro x
      exact act_zip2
    · intro s s' W h1 h2
      have e1 := h1.row_C (i := 1) rfl
      have e2 := h2.row_C (i := 1) rfl
      exact bool_det (by omega) e1.1 e2.1
    · -- the loop's variables
      intro l s x W P3 Z3 hst3
      refine c_seq ?_
      refine za0 ?_
      refine o_q rfl rfl (q_asg rfl) ?_
      refine o_end ?_
      refine za1 ?_
      refine za0 ?_
      refine o_e rfl (zax V89 rfl) (fun g26 => ?_)
      refine o_e rfl (zao (i := 0) rfl rfl rfl Z89 rfl rfl) (fun _ => ?_)
      refine o_end ?_
      intro w' hw'
      exact ⟨g26, rfl, hw'⟩
    · -- a round
      intro l pre x g26 W P3 Z3 hst3 hlen
      have B0' := hst3 _ (hst _ B0)
      obtain ⟨j, hj1, hj2⟩ := x.2
      have hjl := (List.getElem?_eq_some_iff.1 hj2).1
      have hfl := impl_Plan_used.flen a0_0 pre l11
      obtain ⟨⟨q0, q1⟩, ⟨q2, q3⟩⟩ := o6 x.1.2 (List.mem_of_getElem? hj2)
      generalize pre.foldl (fun s x => impl_Plan_used.b a0_0 s x.1) l11 = s at hfl ⊢
      have hsl : (s.length : Int) = a0_0 + (l0_1.length : Int) := by omega
      have hww : w64 (a0_0 + x.1.1) = a0_0 + x.1.1 := w64_id (by omega)
      have hg29 : gt s (w64 (a0_0 + x.1.1)) = some (s.getD (a0_0 + x.1.1).toNat false) := by rw [hww]; exact gt_getD (by omega) (by omega)
      refine zaj ?_
      refine c_seq ?_
      refine a_start (ds := []) MO rfl ?_
      refine zat 0 rfl rfl rfl (by kernel_rfl) (fun _ _ _ h => h) (fun w h => h) (q_ldb Y108 rfl (fun w h => h.zaa (i := 1) rfl) rfl) ?_
      refine zat 1 rfl rfl rfl (by kernel_rfl) (fun _ _ _ h => h) (fun w h => h) (q_ldb Y99 rfl (fun w h => h.zaa (i := 3) rfl) rfl) ?_
      refine za5 2 rfl rfl rfl (by kernel_rfl) (fun _ _ _ h => h) (q_nil rfl) ?_
      refine za5 3 rfl rfl rfl (by kernel_rfl) (fun _ _ _ h => h) (q_f F27_0 rfl) ?_
      refine zat 4 rfl rfl rfl (by kernel_rfl) (fun _ _ _ h => h) (fun w h => h) (q_ldb Y3 rfl (fun w h => B0'.now Z3 h) rfl) ?_
      refine za5 5 rfl rfl rfl (by kernel_rfl) (fun _ _ _ h => h) (za2 rfl) ?_
      refine za5 6 rfl rfl rfl (by kernel_rfl) (fun _ _ _ h => h) (q_add64 rfl rfl) ?_
      refine a_fact (p := Sh A6 l4.length s.length) (fun w h => f_sh (dk := Kd.bool) h (fun w h => h.zaw (i := 2) rfl)) (fun hq28 => ?_)
      refine za5 7 rfl rfl rfl (by kernel_rfl) (fun _ _ _ h => h) (q_ix Try.underlying108 Z4 rfl rfl hq28 hg29) ?_
      refine zat 8 rfl rfl rfl (by kernel_rfl) (fun _ _ _ h => h) (fun w h => h) (q_lde (off := 0) Y4 rfl rfl (fun w h => h.zaw (i := 2) rfl) hg29 (fun _ _ h => h) rfl) ?_
      refine a_done (by kernel_rfl) ?_
      refine za1 ?_
      refine zau _ rfl (fun hb31 => ?_) (fun hb31 => ?_)
      · skip
        have hg32 := gt_getD q0 (show x.1.2.f0 < (s.length : Int) by omega)
        have hs35 := st_ok q0 (show x.1.2.f0 < (s.length : Int) by omega)
        have hg37 := gt_getD (s := s.set x.1.2.f0.toNat true) q2 (by rw [List.length_set]; omega)
        have hs40 := st_ok (s := s.set x.1.2.f0.toNat true) q2 (by rw [List.length_set]; omega)
        refine a_startS (ds := []) [some 0, some 1, none, some 3] MO rfl ?_
        refine zat 0 rfl rfl rfl (by kernel_rfl) (fun _ _ _ h => h) (fun w h => za7 [some 0, some 1, none, some 3] (by decide) w h rfl) (q_ldb Y108 rfl (fun w h => h.zaa (i := 1) rfl) rfl) ?_
        refine za5 1 rfl rfl rfl (by kernel_rfl) (fun _ _ _ h => h) (q_f F89_0 rfl) ?_
        refine zat 2 rfl rfl rfl (by kernel_rfl) (fun _ _ _ h => h) (fun w h => za7 [some 0, some 1, none, some 3] (by decide) w h rfl) (q_ldb Y3 rfl (fun w h => h.zaa (i := 0) rfl) rfl) ?_
        refine zat 3 rfl rfl rfl (by kernel_rfl) (fun _ _ _ h => h) (fun w h => za7 [some 0, some 1, none, some 3] (by decide) w h rfl) (q_ldb Y108 rfl (fun w h => h.zaa (i := 1) rfl) rfl) ?_
        refine za5 4 rfl rfl rfl (by kernel_rfl) (fun _ _ _ h => h) (q_f F89_1 rfl) ?_
        refine zat 5 rfl rfl rfl (by kernel_rfl) (fun _ _ _ h => h) (fun w h => za7 [some 0, some 1, none, some 3] (by decide) w h rfl) (q_ldb Y3 rfl (fun w h => h.zaa (i := 0) rfl) rfl) ?_
        refine za5 6 rfl rfl rfl (by kernel_rfl) (fun _ _ _ h => h) (q_ix Try.underlying108 Z4 rfl rfl hq28 hg32) ?_
        refine a_one 7 rfl rfl (by kernel_rfl) rfl (e_set (i := 2) rfl rfl rfl Z4 hs35) (fun s w h => za7 [some 0, some 1, none, some 3] (by decide) w h rfl) (fun _ => ?_)
        refine a_fact (p := Sh A6 l4.length (s.set x.1.2.f0.toNat true).length) (fun w h => f_sh (dk := Kd.bool) h (fun w h => h.zaw (i := 2) rfl)) (fun hq36 => ?_)
        refine za5 8 rfl rfl rfl (by kernel_rfl) (fun _ _ _ h => h) (q_ix Try.underlying108 Z4 rfl rfl hq36 hg37) ?_
        refine a_one 9 rfl rfl (by kernel_rfl) rfl (e_set (i := 2) rfl rfl rfl Z4 hs40) (fun s w h => za7 [some 0, some 1, none, some 3] (by decide) w h rfl) (fun _ => ?_)
        refine a_done (by kernel_rfl) ?_
        refine zal ?_
        intro w' hw'
        have ht := za6 [1, 2, 3] (by decide) rfl _ hw'
        have eb : impl_Plan_used.b a0_0 s x.1 = (s.set x.1.2.f0.toNat true).set x.1.2.f1.toNat true := if_pos hb31
        show Fr w0 W P3 _ w'
        rw [eb]
        exact ht
      · skip
        refine zaq ?_
        refine zal ?_
        intro w' hw'
        have ht := za6 [1, 2, 3] (by decide) rfl _ hw'
        have eb : impl_Plan_used.b a0_0 s x.1 = s := if_neg (by rw [hb31]; simp)
        show Fr w0 W P3 _ w'
        rw [eb]
        exact ht
    · -- behind the range
      intro D xs W hD hS hFW hdf
      have hmap : xs.foldl (fun s x => impl_Plan_used.b a0_0 s x.1) l11 = r_1 := by
        rw [← e0_, ← hS, List.foldl_map]
      rw [hmap] at hFW
      obtain ⟨P4, hF4, hst4, _, hc4, hback4⟩ := ((show Fr w0 w P2 ([box g9 108 #[.slice A6 l4.length c7], row Kd.bool 4 (.slice A6 l4.length c7) r_1, box g1 99 #[.pointer (some ⟨g0, 0, none⟩)]] ++ []) W from hFW)).here hZ2
      have hmk : Stable W P4 (fun w => w.heap[D]? = some (.deferred (some []))) := fun W' hk => by
        show W'.heap[D]? = _
        rw [hk.kept.2 D (Array.getElem?_eq_some_iff.1 hdf).1 (fun hp => by
          obtain ⟨cs, q, hcc⟩ := hc4 D hp
          rw [hdf] at hcc
          cases hcc)]
        exact hdf
      have hrl : l4.length = r_1.length := by
        rw [← hmap, impl_Plan_used.flen]
        omega
      have hws : ws.heap.size ≤ D := Nat.le_trans (hw.keptB Z).kept.1 hD
      refine (show X ⟨49, [{ target := .collected D, args := #[] }], none⟩ w0 W P4 .normal _ _ _ from ?_) W hF4
      refine zal ?_
      refine za1 ?_
      refine c_seq ?_
      refine za0 ?_
      refine o_q rfl rfl (q_ldb Y108 rfl (fun w h => h.zaa (i := 0) rfl) rfl) ?_
      refine o_q rfl rfl (q_asg rfl) ?_
      refine o_end ?_
      refine za1 ?_
      refine c_ret ?_
      refine x_mark (D := D) Z hws hmk hF4.bel (fun Ts w' h => hback _ _ (hback4 _ _ h)) ?_
      exact x_r1 (A6, c7) Try.results113 (zaf (v := .slice A6 l4.length c7) rfl) (by (try rw [hrl]); first | done | rfl) (f_pickE (L1 := [box g9 108 #[.slice A6 l4.length c7], row Kd.bool 4 (.slice A6 l4.length c7) r_1, box g1 99 #[.pointer (some ⟨g0, 0, none⟩)]]) rfl [1] (by decide) rfl (by (try rw [hrl]); first | done | rfl))
  · skip
    clear hl19
    have hr16 := hJ_.1; have hk22 := hJ_.2.1; have h := hJ_.2.2; clear hJ_
    replace h : impl_Plan_used.l0 (y13 :: ys14) l11 i12 = some o20 := h
    rw [impl_Plan_used.l0] at h
    refine c_seq ?_
    refine za0 ?_
    refine o_q rfl rfl (q_lss rfl rfl) ?_
    refine o_end ?_
    refine za1 ?_
    refine c_seq ?_
    refine c_true (congrArg Value.bool hr16.lt) ?_
    refine zaq ?_
    refine za1 ?_
    refine c_seq ?_
    refine zaj ?_
    refine c_seq ?_
    refine za0 ?_
    refine o_fact (p := Sh A0_2 l0_2.length l0_2.length) (fun w h => f_sh (dk := (Kd.int .i64)) h (fun w h => R0_2.now Z h)) (fun hq43 => ?_)
    refine o_q rfl rfl (q_ix Try.underlying25 Z3 rfl rfl hq43 hr16.get) ?_
    refine o_q rfl rfl (q_lde (off := 0) Y3 rfl rfl (fun w h => R0_2.now Z h) hr16.get (fun _ _ h => h) rfl) ?_
    refine o_q rfl rfl (q_asg rfl) ?_
    refine o_end ?_
    refine za1 ?_
    refine za0 ?_
    refine o_q rfl rfl (q_ldb Y108 rfl (fun w h => h.zaa (i := 0) rfl) rfl) ?_
    refine o_q rfl rfl (za2 rfl) ?_
    refine o_fact (p := Sh A6 l4.length l11.length) (fun w h => f_sh (dk := Kd.bool) h (fun w h => h.zaw (i := 1) rfl)) (fun hq44 => ?_)
    refine za8 h (fun y46 hg45 h => ?_) rfl
    refine o_q rfl rfl (q_ix Try.underlying108 Z4 rfl rfl hq44 hg45) ?_
    refine za8 h (fun l47 hs48 h => ?_) rfl
    refine o_e rfl (e_set (i := 1) rfl rfl rfl Z4 hs48) (fun _ => ?_)
    refine o_end ?_
    refine zal ?_
    refine za1 ?_
    refine za0 ?_
    refine o_q rfl rfl (q_up rfl rfl (hr16.up hm17)) ?_
    refine o_q rfl rfl (za2 rfl) ?_
    refine o_end ?_
    refine zam ys14.length (ys14, l47, i12 + 1) (by rw [← hk22]; exact Nat.lt_succ_self _) ⟨hr16.step, rfl, h⟩ ⟨rfl, trivial⟩ (fun w h => za6 [0, 1, 2] (by decide) rfl w h) ?_
    repeat (first | exact zad _ _ | refine zah rfl ?_ | refine zae rfl ?_ | refine zai rfl ?_)

/-! ### (*loop.example/g01098/impl.Plan).trimmed: function 110 -/
def impl_Plan_trimmed.l0 (a0_0 : Int) (l1024 : List Bool) : (List SStep) → (List Int) → (List SStep) → Int → Option ((List Int) × (List SStep))
  | [], l2058, l2061, i2064 => some (l2058, l2061)
  | y2065 :: ys2066, l2058, l2061, i2064 => (impl_Plan_many.f a0_0 l2061 []).bind fun _ => (ap l2058 ([w64 (a0_0 + (l2061.length : Int))] : List Int)).bind fun l2086 => (gt l1024 (w64 (a0_0 + i2064))).bind fun y2092 => if y2092 = true then ((gt l2086 y2065.f0).bind fun y2397 => (gt l2086 y2065.f1).bind fun y2696 => (impl_step.f y2397 y2696).bind fun _ => (ap l2061 ([(⟨mn y2397 y2696, mx y2397 y2696⟩ : SStep)] : List SStep)).bind fun l2935 => impl_Plan_trimmed.l0 a0_0 l1024 ys2066 l2086 l2935 (i2064 + 1)) else (impl_Plan_trimmed.l0 a0_0 l1024 ys2066 l2086 l2061 (i2064 + 1))
def impl_Plan_trimmed.f (a0_0 : Int) (l0_1 : List SStep) (l0_2 : List Int) : Option ((List SStep) × (List Int)) := ((impl_Plan_used.f a0_0 l0_1 l0_2).bind fun l1098 => (impl_firsts.f a0_0).bind fun l1698 => some (l1098, l1698)).bind fun (l1024, l1028) => (impl_Plan_trimmed.l0 a0_0 l1024 l0_1 l1028 ([] : List SStep) 0).bind fun (l2058, l2061) => (impl_renamed.f l0_2 l2058).bind fun l2076 => some (l2061, l2076)
set_option maxHeartbeats 600000 in
set_option maxRecDepth 100000 in
theorem impl_Plan_trimmed.calls {w0 ws : World} {P0 : Nat → Prop} (g0 : Nat) (a0_0 : Int) (A0_1 : Option Addr) (c0_1 : Nat) (n0_1 : Nat) (l0_1 : List SStep) (A0_2 : Option Addr) (c0_2 : Nat) (n0_2 : Nat) (l0_2 : List Int) (Z : Below w0.heap.size w0 ws) (hF : Fr w0 ws P0 [] ws) (R0_1 : Stable ws P0 (fun w => Kd.C kStep w A0_1 n0_1 l0_1)) (hc0_1 : n0_1 ≤ c0_1) (R0_2 : Stable ws P0 (fun w => Kd.C (Kd.int .i64) w A0_2 n0_2 l0_2)) (hc0_2 : n0_2 ≤ c0_2) (B0 : Stable ws P0 (fun w => w.heap[g0]? = some (.cells #[.int .i64 a0_0, .slice A0_1 n0_1 c0_1, .slice A0_2 n0_2 c0_2] 27 (0, 0)))) (r_1 : List SStep) (r_4 : List Int) (h : impl_Plan_trimmed.f a0_0 l0_1 l0_2 = some (r_1, r_4)) :
    Calls Try.prog 110 #[.pointer (some ⟨g0, 0, none⟩)] ws (Post1 w0 ws P0 (fun ((q_2, q_3, q_5, q_6) : (Option Addr) × Nat × (Option Addr) × Nat) => .agg #[.int .i64 a0_0, .slice q_2 r_1.length q_3, .slice q_5 r_4.length q_6]) (fun ((q_2, q_3, q_5, q_6) : (Option Addr) × Nat × (Option Addr) × Nat) => [row kStep 89 (.slice q_2 r_1.length q_3) r_1, row (Kd.int .i64) 3 (.slice q_5 r_4.length q_6) r_4])) := by
  unfold impl_Plan_trimmed.f at h
  obtain rfl := (R0_1 ws (KeptB.refl _ _)).1
  obtain rfl := (R0_2 ws (KeptB.refl _ _)).1
  refine enter Try.func110 rfl Try.ntmps110 rfl hF ?_
  refine c_seq ?_
  refine za0 ?_
  refine o_e rfl (zax V27 rfl) (fun g1 => ?_)
  refine o_end ?_
  refine za1 ?_
  refine za8 h (fun o1031 hl1032 hR1033 => ?_) rfl
  clear h
  refine c_cutJ (σ := (List Bool) × (List Int) × (Option Addr) × Nat × Nat × (Option Addr) × Nat) (fun (l1024, l1028, A1025, c1026, g1027, A1029, c1030) => some (l1024, l1028) = some o1031) [3, 4, 5, 8, 9, 10, 11, 12, 13, 14, 15, 16, 17, 18, 19] (fun (l1024, l1028, A1025, c1026, g1027, A1029, c1030) => [(3, .slice A1025 l1024.length c1026), (4, .pointer (some ⟨g1027, 0, none⟩)), (5, .slice A1029 l1028.length c1030)]) (fun (l1024, l1028, A1025, c1026, g1027, A1029, c1030) => [box g1 27 #[.int .i64 0, .slice none 0 0, .slice none 0 0], row Kd.bool 4 (.slice A1025 l1024.length c1026) l1024, box g1027 27 #[.int .i64 a0_0, .slice none 0 0, .slice none 0 0], row (Kd.int .i64) 3 (.slice A1029 l1028.length c1030) l1028]) ?_ ?_
  · skip
    have h := hl1032; clear hl1032
    clear hR1033
    refine za8 h (fun l1098 hx1097 h => ?_) rfl
    refine za8 h (fun l1698 hx1697 h => ?_) rfl
    refine a_start (ds := []) MO rfl ?_
    refine za5 0 rfl rfl rfl (by kernel_rfl) (fun _ _ _ h => h) (za2 rfl) ?_
    refine za5 2 rfl rfl rfl (by kernel_rfl) (fun _ _ _ h => h) (za2 rfl) ?_
    refine za5 3 rfl rfl rfl (by kernel_rfl) (fun _ _ _ h => h) (q_nil rfl) ?_
    refine za5 4 rfl rfl rfl (by kernel_rfl) (fun _ _ _ h => h) (q_f F27_0 rfl) ?_
    refine zat 5 rfl rfl rfl (by kernel_rfl) (fun _ _ _ h => h) (fun w h => h) (q_ldb Y3 rfl (fun w h => B0.now Z h) rfl) ?_
    refine za5 6 rfl rfl rfl (by kernel_rfl) (fun _ _ _ h => h) (q_build (vs := [(0, .int .i64 a0_0)]) (cs := [.int .i64 a0_0, .slice none 0 0, .slice none 0 0]) rfl rfl) ?_
    refine za5 7 rfl rfl rfl (by kernel_rfl) (fun _ _ _ h => h) (za2 rfl) ?_
    refine za5 8 rfl rfl rfl (by kernel_rfl) (fun _ _ _ h => h) (q_nil rfl) ?_
    refine za5 9 rfl rfl rfl (by kernel_rfl) (fun _ _ _ h => h) (q_f F27_0 rfl) ?_
    refine zat 10 rfl rfl rfl (by kernel_rfl) (fun _ _ _ h => h) (fun w h => h) (q_ldb Y3 rfl (fun w h => B0.now Z h) rfl) ?_
    refine a_two 1 12 rfl rfl rfl rfl (by kernel_rfl) rfl rfl (zab 0 Z Try.func113 N113 rfl rfl rfl (fun w P1 hF hB hS hT => impl_Plan_used.calls g0 a0_0 A0_1 c0_1 l0_1.length l0_1 A0_2 c0_2 l0_2.length l0_2 hB hF (hS _ R0_1) hc0_1 (hS _ R0_2) hc0_2 (hS _ B0) _ hx1097)) (fun s w h => za7 [some 1] (by decide) w h rfl) (zax V27 rfl) (fun s w h => za7 [some 1] (by decide) w h rfl) (cur2 (fun A1099 c1100 => ?_)) (fun g1757 => ?_)
    · skip
      refine a_two 11 12 rfl rfl rfl rfl (by kernel_rfl) rfl rfl (zab 0 Z Try.func103 N103 rfl rfl rfl (fun w P1 hF hB hS hT => impl_firsts.calls a0_0 hB hF _ hx1697)) (fun s w h => za7 [some 2] (by decide) w h rfl) (zax V27 rfl) (fun s w h => za7 [some 2] (by decide) w h rfl) (cur2 (fun A1699 c1700 => ?_)) (fun g1757 => ?_)
      · skip
        refine a_one 12 rfl rfl (by kernel_rfl) rfl (zax V27 rfl) (fun s w h => za7 [some 3] (by decide) w h rfl) (fun g1757 => ?_)
        refine za5 13 rfl rfl rfl (by kernel_rfl) (fun _ _ _ h => h) (q_asg rfl) ?_
        refine a_one 14 rfl rfl (by kernel_rfl) rfl (zao (i := 0) rfl rfl rfl Z27 rfl rfl) (fun s w h => za7 [some 3] (by decide) w h rfl) (fun _ => ?_)
        refine za5 15 rfl rfl rfl (by kernel_rfl) (fun _ _ _ h => h) (q_asg rfl) ?_
        refine a_done (by kernel_rfl) ?_
        refine x_meetJ (l1098, l1698, A1099, c1100, g1757, A1699, c1700) h ⟨rfl, rfl, rfl, trivial⟩ (fun w h => za6 [3, 2, 0, 1] (by decide) rfl w h) ?_
        repeat (first | exact zad _ _ | refine zah rfl ?_ | refine zae rfl ?_ | refine zai rfl ?_)
      · skip
        refine a_one 11 rfl rfl (by kernel_rfl) rfl (zab 0 Z Try.func103 N103 rfl rfl rfl (fun w P1 hF hB hS hT => impl_firsts.calls a0_0 hB hF _ hx1697)) (fun s w h => za7 [some 3] (by decide) w h rfl) (cur2 (fun A1699 c1700 => ?_))
        refine za5 13 rfl rfl rfl (by kernel_rfl) (fun _ _ _ h => h) (q_asg rfl) ?_
        refine a_one 14 rfl rfl (by kernel_rfl) rfl (zao (i := 1) rfl rfl rfl Z27 rfl rfl) (fun s w h => za7 [some 3] (by decide) w h rfl) (fun _ => ?_)
        refine za5 15 rfl rfl rfl (by kernel_rfl) (fun _ _ _ h => h) (q_asg rfl) ?_
        refine a_done (by kernel_rfl) ?_
        refine x_meetJ (l1098, l1698, A1099, c1100, g1757, A1699, c1700) h ⟨rfl, rfl, rfl, trivial⟩ (fun w h => za6 [3, 2, 1, 0] (by decide) rfl w h) ?_
        repeat (first | exact zad _ _ | refine zah rfl ?_ | refine zae rfl ?_ | refine zai rfl ?_)
    · skip
      refine a_one 1 rfl rfl (by kernel_rfl) rfl (zab 0 Z Try.func113 N113 rfl rfl rfl (fun w P1 hF hB hS hT => impl_Plan_used.calls g0 a0_0 A0_1 c0_1 l0_1.length l0_1 A0_2 c0_2 l0_2.length l0_2 hB hF (hS _ R0_1) hc0_1 (hS _ R0_2) hc0_2 (hS _ B0) _ hx1097)) (fun s w h => za7 [some 2] (by decide) w h rfl) (cur2 (fun A1099 c1100 => ?_))
      refine a_one 11 rfl rfl (by kernel_rfl) rfl (zab 0 Z Try.func103 N103 rfl rfl rfl (fun w P1 hF hB hS hT => impl_firsts.calls a0_0 hB hF _ hx1697)) (fun s w h => za7 [some 3] (by decide) w h rfl) (cur2 (fun A1699 c1700 => ?_))
      refine za5 13 rfl rfl rfl (by kernel_rfl) (fun _ _ _ h => h) (q_asg rfl) ?_
      refine a_one 14 rfl rfl (by kernel_rfl) rfl (zao (i := 2) rfl rfl rfl Z27 rfl rfl) (fun s w h => za7 [some 3] (by decide) w h rfl) (fun _ => ?_)
      refine za5 15 rfl rfl rfl (by kernel_rfl) (fun _ _ _ h => h) (q_asg rfl) ?_
      refine a_done (by kernel_rfl) ?_
      refine x_meetJ (l1098, l1698, A1099, c1100, g1757, A1699, c1700) h ⟨rfl, rfl, rfl, trivial⟩ (fun w h => za6 [3, 1, 2, 0] (by decide) rfl w h) ?_
      repeat (first | exact zad _ _ | refine zah rfl ?_ | refine zae rfl ?_ | refine zai rfl ?_)
  · skip
    refine (cur7 (fun l1024 l1028 A1025 c1026 g1027 A1029 c1030 => fun U1034 hJ1035 => ?_))
    have e_ := Option.some.inj hJ1035; have h := hR1033; rw [← e_] at h; clear e_ hJ1035 hR1033 hl1032
    refine c_seq ?_
    refine c_seq ?_
    refine za0 ?_
    refine o_q rfl rfl (za2 rfl) ?_
    refine o_q rfl rfl (q_nil rfl) ?_
    refine o_q rfl rfl (q_f F27_1 rfl) ?_
    refine o_q rfl rfl (q_ldb Y24 rfl (fun w h => B0.now Z h) rfl) ?_
    refine o_q rfl rfl (q_len Try.underlying24 rfl) ?_
    refine o_q rfl rfl (za2 rfl) ?_
    refine o_end ?_
    refine za1 ?_
    refine zaj ?_
    refine c_nil kStep 89 ?_
    refine za8 h (fun o2072 hl2071 hR2070 => ?_) rfl
    clear h
    refine c_fact (p := l0_1.length ≤ 9223372036854775807) (fun w h => (R0_1.now Z h).2.1) (fun hm2069 => ?_)
    refine c_loopL (σ := (List SStep) × (List Int) × (List SStep) × Int × (Option Addr) × Nat × (Option Addr) × Nat) (fun k2067 ((ys2066, l2058, l2061, i2064, A2059, c2060, A2062, c2063) : (List SStep) × (List Int) × (List SStep) × Int × (Option Addr) × Nat × (Option Addr) × Nat) => Rg l0_1 i2064 ys2066 ∧ ys2066.length = k2067 ∧ impl_Plan_trimmed.l0 a0_0 l1024 ys2066 l2058 l2061 i2064 = some o2072) [5, 6, 7, 25, 26, 27, 28, 29, 30, 31, 32, 33, 34, 35, 36, 37, 38, 39, 40, 41, 42, 43, 44, 45, 46, 47, 48, 49, 50, 51, 52, 53, 54, 55, 56, 57, 58, 59] (fun ((ys2066, l2058, l2061, i2064, A2059, c2060, A2062, c2063) : (List SStep) × (List Int) × (List SStep) × Int × (Option Addr) × Nat × (Option Addr) × Nat) => [(5, .slice A2059 l2058.length c2060), (25, .int .i64 i2064)]) (fun ((ys2066, l2058, l2061, i2064, A2059, c2060, A2062, c2063) : (List SStep) × (List Int) × (List SStep) × Int × (Option Addr) × Nat × (Option Addr) × Nat) => [row kStep 89 (.slice A2062 l2061.length c2063) l2061, box g1 27 #[.int .i64 0, .slice none 0 0, .slice none 0 0], row Kd.bool 4 (.slice A1025 l1024.length c1026) l1024, box g1027 27 #[.int .i64 a0_0, .slice A2062 l2061.length c2063, .slice none 0 0], row (Kd.int .i64) 3 (.slice A2059 l2058.length c2060) l2058]) l0_1.length (l0_1, l1028, ([] : List SStep), 0, A1029, c1030, none, 0) ⟨Rg.start _, rfl, hl2071⟩ ⟨rfl, rfl, trivial⟩ (fun w h => h) ?_
    refine fun k2067 => cur8 (listC (fun l2058 l2061 i2064 A2059 c2060 A2062 c2063 U2073 hJ_ => ?_) (fun y2065 ys2066 l2058 l2061 i2064 A2059 c2060 A2062 c2063 U2073 hJ_ => ?_))
    · skip
      clear hl2071
      have hr2068 := hJ_.1; have hk2074 := hJ_.2.1; have h := hJ_.2.2; clear hJ_
      replace h : impl_Plan_trimmed.l0 a0_0 l1024 [] l2058 l2061 i2064 = some o2072 := h
      rw [impl_Plan_trimmed.l0] at h
      refine c_seq ?_
      refine za0 ?_
      refine o_q rfl rfl (q_lss rfl rfl) ?_
      refine o_end ?_
      refine za1 ?_
      refine c_seq ?_
      refine c_false (congrArg Value.bool hr2068.ge) ?_
      refine c_exit ?_
      refine za9 ?_
      refine za9 ?_
      have e_ := Option.some.inj h; replace h := hR2070; rw [← e_] at h; clear e_
      refine x_hit ?_
      refine za1 ?_
      refine c_seq ?_
      refine za0 ?_
      refine o_q rfl rfl (za2 rfl) ?_
      refine o_q rfl rfl (q_nil rfl) ?_
      refine o_q rfl rfl (q_f F27_2 rfl) ?_
      refine o_q rfl rfl (q_ldb Y25 rfl (fun w h => B0.now Z h) rfl) ?_
      refine o_q rfl rfl (za2 rfl) ?_
      refine za8 h (fun l2076 hx2075 h => ?_) rfl
      refine o_e rfl (zab 0 Z Try.func92 N92 rfl rfl rfl (fun w P1 hF hB hS hT => impl_renamed.calls A0_2 c0_2 l0_2.length l0_2 A2059 c2060 l2058.length l2058 hB hF (hS _ R0_2) hc0_2 (hT 4 _ rfl).row (hT 4 _ rfl).cap _ hx2075)) (cur2 (fun A2077 c2078 => ?_))
      refine o_q rfl rfl (q_f F27_2 rfl) ?_
      refine o_e rfl (e_store (i := 4) rfl rfl rfl rfl Z25 rfl rfl) (fun _ => ?_)
      refine o_end ?_
      refine za1 ?_
      refine c_seq ?_
      refine za0 ?_
      refine o_q rfl rfl (q_ldB G27 Z27 rfl (fun w h => h.zaa (i := 4) rfl) rfl) ?_
      refine o_e rfl (zao (i := 2) rfl rfl rfl Z27 rfl rfl) (fun _ => ?_)
      refine o_end ?_
      refine za1 ?_
      refine c_ret ?_
      have e0_ := Option.some.inj h; clear h
      have d0_ := (Prod.mk.inj e0_).1; have e1_ := (Prod.mk.inj e0_).2; clear e0_; subst d0_
      subst e1_
      exact x_r1 (A2062, c2063, A2077, c2078) Try.results110 (rv_cell rfl G27 Z27 (fun w h => h.zaa (i := 2) rfl) rfl) rfl (fun w h => za6 [1, 0] (by decide) rfl w h)
    · skip
      clear hl2071
      have hr2068 := hJ_.1; have hk2074 := hJ_.2.1; have h := hJ_.2.2; clear hJ_
      replace h : impl_Plan_trimmed.l0 a0_0 l1024 (y2065 :: ys2066) l2058 l2061 i2064 = some o2072 := h
      rw [impl_Plan_trimmed.l0] at h
      refine c_seq ?_
      refine za0 ?_
      refine o_q rfl rfl (q_lss rfl rfl) ?_
      refine o_end ?_
      refine za1 ?_
      refine c_seq ?_
      refine c_true (congrArg Value.bool hr2068.lt) ?_
      refine zaq ?_
      refine za1 ?_
      refine c_seq ?_
      refine zaj ?_
      refine c_seq ?_
      refine za0 ?_
      refine o_q rfl rfl (za2 rfl) ?_
      refine o_fact (p := Sh A0_1 l0_1.length l0_1.length) (fun w h => f_sh (dk := kStep) h (fun w h => R0_1.now Z h)) (fun hq2079 => ?_)
      refine o_q rfl rfl (q_ix Try.underlying24 Z89 rfl rfl hq2079 hr2068.get) ?_
      refine o_q rfl rfl (q_ldE G89 Z89 rfl rfl (fun w h => R0_1.now Z h) hr2068.get (fun _ _ h => h) rfl) ?_
      refine o_e rfl (zax V89 rfl) (fun g2080 => ?_)
      refine o_q rfl rfl (q_asg rfl) ?_
      refine o_e rfl (zao (i := 0) rfl rfl rfl Z89 rfl rfl) (fun _ => ?_)
      refine o_end ?_
      refine za1 ?_
      refine c_seq ?_
      refine za0 ?_
      refine o_q rfl rfl (za2 rfl) ?_
      refine za8 h (fun _ hx2082 h => ?_) rfl
      refine o_e rfl (zab 0 Z Try.func90 N90 rfl rfl rfl (fun w P1 hF hB hS hT => impl_Plan_many.calls g1027 a0_0 A2062 c2063 l2061.length l2061 none 0 0 [] hB hF (hT 1 _ rfl).row (hT 1 _ rfl).cap (stab_nil _) (Nat.le_refl 0) (hT 4 _ rfl).box hx2082)) (fun _ => ?_)
      refine o_e rfl (e_lit (vs := [(0, .int .i64 (w64 (a0_0 + (l2061.length : Int))))]) (cs := [.int .i64 (w64 (a0_0 + (l2061.length : Int)))]) (Kd.int .i64) ([w64 (a0_0 + (l2061.length : Int))] : List Int) Try.underlying25 I3 (by decide) rfl (by decide) rfl rfl (fun _ _ => Kd.zas _)) (cur2 (fun A2083 c2084 => ?_))
      refine za8 h (fun l2086 ha2087 h => ?_) rfl
      refine o_e rfl (e_app (i := 6) (j := 0) Try.underlying25 I3 rfl (by decide) (by decide) rfl rfl rfl rfl rfl ha2087) (cur2 (fun A2088 c2089 => ?_))
      refine o_q rfl rfl (q_asg rfl) ?_
      refine o_end ?_
      refine za1 ?_
      refine c_seq ?_
      refine za0 ?_
      refine o_q rfl rfl (za2 rfl) ?_
      refine o_q rfl rfl (za2 rfl) ?_
      refine o_q rfl rfl (q_nil rfl) ?_
      refine o_q rfl rfl (q_f F27_0 rfl) ?_
      refine o_q rfl rfl (q_ldb Y3 rfl (fun w h => B0.now Z h) rfl) ?_
      refine o_q rfl rfl (za2 rfl) ?_
      refine o_q rfl rfl (q_add64 rfl rfl) ?_
      refine o_fact (p := Sh A1025 l1024.length l1024.length) (fun w h => f_sh (dk := Kd.bool) h (fun w h => h.zaw (i := 4) rfl)) (fun hq2090 => ?_)
      refine za8 h (fun y2092 hg2091 h => ?_) rfl
      refine o_q rfl rfl (q_ix Try.underlying108 Z4 rfl rfl hq2090 hg2091) ?_
      refine o_q rfl rfl (q_lde (off := 0) Y4 rfl rfl (fun w h => h.zaw (i := 4) rfl) hg2091 (fun _ _ h => h) rfl) ?_
      refine o_end ?_
      refine za1 ?_
      refine zau _ rfl (fun hb2093 => ?_) (fun hb2093 => ?_)
      · skip
        replace h := bb_t hb2093 h
        refine za8 h (fun y2397 hg2396 h => ?_) rfl
        refine za8 h (fun y2696 hg2695 h => ?_) rfl
        refine za8 h (fun _ hx2815 h => ?_) rfl
        refine za8 h (fun l2935 ha2936 h => ?_) rfl
        refine a_startS (ds := []) [none, some 1, none, some 3, some 4, none, some 6] MO rfl ?_
        refine za5 0 rfl rfl rfl (by kernel_rfl) (fun _ _ _ h => h) (q_f F27_1 rfl) ?_
        refine za5 2 rfl rfl rfl (by kernel_rfl) (fun _ _ _ h => h) (za2 rfl) ?_
        refine za5 3 rfl rfl rfl (by kernel_rfl) (fun _ _ _ h => h) (q_f F89_0 rfl) ?_
        refine zat 4 rfl rfl rfl (by kernel_rfl) (fun _ _ _ h => h) (fun w h => za7 [none, some 1, none, some 3, some 4, none, some 6] (by decide) w h rfl) (q_ldb Y3 rfl (fun w h => h.zaa (i := 1) rfl) rfl) ?_
        refine a_fact (p := Sh A2088 l2086.length l2086.length) (fun w h => f_sh (dk := (Kd.int .i64)) h (fun w h => h.zaw (i := 6) rfl)) (fun hq2395 => ?_)
        refine za5 5 rfl rfl rfl (by kernel_rfl) (fun _ _ _ h => h) (q_ix Try.underlying25 Z3 rfl rfl hq2395 hg2396) ?_
        refine zat 6 rfl rfl rfl (by kernel_rfl) (fun _ _ _ h => h) (fun w h => za7 [none, some 1, none, some 3, some 4, none, some 6] (by decide) w h rfl) (q_lde (off := 0) Y3 rfl rfl (fun w h => h.zaw (i := 6) rfl) hg2396 (fun _ _ h => h) rfl) ?_
        refine za5 7 rfl rfl rfl (by kernel_rfl) (fun _ _ _ h => h) (za2 rfl) ?_
        refine za5 8 rfl rfl rfl (by kernel_rfl) (fun _ _ _ h => h) (q_f F89_1 rfl) ?_
        refine zat 9 rfl rfl rfl (by kernel_rfl) (fun _ _ _ h => h) (fun w h => za7 [none, some 1, none, some 3, some 4, none, some 6] (by decide) w h rfl) (q_ldb Y3 rfl (fun w h => h.zaa (i := 1) rfl) rfl) ?_
        refine za5 10 rfl rfl rfl (by kernel_rfl) (fun _ _ _ h => h) (q_ix Try.underlying25 Z3 rfl rfl hq2395 hg2695) ?_
        refine zat 11 rfl rfl rfl (by kernel_rfl) (fun _ _ _ h => h) (fun w h => za7 [none, some 1, none, some 3, some 4, none, some 6] (by decide) w h rfl) (q_lde (off := 0) Y3 rfl rfl (fun w h => h.zaw (i := 6) rfl) hg2695 (fun _ _ h => h) rfl) ?_
        refine a_two 1 12 rfl rfl rfl rfl (by kernel_rfl) rfl rfl (ev_q rfl (q_ldb Y24 rfl (fun w h => h.zaa (i := 5) rfl) rfl)) (fun s w h => za7 [none, some 1, none, some 3, some 4, none, some 6] (by decide) w h rfl) (zab 0 Z Try.func91 N91 rfl rfl rfl (fun w P1 hF hB hS hT => impl_step.calls y2397 y2696 hB hF hx2815)) (fun s w h => za7 [none, some 1, none, some 3, some 4, none, some 6] (by decide) w h rfl) (fun _ => ?_) (fun _ => ?_)
        · skip
          refine a_one 12 rfl rfl (by kernel_rfl) rfl (zab 0 Z Try.func91 N91 rfl rfl rfl (fun w P1 hF hB hS hT => impl_step.calls y2397 y2696 hB hF hx2815)) (fun s w h => za7 [none, some 1, none, some 3, some 4, none, some 6] (by decide) w h rfl) (fun _ => ?_)
          refine a_one 13 rfl rfl (by kernel_rfl) rfl (e_lit (vs := [(0, .agg #[.int .i64 (mn y2397 y2696), .int .i64 (mx y2397 y2696)])]) (cs := [.int .i64 (mn y2397 y2696), .int .i64 (mx y2397 y2696)]) kStep ([(⟨mn y2397 y2696, mx y2397 y2696⟩ : SStep)] : List SStep) Try.underlying24 I89 (by decide) rfl (by decide) rfl rfl (fun _ _ => reps_flat _)) (fun s w h => za7 [none, some 2, none, some 4, some 5, none, some 7] (by decide) w h rfl) (cur2 (fun A2875 c2876 => ?_))
          refine a_one 14 rfl rfl (by kernel_rfl) rfl (e_app (i := 3) (j := 0) Try.underlying24 I89 rfl (by decide) (by decide) rfl rfl rfl rfl rfl ha2936) (fun s w h => za7 [none, some 2, none, some 4, some 5, none, some 7] (by decide) w h rfl) (cur2 (fun A2937 c2938 => ?_))
          refine za5 15 rfl rfl rfl (by kernel_rfl) (fun _ _ _ h => h) (q_f F27_1 rfl) ?_
          refine a_one 16 rfl rfl (by kernel_rfl) rfl (e_store (i := 6) rfl rfl rfl rfl Z24 rfl rfl) (fun s w h => za7 [none, some 2, none, some 4, some 5, none, some 7] (by decide) w h rfl) (fun _ => ?_)
          refine a_done (by kernel_rfl) ?_
          refine zal ?_
          refine za1 ?_
          refine za0 ?_
          refine o_q rfl rfl (q_up rfl rfl (hr2068.up hm2069)) ?_
          refine o_q rfl rfl (za2 rfl) ?_
          refine o_end ?_
          refine zam ys2066.length (ys2066, l2086, l2935, i2064 + 1, A2088, c2089, A2937, c2938) (by rw [← hk2074]; exact Nat.lt_succ_self _) ⟨hr2068.step, rfl, h⟩ ⟨rfl, rfl, trivial⟩ (fun w h => za6 [3, 4, 5, 6, 7] (by decide) rfl w h) ?_
          repeat (first | exact zad _ _ | refine zah rfl ?_ | refine zae rfl ?_ | refine zai rfl ?_)
        · skip
          refine a_two 1 13 rfl rfl rfl rfl (by kernel_rfl) rfl rfl (ev_q rfl (q_ldb Y24 rfl (fun w h => h.zaa (i := 5) rfl) rfl)) (fun s w h => za7 [none, some 1, none, some 3, some 4, none, some 6] (by decide) w h rfl) (e_lit (vs := [(0, .agg #[.int .i64 (mn y2397 y2696), .int .i64 (mx y2397 y2696)])]) (cs := [.int .i64 (mn y2397 y2696), .int .i64 (mx y2397 y2696)]) kStep ([(⟨mn y2397 y2696, mx y2397 y2696⟩ : SStep)] : List SStep) Try.underlying24 I89 (by decide) rfl (by decide) rfl rfl (fun _ _ => reps_flat _)) (fun s w h => za7 [none, some 2, none, some 4, some 5, none, some 7] (by decide) w h rfl) (fun _ => ?_) (cur2 (fun A2875 c2876 => ?_))
          · skip
            refine a_one 13 rfl rfl (by kernel_rfl) rfl (e_lit (vs := [(0, .agg #[.int .i64 (mn y2397 y2696), .int .i64 (mx y2397 y2696)])]) (cs := [.int .i64 (mn y2397 y2696), .int .i64 (mx y2397 y2696)]) kStep ([(⟨mn y2397 y2696, mx y2397 y2696⟩ : SStep)] : List SStep) Try.underlying24 I89 (by decide) rfl (by decide) rfl rfl (fun _ _ => reps_flat _)) (fun s w h => za7 [none, some 2, none, some 4, some 5, none, some 7] (by decide) w h rfl) (cur2 (fun A2875 c2876 => ?_))
            refine a_one 14 rfl rfl (by kernel_rfl) rfl (e_app (i := 3) (j := 0) Try.underlying24 I89 rfl (by decide) (by decide) rfl rfl rfl rfl rfl ha2936) (fun s w h => za7 [none, some 2, none, some 4, some 5, none, some 7] (by decide) w h rfl) (cur2 (fun A2937 c2938 => ?_))
            refine za5 15 rfl rfl rfl (by kernel_rfl) (fun _ _ _ h => h) (q_f F27_1 rfl) ?_
            refine a_one 16 rfl rfl (by kernel_rfl) rfl (e_store (i := 6) rfl rfl rfl rfl Z24 rfl rfl) (fun s w h => za7 [none, some 2, none, some 4, some 5, none, some 7] (by decide) w h rfl) (fun _ => ?_)
            refine a_done (by kernel_rfl) ?_
            refine zal ?_
            refine za1 ?_
            refine za0 ?_
            refine o_q rfl rfl (q_up rfl rfl (hr2068.up hm2069)) ?_
            refine o_q rfl rfl (za2 rfl) ?_
            refine o_end ?_
            refine zam ys2066.length (ys2066, l2086, l2935, i2064 + 1, A2088, c2089, A2937, c2938) (by rw [← hk2074]; exact Nat.lt_succ_self _) ⟨hr2068.step, rfl, h⟩ ⟨rfl, rfl, trivial⟩ (fun w h => za6 [3, 4, 5, 6, 7] (by decide) rfl w h) ?_
            repeat (first | exact zad _ _ | refine zah rfl ?_ | refine zae rfl ?_ | refine zai rfl ?_)
          · skip
            refine a_one 1 rfl rfl (by kernel_rfl) rfl (ev_q rfl (q_ldb Y24 rfl (fun w h => h.zaa (i := 6) rfl) rfl)) (fun s w h => za7 [none, some 2, none, some 4, some 5, none, some 7] (by decide) w h rfl) (fun _ => ?_)
            refine a_one 14 rfl rfl (by kernel_rfl) rfl (e_app (i := 3) (j := 0) Try.underlying24 I89 rfl (by decide) (by decide) rfl rfl rfl rfl rfl ha2936) (fun s w h => za7 [none, some 2, none, some 4, some 5, none, some 7] (by decide) w h rfl) (cur2 (fun A2937 c2938 => ?_))
            refine za5 15 rfl rfl rfl (by kernel_rfl) (fun _ _ _ h => h) (q_f F27_1 rfl) ?_
            refine a_one 16 rfl rfl (by kernel_rfl) rfl (e_store (i := 6) rfl rfl rfl rfl Z24 rfl rfl) (fun s w h => za7 [none, some 2, none, some 4, some 5, none, some 7] (by decide) w h rfl) (fun _ => ?_)
            refine a_done (by kernel_rfl) ?_
            refine zal ?_
            refine za1 ?_
            refine za0 ?_
            refine o_q rfl rfl (q_up rfl rfl (hr2068.up hm2069)) ?_
            refine o_q rfl rfl (za2 rfl) ?_
            refine o_end ?_
            refine zam ys2066.length (ys2066, l2086, l2935, i2064 + 1, A2088, c2089, A2937, c2938) (by rw [← hk2074]; exact Nat.lt_succ_self _) ⟨hr2068.step, rfl, h⟩ ⟨rfl, rfl, trivial⟩ (fun w h => za6 [3, 4, 5, 6, 7] (by decide) rfl w h) ?_
            repeat (first | exact zad _ _ | refine zah rfl ?_ | refine zae rfl ?_ | refine zai rfl ?_)
      · skip
        replace h := bb_f hb2093 h
        refine zaq ?_
        refine zal ?_
        refine za1 ?_
        refine za0 ?_
        refine o_q rfl rfl (q_up rfl rfl (hr2068.up hm2069)) ?_
        refine o_q rfl rfl (za2 rfl) ?_
        refine o_end ?_
        refine zam ys2066.length (ys2066, l2086, l2061, i2064 + 1, A2088, c2089, A2062, c2063) (by rw [← hk2074]; exact Nat.lt_succ_self _) ⟨hr2068.step, rfl, h⟩ ⟨rfl, rfl, trivial⟩ (fun w h => za6 [2, 3, 4, 5, 6] (by decide) rfl w h) ?_
        repeat (first | exact zad _ _ | refine zah rfl ?_ | refine zae rfl ?_ | refine zai rfl ?_)

/-! ### loop.example/g01098/impl.TrimPlan: function 28 -/
def impl_TrimPlan.f (k : Nat) (a0_0 : Int) (l0_1 : List SStep) (l0_2 : List Int) : Option (Int × (List SStep) × (List Int) × Bool) := (impl_IsPlan.f k a0_0 l0_1 l0_2).bind fun b6 => if b6 = true then ((impl_Plan_trimmed.f a0_0 l0_1 l0_2).bind fun (l9, l10) => some (a0_0, l9, l10, true)) else (some (0, ([] : List SStep), ([] : List Int), false))
set_option maxHeartbeats 600000 in
set_option maxRecDepth 100000 in
theorem impl_TrimPlan.calls (k : Nat) {w0 ws : World} {P0 : Nat → Prop} (a0_0 : Int) (A0_1 : Option Addr) (c0_1 : Nat) (n0_1 : Nat) (l0_1 : List SStep) (A0_2 : Option Addr) (c0_2 : Nat) (n0_2 : Nat) (l0_2 : List Int) (Z : Below w0.heap.size w0 ws) (hF : Fr w0 ws P0 [] ws) (R0_1 : Stable ws P0 (fun w => Kd.C kStep w A0_1 n0_1 l0_1)) (hc0_1 : n0_1 ≤ c0_1) (R0_2 : Stable ws P0 (fun w => Kd.C (Kd.int .i64) w A0_2 n0_2 l0_2)) (hc0_2 : n0_2 ≤ c0_2) (r_1 : Int) (r_2 : List SStep) (r_5 : List Int) (r_8 : Bool) (h : impl_TrimPlan.f k a0_0 l0_1 l0_2 = some (r_1, r_2, r_5, r_8)) :
    Calls Try.prog 28 #[.agg #[.int .i64 a0_0, .slice A0_1 n0_1 c0_1, .slice A0_2 n0_2 c0_2]] ws (Post1 w0 ws P0 (fun ((q_3, q_4, q_6, q_7) : (Option Addr) × Nat × (Option Addr) × Nat) => .tuple #[.agg #[.int .i64 r_1, .slice q_3 r_2.length q_4, .slice q_6 r_5.length q_7], .bool r_8]) (fun ((q_3, q_4, q_6, q_7) : (Option Addr) × Nat × (Option Addr) × Nat) => [row kStep 89 (.slice q_3 r_2.length q_4) r_2, row (Kd.int .i64) 3 (.slice q_6 r_5.length q_7) r_5])) := by
  unfold impl_TrimPlan.f at h
  obtain rfl := (R0_1 ws (KeptB.refl _ _)).1
  obtain rfl := (R0_2 ws (KeptB.refl _ _)).1
  refine enter Try.func28 rfl Try.ntmps28 rfl hF ?_
  refine c_seq ?_
  refine za0 ?_
  refine o_e rfl (e_box rfl) (fun g1 => ?_)
  refine o_e rfl (zax V27 rfl) (fun g3 => ?_)
  refine o_q rfl rfl (q_asg rfl) ?_
  refine o_end ?_
  refine za1 ?_
  refine c_seq ?_
  refine c_seq ?_
  refine za0 ?_
  refine o_q rfl rfl (q_ldB G27 Z27 rfl (fun w h => h.zaa (i := 1) rfl) rfl) ?_
  refine za8 h (fun b6 hx5 h => ?_) rfl
  refine o_e rfl (zab 0 Z Try.func86 N86 rfl rfl rfl (fun w P1 hF hB hS hT => impl_IsPlan.calls k a0_0 A0_1 c0_1 l0_1.length l0_1 A0_2 c0_2 l0_2.length l0_2 hB hF (hS _ R0_1) hc0_1 (hS _ R0_2) hc0_2 _ hx5)) (fun _ => ?_)
  refine o_q rfl rfl (q_not rfl) ?_
  refine o_end ?_
  refine za1 ?_
  refine zau _ rfl (fun hb7 => ?_) (fun hb7 => ?_)
  · replace hb7 := nt_t hb7
    replace h := bb_f hb7 h
    refine c_seq ?_
    refine za0 ?_
    refine o_q rfl rfl (q_build (vs := []) (cs := [.int .i64 0, .slice none 0 0, .slice none 0 0]) rfl rfl) ?_
    refine o_e rfl (zao (i := 0) rfl rfl rfl Z27 rfl rfl) (fun _ => ?_)
    refine o_q rfl rfl (q_asg rfl) ?_
    refine o_end ?_
    refine za1 ?_
    refine c_ret ?_
    refine zac ?_
    refine x_nil kStep 89 ?_
    refine x_nil (Kd.int .i64) 3 ?_
    have e0_ := Option.some.inj h; clear h
    have d0_ := (Prod.mk.inj e0_).1; have e1_ := (Prod.mk.inj e0_).2; clear e0_; subst d0_
    have d1_ := (Prod.mk.inj e1_).1; have e2_ := (Prod.mk.inj e1_).2; clear e1_; subst d1_
    have d2_ := (Prod.mk.inj e2_).1; have e3_ := (Prod.mk.inj e2_).2; clear e2_; subst d2_
    subst e3_
    exact x_r2 (none, 0, none, 0) Try.results28 (rv_cell rfl G27 Z27 (fun w h => h.zaa (i := 2) rfl) rfl) (zaf rfl) rfl (fun w h => za6 [1, 0] (by decide) rfl w h)
  · replace hb7 := nt_f hb7
    replace h := bb_t hb7 h
    refine zaq ?_
    refine za1 ?_
    refine c_seq ?_
    refine za0 ?_
    refine bindE2 h (fun l9 l10 hx8 h => ?_) rfl
    refine o_e rfl (zab 0 Z Try.func110 N110 rfl rfl rfl (fun w P1 hF hB hS hT => impl_Plan_trimmed.calls g1 a0_0 A0_1 c0_1 l0_1.length l0_1 A0_2 c0_2 l0_2.length l0_2 hB hF (hS _ R0_1) hc0_1 (hS _ R0_2) hc0_2 (hT 1 _ rfl).box _ _ hx8)) (cur4 (fun A11 c12 A13 c14 => ?_))
    refine o_e rfl (zao (i := 2) rfl rfl rfl Z27 rfl rfl) (fun _ => ?_)
    refine o_q rfl rfl (q_asg rfl) ?_
    refine o_end ?_
    refine za1 ?_
    refine c_ret ?_
    have e0_ := Option.some.inj h; clear h
    have d0_ := (Prod.mk.inj e0_).1; have e1_ := (Prod.mk.inj e0_).2; clear e0_; subst d0_
    have d1_ := (Prod.mk.inj e1_).1; have e2_ := (Prod.mk.inj e1_).2; clear e1_; subst d1_
    have d2_ := (Prod.mk.inj e2_).1; have e3_ := (Prod.mk.inj e2_).2; clear e2_; subst d2_
    subst e3_
    exact x_r2 (A11, c12, A13, c14) Try.results28 (rv_cell rfl G27 Z27 (fun w h => h.zaa (i := 2) rfl) rfl) (zaf rfl) rfl (fun w h => za6 [0, 1] (by decide) rfl w h)

/-! ### loop.example/g01098/laws.FnJoinedPlans: function 4 -/
def laws_FnJoinedPlans.l0 (l7 : List Int) : (List Int) → (List Int) → (List Int) → Int → Option ((List Int) × (List Int))
  | [], l52, l55, i58 => some (l52, l55)
  | y59 :: ys60, l52, l55, i58 => if i58 < (l7.length : Int) then ((ap l52 ([i58] : List Int)).bind fun l133 => laws_FnJoinedPlans.l0 l7 ys60 l133 l55 (i58 + 1)) else ((ap l55 ([i58] : List Int)).bind fun l140 => laws_FnJoinedPlans.l0 l7 ys60 l52 l140 (i58 + 1))
def laws_FnJoinedPlans.f (k : Nat) (l0 : List Int) (l1 : List Int) : Option Bool := (laws_big.f l0 l1).bind fun b2 => if b2 = true then (some true) else ((spec_DrawJoinPlans.f k l0).bind fun (i5, l6, l7, i8, l9, l10) => (impl_JoinPlans.f k i5 l6 l7 i8 l9 l10).bind fun (i24, l25, l26, b27) => (spec_JoinPlans.f k i5 l6 l7 i8 l9 l10).bind fun (i35, l36, l37, b38) => if (b27 != b38) = true then (some false) else ((laws_pSamePlan.f i24 l25 l26 i35 l36 l37).bind fun b47 => if b47 = true then (if b38 = true then ((laws_FnJoinedPlans.l0 l7 l26 ([] : List Int) ([] : List Int) 0).bind fun (l52, l55) => (impl_PickOutputs.f k i24 l25 l26 l52).bind fun (i70, l71, l72, b73) => (impl_PickOutputs.f k i24 l25 l26 l55).bind fun (i81, l82, l83, b84) => (impl_SamePowers.f k i70 l71 l72 i5 l6 l7).bind fun (b92, b93) => (impl_SamePowers.f k i81 l82 l83 i8 l9 l10).bind fun (b95, b96) => (impl_TrimPlan.f k i70 l71 l72).bind fun (i98, l99, l100, b101) => (impl_TrimPlan.f k i5 l6 l7).bind fun (i109, l110, l111, b112) => if b73 = true then (if b84 = true then (if b93 = true then (if b96 = true then (if b101 = true then (if b112 = true then (if b92 = true then (if b95 = true then ((laws_pSamePlan.f i98 l99 l100 i109 l110 l111).bind fun b128 => some b128) else (some false)) else (some false)) else (some false)) else (some false)) else (some false)) else (some false)) else (some false)) else (some false)) else (some true)) else (some false)))
set_option maxHeartbeats 600000 in
set_option maxRecDepth 100000 in
theorem laws_FnJoinedPlans.calls (k : Nat) {w0 ws : World} {P0 : Nat → Prop} (A0 : Option Addr) (c0 : Nat) (n0 : Nat) (l0 : List Int) (A1 : Option Addr) (c1 : Nat) (n1 : Nat) (l1 : List Int) (Z : Below w0.heap.size w0 ws) (hF : Fr w0 ws P0 [] ws) (R0 : Stable ws P0 (fun w => Kd.C (Kd.int .u8) w A0 n0 l0)) (hc0 : n0 ≤ c0) (R1 : Stable ws P0 (fun w => Kd.C (Kd.int .u8) w A1 n1 l1)) (hc1 : n1 ≤ c1) (r_1 : Bool) (h : laws_FnJoinedPlans.f k l0 l1 = some r_1) :
    Calls Try.prog 4 #[.slice A0 n0 c0, .slice A1 n1 c1] ws (Post1 w0 ws P0 (fun (_ : Unit) => .bool r_1) (fun (_ : Unit) => [])) := by
  unfold laws_FnJoinedPlans.f at h
  obtain rfl := (R0 ws (KeptB.refl _ _)).1
  obtain rfl := (R1 ws (KeptB.refl _ _)).1
  refine enter Try.func4 rfl Try.ntmps4 rfl hF ?_
  refine c_seq ?_
  refine za0 ?_
  refine o_q rfl rfl (q_asg rfl) ?_
  refine o_end ?_
  refine za1 ?_
  refine c_seq ?_
  refine c_seq ?_
  refine za0 ?_
  refine o_q rfl rfl (za2 rfl) ?_
  refine o_q rfl rfl (za2 rfl) ?_
  refine za8 h (fun b2 hx1 h => ?_) rfl
  refine o_e rfl (zab 0 Z Try.func13 N13 rfl rfl rfl (fun w P1 hF hB hS hT => laws_big.calls A0 c0 l0.length l0 A1 c1 l1.length l1 hB hF (hS _ R0) hc0 (hS _ R1) hc1 _ hx1)) (fun _ => ?_)
  refine o_end ?_
  refine za1 ?_
  refine zau _ rfl (fun hb3 => ?_) (fun hb3 => ?_)
  · skip
    replace h := bb_t hb3 h
    refine c_seq ?_
    refine za0 ?_
    refine o_q rfl rfl (q_asg rfl) ?_
    refine o_end ?_
    refine za1 ?_
    refine c_ret ?_
    refine zac ?_
    have e0_ := Option.some.inj h; clear h
    subst e0_
    exact x_r1 () Try.results4 (zaf rfl) rfl (fun w h => za6 [] (by decide) rfl w h)
  · skip
    replace h := bb_f hb3 h
    refine zaq ?_
    refine za1 ?_
    refine c_seq ?_
    refine za0 ?_
    refine o_q rfl rfl (za2 rfl) ?_
    refine bindE6 h (fun i5 l6 l7 i8 l9 l10 hx4 h => ?_) rfl
    refine o_e rfl (zab 0 Z Try.func23 N23 rfl rfl rfl (fun w P1 hF hB hS hT => spec_DrawJoinPlans.calls k A0 c0 l0.length l0 hB hF (hS _ R0) hc0 _ _ _ _ _ _ hx4)) (cur8 (fun A11 c12 A13 c14 A15 c16 A17 c18 => ?_))
    refine o_q rfl rfl (za2 rfl) ?_
    refine o_q rfl rfl (q_ext rfl rfl) ?_
    refine o_q rfl rfl (q_ext rfl rfl) ?_
    refine o_e rfl (zax V27 rfl) (fun g19 => ?_)
    refine o_e rfl (zax V27 rfl) (fun g21 => ?_)
    refine o_e rfl (zao (i := 1) rfl rfl rfl Z27 rfl rfl) (fun _ => ?_)
    refine o_e rfl (zao (i := 0) rfl rfl rfl Z27 rfl rfl) (fun _ => ?_)
    refine o_end ?_
    refine za1 ?_
    refine c_seq ?_
    refine za0 ?_
    refine o_q rfl rfl (q_ldB G27 Z27 rfl (fun w h => h.zaa (i := 1) rfl) rfl) ?_
    refine o_q rfl rfl (q_ldB G27 Z27 rfl (fun w h => h.zaa (i := 0) rfl) rfl) ?_
    refine bindE4 h (fun i24 l25 l26 b27 hx23 h => ?_) rfl
    refine o_e rfl (zab 0 Z Try.func24 N24 rfl rfl rfl (fun w P1 hF hB hS hT => impl_JoinPlans.calls k i5 A11 c12 l6.length l6 A13 c14 l7.length l7 i8 A15 c16 l9.length l9 A17 c18 l10.length l10 hB hF (hT 2 _ rfl).row (hT 2 _ rfl).cap (hT 3 _ rfl).row (hT 3 _ rfl).cap (hT 4 _ rfl).row (hT 4 _ rfl).cap (hT 5 _ rfl).row (hT 5 _ rfl).cap _ _ _ _ hx23)) (cur4 (fun A28 c29 A30 c31 => ?_))
    refine o_q rfl rfl (za2 rfl) ?_
    refine o_q rfl rfl (q_ext rfl rfl) ?_
    refine o_q rfl rfl (q_ext rfl rfl) ?_
    refine o_e rfl (zax V27 rfl) (fun g32 => ?_)
    refine o_e rfl (zao (i := 0) rfl rfl rfl Z27 rfl rfl) (fun _ => ?_)
    refine o_q rfl rfl (q_asg rfl) ?_
    refine o_end ?_
    refine za1 ?_
    refine c_seq ?_
    refine za0 ?_
    refine o_q rfl rfl (q_ldB G27 Z27 rfl (fun w h => h.zaa (i := 4) rfl) rfl) ?_
    refine o_q rfl rfl (q_ldB G27 Z27 rfl (fun w h => h.zaa (i := 3) rfl) rfl) ?_
    refine bindE4 h (fun i35 l36 l37 b38 hx34 h => ?_) rfl
    refine o_e rfl (zab 0 Z Try.func25 N25 rfl rfl rfl (fun w P1 hF hB hS hT => spec_JoinPlans.calls k i5 A11 c12 l6.length l6 A13 c14 l7.length l7 i8 A15 c16 l9.length l9 A17 c18 l10.length l10 hB hF (hT 5 _ rfl).row (hT 5 _ rfl).cap (hT 6 _ rfl).row (hT 6 _ rfl).cap (hT 7 _ rfl).row (hT 7 _ rfl).cap (hT 8 _ rfl).row (hT 8 _ rfl).cap _ _ _ _ hx34)) (cur4 (fun A39 c40 A41 c42 => ?_))
    refine o_q rfl rfl (za2 rfl) ?_
    refine o_q rfl rfl (q_ext rfl rfl) ?_
    refine o_q rfl rfl (q_ext rfl rfl) ?_
    refine o_e rfl (zax V27 rfl) (fun g43 => ?_)
    refine o_e rfl (zao (i := 0) rfl rfl rfl Z27 rfl rfl) (fun _ => ?_)
    refine o_q rfl rfl (q_asg rfl) ?_
    refine o_end ?_
    refine za1 ?_
    refine c_seq ?_
    refine c_seq ?_
    refine za0 ?_
    refine o_q rfl rfl (za2 rfl) ?_
    refine o_q rfl rfl (za2 rfl) ?_
    refine o_q rfl rfl (q_bneq Try.underlying4 rfl rfl) ?_
    refine o_q rfl rfl (za2 rfl) ?_
    refine byB (b27 != b38) (fun hb45 => ?_) (fun hb45 => ?_)
    · replace h := bb_t hb45 h
      refine @o_n _ _ _ _ _ _ _ _ _ _ _ 50 (za3 rfl rfl rfl (congrArg Value.bool hb45) rfl) (Eq.refl (some 50)) ?_
      refine @o_n _ _ _ _ _ _ _ _ _ _ _ 51 (za3 rfl rfl rfl (congrArg Value.bool hb45) rfl) (Eq.refl (some 51)) ?_
      refine @o_n _ _ _ _ _ _ _ _ _ _ _ 52 (za3 rfl rfl rfl (congrArg Value.bool hb45) rfl) (Eq.refl (some 52)) ?_
      refine @o_n _ _ _ _ _ _ _ _ _ _ _ 53 (za3 rfl rfl rfl (congrArg Value.bool hb45) rfl) (Eq.refl (some 53)) ?_
      refine o_q rfl rfl (zak true (congrArg Value.bool hb45) rfl) ?_
      refine o_end ?_
      refine za1 ?_
      refine c_true rfl ?_
      refine c_seq ?_
      refine za0 ?_
      refine o_q rfl rfl (q_asg rfl) ?_
      refine o_end ?_
      refine za1 ?_
      refine c_ret ?_
      refine zac ?_
      have e0_ := Option.some.inj h; clear h
      subst e0_
      exact x_r1 () Try.results4 (zaf rfl) rfl (fun w h => za6 [] (by decide) rfl w h)
    · replace h := bb_f hb45 h
      refine o_w (za4 rfl rfl rfl (congrArg Value.bool hb45)) rfl (q_ldB G27 Z27 rfl (fun w h => h.zaa (i := 3) rfl) rfl) ?_
      refine o_w (za4 rfl rfl rfl (congrArg Value.bool hb45)) rfl (q_ldB G27 Z27 rfl (fun w h => h.zaa (i := 0) rfl) rfl) ?_
      refine za8 h (fun b47 hx46 h => ?_) rfl
      refine o_ew (za4 rfl rfl rfl (congrArg Value.bool hb45)) (zab 0 Z Try.func17 N17 rfl rfl rfl (fun w P1 hF hB hS hT => laws_pSamePlan.calls i24 A28 c29 l25.length l25 A30 c31 l26.length l26 i35 A39 c40 l36.length l36 A41 c42 l37.length l37 hB hF (hT 4 _ rfl).row (hT 4 _ rfl).cap (hT 5 _ rfl).row (hT 5 _ rfl).cap (hT 1 _ rfl).row (hT 1 _ rfl).cap (hT 2 _ rfl).row (hT 2 _ rfl).cap _ hx46)) (fun _ => ?_)
      refine o_w (za4 rfl rfl rfl (congrArg Value.bool hb45)) rfl (q_not rfl) ?_
      refine o_q rfl rfl (zak false (congrArg Value.bool hb45) rfl) ?_
      refine o_end ?_
      refine za1 ?_
      refine zau _ rfl (fun hb48 => ?_) (fun hb48 => ?_)
      · replace hb48 := nt_t hb48
        replace h := bb_f hb48 h
        refine c_seq ?_
        refine za0 ?_
        refine o_q rfl rfl (q_asg rfl) ?_
        refine o_end ?_
        refine za1 ?_
        refine c_ret ?_
        refine zac ?_
        have e0_ := Option.some.inj h; clear h
        subst e0_
        exact x_r1 () Try.results4 (zaf rfl) rfl (fun w h => za6 [] (by decide) rfl w h)
      · replace hb48 := nt_f hb48
        replace h := bb_t hb48 h
        refine zaq ?_
        refine za1 ?_
        refine c_seq ?_
        refine c_seq ?_
        refine za0 ?_
        refine o_q rfl rfl (za2 rfl) ?_
        refine o_q rfl rfl (q_not rfl) ?_
        refine o_end ?_
        refine za1 ?_
        refine zau _ rfl (fun hb49 => ?_) (fun hb49 => ?_)
        · replace hb49 := nt_t hb49
          replace h := bb_f hb49 h
          refine c_seq ?_
          refine za0 ?_
          refine o_q rfl rfl (q_asg rfl) ?_
          refine o_end ?_
          refine za1 ?_
          refine c_ret ?_
          refine zac ?_
          have e0_ := Option.some.inj h; clear h
          subst e0_
          exact x_r1 () Try.results4 (zaf rfl) rfl (fun w h => za6 [] (by decide) rfl w h)
        · replace hb49 := nt_f hb49
          replace h := bb_t hb49 h
          refine zaq ?_
          refine za1 ?_
          refine c_seq ?_
          refine za0 ?_
          refine o_q rfl rfl (q_asg rfl) ?_
          refine o_q rfl rfl (q_asg rfl) ?_
          refine o_end ?_
          refine za1 ?_
          refine c_seq ?_
          refine c_seq ?_
          refine za0 ?_
          refine o_q rfl rfl (q_f F27_2 rfl) ?_
          refine o_q rfl rfl (q_ldb Y25 rfl (fun w h => h.zaa (i := 3) rfl) rfl) ?_
          refine o_q rfl rfl (q_len Try.underlying25 rfl) ?_
          refine o_q rfl rfl (za2 rfl) ?_
          refine o_end ?_
          refine za1 ?_
          refine zaj ?_
          refine c_nil (Kd.int .i64) 3 ?_
          refine c_nil (Kd.int .i64) 3 ?_
          refine za8 h (fun o66 hl65 hR64 => ?_) rfl
          clear h
          refine c_fact (p := l26.length ≤ 9223372036854775807) (fun w h => (h.zaw (i := 7) rfl).2.1) (fun hm63 => ?_)
          refine c_loopL (σ := (List Int) × (List Int) × (List Int) × Int × (Option Addr) × Nat × (Option Addr) × Nat) (fun k61 ((ys60, l52, l55, i58, A53, c54, A56, c57) : (List Int) × (List Int) × (List Int) × Int × (Option Addr) × Nat × (Option Addr) × Nat) => Rg l26 i58 ys60 ∧ ys60.length = k61 ∧ laws_FnJoinedPlans.l0 l7 ys60 l52 l55 i58 = some o66) [11, 12, 13, 60, 61, 62, 63, 64, 65, 66, 67, 68, 69, 70, 71, 72, 73, 74, 75, 76] (fun ((ys60, l52, l55, i58, A53, c54, A56, c57) : (List Int) × (List Int) × (List Int) × Int × (Option Addr) × Nat × (Option Addr) × Nat) => [(11, .slice A53 l52.length c54), (12, .slice A56 l55.length c57), (60, .int .i64 i58)]) (fun ((ys60, l52, l55, i58, A53, c54, A56, c57) : (List Int) × (List Int) × (List Int) × Int × (Option Addr) × Nat × (Option Addr) × Nat) => [row (Kd.int .i64) 3 (.slice A56 l55.length c57) l55, row (Kd.int .i64) 3 (.slice A53 l52.length c54) l52, box g43 27 #[.int .i64 i35, .slice A39 l36.length c40, .slice A41 l37.length c42], row kStep 89 (.slice A39 l36.length c40) l36, row (Kd.int .i64) 3 (.slice A41 l37.length c42) l37, box g32 27 #[.int .i64 i24, .slice A28 l25.length c29, .slice A30 l26.length c31], row kStep 89 (.slice A28 l25.length c29) l25, row (Kd.int .i64) 3 (.slice A30 l26.length c31) l26, box g21 27 #[.int .i64 i8, .slice A15 l9.length c16, .slice A17 l10.length c18], box g19 27 #[.int .i64 i5, .slice A11 l6.length c12, .slice A13 l7.length c14], row kStep 89 (.slice A11 l6.length c12) l6, row (Kd.int .i64) 3 (.slice A13 l7.length c14) l7, row kStep 89 (.slice A15 l9.length c16) l9, row (Kd.int .i64) 3 (.slice A17 l10.length c18) l10]) l26.length (l26, ([] : List Int), ([] : List Int), 0, none, 0, none, 0) ⟨Rg.start _, rfl, hl65⟩ ⟨rfl, rfl, rfl, trivial⟩ (fun w h => h) ?_
          refine fun k61 => cur8 (listC (fun l52 l55 i58 A53 c54 A56 c57 U67 hJ_ => ?_) (fun y59 ys60 l52 l55 i58 A53 c54 A56 c57 U67 hJ_ => ?_))
          · skip
            clear hl65
            have hr62 := hJ_.1; have hk68 := hJ_.2.1; have h := hJ_.2.2; clear hJ_
            replace h : laws_FnJoinedPlans.l0 l7 [] l52 l55 i58 = some o66 := h
            rw [laws_FnJoinedPlans.l0] at h
            refine c_seq ?_
            refine za0 ?_
            refine o_q rfl rfl (q_lss rfl rfl) ?_
            refine o_end ?_
            refine za1 ?_
            refine c_seq ?_
            refine c_false (congrArg Value.bool hr62.ge) ?_
            refine c_exit ?_
            refine za9 ?_
            refine za9 ?_
            have e_ := Option.some.inj h; replace h := hR64; rw [← e_] at h; clear e_
            refine x_hit ?_
            refine za1 ?_
            refine c_seq ?_
            refine za0 ?_
            refine o_q rfl rfl (q_ldB G27 Z27 rfl (fun w h => h.zaa (i := 5) rfl) rfl) ?_
            refine o_q rfl rfl (za2 rfl) ?_
            refine bindE4 h (fun i70 l71 l72 b73 hx69 h => ?_) rfl
            refine o_e rfl (zab 0 Z Try.func26 N26 rfl rfl rfl (fun w P1 hF hB hS hT => impl_PickOutputs.calls k i24 A28 c29 l25.length l25 A30 c31 l26.length l26 A53 c54 l52.length l52 hB hF (hT 6 _ rfl).row (hT 6 _ rfl).cap (hT 7 _ rfl).row (hT 7 _ rfl).cap (hT 1 _ rfl).row (hT 1 _ rfl).cap _ _ _ _ hx69)) (cur4 (fun A74 c75 A76 c77 => ?_))
            refine o_q rfl rfl (za2 rfl) ?_
            refine o_q rfl rfl (q_ext rfl rfl) ?_
            refine o_q rfl rfl (q_ext rfl rfl) ?_
            refine o_e rfl (zax V27 rfl) (fun g78 => ?_)
            refine o_e rfl (zao (i := 0) rfl rfl rfl Z27 rfl rfl) (fun _ => ?_)
            refine o_q rfl rfl (q_asg rfl) ?_
            refine o_end ?_
            refine za1 ?_
            refine c_seq ?_
            refine za0 ?_
            refine o_q rfl rfl (q_ldB G27 Z27 rfl (fun w h => h.zaa (i := 8) rfl) rfl) ?_
            refine o_q rfl rfl (za2 rfl) ?_
            refine bindE4 h (fun i81 l82 l83 b84 hx80 h => ?_) rfl
            refine o_e rfl (zab 0 Z Try.func26 N26 rfl rfl rfl (fun w P1 hF hB hS hT => impl_PickOutputs.calls k i24 A28 c29 l25.length l25 A30 c31 l26.length l26 A56 c57 l55.length l55 hB hF (hT 9 _ rfl).row (hT 9 _ rfl).cap (hT 10 _ rfl).row (hT 10 _ rfl).cap (hT 3 _ rfl).row (hT 3 _ rfl).cap _ _ _ _ hx80)) (cur4 (fun A85 c86 A87 c88 => ?_))
            refine o_q rfl rfl (za2 rfl) ?_
            refine o_q rfl rfl (q_ext rfl rfl) ?_
            refine o_q rfl rfl (q_ext rfl rfl) ?_
            refine o_e rfl (zax V27 rfl) (fun g89 => ?_)
            refine o_e rfl (zao (i := 0) rfl rfl rfl Z27 rfl rfl) (fun _ => ?_)
            refine o_q rfl rfl (q_asg rfl) ?_
            refine o_end ?_
            refine za1 ?_
            refine c_seq ?_
            refine za0 ?_
            refine o_q rfl rfl (q_ldB G27 Z27 rfl (fun w h => h.zaa (i := 3) rfl) rfl) ?_
            refine o_q rfl rfl (q_ldB G27 Z27 rfl (fun w h => h.zaa (i := 15) rfl) rfl) ?_
            refine bindE2 h (fun b92 b93 hx91 h => ?_) rfl
            refine o_e rfl (zab 0 Z Try.func27 N27 rfl rfl rfl (fun w P1 hF hB hS hT => impl_SamePowers.calls k i70 A74 c75 l71.length l71 A76 c77 l72.length l72 i5 A11 c12 l6.length l6 A13 c14 l7.length l7 hB hF (hT 4 _ rfl).row (hT 4 _ rfl).cap (hT 5 _ rfl).row (hT 5 _ rfl).cap (hT 16 _ rfl).row (hT 16 _ rfl).cap (hT 17 _ rfl).row (hT 17 _ rfl).cap _ _ hx91)) (fun _ => ?_)
            refine o_q rfl rfl (za2 rfl) ?_
            refine o_q rfl rfl (q_ext rfl rfl) ?_
            refine o_q rfl rfl (q_ext rfl rfl) ?_
            refine o_q rfl rfl (q_asg rfl) ?_
            refine o_q rfl rfl (q_asg rfl) ?_
            refine o_end ?_
            refine za1 ?_
            refine c_seq ?_
            refine za0 ?_
            refine o_q rfl rfl (q_ldB G27 Z27 rfl (fun w h => h.zaa (i := 0) rfl) rfl) ?_
            refine o_q rfl rfl (q_ldB G27 Z27 rfl (fun w h => h.zaa (i := 14) rfl) rfl) ?_
            refine bindE2 h (fun b95 b96 hx94 h => ?_) rfl
            refine o_e rfl (zab 0 Z Try.func27 N27 rfl rfl rfl (fun w P1 hF hB hS hT => impl_SamePowers.calls k i81 A85 c86 l82.length l82 A87 c88 l83.length l83 i8 A15 c16 l9.length l9 A17 c18 l10.length l10 hB hF (hT 1 _ rfl).row (hT 1 _ rfl).cap (hT 2 _ rfl).row (hT 2 _ rfl).cap (hT 18 _ rfl).row (hT 18 _ rfl).cap (hT 19 _ rfl).row (hT 19 _ rfl).cap _ _ hx94)) (fun _ => ?_)
            refine o_q rfl rfl (za2 rfl) ?_
            refine o_q rfl rfl (q_ext rfl rfl) ?_
            refine o_q rfl rfl (q_ext rfl rfl) ?_
            refine o_q rfl rfl (q_asg rfl) ?_
            refine o_q rfl rfl (q_asg rfl) ?_
            refine o_end ?_
            refine za1 ?_
            refine c_seq ?_
            refine za0 ?_
            refine o_q rfl rfl (q_ldB G27 Z27 rfl (fun w h => h.zaa (i := 3) rfl) rfl) ?_
            refine bindE4 h (fun i98 l99 l100 b101 hx97 h => ?_) rfl
            refine o_e rfl (zab 0 Z Try.func28 N28 rfl rfl rfl (fun w P1 hF hB hS hT => impl_TrimPlan.calls k i70 A74 c75 l71.length l71 A76 c77 l72.length l72 hB hF (hT 4 _ rfl).row (hT 4 _ rfl).cap (hT 5 _ rfl).row (hT 5 _ rfl).cap _ _ _ _ hx97)) (cur4 (fun A102 c103 A104 c105 => ?_))
            refine o_q rfl rfl (za2 rfl) ?_
            refine o_q rfl rfl (q_ext rfl rfl) ?_
            refine o_q rfl rfl (q_ext rfl rfl) ?_
            refine o_e rfl (zax V27 rfl) (fun g106 => ?_)
            refine o_e rfl (zao (i := 0) rfl rfl rfl Z27 rfl rfl) (fun _ => ?_)
            refine o_q rfl rfl (q_asg rfl) ?_
            refine o_end ?_
            refine za1 ?_
            refine c_seq ?_
            refine za0 ?_
            refine o_q rfl rfl (q_ldB G27 Z27 rfl (fun w h => h.zaa (i := 18) rfl) rfl) ?_
            refine bindE4 h (fun i109 l110 l111 b112 hx108 h => ?_) rfl
            refine o_e rfl (zab 0 Z Try.func28 N28 rfl rfl rfl (fun w P1 hF hB hS hT => impl_TrimPlan.calls k i5 A11 c12 l6.length l6 A13 c14 l7.length l7 hB hF (hT 19 _ rfl).row (hT 19 _ rfl).cap (hT 20 _ rfl).row (hT 20 _ rfl).cap _ _ _ _ hx108)) (cur4 (fun A113 c114 A115 c116 => ?_))
            refine o_q rfl rfl (za2 rfl) ?_
            refine o_q rfl rfl (q_ext rfl rfl) ?_
            refine o_q rfl rfl (q_ext rfl rfl) ?_
            refine o_e rfl (zax V27 rfl) (fun g117 => ?_)
            refine o_e rfl (zao (i := 0) rfl rfl rfl Z27 rfl rfl) (fun _ => ?_)
            refine o_q rfl rfl (q_asg rfl) ?_
            refine o_end ?_
            refine za1 ?_
            refine c_seq ?_
            refine za0 ?_
            refine o_q rfl rfl (za2 rfl) ?_
            refine o_q rfl rfl (za2 rfl) ?_
            refine byB b73 (fun hb119 => ?_) (fun hb119 => ?_)
            · replace h := bb_t hb119 h
              refine o_w (za4 rfl rfl rfl (congrArg Value.bool hb119)) rfl (za2 rfl) ?_
              refine o_q rfl rfl (zak true (congrArg Value.bool hb119) rfl) ?_
              refine o_q rfl rfl (za2 rfl) ?_
              refine byB b84 (fun hb120 => ?_) (fun hb120 => ?_)
              · replace h := bb_t hb120 h
                refine o_w (za4 rfl rfl rfl (congrArg Value.bool hb120)) rfl (za2 rfl) ?_
                refine o_q rfl rfl (zak true (congrArg Value.bool hb120) rfl) ?_
                refine o_q rfl rfl (za2 rfl) ?_
                refine byB b93 (fun hb121 => ?_) (fun hb121 => ?_)
                · replace h := bb_t hb121 h
                  refine o_w (za4 rfl rfl rfl (congrArg Value.bool hb121)) rfl (za2 rfl) ?_
                  refine o_q rfl rfl (zak true (congrArg Value.bool hb121) rfl) ?_
                  refine o_q rfl rfl (za2 rfl) ?_
                  refine byB b96 (fun hb122 => ?_) (fun hb122 => ?_)
                  · replace h := bb_t hb122 h
                    refine o_w (za4 rfl rfl rfl (congrArg Value.bool hb122)) rfl (za2 rfl) ?_
                    refine o_q rfl rfl (zak true (congrArg Value.bool hb122) rfl) ?_
                    refine o_q rfl rfl (za2 rfl) ?_
                    refine byB b101 (fun hb123 => ?_) (fun hb123 => ?_)
                    · replace h := bb_t hb123 h
                      refine o_w (za4 rfl rfl rfl (congrArg Value.bool hb123)) rfl (za2 rfl) ?_
                      refine o_q rfl rfl (zak true (congrArg Value.bool hb123) rfl) ?_
                      refine o_q rfl rfl (za2 rfl) ?_
                      refine byB b112 (fun hb124 => ?_) (fun hb124 => ?_)
                      · replace h := bb_t hb124 h
                        refine o_w (za4 rfl rfl rfl (congrArg Value.bool hb124)) rfl (za2 rfl) ?_
                        refine o_q rfl rfl (zak true (congrArg Value.bool hb124) rfl) ?_
                        refine o_q rfl rfl (za2 rfl) ?_
                        refine byB b92 (fun hb125 => ?_) (fun hb125 => ?_)
                        · replace h := bb_t hb125 h
                          refine o_w (za4 rfl rfl rfl (congrArg Value.bool hb125)) rfl (za2 rfl) ?_
                          refine o_q rfl rfl (zak true (congrArg Value.bool hb125) rfl) ?_
                          refine o_q rfl rfl (za2 rfl) ?_
                          refine byB b95 (fun hb126 => ?_) (fun hb126 => ?_)
                          · replace h := bb_t hb126 h
                            refine o_w (za4 rfl rfl rfl (congrArg Value.bool hb126)) rfl (q_ldB G27 Z27 rfl (fun w h => h.zaa (i := 3) rfl) rfl) ?_
                            refine o_w (za4 rfl rfl rfl (congrArg Value.bool hb126)) rfl (q_ldB G27 Z27 rfl (fun w h => h.zaa (i := 0) rfl) rfl) ?_
                            refine za8 h (fun b128 hx127 h => ?_) rfl
                            refine o_ew (za4 rfl rfl rfl (congrArg Value.bool hb126)) (zab 0 Z Try.func17 N17 rfl rfl rfl (fun w P1 hF hB hS hT => laws_pSamePlan.calls i98 A102 c103 l99.length l99 A104 c105 l100.length l100 i109 A113 c114 l110.length l110 A115 c116 l111.length l111 hB hF (hT 4 _ rfl).row (hT 4 _ rfl).cap (hT 5 _ rfl).row (hT 5 _ rfl).cap (hT 1 _ rfl).row (hT 1 _ rfl).cap (hT 2 _ rfl).row (hT 2 _ rfl).cap _ hx127)) (fun _ => ?_)
                            refine o_q rfl rfl (zak true (congrArg Value.bool hb126) rfl) ?_
                            refine o_q rfl rfl (q_asg rfl) ?_
                            refine o_end ?_
                            refine za1 ?_
                            refine c_ret ?_
                            have e0_ := Option.some.inj h; clear h
                            subst e0_
                            exact x_r1 () Try.results4 (zaf rfl) rfl (fun w h => za6 [] (by decide) rfl w h)
                          · replace h := bb_f hb126 h
                            refine @o_n _ _ _ _ _ _ _ _ _ _ _ 134 (za3 rfl rfl rfl (congrArg Value.bool hb126) rfl) (Eq.refl (some 134)) ?_
                            refine @o_n _ _ _ _ _ _ _ _ _ _ _ 135 (za3 rfl rfl rfl (congrArg Value.bool hb126) rfl) (Eq.refl (some 135)) ?_
                            refine @o_n _ _ _ _ _ _ _ _ _ _ _ 136 (za3 rfl rfl rfl (congrArg Value.bool hb126) rfl) (Eq.refl (some 136)) ?_
                            refine o_q rfl rfl (zak false (congrArg Value.bool hb126) rfl) ?_
                            refine o_q rfl rfl (q_asg rfl) ?_
                            refine o_end ?_
                            refine za1 ?_
                            refine c_ret ?_
                            have e0_ := Option.some.inj h; clear h
                            subst e0_
                            exact x_r1 () Try.results4 (zaf rfl) rfl (fun w h => za6 [] (by decide) rfl w h)
                        · replace h := bb_f hb125 h
                          refine @o_n _ _ _ _ _ _ _ _ _ _ _ 131 (za3 rfl rfl rfl (congrArg Value.bool hb125) rfl) (Eq.refl (some 131)) ?_
                          refine o_q rfl rfl (zak false (congrArg Value.bool hb125) rfl) ?_
                          refine o_q rfl rfl (za2 rfl) ?_
                          refine @o_n _ _ _ _ _ _ _ _ _ _ _ 134 (za3 rfl rfl rfl rfl rfl) (Eq.refl (some 134)) ?_
                          refine @o_n _ _ _ _ _ _ _ _ _ _ _ 135 (za3 rfl rfl rfl rfl rfl) (Eq.refl (some 135)) ?_
                          refine @o_n _ _ _ _ _ _ _ _ _ _ _ 136 (za3 rfl rfl rfl rfl rfl) (Eq.refl (some 136)) ?_
                          refine o_q rfl rfl (zak false rfl rfl) ?_
                          refine o_q rfl rfl (q_asg rfl) ?_
                          refine o_end ?_
                          refine za1 ?_
                          refine c_ret ?_
                          have e0_ := Option.some.inj h; clear h
                          subst e0_
                          exact x_r1 () Try.results4 (zaf rfl) rfl (fun w h => za6 [] (by decide) rfl w h)
                      · replace h := bb_f hb124 h
                        refine @o_n _ _ _ _ _ _ _ _ _ _ _ 128 (za3 rfl rfl rfl (congrArg Value.bool hb124) rfl) (Eq.refl (some 128)) ?_
                        refine o_q rfl rfl (zak false (congrArg Value.bool hb124) rfl) ?_
                        refine o_q rfl rfl (za2 rfl) ?_
                        refine @o_n _ _ _ _ _ _ _ _ _ _ _ 131 (za3 rfl rfl rfl rfl rfl) (Eq.refl (some 131)) ?_
                        refine o_q rfl rfl (zak false rfl rfl) ?_
                        refine o_q rfl rfl (za2 rfl) ?_
                        refine @o_n _ _ _ _ _ _ _ _ _ _ _ 134 (za3 rfl rfl rfl rfl rfl) (Eq.refl (some 134)) ?_
                        refine @o_n _ _ _ _ _ _ _ _ _ _ _ 135 (za3 rfl rfl rfl rfl rfl) (Eq.refl (some 135)) ?_
                        refine @o_n _ _ _ _ _ _ _ _ _ _ _ 136 (za3 rfl rfl rfl rfl rfl) (Eq.refl (some 136)) ?_
                        refine o_q rfl rfl (zak false rfl rfl) ?_
                        refine o_q rfl rfl (q_asg rfl) ?_
                        refine o_end ?_
                        refine za1 ?_
                        refine c_ret ?_
                        have e0_ := Option.some.inj h; clear h
                        subst e0_
                        exact x_r1 () Try.results4 (zaf rfl) rfl (fun w h => za6 [] (by decide) rfl w h)
                    · replace h := bb_f hb123 h
                      refine @o_n _ _ _ _ _ _ _ _ _ _ _ 125 (za3 rfl rfl rfl (congrArg Value.bool hb123) rfl) (Eq.refl (some 125)) ?_
                      refine o_q rfl rfl (zak false (congrArg Value.bool hb123) rfl) ?_
                      refine o_q rfl rfl (za2 rfl) ?_
                      refine @o_n _ _ _ _ _ _ _ _ _ _ _ 128 (za3 rfl rfl rfl rfl rfl) (Eq.refl (some 128)) ?_
                      refine o_q rfl rfl (zak false rfl rfl) ?_
                      refine o_q rfl rfl (za2 rfl) ?_
                      refine @o_n _ _ _ _ _ _ _ _ _ _ _ 131 (za3 rfl rfl rfl rfl rfl) (Eq.refl (some 131)) ?_
                      refine o_q rfl rfl (zak false rfl rfl) ?_
                      refine o_q rfl rfl (za2 rfl) ?_
                      refine @o_n _ _ _ _ _ _ _ _ _ _ _ 134 (za3 rfl rfl rfl rfl rfl) (Eq.refl (some 134)) ?_
                      refine @o_n _ _ _ _ _ _ _ _ _ _ _ 135 (za3 rfl rfl rfl rfl rfl) (Eq.refl (some 135)) ?_
                      refine @o_n _ _ _ _ _ _ _ _ _ _ _ 136 (za3 rfl rfl rfl rfl rfl) (Eq.refl (some 136)) ?_
                      refine o_q rfl rfl (zak false rfl rfl) ?_
                      refine o_q rfl rfl (q_asg rfl) ?_
                      refine o_end ?_
                      refine za1 ?_
                      refine c_ret ?_
                      have e0_ := Option.some.inj h; clear h
                      subst e0_
                      exact x_r1 () Try.results4 (zaf rfl) rfl (fun w h => za6 [] (by decide) rfl w h)
                  · replace h := bb_f hb122 h
                    refine @o_n _ _ _ _ _ _ _ _ _ _ _ 122 (za3 rfl rfl rfl (congrArg Value.bool hb122) rfl) (Eq.refl (some 122)) ?_
                    refine o_q rfl rfl (zak false (congrArg Value.bool hb122) rfl) ?_
                    refine o_q rfl rfl (za2 rfl) ?_
                    refine @o_n _ _ _ _ _ _ _ _ _ _ _ 125 (za3 rfl rfl rfl rfl rfl) (Eq.refl (some 125)) ?_
                    refine o_q rfl rfl (zak false rfl rfl) ?_
                    refine o_q rfl rfl (za2 rfl) ?_
                    refine @o_n _ _ _ _ _ _ _ _ _ _ _ 128 (za3 rfl rfl rfl rfl rfl) (Eq.refl (some 128)) ?_
                    refine o_q rfl rfl (zak false rfl rfl) ?_
                    refine o_q rfl rfl (za2 rfl) ?_
                    refine @o_n _ _ _ _ _ _ _ _ _ _ _ 131 (za3 rfl rfl rfl rfl rfl) (Eq.refl (some 131)) ?_
                    refine o_q rfl rfl (zak false rfl rfl) ?_
                    refine o_q rfl rfl (za2 rfl) ?_
                    refine @o_n _ _ _ _ _ _ _ _ _ _ _ 134 (za3 rfl rfl rfl rfl rfl) (Eq.refl (some 134)) ?_
                    refine @o_n _ _ _ _ _ _ _ _ _ _ _ 135 (za3 rfl rfl rfl rfl rfl) (Eq.refl (some 135)) ?_
                    refine @o_n _ _ _ _ _ _ _ _ _ _ _ 136 (za3 rfl rfl rfl rfl rfl) (Eq.refl (some 136)) ?_
                    refine o_q rfl rfl (zak false rfl rfl) ?_
                    refine o_q rfl rfl (q_asg rfl) ?_
                    refine o_end ?_
                    refine za1 ?_
                    refine c_ret ?_
                    have e0_ := Option.some.inj h; clear h
                    subst e0_
                    exact x_r1 () Try.results4 (zaf rfl) rfl (fun w h => za6 [] (by decide) rfl w h)
                · replace h := bb_f hb121 h
                  refine @o_n _ _ _ _ _ _ _ _ _ _ _ 119 (za3 rfl rfl rfl (congrArg Value.bool hb121) rfl) (Eq.refl (some 119)) ?_
                  refine o_q rfl rfl (zak false (congrArg Value.bool hb121) rfl) ?_
                  refine o_q rfl rfl (za2 rfl) ?_
                  refine @o_n _ _ _ _ _ _ _ _ _ _ _ 122 (za3 rfl rfl rfl rfl rfl) (Eq.refl (some 122)) ?_
                  refine o_q rfl rfl (zak false rfl rfl) ?_
                  refine o_q rfl rfl (za2 rfl) ?_
                  refine @o_n _ _ _ _ _ _ _ _ _ _ _ 125 (za3 rfl rfl rfl rfl rfl) (Eq.refl (some 125)) ?_
                  refine o_q rfl rfl (zak false rfl rfl) ?_
                  refine o_q rfl rfl (za2 rfl) ?_
                  refine @o_n _ _ _ _ _ _ _ _ _ _ _ 128 (za3 rfl rfl rfl rfl rfl) (Eq.refl (some 128)) ?_
                  refine o_q rfl rfl (zak false rfl rfl) ?_
                  refine o_q rfl rfl (za2 rfl) ?_
                  refine @o_n _ _ _ _ _ _ _ _ _ _ _ 131 (za3 rfl rfl rfl rfl rfl) (Eq.refl (some 131)) ?_
                  refine o_q rfl rfl (zak false rfl rfl) ?_
                  refine o_q rfl rfl (za2 rfl) ?_
                  refine @o_n _ _ _ _ _ _ _ _ _ _ _ 134 (za3 rfl rfl rfl rfl rfl) (Eq.refl (some 134)) ?_
                  refine @o_n _ _ _ _ _ _ _ _ _ _ _ 135 (za3 rfl rfl rfl rfl rfl) (Eq.refl (some 135)) ?_
                  refine @o_n _ _ _ _ _ _ _ _ _ _ _ 136 (za3 rfl rfl rfl rfl rfl) (Eq.refl (some 136)) ?_
                  refine o_q rfl rfl (zak false rfl rfl) ?_
                  refine o_q rfl rfl (q_asg rfl) ?_
                  refine o_end ?_
                  refine za1 ?_
                  refine c_ret ?_
                  have e0_ := Option.some.inj h; clear h
                  subst e0_
                  exact x_r1 () Try.results4 (zaf rfl) rfl (fun w h => za6 [] (by decide) rfl w h)
              · replace h := bb_f hb120 h
                refine @o_n _ _ _ _ _ _ _ _ _ _ _ 116 (za3 rfl rfl rfl (congrArg Value.bool hb120) rfl) (Eq.refl (some 116)) ?_
                refine o_q rfl rfl (zak false (congrArg Value.bool hb120) rfl) ?_
                refine o_q rfl rfl (za2 rfl) ?_
                refine @o_n _ _ _ _ _ _ _ _ _ _ _ 119 (za3 rfl rfl rfl rfl rfl) (Eq.refl (some 119)) ?_
                refine o_q rfl rfl (zak false rfl rfl) ?_
                refine o_q rfl rfl (za2 rfl) ?_
                refine @o_n _ _ _ _ _ _ _ _ _ _ _ 122 (za3 rfl rfl rfl rfl rfl) (Eq.refl (some 122)) ?_
                refine o_q rfl rfl (zak false rfl rfl) ?_
                refine o_q rfl rfl (za2 rfl) ?_
                refine @o_n _ _ _ _ _ _ _ _ _ _ _ 125 (za3 rfl rfl rfl rfl rfl) (Eq.refl (some 125)) ?_
                refine o_q rfl rfl (zak false rfl rfl) ?_
                refine o_q rfl rfl (za2 rfl) ?_
                refine @o_n _ _ _ _ _ _ _ _ _ _ _ 128 (za3 rfl rfl rfl rfl rfl) (Eq.refl (some 128)) ?_
                refine o_q rfl rfl (zak false rfl rfl) ?_
                refine o_q rfl rfl (za2 rfl) ?_
                refine @o_n _ _ _ _ _ _ _ _ _ _ _ 131 (za3 rfl rfl rfl rfl rfl) (Eq.refl (some 131)) ?_
                refine o_q rfl rfl (zak false rfl rfl) ?_
                refine o_q rfl rfl (za2 rfl) ?_
                refine @o_n _ _ _ _ _ _ _ _ _ _ _ 134 (za3 rfl rfl rfl rfl rfl) (Eq.refl (some 134)) ?_
                refine @o_n _ _ _ _ _ _ _ _ _ _ _ 135 (za3 rfl rfl rfl rfl rfl) (Eq.refl (some 135)) ?_
                refine @o_n _ _ _ _ _ _ _ _ _ _ _ 136 (za3 rfl rfl rfl rfl rfl) (Eq.refl (some 136)) ?_
                refine o_q rfl rfl (zak false rfl rfl) ?_
                refine o_q rfl rfl (q_asg rfl) ?_
                refine o_end ?_
                refine za1 ?_
                refine c_ret ?_
                have e0_ := Option.some.inj h; clear h
                subst e0_
                exact x_r1 () Try.results4 (zaf rfl) rfl (fun w h => za6 [] (by decide) rfl w h)
            · replace h := bb_f hb119 h
              refine @o_n _ _ _ _ _ _ _ _ _ _ _ 113 (za3 rfl rfl rfl (congrArg Value.bool hb119) rfl) (Eq.refl (some 113)) ?_
              refine o_q rfl rfl (zak false (congrArg Value.bool hb119) rfl) ?_
              refine o_q rfl rfl (za2 rfl) ?_
              refine @o_n _ _ _ _ _ _ _ _ _ _ _ 116 (za3 rfl rfl rfl rfl rfl) (Eq.refl (some 116)) ?_
              refine o_q rfl rfl (zak false rfl rfl) ?_
              refine o_q rfl rfl (za2 rfl) ?_
              refine @o_n _ _ _ _ _ _ _ _ _ _ _ 119 (za3 rfl rfl rfl rfl rfl) (Eq.refl (some 119)) ?_
              refine o_q rfl rfl (zak false rfl rfl) ?_
              refine o_q rfl rfl (za2 rfl) ?_
              refine @o_n _ _ _ _ _ _ _ _ _ _ _ 122 (za3 rfl rfl rfl rfl rfl) (Eq.refl (some 122)) ?_
              refine o_q rfl rfl (zak false rfl rfl) ?_
              refine o_q rfl rfl (za2 rfl) ?_
              refine @o_n _ _ _ _ _ _ _ _ _ _ _ 125 (za3 rfl rfl rfl rfl rfl) (Eq.refl (some 125)) ?_
              refine o_q rfl rfl (zak false rfl rfl) ?_
              refine o_q rfl rfl (za2 rfl) ?_
              refine @o_n _ _ _ _ _ _ _ _ _ _ _ 128 (za3 rfl rfl rfl rfl rfl) (Eq.refl (some 128)) ?_
              refine o_q rfl rfl (zak false rfl rfl) ?_
              refine o_q rfl rfl (za2 rfl) ?_
              refine @o_n _ _ _ _ _ _ _ _ _ _ _ 131 (za3 rfl rfl rfl rfl rfl) (Eq.refl (some 131)) ?_
              refine o_q rfl rfl (zak false rfl rfl) ?_
              refine o_q rfl rfl (za2 rfl) ?_
              refine @o_n _ _ _ _ _ _ _ _ _ _ _ 134 (za3 rfl rfl rfl rfl rfl) (Eq.refl (some 134)) ?_
              refine @o_n _ _ _ _ _ _ _ _ _ _ _ 135 (za3 rfl rfl rfl rfl rfl) (Eq.refl (some 135)) ?_
              refine @o_n _ _ _ _ _ _ _ _ _ _ _ 136 (za3 rfl rfl rfl rfl rfl) (Eq.refl (some 136)) ?_
              refine o_q rfl rfl (zak false rfl rfl) ?_
              refine o_q rfl rfl (q_asg rfl) ?_
              refine o_end ?_
              refine za1 ?_
              refine c_ret ?_
              have e0_ := Option.some.inj h; clear h
              subst e0_
              exact x_r1 () Try.results4 (zaf rfl) rfl (fun w h => za6 [] (by decide) rfl w h)
          · skip
            clear hl65
            have hr62 := hJ_.1; have hk68 := hJ_.2.1; have h := hJ_.2.2; clear hJ_
            replace h : laws_FnJoinedPlans.l0 l7 (y59 :: ys60) l52 l55 i58 = some o66 := h
            rw [laws_FnJoinedPlans.l0] at h
            refine c_seq ?_
            refine za0 ?_
            refine o_q rfl rfl (q_lss rfl rfl) ?_
            refine o_end ?_
            refine za1 ?_
            refine c_seq ?_
            refine c_true (congrArg Value.bool hr62.lt) ?_
            refine zaq ?_
            refine za1 ?_
            refine c_seq ?_
            refine zaj ?_
            refine c_seq ?_
            refine za0 ?_
            refine o_q rfl rfl (za2 rfl) ?_
            refine o_q rfl rfl (q_asg rfl) ?_
            refine o_end ?_
            refine za1 ?_
            refine c_seq ?_
            refine za0 ?_
            refine o_q rfl rfl (za2 rfl) ?_
            refine o_q rfl rfl (q_f F27_2 rfl) ?_
            refine o_q rfl rfl (q_ldb Y25 rfl (fun w h => h.zaa (i := 9) rfl) rfl) ?_
            refine o_q rfl rfl (q_len Try.underlying25 rfl) ?_
            refine o_q rfl rfl (q_lss rfl rfl) ?_
            refine o_end ?_
            refine za1 ?_
            refine zau _ rfl (fun hb129 => ?_) (fun hb129 => ?_)
            · skip
              replace h := br_t hb129 h
              refine za0 ?_
              refine o_q rfl rfl (za2 rfl) ?_
              refine o_q rfl rfl (za2 rfl) ?_
              refine o_e rfl (e_lit (vs := [(0, .int .i64 i58)]) (cs := [.int .i64 i58]) (Kd.int .i64) ([i58] : List Int) Try.underlying25 I3 (by decide) rfl (by decide) rfl rfl (fun _ _ => Kd.zas _)) (cur2 (fun A130 c131 => ?_))
              refine za8 h (fun l133 ha134 h => ?_) rfl
              refine o_e rfl (e_app (i := 2) (j := 0) Try.underlying25 I3 rfl (by decide) (by decide) rfl rfl rfl rfl rfl ha134) (cur2 (fun A135 c136 => ?_))
              refine o_q rfl rfl (q_asg rfl) ?_
              refine o_end ?_
              refine zal ?_
              refine za1 ?_
              refine za0 ?_
              refine o_q rfl rfl (q_up rfl rfl (hr62.up hm63)) ?_
              refine o_q rfl rfl (za2 rfl) ?_
              refine o_end ?_
              refine zam ys60.length (ys60, l133, l55, i58 + 1, A135, c136, A56, c57) (by rw [← hk68]; exact Nat.lt_succ_self _) ⟨hr62.step, rfl, h⟩ ⟨rfl, rfl, rfl, trivial⟩ (fun w h => za6 [1, 2, 3, 4, 5, 6, 7, 8, 9, 10, 11, 12, 13, 14] (by decide) rfl w h) ?_
              repeat (first | exact zad _ _ | refine zah rfl ?_ | refine zae rfl ?_ | refine zai rfl ?_)
            · skip
              replace h := br_f hb129 h
              refine za0 ?_
              refine o_q rfl rfl (za2 rfl) ?_
              refine o_q rfl rfl (za2 rfl) ?_
              refine o_e rfl (e_lit (vs := [(0, .int .i64 i58)]) (cs := [.int .i64 i58]) (Kd.int .i64) ([i58] : List Int) Try.underlying25 I3 (by decide) rfl (by decide) rfl rfl (fun _ _ => Kd.zas _)) (cur2 (fun A137 c138 => ?_))
              refine za8 h (fun l140 ha141 h => ?_) rfl
              refine o_e rfl (e_app (i := 1) (j := 0) Try.underlying25 I3 rfl (by decide) (by decide) rfl rfl rfl rfl rfl ha141) (cur2 (fun A142 c143 => ?_))
              refine o_q rfl rfl (q_asg rfl) ?_
              refine o_end ?_
              refine zal ?_
              refine za1 ?_
              refine za0 ?_
              refine o_q rfl rfl (q_up rfl rfl (hr62.up hm63)) ?_
              refine o_q rfl rfl (za2 rfl) ?_
              refine o_end ?_
              refine zam ys60.length (ys60, l52, l140, i58 + 1, A53, c54, A142, c143) (by rw [← hk68]; exact Nat.lt_succ_self _) ⟨hr62.step, rfl, h⟩ ⟨rfl, rfl, rfl, trivial⟩ (fun w h => za6 [1, 2, 3, 4, 5, 6, 7, 8, 9, 10, 11, 12, 13, 14] (by decide) rfl w h) ?_
              repeat (first | exact zad _ _ | refine zah rfl ?_ | refine zae rfl ?_ | refine zai rfl ?_)

end Go.Proofs.Ytoegbcbdiggbjaa.JP
