import Derived.Test.YtnnlfipcoahcnaaGreatDoorKFnTextsOfPlansG2p2
namespace Go.Proofs.YtnnlfipcoahcnaaGreatDoor.G2
open Go.RowKit Go.Proofs.YtnnlfipcoahcnaaGreatDoor.Frame Go.Proofs.YtnnlfipcoahcnaaGreatDoorW.PrintLast Go.Proofs.YtnnlfipcoahcnaaGreatDoor.Hand
open Go.Proofs.YtnnlfipcoahcnaaGreatDoorW.PrintWords hiding mn mx
set_option linter.unusedVariables false
/-! ### loop.example/g01098/laws.pSameSteps: function 45 -/
def laws_pSameSteps.l0 (l1 : List SStep) : (List SStep) → Int → Option ((Bool) ⊕ (Unit))
  | [], i2 => some (.inr ())
  | y3 :: ys4, i2 => (gt l1 i2).bind fun y16 => if (y3.f0 == y16.f0 && (y3.f1 == y16.f1 && true)) = true then (laws_pSameSteps.l0 l1 ys4 (i2 + 1)) else (some (.inl false))
def laws_pSameSteps.f (l0 : List SStep) (l1 : List SStep) : Option Bool := if (l0.length : Int) ≠ (l1.length : Int) then (some false) else ((laws_pSameSteps.l0 l1 l0 0).bind fun o_ => match o_ with | .inl r_ => some r_ | .inr _ => some true)
set_option maxHeartbeats 600000 in
set_option maxRecDepth 100000 in
theorem laws_pSameSteps.calls {w0 ws : World} {P0 : Nat → Prop} (A0 : Option Addr) (c0 : Nat) (n0 : Nat) (l0 : List SStep) (A1 : Option Addr) (c1 : Nat) (n1 : Nat) (l1 : List SStep) (Z : Below w0.heap.size w0 ws) (hF : Fr w0 ws P0 [] ws) (R0 : Stable ws P0 (fun w => Kd.C kStep w A0 n0 l0)) (hc0 : n0 ≤ c0) (R1 : Stable ws P0 (fun w => Kd.C kStep w A1 n1 l1)) (hc1 : n1 ≤ c1) (r_1 : Bool) (h : laws_pSameSteps.f l0 l1 = some r_1) :
    Calls Tryz.prog 45 #[.slice A0 n0 c0, .slice A1 n1 c1] ws (Post1 w0 ws P0 (fun (_ : Unit) => .bool r_1) (fun (_ : Unit) => [])) := by
  unfold laws_pSameSteps.f at h
  obtain rfl := (R0 ws (KeptB.refl _ _)).1
  obtain rfl := (R1 ws (KeptB.refl _ _)).1
  refine enter Tryz.func45 rfl Tryz.ntmps45 rfl hF ?_
  refine c_seq ?_
  refine za0 ?_
  refine o_q rfl rfl (q_asg rfl) ?_
  refine o_end ?_
  refine za1 ?_
  refine c_seq ?_
  refine c_seq ?_
  refine za0 ?_
  refine o_q rfl rfl (za2 rfl) ?_
  refine o_q rfl rfl (q_len Tryz.underlying24 rfl) ?_
  refine o_q rfl rfl (za2 rfl) ?_
  refine o_q rfl rfl (q_len Tryz.underlying24 rfl) ?_
  refine o_q rfl rfl (q_neq rfl rfl) ?_
  refine o_end ?_
  refine za1 ?_
  refine zaq _ rfl (fun hb1 => ?_) (fun hb1 => ?_)
  · skip
    replace h := br_t hb1 h
    refine c_seq ?_
    refine za0 ?_
    refine o_q rfl rfl (q_asg rfl) ?_
    refine o_end ?_
    refine za1 ?_
    refine c_ret ?_
    refine za8 ?_
    have e0_ := Option.some.inj h; clear h
    subst e0_
    exact x_r1 () Tryz.results45 (zai rfl) rfl (fun w h => za7 [] (by decide) rfl w h)
  · skip
    replace h := br_f hb1 h
    refine zak ?_
    refine za1 ?_
    refine c_seq ?_
    refine c_seq ?_
    refine za0 ?_
    refine o_q rfl rfl (za2 rfl) ?_
    refine o_q rfl rfl (q_len Tryz.underlying24 rfl) ?_
    refine o_q rfl rfl (za2 rfl) ?_
    refine o_end ?_
    refine za1 ?_
    refine zaj ?_
    refine za6 h (fun o10 hl9 hR8 => ?_) rfl
    clear h
    refine c_fact (p := l0.length ≤ 9223372036854775807) (fun w h => (R0.now Z h).2.1) (fun hm7 => ?_)
    refine c_loopL (σ := (List SStep) × Int) (fun k5 ((ys4, i2) : (List SStep) × Int) => Rg l0 i2 ys4 ∧ ys4.length = k5 ∧ laws_pSameSteps.l0 l1 ys4 i2 = some o10) [4, 5, 13, 14, 15, 16, 17, 18, 19, 20, 21, 22, 23, 24, 25] (fun ((ys4, i2) : (List SStep) × Int) => [(13, .int .i64 i2)]) (fun ((ys4, i2) : (List SStep) × Int) => []) l0.length (l0, 0) ⟨Rg.start _, rfl, hl9⟩ ⟨rfl, trivial⟩ (fun w h => h) ?_
    refine fun k5 => cur2 (listC (fun i2 U11 hJ_ => ?_) (fun y3 ys4 i2 U11 hJ_ => ?_))
    · skip
      clear hl9
      have hr6 := hJ_.1; have hk12 := hJ_.2.1; have h := hJ_.2.2; clear hJ_
      replace h : laws_pSameSteps.l0 l1 [] i2 = some o10 := h
      rw [laws_pSameSteps.l0] at h
      refine c_seq ?_
      refine za0 ?_
      refine o_q rfl rfl (q_lss rfl rfl) ?_
      refine o_end ?_
      refine za1 ?_
      refine c_seq ?_
      refine c_false (congrArg Value.bool hr6.ge) ?_
      refine c_exit ?_
      refine zaa ?_
      refine zaa ?_
      have e_ := Option.some.inj h; replace h := hR8; rw [← e_] at h; clear e_
      refine x_hit ?_
      refine za1 ?_
      refine c_seq ?_
      refine za0 ?_
      refine o_q rfl rfl (q_asg rfl) ?_
      refine o_end ?_
      refine za1 ?_
      refine c_ret ?_
      have e0_ := Option.some.inj h; clear h
      subst e0_
      exact x_r1 () Tryz.results45 (zai rfl) rfl (fun w h => za7 [] (by decide) rfl w h)
    · skip
      clear hl9
      have hr6 := hJ_.1; have hk12 := hJ_.2.1; have h := hJ_.2.2; clear hJ_
      replace h : laws_pSameSteps.l0 l1 (y3 :: ys4) i2 = some o10 := h
      rw [laws_pSameSteps.l0] at h
      refine c_seq ?_
      refine za0 ?_
      refine o_q rfl rfl (q_lss rfl rfl) ?_
      refine o_end ?_
      refine za1 ?_
      refine c_seq ?_
      refine c_true (congrArg Value.bool hr6.lt) ?_
      refine zak ?_
      refine za1 ?_
      refine c_seq ?_
      refine zaj ?_
      refine c_seq ?_
      refine za0 ?_
      refine o_q rfl rfl (za2 rfl) ?_
      refine o_q rfl rfl (q_asg rfl) ?_
      refine o_end ?_
      refine za1 ?_
      refine c_seq ?_
      refine a_start (ds := []) MO rfl ?_
      refine za5 0 rfl rfl rfl (by kernel_rfl) (fun _ _ _ h => h) (za2 rfl) ?_
      refine za5 1 rfl rfl rfl (by kernel_rfl) (fun _ _ _ h => h) (za2 rfl) ?_
      refine a_fact (p := Sh A0 l0.length l0.length) (fun w h => f_sh (dk := kStep) h (fun w h => R0.now Z h)) (fun hq13 => ?_)
      refine za5 2 rfl rfl rfl (by kernel_rfl) (fun _ _ _ h => h) (q_ix Tryz.underlying24 Z72 rfl rfl hq13 hr6.get) ?_
      refine a_take 3 rfl rfl rfl (by kernel_rfl) (fun _ _ _ h => h) (fun w h => h) (q_ldE G72 Z72 rfl rfl (fun w h => R0.now Z h) hr6.get (fun _ _ h => h) rfl) ?_
      refine za5 4 rfl rfl rfl (by kernel_rfl) (fun _ _ _ h => h) (za2 rfl) ?_
      refine za5 5 rfl rfl rfl (by kernel_rfl) (fun _ _ _ h => h) (za2 rfl) ?_
      refine a_fact (p := Sh A1 l1.length l1.length) (fun w h => f_sh (dk := kStep) h (fun w h => R1.now Z h)) (fun hq14 => ?_)
      refine za6 h (fun y16 hg15 h => ?_) rfl
      refine za5 6 rfl rfl rfl (by kernel_rfl) (fun _ _ _ h => h) (q_ix Tryz.underlying24 Z72 rfl rfl hq14 hg15) ?_
      refine a_take 7 rfl rfl rfl (by kernel_rfl) (fun _ _ _ h => h) (fun w h => h) (q_ldE G72 Z72 rfl rfl (fun w h => R1.now Z h) hg15 (fun _ _ h => h) rfl) ?_
      refine za5 8 rfl rfl rfl (by kernel_rfl) (fun _ _ _ h => h) (q_aneq E72 O72 P72 (Q72 y3.f0 y3.f1 y16.f0 y16.f1) rfl rfl) ?_
      refine zax (by kernel_rfl) ?_
      refine za1 ?_
      refine zaq _ rfl (fun hb17 => ?_) (fun hb17 => ?_)
      · replace hb17 := nt_t hb17
        replace h := bb_f hb17 h
        refine c_seq ?_
        refine za0 ?_
        refine o_q rfl rfl (q_asg rfl) ?_
        refine o_end ?_
        refine za1 ?_
        refine c_ret ?_
        refine zao ?_
        refine za8 ?_
        refine za8 ?_
        have e_ := Option.some.inj h; replace h := hR8; rw [← e_] at h; clear e_
        refine zao ?_
        refine za8 ?_
        have e0_ := Option.some.inj h; clear h
        subst e0_
        exact x_r1 () Tryz.results45 (zai rfl) rfl (fun w h => za7 [] (by decide) rfl w h)
      · replace hb17 := nt_f hb17
        replace h := bb_t hb17 h
        refine zak ?_
        refine zal ?_
        refine za1 ?_
        refine za0 ?_
        refine o_q rfl rfl (q_up rfl rfl (hr6.up hm7)) ?_
        refine o_q rfl rfl (za2 rfl) ?_
        refine o_end ?_
        refine zam ys4.length (ys4, i2 + 1) (by rw [← hk12]; exact Nat.lt_succ_self _) ⟨hr6.step, rfl, h⟩ ⟨rfl, trivial⟩ (fun w h => za7 [] (by decide) rfl w h) ?_
        repeat (first | exact zac _ _ | refine zaf rfl ?_ | refine zad rfl ?_ | refine zah rfl ?_)

/-! ### loop.example/g01098/laws.pSameInts: function 46 -/
def laws_pSameInts.l0 (l1 : List Int) : (List Int) → Int → Option ((Bool) ⊕ (Unit))
  | [], i2 => some (.inr ())
  | y3 :: ys4, i2 => (gt l1 i2).bind fun y16 => if y3 ≠ y16 then (some (.inl false)) else (laws_pSameInts.l0 l1 ys4 (i2 + 1))
def laws_pSameInts.f (l0 : List Int) (l1 : List Int) : Option Bool := if (l0.length : Int) ≠ (l1.length : Int) then (some false) else ((laws_pSameInts.l0 l1 l0 0).bind fun o_ => match o_ with | .inl r_ => some r_ | .inr _ => some true)
set_option maxHeartbeats 600000 in
set_option maxRecDepth 100000 in
theorem laws_pSameInts.calls {w0 ws : World} {P0 : Nat → Prop} (A0 : Option Addr) (c0 : Nat) (n0 : Nat) (l0 : List Int) (A1 : Option Addr) (c1 : Nat) (n1 : Nat) (l1 : List Int) (Z : Below w0.heap.size w0 ws) (hF : Fr w0 ws P0 [] ws) (R0 : Stable ws P0 (fun w => Kd.C (Kd.int .i64) w A0 n0 l0)) (hc0 : n0 ≤ c0) (R1 : Stable ws P0 (fun w => Kd.C (Kd.int .i64) w A1 n1 l1)) (hc1 : n1 ≤ c1) (r_1 : Bool) (h : laws_pSameInts.f l0 l1 = some r_1) :
    Calls Tryz.prog 46 #[.slice A0 n0 c0, .slice A1 n1 c1] ws (Post1 w0 ws P0 (fun (_ : Unit) => .bool r_1) (fun (_ : Unit) => [])) := by
  unfold laws_pSameInts.f at h
  obtain rfl := (R0 ws (KeptB.refl _ _)).1
  obtain rfl := (R1 ws (KeptB.refl _ _)).1
  refine enter Tryz.func46 rfl Tryz.ntmps46 rfl hF ?_
  refine c_seq ?_
  refine za0 ?_
  refine o_q rfl rfl (q_asg rfl) ?_
  refine o_end ?_
  refine za1 ?_
  refine c_seq ?_
  refine c_seq ?_
  refine za0 ?_
  refine o_q rfl rfl (za2 rfl) ?_
  refine o_q rfl rfl (q_len Tryz.underlying25 rfl) ?_
  refine o_q rfl rfl (za2 rfl) ?_
  refine o_q rfl rfl (q_len Tryz.underlying25 rfl) ?_
  refine o_q rfl rfl (q_neq rfl rfl) ?_
  refine o_end ?_
  refine za1 ?_
  refine zaq _ rfl (fun hb1 => ?_) (fun hb1 => ?_)
  · skip
    replace h := br_t hb1 h
    refine c_seq ?_
    refine za0 ?_
    refine o_q rfl rfl (q_asg rfl) ?_
    refine o_end ?_
    refine za1 ?_
    refine c_ret ?_
    refine za8 ?_
    have e0_ := Option.some.inj h; clear h
    subst e0_
    exact x_r1 () Tryz.results46 (zai rfl) rfl (fun w h => za7 [] (by decide) rfl w h)
  · skip
    replace h := br_f hb1 h
    refine zak ?_
    refine za1 ?_
    refine c_seq ?_
    refine c_seq ?_
    refine za0 ?_
    refine o_q rfl rfl (za2 rfl) ?_
    refine o_q rfl rfl (q_len Tryz.underlying25 rfl) ?_
    refine o_q rfl rfl (za2 rfl) ?_
    refine o_end ?_
    refine za1 ?_
    refine zaj ?_
    refine za6 h (fun o10 hl9 hR8 => ?_) rfl
    clear h
    refine c_fact (p := l0.length ≤ 9223372036854775807) (fun w h => (R0.now Z h).2.1) (fun hm7 => ?_)
    refine c_loopL (σ := (List Int) × Int) (fun k5 ((ys4, i2) : (List Int) × Int) => Rg l0 i2 ys4 ∧ ys4.length = k5 ∧ laws_pSameInts.l0 l1 ys4 i2 = some o10) [4, 5, 13, 14, 15, 16, 17, 18, 19, 20, 21, 22, 23, 24, 25] (fun ((ys4, i2) : (List Int) × Int) => [(13, .int .i64 i2)]) (fun ((ys4, i2) : (List Int) × Int) => []) l0.length (l0, 0) ⟨Rg.start _, rfl, hl9⟩ ⟨rfl, trivial⟩ (fun w h => h) ?_
    refine fun k5 => cur2 (listC (fun i2 U11 hJ_ => ?_) (fun y3 ys4 i2 U11 hJ_ => ?_))
    · skip
      clear hl9
      have hr6 := hJ_.1; have hk12 := hJ_.2.1; have h := hJ_.2.2; clear hJ_
      replace h : laws_pSameInts.l0 l1 [] i2 = some o10 := h
      rw [laws_pSameInts.l0] at h
      refine c_seq ?_
      refine za0 ?_
      refine o_q rfl rfl (q_lss rfl rfl) ?_
      refine o_end ?_
      refine za1 ?_
      refine c_seq ?_
      refine c_false (congrArg Value.bool hr6.ge) ?_
      refine c_exit ?_
      refine zaa ?_
      refine zaa ?_
      have e_ := Option.some.inj h; replace h := hR8; rw [← e_] at h; clear e_
      refine x_hit ?_
      refine za1 ?_
      refine c_seq ?_
      refine za0 ?_
      refine o_q rfl rfl (q_asg rfl) ?_
      refine o_end ?_
      refine za1 ?_
      refine c_ret ?_
      have e0_ := Option.some.inj h; clear h
      subst e0_
      exact x_r1 () Tryz.results46 (zai rfl) rfl (fun w h => za7 [] (by decide) rfl w h)
    · skip
      clear hl9
      have hr6 := hJ_.1; have hk12 := hJ_.2.1; have h := hJ_.2.2; clear hJ_
      replace h : laws_pSameInts.l0 l1 (y3 :: ys4) i2 = some o10 := h
      rw [laws_pSameInts.l0] at h
      refine c_seq ?_
      refine za0 ?_
      refine o_q rfl rfl (q_lss rfl rfl) ?_
      refine o_end ?_
      refine za1 ?_
      refine c_seq ?_
      refine c_true (congrArg Value.bool hr6.lt) ?_
      refine zak ?_
      refine za1 ?_
      refine c_seq ?_
      refine zaj ?_
      refine c_seq ?_
      refine za0 ?_
      refine o_q rfl rfl (za2 rfl) ?_
      refine o_q rfl rfl (q_asg rfl) ?_
      refine o_end ?_
      refine za1 ?_
      refine c_seq ?_
      refine a_start (ds := []) MO rfl ?_
      refine za5 0 rfl rfl rfl (by kernel_rfl) (fun _ _ _ h => h) (za2 rfl) ?_
      refine za5 1 rfl rfl rfl (by kernel_rfl) (fun _ _ _ h => h) (za2 rfl) ?_
      refine a_fact (p := Sh A0 l0.length l0.length) (fun w h => f_sh (dk := (Kd.int .i64)) h (fun w h => R0.now Z h)) (fun hq13 => ?_)
      refine za5 2 rfl rfl rfl (by kernel_rfl) (fun _ _ _ h => h) (q_ix Tryz.underlying25 Z3 rfl rfl hq13 hr6.get) ?_
      refine a_take 3 rfl rfl rfl (by kernel_rfl) (fun _ _ _ h => h) (fun w h => h) (q_lde (off := 0) Y3 rfl rfl (fun w h => R0.now Z h) hr6.get (fun _ _ h => h) rfl) ?_
      refine za5 4 rfl rfl rfl (by kernel_rfl) (fun _ _ _ h => h) (za2 rfl) ?_
      refine za5 5 rfl rfl rfl (by kernel_rfl) (fun _ _ _ h => h) (za2 rfl) ?_
      refine a_fact (p := Sh A1 l1.length l1.length) (fun w h => f_sh (dk := (Kd.int .i64)) h (fun w h => R1.now Z h)) (fun hq14 => ?_)
      refine za6 h (fun y16 hg15 h => ?_) rfl
      refine za5 6 rfl rfl rfl (by kernel_rfl) (fun _ _ _ h => h) (q_ix Tryz.underlying25 Z3 rfl rfl hq14 hg15) ?_
      refine a_take 7 rfl rfl rfl (by kernel_rfl) (fun _ _ _ h => h) (fun w h => h) (q_lde (off := 0) Y3 rfl rfl (fun w h => R1.now Z h) hg15 (fun _ _ h => h) rfl) ?_
      refine za5 8 rfl rfl rfl (by kernel_rfl) (fun _ _ _ h => h) (q_neq rfl rfl) ?_
      refine zax (by kernel_rfl) ?_
      refine za1 ?_
      refine zaq _ rfl (fun hb17 => ?_) (fun hb17 => ?_)
      · skip
        replace h := br_t hb17 h
        refine c_seq ?_
        refine za0 ?_
        refine o_q rfl rfl (q_asg rfl) ?_
        refine o_end ?_
        refine za1 ?_
        refine c_ret ?_
        refine zao ?_
        refine za8 ?_
        refine za8 ?_
        have e_ := Option.some.inj h; replace h := hR8; rw [← e_] at h; clear e_
        refine zao ?_
        refine za8 ?_
        have e0_ := Option.some.inj h; clear h
        subst e0_
        exact x_r1 () Tryz.results46 (zai rfl) rfl (fun w h => za7 [] (by decide) rfl w h)
      · skip
        replace h := br_f hb17 h
        refine zak ?_
        refine zal ?_
        refine za1 ?_
        refine za0 ?_
        refine o_q rfl rfl (q_up rfl rfl (hr6.up hm7)) ?_
        refine o_q rfl rfl (za2 rfl) ?_
        refine o_end ?_
        refine zam ys4.length (ys4, i2 + 1) (by rw [← hk12]; exact Nat.lt_succ_self _) ⟨hr6.step, rfl, h⟩ ⟨rfl, trivial⟩ (fun w h => za7 [] (by decide) rfl w h) ?_
        repeat (first | exact zac _ _ | refine zaf rfl ?_ | refine zad rfl ?_ | refine zah rfl ?_)

/-! ### loop.example/g01098/laws.pSamePlan: function 12 -/
def laws_pSamePlan.f (a0_0 : Int) (l0_1 : List SStep) (l0_2 : List Int) (a1_0 : Int) (l1_1 : List SStep) (l1_2 : List Int) : Option Bool := if a0_0 = a1_0 then ((laws_pSameSteps.f l0_1 l1_1).bind fun b7 => if b7 = true then ((laws_pSameInts.f l0_2 l1_2).bind fun b10 => some b10) else (some false)) else (some false)
set_option maxHeartbeats 600000 in
set_option maxRecDepth 100000 in
theorem laws_pSamePlan.calls {w0 ws : World} {P0 : Nat → Prop} (a0_0 : Int) (A0_1 : Option Addr) (c0_1 : Nat) (n0_1 : Nat) (l0_1 : List SStep) (A0_2 : Option Addr) (c0_2 : Nat) (n0_2 : Nat) (l0_2 : List Int) (a1_0 : Int) (A1_1 : Option Addr) (c1_1 : Nat) (n1_1 : Nat) (l1_1 : List SStep) (A1_2 : Option Addr) (c1_2 : Nat) (n1_2 : Nat) (l1_2 : List Int) (Z : Below w0.heap.size w0 ws) (hF : Fr w0 ws P0 [] ws) (R0_1 : Stable ws P0 (fun w => Kd.C kStep w A0_1 n0_1 l0_1)) (hc0_1 : n0_1 ≤ c0_1) (R0_2 : Stable ws P0 (fun w => Kd.C (Kd.int .i64) w A0_2 n0_2 l0_2)) (hc0_2 : n0_2 ≤ c0_2) (R1_1 : Stable ws P0 (fun w => Kd.C kStep w A1_1 n1_1 l1_1)) (hc1_1 : n1_1 ≤ c1_1) (R1_2 : Stable ws P0 (fun w => Kd.C (Kd.int .i64) w A1_2 n1_2 l1_2)) (hc1_2 : n1_2 ≤ c1_2) (r_1 : Bool) (h : laws_pSamePlan.f a0_0 l0_1 l0_2 a1_0 l1_1 l1_2 = some r_1) :
    Calls Tryz.prog 12 #[.agg #[.int .i64 a0_0, .slice A0_1 n0_1 c0_1, .slice A0_2 n0_2 c0_2], .agg #[.int .i64 a1_0, .slice A1_1 n1_1 c1_1, .slice A1_2 n1_2 c1_2]] ws (Post1 w0 ws P0 (fun (_ : Unit) => .bool r_1) (fun (_ : Unit) => [])) := by
  unfold laws_pSamePlan.f at h
  obtain rfl := (R0_1 ws (KeptB.refl _ _)).1
  obtain rfl := (R0_2 ws (KeptB.refl _ _)).1
  obtain rfl := (R1_1 ws (KeptB.refl _ _)).1
  obtain rfl := (R1_2 ws (KeptB.refl _ _)).1
  refine enter Tryz.func12 rfl Tryz.ntmps12 rfl hF ?_
  refine c_seq ?_
  refine za0 ?_
  refine o_e rfl (e_box rfl) (fun g1 => ?_)
  refine o_e rfl (e_box rfl) (fun g3 => ?_)
  refine o_q rfl rfl (q_asg rfl) ?_
  refine o_end ?_
  refine za1 ?_
  refine c_seq ?_
  refine za0 ?_
  refine o_q rfl rfl (q_f F27_0 rfl) ?_
  refine o_q rfl rfl (q_ldb Y3 rfl (fun w h => h.zae (i := 1) rfl) rfl) ?_
  refine o_q rfl rfl (q_f F27_0 rfl) ?_
  refine o_q rfl rfl (q_ldb Y3 rfl (fun w h => h.zae (i := 0) rfl) rfl) ?_
  refine o_q rfl rfl (q_eql rfl rfl) ?_
  refine o_q rfl rfl (za2 rfl) ?_
  refine byB (decide (a0_0 = a1_0)) (fun hb5 => ?_) (fun hb5 => ?_)
  · replace h := br_t hb5 h
    refine o_w (za4 rfl rfl rfl (congrArg Value.bool hb5)) rfl (q_f F27_1 rfl) ?_
    refine o_w (za4 rfl rfl rfl (congrArg Value.bool hb5)) rfl (q_ldb Y24 rfl (fun w h => h.zae (i := 1) rfl) rfl) ?_
    refine o_w (za4 rfl rfl rfl (congrArg Value.bool hb5)) rfl (q_f F27_1 rfl) ?_
    refine o_w (za4 rfl rfl rfl (congrArg Value.bool hb5)) rfl (q_ldb Y24 rfl (fun w h => h.zae (i := 0) rfl) rfl) ?_
    refine za6 h (fun b7 hx6 h => ?_) rfl
    refine o_ew (za4 rfl rfl rfl (congrArg Value.bool hb5)) (za9 0 Z Tryz.func45 N45 rfl rfl rfl (fun w P1 hF hB hS hT => laws_pSameSteps.calls A0_1 c0_1 l0_1.length l0_1 A1_1 c1_1 l1_1.length l1_1 hB hF (hS _ R0_1) hc0_1 (hS _ R1_1) hc1_1 _ hx6)) (fun _ => ?_)
    refine o_q rfl rfl (zaw true (congrArg Value.bool hb5) rfl) ?_
    refine o_q rfl rfl (za2 rfl) ?_
    refine byB b7 (fun hb8 => ?_) (fun hb8 => ?_)
    · replace h := bb_t hb8 h
      refine o_w (za4 rfl rfl rfl (congrArg Value.bool hb8)) rfl (q_f F27_2 rfl) ?_
      refine o_w (za4 rfl rfl rfl (congrArg Value.bool hb8)) rfl (q_ldb Y25 rfl (fun w h => h.zae (i := 1) rfl) rfl) ?_
      refine o_w (za4 rfl rfl rfl (congrArg Value.bool hb8)) rfl (q_f F27_2 rfl) ?_
      refine o_w (za4 rfl rfl rfl (congrArg Value.bool hb8)) rfl (q_ldb Y25 rfl (fun w h => h.zae (i := 0) rfl) rfl) ?_
      refine za6 h (fun b10 hx9 h => ?_) rfl
      refine o_ew (za4 rfl rfl rfl (congrArg Value.bool hb8)) (za9 0 Z Tryz.func46 N46 rfl rfl rfl (fun w P1 hF hB hS hT => laws_pSameInts.calls A0_2 c0_2 l0_2.length l0_2 A1_2 c1_2 l1_2.length l1_2 hB hF (hS _ R0_2) hc0_2 (hS _ R1_2) hc1_2 _ hx9)) (fun _ => ?_)
      refine o_q rfl rfl (zaw true (congrArg Value.bool hb8) rfl) ?_
      refine o_q rfl rfl (q_asg rfl) ?_
      refine o_end ?_
      refine za1 ?_
      refine c_ret ?_
      have e0_ := Option.some.inj h; clear h
      subst e0_
      exact x_r1 () Tryz.results12 (zai rfl) rfl (fun w h => za7 [] (by decide) rfl w h)
    · replace h := bb_f hb8 h
      refine @o_n _ _ _ _ _ _ _ _ _ _ _ 18 (za3 rfl rfl rfl (congrArg Value.bool hb8) rfl) (Eq.refl (some 18)) ?_
      refine @o_n _ _ _ _ _ _ _ _ _ _ _ 19 (za3 rfl rfl rfl (congrArg Value.bool hb8) rfl) (Eq.refl (some 19)) ?_
      refine @o_n _ _ _ _ _ _ _ _ _ _ _ 20 (za3 rfl rfl rfl (congrArg Value.bool hb8) rfl) (Eq.refl (some 20)) ?_
      refine @o_n _ _ _ _ _ _ _ _ _ _ _ 21 (za3 rfl rfl rfl (congrArg Value.bool hb8) rfl) (Eq.refl (some 21)) ?_
      refine @o_n _ _ _ _ _ _ _ _ _ _ _ 22 (za3 rfl rfl rfl (congrArg Value.bool hb8) rfl) (Eq.refl (some 22)) ?_
      refine o_q rfl rfl (zaw false (congrArg Value.bool hb8) rfl) ?_
      refine o_q rfl rfl (q_asg rfl) ?_
      refine o_end ?_
      refine za1 ?_
      refine c_ret ?_
      have e0_ := Option.some.inj h; clear h
      subst e0_
      exact x_r1 () Tryz.results12 (zai rfl) rfl (fun w h => za7 [] (by decide) rfl w h)
  · replace h := br_f hb5 h
    refine @o_n _ _ _ _ _ _ _ _ _ _ _ 11 (za3 rfl rfl rfl (congrArg Value.bool hb5) rfl) (Eq.refl (some 11)) ?_
    refine @o_n _ _ _ _ _ _ _ _ _ _ _ 12 (za3 rfl rfl rfl (congrArg Value.bool hb5) rfl) (Eq.refl (some 12)) ?_
    refine @o_n _ _ _ _ _ _ _ _ _ _ _ 13 (za3 rfl rfl rfl (congrArg Value.bool hb5) rfl) (Eq.refl (some 13)) ?_
    refine @o_n _ _ _ _ _ _ _ _ _ _ _ 14 (za3 rfl rfl rfl (congrArg Value.bool hb5) rfl) (Eq.refl (some 14)) ?_
    refine @o_n _ _ _ _ _ _ _ _ _ _ _ 15 (za3 rfl rfl rfl (congrArg Value.bool hb5) rfl) (Eq.refl (some 15)) ?_
    refine o_q rfl rfl (zaw false (congrArg Value.bool hb5) rfl) ?_
    refine o_q rfl rfl (za2 rfl) ?_
    refine @o_n _ _ _ _ _ _ _ _ _ _ _ 18 (za3 rfl rfl rfl rfl rfl) (Eq.refl (some 18)) ?_
    refine @o_n _ _ _ _ _ _ _ _ _ _ _ 19 (za3 rfl rfl rfl rfl rfl) (Eq.refl (some 19)) ?_
    refine @o_n _ _ _ _ _ _ _ _ _ _ _ 20 (za3 rfl rfl rfl rfl rfl) (Eq.refl (some 20)) ?_
    refine @o_n _ _ _ _ _ _ _ _ _ _ _ 21 (za3 rfl rfl rfl rfl rfl) (Eq.refl (some 21)) ?_
    refine @o_n _ _ _ _ _ _ _ _ _ _ _ 22 (za3 rfl rfl rfl rfl rfl) (Eq.refl (some 22)) ?_
    refine o_q rfl rfl (zaw false rfl rfl) ?_
    refine o_q rfl rfl (q_asg rfl) ?_
    refine o_end ?_
    refine za1 ?_
    refine c_ret ?_
    have e0_ := Option.some.inj h; clear h
    subst e0_
    exact x_r1 () Tryz.results12 (zai rfl) rfl (fun w h => za7 [] (by decide) rfl w h)

/-! ### (*loop.example/g01098/spec.l1Cur).spoilt: function 49 -/
def spec_l1Cur_spoilt.l0 (l0_0 : List Int) (a2 : ByteArray) : Nat → Int → Int → ByteArray → Int → Option (ByteArray × Int × Int)
  | 0, _, _, _, _ => none
  | k11 + 1, i5, i6, s7, i8 => if 0 < i8 then (if 0 < (s7.size : Int) then ((spec_l1Cur_pick.f l0_0 i5 i6 (s7.size : Int)).bind fun (i22, i23, i24) => (spec_l1Cur_pick.f l0_0 i23 i24 (a2.size : Int)).bind fun (i26, i27, i28) => (gts a2 i26).bind fun y29 => (spec_l1Cur_pick.f l0_0 i27 i28 3).bind fun (i35, i36, i37) => if i35 = 0 then ((cts s7 (0 : Int) i22).bind fun s39 => (sap s39 (strOfNums ([y29] : List Int))).bind fun s42 => (cts s7 i22 (s7.size : Int)).bind fun s43 => (sap s42 s43).bind fun s46 => spec_l1Cur_spoilt.l0 l0_0 a2 k11 i36 i37 s46 (w64 (i8 - 1))) else (if i35 = 1 then ((cts s7 (0 : Int) i22).bind fun s48 => (sap s48 (strOfNums ([y29] : List Int))).bind fun s51 => (cts s7 (w64 (i22 + 1)) (s7.size : Int)).bind fun s52 => (sap s51 s52).bind fun s55 => spec_l1Cur_spoilt.l0 l0_0 a2 k11 i36 i37 s55 (w64 (i8 - 1))) else ((cts s7 (0 : Int) i22).bind fun s56 => (cts s7 (w64 (i22 + 1)) (s7.size : Int)).bind fun s58 => (sap s56 s58).bind fun s61 => spec_l1Cur_spoilt.l0 l0_0 a2 k11 i36 i37 s61 (w64 (i8 - 1))))) else (some (s7, i5, i6))) else (some (s7, i5, i6))
def spec_l1Cur_spoilt.f (k : Nat) (l0_0 : List Int) (a0_1 : Int) (a0_2 : Int) (a1 : ByteArray) (a2 : ByteArray) : Option (ByteArray × Int × Int) := (spec_l1Cur_pick.f l0_0 a0_1 a0_2 2).bind fun (i2, i3, i4) => (spec_l1Cur_spoilt.l0 l0_0 a2 k i3 i4 a1 (w64 (1 + i2)))
set_option maxHeartbeats 600000 in
set_option maxRecDepth 100000 in
theorem spec_l1Cur_spoilt.calls (k : Nat) {w0 ws : World} {P0 : Nat → Prop} (g0 : Nat) (A0_0 : Option Addr) (c0_0 : Nat) (n0_0 : Nat) (l0_0 : List Int) (a0_1 : Int) (a0_2 : Int) (a1 : ByteArray) (a2 : ByteArray) (Z : Below w0.heap.size w0 ws) (hF : Fr w0 ws P0 [box g0 54 #[.slice A0_0 n0_0 c0_0, .int .i64 a0_1, .int .u64 a0_2]] ws) (R0_0 : Stable ws P0 (fun w => Kd.C (Kd.int .u8) w A0_0 n0_0 l0_0)) (hc0_0 : n0_0 ≤ c0_0) (r_1 : ByteArray) (r_2 : Int) (r_3 : Int) (h : spec_l1Cur_spoilt.f k l0_0 a0_1 a0_2 a1 a2 = some (r_1, r_2, r_3)) :
    Calls Tryz.prog 49 #[.pointer (some ⟨g0, 0, none⟩), .string a1, .string a2] ws (Post1 w0 ws P0 (fun (_ : Unit) => .string r_1) (fun (_ : Unit) => [box g0 54 #[.slice A0_0 n0_0 c0_0, .int .i64 r_2, .int .u64 r_3]])) := by
  unfold spec_l1Cur_spoilt.f at h
  obtain rfl := (R0_0 ws (KeptB.refl _ _)).1
  refine enter Tryz.func49 rfl Tryz.ntmps49 rfl hF ?_
  refine c_seq ?_
  refine za0 ?_
  refine o_q rfl rfl (q_asg rfl) ?_
  refine o_end ?_
  refine za1 ?_
  refine c_seq ?_
  refine c_seq ?_
  refine za0 ?_
  refine o_q rfl rfl (za2 rfl) ?_
  refine bindE3 h (fun i2 i3 i4 hx1 h => ?_) rfl
  refine o_e rfl (za9 1 Z Tryz.func79 N79 rfl rfl rfl (fun w P1 hF hB hS hT => spec_l1Cur_pick.calls g0 A0_0 c0_0 l0_0.length l0_0 a0_1 a0_2 2 hB hF (hS _ R0_0) hc0_0 _ _ _ hx1)) (fun _ => ?_)
  refine o_q rfl rfl (q_add64 rfl rfl) ?_
  refine o_q rfl rfl (q_asg rfl) ?_
  refine o_end ?_
  refine za1 ?_
  refine zaj ?_
  have hl15 := h; clear h
  refine c_loopL (σ := Int × Int × ByteArray × Int) (fun k11 ((i5, i6, s7, i8) : Int × Int × ByteArray × Int) => spec_l1Cur_spoilt.l0 l0_0 a2 k11 i5 i6 s7 i8 = some (r_1, r_2, r_3)) [1, 7, 8, 9, 13, 14, 15, 16, 17, 18, 19, 20, 21, 22, 23, 24, 25, 26, 27, 28, 29, 30, 31, 32, 33, 34, 35, 36, 37, 38, 39, 40, 41, 42, 43, 44, 45, 46, 47, 48, 49, 50, 51, 52, 53, 54, 55, 56, 57, 58, 59, 60, 61, 62, 63, 64, 65, 66] (fun ((i5, i6, s7, i8) : Int × Int × ByteArray × Int) => [(1, .string s7), (7, .int .i64 i8)]) (fun ((i5, i6, s7, i8) : Int × Int × ByteArray × Int) => [box g0 54 #[.slice A0_0 l0_0.length c0_0, .int .i64 i5, .int .u64 i6]]) k (i3, i4, a1, w64 (1 + i2)) hl15 ⟨rfl, rfl, trivial⟩ (fun w h => h) ?_
  refine natC (cur4 (fun i5 i6 s7 i8 => fun U17 hJ_ => ?_)) (fun k11 => (cur4 (fun i5 i6 s7 i8 => fun U17 hJ_ => ?_)))
  · skip
    replace hJ_ : spec_l1Cur_spoilt.l0 l0_0 a2 0 i5 i6 s7 i8 = some (r_1, r_2, r_3) := hJ_
    rw [spec_l1Cur_spoilt.l0] at hJ_
    exact noneE hJ_
  · skip
    clear hl15
    have h := hJ_; clear hJ_
    replace h : spec_l1Cur_spoilt.l0 l0_0 a2 (k11 + 1) i5 i6 s7 i8 = some (r_1, r_2, r_3) := h
    rw [spec_l1Cur_spoilt.l0] at h
    refine c_seq ?_
    refine c_seq ?_
    refine za0 ?_
    refine o_q rfl rfl (za2 rfl) ?_
    refine o_q rfl rfl (q_gtr rfl rfl) ?_
    refine o_q rfl rfl (za2 rfl) ?_
    refine byB (decide (0 < i8)) (fun hb19 => ?_) (fun hb19 => ?_)
    · replace h := br_t hb19 h
      refine o_w (za4 rfl rfl rfl (congrArg Value.bool hb19)) rfl (za2 rfl) ?_
      refine o_w (za4 rfl rfl rfl (congrArg Value.bool hb19)) rfl (q_lens Tryz.underlying9 rfl) ?_
      refine o_w (za4 rfl rfl rfl (congrArg Value.bool hb19)) rfl (q_gtr rfl rfl) ?_
      refine o_q rfl rfl (zaw true (congrArg Value.bool hb19) rfl) ?_
      refine o_end ?_
      refine za1 ?_
      refine zaq _ rfl (fun hb20 => ?_) (fun hb20 => ?_)
      · skip
        replace h := br_t hb20 h
        refine zak ?_
        refine za1 ?_
        refine c_seq ?_
        refine zaj ?_
        refine c_seq ?_
        refine za0 ?_
        refine o_q rfl rfl (za2 rfl) ?_
        refine o_q rfl rfl (za2 rfl) ?_
        refine o_q rfl rfl (q_lens Tryz.underlying9 rfl) ?_
        refine bindE3 h (fun i22 i23 i24 hx21 h => ?_) rfl
        refine o_e rfl (za9 1 Z Tryz.func79 N79 rfl rfl rfl (fun w P1 hF hB hS hT => spec_l1Cur_pick.calls g0 A0_0 c0_0 l0_0.length l0_0 i5 i6 (s7.size : Int) hB hF (hS _ R0_0) hc0_0 _ _ _ hx21)) (fun _ => ?_)
        refine o_q rfl rfl (q_asg rfl) ?_
        refine o_end ?_
        refine za1 ?_
        refine c_seq ?_
        refine za0 ?_
        refine o_q rfl rfl (za2 rfl) ?_
        refine o_q rfl rfl (za2 rfl) ?_
        refine o_q rfl rfl (za2 rfl) ?_
        refine o_q rfl rfl (q_lens Tryz.underlying9 rfl) ?_
        refine bindE3 h (fun i26 i27 i28 hx25 h => ?_) rfl
        refine o_e rfl (za9 1 Z Tryz.func79 N79 rfl rfl rfl (fun w P1 hF hB hS hT => spec_l1Cur_pick.calls g0 A0_0 c0_0 l0_0.length l0_0 i23 i24 (a2.size : Int) hB hF (hS _ R0_0) hc0_0 _ _ _ hx25)) (fun _ => ?_)
        refine za6 h (fun y29 hy30 h => ?_) rfl
        refine o_q rfl rfl (q_idxs Tryz.underlying9 rfl ⟨_, rfl⟩ hy30) ?_
        refine o_e rfl (e_lit (vs := [(0, .int .u8 y29)]) (cs := [.int .u8 y29]) (Kd.int .u8) ([y29] : List Int) Tryz.underlying22 I5 (by decide) rfl (by decide) rfl rfl (fun _ _ => Kd.zar _)) (cur2 (fun A31 c32 => ?_))
        refine o_q rfl rfl (q_bstr Tryz.underlying22 Tryz.underlying5 Tryz.underlying9 rfl (fun w h => h.zau (i := 0) rfl) (Nat.succ_pos _)) ?_
        refine o_q rfl rfl (q_asg rfl) ?_
        refine o_end ?_
        refine za1 ?_
        refine c_seq ?_
        refine za0 ?_
        refine o_q rfl rfl (za2 rfl) ?_
        refine o_pick [1, 0] (by decide) rfl ?_
        refine bindE3 h (fun i35 i36 i37 hx34 h => ?_) rfl
        refine o_e rfl (za9 1 Z Tryz.func79 N79 rfl rfl rfl (fun w P1 hF hB hS hT => spec_l1Cur_pick.calls g0 A0_0 c0_0 l0_0.length l0_0 i27 i28 3 hB hF (hS _ R0_0) hc0_0 _ _ _ hx34)) (fun _ => ?_)
        refine o_end ?_
        refine za1 ?_
        refine zaj ?_
        refine c_seq ?_
        refine za0 ?_
        refine o_q rfl rfl (q_eql rfl rfl) ?_
        refine o_q rfl rfl (q_asg rfl) ?_
        refine o_end ?_
        refine za1 ?_
        refine zaq _ rfl (fun hb38 => ?_) (fun hb38 => ?_)
        · skip
          replace h := br_t hb38 h
          refine a_start (ds := []) MO rfl ?_
          refine za5 0 rfl rfl rfl (by kernel_rfl) (fun _ _ _ h => h) (za2 rfl) ?_
          refine za5 1 rfl rfl rfl (by kernel_rfl) (fun _ _ _ h => h) (za2 rfl) ?_
          refine za6 h (fun s39 hz40 h => ?_) rfl
          refine za5 2 rfl rfl rfl (by kernel_rfl) (fun _ _ _ h => h) (q_cts Tryz.underlying9 rfl rfl ⟨_, rfl⟩ hz40) ?_
          refine za5 3 rfl rfl rfl (by kernel_rfl) (fun _ _ _ h => h) (za2 rfl) ?_
          refine za6 h (fun s42 hs41 h => ?_) rfl
          refine za5 4 rfl rfl rfl (by kernel_rfl) (fun _ _ _ h => h) (q_sap rfl rfl hs41) ?_
          refine za5 5 rfl rfl rfl (by kernel_rfl) (fun _ _ _ h => h) (za2 rfl) ?_
          refine za5 6 rfl rfl rfl (by kernel_rfl) (fun _ _ _ h => h) (za2 rfl) ?_
          refine za6 h (fun s43 hz44 h => ?_) rfl
          refine za5 7 rfl rfl rfl (by kernel_rfl) (fun _ _ _ h => h) (q_cts Tryz.underlying9 rfl ⟨_, rfl⟩ rfl hz44) ?_
          refine za6 h (fun s46 hs45 h => ?_) rfl
          refine za5 8 rfl rfl rfl (by kernel_rfl) (fun _ _ _ h => h) (q_sap rfl rfl hs45) ?_
          refine za5 9 rfl rfl rfl (by kernel_rfl) (fun _ _ _ h => h) (q_asg rfl) ?_
          refine zax (by kernel_rfl) ?_
          refine zal ?_
          refine zal ?_
          refine za1 ?_
          refine za0 ?_
          refine o_q rfl rfl (za2 rfl) ?_
          refine o_q rfl rfl (q_sub64 rfl rfl) ?_
          refine o_q rfl rfl (q_asg rfl) ?_
          refine o_end ?_
          refine zam k11 (i36, i37, s46, w64 (i8 - 1)) (Nat.lt_succ_self _) h ⟨rfl, rfl, trivial⟩ (fun w h => za7 [0] (by decide) rfl w h) ?_
          repeat (first | exact zac _ _ | refine zaf rfl ?_ | refine zad rfl ?_ | refine zah rfl ?_)
        · skip
          replace h := br_f hb38 h
          refine c_seq ?_
          refine za0 ?_
          refine o_q rfl rfl (q_eql rfl rfl) ?_
          refine o_q rfl rfl (q_asg rfl) ?_
          refine o_end ?_
          refine za1 ?_
          refine zaq _ rfl (fun hb47 => ?_) (fun hb47 => ?_)
          · skip
            replace h := br_t hb47 h
            refine a_start (ds := []) MO rfl ?_
            refine za5 0 rfl rfl rfl (by kernel_rfl) (fun _ _ _ h => h) (za2 rfl) ?_
            refine za5 1 rfl rfl rfl (by kernel_rfl) (fun _ _ _ h => h) (za2 rfl) ?_
            refine za6 h (fun s48 hz49 h => ?_) rfl
            refine za5 2 rfl rfl rfl (by kernel_rfl) (fun _ _ _ h => h) (q_cts Tryz.underlying9 rfl rfl ⟨_, rfl⟩ hz49) ?_
            refine za5 3 rfl rfl rfl (by kernel_rfl) (fun _ _ _ h => h) (za2 rfl) ?_
            refine za6 h (fun s51 hs50 h => ?_) rfl
            refine za5 4 rfl rfl rfl (by kernel_rfl) (fun _ _ _ h => h) (q_sap rfl rfl hs50) ?_
            refine za5 5 rfl rfl rfl (by kernel_rfl) (fun _ _ _ h => h) (za2 rfl) ?_
            refine za5 6 rfl rfl rfl (by kernel_rfl) (fun _ _ _ h => h) (za2 rfl) ?_
            refine za5 7 rfl rfl rfl (by kernel_rfl) (fun _ _ _ h => h) (q_add64 rfl rfl) ?_
            refine za6 h (fun s52 hz53 h => ?_) rfl
            refine za5 8 rfl rfl rfl (by kernel_rfl) (fun _ _ _ h => h) (q_cts Tryz.underlying9 rfl ⟨_, rfl⟩ rfl hz53) ?_
            refine za6 h (fun s55 hs54 h => ?_) rfl
            refine za5 9 rfl rfl rfl (by kernel_rfl) (fun _ _ _ h => h) (q_sap rfl rfl hs54) ?_
            refine za5 10 rfl rfl rfl (by kernel_rfl) (fun _ _ _ h => h) (q_asg rfl) ?_
            refine zax (by kernel_rfl) ?_
            refine zal ?_
            refine zal ?_
            refine za1 ?_
            refine za0 ?_
            refine o_q rfl rfl (za2 rfl) ?_
            refine o_q rfl rfl (q_sub64 rfl rfl) ?_
            refine o_q rfl rfl (q_asg rfl) ?_
            refine o_end ?_
            refine zam k11 (i36, i37, s55, w64 (i8 - 1)) (Nat.lt_succ_self _) h ⟨rfl, rfl, trivial⟩ (fun w h => za7 [0] (by decide) rfl w h) ?_
            repeat (first | exact zac _ _ | refine zaf rfl ?_ | refine zad rfl ?_ | refine zah rfl ?_)
          · skip
            replace h := br_f hb47 h
            refine a_start (ds := []) MO rfl ?_
            refine za5 0 rfl rfl rfl (by kernel_rfl) (fun _ _ _ h => h) (za2 rfl) ?_
            refine za5 1 rfl rfl rfl (by kernel_rfl) (fun _ _ _ h => h) (za2 rfl) ?_
            refine za6 h (fun s56 hz57 h => ?_) rfl
            refine za5 2 rfl rfl rfl (by kernel_rfl) (fun _ _ _ h => h) (q_cts Tryz.underlying9 rfl rfl ⟨_, rfl⟩ hz57) ?_
            refine za5 3 rfl rfl rfl (by kernel_rfl) (fun _ _ _ h => h) (za2 rfl) ?_
            refine za5 4 rfl rfl rfl (by kernel_rfl) (fun _ _ _ h => h) (za2 rfl) ?_
            refine za5 5 rfl rfl rfl (by kernel_rfl) (fun _ _ _ h => h) (q_add64 rfl rfl) ?_
            refine za6 h (fun s58 hz59 h => ?_) rfl
            refine za5 6 rfl rfl rfl (by kernel_rfl) (fun _ _ _ h => h) (q_cts Tryz.underlying9 rfl ⟨_, rfl⟩ rfl hz59) ?_
            refine za6 h (fun s61 hs60 h => ?_) rfl
            refine za5 7 rfl rfl rfl (by kernel_rfl) (fun _ _ _ h => h) (q_sap rfl rfl hs60) ?_
            refine za5 8 rfl rfl rfl (by kernel_rfl) (fun _ _ _ h => h) (q_asg rfl) ?_
            refine zax (by kernel_rfl) ?_
            refine zal ?_
            refine zal ?_
            refine za1 ?_
            refine za0 ?_
            refine o_q rfl rfl (za2 rfl) ?_
            refine o_q rfl rfl (q_sub64 rfl rfl) ?_
            refine o_q rfl rfl (q_asg rfl) ?_
            refine o_end ?_
            refine zam k11 (i36, i37, s61, w64 (i8 - 1)) (Nat.lt_succ_self _) h ⟨rfl, rfl, trivial⟩ (fun w h => za7 [0] (by decide) rfl w h) ?_
            repeat (first | exact zac _ _ | refine zaf rfl ?_ | refine zad rfl ?_ | refine zah rfl ?_)
      · skip
        replace h := br_f hb20 h
        refine c_exit ?_
        refine zaa ?_
        refine zaa ?_
        refine x_hit ?_
        refine za1 ?_
        refine c_seq ?_
        refine za0 ?_
        refine o_q rfl rfl (za2 rfl) ?_
        refine o_q rfl rfl (q_asg rfl) ?_
        refine o_end ?_
        refine za1 ?_
        refine c_ret ?_
        have e0_ := Option.some.inj h; clear h
        have d0_ := (Prod.mk.inj e0_).1; have e1_ := (Prod.mk.inj e0_).2; clear e0_; subst d0_
        have d1_ := (Prod.mk.inj e1_).1; have e2_ := (Prod.mk.inj e1_).2; clear e1_; subst d1_
        subst e2_
        exact x_r1 () Tryz.results49 (zai rfl) rfl (fun w h => za7 [0] (by decide) rfl w h)
    · replace h := br_f hb19 h
      refine @o_n _ _ _ _ _ _ _ _ _ _ _ 16 (za3 rfl rfl rfl (congrArg Value.bool hb19) rfl) (Eq.refl (some 16)) ?_
      refine @o_n _ _ _ _ _ _ _ _ _ _ _ 17 (za3 rfl rfl rfl (congrArg Value.bool hb19) rfl) (Eq.refl (some 17)) ?_
      refine @o_n _ _ _ _ _ _ _ _ _ _ _ 18 (za3 rfl rfl rfl (congrArg Value.bool hb19) rfl) (Eq.refl (some 18)) ?_
      refine o_q rfl rfl (zaw false (congrArg Value.bool hb19) rfl) ?_
      refine o_end ?_
      refine za1 ?_
      refine c_false rfl ?_
      refine c_exit ?_
      refine zaa ?_
      refine zaa ?_
      refine x_hit ?_
      refine za1 ?_
      refine c_seq ?_
      refine za0 ?_
      refine o_q rfl rfl (za2 rfl) ?_
      refine o_q rfl rfl (q_asg rfl) ?_
      refine o_end ?_
      refine za1 ?_
      refine c_ret ?_
      have e0_ := Option.some.inj h; clear h
      have d0_ := (Prod.mk.inj e0_).1; have e1_ := (Prod.mk.inj e0_).2; clear e0_; subst d0_
      have d1_ := (Prod.mk.inj e1_).1; have e2_ := (Prod.mk.inj e1_).2; clear e1_; subst d1_
      subst e2_
      exact x_r1 () Tryz.results49 (zai rfl) rfl (fun w h => za7 [0] (by decide) rfl w h)

/-! ### loop.example/g01098/spec.DrawParsePlan: function 13 -/
def spec_DrawParsePlan.f (k : Nat) (l0 : List Int) : Option ByteArray := (spec_l1Cur_plan.f k l0 0 0 3 7).bind fun (i4, l5, l6, i7, i8) => (spec_plText.f k i4 l5 l6).bind fun s14 => (spec_l1Cur_one.f l0 i7 i8 3).bind fun (b16, i17, i18) => if b16 = true then ((spec_l1Cur_spoilt.f k l0 i17 i18 s14 (⟨#[48, 49, 58, 42, 44, 45, 57]⟩ : ByteArray)).bind fun (s21, i22, i23) => some s21) else (some s14)
set_option maxHeartbeats 600000 in
set_option maxRecDepth 100000 in
theorem spec_DrawParsePlan.calls (k : Nat) {w0 ws : World} {P0 : Nat → Prop} (A0 : Option Addr) (c0 : Nat) (n0 : Nat) (l0 : List Int) (Z : Below w0.heap.size w0 ws) (hF : Fr w0 ws P0 [] ws) (R0 : Stable ws P0 (fun w => Kd.C (Kd.int .u8) w A0 n0 l0)) (hc0 : n0 ≤ c0) (r_1 : ByteArray) (h : spec_DrawParsePlan.f k l0 = some r_1) :
    Calls Tryz.prog 13 #[.slice A0 n0 c0] ws (Post1 w0 ws P0 (fun (_ : Unit) => .string r_1) (fun (_ : Unit) => [])) := by
  unfold spec_DrawParsePlan.f at h
  obtain rfl := (R0 ws (KeptB.refl _ _)).1
  refine enter Tryz.func13 rfl Tryz.ntmps13 rfl hF ?_
  refine c_seq ?_
  refine za0 ?_
  refine o_q rfl rfl (q_asg rfl) ?_
  refine o_end ?_
  refine za1 ?_
  refine c_seq ?_
  refine za0 ?_
  refine o_q rfl rfl (za2 rfl) ?_
  refine o_q rfl rfl (q_build (vs := [(0, .slice A0 l0.length c0)]) (cs := [.slice A0 l0.length c0, .int .i64 0, .int .u64 0]) rfl rfl) ?_
  refine o_e rfl (e_box rfl) (fun g1 => ?_)
  refine o_q rfl rfl (q_asg rfl) ?_
  refine o_end ?_
  refine za1 ?_
  refine c_seq ?_
  refine za0 ?_
  refine o_q rfl rfl (za2 rfl) ?_
  refine bindE5 h (fun i4 l5 l6 i7 i8 hx3 h => ?_) rfl
  refine o_e rfl (za9 1 Z Tryz.func47 N47 rfl rfl rfl (fun w P1 hF hB hS hT => spec_l1Cur_plan.calls k g1 A0 c0 l0.length l0 0 0 3 7 hB hF (hS _ R0) hc0 _ _ _ _ _ hx3)) (cur4 (fun A9 c10 A11 c12 => ?_))
  refine za6 h (fun s14 hx13 h => ?_) rfl
  refine o_e rfl (za9 0 Z Tryz.func34 N34 rfl rfl rfl (fun w P1 hF hB hS hT => spec_plText.calls k i4 A9 c10 l5.length l5 A11 c12 l6.length l6 hB hF (hT 0 _ rfl).row (hT 0 _ rfl).cap (hT 1 _ rfl).row (hT 1 _ rfl).cap _ hx13)) (fun _ => ?_)
  refine o_q rfl rfl (q_asg rfl) ?_
  refine o_end ?_
  refine za1 ?_
  refine c_seq ?_
  refine c_seq ?_
  refine za0 ?_
  refine o_q rfl rfl (za2 rfl) ?_
  refine o_pick [2, 0, 1] (by decide) rfl ?_
  refine bindE3 h (fun b16 i17 i18 hx15 h => ?_) rfl
  refine o_e rfl (za9 1 Z Tryz.func48 N48 rfl rfl rfl (fun w P1 hF hB hS hT => spec_l1Cur_one.calls g1 A0 c0 l0.length l0 i7 i8 3 hB hF (hS _ R0) hc0 _ _ _ hx15)) (fun _ => ?_)
  refine o_end ?_
  refine za1 ?_
  refine zaq _ rfl (fun hb19 => ?_) (fun hb19 => ?_)
  · skip
    replace h := bb_t hb19 h
    refine za0 ?_
    refine o_q rfl rfl (za2 rfl) ?_
    refine o_q rfl rfl (za2 rfl) ?_
    refine bindE3 h (fun s21 i22 i23 hx20 h => ?_) rfl
    refine o_e rfl (za9 1 Z Tryz.func49 N49 rfl rfl rfl (fun w P1 hF hB hS hT => spec_l1Cur_spoilt.calls k g1 A0 c0 l0.length l0 i17 i18 s14 (⟨#[48, 49, 58, 42, 44, 45, 57]⟩ : ByteArray) hB hF (hS _ R0) hc0 _ _ _ hx20)) (fun _ => ?_)
    refine o_q rfl rfl (q_asg rfl) ?_
    refine o_end ?_
    refine za1 ?_
    refine c_seq ?_
    refine za0 ?_
    refine o_q rfl rfl (za2 rfl) ?_
    refine o_q rfl rfl (q_asg rfl) ?_
    refine o_end ?_
    refine za1 ?_
    refine c_ret ?_
    have e0_ := Option.some.inj h; clear h
    subst e0_
    exact x_r1 () Tryz.results13 (zai rfl) rfl (fun w h => za7 [] (by decide) rfl w h)
  · skip
    replace h := bb_f hb19 h
    refine zak ?_
    refine za1 ?_
    refine c_seq ?_
    refine za0 ?_
    refine o_q rfl rfl (za2 rfl) ?_
    refine o_q rfl rfl (q_asg rfl) ?_
    refine o_end ?_
    refine za1 ?_
    refine c_ret ?_
    have e0_ := Option.some.inj h; clear h
    subst e0_
    exact x_r1 () Tryz.results13 (zai rfl) rfl (fun w h => za7 [] (by decide) rfl w h)

/-! ### loop.example/g01098/spec.l1Split: function 50 -/
def spec_l1Split.l0 (a0 : ByteArray) (a1 : Int) : Nat → (List ByteArray) → Int → Int → Option ((List ByteArray) × Int)
  | 0, _, _, _ => none
  | k9 + 1, l2, i5, i6 => if i6 < (a0.size : Int) then ((gts a0 i6).bind fun y18 => if y18 = a1 then ((cts a0 i5 i6).bind fun s21 => (ap l2 ([s21] : List ByteArray)).bind fun l26 => spec_l1Split.l0 a0 a1 k9 l26 (w64 (i6 + 1)) (w64 (i6 + 1))) else (spec_l1Split.l0 a0 a1 k9 l2 i5 (w64 (i6 + 1)))) else (some (l2, i5))
def spec_l1Split.f (k : Nat) (a0 : ByteArray) (a1 : Int) : Option (List ByteArray) := (spec_l1Split.l0 a0 a1 k ([] : List ByteArray) 0 0).bind fun (l2, i5) => (cts a0 i5 (a0.size : Int)).bind fun s30 => (ap l2 ([s30] : List ByteArray)).bind fun l35 => some l35
set_option maxHeartbeats 600000 in
set_option maxRecDepth 100000 in
theorem spec_l1Split.calls (k : Nat) {w0 ws : World} {P0 : Nat → Prop} (a0 : ByteArray) (a1 : Int) (Z : Below w0.heap.size w0 ws) (hF : Fr w0 ws P0 [] ws)  (r_1 : List ByteArray) (h : spec_l1Split.f k a0 a1 = some r_1) :
    Calls Tryz.prog 50 #[.string a0, .int .u8 a1] ws (Post1 w0 ws P0 (fun ((q_2, q_3) : (Option Addr) × Nat) => .slice q_2 r_1.length q_3) (fun ((q_2, q_3) : (Option Addr) × Nat) => [row Kd.string 9 (.slice q_2 r_1.length q_3) r_1])) := by
  unfold spec_l1Split.f at h
  refine enter Tryz.func50 rfl Tryz.ntmps50 rfl hF ?_
  refine c_seq ?_
  refine za0 ?_
  refine o_q rfl rfl (q_asg rfl) ?_
  refine o_end ?_
  refine za1 ?_
  refine c_seq ?_
  refine za0 ?_
  refine o_q rfl rfl (q_asg rfl) ?_
  refine o_end ?_
  refine za1 ?_
  refine c_seq ?_
  refine za0 ?_
  refine o_q rfl rfl (q_asg rfl) ?_
  refine o_end ?_
  refine za1 ?_
  refine c_seq ?_
  refine c_seq ?_
  refine za0 ?_
  refine o_q rfl rfl (q_asg rfl) ?_
  refine o_end ?_
  refine za1 ?_
  refine zaj ?_
  refine c_nil Kd.string 9 ?_
  refine za6 h (fun o14 hl13 hR12 => ?_) rfl
  clear h
  refine c_loopL (σ := (List ByteArray) × Int × Int × (Option Addr) × Nat) (fun k9 ((l2, i5, i6, A3, c4) : (List ByteArray) × Int × Int × (Option Addr) × Nat) => spec_l1Split.l0 a0 a1 k9 l2 i5 i6 = some o14) [5, 6, 7, 8, 9, 10, 11, 12, 13, 14, 15, 16, 17, 18, 19, 20, 21, 22, 23, 24, 25, 26, 27] (fun ((l2, i5, i6, A3, c4) : (List ByteArray) × Int × Int × (Option Addr) × Nat) => [(5, .slice A3 l2.length c4), (6, .int .i64 i5), (7, .int .i64 i6)]) (fun ((l2, i5, i6, A3, c4) : (List ByteArray) × Int × Int × (Option Addr) × Nat) => [row Kd.string 9 (.slice A3 l2.length c4) l2]) k (([] : List ByteArray), 0, 0, none, 0) hl13 ⟨rfl, rfl, rfl, trivial⟩ (fun w h => h) ?_
  refine natC (cur5 (fun l2 i5 i6 A3 c4 => fun U15 hJ_ => ?_)) (fun k9 => (cur5 (fun l2 i5 i6 A3 c4 => fun U15 hJ_ => ?_)))
  · skip
    replace hJ_ : spec_l1Split.l0 a0 a1 0 l2 i5 i6 = some o14 := hJ_
    rw [spec_l1Split.l0] at hJ_
    exact noneE hJ_
  · skip
    clear hl13
    have h := hJ_; clear hJ_
    replace h : spec_l1Split.l0 a0 a1 (k9 + 1) l2 i5 i6 = some o14 := h
    rw [spec_l1Split.l0] at h
    refine c_seq ?_
    refine c_seq ?_
    refine za0 ?_
    refine o_q rfl rfl (za2 rfl) ?_
    refine o_q rfl rfl (za2 rfl) ?_
    refine o_q rfl rfl (q_lens Tryz.underlying9 rfl) ?_
    refine o_q rfl rfl (q_lss rfl rfl) ?_
    refine o_end ?_
    refine za1 ?_
    refine zaq _ rfl (fun hb17 => ?_) (fun hb17 => ?_)
    · skip
      replace h := br_t hb17 h
      refine zak ?_
      refine za1 ?_
      refine c_seq ?_
      refine zaj ?_
      refine c_seq ?_
      refine za0 ?_
      refine o_q rfl rfl (za2 rfl) ?_
      refine o_q rfl rfl (za2 rfl) ?_
      refine za6 h (fun y18 hy19 h => ?_) rfl
      refine o_q rfl rfl (q_idxs Tryz.underlying9 rfl ⟨_, rfl⟩ hy19) ?_
      refine o_q rfl rfl (za2 rfl) ?_
      refine o_q rfl rfl (q_eql rfl rfl) ?_
      refine o_end ?_
      refine za1 ?_
      refine zaq _ rfl (fun hb20 => ?_) (fun hb20 => ?_)
      · skip
        replace h := br_t hb20 h
        refine c_seq ?_
        refine za0 ?_
        refine o_q rfl rfl (za2 rfl) ?_
        refine o_q rfl rfl (za2 rfl) ?_
        refine o_q rfl rfl (za2 rfl) ?_
        refine o_q rfl rfl (za2 rfl) ?_
        refine za6 h (fun s21 hz22 h => ?_) rfl
        refine o_q rfl rfl (q_cts Tryz.underlying9 rfl ⟨_, rfl⟩ ⟨_, rfl⟩ hz22) ?_
        refine o_e rfl (e_lit (vs := [(0, .string s21)]) (cs := [.string s21]) Kd.string ([s21] : List ByteArray) Tryz.underlying64 I9 (by decide) rfl (by decide) rfl rfl (fun _ _ => Kd.zar _)) (cur2 (fun A23 c24 => ?_))
        refine za6 h (fun l26 ha27 h => ?_) rfl
        refine o_e rfl (e_app (i := 1) (j := 0) Tryz.underlying64 I9 rfl (by decide) (by decide) rfl rfl rfl rfl rfl ha27) (cur2 (fun A28 c29 => ?_))
        refine o_q rfl rfl (q_asg rfl) ?_
        refine o_end ?_
        refine za1 ?_
        refine za0 ?_
        refine o_q rfl rfl (za2 rfl) ?_
        refine o_q rfl rfl (q_add64 rfl rfl) ?_
        refine o_q rfl rfl (q_asg rfl) ?_
        refine o_end ?_
        refine zal ?_
        refine za1 ?_
        refine za0 ?_
        refine o_q rfl rfl (za2 rfl) ?_
        refine o_q rfl rfl (q_add64 rfl rfl) ?_
        refine o_q rfl rfl (q_asg rfl) ?_
        refine o_end ?_
        refine zam k9 (l26, w64 (i6 + 1), w64 (i6 + 1), A28, c29) (Nat.lt_succ_self _) h ⟨rfl, rfl, rfl, trivial⟩ (fun w h => za7 [1] (by decide) rfl w h) ?_
        repeat (first | exact zac _ _ | refine zaf rfl ?_ | refine zad rfl ?_ | refine zah rfl ?_)
      · skip
        replace h := br_f hb20 h
        refine zak ?_
        refine zal ?_
        refine za1 ?_
        refine za0 ?_
        refine o_q rfl rfl (za2 rfl) ?_
        refine o_q rfl rfl (q_add64 rfl rfl) ?_
        refine o_q rfl rfl (q_asg rfl) ?_
        refine o_end ?_
        refine zam k9 (l2, i5, w64 (i6 + 1), A3, c4) (Nat.lt_succ_self _) h ⟨rfl, rfl, rfl, trivial⟩ (fun w h => za7 [0] (by decide) rfl w h) ?_
        repeat (first | exact zac _ _ | refine zaf rfl ?_ | refine zad rfl ?_ | refine zah rfl ?_)
    · skip
      replace h := br_f hb17 h
      refine c_exit ?_
      refine zaa ?_
      refine zaa ?_
      have e_ := Option.some.inj h; replace h := hR12; rw [← e_] at h; clear e_
      refine x_hit ?_
      refine za1 ?_
      refine c_seq ?_
      refine za0 ?_
      refine o_q rfl rfl (za2 rfl) ?_
      refine o_q rfl rfl (za2 rfl) ?_
      refine o_q rfl rfl (za2 rfl) ?_
      refine za6 h (fun s30 hz31 h => ?_) rfl
      refine o_q rfl rfl (q_cts Tryz.underlying9 rfl ⟨_, rfl⟩ rfl hz31) ?_
      refine o_e rfl (e_lit (vs := [(0, .string s30)]) (cs := [.string s30]) Kd.string ([s30] : List ByteArray) Tryz.underlying64 I9 (by decide) rfl (by decide) rfl rfl (fun _ _ => Kd.zar _)) (cur2 (fun A32 c33 => ?_))
      refine za6 h (fun l35 ha36 h => ?_) rfl
      refine o_e rfl (e_app (i := 1) (j := 0) Tryz.underlying64 I9 rfl (by decide) (by decide) rfl rfl rfl rfl rfl ha36) (cur2 (fun A37 c38 => ?_))
      refine o_q rfl rfl (q_asg rfl) ?_
      refine o_end ?_
      refine za1 ?_
      refine c_ret ?_
      have e0_ := Option.some.inj h; clear h
      subst e0_
      exact x_r1 (A37, c38) Tryz.results50 (zai rfl) rfl (fun w h => za7 [1] (by decide) rfl w h)

/-! ### loop.example/g01098/spec.l1Read: function 51 -/
def spec_l1Read.l0 (a0 : ByteArray) : Nat → Int → Int → Option ((Int) ⊕ (Int))
  | 0, _, _ => none
  | k24 + 1, i20, i21 => if i21 < (a0.size : Int) then ((gts a0 i21).bind fun y33 => if y33 < 48 then (some (.inl (-1))) else ((gts a0 i21).bind fun y36 => if 57 < y36 then (some (.inl (-1))) else ((gts a0 i21).bind fun y39 => spec_l1Read.l0 a0 k24 (w64 (w64 (10 * i20) + (w64 (IntKind.u8.wrap (y39 - 48))))) (w64 (i21 + 1))))) else (some (.inr i20))
def spec_l1Read.f (k : Nat) (a0 : ByteArray) : Option Int := ((spec_l1In.f (a0.size : Int) 1 6).bind fun b14 => if b14 = true then ((gts a0 0).bind fun y16 => if y16 = 48 then (if 1 < (a0.size : Int) then (some (.inl (-1))) else (some (.inr ()))) else (some (.inr ()))) else (some (.inl (-1))) : Option ((Int) ⊕ (Unit))).bind fun o_ => match o_ with | .inl r_ => some r_ | .inr _ => (spec_l1Read.l0 a0 k 0 0).bind fun o_ => match o_ with | .inl r_ => some r_ | .inr i20 => some i20
set_option maxHeartbeats 600000 in
set_option maxRecDepth 100000 in
theorem spec_l1Read.calls (k : Nat) {w0 ws : World} {P0 : Nat → Prop} (a0 : ByteArray) (Z : Below w0.heap.size w0 ws) (hF : Fr w0 ws P0 [] ws)  (r_1 : Int) (h : spec_l1Read.f k a0 = some r_1) :
    Calls Tryz.prog 51 #[.string a0] ws (Post1 w0 ws P0 (fun (_ : Unit) => .int .i64 r_1) (fun (_ : Unit) => [])) := by
  unfold spec_l1Read.f at h
  refine enter Tryz.func51 rfl Tryz.ntmps51 rfl hF ?_
  refine c_seq ?_
  refine za0 ?_
  refine o_q rfl rfl (q_asg rfl) ?_
  refine o_end ?_
  refine za1 ?_
  refine za6 h (fun o8 hl9 hR10 => ?_) rfl
  clear h
  refine c_cutJ (σ := Unit) (fun _ => some (.inr ()) = some o8) [2, 5, 6, 7, 8, 9, 10, 11, 12, 13, 14, 15, 16, 17, 18] (fun _ => []) (fun _ => []) ?_ ?_
  · skip
    have h := hl9; clear hl9
    refine c_seq ?_
    refine za0 ?_
    refine o_q rfl rfl (za2 rfl) ?_
    refine o_q rfl rfl (q_lens Tryz.underlying9 rfl) ?_
    refine za6 h (fun b14 hx13 h => ?_) rfl
    refine o_e rfl (za9 0 Z Tryz.func84 N84 rfl rfl rfl (fun w P1 hF hB hS hT => spec_l1In.calls (a0.size : Int) 1 6 hB hF _ hx13)) (fun _ => ?_)
    refine o_q rfl rfl (q_not rfl) ?_
    refine o_q rfl rfl (za2 rfl) ?_
    refine byB b14 (fun hb15 => ?_) (fun hb15 => ?_)
    · replace h := bb_t hb15 h
      refine o_w (za4 rfl rfl rfl (congrArg (fun b => Value.bool (!(b))) hb15)) rfl (za2 rfl) ?_
      refine za6 h (fun y16 hy17 h => ?_) rfl
      refine o_w (za4 rfl rfl rfl (congrArg (fun b => Value.bool (!(b))) hb15)) rfl (q_idxs Tryz.underlying9 rfl ⟨_, rfl⟩ hy17) ?_
      refine o_w (za4 rfl rfl rfl (congrArg (fun b => Value.bool (!(b))) hb15)) rfl (q_eql rfl rfl) ?_
      refine o_w (za4 rfl rfl rfl (congrArg (fun b => Value.bool (!(b))) hb15)) rfl (za2 rfl) ?_
      refine byB (decide (y16 = 48)) (fun hb18 => ?_) (fun hb18 => ?_)
      · replace h := br_t hb18 h
        refine o_w (za4 rfl rfl rfl (congrArg Value.bool hb18)) rfl (za2 rfl) ?_
        refine o_w (za4 rfl rfl rfl (congrArg Value.bool hb18)) rfl (q_lens Tryz.underlying9 rfl) ?_
        refine o_w (za4 rfl rfl rfl (congrArg Value.bool hb18)) rfl (q_gtr rfl rfl) ?_
        refine o_w (za4 rfl rfl rfl (congrArg (fun b => Value.bool (!(b))) hb15)) rfl (zaw true (congrArg Value.bool hb18) rfl) ?_
        refine o_q rfl rfl (zaw false (congrArg (fun b => Value.bool (!(b))) hb15) rfl) ?_
        refine o_end ?_
        refine za1 ?_
        refine zaq _ rfl (fun hb19 => ?_) (fun hb19 => ?_)
        · skip
          replace h := br_t hb19 h
          refine c_seq ?_
          refine za0 ?_
          refine o_q rfl rfl (q_asg rfl) ?_
          refine o_end ?_
          refine za1 ?_
          refine c_ret ?_
          refine za8 ?_
          have e_ := Option.some.inj h; replace h := hR10; rw [← e_] at h; clear e_
          have e0_ := Option.some.inj h; clear h
          subst e0_
          exact x_r1 () Tryz.results51 (zai rfl) rfl (fun w h => za7 [] (by decide) rfl w h)
        · skip
          replace h := br_f hb19 h
          refine zak ?_
          refine zay () h trivial (fun w h => za7 [] (by decide) rfl w h) ?_
          repeat (first | exact zac _ _ | refine zaf rfl ?_ | refine zad rfl ?_ | refine zah rfl ?_)
      · replace h := br_f hb18 h
        refine @o_n _ _ _ _ _ _ _ _ _ _ _ 14 (za3 rfl rfl rfl (congrArg Value.bool hb18) rfl) (Eq.refl (some 14)) ?_
        refine @o_n _ _ _ _ _ _ _ _ _ _ _ 15 (za3 rfl rfl rfl (congrArg Value.bool hb18) rfl) (Eq.refl (some 15)) ?_
        refine @o_n _ _ _ _ _ _ _ _ _ _ _ 16 (za3 rfl rfl rfl (congrArg Value.bool hb18) rfl) (Eq.refl (some 16)) ?_
        refine o_w (za4 rfl rfl rfl (congrArg (fun b => Value.bool (!(b))) hb15)) rfl (zaw false (congrArg Value.bool hb18) rfl) ?_
        refine o_q rfl rfl (zaw false (congrArg (fun b => Value.bool (!(b))) hb15) rfl) ?_
        refine o_end ?_
        refine za1 ?_
        refine c_false rfl ?_
        refine zak ?_
        refine zay () h trivial (fun w h => za7 [] (by decide) rfl w h) ?_
        repeat (first | exact zac _ _ | refine zaf rfl ?_ | refine zad rfl ?_ | refine zah rfl ?_)
    · replace h := bb_f hb15 h
      refine @o_n _ _ _ _ _ _ _ _ _ _ _ 10 (za3 rfl rfl rfl (congrArg (fun b => Value.bool (!(b))) hb15) rfl) (Eq.refl (some 10)) ?_
      refine @o_n _ _ _ _ _ _ _ _ _ _ _ 11 (za3 rfl rfl rfl (congrArg (fun b => Value.bool (!(b))) hb15) rfl) (Eq.refl (some 11)) ?_
      refine @o_n _ _ _ _ _ _ _ _ _ _ _ 12 (za3 rfl rfl rfl (congrArg (fun b => Value.bool (!(b))) hb15) rfl) (Eq.refl (some 12)) ?_
      refine @o_n _ _ _ _ _ _ _ _ _ _ _ 13 (za3 rfl rfl rfl (congrArg (fun b => Value.bool (!(b))) hb15) rfl) (Eq.refl (some 13)) ?_
      refine @o_n _ _ _ _ _ _ _ _ _ _ _ 14 (wanted_un rfl rfl rfl rfl) (Eq.refl (some 14)) ?_
      refine @o_n _ _ _ _ _ _ _ _ _ _ _ 15 (wanted_un rfl rfl rfl rfl) (Eq.refl (some 15)) ?_
      refine @o_n _ _ _ _ _ _ _ _ _ _ _ 16 (wanted_un rfl rfl rfl rfl) (Eq.refl (some 16)) ?_
      refine @o_n _ _ _ _ _ _ _ _ _ _ _ 17 (za3 rfl rfl rfl (congrArg (fun b => Value.bool (!(b))) hb15) rfl) (Eq.refl (some 17)) ?_
      refine o_q rfl rfl (zaw true (congrArg (fun b => Value.bool (!(b))) hb15) rfl) ?_
      refine o_end ?_
      refine za1 ?_
      refine c_true rfl ?_
      refine c_seq ?_
      refine za0 ?_
      refine o_q rfl rfl (q_asg rfl) ?_
      refine o_end ?_
      refine za1 ?_
      refine c_ret ?_
      refine za8 ?_
      have e_ := Option.some.inj h; replace h := hR10; rw [← e_] at h; clear e_
      have e0_ := Option.some.inj h; clear h
      subst e0_
      exact x_r1 () Tryz.results51 (zai rfl) rfl (fun w h => za7 [] (by decide) rfl w h)
  · skip
    refine (fun _ => fun U11 hJ12 => ?_)
    have e_ := Option.some.inj hJ12; have h := hR10; rw [← e_] at h; clear e_ hJ12 hR10 hl9
    refine c_seq ?_
    refine za0 ?_
    refine o_q rfl rfl (q_asg rfl) ?_
    refine o_end ?_
    refine za1 ?_
    refine c_seq ?_
    refine c_seq ?_
    refine za0 ?_
    refine o_q rfl rfl (q_asg rfl) ?_
    refine o_end ?_
    refine za1 ?_
    refine zaj ?_
    refine za6 h (fun o29 hl28 hR27 => ?_) rfl
    clear h
    refine c_loopL (σ := Int × Int) (fun k24 ((i20, i21) : Int × Int) => spec_l1Read.l0 a0 k24 i20 i21 = some o29) [2, 3, 4, 19, 20, 21, 22, 23, 24, 25, 26, 27, 28, 29, 30, 31, 32, 33, 34, 35, 36, 37, 38, 39, 40, 41, 42] (fun ((i20, i21) : Int × Int) => [(3, .int .i64 i20), (4, .int .i64 i21)]) (fun ((i20, i21) : Int × Int) => []) k (0, 0) hl28 ⟨rfl, rfl, trivial⟩ (fun w h => h) ?_
    refine natC (cur2 (fun i20 i21 => fun U30 hJ_ => ?_)) (fun k24 => (cur2 (fun i20 i21 => fun U30 hJ_ => ?_)))
    · skip
      replace hJ_ : spec_l1Read.l0 a0 0 i20 i21 = some o29 := hJ_
      rw [spec_l1Read.l0] at hJ_
      exact noneE hJ_
    · skip
      clear hl28
      have h := hJ_; clear hJ_
      replace h : spec_l1Read.l0 a0 (k24 + 1) i20 i21 = some o29 := h
      rw [spec_l1Read.l0] at h
      refine c_seq ?_
      refine c_seq ?_
      refine za0 ?_
      refine o_q rfl rfl (za2 rfl) ?_
      refine o_q rfl rfl (za2 rfl) ?_
      refine o_q rfl rfl (q_lens Tryz.underlying9 rfl) ?_
      refine o_q rfl rfl (q_lss rfl rfl) ?_
      refine o_end ?_
      refine za1 ?_
      refine zaq _ rfl (fun hb32 => ?_) (fun hb32 => ?_)
      · skip
        replace h := br_t hb32 h
        refine zak ?_
        refine za1 ?_
        refine c_seq ?_
        refine zaj ?_
        refine c_seq ?_
        refine c_seq ?_
        refine za0 ?_
        refine o_q rfl rfl (za2 rfl) ?_
        refine o_q rfl rfl (za2 rfl) ?_
        refine za6 h (fun y33 hy34 h => ?_) rfl
        refine o_q rfl rfl (q_idxs Tryz.underlying9 rfl ⟨_, rfl⟩ hy34) ?_
        refine o_q rfl rfl (q_lss rfl rfl) ?_
        refine o_q rfl rfl (za2 rfl) ?_
        refine byB (decide (y33 < 48)) (fun hb35 => ?_) (fun hb35 => ?_)
        · replace h := br_t hb35 h
          refine @o_n _ _ _ _ _ _ _ _ _ _ _ 30 (za3 rfl rfl rfl (congrArg Value.bool hb35) rfl) (Eq.refl (some 30)) ?_
          refine @o_n _ _ _ _ _ _ _ _ _ _ _ 31 (za3 rfl rfl rfl (congrArg Value.bool hb35) rfl) (Eq.refl (some 31)) ?_
          refine @o_n _ _ _ _ _ _ _ _ _ _ _ 32 (za3 rfl rfl rfl (congrArg Value.bool hb35) rfl) (Eq.refl (some 32)) ?_
          refine @o_n _ _ _ _ _ _ _ _ _ _ _ 33 (za3 rfl rfl rfl (congrArg Value.bool hb35) rfl) (Eq.refl (some 33)) ?_
          refine o_q rfl rfl (zaw true (congrArg Value.bool hb35) rfl) ?_
          refine o_end ?_
          refine za1 ?_
          refine c_true rfl ?_
          refine c_seq ?_
          refine za0 ?_
          refine o_q rfl rfl (q_asg rfl) ?_
          refine o_end ?_
          refine za1 ?_
          refine c_ret ?_
          refine za8 ?_
          refine zao ?_
          refine za8 ?_
          refine za8 ?_
          have e_ := Option.some.inj h; replace h := hR27; rw [← e_] at h; clear e_
          refine zao ?_
          refine za8 ?_
          have e0_ := Option.some.inj h; clear h
          subst e0_
          exact x_r1 () Tryz.results51 (zai rfl) rfl (fun w h => za7 [] (by decide) rfl w h)
        · replace h := br_f hb35 h
          refine o_w (za4 rfl rfl rfl (congrArg Value.bool hb35)) rfl (za2 rfl) ?_
          refine o_w (za4 rfl rfl rfl (congrArg Value.bool hb35)) rfl (za2 rfl) ?_
          refine za6 h (fun y36 hy37 h => ?_) rfl
          refine o_w (za4 rfl rfl rfl (congrArg Value.bool hb35)) rfl (q_idxs Tryz.underlying9 rfl ⟨_, rfl⟩ hy37) ?_
          refine o_w (za4 rfl rfl rfl (congrArg Value.bool hb35)) rfl (q_gtr rfl rfl) ?_
          refine o_q rfl rfl (zaw false (congrArg Value.bool hb35) rfl) ?_
          refine o_end ?_
          refine za1 ?_
          refine zaq _ rfl (fun hb38 => ?_) (fun hb38 => ?_)
          · skip
            replace h := br_t hb38 h
            refine c_seq ?_
            refine za0 ?_
            refine o_q rfl rfl (q_asg rfl) ?_
            refine o_end ?_
            refine za1 ?_
            refine c_ret ?_
            refine za8 ?_
            refine zao ?_
            refine za8 ?_
            refine za8 ?_
            have e_ := Option.some.inj h; replace h := hR27; rw [← e_] at h; clear e_
            refine zao ?_
            refine za8 ?_
            have e0_ := Option.some.inj h; clear h
            subst e0_
            exact x_r1 () Tryz.results51 (zai rfl) rfl (fun w h => za7 [] (by decide) rfl w h)
          · skip
            replace h := br_f hb38 h
            refine zak ?_
            refine za1 ?_
            refine za0 ?_
            refine o_q rfl rfl (za2 rfl) ?_
            refine o_q rfl rfl (q_mul64 rfl rfl) ?_
            refine o_q rfl rfl (za2 rfl) ?_
            refine o_q rfl rfl (za2 rfl) ?_
            refine za6 h (fun y39 hy40 h => ?_) rfl
            refine o_q rfl rfl (q_idxs Tryz.underlying9 rfl ⟨_, rfl⟩ hy40) ?_
            refine o_q rfl rfl (q_sub rfl rfl) ?_
            refine o_q rfl rfl (q_conv (by rw [Tryz.underlying5]; rfl) Tryz.underlying3 rfl) ?_
            refine o_q rfl rfl (q_add64 rfl rfl) ?_
            refine o_q rfl rfl (q_asg rfl) ?_
            refine o_end ?_
            refine zal ?_
            refine za1 ?_
            refine za0 ?_
            refine o_q rfl rfl (za2 rfl) ?_
            refine o_q rfl rfl (q_add64 rfl rfl) ?_
            refine o_q rfl rfl (q_asg rfl) ?_
            refine o_end ?_
            refine zam k24 (w64 (w64 (10 * i20) + (w64 (IntKind.u8.wrap (y39 - 48)))), w64 (i21 + 1)) (Nat.lt_succ_self _) h ⟨rfl, rfl, trivial⟩ (fun w h => za7 [] (by decide) rfl w h) ?_
            repeat (first | exact zac _ _ | refine zaf rfl ?_ | refine zad rfl ?_ | refine zah rfl ?_)
      · skip
        replace h := br_f hb32 h
        refine c_exit ?_
        refine zaa ?_
        refine zaa ?_
        have e_ := Option.some.inj h; replace h := hR27; rw [← e_] at h; clear e_
        refine x_hit ?_
        refine za1 ?_
        refine c_seq ?_
        refine za0 ?_
        refine o_q rfl rfl (za2 rfl) ?_
        refine o_q rfl rfl (q_asg rfl) ?_
        refine o_end ?_
        refine za1 ?_
        refine c_ret ?_
        have e0_ := Option.some.inj h; clear h
        subst e0_
        exact x_r1 () Tryz.results51 (zai rfl) rfl (fun w h => za7 [] (by decide) rfl w h)

/-! ### loop.example/g01098/spec.plRead: function 52 -/
def spec_plRead.l0 (k : Nat) : (List ByteArray) → (List Int) → Int → Option (List Int)
  | [], l7, i10 => some l7
  | y11 :: ys12, l7, i10 => (spec_l1Read.f k y11).bind fun i23 => (ap l7 ([i23] : List Int)).bind fun l27 => spec_plRead.l0 k ys12 l27 (i10 + 1)
def spec_plRead.f (k : Nat) (a0 : ByteArray) : Option (List Int) := if a0 = (⟨#[45]⟩ : ByteArray) then (some ([] : List Int)) else ((spec_l1Split.f k a0 44).bind fun l3 => (spec_plRead.l0 k l3 ([] : List Int) 0).bind fun l7 => some l7)
set_option maxHeartbeats 600000 in
set_option maxRecDepth 100000 in
theorem spec_plRead.calls (k : Nat) {w0 ws : World} {P0 : Nat → Prop} (a0 : ByteArray) (Z : Below w0.heap.size w0 ws) (hF : Fr w0 ws P0 [] ws)  (r_1 : List Int) (h : spec_plRead.f k a0 = some r_1) :
    Calls Tryz.prog 52 #[.string a0] ws (Post1 w0 ws P0 (fun ((q_2, q_3) : (Option Addr) × Nat) => .slice q_2 r_1.length q_3) (fun ((q_2, q_3) : (Option Addr) × Nat) => [row (Kd.int .i64) 3 (.slice q_2 r_1.length q_3) r_1])) := by
  unfold spec_plRead.f at h
  refine enter Tryz.func52 rfl Tryz.ntmps52 rfl hF ?_
  refine c_seq ?_
  refine za0 ?_
  refine o_q rfl rfl (q_asg rfl) ?_
  refine o_end ?_
  refine za1 ?_
  refine c_seq ?_
  refine c_seq ?_
  refine za0 ?_
  refine o_q rfl rfl (za2 rfl) ?_
  refine o_q rfl rfl (q_seql rfl rfl) ?_
  refine o_end ?_
  refine za1 ?_
  refine zaq _ rfl (fun hb1 => ?_) (fun hb1 => ?_)
  · skip
    replace h := br_t hb1 h
    refine c_seq ?_
    refine za0 ?_
    refine o_q rfl rfl (q_asg rfl) ?_
    refine o_end ?_
    refine za1 ?_
    refine c_ret ?_
    refine za8 ?_
    refine x_nil (Kd.int .i64) 3 ?_
    have e0_ := Option.some.inj h; clear h
    subst e0_
    exact x_r1 (none, 0) Tryz.results52 (zai rfl) rfl (fun w h => za7 [0] (by decide) rfl w h)
  · skip
    replace h := br_f hb1 h
    refine zak ?_
    refine za1 ?_
    refine c_seq ?_
    refine za0 ?_
    refine o_q rfl rfl (q_asg rfl) ?_
    refine o_end ?_
    refine za1 ?_
    refine c_seq ?_
    refine c_seq ?_
    refine za0 ?_
    refine o_q rfl rfl (za2 rfl) ?_
    refine za6 h (fun l3 hx2 h => ?_) rfl
    refine o_e rfl (za9 0 Z Tryz.func50 N50 rfl rfl rfl (fun w P1 hF hB hS hT => spec_l1Split.calls k a0 44 hB hF _ hx2)) (cur2 (fun A4 c5 => ?_))
    refine o_q rfl rfl (q_len Tryz.underlying64 rfl) ?_
    refine o_q rfl rfl (za2 rfl) ?_
    refine o_end ?_
    refine za1 ?_
    refine zaj ?_
    refine c_nil (Kd.int .i64) 3 ?_
    refine za6 h (fun o18 hl17 hR16 => ?_) rfl
    clear h
    refine c_fact (p := l3.length ≤ 9223372036854775807) (fun w h => (h.zau (i := 1) rfl).2.1) (fun hm15 => ?_)
    refine c_loopL (σ := (List ByteArray) × (List Int) × Int × (Option Addr) × Nat) (fun k13 ((ys12, l7, i10, A8, c9) : (List ByteArray) × (List Int) × Int × (Option Addr) × Nat) => Rg l3 i10 ys12 ∧ ys12.length = k13 ∧ spec_plRead.l0 k ys12 l7 i10 = some o18) [3, 5, 11, 12, 13, 14, 15, 16, 17, 18, 19, 20] (fun ((ys12, l7, i10, A8, c9) : (List ByteArray) × (List Int) × Int × (Option Addr) × Nat) => [(3, .slice A8 l7.length c9), (11, .int .i64 i10)]) (fun ((ys12, l7, i10, A8, c9) : (List ByteArray) × (List Int) × Int × (Option Addr) × Nat) => [row (Kd.int .i64) 3 (.slice A8 l7.length c9) l7, row Kd.string 9 (.slice A4 l3.length c5) l3]) l3.length (l3, ([] : List Int), 0, none, 0) ⟨Rg.start _, rfl, hl17⟩ ⟨rfl, rfl, trivial⟩ (fun w h => h) ?_
    refine fun k13 => cur5 (listC (fun l7 i10 A8 c9 U19 hJ_ => ?_) (fun y11 ys12 l7 i10 A8 c9 U19 hJ_ => ?_))
    · skip
      clear hl17
      have hr14 := hJ_.1; have hk20 := hJ_.2.1; have h := hJ_.2.2; clear hJ_
      replace h : spec_plRead.l0 k [] l7 i10 = some o18 := h
      rw [spec_plRead.l0] at h
      refine c_seq ?_
      refine za0 ?_
      refine o_q rfl rfl (q_lss rfl rfl) ?_
      refine o_end ?_
      refine za1 ?_
      refine c_seq ?_
      refine c_false (congrArg Value.bool hr14.ge) ?_
      refine c_exit ?_
      refine zaa ?_
      refine zaa ?_
      have e_ := Option.some.inj h; replace h := hR16; rw [← e_] at h; clear e_
      refine x_hit ?_
      refine za1 ?_
      refine c_seq ?_
      refine za0 ?_
      refine o_q rfl rfl (za2 rfl) ?_
      refine o_q rfl rfl (q_asg rfl) ?_
      refine o_end ?_
      refine za1 ?_
      refine c_ret ?_
      have e0_ := Option.some.inj h; clear h
      subst e0_
      exact x_r1 (A8, c9) Tryz.results52 (zai rfl) rfl (fun w h => za7 [0] (by decide) rfl w h)
    · skip
      clear hl17
      have hr14 := hJ_.1; have hk20 := hJ_.2.1; have h := hJ_.2.2; clear hJ_
      replace h : spec_plRead.l0 k (y11 :: ys12) l7 i10 = some o18 := h
      rw [spec_plRead.l0] at h
      refine c_seq ?_
      refine za0 ?_
      refine o_q rfl rfl (q_lss rfl rfl) ?_
      refine o_end ?_
      refine za1 ?_
      refine c_seq ?_
      refine c_true (congrArg Value.bool hr14.lt) ?_
      refine zak ?_
      refine za1 ?_
      refine c_seq ?_
      refine zaj ?_
      refine c_seq ?_
      refine za0 ?_
      refine o_fact (p := Sh A4 l3.length l3.length) (fun w h => f_sh (dk := Kd.string) h (fun w h => h.zau (i := 1) rfl)) (fun hq21 => ?_)
      refine o_q rfl rfl (q_ix Tryz.underlying64 Z9 rfl rfl hq21 hr14.get) ?_
      refine o_q rfl rfl (q_lde (off := 0) Y9 rfl rfl (fun w h => h.zau (i := 1) rfl) hr14.get (fun _ _ h => h) rfl) ?_
      refine o_q rfl rfl (q_asg rfl) ?_
      refine o_end ?_
      refine za1 ?_
      refine za0 ?_
      refine o_q rfl rfl (za2 rfl) ?_
      refine o_q rfl rfl (za2 rfl) ?_
      refine za6 h (fun i23 hx22 h => ?_) rfl
      refine o_e rfl (za9 0 Z Tryz.func51 N51 rfl rfl rfl (fun w P1 hF hB hS hT => spec_l1Read.calls k y11 hB hF _ hx22)) (fun _ => ?_)
      refine o_e rfl (e_lit (vs := [(0, .int .i64 i23)]) (cs := [.int .i64 i23]) (Kd.int .i64) ([i23] : List Int) Tryz.underlying25 I3 (by decide) rfl (by decide) rfl rfl (fun _ _ => Kd.zar _)) (cur2 (fun A24 c25 => ?_))
      refine za6 h (fun l27 ha28 h => ?_) rfl
      refine o_e rfl (e_app (i := 1) (j := 0) Tryz.underlying25 I3 rfl (by decide) (by decide) rfl rfl rfl rfl rfl ha28) (cur2 (fun A29 c30 => ?_))
      refine o_q rfl rfl (q_asg rfl) ?_
      refine o_end ?_
      refine zal ?_
      refine za1 ?_
      refine za0 ?_
      refine o_q rfl rfl (q_up rfl rfl (hr14.up hm15)) ?_
      refine o_q rfl rfl (za2 rfl) ?_
      refine o_end ?_
      refine zam ys12.length (ys12, l27, i10 + 1, A29, c30) (by rw [← hk20]; exact Nat.lt_succ_self _) ⟨hr14.step, rfl, h⟩ ⟨rfl, rfl, trivial⟩ (fun w h => za7 [1, 2] (by decide) rfl w h) ?_
      repeat (first | exact zac _ _ | refine zaf rfl ?_ | refine zad rfl ?_ | refine zah rfl ?_)

/-! ### loop.example/g01098/spec.plIf: function 53 -/
def spec_plIf.f (k : Nat) (a0_0 : Int) (l0_1 : List SStep) (l0_2 : List Int) : Option (Int × (List SStep) × (List Int) × Bool) := (spec_plGood.f k a0_0 l0_1 l0_2).bind fun b6 => if b6 = true then (some (a0_0, l0_1, l0_2, true)) else (some (0, ([] : List SStep), ([] : List Int), false))
set_option maxHeartbeats 600000 in
set_option maxRecDepth 100000 in
theorem spec_plIf.calls (k : Nat) {w0 ws : World} {P0 : Nat → Prop} (a0_0 : Int) (A0_1 : Option Addr) (c0_1 : Nat) (n0_1 : Nat) (l0_1 : List SStep) (A0_2 : Option Addr) (c0_2 : Nat) (n0_2 : Nat) (l0_2 : List Int) (Z : Below w0.heap.size w0 ws) (hF : Fr w0 ws P0 [row kStep 72 (.slice A0_1 n0_1 c0_1) l0_1, row (Kd.int .i64) 3 (.slice A0_2 n0_2 c0_2) l0_2] ws)  (r_1 : Int) (r_2 : List SStep) (r_5 : List Int) (r_8 : Bool) (h : spec_plIf.f k a0_0 l0_1 l0_2 = some (r_1, r_2, r_5, r_8)) :
    Calls Tryz.prog 53 #[.agg #[.int .i64 a0_0, .slice A0_1 n0_1 c0_1, .slice A0_2 n0_2 c0_2]] ws (Post1 w0 ws P0 (fun ((q_3, q_4, q_6, q_7) : (Option Addr) × Nat × (Option Addr) × Nat) => .tuple #[.agg #[.int .i64 r_1, .slice q_3 r_2.length q_4, .slice q_6 r_5.length q_7], .bool r_8]) (fun ((q_3, q_4, q_6, q_7) : (Option Addr) × Nat × (Option Addr) × Nat) => [row kStep 72 (.slice q_3 r_2.length q_4) r_2, row (Kd.int .i64) 3 (.slice q_6 r_5.length q_7) r_5])) := by
  unfold spec_plIf.f at h
  obtain rfl := (hF.row_C (i := 0) rfl).2.1
  obtain rfl := (hF.row_C (i := 1) rfl).2.1
  refine enter Tryz.func53 rfl Tryz.ntmps53 rfl hF ?_
  refine c_seq ?_
  refine za0 ?_
  refine o_e rfl (e_box rfl) (fun g1 => ?_)
  refine o_e rfl (e_alloc V27 rfl) (fun g3 => ?_)
  refine o_q rfl rfl (q_asg rfl) ?_
  refine o_end ?_
  refine za1 ?_
  refine c_seq ?_
  refine c_seq ?_
  refine za0 ?_
  refine o_q rfl rfl (q_ldB G27 Z27 rfl (fun w h => h.zae (i := 1) rfl) rfl) ?_
  refine za6 h (fun b6 hx5 h => ?_) rfl
  refine o_e rfl (za9 0 Z Tryz.func33 N33 rfl rfl rfl (fun w P1 hF hB hS hT => spec_plGood.calls k a0_0 A0_1 c0_1 l0_1.length l0_1 A0_2 c0_2 l0_2.length l0_2 hB hF (hT 2 _ rfl).row (hT 2 _ rfl).cap (hT 3 _ rfl).row (hT 3 _ rfl).cap _ hx5)) (fun _ => ?_)
  refine o_q rfl rfl (q_not rfl) ?_
  refine o_end ?_
  refine za1 ?_
  refine zaq _ rfl (fun hb7 => ?_) (fun hb7 => ?_)
  · replace hb7 := nt_t hb7
    replace h := bb_f hb7 h
    refine c_seq ?_
    refine za0 ?_
    refine o_q rfl rfl (q_build (vs := []) (cs := [.int .i64 0, .slice none 0 0, .slice none 0 0]) rfl rfl) ?_
    refine o_e rfl (zat (i := 0) rfl rfl rfl Z27 rfl rfl) (fun _ => ?_)
    refine o_q rfl rfl (q_asg rfl) ?_
    refine o_end ?_
    refine za1 ?_
    refine c_ret ?_
    refine za8 ?_
    refine x_nil kStep 72 ?_
    refine x_nil (Kd.int .i64) 3 ?_
    have e0_ := Option.some.inj h; clear h
    have d0_ := (Prod.mk.inj e0_).1; have e1_ := (Prod.mk.inj e0_).2; clear e0_; subst d0_
    have d1_ := (Prod.mk.inj e1_).1; have e2_ := (Prod.mk.inj e1_).2; clear e1_; subst d1_
    have d2_ := (Prod.mk.inj e2_).1; have e3_ := (Prod.mk.inj e2_).2; clear e2_; subst d2_
    subst e3_
    exact x_r2 (none, 0, none, 0) Tryz.results53 (rv_cell rfl G27 Z27 (fun w h => h.zae (i := 2) rfl) rfl) (zai rfl) rfl (fun w h => za7 [1, 0] (by decide) rfl w h)
  · replace hb7 := nt_f hb7
    replace h := bb_t hb7 h
    refine zak ?_
    refine za1 ?_
    refine c_seq ?_
    refine za0 ?_
    refine o_q rfl rfl (q_ldB G27 Z27 rfl (fun w h => h.zae (i := 1) rfl) rfl) ?_
    refine o_e rfl (zat (i := 0) rfl rfl rfl Z27 rfl rfl) (fun _ => ?_)
    refine o_q rfl rfl (q_asg rfl) ?_
    refine o_end ?_
    refine za1 ?_
    refine c_ret ?_
    have e0_ := Option.some.inj h; clear h
    have d0_ := (Prod.mk.inj e0_).1; have e1_ := (Prod.mk.inj e0_).2; clear e0_; subst d0_
    have d1_ := (Prod.mk.inj e1_).1; have e2_ := (Prod.mk.inj e1_).2; clear e1_; subst d1_
    have d2_ := (Prod.mk.inj e2_).1; have e3_ := (Prod.mk.inj e2_).2; clear e2_; subst d2_
    subst e3_
    exact x_r2 (A0_1, c0_1, A0_2, c0_2) Tryz.results53 (rv_cell rfl G27 Z27 (fun w h => h.zae (i := 0) rfl) rfl) (zai rfl) rfl (fun w h => za7 [2, 3] (by decide) rfl w h)

/-! ### loop.example/g01098/spec.ParsePlan: function 14 -/
def spec_ParsePlan.l0 (k : Nat) : (List ByteArray) → (List SStep) → Int → Option ((Int × (List SStep) × (List Int) × Bool) ⊕ ((List SStep)))
  | [], l2471, i2474 => some (.inr l2471)
  | y2475 :: ys2476, l2471, i2474 => (spec_l1Split.f k y2475 42).bind fun l2487 => if (l2487.length : Int) ≠ 2 then (some (.inl (0, ([] : List SStep), ([] : List Int), false))) else ((gt l2487 0).bind fun y2674 => (spec_l1Read.f k y2674).bind fun i2793 => (gt l2487 1).bind fun y2913 => (spec_l1Read.f k y2913).bind fun i3033 => (ap l2471 ([(⟨i2793, i3033⟩ : SStep)] : List SStep)).bind fun l3212 => spec_ParsePlan.l0 k ys2476 l3212 (i2474 + 1))
def spec_ParsePlan.f (k : Nat) (a0 : ByteArray) : Option (Int × (List SStep) × (List Int) × Bool) := (spec_l1Split.f k a0 58).bind fun l4 => if (l4.length : Int) ≠ 3 then (some (0, ([] : List SStep), ([] : List Int), false)) else (((gt l4 0).bind fun y802 => (spec_l1Read.f k y802).bind fun i921 => (gt l4 2).bind fun y1041 => (spec_plRead.f k y1041).bind fun l1161 => some (i921, l1161)).bind fun (i730, l731) => ((gt l4 1).bind fun y2462 => if y2462 ≠ (⟨#[45]⟩ : ByteArray) then ((gt l4 1).bind fun y2465 => (spec_l1Split.f k y2465 44).bind fun l2467 => (spec_ParsePlan.l0 k l2467 ([] : List SStep) 0).bind fun o_ => match o_ with | .inl r_ => some (.inl r_) | .inr l2471 => some (.inr l2471)) else (some (.inr ([] : List SStep))) : Option ((Int × (List SStep) × (List Int) × Bool) ⊕ ((List SStep)))).bind fun o_ => match o_ with | .inl r_ => some r_ | .inr l2452 => (spec_plIf.f k i730 l2452 l731).bind fun (i3453, l3454, l3455, b3456) => some (i3453, l3454, l3455, b3456))
set_option maxHeartbeats 600000 in
set_option maxRecDepth 100000 in
theorem spec_ParsePlan.calls (k : Nat) {w0 ws : World} {P0 : Nat → Prop} (a0 : ByteArray) (Z : Below w0.heap.size w0 ws) (hF : Fr w0 ws P0 [] ws)  (r_1 : Int) (r_2 : List SStep) (r_5 : List Int) (r_8 : Bool) (h : spec_ParsePlan.f k a0 = some (r_1, r_2, r_5, r_8)) :
    Calls Tryz.prog 14 #[.string a0] ws (Post1 w0 ws P0 (fun ((q_3, q_4, q_6, q_7) : (Option Addr) × Nat × (Option Addr) × Nat) => .tuple #[.agg #[.int .i64 r_1, .slice q_3 r_2.length q_4, .slice q_6 r_5.length q_7], .bool r_8]) (fun ((q_3, q_4, q_6, q_7) : (Option Addr) × Nat × (Option Addr) × Nat) => [row kStep 72 (.slice q_3 r_2.length q_4) r_2, row (Kd.int .i64) 3 (.slice q_6 r_5.length q_7) r_5])) := by
  unfold spec_ParsePlan.f at h
  refine enter Tryz.func14 rfl Tryz.ntmps14 rfl hF ?_
  refine c_seq ?_
  refine za0 ?_
  refine o_e rfl (e_alloc V27 rfl) (fun g1 => ?_)
  refine o_q rfl rfl (q_asg rfl) ?_
  refine o_end ?_
  refine za1 ?_
  refine c_seq ?_
  refine za0 ?_
  refine o_q rfl rfl (za2 rfl) ?_
  refine za6 h (fun l4 hx3 h => ?_) rfl
  refine o_e rfl (za9 0 Z Tryz.func50 N50 rfl rfl rfl (fun w P1 hF hB hS hT => spec_l1Split.calls k a0 58 hB hF _ hx3)) (cur2 (fun A5 c6 => ?_))
  refine o_q rfl rfl (q_asg rfl) ?_
  refine o_end ?_
  refine za1 ?_
  refine c_seq ?_
  refine c_seq ?_
  refine za0 ?_
  refine o_q rfl rfl (za2 rfl) ?_
  refine o_q rfl rfl (q_len Tryz.underlying64 rfl) ?_
  refine o_q rfl rfl (q_neq rfl rfl) ?_
  refine o_end ?_
  refine za1 ?_
  refine zaq _ rfl (fun hb7 => ?_) (fun hb7 => ?_)
  · skip
    replace h := br_t hb7 h
    refine c_seq ?_
    refine za0 ?_
    refine o_q rfl rfl (q_build (vs := []) (cs := [.int .i64 0, .slice none 0 0, .slice none 0 0]) rfl rfl) ?_
    refine o_e rfl (zat (i := 1) rfl rfl rfl Z27 rfl rfl) (fun _ => ?_)
    refine o_q rfl rfl (q_asg rfl) ?_
    refine o_end ?_
    refine za1 ?_
    refine c_ret ?_
    refine za8 ?_
    refine x_nil kStep 72 ?_
    refine x_nil (Kd.int .i64) 3 ?_
    have e0_ := Option.some.inj h; clear h
    have d0_ := (Prod.mk.inj e0_).1; have e1_ := (Prod.mk.inj e0_).2; clear e0_; subst d0_
    have d1_ := (Prod.mk.inj e1_).1; have e2_ := (Prod.mk.inj e1_).2; clear e1_; subst d1_
    have d2_ := (Prod.mk.inj e2_).1; have e3_ := (Prod.mk.inj e2_).2; clear e2_; subst d2_
    subst e3_
    exact x_r2 (none, 0, none, 0) Tryz.results14 (rv_cell rfl G27 Z27 (fun w h => h.zae (i := 3) rfl) rfl) (zai rfl) rfl (fun w h => za7 [1, 0] (by decide) rfl w h)
  · skip
    replace h := br_f hb7 h
    refine zak ?_
    refine za1 ?_
    refine za6 h (fun o734 hl735 hR736 => ?_) rfl
    clear h
    refine c_cutJ (σ := Int × (List Int) × Nat × (Option Addr) × Nat) (fun (i730, l731, g729, A732, c733) => some (i730, l731) = some o734) [5, 15, 16, 17, 18, 19, 20, 21, 22, 23] (fun (i730, l731, g729, A732, c733) => [(5, .pointer (some ⟨g729, 0, none⟩))]) (fun (i730, l731, g729, A732, c733) => [box g1 27 #[.int .i64 0, .slice none 0 0, .slice none 0 0], row Kd.string 9 (.slice A5 l4.length c6) l4, box g729 27 #[.int .i64 i730, .slice none 0 0, .slice A732 l731.length c733], row (Kd.int .i64) 3 (.slice A732 l731.length c733) l731]) ?_ ?_
    · skip
      have h := hl735; clear hl735
      clear hR736
      refine za6 h (fun y802 hg801 h => ?_) rfl
      refine za6 h (fun i921 hx920 h => ?_) rfl
      refine za6 h (fun y1041 hg1040 h => ?_) rfl
      refine za6 h (fun l1161 hx1160 h => ?_) rfl
      refine a_start (ds := []) MO rfl ?_
      refine za5 0 rfl rfl rfl (by kernel_rfl) (fun _ _ _ h => h) (za2 rfl) ?_
      refine a_fact (p := Sh A5 l4.length l4.length) (fun w h => f_sh (dk := Kd.string) h (fun w h => h.zau (i := 0) rfl)) (fun hq800 => ?_)
      refine za5 1 rfl rfl rfl (by kernel_rfl) (fun _ _ _ h => h) (q_ix Tryz.underlying64 Z9 rfl rfl hq800 hg801) ?_
      refine a_take 2 rfl rfl rfl (by kernel_rfl) (fun _ _ _ h => h) (fun w h => h) (q_lde (off := 0) Y9 rfl rfl (fun w h => h.zau (i := 0) rfl) hg801 (fun _ _ h => h) rfl) ?_
      refine za5 4 rfl rfl rfl (by kernel_rfl) (fun _ _ _ h => h) (za2 rfl) ?_
      refine za5 5 rfl rfl rfl (by kernel_rfl) (fun _ _ _ h => h) (q_ix Tryz.underlying64 Z9 rfl rfl hq800 hg1040) ?_
      refine a_take 6 rfl rfl rfl (by kernel_rfl) (fun _ _ _ h => h) (fun w h => h) (q_lde (off := 0) Y9 rfl rfl (fun w h => h.zau (i := 0) rfl) hg1040 (fun _ _ h => h) rfl) ?_
      refine a_two 3 9 rfl rfl rfl rfl (by kernel_rfl) rfl rfl (za9 0 Z Tryz.func51 N51 rfl rfl rfl (fun w P1 hF hB hS hT => spec_l1Read.calls k y802 hB hF _ hx920)) (fun s w h => h) (e_alloc V27 rfl) (fun s w h => zab [some 1, some 2] (by decide) w h rfl) (fun _ => ?_) (fun g1280 => ?_)
      · skip
        refine a_two 7 9 rfl rfl rfl rfl (by kernel_rfl) rfl rfl (za9 0 Z Tryz.func52 N52 rfl rfl rfl (fun w P1 hF hB hS hT => spec_plRead.calls k y1041 hB hF _ hx1160)) (fun s w h => zab [some 1, some 2] (by decide) w h rfl) (e_alloc V27 rfl) (fun s w h => zab [some 1, some 2] (by decide) w h rfl) (cur2 (fun A1162 c1163 => ?_)) (fun g1280 => ?_)
        · skip
          refine za5 8 rfl rfl rfl (by kernel_rfl) (fun _ _ _ h => h) (q_build (vs := [(0, .int .i64 i921), (2, .slice A1162 l1161.length c1163)]) (cs := [.int .i64 i921, .slice none 0 0, .slice A1162 l1161.length c1163]) rfl rfl) ?_
          refine a_one 9 rfl rfl (by kernel_rfl) rfl (e_alloc V27 rfl) (fun s w h => zab [some 2, some 3] (by decide) w h rfl) (fun g1280 => ?_)
          refine a_one 10 rfl rfl (by kernel_rfl) rfl (zat (i := 0) rfl rfl rfl Z27 rfl rfl) (fun s w h => zab [some 2, some 3] (by decide) w h rfl) (fun _ => ?_)
          refine zax (by kernel_rfl) ?_
          refine zay (i921, l1161, g1280, A1162, c1163) h ⟨rfl, trivial⟩ (fun w h => za7 [3, 2, 0, 1] (by decide) rfl w h) ?_
          repeat (first | exact zac _ _ | refine zaf rfl ?_ | refine zad rfl ?_ | refine zah rfl ?_)
        · skip
          refine a_one 7 rfl rfl (by kernel_rfl) rfl (za9 0 Z Tryz.func52 N52 rfl rfl rfl (fun w P1 hF hB hS hT => spec_plRead.calls k y1041 hB hF _ hx1160)) (fun s w h => zab [some 2, some 3] (by decide) w h rfl) (cur2 (fun A1162 c1163 => ?_))
          refine za5 8 rfl rfl rfl (by kernel_rfl) (fun _ _ _ h => h) (q_build (vs := [(0, .int .i64 i921), (2, .slice A1162 l1161.length c1163)]) (cs := [.int .i64 i921, .slice none 0 0, .slice A1162 l1161.length c1163]) rfl rfl) ?_
          refine a_one 10 rfl rfl (by kernel_rfl) rfl (zat (i := 1) rfl rfl rfl Z27 rfl rfl) (fun s w h => zab [some 2, some 3] (by decide) w h rfl) (fun _ => ?_)
          refine zax (by kernel_rfl) ?_
          refine zay (i921, l1161, g1280, A1162, c1163) h ⟨rfl, trivial⟩ (fun w h => za7 [3, 2, 1, 0] (by decide) rfl w h) ?_
          repeat (first | exact zac _ _ | refine zaf rfl ?_ | refine zad rfl ?_ | refine zah rfl ?_)
      · skip
        refine a_one 3 rfl rfl (by kernel_rfl) rfl (za9 0 Z Tryz.func51 N51 rfl rfl rfl (fun w P1 hF hB hS hT => spec_l1Read.calls k y802 hB hF _ hx920)) (fun s w h => zab [some 1, some 2] (by decide) w h rfl) (fun _ => ?_)
        refine a_one 7 rfl rfl (by kernel_rfl) rfl (za9 0 Z Tryz.func52 N52 rfl rfl rfl (fun w P1 hF hB hS hT => spec_plRead.calls k y1041 hB hF _ hx1160)) (fun s w h => zab [some 2, some 3] (by decide) w h rfl) (cur2 (fun A1162 c1163 => ?_))
        refine za5 8 rfl rfl rfl (by kernel_rfl) (fun _ _ _ h => h) (q_build (vs := [(0, .int .i64 i921), (2, .slice A1162 l1161.length c1163)]) (cs := [.int .i64 i921, .slice none 0 0, .slice A1162 l1161.length c1163]) rfl rfl) ?_
        refine a_one 10 rfl rfl (by kernel_rfl) rfl (zat (i := 1) rfl rfl rfl Z27 rfl rfl) (fun s w h => zab [some 2, some 3] (by decide) w h rfl) (fun _ => ?_)
        refine zax (by kernel_rfl) ?_
        refine zay (i921, l1161, g1280, A1162, c1163) h ⟨rfl, trivial⟩ (fun w h => za7 [3, 2, 1, 0] (by decide) rfl w h) ?_
        repeat (first | exact zac _ _ | refine zaf rfl ?_ | refine zad rfl ?_ | refine zah rfl ?_)
    · skip
      refine (cur5 (fun i730 l731 g729 A732 c733 => fun U737 hJ738 => ?_))
      have e_ := Option.some.inj hJ738; have h := hR736; rw [← e_] at h; clear e_ hJ738 hR736 hl735
      refine za6 h (fun o2455 hl2456 hR2457 => ?_) rfl
      clear h
      refine c_cutJ (σ := (List SStep) × (Option Addr) × Nat) (fun (l2452, A2453, c2454) => some (.inr l2452) = some o2455) [3, 7, 8, 24, 25, 26, 27, 28, 29, 30, 31, 32, 33, 34, 35, 36, 37, 38, 39, 40, 41, 42, 43, 44, 45, 46, 47, 48, 49, 50, 51, 52, 53, 54, 55, 56, 57] (fun (l2452, A2453, c2454) => []) (fun (l2452, A2453, c2454) => [box g1 27 #[.int .i64 0, .slice none 0 0, .slice none 0 0], box g729 27 #[.int .i64 i730, .slice A2453 l2452.length c2454, .slice A732 l731.length c733], row kStep 72 (.slice A2453 l2452.length c2454) l2452, row (Kd.int .i64) 3 (.slice A732 l731.length c733) l731, row Kd.string 9 (.slice A5 l4.length c6) l4]) ?_ ?_
      · skip
        have h := hl2456; clear hl2456
        refine c_seq ?_
        refine za0 ?_
        refine o_q rfl rfl (za2 rfl) ?_
        refine o_fact (p := Sh A5 l4.length l4.length) (fun w h => f_sh (dk := Kd.string) h (fun w h => h.zau (i := 1) rfl)) (fun hq2460 => ?_)
        refine za6 h (fun y2462 hg2461 h => ?_) rfl
        refine o_q rfl rfl (q_ix Tryz.underlying64 Z9 rfl rfl hq2460 hg2461) ?_
        refine o_q rfl rfl (q_lde (off := 0) Y9 rfl rfl (fun w h => h.zau (i := 1) rfl) hg2461 (fun _ _ h => h) rfl) ?_
        refine o_q rfl rfl (q_sneq rfl rfl) ?_
        refine o_end ?_
        refine za1 ?_
        refine zaq _ rfl (fun hb2463 => ?_) (fun hb2463 => ?_)
        · skip
          replace h := br_t hb2463 h
          refine c_seq ?_
          refine za0 ?_
          refine o_q rfl rfl (za2 rfl) ?_
          refine za6 h (fun y2465 hg2464 h => ?_) rfl
          refine o_q rfl rfl (q_ix Tryz.underlying64 Z9 rfl rfl hq2460 hg2464) ?_
          refine o_q rfl rfl (q_lde (off := 0) Y9 rfl rfl (fun w h => h.zau (i := 1) rfl) hg2464 (fun _ _ h => h) rfl) ?_
          refine za6 h (fun l2467 hx2466 h => ?_) rfl
          refine o_e rfl (za9 0 Z Tryz.func50 N50 rfl rfl rfl (fun w P1 hF hB hS hT => spec_l1Split.calls k y2465 44 hB hF _ hx2466)) (cur2 (fun A2468 c2469 => ?_))
          refine o_q rfl rfl (q_len Tryz.underlying64 rfl) ?_
          refine o_q rfl rfl (za2 rfl) ?_
          refine o_end ?_
          refine za1 ?_
          refine zaj ?_
          refine c_nil kStep 72 ?_
          refine za6 h (fun o2482 hl2481 hR2480 => ?_) rfl
          clear h
          refine c_fact (p := l2467.length ≤ 9223372036854775807) (fun w h => (h.zau (i := 1) rfl).2.1) (fun hm2479 => ?_)
          refine c_loopL (σ := (List ByteArray) × (List SStep) × Int × (Option Addr) × Nat) (fun k2477 ((ys2476, l2471, i2474, A2472, c2473) : (List ByteArray) × (List SStep) × Int × (Option Addr) × Nat) => Rg l2467 i2474 ys2476 ∧ ys2476.length = k2477 ∧ spec_ParsePlan.l0 k ys2476 l2471 i2474 = some o2482) [3, 7, 8, 33, 34, 35, 36, 37, 38, 39, 40, 41, 42, 43, 44, 45, 46, 47, 48, 49, 50, 51, 52, 53, 54, 55, 56, 57] (fun ((ys2476, l2471, i2474, A2472, c2473) : (List ByteArray) × (List SStep) × Int × (Option Addr) × Nat) => [(33, .int .i64 i2474)]) (fun ((ys2476, l2471, i2474, A2472, c2473) : (List ByteArray) × (List SStep) × Int × (Option Addr) × Nat) => [row kStep 72 (.slice A2472 l2471.length c2473) l2471, row Kd.string 9 (.slice A2468 l2467.length c2469) l2467, box g1 27 #[.int .i64 0, .slice none 0 0, .slice none 0 0], row Kd.string 9 (.slice A5 l4.length c6) l4, box g729 27 #[.int .i64 i730, .slice A2472 l2471.length c2473, .slice A732 l731.length c733], row (Kd.int .i64) 3 (.slice A732 l731.length c733) l731]) l2467.length (l2467, ([] : List SStep), 0, none, 0) ⟨Rg.start _, rfl, hl2481⟩ ⟨rfl, trivial⟩ (fun w h => h) ?_
          refine fun k2477 => cur5 (listC (fun l2471 i2474 A2472 c2473 U2483 hJ_ => ?_) (fun y2475 ys2476 l2471 i2474 A2472 c2473 U2483 hJ_ => ?_))
          · skip
            clear hl2481
            have hr2478 := hJ_.1; have hk2484 := hJ_.2.1; have h := hJ_.2.2; clear hJ_
            replace h : spec_ParsePlan.l0 k [] l2471 i2474 = some o2482 := h
            rw [spec_ParsePlan.l0] at h
            refine c_seq ?_
            refine za0 ?_
            refine o_q rfl rfl (q_lss rfl rfl) ?_
            refine o_end ?_
            refine za1 ?_
            refine c_seq ?_
            refine c_false (congrArg Value.bool hr2478.ge) ?_
            refine c_exit ?_
            refine zaa ?_
            refine zaa ?_
            have e_ := Option.some.inj h; replace h := hR2480; rw [← e_] at h; clear e_
            refine x_hit ?_
            refine zay (l2471, A2472, c2473) h trivial (fun w h => za7 [2, 4, 0, 5, 3] (by decide) rfl w h) ?_
            repeat (first | exact zac _ _ | refine zaf rfl ?_ | refine zad rfl ?_ | refine zah rfl ?_)
          · skip
            clear hl2481
            have hr2478 := hJ_.1; have hk2484 := hJ_.2.1; have h := hJ_.2.2; clear hJ_
            replace h : spec_ParsePlan.l0 k (y2475 :: ys2476) l2471 i2474 = some o2482 := h
            rw [spec_ParsePlan.l0] at h
            refine c_seq ?_
            refine za0 ?_
            refine o_q rfl rfl (q_lss rfl rfl) ?_
            refine o_end ?_
            refine za1 ?_
            refine c_seq ?_
            refine c_true (congrArg Value.bool hr2478.lt) ?_
            refine zak ?_
            refine za1 ?_
            refine c_seq ?_
            refine zaj ?_
            refine c_seq ?_
            refine za0 ?_
            refine o_fact (p := Sh A2468 l2467.length l2467.length) (fun w h => f_sh (dk := Kd.string) h (fun w h => h.zau (i := 1) rfl)) (fun hq2485 => ?_)
            refine o_q rfl rfl (q_ix Tryz.underlying64 Z9 rfl rfl hq2485 hr2478.get) ?_
            refine o_q rfl rfl (q_lde (off := 0) Y9 rfl rfl (fun w h => h.zau (i := 1) rfl) hr2478.get (fun _ _ h => h) rfl) ?_
            refine o_q rfl rfl (q_asg rfl) ?_
            refine o_end ?_
            refine za1 ?_
            refine c_seq ?_
            refine za0 ?_
            refine o_q rfl rfl (za2 rfl) ?_
            refine za6 h (fun l2487 hx2486 h => ?_) rfl
            refine o_e rfl (za9 0 Z Tryz.func50 N50 rfl rfl rfl (fun w P1 hF hB hS hT => spec_l1Split.calls k y2475 42 hB hF _ hx2486)) (cur2 (fun A2488 c2489 => ?_))
            refine o_q rfl rfl (q_asg rfl) ?_
            refine o_end ?_
            refine za1 ?_
            refine c_seq ?_
            refine c_seq ?_
            refine za0 ?_
            refine o_q rfl rfl (za2 rfl) ?_
            refine o_q rfl rfl (q_len Tryz.underlying64 rfl) ?_
            refine o_q rfl rfl (q_neq rfl rfl) ?_
            refine o_end ?_
            refine za1 ?_
            refine zaq _ rfl (fun hb2490 => ?_) (fun hb2490 => ?_)
            · skip
              replace h := br_t hb2490 h
              refine c_seq ?_
              refine za0 ?_
              refine o_q rfl rfl (q_build (vs := []) (cs := [.int .i64 0, .slice none 0 0, .slice none 0 0]) rfl rfl) ?_
              refine o_e rfl (zat (i := 3) rfl rfl rfl Z27 rfl rfl) (fun _ => ?_)
              refine o_q rfl rfl (q_asg rfl) ?_
              refine o_end ?_
              refine za1 ?_
              refine c_ret ?_
              refine za8 ?_
              refine zao ?_
              refine za8 ?_
              refine za8 ?_
              have e_ := Option.some.inj h; replace h := hR2480; rw [← e_] at h; clear e_
              refine zao ?_
              refine za8 ?_
              have e_ := Option.some.inj h; replace h := hR2457; rw [← e_] at h; clear e_
              refine x_nil kStep 72 ?_
              refine x_nil (Kd.int .i64) 3 ?_
              have e0_ := Option.some.inj h; clear h
              have d0_ := (Prod.mk.inj e0_).1; have e1_ := (Prod.mk.inj e0_).2; clear e0_; subst d0_
              have d1_ := (Prod.mk.inj e1_).1; have e2_ := (Prod.mk.inj e1_).2; clear e1_; subst d1_
              have d2_ := (Prod.mk.inj e2_).1; have e3_ := (Prod.mk.inj e2_).2; clear e2_; subst d2_
              subst e3_
              exact x_r2 (none, 0, none, 0) Tryz.results14 (rv_cell rfl G27 Z27 (fun w h => h.zae (i := 5) rfl) rfl) (zai rfl) rfl (fun w h => za7 [1, 0] (by decide) rfl w h)
            · skip
              replace h := br_f hb2490 h
              refine zak ?_
              refine za1 ?_
              refine za6 h (fun y2674 hg2673 h => ?_) rfl
              refine za6 h (fun i2793 hx2792 h => ?_) rfl
              refine za6 h (fun y2913 hg2912 h => ?_) rfl
              refine za6 h (fun i3033 hx3032 h => ?_) rfl
              refine za6 h (fun l3212 ha3213 h => ?_) rfl
              refine a_startS (ds := []) [some 0, none, some 2, some 3, some 4, none, some 6] MO rfl ?_
              refine za5 0 rfl rfl rfl (by kernel_rfl) (fun _ _ _ h => h) (q_f F27_1 rfl) ?_
              refine za5 2 rfl rfl rfl (by kernel_rfl) (fun _ _ _ h => h) (za2 rfl) ?_
              refine a_fact (p := Sh A2488 l2487.length l2487.length) (fun w h => f_sh (dk := Kd.string) h (fun w h => h.zau (i := 0) rfl)) (fun hq2672 => ?_)
              refine za5 3 rfl rfl rfl (by kernel_rfl) (fun _ _ _ h => h) (q_ix Tryz.underlying64 Z9 rfl rfl hq2672 hg2673) ?_
              refine a_take 4 rfl rfl rfl (by kernel_rfl) (fun _ _ _ h => h) (fun w h => zab [some 0, none, some 2, some 3, some 4, none, some 6] (by decide) w h rfl) (q_lde (off := 0) Y9 rfl rfl (fun w h => h.zau (i := 0) rfl) hg2673 (fun _ _ h => h) rfl) ?_
              refine za5 6 rfl rfl rfl (by kernel_rfl) (fun _ _ _ h => h) (za2 rfl) ?_
              refine za5 7 rfl rfl rfl (by kernel_rfl) (fun _ _ _ h => h) (q_ix Tryz.underlying64 Z9 rfl rfl hq2672 hg2912) ?_
              refine a_take 8 rfl rfl rfl (by kernel_rfl) (fun _ _ _ h => h) (fun w h => zab [some 0, none, some 2, some 3, some 4, none, some 6] (by decide) w h rfl) (q_lde (off := 0) Y9 rfl rfl (fun w h => h.zau (i := 0) rfl) hg2912 (fun _ _ h => h) rfl) ?_
              refine a_two 1 5 rfl rfl rfl rfl (by kernel_rfl) rfl rfl (ev_q rfl (q_ldb Y24 rfl (fun w h => h.zae (i := 5) rfl) rfl)) (fun s w h => zab [some 0, none, some 2, some 3, some 4, none, some 6] (by decide) w h rfl) (za9 0 Z Tryz.func51 N51 rfl rfl rfl (fun w P1 hF hB hS hT => spec_l1Read.calls k y2674 hB hF _ hx2792)) (fun s w h => zab [some 0, none, some 2, some 3, some 4, none, some 6] (by decide) w h rfl) (fun _ => ?_) (fun _ => ?_)
              · skip
                refine a_one 5 rfl rfl (by kernel_rfl) rfl (za9 0 Z Tryz.func51 N51 rfl rfl rfl (fun w P1 hF hB hS hT => spec_l1Read.calls k y2674 hB hF _ hx2792)) (fun s w h => zab [some 0, none, some 2, some 3, some 4, none, some 6] (by decide) w h rfl) (fun _ => ?_)
                refine a_one 9 rfl rfl (by kernel_rfl) rfl (za9 0 Z Tryz.func51 N51 rfl rfl rfl (fun w P1 hF hB hS hT => spec_l1Read.calls k y2913 hB hF _ hx3032)) (fun s w h => zab [some 0, none, some 2, some 3, some 4, none, some 6] (by decide) w h rfl) (fun _ => ?_)
                refine za5 10 rfl rfl rfl (by kernel_rfl) (fun _ _ _ h => h) (q_build (vs := [(0, .int .i64 i2793), (1, .int .i64 i3033)]) (cs := [.int .i64 i2793, .int .i64 i3033]) rfl rfl) ?_
                refine a_one 11 rfl rfl (by kernel_rfl) rfl (e_lit (vs := [(0, .agg #[.int .i64 i2793, .int .i64 i3033])]) (cs := [.int .i64 i2793, .int .i64 i3033]) kStep ([(⟨i2793, i3033⟩ : SStep)] : List SStep) Tryz.underlying24 I72 (by decide) rfl (by decide) rfl rfl (fun _ _ => reps_flat _)) (fun s w h => zab [some 1, none, some 3, some 4, some 5, none, some 7] (by decide) w h rfl) (cur2 (fun A3152 c3153 => ?_))
                refine a_one 12 rfl rfl (by kernel_rfl) rfl (e_app (i := 2) (j := 0) Tryz.underlying24 I72 rfl (by decide) (by decide) rfl rfl rfl rfl rfl ha3213) (fun s w h => zab [some 1, none, some 3, some 4, some 5, none, some 7] (by decide) w h rfl) (cur2 (fun A3214 c3215 => ?_))
                refine za5 13 rfl rfl rfl (by kernel_rfl) (fun _ _ _ h => h) (q_f F27_1 rfl) ?_
                refine a_one 14 rfl rfl (by kernel_rfl) rfl (e_store (i := 6) rfl rfl rfl rfl Z24 rfl rfl) (fun s w h => zab [some 1, none, some 3, some 4, some 5, none, some 7] (by decide) w h rfl) (fun _ => ?_)
                refine zax (by kernel_rfl) ?_
                refine zal ?_
                refine za1 ?_
                refine za0 ?_
                refine o_q rfl rfl (q_up rfl rfl (hr2478.up hm2479)) ?_
                refine o_q rfl rfl (za2 rfl) ?_
                refine o_end ?_
                refine zam ys2476.length (ys2476, l3212, i2474 + 1, A3214, c3215) (by rw [← hk2484]; exact Nat.lt_succ_self _) ⟨hr2478.step, rfl, h⟩ ⟨rfl, trivial⟩ (fun w h => za7 [2, 3, 4, 5, 6, 7] (by decide) rfl w h) ?_
                repeat (first | exact zac _ _ | refine zaf rfl ?_ | refine zad rfl ?_ | refine zah rfl ?_)
              · skip
                refine a_two 1 9 rfl rfl rfl rfl (by kernel_rfl) rfl rfl (ev_q rfl (q_ldb Y24 rfl (fun w h => h.zae (i := 5) rfl) rfl)) (fun s w h => zab [some 0, none, some 2, some 3, some 4, none, some 6] (by decide) w h rfl) (za9 0 Z Tryz.func51 N51 rfl rfl rfl (fun w P1 hF hB hS hT => spec_l1Read.calls k y2913 hB hF _ hx3032)) (fun s w h => zab [some 0, none, some 2, some 3, some 4, none, some 6] (by decide) w h rfl) (fun _ => ?_) (fun _ => ?_)
                · skip
                  refine a_one 9 rfl rfl (by kernel_rfl) rfl (za9 0 Z Tryz.func51 N51 rfl rfl rfl (fun w P1 hF hB hS hT => spec_l1Read.calls k y2913 hB hF _ hx3032)) (fun s w h => zab [some 0, none, some 2, some 3, some 4, none, some 6] (by decide) w h rfl) (fun _ => ?_)
                  refine za5 10 rfl rfl rfl (by kernel_rfl) (fun _ _ _ h => h) (q_build (vs := [(0, .int .i64 i2793), (1, .int .i64 i3033)]) (cs := [.int .i64 i2793, .int .i64 i3033]) rfl rfl) ?_
                  refine a_one 11 rfl rfl (by kernel_rfl) rfl (e_lit (vs := [(0, .agg #[.int .i64 i2793, .int .i64 i3033])]) (cs := [.int .i64 i2793, .int .i64 i3033]) kStep ([(⟨i2793, i3033⟩ : SStep)] : List SStep) Tryz.underlying24 I72 (by decide) rfl (by decide) rfl rfl (fun _ _ => reps_flat _)) (fun s w h => zab [some 1, none, some 3, some 4, some 5, none, some 7] (by decide) w h rfl) (cur2 (fun A3152 c3153 => ?_))
                  refine a_one 12 rfl rfl (by kernel_rfl) rfl (e_app (i := 2) (j := 0) Tryz.underlying24 I72 rfl (by decide) (by decide) rfl rfl rfl rfl rfl ha3213) (fun s w h => zab [some 1, none, some 3, some 4, some 5, none, some 7] (by decide) w h rfl) (cur2 (fun A3214 c3215 => ?_))
                  refine za5 13 rfl rfl rfl (by kernel_rfl) (fun _ _ _ h => h) (q_f F27_1 rfl) ?_
                  refine a_one 14 rfl rfl (by kernel_rfl) rfl (e_store (i := 6) rfl rfl rfl rfl Z24 rfl rfl) (fun s w h => zab [some 1, none, some 3, some 4, some 5, none, some 7] (by decide) w h rfl) (fun _ => ?_)
                  refine zax (by kernel_rfl) ?_
                  refine zal ?_
                  refine za1 ?_
                  refine za0 ?_
                  refine o_q rfl rfl (q_up rfl rfl (hr2478.up hm2479)) ?_
                  refine o_q rfl rfl (za2 rfl) ?_
                  refine o_end ?_
                  refine zam ys2476.length (ys2476, l3212, i2474 + 1, A3214, c3215) (by rw [← hk2484]; exact Nat.lt_succ_self _) ⟨hr2478.step, rfl, h⟩ ⟨rfl, trivial⟩ (fun w h => za7 [2, 3, 4, 5, 6, 7] (by decide) rfl w h) ?_
                  repeat (first | exact zac _ _ | refine zaf rfl ?_ | refine zad rfl ?_ | refine zah rfl ?_)
                · skip
                  refine za5 10 rfl rfl rfl (by kernel_rfl) (fun _ _ _ h => h) (q_build (vs := [(0, .int .i64 i2793), (1, .int .i64 i3033)]) (cs := [.int .i64 i2793, .int .i64 i3033]) rfl rfl) ?_
                  refine a_two 1 11 rfl rfl rfl rfl (by kernel_rfl) rfl rfl (ev_q rfl (q_ldb Y24 rfl (fun w h => h.zae (i := 5) rfl) rfl)) (fun s w h => zab [some 0, none, some 2, some 3, some 4, none, some 6] (by decide) w h rfl) (e_lit (vs := [(0, .agg #[.int .i64 i2793, .int .i64 i3033])]) (cs := [.int .i64 i2793, .int .i64 i3033]) kStep ([(⟨i2793, i3033⟩ : SStep)] : List SStep) Tryz.underlying24 I72 (by decide) rfl (by decide) rfl rfl (fun _ _ => reps_flat _)) (fun s w h => zab [some 1, none, some 3, some 4, some 5, none, some 7] (by decide) w h rfl) (fun _ => ?_) (cur2 (fun A3152 c3153 => ?_))
                  · skip
                    refine a_one 11 rfl rfl (by kernel_rfl) rfl (e_lit (vs := [(0, .agg #[.int .i64 i2793, .int .i64 i3033])]) (cs := [.int .i64 i2793, .int .i64 i3033]) kStep ([(⟨i2793, i3033⟩ : SStep)] : List SStep) Tryz.underlying24 I72 (by decide) rfl (by decide) rfl rfl (fun _ _ => reps_flat _)) (fun s w h => zab [some 1, none, some 3, some 4, some 5, none, some 7] (by decide) w h rfl) (cur2 (fun A3152 c3153 => ?_))
                    refine a_one 12 rfl rfl (by kernel_rfl) rfl (e_app (i := 2) (j := 0) Tryz.underlying24 I72 rfl (by decide) (by decide) rfl rfl rfl rfl rfl ha3213) (fun s w h => zab [some 1, none, some 3, some 4, some 5, none, some 7] (by decide) w h rfl) (cur2 (fun A3214 c3215 => ?_))
                    refine za5 13 rfl rfl rfl (by kernel_rfl) (fun _ _ _ h => h) (q_f F27_1 rfl) ?_
                    refine a_one 14 rfl rfl (by kernel_rfl) rfl (e_store (i := 6) rfl rfl rfl rfl Z24 rfl rfl) (fun s w h => zab [some 1, none, some 3, some 4, some 5, none, some 7] (by decide) w h rfl) (fun _ => ?_)
                    refine zax (by kernel_rfl) ?_
                    refine zal ?_
                    refine za1 ?_
                    refine za0 ?_
                    refine o_q rfl rfl (q_up rfl rfl (hr2478.up hm2479)) ?_
                    refine o_q rfl rfl (za2 rfl) ?_
                    refine o_end ?_
                    refine zam ys2476.length (ys2476, l3212, i2474 + 1, A3214, c3215) (by rw [← hk2484]; exact Nat.lt_succ_self _) ⟨hr2478.step, rfl, h⟩ ⟨rfl, trivial⟩ (fun w h => za7 [2, 3, 4, 5, 6, 7] (by decide) rfl w h) ?_
                    repeat (first | exact zac _ _ | refine zaf rfl ?_ | refine zad rfl ?_ | refine zah rfl ?_)
                  · skip
                    refine a_one 1 rfl rfl (by kernel_rfl) rfl (ev_q rfl (q_ldb Y24 rfl (fun w h => h.zae (i := 6) rfl) rfl)) (fun s w h => zab [some 1, none, some 3, some 4, some 5, none, some 7] (by decide) w h rfl) (fun _ => ?_)
                    refine a_one 12 rfl rfl (by kernel_rfl) rfl (e_app (i := 2) (j := 0) Tryz.underlying24 I72 rfl (by decide) (by decide) rfl rfl rfl rfl rfl ha3213) (fun s w h => zab [some 1, none, some 3, some 4, some 5, none, some 7] (by decide) w h rfl) (cur2 (fun A3214 c3215 => ?_))
                    refine za5 13 rfl rfl rfl (by kernel_rfl) (fun _ _ _ h => h) (q_f F27_1 rfl) ?_
                    refine a_one 14 rfl rfl (by kernel_rfl) rfl (e_store (i := 6) rfl rfl rfl rfl Z24 rfl rfl) (fun s w h => zab [some 1, none, some 3, some 4, some 5, none, some 7] (by decide) w h rfl) (fun _ => ?_)
                    refine zax (by kernel_rfl) ?_
                    refine zal ?_
                    refine za1 ?_
                    refine za0 ?_
                    refine o_q rfl rfl (q_up rfl rfl (hr2478.up hm2479)) ?_
                    refine o_q rfl rfl (za2 rfl) ?_
                    refine o_end ?_
                    refine zam ys2476.length (ys2476, l3212, i2474 + 1, A3214, c3215) (by rw [← hk2484]; exact Nat.lt_succ_self _) ⟨hr2478.step, rfl, h⟩ ⟨rfl, trivial⟩ (fun w h => za7 [2, 3, 4, 5, 6, 7] (by decide) rfl w h) ?_
                    repeat (first | exact zac _ _ | refine zaf rfl ?_ | refine zad rfl ?_ | refine zah rfl ?_)
        · skip
          replace h := br_f hb2463 h
          refine zak ?_
          refine x_nil kStep 72 ?_
          refine zay (([] : List SStep), none, 0) h trivial (fun w h => za7 [1, 3, 0, 4, 2] (by decide) rfl w h) ?_
          repeat (first | exact zac _ _ | refine zaf rfl ?_ | refine zad rfl ?_ | refine zah rfl ?_)
      · skip
        refine (cur3 (fun l2452 A2453 c2454 => fun U2458 hJ2459 => ?_))
        have e_ := Option.some.inj hJ2459; have h := hR2457; rw [← e_] at h; clear e_ hJ2459 hR2457 hl2456
        refine c_seq ?_
        refine za0 ?_
        refine o_q rfl rfl (q_ldB G27 Z27 rfl (fun w h => h.zae (i := 1) rfl) rfl) ?_
        refine o_pick [2, 3, 0, 1, 4] (by decide) rfl ?_
        refine bindE4 h (fun i3453 l3454 l3455 b3456 hx3452 h => ?_) rfl
        refine o_e rfl (za9 2 Z Tryz.func53 N53 rfl rfl rfl (fun w P1 hF hB hS hT => spec_plIf.calls k i730 A2453 c2454 l2452.length l2452 A732 c733 l731.length l731 hB hF _ _ _ _ hx3452)) (cur4 (fun A3457 c3458 A3459 c3460 => ?_))
        refine o_q rfl rfl (q_ext rfl rfl) ?_
        refine o_q rfl rfl (q_ext rfl rfl) ?_
        refine o_e rfl (zat (i := 2) rfl rfl rfl Z27 rfl rfl) (fun _ => ?_)
        refine o_q rfl rfl (q_asg rfl) ?_
        refine o_end ?_
        refine za1 ?_
        refine c_ret ?_
        have e0_ := Option.some.inj h; clear h
        have d0_ := (Prod.mk.inj e0_).1; have e1_ := (Prod.mk.inj e0_).2; clear e0_; subst d0_
        have d1_ := (Prod.mk.inj e1_).1; have e2_ := (Prod.mk.inj e1_).2; clear e1_; subst d1_
        have d2_ := (Prod.mk.inj e2_).1; have e3_ := (Prod.mk.inj e2_).2; clear e2_; subst d2_
        subst e3_
        exact x_r2 (A3457, c3458, A3459, c3460) Tryz.results14 (rv_cell rfl G27 Z27 (fun w h => h.zae (i := 2) rfl) rfl) (zai rfl) rfl (fun w h => za7 [0, 1] (by decide) rfl w h)

/-! ### loop.example/g01098/laws.FnTextsOfPlans: function 3 -/
def laws_FnTextsOfPlans.f (k : Nat) (l0 : List Int) (l1 : List Int) : Option Bool := (laws_big.f l0 l1).bind fun b2 => if b2 = true then (some true) else ((spec_DrawPlanText.f k l0).bind fun (i5, l6, l7) => (impl_PlanText.f k i5 l6 l7).bind fun (s15, b16) => (spec_PlanText.f k i5 l6 l7).bind fun (s18, b19) => if (b16 != b19) = true then (some false) else (if s15 ≠ s18 then (some false) else ((impl_IsPlan.f k i5 l6 l7).bind fun b23 => if (b16 != b23) = true then (some false) else ((if b19 = true then ((impl_ParsePlan.f k s15).bind fun (i48, l49, l50, b51) => if b51 = true then ((laws_pSamePlan.f i48 l49 l50 i5 l6 l7).bind fun b60 => if b60 = true then (some (.inr ())) else (some (.inl false))) else (some (.inl false))) else (some (.inr ())) : Option ((Bool) ⊕ (Unit))).bind fun o_ => match o_ with | .inl r_ => some r_ | .inr _ => (spec_DrawParsePlan.f k l1).bind fun s63 => (impl_ParsePlan.f k s63).bind fun (i65, l66, l67, b68) => (spec_ParsePlan.f k s63).bind fun (i76, l77, l78, b79) => if (b68 != b79) = true then (some false) else ((laws_pSamePlan.f i65 l66 l67 i76 l77 l78).bind fun b88 => if b88 = true then (if b68 = true then ((impl_PlanText.f k i65 l66 l67).bind fun (s92, b93) => if b93 = true then (some (decide (s92 = s63))) else (some false)) else (some true)) else (some false))))))
set_option maxHeartbeats 600000 in
set_option maxRecDepth 100000 in
theorem laws_FnTextsOfPlans.calls (k : Nat) {w0 ws : World} {P0 : Nat → Prop} (A0 : Option Addr) (c0 : Nat) (n0 : Nat) (l0 : List Int) (A1 : Option Addr) (c1 : Nat) (n1 : Nat) (l1 : List Int) (Z : Below w0.heap.size w0 ws) (hF : Fr w0 ws P0 [] ws) (R0 : Stable ws P0 (fun w => Kd.C (Kd.int .u8) w A0 n0 l0)) (hc0 : n0 ≤ c0) (R1 : Stable ws P0 (fun w => Kd.C (Kd.int .u8) w A1 n1 l1)) (hc1 : n1 ≤ c1) (GW : Stable ws P0 GP) (r_1 : Bool) (h : laws_FnTextsOfPlans.f k l0 l1 = some r_1) :
    Calls Tryz.prog 3 #[.slice A0 n0 c0, .slice A1 n1 c1] ws (Post1 w0 ws P0 (fun (_ : Unit) => .bool r_1) (fun (_ : Unit) => [])) := by
  unfold laws_FnTextsOfPlans.f at h
  obtain rfl := (R0 ws (KeptB.refl _ _)).1
  obtain rfl := (R1 ws (KeptB.refl _ _)).1
  refine enter Tryz.func3 rfl Tryz.ntmps3 rfl hF ?_
  refine c_seq ?_
  refine za0 ?_
  refine o_q rfl rfl (q_asg rfl) ?_
  refine o_end ?_
  refine za1 ?_
  refine c_seq ?_
  refine c_seq ?_
  refine za0 ?_
  refine o_q rfl rfl (za2 rfl) ?_
  refine o_q rfl rfl (za2 rfl) ?_
  refine za6 h (fun b2 hx1 h => ?_) rfl
  refine o_e rfl (za9 0 Z Tryz.func6 N6 rfl rfl rfl (fun w P1 hF hB hS hT => laws_big.calls A0 c0 l0.length l0 A1 c1 l1.length l1 hB hF (hS _ R0) hc0 (hS _ R1) hc1 _ hx1)) (fun _ => ?_)
  refine o_end ?_
  refine za1 ?_
  refine zaq _ rfl (fun hb3 => ?_) (fun hb3 => ?_)
  · skip
    replace h := bb_t hb3 h
    refine c_seq ?_
    refine za0 ?_
    refine o_q rfl rfl (q_asg rfl) ?_
    refine o_end ?_
    refine za1 ?_
    refine c_ret ?_
    refine za8 ?_
    have e0_ := Option.some.inj h; clear h
    subst e0_
    exact x_r1 () Tryz.results3 (zai rfl) rfl (fun w h => za7 [] (by decide) rfl w h)
  · skip
    replace h := bb_f hb3 h
    refine zak ?_
    refine za1 ?_
    refine c_seq ?_
    refine za0 ?_
    refine o_q rfl rfl (za2 rfl) ?_
    refine bindE3 h (fun i5 l6 l7 hx4 h => ?_) rfl
    refine o_e rfl (za9 0 Z Tryz.func7 N7 rfl rfl rfl (fun w P1 hF hB hS hT => spec_DrawPlanText.calls k A0 c0 l0.length l0 hB hF (hS _ R0) hc0 _ _ _ hx4)) (cur4 (fun A8 c9 A10 c11 => ?_))
    refine o_e rfl (e_alloc V27 rfl) (fun g12 => ?_)
    refine o_e rfl (zat (i := 0) rfl rfl rfl Z27 rfl rfl) (fun _ => ?_)
    refine o_end ?_
    refine za1 ?_
    refine c_seq ?_
    refine za0 ?_
    refine o_q rfl rfl (q_ldB G27 Z27 rfl (fun w h => h.zae (i := 0) rfl) rfl) ?_
    refine bindE2 h (fun s15 b16 hx14 h => ?_) rfl
    refine o_e rfl (za9 0 Z Tryz.func8 N8 rfl rfl rfl (fun w P1 hF hB hS hT => impl_PlanText.calls k i5 A8 c9 l6.length l6 A10 c11 l7.length l7 hB hF (hT 1 _ rfl).row (hT 1 _ rfl).cap (hT 2 _ rfl).row (hT 2 _ rfl).cap _ _ hx14)) (fun _ => ?_)
    refine o_q rfl rfl (za2 rfl) ?_
    refine o_q rfl rfl (q_ext rfl rfl) ?_
    refine o_q rfl rfl (q_ext rfl rfl) ?_
    refine o_q rfl rfl (q_asg rfl) ?_
    refine o_q rfl rfl (q_asg rfl) ?_
    refine o_end ?_
    refine za1 ?_
    refine c_seq ?_
    refine za0 ?_
    refine o_q rfl rfl (q_ldB G27 Z27 rfl (fun w h => h.zae (i := 0) rfl) rfl) ?_
    refine bindE2 h (fun s18 b19 hx17 h => ?_) rfl
    refine o_e rfl (za9 0 Z Tryz.func9 N9 rfl rfl rfl (fun w P1 hF hB hS hT => spec_PlanText.calls k i5 A8 c9 l6.length l6 A10 c11 l7.length l7 hB hF (hT 1 _ rfl).row (hT 1 _ rfl).cap (hT 2 _ rfl).row (hT 2 _ rfl).cap _ _ hx17)) (fun _ => ?_)
    refine o_q rfl rfl (za2 rfl) ?_
    refine o_q rfl rfl (q_ext rfl rfl) ?_
    refine o_q rfl rfl (q_ext rfl rfl) ?_
    refine o_q rfl rfl (q_asg rfl) ?_
    refine o_q rfl rfl (q_asg rfl) ?_
    refine o_end ?_
    refine za1 ?_
    refine c_seq ?_
    refine c_seq ?_
    refine za0 ?_
    refine o_q rfl rfl (za2 rfl) ?_
    refine o_q rfl rfl (za2 rfl) ?_
    refine o_q rfl rfl (q_bneq Tryz.underlying4 rfl rfl) ?_
    refine o_q rfl rfl (za2 rfl) ?_
    refine byB (b16 != b19) (fun hb20 => ?_) (fun hb20 => ?_)
    · replace h := bb_t hb20 h
      refine @o_n _ _ _ _ _ _ _ _ _ _ _ 38 (za3 rfl rfl rfl (congrArg Value.bool hb20) rfl) (Eq.refl (some 38)) ?_
      refine @o_n _ _ _ _ _ _ _ _ _ _ _ 39 (za3 rfl rfl rfl (congrArg Value.bool hb20) rfl) (Eq.refl (some 39)) ?_
      refine @o_n _ _ _ _ _ _ _ _ _ _ _ 40 (za3 rfl rfl rfl (congrArg Value.bool hb20) rfl) (Eq.refl (some 40)) ?_
      refine o_q rfl rfl (zaw true (congrArg Value.bool hb20) rfl) ?_
      refine o_q rfl rfl (za2 rfl) ?_
      refine @o_n _ _ _ _ _ _ _ _ _ _ _ 43 (za3 rfl rfl rfl rfl rfl) (Eq.refl (some 43)) ?_
      refine @o_n _ _ _ _ _ _ _ _ _ _ _ 44 (za3 rfl rfl rfl rfl rfl) (Eq.refl (some 44)) ?_
      refine @o_n _ _ _ _ _ _ _ _ _ _ _ 45 (za3 rfl rfl rfl rfl rfl) (Eq.refl (some 45)) ?_
      refine @o_n _ _ _ _ _ _ _ _ _ _ _ 46 (za3 rfl rfl rfl rfl rfl) (Eq.refl (some 46)) ?_
      refine o_q rfl rfl (zaw true rfl rfl) ?_
      refine o_end ?_
      refine za1 ?_
      refine c_true rfl ?_
      refine c_seq ?_
      refine za0 ?_
      refine o_q rfl rfl (q_asg rfl) ?_
      refine o_end ?_
      refine za1 ?_
      refine c_ret ?_
      refine za8 ?_
      have e0_ := Option.some.inj h; clear h
      subst e0_
      exact x_r1 () Tryz.results3 (zai rfl) rfl (fun w h => za7 [] (by decide) rfl w h)
    · replace h := bb_f hb20 h
      refine o_w (za4 rfl rfl rfl (congrArg Value.bool hb20)) rfl (za2 rfl) ?_
      refine o_w (za4 rfl rfl rfl (congrArg Value.bool hb20)) rfl (za2 rfl) ?_
      refine o_w (za4 rfl rfl rfl (congrArg Value.bool hb20)) rfl (q_sneq rfl rfl) ?_
      refine o_q rfl rfl (zaw false (congrArg Value.bool hb20) rfl) ?_
      refine o_q rfl rfl (za2 rfl) ?_
      refine byB (decide (s15 ≠ s18)) (fun hb21 => ?_) (fun hb21 => ?_)
      · replace h := br_t hb21 h
        refine @o_n _ _ _ _ _ _ _ _ _ _ _ 43 (za3 rfl rfl rfl (congrArg Value.bool hb21) rfl) (Eq.refl (some 43)) ?_
        refine @o_n _ _ _ _ _ _ _ _ _ _ _ 44 (za3 rfl rfl rfl (congrArg Value.bool hb21) rfl) (Eq.refl (some 44)) ?_
        refine @o_n _ _ _ _ _ _ _ _ _ _ _ 45 (za3 rfl rfl rfl (congrArg Value.bool hb21) rfl) (Eq.refl (some 45)) ?_
        refine @o_n _ _ _ _ _ _ _ _ _ _ _ 46 (za3 rfl rfl rfl (congrArg Value.bool hb21) rfl) (Eq.refl (some 46)) ?_
        refine o_q rfl rfl (zaw true (congrArg Value.bool hb21) rfl) ?_
        refine o_end ?_
        refine za1 ?_
        refine c_true rfl ?_
        refine c_seq ?_
        refine za0 ?_
        refine o_q rfl rfl (q_asg rfl) ?_
        refine o_end ?_
        refine za1 ?_
        refine c_ret ?_
        refine za8 ?_
        have e0_ := Option.some.inj h; clear h
        subst e0_
        exact x_r1 () Tryz.results3 (zai rfl) rfl (fun w h => za7 [] (by decide) rfl w h)
      · replace h := br_f hb21 h
        refine o_w (za4 rfl rfl rfl (congrArg Value.bool hb21)) rfl (za2 rfl) ?_
        refine o_w (za4 rfl rfl rfl (congrArg Value.bool hb21)) rfl (q_ldB G27 Z27 rfl (fun w h => h.zae (i := 0) rfl) rfl) ?_
        refine za6 h (fun b23 hx22 h => ?_) rfl
        refine o_ew (za4 rfl rfl rfl (congrArg Value.bool hb21)) (za9 0 Z Tryz.func10 N10 rfl rfl rfl (fun w P1 hF hB hS hT => impl_IsPlan.calls k i5 A8 c9 l6.length l6 A10 c11 l7.length l7 hB hF (hT 1 _ rfl).row (hT 1 _ rfl).cap (hT 2 _ rfl).row (hT 2 _ rfl).cap _ hx22)) (fun _ => ?_)
        refine o_w (za4 rfl rfl rfl (congrArg Value.bool hb21)) rfl (q_bneq Tryz.underlying4 rfl rfl) ?_
        refine o_q rfl rfl (zaw false (congrArg Value.bool hb21) rfl) ?_
        refine o_end ?_
        refine za1 ?_
        refine zaq _ rfl (fun hb24 => ?_) (fun hb24 => ?_)
        · skip
          replace h := bb_t hb24 h
          refine c_seq ?_
          refine za0 ?_
          refine o_q rfl rfl (q_asg rfl) ?_
          refine o_end ?_
          refine za1 ?_
          refine c_ret ?_
          refine za8 ?_
          have e0_ := Option.some.inj h; clear h
          subst e0_
          exact x_r1 () Tryz.results3 (zai rfl) rfl (fun w h => za7 [] (by decide) rfl w h)
        · skip
          replace h := bb_f hb24 h
          refine zak ?_
          refine za1 ?_
          refine za6 h (fun o41 hl42 hR43 => ?_) rfl
          clear h
          refine c_cutJ (σ := Unit) (fun _ => some (.inr ()) = some o41) [4, 10, 11, 48, 49, 50, 51, 52, 53, 54, 55, 56, 57, 58, 59, 60, 61] (fun _ => []) (fun _ => [box g12 27 #[.int .i64 i5, .slice A8 l6.length c9, .slice A10 l7.length c11], row kStep 72 (.slice A8 l6.length c9) l6, row (Kd.int .i64) 3 (.slice A10 l7.length c11) l7]) ?_ ?_
          · skip
            have h := hl42; clear hl42
            refine c_seq ?_
            refine za0 ?_
            refine o_q rfl rfl (za2 rfl) ?_
            refine o_end ?_
            refine za1 ?_
            refine zaq _ rfl (fun hb46 => ?_) (fun hb46 => ?_)
            · skip
              replace h := bb_t hb46 h
              refine c_seq ?_
              refine za0 ?_
              refine o_q rfl rfl (za2 rfl) ?_
              refine bindE4 h (fun i48 l49 l50 b51 hx47 h => ?_) rfl
              refine o_e rfl (za9 0 Z Tryz.func11 N11 rfl rfl rfl (fun w P1 hF hB hS hT => impl_ParsePlan.calls k s15 hB hF (hS _ GW) _ _ _ _ hx47)) (cur4 (fun A52 c53 A54 c55 => ?_))
              refine o_q rfl rfl (za2 rfl) ?_
              refine o_q rfl rfl (q_ext rfl rfl) ?_
              refine o_q rfl rfl (q_ext rfl rfl) ?_
              refine o_e rfl (e_alloc V27 rfl) (fun g56 => ?_)
              refine o_e rfl (zat (i := 0) rfl rfl rfl Z27 rfl rfl) (fun _ => ?_)
              refine o_q rfl rfl (q_asg rfl) ?_
              refine o_end ?_
              refine za1 ?_
              refine c_seq ?_
              refine za0 ?_
              refine o_q rfl rfl (za2 rfl) ?_
              refine o_q rfl rfl (q_not rfl) ?_
              refine o_q rfl rfl (za2 rfl) ?_
              refine byB b51 (fun hb58 => ?_) (fun hb58 => ?_)
              · replace h := bb_t hb58 h
                refine o_w (za4 rfl rfl rfl (congrArg (fun b => Value.bool (!(b))) hb58)) rfl (q_ldB G27 Z27 rfl (fun w h => h.zae (i := 0) rfl) rfl) ?_
                refine o_w (za4 rfl rfl rfl (congrArg (fun b => Value.bool (!(b))) hb58)) rfl (q_ldB G27 Z27 rfl (fun w h => h.zae (i := 3) rfl) rfl) ?_
                refine za6 h (fun b60 hx59 h => ?_) rfl
                refine o_ew (za4 rfl rfl rfl (congrArg (fun b => Value.bool (!(b))) hb58)) (za9 0 Z Tryz.func12 N12 rfl rfl rfl (fun w P1 hF hB hS hT => laws_pSamePlan.calls i48 A52 c53 l49.length l49 A54 c55 l50.length l50 i5 A8 c9 l6.length l6 A10 c11 l7.length l7 hB hF (hT 1 _ rfl).row (hT 1 _ rfl).cap (hT 2 _ rfl).row (hT 2 _ rfl).cap (hT 4 _ rfl).row (hT 4 _ rfl).cap (hT 5 _ rfl).row (hT 5 _ rfl).cap _ hx59)) (fun _ => ?_)
                refine o_w (za4 rfl rfl rfl (congrArg (fun b => Value.bool (!(b))) hb58)) rfl (q_not rfl) ?_
                refine o_q rfl rfl (zaw false (congrArg (fun b => Value.bool (!(b))) hb58) rfl) ?_
                refine o_end ?_
                refine za1 ?_
                refine zaq _ rfl (fun hb61 => ?_) (fun hb61 => ?_)
                · replace hb61 := nt_t hb61
                  replace h := bb_f hb61 h
                  refine c_seq ?_
                  refine za0 ?_
                  refine o_q rfl rfl (q_asg rfl) ?_
                  refine o_end ?_
                  refine za1 ?_
                  refine c_ret ?_
                  refine za8 ?_
                  have e_ := Option.some.inj h; replace h := hR43; rw [← e_] at h; clear e_
                  have e0_ := Option.some.inj h; clear h
                  subst e0_
                  exact x_r1 () Tryz.results3 (zai rfl) rfl (fun w h => za7 [] (by decide) rfl w h)
                · replace hb61 := nt_f hb61
                  replace h := bb_t hb61 h
                  refine zak ?_
                  refine zay () h trivial (fun w h => za7 [3, 4, 5] (by decide) rfl w h) ?_
                  repeat (first | exact zac _ _ | refine zaf rfl ?_ | refine zad rfl ?_ | refine zah rfl ?_)
              · replace h := bb_f hb58 h
                refine @o_n _ _ _ _ _ _ _ _ _ _ _ 57 (za3 rfl rfl rfl (congrArg (fun b => Value.bool (!(b))) hb58) rfl) (Eq.refl (some 57)) ?_
                refine @o_n _ _ _ _ _ _ _ _ _ _ _ 58 (za3 rfl rfl rfl (congrArg (fun b => Value.bool (!(b))) hb58) rfl) (Eq.refl (some 58)) ?_
                refine @o_n _ _ _ _ _ _ _ _ _ _ _ 59 (za3 rfl rfl rfl (congrArg (fun b => Value.bool (!(b))) hb58) rfl) (Eq.refl (some 59)) ?_
                refine @o_n _ _ _ _ _ _ _ _ _ _ _ 60 (za3 rfl rfl rfl (congrArg (fun b => Value.bool (!(b))) hb58) rfl) (Eq.refl (some 60)) ?_
                refine o_q rfl rfl (zaw true (congrArg (fun b => Value.bool (!(b))) hb58) rfl) ?_
                refine o_end ?_
                refine za1 ?_
                refine c_true rfl ?_
                refine c_seq ?_
                refine za0 ?_
                refine o_q rfl rfl (q_asg rfl) ?_
                refine o_end ?_
                refine za1 ?_
                refine c_ret ?_
                refine za8 ?_
                have e_ := Option.some.inj h; replace h := hR43; rw [← e_] at h; clear e_
                have e0_ := Option.some.inj h; clear h
                subst e0_
                exact x_r1 () Tryz.results3 (zai rfl) rfl (fun w h => za7 [] (by decide) rfl w h)
            · skip
              replace h := bb_f hb46 h
              refine zak ?_
              refine zay () h trivial (fun w h => za7 [0, 1, 2] (by decide) rfl w h) ?_
              repeat (first | exact zac _ _ | refine zaf rfl ?_ | refine zad rfl ?_ | refine zah rfl ?_)
          · skip
            refine (fun _ => fun U44 hJ45 => ?_)
            have e_ := Option.some.inj hJ45; have h := hR43; rw [← e_] at h; clear e_ hJ45 hR43 hl42
            refine c_seq ?_
            refine za0 ?_
            refine o_q rfl rfl (za2 rfl) ?_
            refine za6 h (fun s63 hx62 h => ?_) rfl
            refine o_e rfl (za9 0 Z Tryz.func13 N13 rfl rfl rfl (fun w P1 hF hB hS hT => spec_DrawParsePlan.calls k A1 c1 l1.length l1 hB hF (hS _ R1) hc1 _ hx62)) (fun _ => ?_)
            refine o_q rfl rfl (q_asg rfl) ?_
            refine o_end ?_
            refine za1 ?_
            refine c_seq ?_
            refine za0 ?_
            refine o_q rfl rfl (za2 rfl) ?_
            refine bindE4 h (fun i65 l66 l67 b68 hx64 h => ?_) rfl
            refine o_e rfl (za9 0 Z Tryz.func11 N11 rfl rfl rfl (fun w P1 hF hB hS hT => impl_ParsePlan.calls k s63 hB hF (hS _ GW) _ _ _ _ hx64)) (cur4 (fun A69 c70 A71 c72 => ?_))
            refine o_q rfl rfl (za2 rfl) ?_
            refine o_q rfl rfl (q_ext rfl rfl) ?_
            refine o_q rfl rfl (q_ext rfl rfl) ?_
            refine o_e rfl (e_alloc V27 rfl) (fun g73 => ?_)
            refine o_e rfl (zat (i := 0) rfl rfl rfl Z27 rfl rfl) (fun _ => ?_)
            refine o_q rfl rfl (q_asg rfl) ?_
            refine o_end ?_
            refine za1 ?_
            refine c_seq ?_
            refine za0 ?_
            refine o_q rfl rfl (za2 rfl) ?_
            refine bindE4 h (fun i76 l77 l78 b79 hx75 h => ?_) rfl
            refine o_e rfl (za9 0 Z Tryz.func14 N14 rfl rfl rfl (fun w P1 hF hB hS hT => spec_ParsePlan.calls k s63 hB hF _ _ _ _ hx75)) (cur4 (fun A80 c81 A82 c83 => ?_))
            refine o_q rfl rfl (za2 rfl) ?_
            refine o_q rfl rfl (q_ext rfl rfl) ?_
            refine o_q rfl rfl (q_ext rfl rfl) ?_
            refine o_e rfl (e_alloc V27 rfl) (fun g84 => ?_)
            refine o_e rfl (zat (i := 0) rfl rfl rfl Z27 rfl rfl) (fun _ => ?_)
            refine o_q rfl rfl (q_asg rfl) ?_
            refine o_end ?_
            refine za1 ?_
            refine c_seq ?_
            refine c_seq ?_
            refine za0 ?_
            refine o_q rfl rfl (za2 rfl) ?_
            refine o_q rfl rfl (za2 rfl) ?_
            refine o_q rfl rfl (q_bneq Tryz.underlying4 rfl rfl) ?_
            refine o_q rfl rfl (za2 rfl) ?_
            refine byB (b68 != b79) (fun hb86 => ?_) (fun hb86 => ?_)
            · replace h := bb_t hb86 h
              refine @o_n _ _ _ _ _ _ _ _ _ _ _ 78 (za3 rfl rfl rfl (congrArg Value.bool hb86) rfl) (Eq.refl (some 78)) ?_
              refine @o_n _ _ _ _ _ _ _ _ _ _ _ 79 (za3 rfl rfl rfl (congrArg Value.bool hb86) rfl) (Eq.refl (some 79)) ?_
              refine @o_n _ _ _ _ _ _ _ _ _ _ _ 80 (za3 rfl rfl rfl (congrArg Value.bool hb86) rfl) (Eq.refl (some 80)) ?_
              refine @o_n _ _ _ _ _ _ _ _ _ _ _ 81 (za3 rfl rfl rfl (congrArg Value.bool hb86) rfl) (Eq.refl (some 81)) ?_
              refine o_q rfl rfl (zaw true (congrArg Value.bool hb86) rfl) ?_
              refine o_end ?_
              refine za1 ?_
              refine c_true rfl ?_
              refine c_seq ?_
              refine za0 ?_
              refine o_q rfl rfl (q_asg rfl) ?_
              refine o_end ?_
              refine za1 ?_
              refine c_ret ?_
              refine za8 ?_
              have e0_ := Option.some.inj h; clear h
              subst e0_
              exact x_r1 () Tryz.results3 (zai rfl) rfl (fun w h => za7 [] (by decide) rfl w h)
            · replace h := bb_f hb86 h
              refine o_w (za4 rfl rfl rfl (congrArg Value.bool hb86)) rfl (q_ldB G27 Z27 rfl (fun w h => h.zae (i := 3) rfl) rfl) ?_
              refine o_w (za4 rfl rfl rfl (congrArg Value.bool hb86)) rfl (q_ldB G27 Z27 rfl (fun w h => h.zae (i := 0) rfl) rfl) ?_
              refine za6 h (fun b88 hx87 h => ?_) rfl
              refine o_ew (za4 rfl rfl rfl (congrArg Value.bool hb86)) (za9 0 Z Tryz.func12 N12 rfl rfl rfl (fun w P1 hF hB hS hT => laws_pSamePlan.calls i65 A69 c70 l66.length l66 A71 c72 l67.length l67 i76 A80 c81 l77.length l77 A82 c83 l78.length l78 hB hF (hT 4 _ rfl).row (hT 4 _ rfl).cap (hT 5 _ rfl).row (hT 5 _ rfl).cap (hT 1 _ rfl).row (hT 1 _ rfl).cap (hT 2 _ rfl).row (hT 2 _ rfl).cap _ hx87)) (fun _ => ?_)
              refine o_w (za4 rfl rfl rfl (congrArg Value.bool hb86)) rfl (q_not rfl) ?_
              refine o_q rfl rfl (zaw false (congrArg Value.bool hb86) rfl) ?_
              refine o_end ?_
              refine za1 ?_
              refine zaq _ rfl (fun hb89 => ?_) (fun hb89 => ?_)
              · replace hb89 := nt_t hb89
                replace h := bb_f hb89 h
                refine c_seq ?_
                refine za0 ?_
                refine o_q rfl rfl (q_asg rfl) ?_
                refine o_end ?_
                refine za1 ?_
                refine c_ret ?_
                refine za8 ?_
                have e0_ := Option.some.inj h; clear h
                subst e0_
                exact x_r1 () Tryz.results3 (zai rfl) rfl (fun w h => za7 [] (by decide) rfl w h)
              · replace hb89 := nt_f hb89
                replace h := bb_t hb89 h
                refine zak ?_
                refine za1 ?_
                refine c_seq ?_
                refine c_seq ?_
                refine za0 ?_
                refine o_q rfl rfl (za2 rfl) ?_
                refine o_q rfl rfl (q_not rfl) ?_
                refine o_end ?_
                refine za1 ?_
                refine zaq _ rfl (fun hb90 => ?_) (fun hb90 => ?_)
                · replace hb90 := nt_t hb90
                  replace h := bb_f hb90 h
                  refine c_seq ?_
                  refine za0 ?_
                  refine o_q rfl rfl (q_asg rfl) ?_
                  refine o_end ?_
                  refine za1 ?_
                  refine c_ret ?_
                  refine za8 ?_
                  have e0_ := Option.some.inj h; clear h
                  subst e0_
                  exact x_r1 () Tryz.results3 (zai rfl) rfl (fun w h => za7 [] (by decide) rfl w h)
                · replace hb90 := nt_f hb90
                  replace h := bb_t hb90 h
                  refine zak ?_
                  refine za1 ?_
                  refine c_seq ?_
                  refine za0 ?_
                  refine o_q rfl rfl (q_ldB G27 Z27 rfl (fun w h => h.zae (i := 3) rfl) rfl) ?_
                  refine bindE2 h (fun s92 b93 hx91 h => ?_) rfl
                  refine o_e rfl (za9 0 Z Tryz.func8 N8 rfl rfl rfl (fun w P1 hF hB hS hT => impl_PlanText.calls k i65 A69 c70 l66.length l66 A71 c72 l67.length l67 hB hF (hT 4 _ rfl).row (hT 4 _ rfl).cap (hT 5 _ rfl).row (hT 5 _ rfl).cap _ _ hx91)) (fun _ => ?_)
                  refine o_q rfl rfl (za2 rfl) ?_
                  refine o_q rfl rfl (q_ext rfl rfl) ?_
                  refine o_q rfl rfl (q_ext rfl rfl) ?_
                  refine o_q rfl rfl (q_asg rfl) ?_
                  refine o_q rfl rfl (q_asg rfl) ?_
                  refine o_end ?_
                  refine za1 ?_
                  refine c_seq ?_
                  refine za0 ?_
                  refine o_q rfl rfl (za2 rfl) ?_
                  refine o_q rfl rfl (za2 rfl) ?_
                  refine byB b93 (fun hb94 => ?_) (fun hb94 => ?_)
                  · replace h := bb_t hb94 h
                    refine o_w (za4 rfl rfl rfl (congrArg Value.bool hb94)) rfl (za2 rfl) ?_
                    refine o_w (za4 rfl rfl rfl (congrArg Value.bool hb94)) rfl (za2 rfl) ?_
                    refine o_w (za4 rfl rfl rfl (congrArg Value.bool hb94)) rfl (q_seql rfl rfl) ?_
                    refine o_q rfl rfl (zaw true (congrArg Value.bool hb94) rfl) ?_
                    refine o_q rfl rfl (q_asg rfl) ?_
                    refine o_end ?_
                    refine za1 ?_
                    refine c_ret ?_
                    have e0_ := Option.some.inj h; clear h
                    subst e0_
                    exact x_r1 () Tryz.results3 (zai rfl) rfl (fun w h => za7 [] (by decide) rfl w h)
                  · replace h := bb_f hb94 h
                    refine @o_n _ _ _ _ _ _ _ _ _ _ _ 92 (za3 rfl rfl rfl (congrArg Value.bool hb94) rfl) (Eq.refl (some 92)) ?_
                    refine @o_n _ _ _ _ _ _ _ _ _ _ _ 93 (za3 rfl rfl rfl (congrArg Value.bool hb94) rfl) (Eq.refl (some 93)) ?_
                    refine @o_n _ _ _ _ _ _ _ _ _ _ _ 94 (za3 rfl rfl rfl (congrArg Value.bool hb94) rfl) (Eq.refl (some 94)) ?_
                    refine o_q rfl rfl (zaw false (congrArg Value.bool hb94) rfl) ?_
                    refine o_q rfl rfl (q_asg rfl) ?_
                    refine o_end ?_
                    refine za1 ?_
                    refine c_ret ?_
                    have e0_ := Option.some.inj h; clear h
                    subst e0_
                    exact x_r1 () Tryz.results3 (zai rfl) rfl (fun w h => za7 [] (by decide) rfl w h)

/-- THE ONE PURE STATEMENT of laws_FnTextsOfPlans. -/
def laws_FnTextsOfPlans.Pure : Prop := ∀ (l0 : List Int) (l1 : List Int), l0.length ≤ maxLen → (∀ y ∈ l0, (Lit.int .u8 y).wf = true) → l1.length ≤ maxLen → (∀ y ∈ l1, (Lit.int .u8 y).wf = true) → ∃ k, laws_FnTextsOfPlans.f k l0 l1 = some true
theorem laws_FnTextsOfPlans.walk (P : laws_FnTextsOfPlans.Pure) (A0 : Option Addr) (c0 : Nat) (l0 : List Int) (A1 : Option Addr) (c1 : Nat) (l1 : List Int) (w : World) (hG : GP w) (hr0 : Kd.C (Kd.int .u8) w A0 l0.length l0) (hc0 : l0.length ≤ c0) (hr1 : Kd.C (Kd.int .u8) w A1 l1.length l1) (hc1 : l1.length ≤ c1) (q0 : l0.length ≤ maxLen) (q1 : (∀ y ∈ l0, (Lit.int .u8 y).wf = true)) (q2 : l1.length ≤ maxLen) (q3 : (∀ y ∈ l1, (Lit.int .u8 y).wf = true)) :
    Calls Tryz.prog 3 #[.slice A0 l0.length c0, .slice A1 l1.length c1] w fun e w' => e = .returned (.bool true) ∧ Below w.heap.size w w' := by
  obtain ⟨k, h⟩ := P l0 l1 q0 q1 q2 q3
  refine (laws_FnTextsOfPlans.calls k A0 c0 l0.length l0 A1 c1 l1.length l1 (Below.refl _ _) (Fr.start w) (fun W hW => Kd.C_below hr0 hW.below) hc0 (fun W hW => Kd.C_below hr1 hW.below) hc1 (fun W hW => GP_below hG hW.below) true h).mono ?_
  rintro e w' ⟨s, rfl, hF⟩
  exact ⟨rfl, hF.bel⟩
end Go.Proofs.YtnnlfipcoahcnaaGreatDoor.G2
