import Derived.Test.YtdicngjloiphkaaKFnAllocatedCodeL7p3
namespace Go.Proofs.Ytdicngjloiphkaa.L7
open Go.RowKit Go.Proofs.Ytdicngjloiphkaa.Frame Go.Proofs.YtdicngjloiphkaaW.PrintLast Go.Proofs.Ytdicngjloiphkaa.Hand
open Go.Proofs.YtdicngjloiphkaaW.PrintWords hiding mn mx
set_option linter.unusedVariables false
/-! ### loop.example/g01098/laws.rSame: function 15 -/
def laws_rSame.l0 (l1 : List Int) : (List Int) → Int → Option ((Bool) ⊕ (Unit))
  | [], i2 => some (.inr ())
  | y3 :: ys4, i2 => (gt l1 i2).bind fun y16 => if y3 ≠ y16 then (some (.inl false)) else (laws_rSame.l0 l1 ys4 (i2 + 1))
def laws_rSame.f (l0 : List Int) (l1 : List Int) : Option Bool := if (l0.length : Int) ≠ (l1.length : Int) then (some false) else ((laws_rSame.l0 l1 l0 0).bind fun o_ => match o_ with | .inl r_ => some r_ | .inr _ => some true)
set_option maxHeartbeats 600000 in
set_option maxRecDepth 100000 in
theorem laws_rSame.calls {w0 ws : World} {P0 : Nat → Prop} (A0 : Option Addr) (c0 : Nat) (n0 : Nat) (l0 : List Int) (A1 : Option Addr) (c1 : Nat) (n1 : Nat) (l1 : List Int) (Z : Below w0.heap.size w0 ws) (hF : Fr w0 ws P0 [] ws) (R0 : Stable ws P0 (fun w => Kd.C (Kd.int .i64) w A0 n0 l0)) (hc0 : n0 ≤ c0) (R1 : Stable ws P0 (fun w => Kd.C (Kd.int .i64) w A1 n1 l1)) (hc1 : n1 ≤ c1) (r_1 : Bool) (h : laws_rSame.f l0 l1 = some r_1) :
    Calls Try.prog 15 #[.slice A0 n0 c0, .slice A1 n1 c1] ws (Post1 w0 ws P0 (fun (_ : Unit) => .bool r_1) (fun (_ : Unit) => [])) := by
  unfold laws_rSame.f at h
  obtain rfl := (R0 ws (KeptB.refl _ _)).1
  obtain rfl := (R1 ws (KeptB.refl _ _)).1
  refine enter Try.func15 rfl Try.ntmps15 rfl hF ?_
  refine c_seq ?_
  refine za0 ?_
  refine o_q rfl rfl (q_asg rfl) ?_
  refine o_end ?_
  refine za1 ?_
  refine c_seq ?_
  refine c_seq ?_
  refine za0 ?_
  refine o_q rfl rfl (za3 rfl) ?_
  refine o_q rfl rfl (q_len Try.underlying25 rfl) ?_
  refine o_q rfl rfl (za3 rfl) ?_
  refine o_q rfl rfl (q_len Try.underlying25 rfl) ?_
  refine o_q rfl rfl (q_neq rfl rfl) ?_
  refine o_end ?_
  refine za1 ?_
  refine zav _ rfl (fun hb1 => ?_) (fun hb1 => ?_)
  · skip
    replace h := br_t hb1 h
    refine c_seq ?_
    refine za0 ?_
    refine o_q rfl rfl (q_asg rfl) ?_
    refine o_end ?_
    refine za1 ?_
    refine c_ret ?_
    refine zaa ?_
    have e0_ := Option.some.inj h; clear h
    subst e0_
    exact x_r1 () Try.results15 (zai rfl) rfl (fun w h => za6 [] (by decide) rfl w h)
  · skip
    replace h := br_f hb1 h
    refine zan ?_
    refine za1 ?_
    refine c_seq ?_
    refine c_seq ?_
    refine za0 ?_
    refine o_q rfl rfl (za3 rfl) ?_
    refine o_q rfl rfl (q_len Try.underlying25 rfl) ?_
    refine o_q rfl rfl (za3 rfl) ?_
    refine o_end ?_
    refine za1 ?_
    refine zaj ?_
    refine za7 h (fun o10 hl9 hR8 => ?_) rfl
    clear h
    refine c_fact (p := l0.length ≤ 9223372036854775807) (fun w h => (R0.now Z h).2.1) (fun hm7 => ?_)
    refine zax (σ := (List Int) × Int) (fun k5 ((ys4, i2) : (List Int) × Int) => Rg l0 i2 ys4 ∧ ys4.length = k5 ∧ laws_rSame.l0 l1 ys4 i2 = some o10) [4, 5, 13, 14, 15, 16, 17, 18, 19, 20, 21, 22, 23, 24, 25] (fun ((ys4, i2) : (List Int) × Int) => [(13, .int .i64 i2)]) (fun ((ys4, i2) : (List Int) × Int) => []) l0.length (l0, 0) ⟨Rg.start _, rfl, hl9⟩ ⟨rfl, trivial⟩ (fun w h => h) ?_
    refine fun k5 => cur2 (listC (fun i2 U11 hJ_ => ?_) (fun y3 ys4 i2 U11 hJ_ => ?_))
    · skip
      clear hl9
      have hr6 := hJ_.1; have hk12 := hJ_.2.1; have h := hJ_.2.2; clear hJ_
      replace h : laws_rSame.l0 l1 [] i2 = some o10 := h
      rw [laws_rSame.l0] at h
      refine c_seq ?_
      refine za0 ?_
      refine o_q rfl rfl (q_lss rfl rfl) ?_
      refine o_end ?_
      refine za1 ?_
      refine c_seq ?_
      refine zb2 (congrArg Value.bool hr6.ge) ?_
      refine zb4 ?_
      refine za5 ?_
      refine za5 ?_
      have e_ := Option.some.inj h; replace h := hR8; rw [← e_] at h; clear e_
      refine x_hit ?_
      refine za1 ?_
      refine c_seq ?_
      refine za0 ?_
      refine o_q rfl rfl (q_asg rfl) ?_
      refine o_end ?_
      refine za1 ?_
      refine c_ret ?_
      have e0_ := Option.some.inj h; clear h
      subst e0_
      exact x_r1 () Try.results15 (zai rfl) rfl (fun w h => za6 [] (by decide) rfl w h)
    · skip
      clear hl9
      have hr6 := hJ_.1; have hk12 := hJ_.2.1; have h := hJ_.2.2; clear hJ_
      replace h : laws_rSame.l0 l1 (y3 :: ys4) i2 = some o10 := h
      rw [laws_rSame.l0] at h
      refine c_seq ?_
      refine za0 ?_
      refine o_q rfl rfl (q_lss rfl rfl) ?_
      refine o_end ?_
      refine za1 ?_
      refine c_seq ?_
      refine zb1 (congrArg Value.bool hr6.lt) ?_
      refine zan ?_
      refine za1 ?_
      refine c_seq ?_
      refine zaj ?_
      refine c_seq ?_
      refine za0 ?_
      refine o_q rfl rfl (za3 rfl) ?_
      refine o_q rfl rfl (q_asg rfl) ?_
      refine o_end ?_
      refine za1 ?_
      refine c_seq ?_
      refine a_start (ds := []) MO rfl ?_
      refine za9 0 rfl rfl rfl (by kernel_rfl) (fun _ _ _ h => h) (za3 rfl) ?_
      refine za9 1 rfl rfl rfl (by kernel_rfl) (fun _ _ _ h => h) (za3 rfl) ?_
      refine a_fact (p := Sh A0 l0.length l0.length) (fun w h => f_sh (dk := (Kd.int .i64)) h (fun w h => R0.now Z h)) (fun hq13 => ?_)
      refine za9 2 rfl rfl rfl (by kernel_rfl) (fun _ _ _ h => h) (q_ix Try.underlying25 Z3 rfl rfl hq13 hr6.get) ?_
      refine zb0 3 rfl rfl rfl (by kernel_rfl) (fun _ _ _ h => h) (fun w h => h) (q_lde (off := 0) Y3 rfl rfl (fun w h => R0.now Z h) hr6.get (fun _ _ h => h) rfl) ?_
      refine za9 4 rfl rfl rfl (by kernel_rfl) (fun _ _ _ h => h) (za3 rfl) ?_
      refine za9 5 rfl rfl rfl (by kernel_rfl) (fun _ _ _ h => h) (za3 rfl) ?_
      refine a_fact (p := Sh A1 l1.length l1.length) (fun w h => f_sh (dk := (Kd.int .i64)) h (fun w h => R1.now Z h)) (fun hq14 => ?_)
      refine za7 h (fun y16 hg15 h => ?_) rfl
      refine za9 6 rfl rfl rfl (by kernel_rfl) (fun _ _ _ h => h) (q_ix Try.underlying25 Z3 rfl rfl hq14 hg15) ?_
      refine zb0 7 rfl rfl rfl (by kernel_rfl) (fun _ _ _ h => h) (fun w h => h) (q_lde (off := 0) Y3 rfl rfl (fun w h => R1.now Z h) hg15 (fun _ _ h => h) rfl) ?_
      refine za9 8 rfl rfl rfl (by kernel_rfl) (fun _ _ _ h => h) (q_neq rfl rfl) ?_
      refine zay (by kernel_rfl) ?_
      refine za1 ?_
      refine zav _ rfl (fun hb17 => ?_) (fun hb17 => ?_)
      · skip
        replace h := br_t hb17 h
        refine c_seq ?_
        refine za0 ?_
        refine o_q rfl rfl (q_asg rfl) ?_
        refine o_end ?_
        refine za1 ?_
        refine c_ret ?_
        refine zao ?_
        refine zaa ?_
        refine zaa ?_
        have e_ := Option.some.inj h; replace h := hR8; rw [← e_] at h; clear e_
        refine zao ?_
        refine zaa ?_
        have e0_ := Option.some.inj h; clear h
        subst e0_
        exact x_r1 () Try.results15 (zai rfl) rfl (fun w h => za6 [] (by decide) rfl w h)
      · skip
        replace h := br_f hb17 h
        refine zan ?_
        refine zam ?_
        refine za1 ?_
        refine za0 ?_
        refine o_q rfl rfl (q_up rfl rfl (hr6.up hm7)) ?_
        refine o_q rfl rfl (za3 rfl) ?_
        refine o_end ?_
        refine zak ys4.length (ys4, i2 + 1) (by rw [← hk12]; exact Nat.lt_succ_self _) ⟨hr6.step, rfl, h⟩ ⟨rfl, trivial⟩ (fun w h => za6 [] (by decide) rfl w h) ?_
        repeat (first | exact zab _ _ | refine zaf rfl ?_ | refine zac rfl ?_ | refine zah rfl ?_)

/-! ### loop.example/g01098/laws.rSameCode: function 27 -/
def laws_rSameCode.l0 (l1_2 : List SRegOp) : (List SRegOp) → Int → Option ((Bool) ⊕ (Unit))
  | [], i13 => some (.inr ())
  | y14 :: ys15, i13 => (gt l1_2 i13).bind fun y27 => if (y14.f0 == y27.f0 && (y14.f1 == y27.f1 && (y14.f2 == y27.f2 && true))) = true then (laws_rSameCode.l0 l1_2 ys15 (i13 + 1)) else (some (.inl false))
def laws_rSameCode.f (a0_0 : Int) (l0_1 : List Int) (l0_2 : List SRegOp) (l0_3 : List Int) (a1_0 : Int) (l1_1 : List Int) (l1_2 : List SRegOp) (l1_3 : List Int) : Option Bool := if a0_0 ≠ a1_0 then (some false) else ((laws_rSame.f l0_1 l1_1).bind fun b7 => if b7 = true then (if (l0_2.length : Int) ≠ (l1_2.length : Int) then (some false) else ((laws_rSame.f l0_3 l1_3).bind fun b11 => if b11 = true then ((laws_rSameCode.l0 l1_2 l0_2 0).bind fun o_ => match o_ with | .inl r_ => some r_ | .inr _ => some true) else (some false))) else (some false))
set_option maxHeartbeats 600000 in
set_option maxRecDepth 100000 in
theorem laws_rSameCode.calls {w0 ws : World} {P0 : Nat → Prop} (a0_0 : Int) (A0_1 : Option Addr) (c0_1 : Nat) (n0_1 : Nat) (l0_1 : List Int) (A0_2 : Option Addr) (c0_2 : Nat) (n0_2 : Nat) (l0_2 : List SRegOp) (A0_3 : Option Addr) (c0_3 : Nat) (n0_3 : Nat) (l0_3 : List Int) (a1_0 : Int) (A1_1 : Option Addr) (c1_1 : Nat) (n1_1 : Nat) (l1_1 : List Int) (A1_2 : Option Addr) (c1_2 : Nat) (n1_2 : Nat) (l1_2 : List SRegOp) (A1_3 : Option Addr) (c1_3 : Nat) (n1_3 : Nat) (l1_3 : List Int) (Z : Below w0.heap.size w0 ws) (hF : Fr w0 ws P0 [] ws) (R0_1 : Stable ws P0 (fun w => Kd.C (Kd.int .i64) w A0_1 n0_1 l0_1)) (hc0_1 : n0_1 ≤ c0_1) (R0_2 : Stable ws P0 (fun w => Kd.C kRegOp w A0_2 n0_2 l0_2)) (hc0_2 : n0_2 ≤ c0_2) (R0_3 : Stable ws P0 (fun w => Kd.C (Kd.int .i64) w A0_3 n0_3 l0_3)) (hc0_3 : n0_3 ≤ c0_3) (R1_1 : Stable ws P0 (fun w => Kd.C (Kd.int .i64) w A1_1 n1_1 l1_1)) (hc1_1 : n1_1 ≤ c1_1) (R1_2 : Stable ws P0 (fun w => Kd.C kRegOp w A1_2 n1_2 l1_2)) (hc1_2 : n1_2 ≤ c1_2) (R1_3 : Stable ws P0 (fun w => Kd.C (Kd.int .i64) w A1_3 n1_3 l1_3)) (hc1_3 : n1_3 ≤ c1_3) (r_1 : Bool) (h : laws_rSameCode.f a0_0 l0_1 l0_2 l0_3 a1_0 l1_1 l1_2 l1_3 = some r_1) :
    Calls Try.prog 27 #[.agg #[.int .i64 a0_0, .slice A0_1 n0_1 c0_1, .slice A0_2 n0_2 c0_2, .slice A0_3 n0_3 c0_3], .agg #[.int .i64 a1_0, .slice A1_1 n1_1 c1_1, .slice A1_2 n1_2 c1_2, .slice A1_3 n1_3 c1_3]] ws (Post1 w0 ws P0 (fun (_ : Unit) => .bool r_1) (fun (_ : Unit) => [])) := by
  unfold laws_rSameCode.f at h
  obtain rfl := (R0_1 ws (KeptB.refl _ _)).1
  obtain rfl := (R0_2 ws (KeptB.refl _ _)).1
  obtain rfl := (R0_3 ws (KeptB.refl _ _)).1
  obtain rfl := (R1_1 ws (KeptB.refl _ _)).1
  obtain rfl := (R1_2 ws (KeptB.refl _ _)).1
  obtain rfl := (R1_3 ws (KeptB.refl _ _)).1
  refine enter Try.func27 rfl Try.ntmps27 rfl hF ?_
  refine c_seq ?_
  refine za0 ?_
  refine o_e rfl (e_box rfl) (fun g1 => ?_)
  refine o_e rfl (e_box rfl) (fun g3 => ?_)
  refine o_q rfl rfl (q_asg rfl) ?_
  refine o_end ?_
  refine za1 ?_
  refine c_seq ?_
  refine c_seq ?_
  refine za0 ?_
  refine o_q rfl rfl (q_f F43_0 rfl) ?_
  refine o_q rfl rfl (q_ldb Y3 rfl (fun w h => h.zae (i := 1) rfl) rfl) ?_
  refine o_q rfl rfl (q_f F43_0 rfl) ?_
  refine o_q rfl rfl (q_ldb Y3 rfl (fun w h => h.zae (i := 0) rfl) rfl) ?_
  refine o_q rfl rfl (q_neq rfl rfl) ?_
  refine o_q rfl rfl (za3 rfl) ?_
  refine byB (decide (a0_0 ≠ a1_0)) (fun hb5 => ?_) (fun hb5 => ?_)
  · replace h := br_t hb5 h
    refine @o_n _ _ _ _ _ _ _ _ _ _ _ 12 (za2 rfl rfl rfl (congrArg Value.bool hb5) rfl) (Eq.refl (some 12)) ?_
    refine @o_n _ _ _ _ _ _ _ _ _ _ _ 13 (za2 rfl rfl rfl (congrArg Value.bool hb5) rfl) (Eq.refl (some 13)) ?_
    refine @o_n _ _ _ _ _ _ _ _ _ _ _ 14 (za2 rfl rfl rfl (congrArg Value.bool hb5) rfl) (Eq.refl (some 14)) ?_
    refine @o_n _ _ _ _ _ _ _ _ _ _ _ 15 (za2 rfl rfl rfl (congrArg Value.bool hb5) rfl) (Eq.refl (some 15)) ?_
    refine @o_n _ _ _ _ _ _ _ _ _ _ _ 16 (za2 rfl rfl rfl (congrArg Value.bool hb5) rfl) (Eq.refl (some 16)) ?_
    refine @o_n _ _ _ _ _ _ _ _ _ _ _ 17 (za2 rfl rfl rfl (congrArg Value.bool hb5) rfl) (Eq.refl (some 17)) ?_
    refine o_q rfl rfl (zal true (congrArg Value.bool hb5) rfl) ?_
    refine o_q rfl rfl (za3 rfl) ?_
    refine @o_n _ _ _ _ _ _ _ _ _ _ _ 20 (za2 rfl rfl rfl rfl rfl) (Eq.refl (some 20)) ?_
    refine @o_n _ _ _ _ _ _ _ _ _ _ _ 21 (za2 rfl rfl rfl rfl rfl) (Eq.refl (some 21)) ?_
    refine @o_n _ _ _ _ _ _ _ _ _ _ _ 22 (za2 rfl rfl rfl rfl rfl) (Eq.refl (some 22)) ?_
    refine @o_n _ _ _ _ _ _ _ _ _ _ _ 23 (za2 rfl rfl rfl rfl rfl) (Eq.refl (some 23)) ?_
    refine @o_n _ _ _ _ _ _ _ _ _ _ _ 24 (za2 rfl rfl rfl rfl rfl) (Eq.refl (some 24)) ?_
    refine @o_n _ _ _ _ _ _ _ _ _ _ _ 25 (za2 rfl rfl rfl rfl rfl) (Eq.refl (some 25)) ?_
    refine @o_n _ _ _ _ _ _ _ _ _ _ _ 26 (za2 rfl rfl rfl rfl rfl) (Eq.refl (some 26)) ?_
    refine o_q rfl rfl (zal true rfl rfl) ?_
    refine o_q rfl rfl (za3 rfl) ?_
    refine @o_n _ _ _ _ _ _ _ _ _ _ _ 29 (za2 rfl rfl rfl rfl rfl) (Eq.refl (some 29)) ?_
    refine @o_n _ _ _ _ _ _ _ _ _ _ _ 30 (za2 rfl rfl rfl rfl rfl) (Eq.refl (some 30)) ?_
    refine @o_n _ _ _ _ _ _ _ _ _ _ _ 31 (za2 rfl rfl rfl rfl rfl) (Eq.refl (some 31)) ?_
    refine @o_n _ _ _ _ _ _ _ _ _ _ _ 32 (za2 rfl rfl rfl rfl rfl) (Eq.refl (some 32)) ?_
    refine @o_n _ _ _ _ _ _ _ _ _ _ _ 33 (za2 rfl rfl rfl rfl rfl) (Eq.refl (some 33)) ?_
    refine @o_n _ _ _ _ _ _ _ _ _ _ _ 34 (za2 rfl rfl rfl rfl rfl) (Eq.refl (some 34)) ?_
    refine o_q rfl rfl (zal true rfl rfl) ?_
    refine o_end ?_
    refine za1 ?_
    refine zb1 rfl ?_
    refine c_seq ?_
    refine za0 ?_
    refine o_q rfl rfl (q_asg rfl) ?_
    refine o_end ?_
    refine za1 ?_
    refine c_ret ?_
    refine zaa ?_
    have e0_ := Option.some.inj h; clear h
    subst e0_
    exact x_r1 () Try.results27 (zai rfl) rfl (fun w h => za6 [] (by decide) rfl w h)
  · replace h := br_f hb5 h
    refine o_w (za4 rfl rfl rfl (congrArg Value.bool hb5)) rfl (q_f F43_1 rfl) ?_
    refine o_w (za4 rfl rfl rfl (congrArg Value.bool hb5)) rfl (q_ldb Y25 rfl (fun w h => h.zae (i := 1) rfl) rfl) ?_
    refine o_w (za4 rfl rfl rfl (congrArg Value.bool hb5)) rfl (q_f F43_1 rfl) ?_
    refine o_w (za4 rfl rfl rfl (congrArg Value.bool hb5)) rfl (q_ldb Y25 rfl (fun w h => h.zae (i := 0) rfl) rfl) ?_
    refine za7 h (fun b7 hx6 h => ?_) rfl
    refine o_ew (za4 rfl rfl rfl (congrArg Value.bool hb5)) (zad 0 Z Try.func15 N15 rfl rfl rfl (fun w P1 hF hB hS hT => laws_rSame.calls A0_1 c0_1 l0_1.length l0_1 A1_1 c1_1 l1_1.length l1_1 hB hF (hS _ R0_1) hc0_1 (hS _ R1_1) hc1_1 _ hx6)) (fun _ => ?_)
    refine o_w (za4 rfl rfl rfl (congrArg Value.bool hb5)) rfl (q_not rfl) ?_
    refine o_q rfl rfl (zal false (congrArg Value.bool hb5) rfl) ?_
    refine o_q rfl rfl (za3 rfl) ?_
    refine byB b7 (fun hb8 => ?_) (fun hb8 => ?_)
    · replace h := bb_t hb8 h
      refine o_w (za4 rfl rfl rfl (congrArg (fun b => Value.bool (!(b))) hb8)) rfl (q_f F43_2 rfl) ?_
      refine o_w (za4 rfl rfl rfl (congrArg (fun b => Value.bool (!(b))) hb8)) rfl (q_ldb Y41 rfl (fun w h => h.zae (i := 1) rfl) rfl) ?_
      refine o_w (za4 rfl rfl rfl (congrArg (fun b => Value.bool (!(b))) hb8)) rfl (q_len Try.underlying41 rfl) ?_
      refine o_w (za4 rfl rfl rfl (congrArg (fun b => Value.bool (!(b))) hb8)) rfl (q_f F43_2 rfl) ?_
      refine o_w (za4 rfl rfl rfl (congrArg (fun b => Value.bool (!(b))) hb8)) rfl (q_ldb Y41 rfl (fun w h => h.zae (i := 0) rfl) rfl) ?_
      refine o_w (za4 rfl rfl rfl (congrArg (fun b => Value.bool (!(b))) hb8)) rfl (q_len Try.underlying41 rfl) ?_
      refine o_w (za4 rfl rfl rfl (congrArg (fun b => Value.bool (!(b))) hb8)) rfl (q_neq rfl rfl) ?_
      refine o_q rfl rfl (zal false (congrArg (fun b => Value.bool (!(b))) hb8) rfl) ?_
      refine o_q rfl rfl (za3 rfl) ?_
      refine byB (decide ((l0_2.length : Int) ≠ (l1_2.length : Int))) (fun hb9 => ?_) (fun hb9 => ?_)
      · replace h := br_t hb9 h
        refine @o_n _ _ _ _ _ _ _ _ _ _ _ 29 (za2 rfl rfl rfl (congrArg Value.bool hb9) rfl) (Eq.refl (some 29)) ?_
        refine @o_n _ _ _ _ _ _ _ _ _ _ _ 30 (za2 rfl rfl rfl (congrArg Value.bool hb9) rfl) (Eq.refl (some 30)) ?_
        refine @o_n _ _ _ _ _ _ _ _ _ _ _ 31 (za2 rfl rfl rfl (congrArg Value.bool hb9) rfl) (Eq.refl (some 31)) ?_
        refine @o_n _ _ _ _ _ _ _ _ _ _ _ 32 (za2 rfl rfl rfl (congrArg Value.bool hb9) rfl) (Eq.refl (some 32)) ?_
        refine @o_n _ _ _ _ _ _ _ _ _ _ _ 33 (za2 rfl rfl rfl (congrArg Value.bool hb9) rfl) (Eq.refl (some 33)) ?_
        refine @o_n _ _ _ _ _ _ _ _ _ _ _ 34 (za2 rfl rfl rfl (congrArg Value.bool hb9) rfl) (Eq.refl (some 34)) ?_
        refine o_q rfl rfl (zal true (congrArg Value.bool hb9) rfl) ?_
        refine o_end ?_
        refine za1 ?_
        refine zb1 rfl ?_
        refine c_seq ?_
        refine za0 ?_
        refine o_q rfl rfl (q_asg rfl) ?_
        refine o_end ?_
        refine za1 ?_
        refine c_ret ?_
        refine zaa ?_
        have e0_ := Option.some.inj h; clear h
        subst e0_
        exact x_r1 () Try.results27 (zai rfl) rfl (fun w h => za6 [] (by decide) rfl w h)
      · replace h := br_f hb9 h
        refine o_w (za4 rfl rfl rfl (congrArg Value.bool hb9)) rfl (q_f F43_3 rfl) ?_
        refine o_w (za4 rfl rfl rfl (congrArg Value.bool hb9)) rfl (q_ldb Y25 rfl (fun w h => h.zae (i := 1) rfl) rfl) ?_
        refine o_w (za4 rfl rfl rfl (congrArg Value.bool hb9)) rfl (q_f F43_3 rfl) ?_
        refine o_w (za4 rfl rfl rfl (congrArg Value.bool hb9)) rfl (q_ldb Y25 rfl (fun w h => h.zae (i := 0) rfl) rfl) ?_
        refine za7 h (fun b11 hx10 h => ?_) rfl
        refine o_ew (za4 rfl rfl rfl (congrArg Value.bool hb9)) (zad 0 Z Try.func15 N15 rfl rfl rfl (fun w P1 hF hB hS hT => laws_rSame.calls A0_3 c0_3 l0_3.length l0_3 A1_3 c1_3 l1_3.length l1_3 hB hF (hS _ R0_3) hc0_3 (hS _ R1_3) hc1_3 _ hx10)) (fun _ => ?_)
        refine o_w (za4 rfl rfl rfl (congrArg Value.bool hb9)) rfl (q_not rfl) ?_
        refine o_q rfl rfl (zal false (congrArg Value.bool hb9) rfl) ?_
        refine o_end ?_
        refine za1 ?_
        refine zav _ rfl (fun hb12 => ?_) (fun hb12 => ?_)
        · replace hb12 := nt_t hb12
          replace h := bb_f hb12 h
          refine c_seq ?_
          refine za0 ?_
          refine o_q rfl rfl (q_asg rfl) ?_
          refine o_end ?_
          refine za1 ?_
          refine c_ret ?_
          refine zaa ?_
          have e0_ := Option.some.inj h; clear h
          subst e0_
          exact x_r1 () Try.results27 (zai rfl) rfl (fun w h => za6 [] (by decide) rfl w h)
        · replace hb12 := nt_f hb12
          replace h := bb_t hb12 h
          refine zan ?_
          refine za1 ?_
          refine c_seq ?_
          refine c_seq ?_
          refine za0 ?_
          refine o_q rfl rfl (q_f F43_2 rfl) ?_
          refine o_q rfl rfl (q_ldb Y41 rfl (fun w h => h.zae (i := 1) rfl) rfl) ?_
          refine o_q rfl rfl (q_len Try.underlying41 rfl) ?_
          refine o_q rfl rfl (za3 rfl) ?_
          refine o_end ?_
          refine za1 ?_
          refine zaj ?_
          refine za7 h (fun o21 hl20 hR19 => ?_) rfl
          clear h
          refine c_fact (p := l0_2.length ≤ 9223372036854775807) (fun w h => (R0_2.now Z h).2.1) (fun hm18 => ?_)
          refine zax (σ := (List SRegOp) × Int) (fun k16 ((ys15, i13) : (List SRegOp) × Int) => Rg l0_2 i13 ys15 ∧ ys15.length = k16 ∧ laws_rSameCode.l0 l1_2 ys15 i13 = some o21) [4, 5, 39, 40, 41, 42, 43, 44, 45, 46, 47, 48, 49, 50, 51, 52, 53] (fun ((ys15, i13) : (List SRegOp) × Int) => [(39, .int .i64 i13)]) (fun ((ys15, i13) : (List SRegOp) × Int) => [box g3 43 #[.int .i64 a1_0, .slice A1_1 l1_1.length c1_1, .slice A1_2 l1_2.length c1_2, .slice A1_3 l1_3.length c1_3], box g1 43 #[.int .i64 a0_0, .slice A0_1 l0_1.length c0_1, .slice A0_2 l0_2.length c0_2, .slice A0_3 l0_3.length c0_3]]) l0_2.length (l0_2, 0) ⟨Rg.start _, rfl, hl20⟩ ⟨rfl, trivial⟩ (fun w h => h) ?_
          refine fun k16 => cur2 (listC (fun i13 U22 hJ_ => ?_) (fun y14 ys15 i13 U22 hJ_ => ?_))
          · skip
            clear hl20
            have hr17 := hJ_.1; have hk23 := hJ_.2.1; have h := hJ_.2.2; clear hJ_
            replace h : laws_rSameCode.l0 l1_2 [] i13 = some o21 := h
            rw [laws_rSameCode.l0] at h
            refine c_seq ?_
            refine za0 ?_
            refine o_q rfl rfl (q_lss rfl rfl) ?_
            refine o_end ?_
            refine za1 ?_
            refine c_seq ?_
            refine zb2 (congrArg Value.bool hr17.ge) ?_
            refine zb4 ?_
            refine za5 ?_
            refine za5 ?_
            have e_ := Option.some.inj h; replace h := hR19; rw [← e_] at h; clear e_
            refine x_hit ?_
            refine za1 ?_
            refine c_seq ?_
            refine za0 ?_
            refine o_q rfl rfl (q_asg rfl) ?_
            refine o_end ?_
            refine za1 ?_
            refine c_ret ?_
            have e0_ := Option.some.inj h; clear h
            subst e0_
            exact x_r1 () Try.results27 (zai rfl) rfl (fun w h => za6 [] (by decide) rfl w h)
          · skip
            clear hl20
            have hr17 := hJ_.1; have hk23 := hJ_.2.1; have h := hJ_.2.2; clear hJ_
            replace h : laws_rSameCode.l0 l1_2 (y14 :: ys15) i13 = some o21 := h
            rw [laws_rSameCode.l0] at h
            refine c_seq ?_
            refine za0 ?_
            refine o_q rfl rfl (q_lss rfl rfl) ?_
            refine o_end ?_
            refine za1 ?_
            refine c_seq ?_
            refine zb1 (congrArg Value.bool hr17.lt) ?_
            refine zan ?_
            refine za1 ?_
            refine c_seq ?_
            refine zaj ?_
            refine c_seq ?_
            refine za0 ?_
            refine o_q rfl rfl (za3 rfl) ?_
            refine o_q rfl rfl (q_asg rfl) ?_
            refine o_end ?_
            refine za1 ?_
            refine c_seq ?_
            refine a_start (ds := []) MO rfl ?_
            refine za9 0 rfl rfl rfl (by kernel_rfl) (fun _ _ _ h => h) (q_f F43_2 rfl) ?_
            refine zb0 1 rfl rfl rfl (by kernel_rfl) (fun _ _ _ h => h) (fun w h => h) (q_ldb Y41 rfl (fun w h => h.zae (i := 1) rfl) rfl) ?_
            refine za9 2 rfl rfl rfl (by kernel_rfl) (fun _ _ _ h => h) (za3 rfl) ?_
            refine a_fact (p := Sh A0_2 l0_2.length l0_2.length) (fun w h => f_sh (dk := kRegOp) h (fun w h => R0_2.now Z h)) (fun hq24 => ?_)
            refine za9 3 rfl rfl rfl (by kernel_rfl) (fun _ _ _ h => h) (q_ix Try.underlying41 Z94 rfl rfl hq24 hr17.get) ?_
            refine zb0 4 rfl rfl rfl (by kernel_rfl) (fun _ _ _ h => h) (fun w h => h) (q_ldE G94 Z94 rfl rfl (fun w h => R0_2.now Z h) hr17.get (fun _ _ h => h) rfl) ?_
            refine za9 5 rfl rfl rfl (by kernel_rfl) (fun _ _ _ h => h) (q_f F43_2 rfl) ?_
            refine zb0 6 rfl rfl rfl (by kernel_rfl) (fun _ _ _ h => h) (fun w h => h) (q_ldb Y41 rfl (fun w h => h.zae (i := 0) rfl) rfl) ?_
            refine za9 7 rfl rfl rfl (by kernel_rfl) (fun _ _ _ h => h) (za3 rfl) ?_
            refine a_fact (p := Sh A1_2 l1_2.length l1_2.length) (fun w h => f_sh (dk := kRegOp) h (fun w h => R1_2.now Z h)) (fun hq25 => ?_)
            refine za7 h (fun y27 hg26 h => ?_) rfl
            refine za9 8 rfl rfl rfl (by kernel_rfl) (fun _ _ _ h => h) (q_ix Try.underlying41 Z94 rfl rfl hq25 hg26) ?_
            refine zb0 9 rfl rfl rfl (by kernel_rfl) (fun _ _ _ h => h) (fun w h => h) (q_ldE G94 Z94 rfl rfl (fun w h => R1_2.now Z h) hg26 (fun _ _ h => h) rfl) ?_
            refine za9 10 rfl rfl rfl (by kernel_rfl) (fun _ _ _ h => h) (q_aneq E94 O94 P94 (Q94 y14.f0 y14.f1 y14.f2 y27.f0 y27.f1 y27.f2) rfl rfl) ?_
            refine zay (by kernel_rfl) ?_
            refine za1 ?_
            refine zav _ rfl (fun hb28 => ?_) (fun hb28 => ?_)
            · replace hb28 := nt_t hb28
              replace h := bb_f hb28 h
              refine c_seq ?_
              refine za0 ?_
              refine o_q rfl rfl (q_asg rfl) ?_
              refine o_end ?_
              refine za1 ?_
              refine c_ret ?_
              refine zao ?_
              refine zaa ?_
              refine zaa ?_
              have e_ := Option.some.inj h; replace h := hR19; rw [← e_] at h; clear e_
              refine zao ?_
              refine zaa ?_
              have e0_ := Option.some.inj h; clear h
              subst e0_
              exact x_r1 () Try.results27 (zai rfl) rfl (fun w h => za6 [] (by decide) rfl w h)
            · replace hb28 := nt_f hb28
              replace h := bb_t hb28 h
              refine zan ?_
              refine zam ?_
              refine za1 ?_
              refine za0 ?_
              refine o_q rfl rfl (q_up rfl rfl (hr17.up hm18)) ?_
              refine o_q rfl rfl (za3 rfl) ?_
              refine o_end ?_
              refine zak ys15.length (ys15, i13 + 1) (by rw [← hk23]; exact Nat.lt_succ_self _) ⟨hr17.step, rfl, h⟩ ⟨rfl, trivial⟩ (fun w h => za6 [0, 1] (by decide) rfl w h) ?_
              repeat (first | exact zab _ _ | refine zaf rfl ?_ | refine zac rfl ?_ | refine zah rfl ?_)
    · replace h := bb_f hb8 h
      refine @o_n _ _ _ _ _ _ _ _ _ _ _ 20 (za2 rfl rfl rfl (congrArg (fun b => Value.bool (!(b))) hb8) rfl) (Eq.refl (some 20)) ?_
      refine @o_n _ _ _ _ _ _ _ _ _ _ _ 21 (za2 rfl rfl rfl (congrArg (fun b => Value.bool (!(b))) hb8) rfl) (Eq.refl (some 21)) ?_
      refine @o_n _ _ _ _ _ _ _ _ _ _ _ 22 (za2 rfl rfl rfl (congrArg (fun b => Value.bool (!(b))) hb8) rfl) (Eq.refl (some 22)) ?_
      refine @o_n _ _ _ _ _ _ _ _ _ _ _ 23 (za2 rfl rfl rfl (congrArg (fun b => Value.bool (!(b))) hb8) rfl) (Eq.refl (some 23)) ?_
      refine @o_n _ _ _ _ _ _ _ _ _ _ _ 24 (za2 rfl rfl rfl (congrArg (fun b => Value.bool (!(b))) hb8) rfl) (Eq.refl (some 24)) ?_
      refine @o_n _ _ _ _ _ _ _ _ _ _ _ 25 (za2 rfl rfl rfl (congrArg (fun b => Value.bool (!(b))) hb8) rfl) (Eq.refl (some 25)) ?_
      refine @o_n _ _ _ _ _ _ _ _ _ _ _ 26 (za2 rfl rfl rfl (congrArg (fun b => Value.bool (!(b))) hb8) rfl) (Eq.refl (some 26)) ?_
      refine o_q rfl rfl (zal true (congrArg (fun b => Value.bool (!(b))) hb8) rfl) ?_
      refine o_q rfl rfl (za3 rfl) ?_
      refine @o_n _ _ _ _ _ _ _ _ _ _ _ 29 (za2 rfl rfl rfl rfl rfl) (Eq.refl (some 29)) ?_
      refine @o_n _ _ _ _ _ _ _ _ _ _ _ 30 (za2 rfl rfl rfl rfl rfl) (Eq.refl (some 30)) ?_
      refine @o_n _ _ _ _ _ _ _ _ _ _ _ 31 (za2 rfl rfl rfl rfl rfl) (Eq.refl (some 31)) ?_
      refine @o_n _ _ _ _ _ _ _ _ _ _ _ 32 (za2 rfl rfl rfl rfl rfl) (Eq.refl (some 32)) ?_
      refine @o_n _ _ _ _ _ _ _ _ _ _ _ 33 (za2 rfl rfl rfl rfl rfl) (Eq.refl (some 33)) ?_
      refine @o_n _ _ _ _ _ _ _ _ _ _ _ 34 (za2 rfl rfl rfl rfl rfl) (Eq.refl (some 34)) ?_
      refine o_q rfl rfl (zal true rfl rfl) ?_
      refine o_end ?_
      refine za1 ?_
      refine zb1 rfl ?_
      refine c_seq ?_
      refine za0 ?_
      refine o_q rfl rfl (q_asg rfl) ?_
      refine o_end ?_
      refine za1 ?_
      refine c_ret ?_
      refine zaa ?_
      have e0_ := Option.some.inj h; clear h
      subst e0_
      exact x_r1 () Try.results27 (zai rfl) rfl (fun w h => za6 [] (by decide) rfl w h)

/-! ### loop.example/g01098/impl.PressureOf: function 23 -/
def impl_PressureOf.f (k : Nat) (a0_0 : Int) (l0_1 : List SStep) (l0_2 : List Int) : Option (Int × Bool) := (impl_IsPlan.f k a0_0 l0_1 l0_2).bind fun b4 => if b4 = true then ((impl_firsts.f (l0_1.length : Int)).bind fun l7 => (impl_Plan_pressure.f a0_0 l0_1 l0_2 l7).bind fun i11 => some (i11, true)) else (some (0, false))
set_option maxHeartbeats 600000 in
set_option maxRecDepth 100000 in
theorem impl_PressureOf.calls (k : Nat) {w0 ws : World} {P0 : Nat → Prop} (a0_0 : Int) (A0_1 : Option Addr) (c0_1 : Nat) (n0_1 : Nat) (l0_1 : List SStep) (A0_2 : Option Addr) (c0_2 : Nat) (n0_2 : Nat) (l0_2 : List Int) (Z : Below w0.heap.size w0 ws) (hF : Fr w0 ws P0 [] ws) (R0_1 : Stable ws P0 (fun w => Kd.C kStep w A0_1 n0_1 l0_1)) (hc0_1 : n0_1 ≤ c0_1) (R0_2 : Stable ws P0 (fun w => Kd.C (Kd.int .i64) w A0_2 n0_2 l0_2)) (hc0_2 : n0_2 ≤ c0_2) (r_1 : Int) (r_2 : Bool) (h : impl_PressureOf.f k a0_0 l0_1 l0_2 = some (r_1, r_2)) :
    Calls Try.prog 23 #[.agg #[.int .i64 a0_0, .slice A0_1 n0_1 c0_1, .slice A0_2 n0_2 c0_2]] ws (Post1 w0 ws P0 (fun (_ : Unit) => .tuple #[.int .i64 r_1, .bool r_2]) (fun (_ : Unit) => [])) := by
  unfold impl_PressureOf.f at h
  obtain rfl := (R0_1 ws (KeptB.refl _ _)).1
  obtain rfl := (R0_2 ws (KeptB.refl _ _)).1
  refine enter Try.func23 rfl Try.ntmps23 rfl hF ?_
  refine c_seq ?_
  refine za0 ?_
  refine o_e rfl (e_box rfl) (fun g1 => ?_)
  refine o_q rfl rfl (q_asg rfl) ?_
  refine o_q rfl rfl (q_asg rfl) ?_
  refine o_end ?_
  refine za1 ?_
  refine c_seq ?_
  refine c_seq ?_
  refine za0 ?_
  refine o_q rfl rfl (q_ldB G27 Z27 rfl (fun w h => h.zae (i := 0) rfl) rfl) ?_
  refine za7 h (fun b4 hx3 h => ?_) rfl
  refine o_e rfl (zad 0 Z Try.func67 N67 rfl rfl rfl (fun w P1 hF hB hS hT => impl_IsPlan.calls k a0_0 A0_1 c0_1 l0_1.length l0_1 A0_2 c0_2 l0_2.length l0_2 hB hF (hS _ R0_1) hc0_1 (hS _ R0_2) hc0_2 _ hx3)) (fun _ => ?_)
  refine o_q rfl rfl (q_not rfl) ?_
  refine o_end ?_
  refine za1 ?_
  refine zav _ rfl (fun hb5 => ?_) (fun hb5 => ?_)
  · replace hb5 := nt_t hb5
    replace h := bb_f hb5 h
    refine c_seq ?_
    refine za0 ?_
    refine o_q rfl rfl (q_asg rfl) ?_
    refine o_q rfl rfl (q_asg rfl) ?_
    refine o_end ?_
    refine za1 ?_
    refine c_ret ?_
    refine zaa ?_
    have e0_ := Option.some.inj h; clear h
    have d0_ := (Prod.mk.inj e0_).1; have e1_ := (Prod.mk.inj e0_).2; clear e0_; subst d0_
    subst e1_
    exact x_r2 () Try.results23 (zai rfl) (zai rfl) rfl (fun w h => za6 [] (by decide) rfl w h)
  · replace hb5 := nt_f hb5
    replace h := bb_t hb5 h
    refine zan ?_
    refine za1 ?_
    refine c_seq ?_
    refine za0 ?_
    refine o_q rfl rfl (q_f F27_1 rfl) ?_
    refine o_q rfl rfl (q_ldb Y24 rfl (fun w h => h.zae (i := 0) rfl) rfl) ?_
    refine o_q rfl rfl (q_len Try.underlying24 rfl) ?_
    refine za7 h (fun l7 hx6 h => ?_) rfl
    refine o_e rfl (zad 0 Z Try.func77 N77 rfl rfl rfl (fun w P1 hF hB hS hT => impl_firsts.calls (l0_1.length : Int) hB hF _ hx6)) (cur2 (fun A8 c9 => ?_))
    refine za7 h (fun i11 hx10 h => ?_) rfl
    refine o_e rfl (zad 0 Z Try.func81 N81 rfl rfl rfl (fun w P1 hF hB hS hT => impl_Plan_pressure.calls g1 a0_0 A0_1 c0_1 l0_1.length l0_1 A0_2 c0_2 l0_2.length l0_2 A8 c9 l7.length l7 hB hF (hS _ R0_1) hc0_1 (hS _ R0_2) hc0_2 (hT 1 _ rfl).box (hT 0 _ rfl).row (hT 0 _ rfl).cap _ hx10)) (fun _ => ?_)
    refine o_q rfl rfl (q_asg rfl) ?_
    refine o_q rfl rfl (q_asg rfl) ?_
    refine o_end ?_
    refine za1 ?_
    refine c_ret ?_
    have e0_ := Option.some.inj h; clear h
    have d0_ := (Prod.mk.inj e0_).1; have e1_ := (Prod.mk.inj e0_).2; clear e0_; subst d0_
    subst e1_
    exact x_r2 () Try.results23 (zai rfl) (zai rfl) rfl (fun w h => za6 [] (by decide) rfl w h)

/-! ### loop.example/g01098/spec.PressureOf: function 28 -/
def spec_PressureOf.f (k : Nat) (a0_0 : Int) (l0_1 : List SStep) (l0_2 : List Int) : Option (Int × Bool) := (spec_plGood.f k a0_0 l0_1 l0_2).bind fun b4 => if b4 = true then ((spec_plUpTo.f k (l0_1.length : Int)).bind fun l7 => (spec_rePressure.f k a0_0 l0_1 l0_2 l7).bind fun i11 => some (i11, true)) else (some (0, false))
set_option maxHeartbeats 600000 in
set_option maxRecDepth 100000 in
theorem spec_PressureOf.calls (k : Nat) {w0 ws : World} {P0 : Nat → Prop} (a0_0 : Int) (A0_1 : Option Addr) (c0_1 : Nat) (n0_1 : Nat) (l0_1 : List SStep) (A0_2 : Option Addr) (c0_2 : Nat) (n0_2 : Nat) (l0_2 : List Int) (Z : Below w0.heap.size w0 ws) (hF : Fr w0 ws P0 [] ws) (R0_1 : Stable ws P0 (fun w => Kd.C kStep w A0_1 n0_1 l0_1)) (hc0_1 : n0_1 ≤ c0_1) (R0_2 : Stable ws P0 (fun w => Kd.C (Kd.int .i64) w A0_2 n0_2 l0_2)) (hc0_2 : n0_2 ≤ c0_2) (r_1 : Int) (r_2 : Bool) (h : spec_PressureOf.f k a0_0 l0_1 l0_2 = some (r_1, r_2)) :
    Calls Try.prog 28 #[.agg #[.int .i64 a0_0, .slice A0_1 n0_1 c0_1, .slice A0_2 n0_2 c0_2]] ws (Post1 w0 ws P0 (fun (_ : Unit) => .tuple #[.int .i64 r_1, .bool r_2]) (fun (_ : Unit) => [])) := by
  unfold spec_PressureOf.f at h
  obtain rfl := (R0_1 ws (KeptB.refl _ _)).1
  obtain rfl := (R0_2 ws (KeptB.refl _ _)).1
  refine enter Try.func28 rfl Try.ntmps28 rfl hF ?_
  refine c_seq ?_
  refine za0 ?_
  refine o_e rfl (e_box rfl) (fun g1 => ?_)
  refine o_q rfl rfl (q_asg rfl) ?_
  refine o_q rfl rfl (q_asg rfl) ?_
  refine o_end ?_
  refine za1 ?_
  refine c_seq ?_
  refine c_seq ?_
  refine za0 ?_
  refine o_q rfl rfl (q_ldB G27 Z27 rfl (fun w h => h.zae (i := 0) rfl) rfl) ?_
  refine za7 h (fun b4 hx3 h => ?_) rfl
  refine o_e rfl (zad 0 Z Try.func70 N70 rfl rfl rfl (fun w P1 hF hB hS hT => spec_plGood.calls k a0_0 A0_1 c0_1 l0_1.length l0_1 A0_2 c0_2 l0_2.length l0_2 hB hF (hS _ R0_1) hc0_1 (hS _ R0_2) hc0_2 _ hx3)) (fun _ => ?_)
  refine o_q rfl rfl (q_not rfl) ?_
  refine o_end ?_
  refine za1 ?_
  refine zav _ rfl (fun hb5 => ?_) (fun hb5 => ?_)
  · replace hb5 := nt_t hb5
    replace h := bb_f hb5 h
    refine c_seq ?_
    refine za0 ?_
    refine o_q rfl rfl (q_asg rfl) ?_
    refine o_q rfl rfl (q_asg rfl) ?_
    refine o_end ?_
    refine za1 ?_
    refine c_ret ?_
    refine zaa ?_
    have e0_ := Option.some.inj h; clear h
    have d0_ := (Prod.mk.inj e0_).1; have e1_ := (Prod.mk.inj e0_).2; clear e0_; subst d0_
    subst e1_
    exact x_r2 () Try.results28 (zai rfl) (zai rfl) rfl (fun w h => za6 [] (by decide) rfl w h)
  · replace hb5 := nt_f hb5
    replace h := bb_t hb5 h
    refine zan ?_
    refine za1 ?_
    refine c_seq ?_
    refine a_start (ds := []) MO rfl ?_
    refine zb0 0 rfl rfl rfl (by kernel_rfl) (fun _ _ _ h => h) (fun w h => h) (q_ldB G27 Z27 rfl (fun w h => h.zae (i := 0) rfl) rfl) ?_
    refine za9 1 rfl rfl rfl (by kernel_rfl) (fun _ _ _ h => h) (q_f F27_1 rfl) ?_
    refine zb0 2 rfl rfl rfl (by kernel_rfl) (fun _ _ _ h => h) (fun w h => h) (q_ldb Y24 rfl (fun w h => h.zae (i := 0) rfl) rfl) ?_
    refine za9 3 rfl rfl rfl (by kernel_rfl) (fun _ _ _ h => h) (q_len Try.underlying24 rfl) ?_
    refine za7 h (fun l7 hx6 h => ?_) rfl
    refine a_one 4 rfl rfl (by kernel_rfl) rfl (zad 0 Z Try.func72 N72 rfl rfl rfl (fun w P1 hF hB hS hT => spec_plUpTo.calls k (l0_1.length : Int) hB hF _ hx6)) (fun s w h => za8 [some 1] (by decide) w h rfl) (cur2 (fun A8 c9 => ?_))
    refine za7 h (fun i11 hx10 h => ?_) rfl
    refine a_one 5 rfl rfl (by kernel_rfl) rfl (zad 0 Z Try.func63 N63 rfl rfl rfl (fun w P1 hF hB hS hT => spec_rePressure.calls k a0_0 A0_1 c0_1 l0_1.length l0_1 A0_2 c0_2 l0_2.length l0_2 A8 c9 l7.length l7 hB hF (hS _ R0_1) hc0_1 (hS _ R0_2) hc0_2 (hT 0 _ rfl).row (hT 0 _ rfl).cap _ hx10)) (fun s w h => za8 [some 1] (by decide) w h rfl) (fun _ => ?_)
    refine za9 6 rfl rfl rfl (by kernel_rfl) (fun _ _ _ h => h) (q_asg rfl) ?_
    refine za9 7 rfl rfl rfl (by kernel_rfl) (fun _ _ _ h => h) (q_asg rfl) ?_
    refine zay (by kernel_rfl) ?_
    refine za1 ?_
    refine c_ret ?_
    have e0_ := Option.some.inj h; clear h
    have d0_ := (Prod.mk.inj e0_).1; have e1_ := (Prod.mk.inj e0_).2; clear e0_; subst d0_
    subst e1_
    exact x_r2 () Try.results28 (zai rfl) (zai rfl) rfl (fun w h => za6 [] (by decide) rfl w h)

/-! ### (*loop.example/g01098/impl.RegCode).read$1: function 181 -/
def impl_RegCode_read_1.f (a0 : Int) (l1_0 : List Int) : Option Bool := (impl_in.f a0 0 (w64 ((l1_0.length : Int) - 1))).bind fun b2 => some b2
set_option maxHeartbeats 600000 in
set_option maxRecDepth 100000 in
theorem impl_RegCode_read_1.calls {w0 ws : World} {P0 : Nat → Prop} (a0 : Int) (g1 : Nat) (A1_0 : Option Addr) (c1_0 : Nat) (n1_0 : Nat) (l1_0 : List Int) (Z : Below w0.heap.size w0 ws) (hF : Fr w0 ws P0 [] ws) (R1_0 : Stable ws P0 (fun w => Kd.C (Kd.int .i64) w A1_0 n1_0 l1_0)) (hc1_0 : n1_0 ≤ c1_0) (B1 : Stable ws P0 (fun w => w.heap[g1]? = some (.cells #[.slice A1_0 n1_0 c1_0] 25 (0, 0)))) (r_1 : Bool) (h : impl_RegCode_read_1.f a0 l1_0 = some r_1) :
    Calls Try.prog 181 #[.int .i64 a0, .pointer (some ⟨g1, 0, none⟩)] ws (Post1 w0 ws P0 (fun (_ : Unit) => .bool r_1) (fun (_ : Unit) => [])) := by
  unfold impl_RegCode_read_1.f at h
  obtain rfl := (R1_0 ws (KeptB.refl _ _)).1
  refine enter Try.func181 rfl Try.ntmps181 rfl hF ?_
  refine c_seq ?_
  refine za0 ?_
  refine o_q rfl rfl (q_asg rfl) ?_
  refine o_end ?_
  refine za1 ?_
  refine c_seq ?_
  refine za0 ?_
  refine o_q rfl rfl (za3 rfl) ?_
  refine o_q rfl rfl (q_ldb Y25 rfl (fun w h => B1.now Z h) rfl) ?_
  refine o_q rfl rfl (q_len Try.underlying25 rfl) ?_
  refine o_q rfl rfl (q_sub64 rfl rfl) ?_
  refine za7 h (fun b2 hx1 h => ?_) rfl
  refine o_e rfl (zad 0 Z Try.func58 N58 rfl rfl rfl (fun w P1 hF hB hS hT => impl_in.calls a0 0 (w64 ((l1_0.length : Int) - 1)) hB hF _ hx1)) (fun _ => ?_)
  refine o_q rfl rfl (q_asg rfl) ?_
  refine o_end ?_
  refine za1 ?_
  refine c_ret ?_
  have e0_ := Option.some.inj h; clear h
  subst e0_
  exact x_r1 () Try.results181 (zai rfl) rfl (fun w h => za6 [] (by decide) rfl w h)

/-! ### loop.example/g01098/impl.step: function 79 -/
def impl_step.f (a0 : Int) (a1 : Int) : Option Unit := some ()
set_option maxHeartbeats 600000 in
set_option maxRecDepth 100000 in
theorem impl_step.calls {w0 ws : World} {P0 : Nat → Prop} (a0 : Int) (a1 : Int) (Z : Below w0.heap.size w0 ws) (hF : Fr w0 ws P0 [] ws)   (h : impl_step.f a0 a1 = some ()) :
    Calls Try.prog 79 #[.int .i64 a0, .int .i64 a1] ws (Post1 w0 ws P0 (fun (_ : Unit) => .agg #[.int .i64 (mn a0 a1), .int .i64 (mx a0 a1)]) (fun (_ : Unit) => [])) := by
  unfold impl_step.f at h
  refine enter Try.func79 rfl Try.ntmps79 rfl hF ?_
  refine c_seq ?_
  refine za0 ?_
  refine o_e rfl (zas V88 rfl) (fun g1 => ?_)
  refine o_end ?_
  refine za1 ?_
  refine c_seq ?_
  refine za0 ?_
  refine o_q rfl rfl (za3 rfl) ?_
  refine o_q rfl rfl (za3 rfl) ?_
  refine o_q rfl rfl (q_min rfl rfl) ?_
  refine o_q rfl rfl (za3 rfl) ?_
  refine o_q rfl rfl (za3 rfl) ?_
  refine o_q rfl rfl (q_max rfl rfl) ?_
  refine o_q rfl rfl (q_build (vs := [(0, .int .i64 (mn a0 a1)), (1, .int .i64 (mx a0 a1))]) (cs := [.int .i64 (mn a0 a1), .int .i64 (mx a0 a1)]) rfl rfl) ?_
  refine o_e rfl (zaq (i := 0) rfl rfl rfl Z88 rfl rfl) (fun _ => ?_)
  refine o_end ?_
  refine za1 ?_
  refine c_ret ?_
  exact x_r1 () Try.results79 (rv_cell rfl G88 Z88 (fun w h => h.zae (i := 0) rfl) rfl) rfl (fun w h => za6 [] (by decide) rfl w h)

/-! ### (*loop.example/g01098/impl.RegCode).read: function 143 -/
def impl_RegCode_read.l2 (l2308 : List Int) : (List Int) → (List Int) → Int → Option ((Int × (List SStep) × (List Int) × Bool) ⊕ ((List Int)))
  | [], l2324, i2327 => some (.inr l2324)
  | y2328 :: ys2329, l2324, i2327 => ((impl_RegCode_read_1.f y2328 l2308).bind fun b2354 => if b2354 = true then ((gt l2308 y2328).bind fun y2358 => some (decide (y2358 = (-1)))) else (some true)).bind fun b2347 => if b2347 = true then (some (.inl (0, ([] : List SStep), ([] : List Int), false))) else ((gt l2308 y2328).bind fun y2603 => (ap l2324 ([y2603] : List Int)).bind fun l2781 => impl_RegCode_read.l2 l2308 ys2329 l2781 (i2327 + 1))
def impl_RegCode_read.l1 (l0_1 : List Int) : (List SRegOp) → (List Int) → (List SStep) → Int → Option ((Int × (List SStep) × (List Int) × Bool) ⊕ ((List Int) × (List SStep)))
  | [], l2308, l2309, i2312 => some (.inr (l2308, l2309))
  | y2313 :: ys2314, l2308, l2309, i2312 => ((impl_RegCode_read_1.f y2313.f0 l2308).bind fun b3046 => if b3046 = true then ((impl_RegCode_read_1.f y2313.f1 l2308).bind fun b3049 => if b3049 = true then ((impl_RegCode_read_1.f y2313.f2 l2308).bind fun b3052 => if b3052 = true then ((gt l2308 y2313.f1).bind fun y3056 => if y3056 = (-1) then (some true) else ((gt l2308 y2313.f2).bind fun y3059 => some (decide (y3059 = (-1))))) else (some true)) else (some true)) else (some true)).bind fun b3039 => if b3039 = true then (some (.inl (0, ([] : List SStep), ([] : List Int), false))) else (((gt l2308 y2313.f1).bind fun y4453 => (gt l2308 y2313.f2).bind fun y4752 => (impl_step.f y4453 y4752).bind fun _ => (ap l2309 ([(⟨mn y4453 y4752, mx y4453 y4752⟩ : SStep)] : List SStep)).bind fun l4991 => some l4991).bind fun l4142 => (impl_Plan_many.f (l0_1.length : Int) l4142 []).bind fun _ => (gt l2308 y2313.f0).bind fun y5234 => (st l2308 y2313.f0 (w64 (w64 ((l0_1.length : Int) + (l4142.length : Int)) - 1))).bind fun l5235 => impl_RegCode_read.l1 l0_1 ys2314 l5235 l4142 (i2312 + 1))
def impl_RegCode_read.l0 : (List Int) → (List Int) → Int → Option ((Int × (List SStep) × (List Int) × Bool) ⊕ ((List Int)))
  | [], l2295, i2296 => some (.inr l2295)
  | y2297 :: ys2298, l2295, i2296 => ((impl_RegCode_read_1.f y2297 l2295).bind fun b5251 => if b5251 = true then ((gt l2295 y2297).bind fun y5255 => some (decide (y5255 ≠ (-1)))) else (some true)).bind fun b5244 => if b5244 = true then (some (.inl (0, ([] : List SStep), ([] : List Int), false))) else ((gt l2295 y2297).bind fun y5259 => (st l2295 y2297 i2296).bind fun l5260 => impl_RegCode_read.l0 ys2298 l5260 (i2296 + 1))
def impl_RegCode_read.f (a0_0 : Int) (l0_1 : List Int) (l0_2 : List SRegOp) (l0_3 : List Int) : Option (Int × (List SStep) × (List Int) × Bool) := ((slices_Repeat_int_int.f ([(-1)] : List Int) (mx (mn a0_0 46) 0)).bind fun l1936 => some l1936).bind fun l1146 => (impl_RegCode_read.l0 l0_1 l1146 0).bind fun o_ => match o_ with | .inl r_ => some r_ | .inr l2295 => (impl_RegCode_read.l1 l0_1 l0_2 l2295 ([] : List SStep) 0).bind fun o_ => match o_ with | .inl r_ => some r_ | .inr (l2308, l2309) => (impl_RegCode_read.l2 l2308 l0_3 ([] : List Int) 0).bind fun o_ => match o_ with | .inl r_ => some r_ | .inr l2324 => (impl_in.f a0_0 1 46).bind fun b2339 => some ((l0_1.length : Int), l2309, l2324, b2339)
set_option maxHeartbeats 600000 in
set_option maxRecDepth 100000 in
theorem impl_RegCode_read.calls {w0 ws : World} {P0 : Nat → Prop} (g0 : Nat) (a0_0 : Int) (A0_1 : Option Addr) (c0_1 : Nat) (n0_1 : Nat) (l0_1 : List Int) (A0_2 : Option Addr) (c0_2 : Nat) (n0_2 : Nat) (l0_2 : List SRegOp) (A0_3 : Option Addr) (c0_3 : Nat) (n0_3 : Nat) (l0_3 : List Int) (Z : Below w0.heap.size w0 ws) (hF : Fr w0 ws P0 [] ws) (R0_1 : Stable ws P0 (fun w => Kd.C (Kd.int .i64) w A0_1 n0_1 l0_1)) (hc0_1 : n0_1 ≤ c0_1) (R0_2 : Stable ws P0 (fun w => Kd.C kRegOp w A0_2 n0_2 l0_2)) (hc0_2 : n0_2 ≤ c0_2) (R0_3 : Stable ws P0 (fun w => Kd.C (Kd.int .i64) w A0_3 n0_3 l0_3)) (hc0_3 : n0_3 ≤ c0_3) (B0 : Stable ws P0 (fun w => w.heap[g0]? = some (.cells #[.int .i64 a0_0, .slice A0_1 n0_1 c0_1, .slice A0_2 n0_2 c0_2, .slice A0_3 n0_3 c0_3] 43 (0, 0)))) (r_1 : Int) (r_2 : List SStep) (r_5 : List Int) (r_8 : Bool) (h : impl_RegCode_read.f a0_0 l0_1 l0_2 l0_3 = some (r_1, r_2, r_5, r_8)) :
    Calls Try.prog 143 #[.pointer (some ⟨g0, 0, none⟩)] ws (Post1 w0 ws P0 (fun ((q_3, q_4, q_6, q_7) : (Option Addr) × Nat × (Option Addr) × Nat) => .tuple #[.agg #[.int .i64 r_1, .slice q_3 r_2.length q_4, .slice q_6 r_5.length q_7], .bool r_8]) (fun ((q_3, q_4, q_6, q_7) : (Option Addr) × Nat × (Option Addr) × Nat) => [row kStep 88 (.slice q_3 r_2.length q_4) r_2, row (Kd.int .i64) 3 (.slice q_6 r_5.length q_7) r_5])) := by
  unfold impl_RegCode_read.f at h
  obtain rfl := (R0_1 ws (KeptB.refl _ _)).1
  obtain rfl := (R0_2 ws (KeptB.refl _ _)).1
  obtain rfl := (R0_3 ws (KeptB.refl _ _)).1
  refine enter Try.func143 rfl Try.ntmps143 rfl hF ?_
  refine c_seq ?_
  refine za0 ?_
  refine o_e rfl (zas V27 rfl) (fun g1 => ?_)
  refine o_q rfl rfl (q_asg rfl) ?_
  refine o_end ?_
  refine za1 ?_
  refine za7 h (fun o1149 hl1150 hR1151 => ?_) rfl
  clear h
  refine c_cutJ (σ := (List Int) × Nat × Nat × (Option Addr) × Nat) (fun (l1146, g1144, g1145, A1147, c1148) => some l1146 = some o1149) [4, 5, 13, 14, 15, 16, 17, 18, 19, 20, 21, 22, 23, 24, 25, 26] (fun (l1146, g1144, g1145, A1147, c1148) => [(4, .pointer (some ⟨g1144, 0, none⟩)), (5, .pointer (some ⟨g1145, 0, none⟩))]) (fun (l1146, g1144, g1145, A1147, c1148) => [box g1 27 #[.int .i64 0, .slice none 0 0, .slice none 0 0], box g1144 27 #[.int .i64 (l0_1.length : Int), .slice none 0 0, .slice none 0 0], box g1145 25 #[.slice A1147 l1146.length c1148], row (Kd.int .i64) 3 (.slice A1147 l1146.length c1148) l1146]) ?_ ?_
  · skip
    have h := hl1150; clear hl1150
    clear hR1151
    refine za7 h (fun l1936 hx1935 h => ?_) rfl
    refine a_start (ds := []) MO rfl ?_
    refine za9 0 rfl rfl rfl (by kernel_rfl) (fun _ _ _ h => h) (za3 rfl) ?_
    refine za9 1 rfl rfl rfl (by kernel_rfl) (fun _ _ _ h => h) (q_nil rfl) ?_
    refine za9 2 rfl rfl rfl (by kernel_rfl) (fun _ _ _ h => h) (q_f F43_1 rfl) ?_
    refine zb0 3 rfl rfl rfl (by kernel_rfl) (fun _ _ _ h => h) (fun w h => h) (q_ldb Y25 rfl (fun w h => B0.now Z h) rfl) ?_
    refine za9 4 rfl rfl rfl (by kernel_rfl) (fun _ _ _ h => h) (q_len Try.underlying25 rfl) ?_
    refine za9 5 rfl rfl rfl (by kernel_rfl) (fun _ _ _ h => h) (q_build (vs := [(0, .int .i64 (l0_1.length : Int))]) (cs := [.int .i64 (l0_1.length : Int), .slice none 0 0, .slice none 0 0]) rfl rfl) ?_
    refine za9 7 rfl rfl rfl (by kernel_rfl) (fun _ _ _ h => h) (za3 rfl) ?_
    refine za9 8 rfl rfl rfl (by kernel_rfl) (fun _ _ _ h => h) (q_nil rfl) ?_
    refine za9 9 rfl rfl rfl (by kernel_rfl) (fun _ _ _ h => h) (q_f F43_0 rfl) ?_
    refine zb0 10 rfl rfl rfl (by kernel_rfl) (fun _ _ _ h => h) (fun w h => h) (q_ldb Y3 rfl (fun w h => B0.now Z h) rfl) ?_
    refine za9 11 rfl rfl rfl (by kernel_rfl) (fun _ _ _ h => h) (q_min rfl rfl) ?_
    refine za9 12 rfl rfl rfl (by kernel_rfl) (fun _ _ _ h => h) (q_max rfl rfl) ?_
    refine a_three 6 14 15 rfl rfl rfl rfl rfl rfl (by kernel_rfl) rfl rfl rfl (e_lit (vs := [(0, .int .i64 (-1))]) (cs := [.int .i64 (-1)]) (Kd.int .i64) ([(-1)] : List Int) Try.underlying25 I3 (by decide) rfl (by decide) rfl rfl (fun _ _ => Kd.zar _)) (fun s w h => za8 [some 1] (by decide) w h rfl) (zas V27 rfl) (fun s w h => za8 [some 1] (by decide) w h rfl) (zas V25 rfl) (fun s w h => za8 [some 1] (by decide) w h rfl) (cur2 (fun A1515 c1516 => ?_)) (fun g1995 => ?_) (fun g2055 => ?_)
    · skip
      refine a_three 13 14 15 rfl rfl rfl rfl rfl rfl (by kernel_rfl) rfl rfl rfl (zad 0 Z Try.func83 N83 rfl rfl rfl (fun w P1 hF hB hS hT => slices_Repeat_int_int.calls A1515 c1516 (([(-1)] : List Int).length) ([(-1)] : List Int) (mx (mn a0_0 46) 0) hB hF (hT 0 _ rfl).row (hT 0 _ rfl).cap _ hx1935)) (fun s w h => za8 [some 2] (by decide) w h rfl) (zas V27 rfl) (fun s w h => za8 [some 2] (by decide) w h rfl) (zas V25 rfl) (fun s w h => za8 [some 2] (by decide) w h rfl) (cur2 (fun A1937 c1938 => ?_)) (fun g1995 => ?_) (fun g2055 => ?_)
      · skip
        refine a_two 14 15 rfl rfl rfl rfl (by kernel_rfl) rfl rfl (zas V27 rfl) (fun s w h => za8 [some 3] (by decide) w h rfl) (zas V25 rfl) (fun s w h => za8 [some 3] (by decide) w h rfl) (fun g1995 => ?_) (fun g2055 => ?_)
        · skip
          refine a_one 15 rfl rfl (by kernel_rfl) rfl (zas V25 rfl) (fun s w h => za8 [some 4] (by decide) w h rfl) (fun g2055 => ?_)
          refine a_one 16 rfl rfl (by kernel_rfl) rfl (zaq (i := 1) rfl rfl rfl Z27 rfl rfl) (fun s w h => za8 [some 4] (by decide) w h rfl) (fun _ => ?_)
          refine a_one 17 rfl rfl (by kernel_rfl) rfl (zb3 (i := 0) rfl rfl rfl rfl Z25 rfl rfl) (fun s w h => za8 [some 4] (by decide) w h rfl) (fun _ => ?_)
          refine zay (by kernel_rfl) ?_
          refine zat (l1936, g1995, g2055, A1937, c1938) h ⟨rfl, rfl, trivial⟩ (fun w h => za6 [4, 1, 0, 2] (by decide) rfl w h) ?_
          repeat (first | exact zab _ _ | refine zaf rfl ?_ | refine zac rfl ?_ | refine zah rfl ?_)
        · skip
          refine a_one 14 rfl rfl (by kernel_rfl) rfl (zas V27 rfl) (fun s w h => za8 [some 4] (by decide) w h rfl) (fun g1995 => ?_)
          refine a_one 16 rfl rfl (by kernel_rfl) rfl (zaq (i := 0) rfl rfl rfl Z27 rfl rfl) (fun s w h => za8 [some 4] (by decide) w h rfl) (fun _ => ?_)
          refine a_one 17 rfl rfl (by kernel_rfl) rfl (zb3 (i := 1) rfl rfl rfl rfl Z25 rfl rfl) (fun s w h => za8 [some 4] (by decide) w h rfl) (fun _ => ?_)
          refine zay (by kernel_rfl) ?_
          refine zat (l1936, g1995, g2055, A1937, c1938) h ⟨rfl, rfl, trivial⟩ (fun w h => za6 [4, 0, 1, 2] (by decide) rfl w h) ?_
          repeat (first | exact zab _ _ | refine zaf rfl ?_ | refine zac rfl ?_ | refine zah rfl ?_)
      · skip
        refine a_two 13 15 rfl rfl rfl rfl (by kernel_rfl) rfl rfl (zad 0 Z Try.func83 N83 rfl rfl rfl (fun w P1 hF hB hS hT => slices_Repeat_int_int.calls A1515 c1516 (([(-1)] : List Int).length) ([(-1)] : List Int) (mx (mn a0_0 46) 0) hB hF (hT 1 _ rfl).row (hT 1 _ rfl).cap _ hx1935)) (fun s w h => za8 [some 3] (by decide) w h rfl) (zas V25 rfl) (fun s w h => za8 [some 3] (by decide) w h rfl) (cur2 (fun A1937 c1938 => ?_)) (fun g2055 => ?_)
        · skip
          refine a_one 15 rfl rfl (by kernel_rfl) rfl (zas V25 rfl) (fun s w h => za8 [some 4] (by decide) w h rfl) (fun g2055 => ?_)
          refine a_one 16 rfl rfl (by kernel_rfl) rfl (zaq (i := 2) rfl rfl rfl Z27 rfl rfl) (fun s w h => za8 [some 4] (by decide) w h rfl) (fun _ => ?_)
          refine a_one 17 rfl rfl (by kernel_rfl) rfl (zb3 (i := 0) rfl rfl rfl rfl Z25 rfl rfl) (fun s w h => za8 [some 4] (by decide) w h rfl) (fun _ => ?_)
          refine zay (by kernel_rfl) ?_
          refine zat (l1936, g1995, g2055, A1937, c1938) h ⟨rfl, rfl, trivial⟩ (fun w h => za6 [4, 2, 0, 1] (by decide) rfl w h) ?_
          repeat (first | exact zab _ _ | refine zaf rfl ?_ | refine zac rfl ?_ | refine zah rfl ?_)
        · skip
          refine a_one 13 rfl rfl (by kernel_rfl) rfl (zad 0 Z Try.func83 N83 rfl rfl rfl (fun w P1 hF hB hS hT => slices_Repeat_int_int.calls A1515 c1516 (([(-1)] : List Int).length) ([(-1)] : List Int) (mx (mn a0_0 46) 0) hB hF (hT 2 _ rfl).row (hT 2 _ rfl).cap _ hx1935)) (fun s w h => za8 [some 4] (by decide) w h rfl) (cur2 (fun A1937 c1938 => ?_))
          refine a_one 16 rfl rfl (by kernel_rfl) rfl (zaq (i := 2) rfl rfl rfl Z27 rfl rfl) (fun s w h => za8 [some 4] (by decide) w h rfl) (fun _ => ?_)
          refine a_one 17 rfl rfl (by kernel_rfl) rfl (zb3 (i := 1) rfl rfl rfl rfl Z25 rfl rfl) (fun s w h => za8 [some 4] (by decide) w h rfl) (fun _ => ?_)
          refine zay (by kernel_rfl) ?_
          refine zat (l1936, g1995, g2055, A1937, c1938) h ⟨rfl, rfl, trivial⟩ (fun w h => za6 [4, 2, 1, 0] (by decide) rfl w h) ?_
          repeat (first | exact zab _ _ | refine zaf rfl ?_ | refine zac rfl ?_ | refine zah rfl ?_)
      · skip
        refine a_two 13 14 rfl rfl rfl rfl (by kernel_rfl) rfl rfl (zad 0 Z Try.func83 N83 rfl rfl rfl (fun w P1 hF hB hS hT => slices_Repeat_int_int.calls A1515 c1516 (([(-1)] : List Int).length) ([(-1)] : List Int) (mx (mn a0_0 46) 0) hB hF (hT 1 _ rfl).row (hT 1 _ rfl).cap _ hx1935)) (fun s w h => za8 [some 3] (by decide) w h rfl) (zas V27 rfl) (fun s w h => za8 [some 3] (by decide) w h rfl) (cur2 (fun A1937 c1938 => ?_)) (fun g1995 => ?_)
        · skip
          refine a_one 14 rfl rfl (by kernel_rfl) rfl (zas V27 rfl) (fun s w h => za8 [some 4] (by decide) w h rfl) (fun g1995 => ?_)
          refine a_one 16 rfl rfl (by kernel_rfl) rfl (zaq (i := 0) rfl rfl rfl Z27 rfl rfl) (fun s w h => za8 [some 4] (by decide) w h rfl) (fun _ => ?_)
          refine a_one 17 rfl rfl (by kernel_rfl) rfl (zb3 (i := 2) rfl rfl rfl rfl Z25 rfl rfl) (fun s w h => za8 [some 4] (by decide) w h rfl) (fun _ => ?_)
          refine zay (by kernel_rfl) ?_
          refine zat (l1936, g1995, g2055, A1937, c1938) h ⟨rfl, rfl, trivial⟩ (fun w h => za6 [4, 0, 2, 1] (by decide) rfl w h) ?_
          repeat (first | exact zab _ _ | refine zaf rfl ?_ | refine zac rfl ?_ | refine zah rfl ?_)
        · skip
          refine a_one 13 rfl rfl (by kernel_rfl) rfl (zad 0 Z Try.func83 N83 rfl rfl rfl (fun w P1 hF hB hS hT => slices_Repeat_int_int.calls A1515 c1516 (([(-1)] : List Int).length) ([(-1)] : List Int) (mx (mn a0_0 46) 0) hB hF (hT 2 _ rfl).row (hT 2 _ rfl).cap _ hx1935)) (fun s w h => za8 [some 4] (by decide) w h rfl) (cur2 (fun A1937 c1938 => ?_))
          refine a_one 16 rfl rfl (by kernel_rfl) rfl (zaq (i := 1) rfl rfl rfl Z27 rfl rfl) (fun s w h => za8 [some 4] (by decide) w h rfl) (fun _ => ?_)
          refine a_one 17 rfl rfl (by kernel_rfl) rfl (zb3 (i := 2) rfl rfl rfl rfl Z25 rfl rfl) (fun s w h => za8 [some 4] (by decide) w h rfl) (fun _ => ?_)
          refine zay (by kernel_rfl) ?_
          refine zat (l1936, g1995, g2055, A1937, c1938) h ⟨rfl, rfl, trivial⟩ (fun w h => za6 [4, 1, 2, 0] (by decide) rfl w h) ?_
          repeat (first | exact zab _ _ | refine zaf rfl ?_ | refine zac rfl ?_ | refine zah rfl ?_)
    · skip
      refine a_two 6 15 rfl rfl rfl rfl (by kernel_rfl) rfl rfl (e_lit (vs := [(0, .int .i64 (-1))]) (cs := [.int .i64 (-1)]) (Kd.int .i64) ([(-1)] : List Int) Try.underlying25 I3 (by decide) rfl (by decide) rfl rfl (fun _ _ => Kd.zar _)) (fun s w h => za8 [some 2] (by decide) w h rfl) (zas V25 rfl) (fun s w h => za8 [some 2] (by decide) w h rfl) (cur2 (fun A1515 c1516 => ?_)) (fun g2055 => ?_)
      · skip
        refine a_two 13 15 rfl rfl rfl rfl (by kernel_rfl) rfl rfl (zad 0 Z Try.func83 N83 rfl rfl rfl (fun w P1 hF hB hS hT => slices_Repeat_int_int.calls A1515 c1516 (([(-1)] : List Int).length) ([(-1)] : List Int) (mx (mn a0_0 46) 0) hB hF (hT 0 _ rfl).row (hT 0 _ rfl).cap _ hx1935)) (fun s w h => za8 [some 3] (by decide) w h rfl) (zas V25 rfl) (fun s w h => za8 [some 3] (by decide) w h rfl) (cur2 (fun A1937 c1938 => ?_)) (fun g2055 => ?_)
        · skip
          refine a_one 15 rfl rfl (by kernel_rfl) rfl (zas V25 rfl) (fun s w h => za8 [some 4] (by decide) w h rfl) (fun g2055 => ?_)
          refine a_one 16 rfl rfl (by kernel_rfl) rfl (zaq (i := 3) rfl rfl rfl Z27 rfl rfl) (fun s w h => za8 [some 4] (by decide) w h rfl) (fun _ => ?_)
          refine a_one 17 rfl rfl (by kernel_rfl) rfl (zb3 (i := 0) rfl rfl rfl rfl Z25 rfl rfl) (fun s w h => za8 [some 4] (by decide) w h rfl) (fun _ => ?_)
          refine zay (by kernel_rfl) ?_
          refine zat (l1936, g1995, g2055, A1937, c1938) h ⟨rfl, rfl, trivial⟩ (fun w h => za6 [4, 3, 0, 1] (by decide) rfl w h) ?_
          repeat (first | exact zab _ _ | refine zaf rfl ?_ | refine zac rfl ?_ | refine zah rfl ?_)
        · skip
          refine a_one 13 rfl rfl (by kernel_rfl) rfl (zad 0 Z Try.func83 N83 rfl rfl rfl (fun w P1 hF hB hS hT => slices_Repeat_int_int.calls A1515 c1516 (([(-1)] : List Int).length) ([(-1)] : List Int) (mx (mn a0_0 46) 0) hB hF (hT 1 _ rfl).row (hT 1 _ rfl).cap _ hx1935)) (fun s w h => za8 [some 4] (by decide) w h rfl) (cur2 (fun A1937 c1938 => ?_))
          refine a_one 16 rfl rfl (by kernel_rfl) rfl (zaq (i := 3) rfl rfl rfl Z27 rfl rfl) (fun s w h => za8 [some 4] (by decide) w h rfl) (fun _ => ?_)
          refine a_one 17 rfl rfl (by kernel_rfl) rfl (zb3 (i := 1) rfl rfl rfl rfl Z25 rfl rfl) (fun s w h => za8 [some 4] (by decide) w h rfl) (fun _ => ?_)
          refine zay (by kernel_rfl) ?_
          refine zat (l1936, g1995, g2055, A1937, c1938) h ⟨rfl, rfl, trivial⟩ (fun w h => za6 [4, 3, 1, 0] (by decide) rfl w h) ?_
          repeat (first | exact zab _ _ | refine zaf rfl ?_ | refine zac rfl ?_ | refine zah rfl ?_)
      · skip
        refine a_one 6 rfl rfl (by kernel_rfl) rfl (e_lit (vs := [(0, .int .i64 (-1))]) (cs := [.int .i64 (-1)]) (Kd.int .i64) ([(-1)] : List Int) Try.underlying25 I3 (by decide) rfl (by decide) rfl rfl (fun _ _ => Kd.zar _)) (fun s w h => za8 [some 3] (by decide) w h rfl) (cur2 (fun A1515 c1516 => ?_))
        refine a_one 13 rfl rfl (by kernel_rfl) rfl (zad 0 Z Try.func83 N83 rfl rfl rfl (fun w P1 hF hB hS hT => slices_Repeat_int_int.calls A1515 c1516 (([(-1)] : List Int).length) ([(-1)] : List Int) (mx (mn a0_0 46) 0) hB hF (hT 0 _ rfl).row (hT 0 _ rfl).cap _ hx1935)) (fun s w h => za8 [some 4] (by decide) w h rfl) (cur2 (fun A1937 c1938 => ?_))
        refine a_one 16 rfl rfl (by kernel_rfl) rfl (zaq (i := 3) rfl rfl rfl Z27 rfl rfl) (fun s w h => za8 [some 4] (by decide) w h rfl) (fun _ => ?_)
        refine a_one 17 rfl rfl (by kernel_rfl) rfl (zb3 (i := 2) rfl rfl rfl rfl Z25 rfl rfl) (fun s w h => za8 [some 4] (by decide) w h rfl) (fun _ => ?_)
        refine zay (by kernel_rfl) ?_
        refine zat (l1936, g1995, g2055, A1937, c1938) h ⟨rfl, rfl, trivial⟩ (fun w h => za6 [4, 3, 2, 0] (by decide) rfl w h) ?_
        repeat (first | exact zab _ _ | refine zaf rfl ?_ | refine zac rfl ?_ | refine zah rfl ?_)
    · skip
      refine a_two 6 14 rfl rfl rfl rfl (by kernel_rfl) rfl rfl (e_lit (vs := [(0, .int .i64 (-1))]) (cs := [.int .i64 (-1)]) (Kd.int .i64) ([(-1)] : List Int) Try.underlying25 I3 (by decide) rfl (by decide) rfl rfl (fun _ _ => Kd.zar _)) (fun s w h => za8 [some 2] (by decide) w h rfl) (zas V27 rfl) (fun s w h => za8 [some 2] (by decide) w h rfl) (cur2 (fun A1515 c1516 => ?_)) (fun g1995 => ?_)
      · skip
        refine a_two 13 14 rfl rfl rfl rfl (by kernel_rfl) rfl rfl (zad 0 Z Try.func83 N83 rfl rfl rfl (fun w P1 hF hB hS hT => slices_Repeat_int_int.calls A1515 c1516 (([(-1)] : List Int).length) ([(-1)] : List Int) (mx (mn a0_0 46) 0) hB hF (hT 0 _ rfl).row (hT 0 _ rfl).cap _ hx1935)) (fun s w h => za8 [some 3] (by decide) w h rfl) (zas V27 rfl) (fun s w h => za8 [some 3] (by decide) w h rfl) (cur2 (fun A1937 c1938 => ?_)) (fun g1995 => ?_)
        · skip
          refine a_one 14 rfl rfl (by kernel_rfl) rfl (zas V27 rfl) (fun s w h => za8 [some 4] (by decide) w h rfl) (fun g1995 => ?_)
          refine a_one 16 rfl rfl (by kernel_rfl) rfl (zaq (i := 0) rfl rfl rfl Z27 rfl rfl) (fun s w h => za8 [some 4] (by decide) w h rfl) (fun _ => ?_)
          refine a_one 17 rfl rfl (by kernel_rfl) rfl (zb3 (i := 3) rfl rfl rfl rfl Z25 rfl rfl) (fun s w h => za8 [some 4] (by decide) w h rfl) (fun _ => ?_)
          refine zay (by kernel_rfl) ?_
          refine zat (l1936, g1995, g2055, A1937, c1938) h ⟨rfl, rfl, trivial⟩ (fun w h => za6 [4, 0, 3, 1] (by decide) rfl w h) ?_
          repeat (first | exact zab _ _ | refine zaf rfl ?_ | refine zac rfl ?_ | refine zah rfl ?_)
        · skip
          refine a_one 13 rfl rfl (by kernel_rfl) rfl (zad 0 Z Try.func83 N83 rfl rfl rfl (fun w P1 hF hB hS hT => slices_Repeat_int_int.calls A1515 c1516 (([(-1)] : List Int).length) ([(-1)] : List Int) (mx (mn a0_0 46) 0) hB hF (hT 1 _ rfl).row (hT 1 _ rfl).cap _ hx1935)) (fun s w h => za8 [some 4] (by decide) w h rfl) (cur2 (fun A1937 c1938 => ?_))
          refine a_one 16 rfl rfl (by kernel_rfl) rfl (zaq (i := 1) rfl rfl rfl Z27 rfl rfl) (fun s w h => za8 [some 4] (by decide) w h rfl) (fun _ => ?_)
          refine a_one 17 rfl rfl (by kernel_rfl) rfl (zb3 (i := 3) rfl rfl rfl rfl Z25 rfl rfl) (fun s w h => za8 [some 4] (by decide) w h rfl) (fun _ => ?_)
          refine zay (by kernel_rfl) ?_
          refine zat (l1936, g1995, g2055, A1937, c1938) h ⟨rfl, rfl, trivial⟩ (fun w h => za6 [4, 1, 3, 0] (by decide) rfl w h) ?_
          repeat (first | exact zab _ _ | refine zaf rfl ?_ | refine zac rfl ?_ | refine zah rfl ?_)
      · skip
        refine a_one 6 rfl rfl (by kernel_rfl) rfl (e_lit (vs := [(0, .int .i64 (-1))]) (cs := [.int .i64 (-1)]) (Kd.int .i64) ([(-1)] : List Int) Try.underlying25 I3 (by decide) rfl (by decide) rfl rfl (fun _ _ => Kd.zar _)) (fun s w h => za8 [some 3] (by decide) w h rfl) (cur2 (fun A1515 c1516 => ?_))
        refine a_one 13 rfl rfl (by kernel_rfl) rfl (zad 0 Z Try.func83 N83 rfl rfl rfl (fun w P1 hF hB hS hT => slices_Repeat_int_int.calls A1515 c1516 (([(-1)] : List Int).length) ([(-1)] : List Int) (mx (mn a0_0 46) 0) hB hF (hT 0 _ rfl).row (hT 0 _ rfl).cap _ hx1935)) (fun s w h => za8 [some 4] (by decide) w h rfl) (cur2 (fun A1937 c1938 => ?_))
        refine a_one 16 rfl rfl (by kernel_rfl) rfl (zaq (i := 2) rfl rfl rfl Z27 rfl rfl) (fun s w h => za8 [some 4] (by decide) w h rfl) (fun _ => ?_)
        refine a_one 17 rfl rfl (by kernel_rfl) rfl (zb3 (i := 3) rfl rfl rfl rfl Z25 rfl rfl) (fun s w h => za8 [some 4] (by decide) w h rfl) (fun _ => ?_)
        refine zay (by kernel_rfl) ?_
        refine zat (l1936, g1995, g2055, A1937, c1938) h ⟨rfl, rfl, trivial⟩ (fun w h => za6 [4, 2, 3, 0] (by decide) rfl w h) ?_
        repeat (first | exact zab _ _ | refine zaf rfl ?_ | refine zac rfl ?_ | refine zah rfl ?_)
  · skip
    refine (cur5 (fun l1146 g1144 g1145 A1147 c1148 => fun U1152 hJ1153 => ?_))
    have e_ := Option.some.inj hJ1153; have h := hR1151; rw [← e_] at h; clear e_ hJ1153 hR1151 hl1150
    refine c_seq ?_
    refine za0 ?_
    refine o_q rfl rfl (q_func rfl rfl) ?_
    refine o_q rfl rfl (q_asg rfl) ?_
    refine o_end ?_
    refine za1 ?_
    refine c_seq ?_
    refine c_seq ?_
    refine za0 ?_
    refine o_q rfl rfl (za3 rfl) ?_
    refine o_q rfl rfl (q_nil rfl) ?_
    refine o_q rfl rfl (q_f F43_1 rfl) ?_
    refine o_q rfl rfl (q_ldb Y25 rfl (fun w h => B0.now Z h) rfl) ?_
    refine o_q rfl rfl (q_len Try.underlying25 rfl) ?_
    refine o_q rfl rfl (za3 rfl) ?_
    refine o_end ?_
    refine za1 ?_
    refine zaj ?_
    refine za7 h (fun o2304 hl2303 hR2302 => ?_) rfl
    clear h
    refine c_fact (p := l0_1.length ≤ 9223372036854775807) (fun w h => (R0_1.now Z h).2.1) (fun hm2301 => ?_)
    refine zax (σ := (List Int) × (List Int) × Int) (fun k2299 ((ys2298, l2295, i2296) : (List Int) × (List Int) × Int) => Rg l0_1 i2296 ys2298 ∧ ys2298.length = k2299 ∧ impl_RegCode_read.l0 ys2298 l2295 i2296 = some o2304) [3, 7, 8, 33, 34, 35, 36, 37, 38, 39, 40, 41, 42, 43, 44, 45, 46, 47, 48, 49, 50, 51, 52, 53, 54] (fun ((ys2298, l2295, i2296) : (List Int) × (List Int) × Int) => [(33, .int .i64 i2296)]) (fun ((ys2298, l2295, i2296) : (List Int) × (List Int) × Int) => [box g1 27 #[.int .i64 0, .slice none 0 0, .slice none 0 0], box g1144 27 #[.int .i64 (l0_1.length : Int), .slice none 0 0, .slice none 0 0], box g1145 25 #[.slice A1147 l1146.length c1148], row (Kd.int .i64) 3 (.slice A1147 l1146.length c1148) l2295]) l0_1.length (l0_1, l1146, 0) ⟨Rg.start _, rfl, hl2303⟩ ⟨rfl, trivial⟩ (fun w h => h) ?_
    refine fun k2299 => cur3 (listC (fun l2295 i2296 U2305 hJ_ => ?_) (fun y2297 ys2298 l2295 i2296 U2305 hJ_ => ?_))
    · skip
      clear hl2303
      have hr2300 := hJ_.1; have hk2306 := hJ_.2.1; have h := hJ_.2.2; clear hJ_
      replace h : impl_RegCode_read.l0 [] l2295 i2296 = some o2304 := h
      rw [impl_RegCode_read.l0] at h
      refine c_seq ?_
      refine za0 ?_
      refine o_q rfl rfl (q_lss rfl rfl) ?_
      refine o_end ?_
      refine za1 ?_
      refine c_seq ?_
      refine zb2 (congrArg Value.bool hr2300.ge) ?_
      refine zb4 ?_
      refine za5 ?_
      refine za5 ?_
      have e_ := Option.some.inj h; replace h := hR2302; rw [← e_] at h; clear e_
      refine x_hit ?_
      refine za1 ?_
      refine c_seq ?_
      refine c_seq ?_
      refine za0 ?_
      refine o_q rfl rfl (za3 rfl) ?_
      refine o_q rfl rfl (q_nil rfl) ?_
      refine o_q rfl rfl (q_f F43_2 rfl) ?_
      refine o_q rfl rfl (q_ldb Y41 rfl (fun w h => B0.now Z h) rfl) ?_
      refine o_q rfl rfl (q_len Try.underlying41 rfl) ?_
      refine o_q rfl rfl (za3 rfl) ?_
      refine o_end ?_
      refine za1 ?_
      refine zaj ?_
      refine c_nil kStep 88 ?_
      refine za7 h (fun o2320 hl2319 hR2318 => ?_) rfl
      clear h
      refine c_fact (p := l0_2.length ≤ 9223372036854775807) (fun w h => (R0_2.now Z h).2.1) (fun hm2317 => ?_)
      refine zax (σ := (List SRegOp) × (List Int) × (List SStep) × Int × (Option Addr) × Nat) (fun k2315 ((ys2314, l2308, l2309, i2312, A2310, c2311) : (List SRegOp) × (List Int) × (List SStep) × Int × (Option Addr) × Nat) => Rg l0_2 i2312 ys2314 ∧ ys2314.length = k2315 ∧ impl_RegCode_read.l1 l0_1 ys2314 l2308 l2309 i2312 = some o2320) [3, 10, 60, 61, 62, 63, 64, 65, 66, 67, 68, 69, 70, 71, 72, 73, 74, 75, 76, 77, 78, 79, 80, 81, 82, 83, 84, 85, 86, 87, 88, 89, 90, 91, 92, 93, 94, 95, 96, 97, 98, 99, 100, 101, 102, 103, 104, 105, 106, 107, 108, 109, 110, 111, 112, 113, 114, 115, 116, 117, 118, 119, 120, 121, 122] (fun ((ys2314, l2308, l2309, i2312, A2310, c2311) : (List SRegOp) × (List Int) × (List SStep) × Int × (Option Addr) × Nat) => [(60, .int .i64 i2312)]) (fun ((ys2314, l2308, l2309, i2312, A2310, c2311) : (List SRegOp) × (List Int) × (List SStep) × Int × (Option Addr) × Nat) => [row kStep 88 (.slice A2310 l2309.length c2311) l2309, box g1 27 #[.int .i64 0, .slice none 0 0, .slice none 0 0], box g1144 27 #[.int .i64 (l0_1.length : Int), .slice A2310 l2309.length c2311, .slice none 0 0], box g1145 25 #[.slice A1147 l1146.length c1148], row (Kd.int .i64) 3 (.slice A1147 l1146.length c1148) l2308]) l0_2.length (l0_2, l2295, ([] : List SStep), 0, none, 0) ⟨Rg.start _, rfl, hl2319⟩ ⟨rfl, trivial⟩ (fun w h => h) ?_
      refine fun k2315 => cur6 (listC (fun l2308 l2309 i2312 A2310 c2311 U2321 hJ_ => ?_) (fun y2313 ys2314 l2308 l2309 i2312 A2310 c2311 U2321 hJ_ => ?_))
      · skip
        clear hl2319
        have hr2316 := hJ_.1; have hk2322 := hJ_.2.1; have h := hJ_.2.2; clear hJ_
        replace h : impl_RegCode_read.l1 l0_1 [] l2308 l2309 i2312 = some o2320 := h
        rw [impl_RegCode_read.l1] at h
        refine c_seq ?_
        refine za0 ?_
        refine o_q rfl rfl (q_lss rfl rfl) ?_
        refine o_end ?_
        refine za1 ?_
        refine c_seq ?_
        refine zb2 (congrArg Value.bool hr2316.ge) ?_
        refine zb4 ?_
        refine za5 ?_
        refine za5 ?_
        have e_ := Option.some.inj h; replace h := hR2318; rw [← e_] at h; clear e_
        refine x_hit ?_
        refine za1 ?_
        refine c_seq ?_
        refine c_seq ?_
        refine za0 ?_
        refine o_q rfl rfl (za3 rfl) ?_
        refine o_q rfl rfl (q_nil rfl) ?_
        refine o_q rfl rfl (q_f F43_3 rfl) ?_
        refine o_q rfl rfl (q_ldb Y25 rfl (fun w h => B0.now Z h) rfl) ?_
        refine o_q rfl rfl (q_len Try.underlying25 rfl) ?_
        refine o_q rfl rfl (za3 rfl) ?_
        refine o_end ?_
        refine za1 ?_
        refine zaj ?_
        refine c_nil (Kd.int .i64) 3 ?_
        refine za7 h (fun o2335 hl2334 hR2333 => ?_) rfl
        clear h
        refine c_fact (p := l0_3.length ≤ 9223372036854775807) (fun w h => (R0_3.now Z h).2.1) (fun hm2332 => ?_)
        refine zax (σ := (List Int) × (List Int) × Int × (Option Addr) × Nat) (fun k2330 ((ys2329, l2324, i2327, A2325, c2326) : (List Int) × (List Int) × Int × (Option Addr) × Nat) => Rg l0_3 i2327 ys2329 ∧ ys2329.length = k2330 ∧ impl_RegCode_read.l2 l2308 ys2329 l2324 i2327 = some o2335) [3, 12, 128, 129, 130, 131, 132, 133, 134, 135, 136, 137, 138, 139, 140, 141, 142, 143, 144, 145, 146, 147, 148, 149, 150, 151, 152, 153] (fun ((ys2329, l2324, i2327, A2325, c2326) : (List Int) × (List Int) × Int × (Option Addr) × Nat) => [(128, .int .i64 i2327)]) (fun ((ys2329, l2324, i2327, A2325, c2326) : (List Int) × (List Int) × Int × (Option Addr) × Nat) => [row (Kd.int .i64) 3 (.slice A2325 l2324.length c2326) l2324, row kStep 88 (.slice A2310 l2309.length c2311) l2309, box g1 27 #[.int .i64 0, .slice none 0 0, .slice none 0 0], box g1144 27 #[.int .i64 (l0_1.length : Int), .slice A2310 l2309.length c2311, .slice A2325 l2324.length c2326], box g1145 25 #[.slice A1147 l1146.length c1148], row (Kd.int .i64) 3 (.slice A1147 l1146.length c1148) l2308]) l0_3.length (l0_3, ([] : List Int), 0, none, 0) ⟨Rg.start _, rfl, hl2334⟩ ⟨rfl, trivial⟩ (fun w h => h) ?_
        refine fun k2330 => cur5 (listC (fun l2324 i2327 A2325 c2326 U2336 hJ_ => ?_) (fun y2328 ys2329 l2324 i2327 A2325 c2326 U2336 hJ_ => ?_))
        · skip
          clear hl2334
          have hr2331 := hJ_.1; have hk2337 := hJ_.2.1; have h := hJ_.2.2; clear hJ_
          replace h : impl_RegCode_read.l2 l2308 [] l2324 i2327 = some o2335 := h
          rw [impl_RegCode_read.l2] at h
          refine c_seq ?_
          refine za0 ?_
          refine o_q rfl rfl (q_lss rfl rfl) ?_
          refine o_end ?_
          refine za1 ?_
          refine c_seq ?_
          refine zb2 (congrArg Value.bool hr2331.ge) ?_
          refine zb4 ?_
          refine za5 ?_
          refine za5 ?_
          have e_ := Option.some.inj h; replace h := hR2333; rw [← e_] at h; clear e_
          refine x_hit ?_
          refine za1 ?_
          refine c_seq ?_
          refine a_startS (ds := []) [some 0, some 1, none, some 3, some 4, some 5] MO rfl ?_
          refine zb0 0 rfl rfl rfl (by kernel_rfl) (fun _ _ _ h => h) (fun w h => za8 [some 0, some 1, none, some 3, some 4, some 5] (by decide) w h rfl) (q_ldB G27 Z27 rfl (fun w h => h.zae (i := 3) rfl) rfl) ?_
          refine za9 1 rfl rfl rfl (by kernel_rfl) (fun _ _ _ h => h) (za3 rfl) ?_
          refine za9 2 rfl rfl rfl (by kernel_rfl) (fun _ _ _ h => h) (q_nil rfl) ?_
          refine za9 3 rfl rfl rfl (by kernel_rfl) (fun _ _ _ h => h) (q_f F43_0 rfl) ?_
          refine zb0 4 rfl rfl rfl (by kernel_rfl) (fun _ _ _ h => h) (fun w h => za8 [some 0, some 1, none, some 3, some 4, some 5] (by decide) w h rfl) (q_ldb Y3 rfl (fun w h => B0.now Z h) rfl) ?_
          refine za7 h (fun b2339 hx2338 h => ?_) rfl
          refine a_one 5 rfl rfl (by kernel_rfl) rfl (zad 0 Z Try.func58 N58 rfl rfl rfl (fun w P1 hF hB hS hT => impl_in.calls a0_0 1 46 hB hF _ hx2338)) (fun s w h => za8 [some 0, some 1, none, some 3, some 4, some 5] (by decide) w h rfl) (fun _ => ?_)
          refine a_one 6 rfl rfl (by kernel_rfl) rfl (zaq (i := 2) rfl rfl rfl Z27 rfl rfl) (fun s w h => za8 [some 0, some 1, none, some 3, some 4, some 5] (by decide) w h rfl) (fun _ => ?_)
          refine za9 7 rfl rfl rfl (by kernel_rfl) (fun _ _ _ h => h) (q_asg rfl) ?_
          refine zay (by kernel_rfl) ?_
          refine za1 ?_
          refine c_ret ?_
          have e0_ := Option.some.inj h; clear h
          have d0_ := (Prod.mk.inj e0_).1; have e1_ := (Prod.mk.inj e0_).2; clear e0_; subst d0_
          have d1_ := (Prod.mk.inj e1_).1; have e2_ := (Prod.mk.inj e1_).2; clear e1_; subst d1_
          have d2_ := (Prod.mk.inj e2_).1; have e3_ := (Prod.mk.inj e2_).2; clear e2_; subst d2_
          subst e3_
          exact x_r2 (A2310, c2311, A2325, c2326) Try.results143 (rv_cell rfl G27 Z27 (fun w h => h.zae (i := 2) rfl) rfl) (zai rfl) rfl (fun w h => za6 [1, 0] (by decide) rfl w h)
        · skip
          clear hl2334
          have hr2331 := hJ_.1; have hk2337 := hJ_.2.1; have h := hJ_.2.2; clear hJ_
          replace h : impl_RegCode_read.l2 l2308 (y2328 :: ys2329) l2324 i2327 = some o2335 := h
          rw [impl_RegCode_read.l2] at h
          refine c_seq ?_
          refine za0 ?_
          refine o_q rfl rfl (q_lss rfl rfl) ?_
          refine o_end ?_
          refine za1 ?_
          refine c_seq ?_
          refine zb1 (congrArg Value.bool hr2331.lt) ?_
          refine zan ?_
          refine za1 ?_
          refine c_seq ?_
          refine zaj ?_
          refine c_seq ?_
          refine za0 ?_
          refine zaz (p := Sh A0_3 l0_3.length l0_3.length) (fun w h => f_sh (dk := (Kd.int .i64)) h (fun w h => R0_3.now Z h)) (fun hq2340 => ?_)
          refine o_q rfl rfl (q_ix Try.underlying25 Z3 rfl rfl hq2340 hr2331.get) ?_
          refine o_q rfl rfl (q_lde (off := 0) Y3 rfl rfl (fun w h => R0_3.now Z h) hr2331.get (fun _ _ h => h) rfl) ?_
          refine o_q rfl rfl (q_asg rfl) ?_
          refine o_end ?_
          refine za1 ?_
          refine c_seq ?_
          refine za7 h (fun o2348 hl2349 hR2350 => ?_) rfl
          clear h
          refine c_cutJ (σ := Bool) (fun b2347 => some b2347 = some o2348) [132, 133, 134, 135, 136, 137, 138, 139, 140, 141, 142] (fun b2347 => [(142, .bool b2347)]) (fun b2347 => [box g1 27 #[.int .i64 0, .slice none 0 0, .slice none 0 0], box g1144 27 #[.int .i64 (l0_1.length : Int), .slice A2310 l2309.length c2311, .slice A2325 l2324.length c2326], row kStep 88 (.slice A2310 l2309.length c2311) l2309, row (Kd.int .i64) 3 (.slice A2325 l2324.length c2326) l2324, box g1145 25 #[.slice A1147 l1146.length c1148], row (Kd.int .i64) 3 (.slice A1147 l1146.length c1148) l2308]) ?_ ?_
          · skip
            have h := hl2349; clear hl2349
            clear hR2350
            refine za0 ?_
            refine o_q rfl rfl (za3 rfl) ?_
            refine o_q rfl rfl (za3 rfl) ?_
            refine za7 h (fun b2354 hx2353 h => ?_) rfl
            refine o_e rfl (zad 0 Z Try.func181 N181 rfl rfl rfl (fun w P1 hF hB hS hT => impl_RegCode_read_1.calls y2328 g1145 A1147 c1148 l1146.length l2308 hB hF (hT 5 _ rfl).row (hT 5 _ rfl).cap (hT 4 _ rfl).box _ hx2353)) (fun _ => ?_)
            refine o_q rfl rfl (q_not rfl) ?_
            refine o_q rfl rfl (za3 rfl) ?_
            refine byB b2354 (fun hb2355 => ?_) (fun hb2355 => ?_)
            · replace h := bb_t hb2355 h
              refine o_w (za4 rfl rfl rfl (congrArg (fun b => Value.bool (!(b))) hb2355)) rfl (q_ldb Y25 rfl (fun w h => h.zae (i := 4) rfl) rfl) ?_
              refine o_w (za4 rfl rfl rfl (congrArg (fun b => Value.bool (!(b))) hb2355)) rfl (za3 rfl) ?_
              refine zaz (p := Sh A1147 l1146.length l2308.length) (fun w h => f_sh (dk := (Kd.int .i64)) h (fun w h => h.zau (i := 5) rfl)) (fun hq2356 => ?_)
              refine za7 h (fun y2358 hg2357 h => ?_) rfl
              refine o_w (za4 rfl rfl rfl (congrArg (fun b => Value.bool (!(b))) hb2355)) rfl (q_ix Try.underlying25 Z3 rfl rfl hq2356 hg2357) ?_
              refine o_w (za4 rfl rfl rfl (congrArg (fun b => Value.bool (!(b))) hb2355)) rfl (q_lde (off := 0) Y3 rfl rfl (fun w h => h.zau (i := 5) rfl) hg2357 (fun _ _ h => h) rfl) ?_
              refine o_w (za4 rfl rfl rfl (congrArg (fun b => Value.bool (!(b))) hb2355)) rfl (q_eql rfl rfl) ?_
              refine o_q rfl rfl (zal false (congrArg (fun b => Value.bool (!(b))) hb2355) rfl) ?_
              refine o_end ?_
              refine zat (decide (y2358 = (-1))) h ⟨rfl, trivial⟩ (fun w h => za6 [2, 3, 1, 0, 4, 5] (by decide) rfl w h) ?_
              repeat (first | exact zab _ _ | refine zaf rfl ?_ | refine zac rfl ?_ | refine zah rfl ?_)
            · replace h := bb_f hb2355 h
              refine @o_n _ _ _ _ _ _ _ _ _ _ _ 137 (za2 rfl rfl rfl (congrArg (fun b => Value.bool (!(b))) hb2355) rfl) (Eq.refl (some 137)) ?_
              refine @o_n _ _ _ _ _ _ _ _ _ _ _ 138 (za2 rfl rfl rfl (congrArg (fun b => Value.bool (!(b))) hb2355) rfl) (Eq.refl (some 138)) ?_
              refine @o_n _ _ _ _ _ _ _ _ _ _ _ 139 (za2 rfl rfl rfl (congrArg (fun b => Value.bool (!(b))) hb2355) rfl) (Eq.refl (some 139)) ?_
              refine @o_n _ _ _ _ _ _ _ _ _ _ _ 140 (za2 rfl rfl rfl (congrArg (fun b => Value.bool (!(b))) hb2355) rfl) (Eq.refl (some 140)) ?_
              refine @o_n _ _ _ _ _ _ _ _ _ _ _ 141 (za2 rfl rfl rfl (congrArg (fun b => Value.bool (!(b))) hb2355) rfl) (Eq.refl (some 141)) ?_
              refine o_q rfl rfl (zal true (congrArg (fun b => Value.bool (!(b))) hb2355) rfl) ?_
              refine o_end ?_
              refine zat true h ⟨rfl, trivial⟩ (fun w h => za6 [2, 3, 1, 0, 4, 5] (by decide) rfl w h) ?_
              repeat (first | exact zab _ _ | refine zaf rfl ?_ | refine zac rfl ?_ | refine zah rfl ?_)
          · skip
            refine (fun b2347 => fun U2351 hJ2352 => ?_)
            have e_ := Option.some.inj hJ2352; have h := hR2350; rw [← e_] at h; clear e_ hJ2352 hR2350 hl2349
            refine zav _ rfl (fun hb2359 => ?_) (fun hb2359 => ?_)
            · skip
              replace h := bb_t hb2359 h
              refine c_seq ?_
              refine za0 ?_
              refine o_q rfl rfl (q_build (vs := []) (cs := [.int .i64 0, .slice none 0 0, .slice none 0 0]) rfl rfl) ?_
              refine o_e rfl (zaq (i := 0) rfl rfl rfl Z27 rfl rfl) (fun _ => ?_)
              refine o_q rfl rfl (q_asg rfl) ?_
              refine o_end ?_
              refine za1 ?_
              refine c_ret ?_
              refine zaa ?_
              refine zao ?_
              refine zaa ?_
              refine zaa ?_
              have e_ := Option.some.inj h; replace h := hR2333; rw [← e_] at h; clear e_
              refine zao ?_
              refine zaa ?_
              refine x_nil kStep 88 ?_
              refine x_nil (Kd.int .i64) 3 ?_
              have e0_ := Option.some.inj h; clear h
              have d0_ := (Prod.mk.inj e0_).1; have e1_ := (Prod.mk.inj e0_).2; clear e0_; subst d0_
              have d1_ := (Prod.mk.inj e1_).1; have e2_ := (Prod.mk.inj e1_).2; clear e1_; subst d1_
              have d2_ := (Prod.mk.inj e2_).1; have e3_ := (Prod.mk.inj e2_).2; clear e2_; subst d2_
              subst e3_
              exact x_r2 (none, 0, none, 0) Try.results143 (rv_cell rfl G27 Z27 (fun w h => h.zae (i := 2) rfl) rfl) (zai rfl) rfl (fun w h => za6 [1, 0] (by decide) rfl w h)
            · skip
              replace h := bb_f hb2359 h
              refine zan ?_
              refine za1 ?_
              refine za7 h (fun y2603 hg2602 h => ?_) rfl
              refine za7 h (fun l2781 ha2782 h => ?_) rfl
              refine a_startS (ds := []) [some 0, none, some 2, none, some 4, some 5] MO rfl ?_
              refine za9 0 rfl rfl rfl (by kernel_rfl) (fun _ _ _ h => h) (q_f F27_2 rfl) ?_
              refine zb0 2 rfl rfl rfl (by kernel_rfl) (fun _ _ _ h => h) (fun w h => za8 [some 0, none, some 2, none, some 4, some 5] (by decide) w h rfl) (q_ldb Y25 rfl (fun w h => h.zae (i := 4) rfl) rfl) ?_
              refine za9 3 rfl rfl rfl (by kernel_rfl) (fun _ _ _ h => h) (za3 rfl) ?_
              refine a_fact (p := Sh A1147 l1146.length l2308.length) (fun w h => f_sh (dk := (Kd.int .i64)) h (fun w h => h.zau (i := 5) rfl)) (fun hq2601 => ?_)
              refine za9 4 rfl rfl rfl (by kernel_rfl) (fun _ _ _ h => h) (q_ix Try.underlying25 Z3 rfl rfl hq2601 hg2602) ?_
              refine zb0 5 rfl rfl rfl (by kernel_rfl) (fun _ _ _ h => h) (fun w h => za8 [some 0, none, some 2, none, some 4, some 5] (by decide) w h rfl) (q_lde (off := 0) Y3 rfl rfl (fun w h => h.zau (i := 5) rfl) hg2602 (fun _ _ h => h) rfl) ?_
              refine a_two 1 6 rfl rfl rfl rfl (by kernel_rfl) rfl rfl (ev_q rfl (q_ldb Y25 rfl (fun w h => h.zae (i := 1) rfl) rfl)) (fun s w h => za8 [some 0, none, some 2, none, some 4, some 5] (by decide) w h rfl) (e_lit (vs := [(0, .int .i64 y2603)]) (cs := [.int .i64 y2603]) (Kd.int .i64) ([y2603] : List Int) Try.underlying25 I3 (by decide) rfl (by decide) rfl rfl (fun _ _ => Kd.zar _)) (fun s w h => za8 [some 1, none, some 3, none, some 5, some 6] (by decide) w h rfl) (fun _ => ?_) (cur2 (fun A2721 c2722 => ?_))
              · skip
                refine a_one 6 rfl rfl (by kernel_rfl) rfl (e_lit (vs := [(0, .int .i64 y2603)]) (cs := [.int .i64 y2603]) (Kd.int .i64) ([y2603] : List Int) Try.underlying25 I3 (by decide) rfl (by decide) rfl rfl (fun _ _ => Kd.zar _)) (fun s w h => za8 [some 1, none, some 3, none, some 5, some 6] (by decide) w h rfl) (cur2 (fun A2721 c2722 => ?_))
                refine a_one 7 rfl rfl (by kernel_rfl) rfl (e_app (i := 4) (j := 0) Try.underlying25 I3 rfl (by decide) (by decide) rfl rfl rfl rfl rfl ha2782) (fun s w h => za8 [some 1, none, some 3, none, some 5, some 6] (by decide) w h rfl) (cur2 (fun A2783 c2784 => ?_))
                refine za9 8 rfl rfl rfl (by kernel_rfl) (fun _ _ _ h => h) (q_f F27_2 rfl) ?_
                refine a_one 9 rfl rfl (by kernel_rfl) rfl (zb3 (i := 2) rfl rfl rfl rfl Z25 rfl rfl) (fun s w h => za8 [some 1, none, some 3, none, some 5, some 6] (by decide) w h rfl) (fun _ => ?_)
                refine zay (by kernel_rfl) ?_
                refine zam ?_
                refine za1 ?_
                refine za0 ?_
                refine o_q rfl rfl (q_up rfl rfl (hr2331.up hm2332)) ?_
                refine o_q rfl rfl (za3 rfl) ?_
                refine o_end ?_
                refine zak ys2329.length (ys2329, l2781, i2327 + 1, A2783, c2784) (by rw [← hk2337]; exact Nat.lt_succ_self _) ⟨hr2331.step, rfl, h⟩ ⟨rfl, trivial⟩ (fun w h => za6 [4, 3, 1, 2, 5, 6] (by decide) rfl w h) ?_
                repeat (first | exact zab _ _ | refine zaf rfl ?_ | refine zac rfl ?_ | refine zah rfl ?_)
              · skip
                refine a_one 1 rfl rfl (by kernel_rfl) rfl (ev_q rfl (q_ldb Y25 rfl (fun w h => h.zae (i := 2) rfl) rfl)) (fun s w h => za8 [some 1, none, some 3, none, some 5, some 6] (by decide) w h rfl) (fun _ => ?_)
                refine a_one 7 rfl rfl (by kernel_rfl) rfl (e_app (i := 4) (j := 0) Try.underlying25 I3 rfl (by decide) (by decide) rfl rfl rfl rfl rfl ha2782) (fun s w h => za8 [some 1, none, some 3, none, some 5, some 6] (by decide) w h rfl) (cur2 (fun A2783 c2784 => ?_))
                refine za9 8 rfl rfl rfl (by kernel_rfl) (fun _ _ _ h => h) (q_f F27_2 rfl) ?_
                refine a_one 9 rfl rfl (by kernel_rfl) rfl (zb3 (i := 2) rfl rfl rfl rfl Z25 rfl rfl) (fun s w h => za8 [some 1, none, some 3, none, some 5, some 6] (by decide) w h rfl) (fun _ => ?_)
                refine zay (by kernel_rfl) ?_
                refine zam ?_
                refine za1 ?_
                refine za0 ?_
                refine o_q rfl rfl (q_up rfl rfl (hr2331.up hm2332)) ?_
                refine o_q rfl rfl (za3 rfl) ?_
                refine o_end ?_
                refine zak ys2329.length (ys2329, l2781, i2327 + 1, A2783, c2784) (by rw [← hk2337]; exact Nat.lt_succ_self _) ⟨hr2331.step, rfl, h⟩ ⟨rfl, trivial⟩ (fun w h => za6 [4, 3, 1, 2, 5, 6] (by decide) rfl w h) ?_
                repeat (first | exact zab _ _ | refine zaf rfl ?_ | refine zac rfl ?_ | refine zah rfl ?_)
      · skip
        clear hl2319
        have hr2316 := hJ_.1; have hk2322 := hJ_.2.1; have h := hJ_.2.2; clear hJ_
        replace h : impl_RegCode_read.l1 l0_1 (y2313 :: ys2314) l2308 l2309 i2312 = some o2320 := h
        rw [impl_RegCode_read.l1] at h
        refine c_seq ?_
        refine za0 ?_
        refine o_q rfl rfl (q_lss rfl rfl) ?_
        refine o_end ?_
        refine za1 ?_
        refine c_seq ?_
        refine zb1 (congrArg Value.bool hr2316.lt) ?_
        refine zan ?_
        refine za1 ?_
        refine c_seq ?_
        refine zaj ?_
        refine c_seq ?_
        refine za0 ?_
        refine zaz (p := Sh A0_2 l0_2.length l0_2.length) (fun w h => f_sh (dk := kRegOp) h (fun w h => R0_2.now Z h)) (fun hq3021 => ?_)
        refine o_q rfl rfl (q_ix Try.underlying41 Z94 rfl rfl hq3021 hr2316.get) ?_
        refine o_q rfl rfl (q_ldE G94 Z94 rfl rfl (fun w h => R0_2.now Z h) hr2316.get (fun _ _ h => h) rfl) ?_
        refine o_e rfl (zas V94 rfl) (fun g3022 => ?_)
        refine o_e rfl (zaq (i := 0) rfl rfl rfl Z94 rfl rfl) (fun _ => ?_)
        refine o_end ?_
        refine za1 ?_
        refine c_seq ?_
        refine za7 h (fun o3040 hl3041 hR3042 => ?_) rfl
        clear h
        refine c_cutJ (σ := Bool) (fun b3039 => some b3039 = some o3040) [64, 65, 66, 67, 68, 69, 70, 71, 72, 73, 74, 75, 76, 77, 78, 79, 80, 81, 82, 83, 84, 85, 86, 87, 88, 89, 90, 91, 92, 93, 94, 95, 96, 97, 98] (fun b3039 => [(98, .bool b3039)]) (fun b3039 => [box g1 27 #[.int .i64 0, .slice none 0 0, .slice none 0 0], box g1144 27 #[.int .i64 (l0_1.length : Int), .slice A2310 l2309.length c2311, .slice none 0 0], row kStep 88 (.slice A2310 l2309.length c2311) l2309, box g1145 25 #[.slice A1147 l1146.length c1148], row (Kd.int .i64) 3 (.slice A1147 l1146.length c1148) l2308, box g3022 94 #[.int .i64 y2313.f0, .int .i64 y2313.f1, .int .i64 y2313.f2]]) ?_ ?_
        · skip
          have h := hl3041; clear hl3041
          clear hR3042
          refine za0 ?_
          refine o_q rfl rfl (za3 rfl) ?_
          refine o_q rfl rfl (q_f F94_0 rfl) ?_
          refine o_q rfl rfl (q_ldb Y3 rfl (fun w h => h.zae (i := 0) rfl) rfl) ?_
          refine za7 h (fun b3046 hx3045 h => ?_) rfl
          refine o_e rfl (zad 0 Z Try.func181 N181 rfl rfl rfl (fun w P1 hF hB hS hT => impl_RegCode_read_1.calls y2313.f0 g1145 A1147 c1148 l1146.length l2308 hB hF (hT 5 _ rfl).row (hT 5 _ rfl).cap (hT 4 _ rfl).box _ hx3045)) (fun _ => ?_)
          refine o_q rfl rfl (q_not rfl) ?_
          refine o_q rfl rfl (za3 rfl) ?_
          refine byB b3046 (fun hb3047 => ?_) (fun hb3047 => ?_)
          · replace h := bb_t hb3047 h
            refine o_w (za4 rfl rfl rfl (congrArg (fun b => Value.bool (!(b))) hb3047)) rfl (za3 rfl) ?_
            refine o_w (za4 rfl rfl rfl (congrArg (fun b => Value.bool (!(b))) hb3047)) rfl (q_f F94_1 rfl) ?_
            refine o_w (za4 rfl rfl rfl (congrArg (fun b => Value.bool (!(b))) hb3047)) rfl (q_ldb Y3 rfl (fun w h => h.zae (i := 0) rfl) rfl) ?_
            refine za7 h (fun b3049 hx3048 h => ?_) rfl
            refine o_ew (za4 rfl rfl rfl (congrArg (fun b => Value.bool (!(b))) hb3047)) (zad 0 Z Try.func181 N181 rfl rfl rfl (fun w P1 hF hB hS hT => impl_RegCode_read_1.calls y2313.f1 g1145 A1147 c1148 l1146.length l2308 hB hF (hT 5 _ rfl).row (hT 5 _ rfl).cap (hT 4 _ rfl).box _ hx3048)) (fun _ => ?_)
            refine o_w (za4 rfl rfl rfl (congrArg (fun b => Value.bool (!(b))) hb3047)) rfl (q_not rfl) ?_
            refine o_q rfl rfl (zal false (congrArg (fun b => Value.bool (!(b))) hb3047) rfl) ?_
            refine o_q rfl rfl (za3 rfl) ?_
            refine byB b3049 (fun hb3050 => ?_) (fun hb3050 => ?_)
            · replace h := bb_t hb3050 h
              refine o_w (za4 rfl rfl rfl (congrArg (fun b => Value.bool (!(b))) hb3050)) rfl (za3 rfl) ?_
              refine o_w (za4 rfl rfl rfl (congrArg (fun b => Value.bool (!(b))) hb3050)) rfl (q_f F94_2 rfl) ?_
              refine o_w (za4 rfl rfl rfl (congrArg (fun b => Value.bool (!(b))) hb3050)) rfl (q_ldb Y3 rfl (fun w h => h.zae (i := 0) rfl) rfl) ?_
              refine za7 h (fun b3052 hx3051 h => ?_) rfl
              refine o_ew (za4 rfl rfl rfl (congrArg (fun b => Value.bool (!(b))) hb3050)) (zad 0 Z Try.func181 N181 rfl rfl rfl (fun w P1 hF hB hS hT => impl_RegCode_read_1.calls y2313.f2 g1145 A1147 c1148 l1146.length l2308 hB hF (hT 5 _ rfl).row (hT 5 _ rfl).cap (hT 4 _ rfl).box _ hx3051)) (fun _ => ?_)
              refine o_w (za4 rfl rfl rfl (congrArg (fun b => Value.bool (!(b))) hb3050)) rfl (q_not rfl) ?_
              refine o_q rfl rfl (zal false (congrArg (fun b => Value.bool (!(b))) hb3050) rfl) ?_
              refine o_q rfl rfl (za3 rfl) ?_
              refine byB b3052 (fun hb3053 => ?_) (fun hb3053 => ?_)
              · replace h := bb_t hb3053 h
                refine o_w (za4 rfl rfl rfl (congrArg (fun b => Value.bool (!(b))) hb3053)) rfl (q_ldb Y25 rfl (fun w h => h.zae (i := 4) rfl) rfl) ?_
                refine o_w (za4 rfl rfl rfl (congrArg (fun b => Value.bool (!(b))) hb3053)) rfl (q_f F94_1 rfl) ?_
                refine o_w (za4 rfl rfl rfl (congrArg (fun b => Value.bool (!(b))) hb3053)) rfl (q_ldb Y3 rfl (fun w h => h.zae (i := 0) rfl) rfl) ?_
                refine zaz (p := Sh A1147 l1146.length l2308.length) (fun w h => f_sh (dk := (Kd.int .i64)) h (fun w h => h.zau (i := 5) rfl)) (fun hq3054 => ?_)
                refine za7 h (fun y3056 hg3055 h => ?_) rfl
                refine o_w (za4 rfl rfl rfl (congrArg (fun b => Value.bool (!(b))) hb3053)) rfl (q_ix Try.underlying25 Z3 rfl rfl hq3054 hg3055) ?_
                refine o_w (za4 rfl rfl rfl (congrArg (fun b => Value.bool (!(b))) hb3053)) rfl (q_lde (off := 0) Y3 rfl rfl (fun w h => h.zau (i := 5) rfl) hg3055 (fun _ _ h => h) rfl) ?_
                refine o_w (za4 rfl rfl rfl (congrArg (fun b => Value.bool (!(b))) hb3053)) rfl (q_eql rfl rfl) ?_
                refine o_q rfl rfl (zal false (congrArg (fun b => Value.bool (!(b))) hb3053) rfl) ?_
                refine o_q rfl rfl (za3 rfl) ?_
                refine byB (decide (y3056 = (-1))) (fun hb3057 => ?_) (fun hb3057 => ?_)
                · replace h := br_t hb3057 h
                  refine @o_n _ _ _ _ _ _ _ _ _ _ _ 92 (za2 rfl rfl rfl (congrArg Value.bool hb3057) rfl) (Eq.refl (some 92)) ?_
                  refine @o_n _ _ _ _ _ _ _ _ _ _ _ 93 (za2 rfl rfl rfl (congrArg Value.bool hb3057) rfl) (Eq.refl (some 93)) ?_
                  refine @o_n _ _ _ _ _ _ _ _ _ _ _ 94 (za2 rfl rfl rfl (congrArg Value.bool hb3057) rfl) (Eq.refl (some 94)) ?_
                  refine @o_n _ _ _ _ _ _ _ _ _ _ _ 95 (za2 rfl rfl rfl (congrArg Value.bool hb3057) rfl) (Eq.refl (some 95)) ?_
                  refine @o_n _ _ _ _ _ _ _ _ _ _ _ 96 (za2 rfl rfl rfl (congrArg Value.bool hb3057) rfl) (Eq.refl (some 96)) ?_
                  refine @o_n _ _ _ _ _ _ _ _ _ _ _ 97 (za2 rfl rfl rfl (congrArg Value.bool hb3057) rfl) (Eq.refl (some 97)) ?_
                  refine o_q rfl rfl (zal true (congrArg Value.bool hb3057) rfl) ?_
                  refine o_end ?_
                  refine zat true h ⟨rfl, trivial⟩ (fun w h => za6 [2, 3, 1, 4, 5, 0] (by decide) rfl w h) ?_
                  repeat (first | exact zab _ _ | refine zaf rfl ?_ | refine zac rfl ?_ | refine zah rfl ?_)
                · replace h := br_f hb3057 h
                  refine o_w (za4 rfl rfl rfl (congrArg Value.bool hb3057)) rfl (q_ldb Y25 rfl (fun w h => h.zae (i := 4) rfl) rfl) ?_
                  refine o_w (za4 rfl rfl rfl (congrArg Value.bool hb3057)) rfl (q_f F94_2 rfl) ?_
                  refine o_w (za4 rfl rfl rfl (congrArg Value.bool hb3057)) rfl (q_ldb Y3 rfl (fun w h => h.zae (i := 0) rfl) rfl) ?_
                  refine za7 h (fun y3059 hg3058 h => ?_) rfl
                  refine o_w (za4 rfl rfl rfl (congrArg Value.bool hb3057)) rfl (q_ix Try.underlying25 Z3 rfl rfl hq3054 hg3058) ?_
                  refine o_w (za4 rfl rfl rfl (congrArg Value.bool hb3057)) rfl (q_lde (off := 0) Y3 rfl rfl (fun w h => h.zau (i := 5) rfl) hg3058 (fun _ _ h => h) rfl) ?_
                  refine o_w (za4 rfl rfl rfl (congrArg Value.bool hb3057)) rfl (q_eql rfl rfl) ?_
                  refine o_q rfl rfl (zal false (congrArg Value.bool hb3057) rfl) ?_
                  refine o_end ?_
                  refine zat (decide (y3059 = (-1))) h ⟨rfl, trivial⟩ (fun w h => za6 [2, 3, 1, 4, 5, 0] (by decide) rfl w h) ?_
                  repeat (first | exact zab _ _ | refine zaf rfl ?_ | refine zac rfl ?_ | refine zah rfl ?_)
              · replace h := bb_f hb3053 h
                refine @o_n _ _ _ _ _ _ _ _ _ _ _ 84 (za2 rfl rfl rfl (congrArg (fun b => Value.bool (!(b))) hb3053) rfl) (Eq.refl (some 84)) ?_
                refine @o_n _ _ _ _ _ _ _ _ _ _ _ 85 (za2 rfl rfl rfl (congrArg (fun b => Value.bool (!(b))) hb3053) rfl) (Eq.refl (some 85)) ?_
                refine @o_n _ _ _ _ _ _ _ _ _ _ _ 86 (za2 rfl rfl rfl (congrArg (fun b => Value.bool (!(b))) hb3053) rfl) (Eq.refl (some 86)) ?_
                refine @o_n _ _ _ _ _ _ _ _ _ _ _ 87 (za2 rfl rfl rfl (congrArg (fun b => Value.bool (!(b))) hb3053) rfl) (Eq.refl (some 87)) ?_
                refine @o_n _ _ _ _ _ _ _ _ _ _ _ 88 (za2 rfl rfl rfl (congrArg (fun b => Value.bool (!(b))) hb3053) rfl) (Eq.refl (some 88)) ?_
                refine @o_n _ _ _ _ _ _ _ _ _ _ _ 89 (za2 rfl rfl rfl (congrArg (fun b => Value.bool (!(b))) hb3053) rfl) (Eq.refl (some 89)) ?_
                refine o_q rfl rfl (zal true (congrArg (fun b => Value.bool (!(b))) hb3053) rfl) ?_
                refine o_q rfl rfl (za3 rfl) ?_
                refine @o_n _ _ _ _ _ _ _ _ _ _ _ 92 (za2 rfl rfl rfl rfl rfl) (Eq.refl (some 92)) ?_
                refine @o_n _ _ _ _ _ _ _ _ _ _ _ 93 (za2 rfl rfl rfl rfl rfl) (Eq.refl (some 93)) ?_
                refine @o_n _ _ _ _ _ _ _ _ _ _ _ 94 (za2 rfl rfl rfl rfl rfl) (Eq.refl (some 94)) ?_
                refine @o_n _ _ _ _ _ _ _ _ _ _ _ 95 (za2 rfl rfl rfl rfl rfl) (Eq.refl (some 95)) ?_
                refine @o_n _ _ _ _ _ _ _ _ _ _ _ 96 (za2 rfl rfl rfl rfl rfl) (Eq.refl (some 96)) ?_
                refine @o_n _ _ _ _ _ _ _ _ _ _ _ 97 (za2 rfl rfl rfl rfl rfl) (Eq.refl (some 97)) ?_
                refine o_q rfl rfl (zal true rfl rfl) ?_
                refine o_end ?_
                refine zat true h ⟨rfl, trivial⟩ (fun w h => za6 [2, 3, 1, 4, 5, 0] (by decide) rfl w h) ?_
                repeat (first | exact zab _ _ | refine zaf rfl ?_ | refine zac rfl ?_ | refine zah rfl ?_)
            · replace h := bb_f hb3050 h
              refine @o_n _ _ _ _ _ _ _ _ _ _ _ 77 (za2 rfl rfl rfl (congrArg (fun b => Value.bool (!(b))) hb3050) rfl) (Eq.refl (some 77)) ?_
              refine @o_n _ _ _ _ _ _ _ _ _ _ _ 78 (za2 rfl rfl rfl (congrArg (fun b => Value.bool (!(b))) hb3050) rfl) (Eq.refl (some 78)) ?_
              refine @o_n _ _ _ _ _ _ _ _ _ _ _ 79 (za2 rfl rfl rfl (congrArg (fun b => Value.bool (!(b))) hb3050) rfl) (Eq.refl (some 79)) ?_
              refine @o_n _ _ _ _ _ _ _ _ _ _ _ 80 (za2 rfl rfl rfl (congrArg (fun b => Value.bool (!(b))) hb3050) rfl) (Eq.refl (some 80)) ?_
              refine @o_n _ _ _ _ _ _ _ _ _ _ _ 81 (za2 rfl rfl rfl (congrArg (fun b => Value.bool (!(b))) hb3050) rfl) (Eq.refl (some 81)) ?_
              refine o_q rfl rfl (zal true (congrArg (fun b => Value.bool (!(b))) hb3050) rfl) ?_
              refine o_q rfl rfl (za3 rfl) ?_
              refine @o_n _ _ _ _ _ _ _ _ _ _ _ 84 (za2 rfl rfl rfl rfl rfl) (Eq.refl (some 84)) ?_
              refine @o_n _ _ _ _ _ _ _ _ _ _ _ 85 (za2 rfl rfl rfl rfl rfl) (Eq.refl (some 85)) ?_
              refine @o_n _ _ _ _ _ _ _ _ _ _ _ 86 (za2 rfl rfl rfl rfl rfl) (Eq.refl (some 86)) ?_
              refine @o_n _ _ _ _ _ _ _ _ _ _ _ 87 (za2 rfl rfl rfl rfl rfl) (Eq.refl (some 87)) ?_
              refine @o_n _ _ _ _ _ _ _ _ _ _ _ 88 (za2 rfl rfl rfl rfl rfl) (Eq.refl (some 88)) ?_
              refine @o_n _ _ _ _ _ _ _ _ _ _ _ 89 (za2 rfl rfl rfl rfl rfl) (Eq.refl (some 89)) ?_
              refine o_q rfl rfl (zal true rfl rfl) ?_
              refine o_q rfl rfl (za3 rfl) ?_
              refine @o_n _ _ _ _ _ _ _ _ _ _ _ 92 (za2 rfl rfl rfl rfl rfl) (Eq.refl (some 92)) ?_
              refine @o_n _ _ _ _ _ _ _ _ _ _ _ 93 (za2 rfl rfl rfl rfl rfl) (Eq.refl (some 93)) ?_
              refine @o_n _ _ _ _ _ _ _ _ _ _ _ 94 (za2 rfl rfl rfl rfl rfl) (Eq.refl (some 94)) ?_
              refine @o_n _ _ _ _ _ _ _ _ _ _ _ 95 (za2 rfl rfl rfl rfl rfl) (Eq.refl (some 95)) ?_
              refine @o_n _ _ _ _ _ _ _ _ _ _ _ 96 (za2 rfl rfl rfl rfl rfl) (Eq.refl (some 96)) ?_
              refine @o_n _ _ _ _ _ _ _ _ _ _ _ 97 (za2 rfl rfl rfl rfl rfl) (Eq.refl (some 97)) ?_
              refine o_q rfl rfl (zal true rfl rfl) ?_
              refine o_end ?_
              refine zat true h ⟨rfl, trivial⟩ (fun w h => za6 [2, 3, 1, 4, 5, 0] (by decide) rfl w h) ?_
              repeat (first | exact zab _ _ | refine zaf rfl ?_ | refine zac rfl ?_ | refine zah rfl ?_)
          · replace h := bb_f hb3047 h
            refine @o_n _ _ _ _ _ _ _ _ _ _ _ 70 (za2 rfl rfl rfl (congrArg (fun b => Value.bool (!(b))) hb3047) rfl) (Eq.refl (some 70)) ?_
            refine @o_n _ _ _ _ _ _ _ _ _ _ _ 71 (za2 rfl rfl rfl (congrArg (fun b => Value.bool (!(b))) hb3047) rfl) (Eq.refl (some 71)) ?_
            refine @o_n _ _ _ _ _ _ _ _ _ _ _ 72 (za2 rfl rfl rfl (congrArg (fun b => Value.bool (!(b))) hb3047) rfl) (Eq.refl (some 72)) ?_
            refine @o_n _ _ _ _ _ _ _ _ _ _ _ 73 (za2 rfl rfl rfl (congrArg (fun b => Value.bool (!(b))) hb3047) rfl) (Eq.refl (some 73)) ?_
            refine @o_n _ _ _ _ _ _ _ _ _ _ _ 74 (za2 rfl rfl rfl (congrArg (fun b => Value.bool (!(b))) hb3047) rfl) (Eq.refl (some 74)) ?_
            refine o_q rfl rfl (zal true (congrArg (fun b => Value.bool (!(b))) hb3047) rfl) ?_
            refine o_q rfl rfl (za3 rfl) ?_
            refine @o_n _ _ _ _ _ _ _ _ _ _ _ 77 (za2 rfl rfl rfl rfl rfl) (Eq.refl (some 77)) ?_
            refine @o_n _ _ _ _ _ _ _ _ _ _ _ 78 (za2 rfl rfl rfl rfl rfl) (Eq.refl (some 78)) ?_
            refine @o_n _ _ _ _ _ _ _ _ _ _ _ 79 (za2 rfl rfl rfl rfl rfl) (Eq.refl (some 79)) ?_
            refine @o_n _ _ _ _ _ _ _ _ _ _ _ 80 (za2 rfl rfl rfl rfl rfl) (Eq.refl (some 80)) ?_
            refine @o_n _ _ _ _ _ _ _ _ _ _ _ 81 (za2 rfl rfl rfl rfl rfl) (Eq.refl (some 81)) ?_
            refine o_q rfl rfl (zal true rfl rfl) ?_
            refine o_q rfl rfl (za3 rfl) ?_
            refine @o_n _ _ _ _ _ _ _ _ _ _ _ 84 (za2 rfl rfl rfl rfl rfl) (Eq.refl (some 84)) ?_
            refine @o_n _ _ _ _ _ _ _ _ _ _ _ 85 (za2 rfl rfl rfl rfl rfl) (Eq.refl (some 85)) ?_
            refine @o_n _ _ _ _ _ _ _ _ _ _ _ 86 (za2 rfl rfl rfl rfl rfl) (Eq.refl (some 86)) ?_
            refine @o_n _ _ _ _ _ _ _ _ _ _ _ 87 (za2 rfl rfl rfl rfl rfl) (Eq.refl (some 87)) ?_
            refine @o_n _ _ _ _ _ _ _ _ _ _ _ 88 (za2 rfl rfl rfl rfl rfl) (Eq.refl (some 88)) ?_
            refine @o_n _ _ _ _ _ _ _ _ _ _ _ 89 (za2 rfl rfl rfl rfl rfl) (Eq.refl (some 89)) ?_
            refine o_q rfl rfl (zal true rfl rfl) ?_
            refine o_q rfl rfl (za3 rfl) ?_
            refine @o_n _ _ _ _ _ _ _ _ _ _ _ 92 (za2 rfl rfl rfl rfl rfl) (Eq.refl (some 92)) ?_
            refine @o_n _ _ _ _ _ _ _ _ _ _ _ 93 (za2 rfl rfl rfl rfl rfl) (Eq.refl (some 93)) ?_
            refine @o_n _ _ _ _ _ _ _ _ _ _ _ 94 (za2 rfl rfl rfl rfl rfl) (Eq.refl (some 94)) ?_
            refine @o_n _ _ _ _ _ _ _ _ _ _ _ 95 (za2 rfl rfl rfl rfl rfl) (Eq.refl (some 95)) ?_
            refine @o_n _ _ _ _ _ _ _ _ _ _ _ 96 (za2 rfl rfl rfl rfl rfl) (Eq.refl (some 96)) ?_
            refine @o_n _ _ _ _ _ _ _ _ _ _ _ 97 (za2 rfl rfl rfl rfl rfl) (Eq.refl (some 97)) ?_
            refine o_q rfl rfl (zal true rfl rfl) ?_
            refine o_end ?_
            refine zat true h ⟨rfl, trivial⟩ (fun w h => za6 [2, 3, 1, 4, 5, 0] (by decide) rfl w h) ?_
            repeat (first | exact zab _ _ | refine zaf rfl ?_ | refine zac rfl ?_ | refine zah rfl ?_)
        · skip
          refine (fun b3039 => fun U3043 hJ3044 => ?_)
          have e_ := Option.some.inj hJ3044; have h := hR3042; rw [← e_] at h; clear e_ hJ3044 hR3042 hl3041
          refine zav _ rfl (fun hb3060 => ?_) (fun hb3060 => ?_)
          · skip
            replace h := bb_t hb3060 h
            refine c_seq ?_
            refine za0 ?_
            refine o_q rfl rfl (q_build (vs := []) (cs := [.int .i64 0, .slice none 0 0, .slice none 0 0]) rfl rfl) ?_
            refine o_e rfl (zaq (i := 0) rfl rfl rfl Z27 rfl rfl) (fun _ => ?_)
            refine o_q rfl rfl (q_asg rfl) ?_
            refine o_end ?_
            refine za1 ?_
            refine c_ret ?_
            refine zaa ?_
            refine zao ?_
            refine zaa ?_
            refine zaa ?_
            have e_ := Option.some.inj h; replace h := hR2318; rw [← e_] at h; clear e_
            refine zao ?_
            refine zaa ?_
            refine x_nil kStep 88 ?_
            refine x_nil (Kd.int .i64) 3 ?_
            have e0_ := Option.some.inj h; clear h
            have d0_ := (Prod.mk.inj e0_).1; have e1_ := (Prod.mk.inj e0_).2; clear e0_; subst d0_
            have d1_ := (Prod.mk.inj e1_).1; have e2_ := (Prod.mk.inj e1_).2; clear e1_; subst d1_
            have d2_ := (Prod.mk.inj e2_).1; have e3_ := (Prod.mk.inj e2_).2; clear e2_; subst d2_
            subst e3_
            exact x_r2 (none, 0, none, 0) Try.results143 (rv_cell rfl G27 Z27 (fun w h => h.zae (i := 2) rfl) rfl) (zai rfl) rfl (fun w h => za6 [1, 0] (by decide) rfl w h)
          · skip
            replace h := bb_f hb3060 h
            refine zan ?_
            refine za1 ?_
            refine za7 h (fun o4145 hl4146 hR4147 => ?_) rfl
            clear h
            refine c_cutJ (σ := (List SStep) × (Option Addr) × Nat) (fun (l4142, A4143, c4144) => some l4142 = some o4145) [100, 101, 102, 103, 104, 105, 106, 107, 108, 109, 110, 111, 112, 113, 114, 115] (fun (l4142, A4143, c4144) => []) (fun (l4142, A4143, c4144) => [box g1 27 #[.int .i64 0, .slice none 0 0, .slice none 0 0], box g1144 27 #[.int .i64 (l0_1.length : Int), .slice A4143 l4142.length c4144, .slice none 0 0], row kStep 88 (.slice A4143 l4142.length c4144) l4142, box g1145 25 #[.slice A1147 l1146.length c1148], row (Kd.int .i64) 3 (.slice A1147 l1146.length c1148) l2308, box g3022 94 #[.int .i64 y2313.f0, .int .i64 y2313.f1, .int .i64 y2313.f2]]) ?_ ?_
            · skip
              have h := hl4146; clear hl4146
              clear hR4147
              refine za7 h (fun y4453 hg4452 h => ?_) rfl
              refine za7 h (fun y4752 hg4751 h => ?_) rfl
              refine za7 h (fun _ hx4871 h => ?_) rfl
              refine za7 h (fun l4991 ha4992 h => ?_) rfl
              refine a_startS (ds := []) [some 0, none, none, some 3, some 4, some 5] MO rfl ?_
              refine za9 0 rfl rfl rfl (by kernel_rfl) (fun _ _ _ h => h) (q_f F27_1 rfl) ?_
              refine zb0 2 rfl rfl rfl (by kernel_rfl) (fun _ _ _ h => h) (fun w h => za8 [some 0, none, none, some 3, some 4, some 5] (by decide) w h rfl) (q_ldb Y25 rfl (fun w h => h.zae (i := 3) rfl) rfl) ?_
              refine za9 3 rfl rfl rfl (by kernel_rfl) (fun _ _ _ h => h) (q_f F94_1 rfl) ?_
              refine zb0 4 rfl rfl rfl (by kernel_rfl) (fun _ _ _ h => h) (fun w h => za8 [some 0, none, none, some 3, some 4, some 5] (by decide) w h rfl) (q_ldb Y3 rfl (fun w h => h.zae (i := 5) rfl) rfl) ?_
              refine a_fact (p := Sh A1147 l1146.length l2308.length) (fun w h => f_sh (dk := (Kd.int .i64)) h (fun w h => h.zau (i := 4) rfl)) (fun hq4451 => ?_)
              refine za9 5 rfl rfl rfl (by kernel_rfl) (fun _ _ _ h => h) (q_ix Try.underlying25 Z3 rfl rfl hq4451 hg4452) ?_
              refine zb0 6 rfl rfl rfl (by kernel_rfl) (fun _ _ _ h => h) (fun w h => za8 [some 0, none, none, some 3, some 4, some 5] (by decide) w h rfl) (q_lde (off := 0) Y3 rfl rfl (fun w h => h.zau (i := 4) rfl) hg4452 (fun _ _ h => h) rfl) ?_
              refine zb0 7 rfl rfl rfl (by kernel_rfl) (fun _ _ _ h => h) (fun w h => za8 [some 0, none, none, some 3, some 4, some 5] (by decide) w h rfl) (q_ldb Y25 rfl (fun w h => h.zae (i := 3) rfl) rfl) ?_
              refine za9 8 rfl rfl rfl (by kernel_rfl) (fun _ _ _ h => h) (q_f F94_2 rfl) ?_
              refine zb0 9 rfl rfl rfl (by kernel_rfl) (fun _ _ _ h => h) (fun w h => za8 [some 0, none, none, some 3, some 4, some 5] (by decide) w h rfl) (q_ldb Y3 rfl (fun w h => h.zae (i := 5) rfl) rfl) ?_
              refine za9 10 rfl rfl rfl (by kernel_rfl) (fun _ _ _ h => h) (q_ix Try.underlying25 Z3 rfl rfl hq4451 hg4751) ?_
              refine zb0 11 rfl rfl rfl (by kernel_rfl) (fun _ _ _ h => h) (fun w h => za8 [some 0, none, none, some 3, some 4, some 5] (by decide) w h rfl) (q_lde (off := 0) Y3 rfl rfl (fun w h => h.zau (i := 4) rfl) hg4751 (fun _ _ h => h) rfl) ?_
              refine a_two 1 12 rfl rfl rfl rfl (by kernel_rfl) rfl rfl (ev_q rfl (q_ldb Y24 rfl (fun w h => h.zae (i := 1) rfl) rfl)) (fun s w h => za8 [some 0, none, none, some 3, some 4, some 5] (by decide) w h rfl) (zad 0 Z Try.func79 N79 rfl rfl rfl (fun w P1 hF hB hS hT => impl_step.calls y4453 y4752 hB hF hx4871)) (fun s w h => za8 [some 0, none, none, some 3, some 4, some 5] (by decide) w h rfl) (fun _ => ?_) (fun _ => ?_)
              · skip
                refine a_one 12 rfl rfl (by kernel_rfl) rfl (zad 0 Z Try.func79 N79 rfl rfl rfl (fun w P1 hF hB hS hT => impl_step.calls y4453 y4752 hB hF hx4871)) (fun s w h => za8 [some 0, none, none, some 3, some 4, some 5] (by decide) w h rfl) (fun _ => ?_)
                refine a_one 13 rfl rfl (by kernel_rfl) rfl (e_lit (vs := [(0, .agg #[.int .i64 (mn y4453 y4752), .int .i64 (mx y4453 y4752)])]) (cs := [.int .i64 (mn y4453 y4752), .int .i64 (mx y4453 y4752)]) kStep ([(⟨mn y4453 y4752, mx y4453 y4752⟩ : SStep)] : List SStep) Try.underlying24 I88 (by decide) rfl (by decide) rfl rfl (fun _ _ => reps_flat _)) (fun s w h => za8 [some 1, none, none, some 4, some 5, some 6] (by decide) w h rfl) (cur2 (fun A4931 c4932 => ?_))
                refine a_one 14 rfl rfl (by kernel_rfl) rfl (e_app (i := 3) (j := 0) Try.underlying24 I88 rfl (by decide) (by decide) rfl rfl rfl rfl rfl ha4992) (fun s w h => za8 [some 1, none, none, some 4, some 5, some 6] (by decide) w h rfl) (cur2 (fun A4993 c4994 => ?_))
                refine za9 15 rfl rfl rfl (by kernel_rfl) (fun _ _ _ h => h) (q_f F27_1 rfl) ?_
                refine a_one 16 rfl rfl (by kernel_rfl) rfl (zb3 (i := 2) rfl rfl rfl rfl Z24 rfl rfl) (fun s w h => za8 [some 1, none, none, some 4, some 5, some 6] (by decide) w h rfl) (fun _ => ?_)
                refine zay (by kernel_rfl) ?_
                refine zat (l4991, A4993, c4994) h trivial (fun w h => za6 [1, 2, 3, 4, 5, 6] (by decide) rfl w h) ?_
                repeat (first | exact zab _ _ | refine zaf rfl ?_ | refine zac rfl ?_ | refine zah rfl ?_)
              · skip
                refine a_two 1 13 rfl rfl rfl rfl (by kernel_rfl) rfl rfl (ev_q rfl (q_ldb Y24 rfl (fun w h => h.zae (i := 1) rfl) rfl)) (fun s w h => za8 [some 0, none, none, some 3, some 4, some 5] (by decide) w h rfl) (e_lit (vs := [(0, .agg #[.int .i64 (mn y4453 y4752), .int .i64 (mx y4453 y4752)])]) (cs := [.int .i64 (mn y4453 y4752), .int .i64 (mx y4453 y4752)]) kStep ([(⟨mn y4453 y4752, mx y4453 y4752⟩ : SStep)] : List SStep) Try.underlying24 I88 (by decide) rfl (by decide) rfl rfl (fun _ _ => reps_flat _)) (fun s w h => za8 [some 1, none, none, some 4, some 5, some 6] (by decide) w h rfl) (fun _ => ?_) (cur2 (fun A4931 c4932 => ?_))
                · skip
                  refine a_one 13 rfl rfl (by kernel_rfl) rfl (e_lit (vs := [(0, .agg #[.int .i64 (mn y4453 y4752), .int .i64 (mx y4453 y4752)])]) (cs := [.int .i64 (mn y4453 y4752), .int .i64 (mx y4453 y4752)]) kStep ([(⟨mn y4453 y4752, mx y4453 y4752⟩ : SStep)] : List SStep) Try.underlying24 I88 (by decide) rfl (by decide) rfl rfl (fun _ _ => reps_flat _)) (fun s w h => za8 [some 1, none, none, some 4, some 5, some 6] (by decide) w h rfl) (cur2 (fun A4931 c4932 => ?_))
                  refine a_one 14 rfl rfl (by kernel_rfl) rfl (e_app (i := 3) (j := 0) Try.underlying24 I88 rfl (by decide) (by decide) rfl rfl rfl rfl rfl ha4992) (fun s w h => za8 [some 1, none, none, some 4, some 5, some 6] (by decide) w h rfl) (cur2 (fun A4993 c4994 => ?_))
                  refine za9 15 rfl rfl rfl (by kernel_rfl) (fun _ _ _ h => h) (q_f F27_1 rfl) ?_
                  refine a_one 16 rfl rfl (by kernel_rfl) rfl (zb3 (i := 2) rfl rfl rfl rfl Z24 rfl rfl) (fun s w h => za8 [some 1, none, none, some 4, some 5, some 6] (by decide) w h rfl) (fun _ => ?_)
                  refine zay (by kernel_rfl) ?_
                  refine zat (l4991, A4993, c4994) h trivial (fun w h => za6 [1, 2, 3, 4, 5, 6] (by decide) rfl w h) ?_
                  repeat (first | exact zab _ _ | refine zaf rfl ?_ | refine zac rfl ?_ | refine zah rfl ?_)
                · skip
                  refine a_one 1 rfl rfl (by kernel_rfl) rfl (ev_q rfl (q_ldb Y24 rfl (fun w h => h.zae (i := 2) rfl) rfl)) (fun s w h => za8 [some 1, none, none, some 4, some 5, some 6] (by decide) w h rfl) (fun _ => ?_)
                  refine a_one 14 rfl rfl (by kernel_rfl) rfl (e_app (i := 3) (j := 0) Try.underlying24 I88 rfl (by decide) (by decide) rfl rfl rfl rfl rfl ha4992) (fun s w h => za8 [some 1, none, none, some 4, some 5, some 6] (by decide) w h rfl) (cur2 (fun A4993 c4994 => ?_))
                  refine za9 15 rfl rfl rfl (by kernel_rfl) (fun _ _ _ h => h) (q_f F27_1 rfl) ?_
                  refine a_one 16 rfl rfl (by kernel_rfl) rfl (zb3 (i := 2) rfl rfl rfl rfl Z24 rfl rfl) (fun s w h => za8 [some 1, none, none, some 4, some 5, some 6] (by decide) w h rfl) (fun _ => ?_)
                  refine zay (by kernel_rfl) ?_
                  refine zat (l4991, A4993, c4994) h trivial (fun w h => za6 [1, 2, 3, 4, 5, 6] (by decide) rfl w h) ?_
                  repeat (first | exact zab _ _ | refine zaf rfl ?_ | refine zac rfl ?_ | refine zah rfl ?_)
            · skip
              refine (cur3 (fun l4142 A4143 c4144 => fun U4148 hJ4149 => ?_))
              have e_ := Option.some.inj hJ4149; have h := hR4147; rw [← e_] at h; clear e_ hJ4149 hR4147 hl4146
              refine a_startS (ds := []) [some 0, some 1, some 2, some 3, none, some 5] MO rfl ?_
              refine zb0 0 rfl rfl rfl (by kernel_rfl) (fun _ _ _ h => h) (fun w h => za8 [some 0, some 1, some 2, some 3, none, some 5] (by decide) w h rfl) (q_ldb Y25 rfl (fun w h => h.zae (i := 3) rfl) rfl) ?_
              refine za9 1 rfl rfl rfl (by kernel_rfl) (fun _ _ _ h => h) (q_f F94_0 rfl) ?_
              refine zb0 2 rfl rfl rfl (by kernel_rfl) (fun _ _ _ h => h) (fun w h => za8 [some 0, some 1, some 2, some 3, none, some 5] (by decide) w h rfl) (q_ldb Y3 rfl (fun w h => h.zae (i := 5) rfl) rfl) ?_
              refine za7 h (fun _ hx5231 h => ?_) rfl
              refine a_one 3 rfl rfl (by kernel_rfl) rfl (zad 0 Z Try.func84 N84 rfl rfl rfl (fun w P1 hF hB hS hT => impl_Plan_many.calls g1144 (l0_1.length : Int) A4143 c4144 l4142.length l4142 none 0 0 [] hB hF (hT 2 _ rfl).row (hT 2 _ rfl).cap (stab_nil _) (Nat.le_refl 0) (hT 1 _ rfl).box hx5231)) (fun s w h => za8 [some 0, some 1, some 2, some 3, none, some 5] (by decide) w h rfl) (fun _ => ?_)
              refine za9 4 rfl rfl rfl (by kernel_rfl) (fun _ _ _ h => h) (q_sub64 rfl rfl) ?_
              refine a_fact (p := Sh A1147 l1146.length l2308.length) (fun w h => f_sh (dk := (Kd.int .i64)) h (fun w h => h.zau (i := 4) rfl)) (fun hq5232 => ?_)
              refine za7 h (fun y5234 hg5233 h => ?_) rfl
              refine za9 5 rfl rfl rfl (by kernel_rfl) (fun _ _ _ h => h) (q_ix Try.underlying25 Z3 rfl rfl hq5232 hg5233) ?_
              refine za7 h (fun l5235 hs5236 h => ?_) rfl
              refine a_one 6 rfl rfl (by kernel_rfl) rfl (e_set (i := 4) rfl rfl rfl Z3 hs5236) (fun s w h => za8 [some 0, some 1, some 2, some 3, none, some 5] (by decide) w h rfl) (fun _ => ?_)
              refine zay (by kernel_rfl) ?_
              refine zam ?_
              refine za1 ?_
              refine za0 ?_
              refine o_q rfl rfl (q_up rfl rfl (hr2316.up hm2317)) ?_
              refine o_q rfl rfl (za3 rfl) ?_
              refine o_end ?_
              refine zak ys2314.length (ys2314, l5235, l4142, i2312 + 1, A4143, c4144) (by rw [← hk2322]; exact Nat.lt_succ_self _) ⟨hr2316.step, rfl, h⟩ ⟨rfl, trivial⟩ (fun w h => za6 [2, 0, 1, 3, 4] (by decide) rfl w h) ?_
              repeat (first | exact zab _ _ | refine zaf rfl ?_ | refine zac rfl ?_ | refine zah rfl ?_)
    · skip
      clear hl2303
      have hr2300 := hJ_.1; have hk2306 := hJ_.2.1; have h := hJ_.2.2; clear hJ_
      replace h : impl_RegCode_read.l0 (y2297 :: ys2298) l2295 i2296 = some o2304 := h
      rw [impl_RegCode_read.l0] at h
      refine c_seq ?_
      refine za0 ?_
      refine o_q rfl rfl (q_lss rfl rfl) ?_
      refine o_end ?_
      refine za1 ?_
      refine c_seq ?_
      refine zb1 (congrArg Value.bool hr2300.lt) ?_
      refine zan ?_
      refine za1 ?_
      refine c_seq ?_
      refine zaj ?_
      refine c_seq ?_
      refine za0 ?_
      refine o_q rfl rfl (za3 rfl) ?_
      refine zaz (p := Sh A0_1 l0_1.length l0_1.length) (fun w h => f_sh (dk := (Kd.int .i64)) h (fun w h => R0_1.now Z h)) (fun hq5237 => ?_)
      refine o_q rfl rfl (q_ix Try.underlying25 Z3 rfl rfl hq5237 hr2300.get) ?_
      refine o_q rfl rfl (q_lde (off := 0) Y3 rfl rfl (fun w h => R0_1.now Z h) hr2300.get (fun _ _ h => h) rfl) ?_
      refine o_q rfl rfl (q_asg rfl) ?_
      refine o_q rfl rfl (q_asg rfl) ?_
      refine o_end ?_
      refine za1 ?_
      refine c_seq ?_
      refine za7 h (fun o5245 hl5246 hR5247 => ?_) rfl
      clear h
      refine c_cutJ (σ := Bool) (fun b5244 => some b5244 = some o5245) [38, 39, 40, 41, 42, 43, 44, 45, 46, 47, 48] (fun b5244 => [(48, .bool b5244)]) (fun b5244 => [box g1 27 #[.int .i64 0, .slice none 0 0, .slice none 0 0], box g1144 27 #[.int .i64 (l0_1.length : Int), .slice none 0 0, .slice none 0 0], box g1145 25 #[.slice A1147 l1146.length c1148], row (Kd.int .i64) 3 (.slice A1147 l1146.length c1148) l2295]) ?_ ?_
      · skip
        have h := hl5246; clear hl5246
        clear hR5247
        refine za0 ?_
        refine o_q rfl rfl (za3 rfl) ?_
        refine o_q rfl rfl (za3 rfl) ?_
        refine za7 h (fun b5251 hx5250 h => ?_) rfl
        refine o_e rfl (zad 0 Z Try.func181 N181 rfl rfl rfl (fun w P1 hF hB hS hT => impl_RegCode_read_1.calls y2297 g1145 A1147 c1148 l1146.length l2295 hB hF (hT 3 _ rfl).row (hT 3 _ rfl).cap (hT 2 _ rfl).box _ hx5250)) (fun _ => ?_)
        refine o_q rfl rfl (q_not rfl) ?_
        refine o_q rfl rfl (za3 rfl) ?_
        refine byB b5251 (fun hb5252 => ?_) (fun hb5252 => ?_)
        · replace h := bb_t hb5252 h
          refine o_w (za4 rfl rfl rfl (congrArg (fun b => Value.bool (!(b))) hb5252)) rfl (q_ldb Y25 rfl (fun w h => h.zae (i := 2) rfl) rfl) ?_
          refine o_w (za4 rfl rfl rfl (congrArg (fun b => Value.bool (!(b))) hb5252)) rfl (za3 rfl) ?_
          refine zaz (p := Sh A1147 l1146.length l2295.length) (fun w h => f_sh (dk := (Kd.int .i64)) h (fun w h => h.zau (i := 3) rfl)) (fun hq5253 => ?_)
          refine za7 h (fun y5255 hg5254 h => ?_) rfl
          refine o_w (za4 rfl rfl rfl (congrArg (fun b => Value.bool (!(b))) hb5252)) rfl (q_ix Try.underlying25 Z3 rfl rfl hq5253 hg5254) ?_
          refine o_w (za4 rfl rfl rfl (congrArg (fun b => Value.bool (!(b))) hb5252)) rfl (q_lde (off := 0) Y3 rfl rfl (fun w h => h.zau (i := 3) rfl) hg5254 (fun _ _ h => h) rfl) ?_
          refine o_w (za4 rfl rfl rfl (congrArg (fun b => Value.bool (!(b))) hb5252)) rfl (q_neq rfl rfl) ?_
          refine o_q rfl rfl (zal false (congrArg (fun b => Value.bool (!(b))) hb5252) rfl) ?_
          refine o_end ?_
          refine zat (decide (y5255 ≠ (-1))) h ⟨rfl, trivial⟩ (fun w h => za6 [0, 1, 2, 3] (by decide) rfl w h) ?_
          repeat (first | exact zab _ _ | refine zaf rfl ?_ | refine zac rfl ?_ | refine zah rfl ?_)
        · replace h := bb_f hb5252 h
          refine @o_n _ _ _ _ _ _ _ _ _ _ _ 43 (za2 rfl rfl rfl (congrArg (fun b => Value.bool (!(b))) hb5252) rfl) (Eq.refl (some 43)) ?_
          refine @o_n _ _ _ _ _ _ _ _ _ _ _ 44 (za2 rfl rfl rfl (congrArg (fun b => Value.bool (!(b))) hb5252) rfl) (Eq.refl (some 44)) ?_
          refine @o_n _ _ _ _ _ _ _ _ _ _ _ 45 (za2 rfl rfl rfl (congrArg (fun b => Value.bool (!(b))) hb5252) rfl) (Eq.refl (some 45)) ?_
          refine @o_n _ _ _ _ _ _ _ _ _ _ _ 46 (za2 rfl rfl rfl (congrArg (fun b => Value.bool (!(b))) hb5252) rfl) (Eq.refl (some 46)) ?_
          refine @o_n _ _ _ _ _ _ _ _ _ _ _ 47 (za2 rfl rfl rfl (congrArg (fun b => Value.bool (!(b))) hb5252) rfl) (Eq.refl (some 47)) ?_
          refine o_q rfl rfl (zal true (congrArg (fun b => Value.bool (!(b))) hb5252) rfl) ?_
          refine o_end ?_
          refine zat true h ⟨rfl, trivial⟩ (fun w h => za6 [0, 1, 2, 3] (by decide) rfl w h) ?_
          repeat (first | exact zab _ _ | refine zaf rfl ?_ | refine zac rfl ?_ | refine zah rfl ?_)
      · skip
        refine (fun b5244 => fun U5248 hJ5249 => ?_)
        have e_ := Option.some.inj hJ5249; have h := hR5247; rw [← e_] at h; clear e_ hJ5249 hR5247 hl5246
        refine zav _ rfl (fun hb5256 => ?_) (fun hb5256 => ?_)
        · skip
          replace h := bb_t hb5256 h
          refine c_seq ?_
          refine za0 ?_
          refine o_q rfl rfl (q_build (vs := []) (cs := [.int .i64 0, .slice none 0 0, .slice none 0 0]) rfl rfl) ?_
          refine o_e rfl (zaq (i := 0) rfl rfl rfl Z27 rfl rfl) (fun _ => ?_)
          refine o_q rfl rfl (q_asg rfl) ?_
          refine o_end ?_
          refine za1 ?_
          refine c_ret ?_
          refine zaa ?_
          refine zao ?_
          refine zaa ?_
          refine zaa ?_
          have e_ := Option.some.inj h; replace h := hR2302; rw [← e_] at h; clear e_
          refine zao ?_
          refine zaa ?_
          refine x_nil kStep 88 ?_
          refine x_nil (Kd.int .i64) 3 ?_
          have e0_ := Option.some.inj h; clear h
          have d0_ := (Prod.mk.inj e0_).1; have e1_ := (Prod.mk.inj e0_).2; clear e0_; subst d0_
          have d1_ := (Prod.mk.inj e1_).1; have e2_ := (Prod.mk.inj e1_).2; clear e1_; subst d1_
          have d2_ := (Prod.mk.inj e2_).1; have e3_ := (Prod.mk.inj e2_).2; clear e2_; subst d2_
          subst e3_
          exact x_r2 (none, 0, none, 0) Try.results143 (rv_cell rfl G27 Z27 (fun w h => h.zae (i := 2) rfl) rfl) (zai rfl) rfl (fun w h => za6 [1, 0] (by decide) rfl w h)
        · skip
          replace h := bb_f hb5256 h
          refine zan ?_
          refine za1 ?_
          refine za0 ?_
          refine o_q rfl rfl (q_ldb Y25 rfl (fun w h => h.zae (i := 2) rfl) rfl) ?_
          refine o_q rfl rfl (za3 rfl) ?_
          refine o_q rfl rfl (za3 rfl) ?_
          refine zaz (p := Sh A1147 l1146.length l2295.length) (fun w h => f_sh (dk := (Kd.int .i64)) h (fun w h => h.zau (i := 3) rfl)) (fun hq5257 => ?_)
          refine za7 h (fun y5259 hg5258 h => ?_) rfl
          refine o_q rfl rfl (q_ix Try.underlying25 Z3 rfl rfl hq5257 hg5258) ?_
          refine za7 h (fun l5260 hs5261 h => ?_) rfl
          refine o_e rfl (e_set (i := 3) rfl rfl rfl Z3 hs5261) (fun _ => ?_)
          refine o_end ?_
          refine zam ?_
          refine za1 ?_
          refine za0 ?_
          refine o_q rfl rfl (q_up rfl rfl (hr2300.up hm2301)) ?_
          refine o_q rfl rfl (za3 rfl) ?_
          refine o_end ?_
          refine zak ys2298.length (ys2298, l5260, i2296 + 1) (by rw [← hk2306]; exact Nat.lt_succ_self _) ⟨hr2300.step, rfl, h⟩ ⟨rfl, trivial⟩ (fun w h => za6 [0, 1, 2, 3] (by decide) rfl w h) ?_
          repeat (first | exact zab _ _ | refine zaf rfl ?_ | refine zac rfl ?_ | refine zah rfl ?_)

/-! ### loop.example/g01098/impl.told: function 80 -/
def impl_told.f (k : Nat) (a0_0 : Int) (l0_1 : List SStep) (l0_2 : List Int) : Option (Int × (List SStep) × (List Int) × Bool) := (impl_IsPlan.f k a0_0 l0_1 l0_2).bind fun b6 => if b6 = true then (some (a0_0, l0_1, l0_2, true)) else (some (0, ([] : List SStep), ([] : List Int), false))
set_option maxHeartbeats 600000 in
set_option maxRecDepth 100000 in
theorem impl_told.calls (k : Nat) {w0 ws : World} {P0 : Nat → Prop} (a0_0 : Int) (A0_1 : Option Addr) (c0_1 : Nat) (n0_1 : Nat) (l0_1 : List SStep) (A0_2 : Option Addr) (c0_2 : Nat) (n0_2 : Nat) (l0_2 : List Int) (Z : Below w0.heap.size w0 ws) (hF : Fr w0 ws P0 [row kStep 88 (.slice A0_1 n0_1 c0_1) l0_1, row (Kd.int .i64) 3 (.slice A0_2 n0_2 c0_2) l0_2] ws)  (r_1 : Int) (r_2 : List SStep) (r_5 : List Int) (r_8 : Bool) (h : impl_told.f k a0_0 l0_1 l0_2 = some (r_1, r_2, r_5, r_8)) :
    Calls Try.prog 80 #[.agg #[.int .i64 a0_0, .slice A0_1 n0_1 c0_1, .slice A0_2 n0_2 c0_2]] ws (Post1 w0 ws P0 (fun ((q_3, q_4, q_6, q_7) : (Option Addr) × Nat × (Option Addr) × Nat) => .tuple #[.agg #[.int .i64 r_1, .slice q_3 r_2.length q_4, .slice q_6 r_5.length q_7], .bool r_8]) (fun ((q_3, q_4, q_6, q_7) : (Option Addr) × Nat × (Option Addr) × Nat) => [row kStep 88 (.slice q_3 r_2.length q_4) r_2, row (Kd.int .i64) 3 (.slice q_6 r_5.length q_7) r_5])) := by
  unfold impl_told.f at h
  obtain rfl := (hF.row_C (i := 0) rfl).2.1
  obtain rfl := (hF.row_C (i := 1) rfl).2.1
  refine enter Try.func80 rfl Try.ntmps80 rfl hF ?_
  refine c_seq ?_
  refine za0 ?_
  refine o_e rfl (e_box rfl) (fun g1 => ?_)
  refine o_e rfl (zas V27 rfl) (fun g3 => ?_)
  refine o_q rfl rfl (q_asg rfl) ?_
  refine o_end ?_
  refine za1 ?_
  refine c_seq ?_
  refine c_seq ?_
  refine za0 ?_
  refine o_q rfl rfl (q_ldB G27 Z27 rfl (fun w h => h.zae (i := 1) rfl) rfl) ?_
  refine za7 h (fun b6 hx5 h => ?_) rfl
  refine o_e rfl (zad 0 Z Try.func67 N67 rfl rfl rfl (fun w P1 hF hB hS hT => impl_IsPlan.calls k a0_0 A0_1 c0_1 l0_1.length l0_1 A0_2 c0_2 l0_2.length l0_2 hB hF (hT 2 _ rfl).row (hT 2 _ rfl).cap (hT 3 _ rfl).row (hT 3 _ rfl).cap _ hx5)) (fun _ => ?_)
  refine o_q rfl rfl (q_not rfl) ?_
  refine o_end ?_
  refine za1 ?_
  refine zav _ rfl (fun hb7 => ?_) (fun hb7 => ?_)
  · replace hb7 := nt_t hb7
    replace h := bb_f hb7 h
    refine c_seq ?_
    refine za0 ?_
    refine o_q rfl rfl (q_build (vs := []) (cs := [.int .i64 0, .slice none 0 0, .slice none 0 0]) rfl rfl) ?_
    refine o_e rfl (zaq (i := 0) rfl rfl rfl Z27 rfl rfl) (fun _ => ?_)
    refine o_q rfl rfl (q_asg rfl) ?_
    refine o_end ?_
    refine za1 ?_
    refine c_ret ?_
    refine zaa ?_
    refine x_nil kStep 88 ?_
    refine x_nil (Kd.int .i64) 3 ?_
    have e0_ := Option.some.inj h; clear h
    have d0_ := (Prod.mk.inj e0_).1; have e1_ := (Prod.mk.inj e0_).2; clear e0_; subst d0_
    have d1_ := (Prod.mk.inj e1_).1; have e2_ := (Prod.mk.inj e1_).2; clear e1_; subst d1_
    have d2_ := (Prod.mk.inj e2_).1; have e3_ := (Prod.mk.inj e2_).2; clear e2_; subst d2_
    subst e3_
    exact x_r2 (none, 0, none, 0) Try.results80 (rv_cell rfl G27 Z27 (fun w h => h.zae (i := 2) rfl) rfl) (zai rfl) rfl (fun w h => za6 [1, 0] (by decide) rfl w h)
  · replace hb7 := nt_f hb7
    replace h := bb_t hb7 h
    refine zan ?_
    refine za1 ?_
    refine c_seq ?_
    refine za0 ?_
    refine o_q rfl rfl (q_ldB G27 Z27 rfl (fun w h => h.zae (i := 1) rfl) rfl) ?_
    refine o_e rfl (zaq (i := 0) rfl rfl rfl Z27 rfl rfl) (fun _ => ?_)
    refine o_q rfl rfl (q_asg rfl) ?_
    refine o_end ?_
    refine za1 ?_
    refine c_ret ?_
    have e0_ := Option.some.inj h; clear h
    have d0_ := (Prod.mk.inj e0_).1; have e1_ := (Prod.mk.inj e0_).2; clear e0_; subst d0_
    have d1_ := (Prod.mk.inj e1_).1; have e2_ := (Prod.mk.inj e1_).2; clear e1_; subst d1_
    have d2_ := (Prod.mk.inj e2_).1; have e3_ := (Prod.mk.inj e2_).2; clear e2_; subst d2_
    subst e3_
    exact x_r2 (A0_1, c0_1, A0_2, c0_2) Try.results80 (rv_cell rfl G27 Z27 (fun w h => h.zae (i := 0) rfl) rfl) (zai rfl) rfl (fun w h => za6 [2, 3] (by decide) rfl w h)

/-! ### (*loop.example/g01098/impl.RegCode).plan: function 88 -/
def impl_RegCode_plan.f (k : Nat) (a0_0 : Int) (l0_1 : List Int) (l0_2 : List SRegOp) (l0_3 : List Int) : Option (Int × (List SStep) × (List Int) × Bool) := (if 6 < (l0_1.length : Int) then (some true) else (if 40 < (l0_2.length : Int) then (some true) else (some (decide (6 < (l0_3.length : Int)))))).bind fun b5 => if b5 = true then (some (0, ([] : List SStep), ([] : List Int), false)) else ((impl_RegCode_read.f a0_0 l0_1 l0_2 l0_3).bind fun (i15, l16, l17, b18) => if b18 = true then ((impl_told.f k i15 l16 l17).bind fun (i27, l28, l29, b30) => some (i27, l28, l29, b30)) else (some (0, ([] : List SStep), ([] : List Int), false)))
set_option maxHeartbeats 600000 in
set_option maxRecDepth 100000 in
theorem impl_RegCode_plan.calls (k : Nat) {w0 ws : World} {P0 : Nat → Prop} (g0 : Nat) (a0_0 : Int) (A0_1 : Option Addr) (c0_1 : Nat) (n0_1 : Nat) (l0_1 : List Int) (A0_2 : Option Addr) (c0_2 : Nat) (n0_2 : Nat) (l0_2 : List SRegOp) (A0_3 : Option Addr) (c0_3 : Nat) (n0_3 : Nat) (l0_3 : List Int) (Z : Below w0.heap.size w0 ws) (hF : Fr w0 ws P0 [] ws) (R0_1 : Stable ws P0 (fun w => Kd.C (Kd.int .i64) w A0_1 n0_1 l0_1)) (hc0_1 : n0_1 ≤ c0_1) (R0_2 : Stable ws P0 (fun w => Kd.C kRegOp w A0_2 n0_2 l0_2)) (hc0_2 : n0_2 ≤ c0_2) (R0_3 : Stable ws P0 (fun w => Kd.C (Kd.int .i64) w A0_3 n0_3 l0_3)) (hc0_3 : n0_3 ≤ c0_3) (B0 : Stable ws P0 (fun w => w.heap[g0]? = some (.cells #[.int .i64 a0_0, .slice A0_1 n0_1 c0_1, .slice A0_2 n0_2 c0_2, .slice A0_3 n0_3 c0_3] 43 (0, 0)))) (r_1 : Int) (r_2 : List SStep) (r_5 : List Int) (r_8 : Bool) (h : impl_RegCode_plan.f k a0_0 l0_1 l0_2 l0_3 = some (r_1, r_2, r_5, r_8)) :
    Calls Try.prog 88 #[.pointer (some ⟨g0, 0, none⟩)] ws (Post1 w0 ws P0 (fun ((q_3, q_4, q_6, q_7) : (Option Addr) × Nat × (Option Addr) × Nat) => .tuple #[.agg #[.int .i64 r_1, .slice q_3 r_2.length q_4, .slice q_6 r_5.length q_7], .bool r_8]) (fun ((q_3, q_4, q_6, q_7) : (Option Addr) × Nat × (Option Addr) × Nat) => [row kStep 88 (.slice q_3 r_2.length q_4) r_2, row (Kd.int .i64) 3 (.slice q_6 r_5.length q_7) r_5])) := by
  unfold impl_RegCode_plan.f at h
  obtain rfl := (R0_1 ws (KeptB.refl _ _)).1
  obtain rfl := (R0_2 ws (KeptB.refl _ _)).1
  obtain rfl := (R0_3 ws (KeptB.refl _ _)).1
  refine enter Try.func88 rfl Try.ntmps88 rfl hF ?_
  refine c_seq ?_
  refine za0 ?_
  refine o_e rfl (zas V27 rfl) (fun g1 => ?_)
  refine o_q rfl rfl (q_asg rfl) ?_
  refine o_end ?_
  refine za1 ?_
  refine c_seq ?_
  refine za7 h (fun o6 hl7 hR8 => ?_) rfl
  clear h
  refine c_cutJ (σ := Bool) (fun b5 => some b5 = some o6) [6, 7, 8, 9, 10, 11, 12, 13, 14, 15, 16, 17, 18, 19, 20, 21, 22, 23, 24, 25, 26, 27] (fun b5 => [(27, .bool b5)]) (fun b5 => [box g1 27 #[.int .i64 0, .slice none 0 0, .slice none 0 0]]) ?_ ?_
  · skip
    have h := hl7; clear hl7
    clear hR8
    refine za0 ?_
    refine o_q rfl rfl (za3 rfl) ?_
    refine o_q rfl rfl (q_nil rfl) ?_
    refine o_q rfl rfl (q_f F43_1 rfl) ?_
    refine o_q rfl rfl (q_ldb Y25 rfl (fun w h => B0.now Z h) rfl) ?_
    refine o_q rfl rfl (q_len Try.underlying25 rfl) ?_
    refine o_q rfl rfl (q_gtr rfl rfl) ?_
    refine o_q rfl rfl (za3 rfl) ?_
    refine byB (decide (6 < (l0_1.length : Int))) (fun hb11 => ?_) (fun hb11 => ?_)
    · replace h := br_t hb11 h
      refine @o_n _ _ _ _ _ _ _ _ _ _ _ 13 (za2 rfl rfl rfl (congrArg Value.bool hb11) rfl) (Eq.refl (some 13)) ?_
      refine @o_n _ _ _ _ _ _ _ _ _ _ _ 14 (za2 rfl rfl rfl (congrArg Value.bool hb11) rfl) (Eq.refl (some 14)) ?_
      refine @o_n _ _ _ _ _ _ _ _ _ _ _ 15 (za2 rfl rfl rfl (congrArg Value.bool hb11) rfl) (Eq.refl (some 15)) ?_
      refine @o_n _ _ _ _ _ _ _ _ _ _ _ 16 (za2 rfl rfl rfl (congrArg Value.bool hb11) rfl) (Eq.refl (some 16)) ?_
      refine @o_n _ _ _ _ _ _ _ _ _ _ _ 17 (za2 rfl rfl rfl (congrArg Value.bool hb11) rfl) (Eq.refl (some 17)) ?_
      refine @o_n _ _ _ _ _ _ _ _ _ _ _ 18 (za2 rfl rfl rfl (congrArg Value.bool hb11) rfl) (Eq.refl (some 18)) ?_
      refine o_q rfl rfl (zal true (congrArg Value.bool hb11) rfl) ?_
      refine o_q rfl rfl (za3 rfl) ?_
      refine @o_n _ _ _ _ _ _ _ _ _ _ _ 21 (za2 rfl rfl rfl rfl rfl) (Eq.refl (some 21)) ?_
      refine @o_n _ _ _ _ _ _ _ _ _ _ _ 22 (za2 rfl rfl rfl rfl rfl) (Eq.refl (some 22)) ?_
      refine @o_n _ _ _ _ _ _ _ _ _ _ _ 23 (za2 rfl rfl rfl rfl rfl) (Eq.refl (some 23)) ?_
      refine @o_n _ _ _ _ _ _ _ _ _ _ _ 24 (za2 rfl rfl rfl rfl rfl) (Eq.refl (some 24)) ?_
      refine @o_n _ _ _ _ _ _ _ _ _ _ _ 25 (za2 rfl rfl rfl rfl rfl) (Eq.refl (some 25)) ?_
      refine @o_n _ _ _ _ _ _ _ _ _ _ _ 26 (za2 rfl rfl rfl rfl rfl) (Eq.refl (some 26)) ?_
      refine o_q rfl rfl (zal true rfl rfl) ?_
      refine o_end ?_
      refine zat true h ⟨rfl, trivial⟩ (fun w h => za6 [0] (by decide) rfl w h) ?_
      repeat (first | exact zab _ _ | refine zaf rfl ?_ | refine zac rfl ?_ | refine zah rfl ?_)
    · replace h := br_f hb11 h
      refine o_w (za4 rfl rfl rfl (congrArg Value.bool hb11)) rfl (za3 rfl) ?_
      refine o_w (za4 rfl rfl rfl (congrArg Value.bool hb11)) rfl (q_nil rfl) ?_
      refine o_w (za4 rfl rfl rfl (congrArg Value.bool hb11)) rfl (q_f F43_2 rfl) ?_
      refine o_w (za4 rfl rfl rfl (congrArg Value.bool hb11)) rfl (q_ldb Y41 rfl (fun w h => B0.now Z h) rfl) ?_
      refine o_w (za4 rfl rfl rfl (congrArg Value.bool hb11)) rfl (q_len Try.underlying41 rfl) ?_
      refine o_w (za4 rfl rfl rfl (congrArg Value.bool hb11)) rfl (q_gtr rfl rfl) ?_
      refine o_q rfl rfl (zal false (congrArg Value.bool hb11) rfl) ?_
      refine o_q rfl rfl (za3 rfl) ?_
      refine byB (decide (40 < (l0_2.length : Int))) (fun hb12 => ?_) (fun hb12 => ?_)
      · replace h := br_t hb12 h
        refine @o_n _ _ _ _ _ _ _ _ _ _ _ 21 (za2 rfl rfl rfl (congrArg Value.bool hb12) rfl) (Eq.refl (some 21)) ?_
        refine @o_n _ _ _ _ _ _ _ _ _ _ _ 22 (za2 rfl rfl rfl (congrArg Value.bool hb12) rfl) (Eq.refl (some 22)) ?_
        refine @o_n _ _ _ _ _ _ _ _ _ _ _ 23 (za2 rfl rfl rfl (congrArg Value.bool hb12) rfl) (Eq.refl (some 23)) ?_
        refine @o_n _ _ _ _ _ _ _ _ _ _ _ 24 (za2 rfl rfl rfl (congrArg Value.bool hb12) rfl) (Eq.refl (some 24)) ?_
        refine @o_n _ _ _ _ _ _ _ _ _ _ _ 25 (za2 rfl rfl rfl (congrArg Value.bool hb12) rfl) (Eq.refl (some 25)) ?_
        refine @o_n _ _ _ _ _ _ _ _ _ _ _ 26 (za2 rfl rfl rfl (congrArg Value.bool hb12) rfl) (Eq.refl (some 26)) ?_
        refine o_q rfl rfl (zal true (congrArg Value.bool hb12) rfl) ?_
        refine o_end ?_
        refine zat true h ⟨rfl, trivial⟩ (fun w h => za6 [0] (by decide) rfl w h) ?_
        repeat (first | exact zab _ _ | refine zaf rfl ?_ | refine zac rfl ?_ | refine zah rfl ?_)
      · replace h := br_f hb12 h
        refine o_w (za4 rfl rfl rfl (congrArg Value.bool hb12)) rfl (za3 rfl) ?_
        refine o_w (za4 rfl rfl rfl (congrArg Value.bool hb12)) rfl (q_nil rfl) ?_
        refine o_w (za4 rfl rfl rfl (congrArg Value.bool hb12)) rfl (q_f F43_3 rfl) ?_
        refine o_w (za4 rfl rfl rfl (congrArg Value.bool hb12)) rfl (q_ldb Y25 rfl (fun w h => B0.now Z h) rfl) ?_
        refine o_w (za4 rfl rfl rfl (congrArg Value.bool hb12)) rfl (q_len Try.underlying25 rfl) ?_
        refine o_w (za4 rfl rfl rfl (congrArg Value.bool hb12)) rfl (q_gtr rfl rfl) ?_
        refine o_q rfl rfl (zal false (congrArg Value.bool hb12) rfl) ?_
        refine o_end ?_
        refine zat (decide (6 < (l0_3.length : Int))) h ⟨rfl, trivial⟩ (fun w h => za6 [0] (by decide) rfl w h) ?_
        repeat (first | exact zab _ _ | refine zaf rfl ?_ | refine zac rfl ?_ | refine zah rfl ?_)
  · skip
    refine (fun b5 => fun U9 hJ10 => ?_)
    have e_ := Option.some.inj hJ10; have h := hR8; rw [← e_] at h; clear e_ hJ10 hR8 hl7
    refine zav _ rfl (fun hb13 => ?_) (fun hb13 => ?_)
    · skip
      replace h := bb_t hb13 h
      refine c_seq ?_
      refine za0 ?_
      refine o_q rfl rfl (q_build (vs := []) (cs := [.int .i64 0, .slice none 0 0, .slice none 0 0]) rfl rfl) ?_
      refine o_e rfl (zaq (i := 0) rfl rfl rfl Z27 rfl rfl) (fun _ => ?_)
      refine o_q rfl rfl (q_asg rfl) ?_
      refine o_end ?_
      refine za1 ?_
      refine c_ret ?_
      refine zaa ?_
      refine x_nil kStep 88 ?_
      refine x_nil (Kd.int .i64) 3 ?_
      have e0_ := Option.some.inj h; clear h
      have d0_ := (Prod.mk.inj e0_).1; have e1_ := (Prod.mk.inj e0_).2; clear e0_; subst d0_
      have d1_ := (Prod.mk.inj e1_).1; have e2_ := (Prod.mk.inj e1_).2; clear e1_; subst d1_
      have d2_ := (Prod.mk.inj e2_).1; have e3_ := (Prod.mk.inj e2_).2; clear e2_; subst d2_
      subst e3_
      exact x_r2 (none, 0, none, 0) Try.results88 (rv_cell rfl G27 Z27 (fun w h => h.zae (i := 2) rfl) rfl) (zai rfl) rfl (fun w h => za6 [1, 0] (by decide) rfl w h)
    · skip
      replace h := bb_f hb13 h
      refine zan ?_
      refine za1 ?_
      refine c_seq ?_
      refine za0 ?_
      refine o_q rfl rfl (za3 rfl) ?_
      refine bindE4 h (fun i15 l16 l17 b18 hx14 h => ?_) rfl
      refine o_e rfl (zad 0 Z Try.func143 N143 rfl rfl rfl (fun w P1 hF hB hS hT => impl_RegCode_read.calls g0 a0_0 A0_1 c0_1 l0_1.length l0_1 A0_2 c0_2 l0_2.length l0_2 A0_3 c0_3 l0_3.length l0_3 hB hF (hS _ R0_1) hc0_1 (hS _ R0_2) hc0_2 (hS _ R0_3) hc0_3 (hS _ B0) _ _ _ _ hx14)) (cur4 (fun A19 c20 A21 c22 => ?_))
      refine o_q rfl rfl (za3 rfl) ?_
      refine o_q rfl rfl (q_ext rfl rfl) ?_
      refine o_q rfl rfl (q_ext rfl rfl) ?_
      refine o_e rfl (zas V27 rfl) (fun g23 => ?_)
      refine o_e rfl (zaq (i := 0) rfl rfl rfl Z27 rfl rfl) (fun _ => ?_)
      refine o_q rfl rfl (q_asg rfl) ?_
      refine o_end ?_
      refine za1 ?_
      refine c_seq ?_
      refine c_seq ?_
      refine za0 ?_
      refine o_q rfl rfl (za3 rfl) ?_
      refine o_q rfl rfl (q_not rfl) ?_
      refine o_end ?_
      refine za1 ?_
      refine zav _ rfl (fun hb25 => ?_) (fun hb25 => ?_)
      · replace hb25 := nt_t hb25
        replace h := bb_f hb25 h
        refine c_seq ?_
        refine za0 ?_
        refine o_q rfl rfl (q_build (vs := []) (cs := [.int .i64 0, .slice none 0 0, .slice none 0 0]) rfl rfl) ?_
        refine o_e rfl (zaq (i := 3) rfl rfl rfl Z27 rfl rfl) (fun _ => ?_)
        refine o_q rfl rfl (q_asg rfl) ?_
        refine o_end ?_
        refine za1 ?_
        refine c_ret ?_
        refine zaa ?_
        refine x_nil kStep 88 ?_
        refine x_nil (Kd.int .i64) 3 ?_
        have e0_ := Option.some.inj h; clear h
        have d0_ := (Prod.mk.inj e0_).1; have e1_ := (Prod.mk.inj e0_).2; clear e0_; subst d0_
        have d1_ := (Prod.mk.inj e1_).1; have e2_ := (Prod.mk.inj e1_).2; clear e1_; subst d1_
        have d2_ := (Prod.mk.inj e2_).1; have e3_ := (Prod.mk.inj e2_).2; clear e2_; subst d2_
        subst e3_
        exact x_r2 (none, 0, none, 0) Try.results88 (rv_cell rfl G27 Z27 (fun w h => h.zae (i := 5) rfl) rfl) (zai rfl) rfl (fun w h => za6 [1, 0] (by decide) rfl w h)
      · replace hb25 := nt_f hb25
        replace h := bb_t hb25 h
        refine zan ?_
        refine za1 ?_
        refine c_seq ?_
        refine za0 ?_
        refine o_q rfl rfl (q_ldB G27 Z27 rfl (fun w h => h.zae (i := 0) rfl) rfl) ?_
        refine o_pick [1, 2, 0, 3] (by decide) rfl ?_
        refine bindE4 h (fun i27 l28 l29 b30 hx26 h => ?_) rfl
        refine o_e rfl (zad 2 Z Try.func80 N80 rfl rfl rfl (fun w P1 hF hB hS hT => impl_told.calls k i15 A19 c20 l16.length l16 A21 c22 l17.length l17 hB hF _ _ _ _ hx26)) (cur4 (fun A31 c32 A33 c34 => ?_))
        refine o_q rfl rfl (q_ext rfl rfl) ?_
        refine o_q rfl rfl (q_ext rfl rfl) ?_
        refine o_e rfl (zaq (i := 3) rfl rfl rfl Z27 rfl rfl) (fun _ => ?_)
        refine o_q rfl rfl (q_asg rfl) ?_
        refine o_end ?_
        refine za1 ?_
        refine c_ret ?_
        have e0_ := Option.some.inj h; clear h
        have d0_ := (Prod.mk.inj e0_).1; have e1_ := (Prod.mk.inj e0_).2; clear e0_; subst d0_
        have d1_ := (Prod.mk.inj e1_).1; have e2_ := (Prod.mk.inj e1_).2; clear e1_; subst d1_
        have d2_ := (Prod.mk.inj e2_).1; have e3_ := (Prod.mk.inj e2_).2; clear e2_; subst d2_
        subst e3_
        exact x_r2 (A31, c32, A33, c34) Try.results88 (rv_cell rfl G27 Z27 (fun w h => h.zae (i := 3) rfl) rfl) (zai rfl) rfl (fun w h => za6 [0, 1] (by decide) rfl w h)

/-! ### loop.example/g01098/impl.RegCodePlan: function 29 -/
def impl_RegCodePlan.f (k : Nat) (a0_0 : Int) (l0_1 : List Int) (l0_2 : List SRegOp) (l0_3 : List Int) : Option (Int × (List SStep) × (List Int) × Bool) := (impl_RegCode_plan.f k a0_0 l0_1 l0_2 l0_3).bind fun (i6, l7, l8, b9) => some (i6, l7, l8, b9)
set_option maxHeartbeats 600000 in
set_option maxRecDepth 100000 in
theorem impl_RegCodePlan.calls (k : Nat) {w0 ws : World} {P0 : Nat → Prop} (a0_0 : Int) (A0_1 : Option Addr) (c0_1 : Nat) (n0_1 : Nat) (l0_1 : List Int) (A0_2 : Option Addr) (c0_2 : Nat) (n0_2 : Nat) (l0_2 : List SRegOp) (A0_3 : Option Addr) (c0_3 : Nat) (n0_3 : Nat) (l0_3 : List Int) (Z : Below w0.heap.size w0 ws) (hF : Fr w0 ws P0 [] ws) (R0_1 : Stable ws P0 (fun w => Kd.C (Kd.int .i64) w A0_1 n0_1 l0_1)) (hc0_1 : n0_1 ≤ c0_1) (R0_2 : Stable ws P0 (fun w => Kd.C kRegOp w A0_2 n0_2 l0_2)) (hc0_2 : n0_2 ≤ c0_2) (R0_3 : Stable ws P0 (fun w => Kd.C (Kd.int .i64) w A0_3 n0_3 l0_3)) (hc0_3 : n0_3 ≤ c0_3) (r_1 : Int) (r_2 : List SStep) (r_5 : List Int) (r_8 : Bool) (h : impl_RegCodePlan.f k a0_0 l0_1 l0_2 l0_3 = some (r_1, r_2, r_5, r_8)) :
    Calls Try.prog 29 #[.agg #[.int .i64 a0_0, .slice A0_1 n0_1 c0_1, .slice A0_2 n0_2 c0_2, .slice A0_3 n0_3 c0_3]] ws (Post1 w0 ws P0 (fun ((q_3, q_4, q_6, q_7) : (Option Addr) × Nat × (Option Addr) × Nat) => .tuple #[.agg #[.int .i64 r_1, .slice q_3 r_2.length q_4, .slice q_6 r_5.length q_7], .bool r_8]) (fun ((q_3, q_4, q_6, q_7) : (Option Addr) × Nat × (Option Addr) × Nat) => [row kStep 88 (.slice q_3 r_2.length q_4) r_2, row (Kd.int .i64) 3 (.slice q_6 r_5.length q_7) r_5])) := by
  unfold impl_RegCodePlan.f at h
  obtain rfl := (R0_1 ws (KeptB.refl _ _)).1
  obtain rfl := (R0_2 ws (KeptB.refl _ _)).1
  obtain rfl := (R0_3 ws (KeptB.refl _ _)).1
  refine enter Try.func29 rfl Try.ntmps29 rfl hF ?_
  refine c_seq ?_
  refine za0 ?_
  refine o_e rfl (e_box rfl) (fun g1 => ?_)
  refine o_e rfl (zas V27 rfl) (fun g3 => ?_)
  refine o_q rfl rfl (q_asg rfl) ?_
  refine o_end ?_
  refine za1 ?_
  refine c_seq ?_
  refine za0 ?_
  refine bindE4 h (fun i6 l7 l8 b9 hx5 h => ?_) rfl
  refine o_e rfl (zad 0 Z Try.func88 N88 rfl rfl rfl (fun w P1 hF hB hS hT => impl_RegCode_plan.calls k g1 a0_0 A0_1 c0_1 l0_1.length l0_1 A0_2 c0_2 l0_2.length l0_2 A0_3 c0_3 l0_3.length l0_3 hB hF (hS _ R0_1) hc0_1 (hS _ R0_2) hc0_2 (hS _ R0_3) hc0_3 (hT 1 _ rfl).box _ _ _ _ hx5)) (cur4 (fun A10 c11 A12 c13 => ?_))
  refine o_q rfl rfl (q_ext rfl rfl) ?_
  refine o_q rfl rfl (q_ext rfl rfl) ?_
  refine o_e rfl (zaq (i := 2) rfl rfl rfl Z27 rfl rfl) (fun _ => ?_)
  refine o_q rfl rfl (q_asg rfl) ?_
  refine o_end ?_
  refine za1 ?_
  refine c_ret ?_
  have e0_ := Option.some.inj h; clear h
  have d0_ := (Prod.mk.inj e0_).1; have e1_ := (Prod.mk.inj e0_).2; clear e0_; subst d0_
  have d1_ := (Prod.mk.inj e1_).1; have e2_ := (Prod.mk.inj e1_).2; clear e1_; subst d1_
  have d2_ := (Prod.mk.inj e2_).1; have e3_ := (Prod.mk.inj e2_).2; clear e2_; subst d2_
  subst e3_
  exact x_r2 (A10, c11, A12, c13) Try.results29 (rv_cell rfl G27 Z27 (fun w h => h.zae (i := 2) rfl) rfl) (zai rfl) rfl (fun w h => za6 [0, 1] (by decide) rfl w h)

/-! ### slices.Clone[[]int,int]: function 137 -/
def slices_Clone_int_int.f (l0 : List Int) : Option (List Int) := (ap ([] : List Int) l0).bind fun l5 => some l5
set_option maxHeartbeats 600000 in
set_option maxRecDepth 100000 in
theorem slices_Clone_int_int.calls {w0 ws : World} {P0 : Nat → Prop} (A0 : Option Addr) (c0 : Nat) (n0 : Nat) (l0 : List Int) (Z : Below w0.heap.size w0 ws) (hF : Fr w0 ws P0 [] ws) (R0 : Stable ws P0 (fun w => Kd.C (Kd.int .i64) w A0 n0 l0)) (hc0 : n0 ≤ c0) (r_1 : List Int) (h : slices_Clone_int_int.f l0 = some r_1) :
    Calls Try.prog 137 #[.slice A0 n0 c0] ws (Post1 w0 ws P0 (fun ((q_2, q_3) : (Option Addr) × Nat) => .slice q_2 r_1.length q_3) (fun ((q_2, q_3) : (Option Addr) × Nat) => [row (Kd.int .i64) 3 (.slice q_2 r_1.length q_3) r_1])) := by
  unfold slices_Clone_int_int.f at h
  obtain rfl := (R0 ws (KeptB.refl _ _)).1
  refine enter Try.func137 rfl Try.ntmps137 rfl hF ?_
  refine c_seq ?_
  refine za0 ?_
  refine o_q rfl rfl (q_asg rfl) ?_
  refine o_end ?_
  refine za1 ?_
  refine c_seq ?_
  refine c_seq ?_
  refine za0 ?_
  refine o_q rfl rfl (za3 rfl) ?_
  refine o_q rfl rfl (q_snil Try.underlying25 rfl rfl) ?_
  refine o_end ?_
  refine za1 ?_
  refine zav _ rfl (fun hb1 => ?_) (fun hb1 => ?_)
  · skip
    have hl_ := nil_of hb1 (R0 ws (KeptB.refl _ _)); subst hl_
    replace h : some ([] : List Int) = some r_1 := h
    refine c_seq ?_
    refine za0 ?_
    refine o_q rfl rfl (q_asg rfl) ?_
    refine o_end ?_
    refine za1 ?_
    refine c_ret ?_
    refine zaa ?_
    refine x_nil (Kd.int .i64) 3 ?_
    have e0_ := Option.some.inj h; clear h
    subst e0_
    exact x_r1 (none, 0) Try.results137 (zai rfl) rfl (fun w h => za6 [0] (by decide) rfl w h)
  · skip
    refine zan ?_
    refine za1 ?_
    refine c_seq ?_
    refine za0 ?_
    refine o_e rfl (e_lit0 (Kd.int .i64) Try.underlying25 I3) (cur2 (fun A2 c3 => ?_))
    refine o_q rfl rfl (za3 rfl) ?_
    refine za7 h (fun l5 ha6 h => ?_) rfl
    refine o_e rfl (e_appr (i := 0) Try.underlying25 I3 rfl (by decide) (by decide) (fun _ _ _ _ h => h) rfl (fun w h => R0.now Z h) rfl rfl ha6) (cur2 (fun A7 c8 => ?_))
    refine o_q rfl rfl (q_asg rfl) ?_
    refine o_end ?_
    refine za1 ?_
    refine c_ret ?_
    have e0_ := Option.some.inj h; clear h
    subst e0_
    exact x_r1 (A7, c8) Try.results137 (zai rfl) rfl (fun w h => za6 [0] (by decide) rfl w h)

/-! ### (*loop.example/g01098/impl.Plan).outputExponents: function 145 -/
def impl_Plan_outputExponents.l0 (l2 : List (List Int)) : (List Int) → (List (List Int)) → Int → Option (List (List Int))
  | [], l9, i13 => some l9
  | y14 :: ys15, l9, i13 => (gt l2 y14).bind fun y27 => (slices_Clone_int_int.f y27).bind fun l30 => (ap l9 ([l30] : List (List Int))).bind fun l37 => impl_Plan_outputExponents.l0 l2 ys15 l37 (i13 + 1)
def impl_Plan_outputExponents.f (a0_0 : Int) (l0_1 : List SStep) (l0_2 : List Int) : Option (List (List Int)) := (impl_Plan_exponents.f a0_0 l0_1 l0_2).bind fun l2 => (impl_Plan_outputExponents.l0 l2 l0_2 ([] : List (List Int)) 0).bind fun l9 => some l9
set_option maxHeartbeats 600000 in
set_option maxRecDepth 100000 in
theorem impl_Plan_outputExponents.calls {w0 ws : World} {P0 : Nat → Prop} (g0 : Nat) (a0_0 : Int) (A0_1 : Option Addr) (c0_1 : Nat) (n0_1 : Nat) (l0_1 : List SStep) (A0_2 : Option Addr) (c0_2 : Nat) (n0_2 : Nat) (l0_2 : List Int) (Z : Below w0.heap.size w0 ws) (hF : Fr w0 ws P0 [] ws) (R0_1 : Stable ws P0 (fun w => Kd.C kStep w A0_1 n0_1 l0_1)) (hc0_1 : n0_1 ≤ c0_1) (R0_2 : Stable ws P0 (fun w => Kd.C (Kd.int .i64) w A0_2 n0_2 l0_2)) (hc0_2 : n0_2 ≤ c0_2) (B0 : Stable ws P0 (fun w => w.heap[g0]? = some (.cells #[.int .i64 a0_0, .slice A0_1 n0_1 c0_1, .slice A0_2 n0_2 c0_2] 27 (0, 0)))) (r_1 : List (List Int)) (h : impl_Plan_outputExponents.f a0_0 l0_1 l0_2 = some r_1) :
    Calls Try.prog 145 #[.pointer (some ⟨g0, 0, none⟩)] ws (Post1 w0 ws P0 (fun ((q_2, q_3, q_4) : (Option Addr) × Nat × Hd) => .slice q_2 r_1.length q_3) (fun ((q_2, q_3, q_4) : (Option Addr) × Nat × Hd) => [row (gk 3 (Kd.int .i64)) 25 (.slice q_2 r_1.length q_3) (zp q_4 r_1)])) := by
  unfold impl_Plan_outputExponents.f at h
  obtain rfl := (R0_1 ws (KeptB.refl _ _)).1
  obtain rfl := (R0_2 ws (KeptB.refl _ _)).1
  refine enter Try.func145 rfl Try.ntmps145 rfl hF ?_
  refine c_seq ?_
  refine za0 ?_
  refine o_q rfl rfl (q_asg rfl) ?_
  refine o_end ?_
  refine za1 ?_
  refine c_seq ?_
  refine za0 ?_
  refine o_q rfl rfl (za3 rfl) ?_
  refine za7 h (fun l2 hx1 h => ?_) rfl
  refine o_e rfl (zad 0 Z Try.func132 N132 rfl rfl rfl (fun w P1 hF hB hS hT => impl_Plan_exponents.calls g0 a0_0 A0_1 c0_1 l0_1.length l0_1 A0_2 c0_2 l0_2.length l0_2 hB hF (hS _ R0_1) hc0_1 (hS _ R0_2) hc0_2 (hS _ B0) _ hx1)) (cur3 (fun A3 c4 H5 => ?_))
  refine o_e rfl (e_lit0 (gk 3 (Kd.int .i64)) Try.underlying73 I25) (cur2 (fun A6 c7 => ?_))
  refine o_q rfl rfl (q_asg rfl) ?_
  refine o_q rfl rfl (q_asg rfl) ?_
  refine o_end ?_
  refine za1 ?_
  refine c_seq ?_
  refine c_seq ?_
  refine za0 ?_
  refine o_q rfl rfl (za3 rfl) ?_
  refine o_q rfl rfl (q_nil rfl) ?_
  refine o_q rfl rfl (q_f F27_2 rfl) ?_
  refine o_q rfl rfl (q_ldb Y25 rfl (fun w h => B0.now Z h) rfl) ?_
  refine o_q rfl rfl (q_len Try.underlying25 rfl) ?_
  refine o_q rfl rfl (za3 rfl) ?_
  refine o_end ?_
  refine za1 ?_
  refine zaj ?_
  refine za7 h (fun o21 hl20 hR19 => ?_) rfl
  clear h
  refine c_fact (p := l0_2.length ≤ 9223372036854775807) (fun w h => (R0_2.now Z h).2.1) (fun hm18 => ?_)
  refine zax (σ := (List Int) × (List (List Int)) × Int × (Option Addr) × Nat × Hd) (fun k16 ((ys15, l9, i13, A10, c11, H12) : (List Int) × (List (List Int)) × Int × (Option Addr) × Nat × Hd) => Rg l0_2 i13 ys15 ∧ ys15.length = k16 ∧ impl_Plan_outputExponents.l0 l2 ys15 l9 i13 = some o21) [4, 6, 15, 16, 17, 18, 19, 20, 21, 22, 23, 24, 25, 26, 27] (fun ((ys15, l9, i13, A10, c11, H12) : (List Int) × (List (List Int)) × Int × (Option Addr) × Nat × Hd) => [(4, .slice A10 l9.length c11), (15, .int .i64 i13)]) (fun ((ys15, l9, i13, A10, c11, H12) : (List Int) × (List (List Int)) × Int × (Option Addr) × Nat × Hd) => [row (gk 3 (Kd.int .i64)) 25 (.slice A10 l9.length c11) (zp H12 l9), row (gk 3 (Kd.int .i64)) 25 (.slice A3 l2.length c4) (zp H5 l2)]) l0_2.length (l0_2, ([] : List (List Int)), 0, A6, c7, ([] : Hd)) ⟨Rg.start _, rfl, hl20⟩ ⟨rfl, rfl, trivial⟩ (fun w h => h) ?_
  refine fun k16 => cur6 (listC (fun l9 i13 A10 c11 H12 U22 hJ_ => ?_) (fun y14 ys15 l9 i13 A10 c11 H12 U22 hJ_ => ?_))
  · skip
    clear hl20
    have hr17 := hJ_.1; have hk23 := hJ_.2.1; have h := hJ_.2.2; clear hJ_
    replace h : impl_Plan_outputExponents.l0 l2 [] l9 i13 = some o21 := h
    rw [impl_Plan_outputExponents.l0] at h
    refine c_seq ?_
    refine za0 ?_
    refine o_q rfl rfl (q_lss rfl rfl) ?_
    refine o_end ?_
    refine za1 ?_
    refine c_seq ?_
    refine zb2 (congrArg Value.bool hr17.ge) ?_
    refine zb4 ?_
    refine za5 ?_
    refine za5 ?_
    have e_ := Option.some.inj h; replace h := hR19; rw [← e_] at h; clear e_
    refine x_hit ?_
    refine za1 ?_
    refine c_seq ?_
    refine za0 ?_
    refine o_q rfl rfl (za3 rfl) ?_
    refine o_q rfl rfl (q_asg rfl) ?_
    refine o_end ?_
    refine za1 ?_
    refine c_ret ?_
    have e0_ := Option.some.inj h; clear h
    subst e0_
    exact x_r1 (A10, c11, H12) Try.results145 (zai rfl) rfl (fun w h => za6 [0] (by decide) rfl w h)
  · skip
    clear hl20
    have hr17 := hJ_.1; have hk23 := hJ_.2.1; have h := hJ_.2.2; clear hJ_
    replace h : impl_Plan_outputExponents.l0 l2 (y14 :: ys15) l9 i13 = some o21 := h
    rw [impl_Plan_outputExponents.l0] at h
    refine c_seq ?_
    refine za0 ?_
    refine o_q rfl rfl (q_lss rfl rfl) ?_
    refine o_end ?_
    refine za1 ?_
    refine c_seq ?_
    refine zb1 (congrArg Value.bool hr17.lt) ?_
    refine zan ?_
    refine za1 ?_
    refine c_seq ?_
    refine zaj ?_
    refine c_seq ?_
    refine za0 ?_
    refine zaz (p := Sh A0_2 l0_2.length l0_2.length) (fun w h => f_sh (dk := (Kd.int .i64)) h (fun w h => R0_2.now Z h)) (fun hq24 => ?_)
    refine o_q rfl rfl (q_ix Try.underlying25 Z3 rfl rfl hq24 hr17.get) ?_
    refine o_q rfl rfl (q_lde (off := 0) Y3 rfl rfl (fun w h => R0_2.now Z h) hr17.get (fun _ _ h => h) rfl) ?_
    refine o_q rfl rfl (q_asg rfl) ?_
    refine o_end ?_
    refine za1 ?_
    refine za0 ?_
    refine o_q rfl rfl (za3 rfl) ?_
    refine o_q rfl rfl (za3 rfl) ?_
    refine o_q rfl rfl (za3 rfl) ?_
    refine zaz (p := Sh A3 l2.length (zp H5 l2).length) (fun w h => f_sh (dk := (gk 3 (Kd.int .i64))) h (fun w h => h.zau (i := 1) rfl)) (fun hq25 => ?_)
    refine za7 h (fun y27 hg26 h => ?_) rfl
    refine o_q rfl rfl (q_ix Try.underlying73 Z25 rfl rfl hq25 (gt_zp hg26)) ?_
    refine zaz (p := y27.length ≤ hC H5 y14) (fun w h => (K_in (h.zau (i := 1) rfl) hg26).1) (fun hc28 => ?_)
    refine o_q rfl rfl (q_lde (off := 0) Y25 rfl rfl (fun w h => h.zau (i := 1) rfl) (gt_zp hg26) (fun _ _ h => h.1) rfl) ?_
    refine za7 h (fun l30 hx29 h => ?_) rfl
    refine o_e rfl (zad 0 Z Try.func137 N137 rfl rfl rfl (fun w P1 hF hB hS hT => slices_Clone_int_int.calls (hA H5 y14) (hC H5 y14) y27.length y27 hB hF (stab_in (hT 1 _ rfl).row hg26) hc28 _ hx29)) (cur2 (fun A31 c32 => ?_))
    refine o_e rfl (e_litG (j := 0) (ue := 3) (dk := (Kd.int .i64)) (ys := l30) Try.underlying73 I25 rfl rfl rfl) (cur3 (fun A33 c34 H36 => ?_))
    refine za7 h (fun l37 ha38 h => ?_) rfl
    refine o_e rfl (e_appG (i := 2) (j := 0) Try.underlying73 I25 rfl (by decide) rfl rfl rfl rfl rfl ha38) (cur3 (fun A39 c40 H41 => ?_))
    refine o_q rfl rfl (q_asg rfl) ?_
    refine o_end ?_
    refine zam ?_
    refine za1 ?_
    refine za0 ?_
    refine o_q rfl rfl (q_up rfl rfl (hr17.up hm18)) ?_
    refine o_q rfl rfl (za3 rfl) ?_
    refine o_end ?_
    refine zak ys15.length (ys15, l37, i13 + 1, A39, c40, H41) (by rw [← hk23]; exact Nat.lt_succ_self _) ⟨hr17.step, rfl, h⟩ ⟨rfl, rfl, trivial⟩ (fun w h => za6 [2, 3] (by decide) rfl w h) ?_
    repeat (first | exact zab _ _ | refine zaf rfl ?_ | refine zac rfl ?_ | refine zah rfl ?_)

end Go.Proofs.Ytdicngjloiphkaa.L7
