import Derived.Test.YtoegbcbdiggbjaaKFnFoldsAndCollapsesFCp4
namespace Go.Proofs.Ytoegbcbdiggbjaa.FC
open Go.RowKit Go.Proofs.Ytoegbcbdiggbjaa.Frame Go.Proofs.YtoegbcbdiggbjaaW.PrintLast Go.Proofs.Ytoegbcbdiggbjaa.Hand
open Go.Proofs.YtoegbcbdiggbjaaW.PrintWords hiding mn mx
set_option linter.unusedVariables false
/-! ### loop.example/g01098/impl.SamePowers: function 27 -/
def impl_SamePowers.f (k : Nat) (a0_0 : Int) (l0_1 : List SStep) (l0_2 : List Int) (a1_0 : Int) (l1_1 : List SStep) (l1_2 : List Int) : Option (Bool × Bool) := (impl_IsPlan.f k a0_0 l0_1 l0_2).bind fun b6 => if b6 = true then ((impl_IsPlan.f k a1_0 l1_1 l1_2).bind fun b9 => if b9 = true then ((impl_samePowers.f a0_0 l0_1 l0_2 a1_0 l1_1 l1_2).bind fun b12 => some (b12, true)) else (some (false, false))) else (some (false, false))
set_option maxHeartbeats 600000 in
set_option maxRecDepth 100000 in
theorem impl_SamePowers.calls (k : Nat) {w0 ws : World} {P0 : Nat → Prop} (a0_0 : Int) (A0_1 : Option Addr) (c0_1 : Nat) (n0_1 : Nat) (l0_1 : List SStep) (A0_2 : Option Addr) (c0_2 : Nat) (n0_2 : Nat) (l0_2 : List Int) (a1_0 : Int) (A1_1 : Option Addr) (c1_1 : Nat) (n1_1 : Nat) (l1_1 : List SStep) (A1_2 : Option Addr) (c1_2 : Nat) (n1_2 : Nat) (l1_2 : List Int) (Z : Below w0.heap.size w0 ws) (hF : Fr w0 ws P0 [] ws) (R0_1 : Stable ws P0 (fun w => Kd.C kStep w A0_1 n0_1 l0_1)) (hc0_1 : n0_1 ≤ c0_1) (R0_2 : Stable ws P0 (fun w => Kd.C (Kd.int .i64) w A0_2 n0_2 l0_2)) (hc0_2 : n0_2 ≤ c0_2) (R1_1 : Stable ws P0 (fun w => Kd.C kStep w A1_1 n1_1 l1_1)) (hc1_1 : n1_1 ≤ c1_1) (R1_2 : Stable ws P0 (fun w => Kd.C (Kd.int .i64) w A1_2 n1_2 l1_2)) (hc1_2 : n1_2 ≤ c1_2) (r_1 : Bool) (r_2 : Bool) (h : impl_SamePowers.f k a0_0 l0_1 l0_2 a1_0 l1_1 l1_2 = some (r_1, r_2)) :
    Calls Try.prog 27 #[.agg #[.int .i64 a0_0, .slice A0_1 n0_1 c0_1, .slice A0_2 n0_2 c0_2], .agg #[.int .i64 a1_0, .slice A1_1 n1_1 c1_1, .slice A1_2 n1_2 c1_2]] ws (Post1 w0 ws P0 (fun (_ : Unit) => .tuple #[.bool r_1, .bool r_2]) (fun (_ : Unit) => [])) := by
  unfold impl_SamePowers.f at h
  obtain rfl := (R0_1 ws (KeptB.refl _ _)).1
  obtain rfl := (R0_2 ws (KeptB.refl _ _)).1
  obtain rfl := (R1_1 ws (KeptB.refl _ _)).1
  obtain rfl := (R1_2 ws (KeptB.refl _ _)).1
  refine enter Try.func27 rfl Try.ntmps27 rfl hF ?_
  refine c_seq ?_
  refine za0 ?_
  refine o_e rfl (e_box rfl) (fun g1 => ?_)
  refine o_e rfl (e_box rfl) (fun g3 => ?_)
  refine o_q rfl rfl (q_asg rfl) ?_
  refine o_q rfl rfl (q_asg rfl) ?_
  refine o_end ?_
  refine za1 ?_
  refine c_seq ?_
  refine c_seq ?_
  refine za0 ?_
  refine o_q rfl rfl (q_ldB G27 Z27 rfl (fun w h => h.zab (i := 1) rfl) rfl) ?_
  refine za8 h (fun b6 hx5 h => ?_) rfl
  refine o_e rfl (zac 0 Z Try.func86 N86 rfl rfl rfl (fun w P1 hF hB hS hT => impl_IsPlan.calls k a0_0 A0_1 c0_1 l0_1.length l0_1 A0_2 c0_2 l0_2.length l0_2 hB hF (hS _ R0_1) hc0_1 (hS _ R0_2) hc0_2 _ hx5)) (fun _ => ?_)
  refine o_q rfl rfl (q_not rfl) ?_
  refine o_q rfl rfl (za2 rfl) ?_
  refine byB b6 (fun hb7 => ?_) (fun hb7 => ?_)
  · replace h := bb_t hb7 h
    refine o_w (za4 rfl rfl rfl (congrArg (fun b => Value.bool (!(b))) hb7)) rfl (q_ldB G27 Z27 rfl (fun w h => h.zab (i := 0) rfl) rfl) ?_
    refine za8 h (fun b9 hx8 h => ?_) rfl
    refine o_ew (za4 rfl rfl rfl (congrArg (fun b => Value.bool (!(b))) hb7)) (zac 0 Z Try.func86 N86 rfl rfl rfl (fun w P1 hF hB hS hT => impl_IsPlan.calls k a1_0 A1_1 c1_1 l1_1.length l1_1 A1_2 c1_2 l1_2.length l1_2 hB hF (hS _ R1_1) hc1_1 (hS _ R1_2) hc1_2 _ hx8)) (fun _ => ?_)
    refine o_w (za4 rfl rfl rfl (congrArg (fun b => Value.bool (!(b))) hb7)) rfl (q_not rfl) ?_
    refine o_q rfl rfl (zas false (congrArg (fun b => Value.bool (!(b))) hb7) rfl) ?_
    refine o_end ?_
    refine za1 ?_
    refine zar _ rfl (fun hb10 => ?_) (fun hb10 => ?_)
    · replace hb10 := nt_t hb10
      replace h := bb_f hb10 h
      refine c_seq ?_
      refine za0 ?_
      refine o_q rfl rfl (q_asg rfl) ?_
      refine o_q rfl rfl (q_asg rfl) ?_
      refine o_end ?_
      refine za1 ?_
      refine c_ret ?_
      refine zaa ?_
      have e0_ := Option.some.inj h; clear h
      have d0_ := (Prod.mk.inj e0_).1; have e1_ := (Prod.mk.inj e0_).2; clear e0_; subst d0_
      subst e1_
      exact x_r2 () Try.results27 (zai rfl) (zai rfl) rfl (fun w h => za7 [] (by decide) rfl w h)
    · replace hb10 := nt_f hb10
      replace h := bb_t hb10 h
      refine zam ?_
      refine za1 ?_
      refine c_seq ?_
      refine za0 ?_
      refine za8 h (fun b12 hx11 h => ?_) rfl
      refine o_e rfl (zac 0 Z Try.func109 N109 rfl rfl rfl (fun w P1 hF hB hS hT => impl_samePowers.calls g1 a0_0 A0_1 c0_1 l0_1.length l0_1 A0_2 c0_2 l0_2.length l0_2 g3 a1_0 A1_1 c1_1 l1_1.length l1_1 A1_2 c1_2 l1_2.length l1_2 hB hF (hS _ R0_1) hc0_1 (hS _ R0_2) hc0_2 (hT 1 _ rfl).box (hS _ R1_1) hc1_1 (hS _ R1_2) hc1_2 (hT 0 _ rfl).box _ hx11)) (fun _ => ?_)
      refine o_q rfl rfl (q_asg rfl) ?_
      refine o_q rfl rfl (q_asg rfl) ?_
      refine o_end ?_
      refine za1 ?_
      refine c_ret ?_
      have e0_ := Option.some.inj h; clear h
      have d0_ := (Prod.mk.inj e0_).1; have e1_ := (Prod.mk.inj e0_).2; clear e0_; subst d0_
      subst e1_
      exact x_r2 () Try.results27 (zai rfl) (zai rfl) rfl (fun w h => za7 [] (by decide) rfl w h)
  · replace h := bb_f hb7 h
    refine @o_n _ _ _ _ _ _ _ _ _ _ _ 10 (za3 rfl rfl rfl (congrArg (fun b => Value.bool (!(b))) hb7) rfl) (Eq.refl (some 10)) ?_
    refine @o_n _ _ _ _ _ _ _ _ _ _ _ 11 (za3 rfl rfl rfl (congrArg (fun b => Value.bool (!(b))) hb7) rfl) (Eq.refl (some 11)) ?_
    refine @o_n _ _ _ _ _ _ _ _ _ _ _ 12 (za3 rfl rfl rfl (congrArg (fun b => Value.bool (!(b))) hb7) rfl) (Eq.refl (some 12)) ?_
    refine o_q rfl rfl (zas true (congrArg (fun b => Value.bool (!(b))) hb7) rfl) ?_
    refine o_end ?_
    refine za1 ?_
    refine zb2 rfl ?_
    refine c_seq ?_
    refine za0 ?_
    refine o_q rfl rfl (q_asg rfl) ?_
    refine o_q rfl rfl (q_asg rfl) ?_
    refine o_end ?_
    refine za1 ?_
    refine c_ret ?_
    refine zaa ?_
    have e0_ := Option.some.inj h; clear h
    have d0_ := (Prod.mk.inj e0_).1; have e1_ := (Prod.mk.inj e0_).2; clear e0_; subst d0_
    subst e1_
    exact x_r2 () Try.results27 (zai rfl) (zai rfl) rfl (fun w h => za7 [] (by decide) rfl w h)

/-! ### loop.example/g01098/laws.FnFoldsAndCollapses: function 10 -/
def laws_FnFoldsAndCollapses.l1 (i134 : Int) : (List (List Int)) → Int → Int → Option Int
  | [], i146, i147 => some i147
  | y148 :: ys149, i146, i147 => (gt y148 i134).bind fun y170 => laws_FnFoldsAndCollapses.l1 i134 ys149 (i146 + 1) (w64 (i147 + y170))
def laws_FnFoldsAndCollapses.l0 (i5 : Int) (l67 : List (List Int)) (l127 : List (List Int)) : Nat → Int → Option ((Bool) ⊕ (Unit))
  | 0, _ => none
  | k137 + 1, i134 => if i134 < i5 then ((laws_FnFoldsAndCollapses.l1 i134 l67 0 0).bind fun i147 => (gt l127 0).bind fun y160 => (gt y160 i134).bind fun y164 => if y164 ≠ i147 then (some (.inl false)) else (laws_FnFoldsAndCollapses.l0 i5 l67 l127 k137 (w64 (i134 + 1)))) else (some (.inr ()))
def laws_FnFoldsAndCollapses.l2 (l214 : List (List Int)) : (List (List Int)) → Int → Option ((Bool) ⊕ (Unit))
  | [], i221 => some (.inr ())
  | y222 :: ys223, i221 => (gt l214 i221).bind fun y236 => if (y236.length : Int) ≠ 1 then (some (.inl false)) else ((gt l214 i221).bind fun y240 => (gt y240 0).bind fun y244 => (laws_pSum.f y222).bind fun i246 => if y244 ≠ i246 then (some (.inl false)) else (laws_FnFoldsAndCollapses.l2 l214 ys223 (i221 + 1)))
def laws_FnFoldsAndCollapses.f (k : Nat) (l0 : List Int) (l1 : List Int) : Option Bool := (laws_big.f l0 l1).bind fun b2 => if b2 = true then (some true) else ((spec_DrawTurnedCost.f k l0).bind fun (i5, l6, l7) => (impl_FoldOutputs.f k i5 l6 l7).bind fun (i15, l16, l17, b18) => (spec_FoldOutputs.f k i5 l6 l7).bind fun (i26, l27, l28, b29) => (impl_CollapseInputs.f k i5 l6 l7).bind fun (i37, l38, l39, b40) => (spec_CollapseInputs.f k i5 l6 l7).bind fun (i48, l49, l50, b51) => if (b18 != b29) = true then (some false) else ((laws_pSamePlan.f i15 l16 l17 i26 l27 l28).bind fun b60 => if b60 = true then (if (b40 != b51) = true then (some false) else ((laws_pSamePlan.f i37 l38 l39 i48 l49 l50).bind fun b64 => if b64 = true then ((impl_OutputExponents.f k i5 l6 l7).bind fun (l67, b68) => if b68 = true then ((if b18 = true then ((impl_OutputExponents.f k i15 l16 l17).bind fun (l127, b128) => if b128 = true then (if (l127.length : Int) ≠ 1 then (some (.inl false)) else ((laws_FnFoldsAndCollapses.l0 i5 l67 l127 k 0).bind fun o_ => match o_ with | .inl r_ => some (.inl r_) | .inr _ => some (.inr ()))) else (some (.inl false))) else (some (.inr ())) : Option ((Bool) ⊕ (Unit))).bind fun o_ => match o_ with | .inl r_ => some r_ | .inr _ => (if b40 = true then ((impl_OutputExponents.f k i37 l38 l39).bind fun (l214, b215) => if b215 = true then (if (l214.length : Int) ≠ (l67.length : Int) then (some (.inl false)) else ((laws_FnFoldsAndCollapses.l2 l214 l67 0).bind fun o_ => match o_ with | .inl r_ => some (.inl r_) | .inr _ => some (.inr ()))) else (some (.inl false))) else (some (.inr ())) : Option ((Bool) ⊕ (Unit))).bind fun o_ => match o_ with | .inl r_ => some r_ | .inr _ => (impl_TurnPlan.f k i5 l6 l7).bind fun (i249, l250, l251, z252, b253) => (impl_CollapseInputs.f k i249 l250 (l251.take z252)).bind fun (i261, l262, l263, b264) => (impl_TurnPlan.f k i15 l16 l17).bind fun (i272, l273, l274, z275, b276) => if b253 = true then (if b264 = true then (if b276 = true then ((impl_SamePowers.f k i261 l262 l263 i272 l273 (l274.take z275)).bind fun (b287, b288) => if b288 = true then (some b287) else (some false)) else (some true)) else (some true)) else (some true)) else (if b18 = true then (some false) else (some (!b40)))) else (some false))) else (some false)))
set_option maxHeartbeats 600000 in
set_option maxRecDepth 100000 in
theorem laws_FnFoldsAndCollapses.calls (k : Nat) {w0 ws : World} {P0 : Nat → Prop} (A0 : Option Addr) (c0 : Nat) (n0 : Nat) (l0 : List Int) (A1 : Option Addr) (c1 : Nat) (n1 : Nat) (l1 : List Int) (Z : Below w0.heap.size w0 ws) (hF : Fr w0 ws P0 [] ws) (R0 : Stable ws P0 (fun w => Kd.C (Kd.int .u8) w A0 n0 l0)) (hc0 : n0 ≤ c0) (R1 : Stable ws P0 (fun w => Kd.C (Kd.int .u8) w A1 n1 l1)) (hc1 : n1 ≤ c1) (r_1 : Bool) (h : laws_FnFoldsAndCollapses.f k l0 l1 = some r_1) :
    Calls Try.prog 10 #[.slice A0 n0 c0, .slice A1 n1 c1] ws (Post1 w0 ws P0 (fun (_ : Unit) => .bool r_1) (fun (_ : Unit) => [])) := by
  unfold laws_FnFoldsAndCollapses.f at h
  obtain rfl := (R0 ws (KeptB.refl _ _)).1
  obtain rfl := (R1 ws (KeptB.refl _ _)).1
  refine enter Try.func10 rfl Try.ntmps10 rfl hF ?_
  refine c_seq ?_
  refine za0 ?_
  refine o_q rfl rfl (q_asg rfl) ?_
  refine o_end ?_
  refine za1 ?_
  refine c_seq ?_
  refine c_seq ?_
  refine za0 ?_
  refine o_q rfl rfl (za2 rfl) ?_
  refine o_q rfl rfl (za2 rfl) ?_
  refine za8 h (fun b2 hx1 h => ?_) rfl
  refine o_e rfl (zac 0 Z Try.func13 N13 rfl rfl rfl (fun w P1 hF hB hS hT => laws_big.calls A0 c0 l0.length l0 A1 c1 l1.length l1 hB hF (hS _ R0) hc0 (hS _ R1) hc1 _ hx1)) (fun _ => ?_)
  refine o_end ?_
  refine za1 ?_
  refine zar _ rfl (fun hb3 => ?_) (fun hb3 => ?_)
  · skip
    replace h := bb_t hb3 h
    refine c_seq ?_
    refine za0 ?_
    refine o_q rfl rfl (q_asg rfl) ?_
    refine o_end ?_
    refine za1 ?_
    refine c_ret ?_
    refine zaa ?_
    have e0_ := Option.some.inj h; clear h
    subst e0_
    exact x_r1 () Try.results10 (zai rfl) rfl (fun w h => za7 [] (by decide) rfl w h)
  · skip
    replace h := bb_f hb3 h
    refine zam ?_
    refine za1 ?_
    refine c_seq ?_
    refine za0 ?_
    refine o_q rfl rfl (za2 rfl) ?_
    refine bindE3 h (fun i5 l6 l7 hx4 h => ?_) rfl
    refine o_e rfl (zac 0 Z Try.func61 N61 rfl rfl rfl (fun w P1 hF hB hS hT => spec_DrawTurnedCost.calls k A0 c0 l0.length l0 hB hF (hS _ R0) hc0 _ _ _ hx4)) (cur4 (fun A8 c9 A10 c11 => ?_))
    refine o_e rfl (zav V27 rfl) (fun g12 => ?_)
    refine o_e rfl (zal (i := 0) rfl rfl rfl Z27 rfl rfl) (fun _ => ?_)
    refine o_end ?_
    refine za1 ?_
    refine c_seq ?_
    refine za0 ?_
    refine o_q rfl rfl (q_ldB G27 Z27 rfl (fun w h => h.zab (i := 0) rfl) rfl) ?_
    refine bindE4 h (fun i15 l16 l17 b18 hx14 h => ?_) rfl
    refine o_e rfl (zac 0 Z Try.func62 N62 rfl rfl rfl (fun w P1 hF hB hS hT => impl_FoldOutputs.calls k i5 A8 c9 l6.length l6 A10 c11 l7.length l7 hB hF (hT 1 _ rfl).row (hT 1 _ rfl).cap (hT 2 _ rfl).row (hT 2 _ rfl).cap _ _ _ _ hx14)) (cur4 (fun A19 c20 A21 c22 => ?_))
    refine o_q rfl rfl (za2 rfl) ?_
    refine o_q rfl rfl (q_ext rfl rfl) ?_
    refine o_q rfl rfl (q_ext rfl rfl) ?_
    refine o_e rfl (zav V27 rfl) (fun g23 => ?_)
    refine o_e rfl (zal (i := 0) rfl rfl rfl Z27 rfl rfl) (fun _ => ?_)
    refine o_q rfl rfl (q_asg rfl) ?_
    refine o_end ?_
    refine za1 ?_
    refine c_seq ?_
    refine za0 ?_
    refine o_q rfl rfl (q_ldB G27 Z27 rfl (fun w h => h.zab (i := 3) rfl) rfl) ?_
    refine bindE4 h (fun i26 l27 l28 b29 hx25 h => ?_) rfl
    refine o_e rfl (zac 0 Z Try.func63 N63 rfl rfl rfl (fun w P1 hF hB hS hT => spec_FoldOutputs.calls k i5 A8 c9 l6.length l6 A10 c11 l7.length l7 hB hF (hT 4 _ rfl).row (hT 4 _ rfl).cap (hT 5 _ rfl).row (hT 5 _ rfl).cap _ _ _ _ hx25)) (cur4 (fun A30 c31 A32 c33 => ?_))
    refine o_q rfl rfl (za2 rfl) ?_
    refine o_q rfl rfl (q_ext rfl rfl) ?_
    refine o_q rfl rfl (q_ext rfl rfl) ?_
    refine o_e rfl (zav V27 rfl) (fun g34 => ?_)
    refine o_e rfl (zal (i := 0) rfl rfl rfl Z27 rfl rfl) (fun _ => ?_)
    refine o_q rfl rfl (q_asg rfl) ?_
    refine o_end ?_
    refine za1 ?_
    refine c_seq ?_
    refine za0 ?_
    refine o_q rfl rfl (q_ldB G27 Z27 rfl (fun w h => h.zab (i := 6) rfl) rfl) ?_
    refine bindE4 h (fun i37 l38 l39 b40 hx36 h => ?_) rfl
    refine o_e rfl (zac 0 Z Try.func64 N64 rfl rfl rfl (fun w P1 hF hB hS hT => impl_CollapseInputs.calls k i5 A8 c9 l6.length l6 A10 c11 l7.length l7 hB hF (hT 7 _ rfl).row (hT 7 _ rfl).cap (hT 8 _ rfl).row (hT 8 _ rfl).cap _ _ _ _ hx36)) (cur4 (fun A41 c42 A43 c44 => ?_))
    refine o_q rfl rfl (za2 rfl) ?_
    refine o_q rfl rfl (q_ext rfl rfl) ?_
    refine o_q rfl rfl (q_ext rfl rfl) ?_
    refine o_e rfl (zav V27 rfl) (fun g45 => ?_)
    refine o_e rfl (zal (i := 0) rfl rfl rfl Z27 rfl rfl) (fun _ => ?_)
    refine o_q rfl rfl (q_asg rfl) ?_
    refine o_end ?_
    refine za1 ?_
    refine c_seq ?_
    refine za0 ?_
    refine o_q rfl rfl (q_ldB G27 Z27 rfl (fun w h => h.zab (i := 9) rfl) rfl) ?_
    refine bindE4 h (fun i48 l49 l50 b51 hx47 h => ?_) rfl
    refine o_e rfl (zac 0 Z Try.func65 N65 rfl rfl rfl (fun w P1 hF hB hS hT => spec_CollapseInputs.calls k i5 A8 c9 l6.length l6 A10 c11 l7.length l7 hB hF (hT 10 _ rfl).row (hT 10 _ rfl).cap (hT 11 _ rfl).row (hT 11 _ rfl).cap _ _ _ _ hx47)) (cur4 (fun A52 c53 A54 c55 => ?_))
    refine o_q rfl rfl (za2 rfl) ?_
    refine o_q rfl rfl (q_ext rfl rfl) ?_
    refine o_q rfl rfl (q_ext rfl rfl) ?_
    refine o_e rfl (zav V27 rfl) (fun g56 => ?_)
    refine o_e rfl (zal (i := 0) rfl rfl rfl Z27 rfl rfl) (fun _ => ?_)
    refine o_q rfl rfl (q_asg rfl) ?_
    refine o_end ?_
    refine za1 ?_
    refine c_seq ?_
    refine c_seq ?_
    refine za0 ?_
    refine o_q rfl rfl (za2 rfl) ?_
    refine o_q rfl rfl (za2 rfl) ?_
    refine o_q rfl rfl (q_bneq Try.underlying4 rfl rfl) ?_
    refine o_q rfl rfl (za2 rfl) ?_
    refine byB (b18 != b29) (fun hb58 => ?_) (fun hb58 => ?_)
    · replace h := bb_t hb58 h
      refine @o_n _ _ _ _ _ _ _ _ _ _ _ 63 (za3 rfl rfl rfl (congrArg Value.bool hb58) rfl) (Eq.refl (some 63)) ?_
      refine @o_n _ _ _ _ _ _ _ _ _ _ _ 64 (za3 rfl rfl rfl (congrArg Value.bool hb58) rfl) (Eq.refl (some 64)) ?_
      refine @o_n _ _ _ _ _ _ _ _ _ _ _ 65 (za3 rfl rfl rfl (congrArg Value.bool hb58) rfl) (Eq.refl (some 65)) ?_
      refine @o_n _ _ _ _ _ _ _ _ _ _ _ 66 (za3 rfl rfl rfl (congrArg Value.bool hb58) rfl) (Eq.refl (some 66)) ?_
      refine o_q rfl rfl (zas true (congrArg Value.bool hb58) rfl) ?_
      refine o_q rfl rfl (za2 rfl) ?_
      refine @o_n _ _ _ _ _ _ _ _ _ _ _ 69 (za3 rfl rfl rfl rfl rfl) (Eq.refl (some 69)) ?_
      refine @o_n _ _ _ _ _ _ _ _ _ _ _ 70 (za3 rfl rfl rfl rfl rfl) (Eq.refl (some 70)) ?_
      refine @o_n _ _ _ _ _ _ _ _ _ _ _ 71 (za3 rfl rfl rfl rfl rfl) (Eq.refl (some 71)) ?_
      refine o_q rfl rfl (zas true rfl rfl) ?_
      refine o_q rfl rfl (za2 rfl) ?_
      refine @o_n _ _ _ _ _ _ _ _ _ _ _ 74 (za3 rfl rfl rfl rfl rfl) (Eq.refl (some 74)) ?_
      refine @o_n _ _ _ _ _ _ _ _ _ _ _ 75 (za3 rfl rfl rfl rfl rfl) (Eq.refl (some 75)) ?_
      refine @o_n _ _ _ _ _ _ _ _ _ _ _ 76 (za3 rfl rfl rfl rfl rfl) (Eq.refl (some 76)) ?_
      refine @o_n _ _ _ _ _ _ _ _ _ _ _ 77 (za3 rfl rfl rfl rfl rfl) (Eq.refl (some 77)) ?_
      refine o_q rfl rfl (zas true rfl rfl) ?_
      refine o_end ?_
      refine za1 ?_
      refine zb2 rfl ?_
      refine c_seq ?_
      refine za0 ?_
      refine o_q rfl rfl (q_asg rfl) ?_
      refine o_end ?_
      refine za1 ?_
      refine c_ret ?_
      refine zaa ?_
      have e0_ := Option.some.inj h; clear h
      subst e0_
      exact x_r1 () Try.results10 (zai rfl) rfl (fun w h => za7 [] (by decide) rfl w h)
    · replace h := bb_f hb58 h
      refine o_w (za4 rfl rfl rfl (congrArg Value.bool hb58)) rfl (q_ldB G27 Z27 rfl (fun w h => h.zab (i := 9) rfl) rfl) ?_
      refine o_w (za4 rfl rfl rfl (congrArg Value.bool hb58)) rfl (q_ldB G27 Z27 rfl (fun w h => h.zab (i := 6) rfl) rfl) ?_
      refine za8 h (fun b60 hx59 h => ?_) rfl
      refine o_ew (za4 rfl rfl rfl (congrArg Value.bool hb58)) (zac 0 Z Try.func17 N17 rfl rfl rfl (fun w P1 hF hB hS hT => laws_pSamePlan.calls i15 A19 c20 l16.length l16 A21 c22 l17.length l17 i26 A30 c31 l27.length l27 A32 c33 l28.length l28 hB hF (hT 10 _ rfl).row (hT 10 _ rfl).cap (hT 11 _ rfl).row (hT 11 _ rfl).cap (hT 7 _ rfl).row (hT 7 _ rfl).cap (hT 8 _ rfl).row (hT 8 _ rfl).cap _ hx59)) (fun _ => ?_)
      refine o_w (za4 rfl rfl rfl (congrArg Value.bool hb58)) rfl (q_not rfl) ?_
      refine o_q rfl rfl (zas false (congrArg Value.bool hb58) rfl) ?_
      refine o_q rfl rfl (za2 rfl) ?_
      refine byB b60 (fun hb61 => ?_) (fun hb61 => ?_)
      · replace h := bb_t hb61 h
        refine o_w (za4 rfl rfl rfl (congrArg (fun b => Value.bool (!(b))) hb61)) rfl (za2 rfl) ?_
        refine o_w (za4 rfl rfl rfl (congrArg (fun b => Value.bool (!(b))) hb61)) rfl (za2 rfl) ?_
        refine o_w (za4 rfl rfl rfl (congrArg (fun b => Value.bool (!(b))) hb61)) rfl (q_bneq Try.underlying4 rfl rfl) ?_
        refine o_q rfl rfl (zas false (congrArg (fun b => Value.bool (!(b))) hb61) rfl) ?_
        refine o_q rfl rfl (za2 rfl) ?_
        refine byB (b40 != b51) (fun hb62 => ?_) (fun hb62 => ?_)
        · replace h := bb_t hb62 h
          refine @o_n _ _ _ _ _ _ _ _ _ _ _ 74 (za3 rfl rfl rfl (congrArg Value.bool hb62) rfl) (Eq.refl (some 74)) ?_
          refine @o_n _ _ _ _ _ _ _ _ _ _ _ 75 (za3 rfl rfl rfl (congrArg Value.bool hb62) rfl) (Eq.refl (some 75)) ?_
          refine @o_n _ _ _ _ _ _ _ _ _ _ _ 76 (za3 rfl rfl rfl (congrArg Value.bool hb62) rfl) (Eq.refl (some 76)) ?_
          refine @o_n _ _ _ _ _ _ _ _ _ _ _ 77 (za3 rfl rfl rfl (congrArg Value.bool hb62) rfl) (Eq.refl (some 77)) ?_
          refine o_q rfl rfl (zas true (congrArg Value.bool hb62) rfl) ?_
          refine o_end ?_
          refine za1 ?_
          refine zb2 rfl ?_
          refine c_seq ?_
          refine za0 ?_
          refine o_q rfl rfl (q_asg rfl) ?_
          refine o_end ?_
          refine za1 ?_
          refine c_ret ?_
          refine zaa ?_
          have e0_ := Option.some.inj h; clear h
          subst e0_
          exact x_r1 () Try.results10 (zai rfl) rfl (fun w h => za7 [] (by decide) rfl w h)
        · replace h := bb_f hb62 h
          refine o_w (za4 rfl rfl rfl (congrArg Value.bool hb62)) rfl (q_ldB G27 Z27 rfl (fun w h => h.zab (i := 3) rfl) rfl) ?_
          refine o_w (za4 rfl rfl rfl (congrArg Value.bool hb62)) rfl (q_ldB G27 Z27 rfl (fun w h => h.zab (i := 0) rfl) rfl) ?_
          refine za8 h (fun b64 hx63 h => ?_) rfl
          refine o_ew (za4 rfl rfl rfl (congrArg Value.bool hb62)) (zac 0 Z Try.func17 N17 rfl rfl rfl (fun w P1 hF hB hS hT => laws_pSamePlan.calls i37 A41 c42 l38.length l38 A43 c44 l39.length l39 i48 A52 c53 l49.length l49 A54 c55 l50.length l50 hB hF (hT 4 _ rfl).row (hT 4 _ rfl).cap (hT 5 _ rfl).row (hT 5 _ rfl).cap (hT 1 _ rfl).row (hT 1 _ rfl).cap (hT 2 _ rfl).row (hT 2 _ rfl).cap _ hx63)) (fun _ => ?_)
          refine o_w (za4 rfl rfl rfl (congrArg Value.bool hb62)) rfl (q_not rfl) ?_
          refine o_q rfl rfl (zas false (congrArg Value.bool hb62) rfl) ?_
          refine o_end ?_
          refine za1 ?_
          refine zar _ rfl (fun hb65 => ?_) (fun hb65 => ?_)
          · replace hb65 := nt_t hb65
            replace h := bb_f hb65 h
            refine c_seq ?_
            refine za0 ?_
            refine o_q rfl rfl (q_asg rfl) ?_
            refine o_end ?_
            refine za1 ?_
            refine c_ret ?_
            refine zaa ?_
            have e0_ := Option.some.inj h; clear h
            subst e0_
            exact x_r1 () Try.results10 (zai rfl) rfl (fun w h => za7 [] (by decide) rfl w h)
          · replace hb65 := nt_f hb65
            replace h := bb_t hb65 h
            refine zam ?_
            refine za1 ?_
            refine c_seq ?_
            refine za0 ?_
            refine o_q rfl rfl (q_ldB G27 Z27 rfl (fun w h => h.zab (i := 12) rfl) rfl) ?_
            refine bindE2 h (fun l67 b68 hx66 h => ?_) rfl
            refine o_e rfl (zac 0 Z Try.func52 N52 rfl rfl rfl (fun w P1 hF hB hS hT => impl_OutputExponents.calls k i5 A8 c9 l6.length l6 A10 c11 l7.length l7 hB hF (hT 13 _ rfl).row (hT 13 _ rfl).cap (hT 14 _ rfl).row (hT 14 _ rfl).cap _ _ hx66)) (cur3 (fun A69 c70 H71 => ?_))
            refine o_q rfl rfl (za2 rfl) ?_
            refine o_q rfl rfl (q_ext rfl rfl) ?_
            refine o_q rfl rfl (q_ext rfl rfl) ?_
            refine o_q rfl rfl (q_asg rfl) ?_
            refine o_q rfl rfl (q_asg rfl) ?_
            refine o_end ?_
            refine za1 ?_
            refine c_seq ?_
            refine c_seq ?_
            refine za0 ?_
            refine o_q rfl rfl (za2 rfl) ?_
            refine o_q rfl rfl (q_not rfl) ?_
            refine o_end ?_
            refine za1 ?_
            refine zar _ rfl (fun hb72 => ?_) (fun hb72 => ?_)
            · replace hb72 := nt_t hb72
              replace h := bb_f hb72 h
              refine c_seq ?_
              refine za0 ?_
              refine o_q rfl rfl (za2 rfl) ?_
              refine o_q rfl rfl (q_not rfl) ?_
              refine o_q rfl rfl (za2 rfl) ?_
              refine byB b18 (fun hb73 => ?_) (fun hb73 => ?_)
              · replace h := bb_t hb73 h
                refine @o_n _ _ _ _ _ _ _ _ _ _ _ 89 (za3 rfl rfl rfl (congrArg (fun b => Value.bool (!(b))) hb73) rfl) (Eq.refl (some 89)) ?_
                refine @o_n _ _ _ _ _ _ _ _ _ _ _ 90 (za3 rfl rfl rfl (congrArg (fun b => Value.bool (!(b))) hb73) rfl) (Eq.refl (some 90)) ?_
                refine o_q rfl rfl (zas false (congrArg (fun b => Value.bool (!(b))) hb73) rfl) ?_
                refine o_q rfl rfl (q_asg rfl) ?_
                refine o_end ?_
                refine za1 ?_
                refine c_ret ?_
                refine zaa ?_
                have e0_ := Option.some.inj h; clear h
                subst e0_
                exact x_r1 () Try.results10 (zai rfl) rfl (fun w h => za7 [] (by decide) rfl w h)
              · replace h := bb_f hb73 h
                refine o_w (za4 rfl rfl rfl (congrArg (fun b => Value.bool (!(b))) hb73)) rfl (za2 rfl) ?_
                refine o_w (za4 rfl rfl rfl (congrArg (fun b => Value.bool (!(b))) hb73)) rfl (q_not rfl) ?_
                refine o_q rfl rfl (zas true (congrArg (fun b => Value.bool (!(b))) hb73) rfl) ?_
                refine o_q rfl rfl (q_asg rfl) ?_
                refine o_end ?_
                refine za1 ?_
                refine c_ret ?_
                refine zaa ?_
                have e0_ := Option.some.inj h; clear h
                subst e0_
                exact x_r1 () Try.results10 (zai rfl) rfl (fun w h => za7 [] (by decide) rfl w h)
            · replace hb72 := nt_f hb72
              replace h := bb_t hb72 h
              refine zam ?_
              refine za1 ?_
              refine za8 h (fun o120 hl121 hR122 => ?_) rfl
              clear h
              refine c_cutJ (σ := Unit) (fun _ => some (.inr ()) = some o120) [4, 16, 17, 18, 19, 21, 92, 93, 94, 95, 96, 97, 98, 99, 100, 101, 102, 103, 104, 105, 106, 107, 108, 109, 110, 111, 112, 113, 114, 115, 116, 117, 118, 119, 120, 121, 122, 123, 124, 125, 126, 127, 128, 129, 130, 131] (fun _ => []) (fun _ => [box g12 27 #[.int .i64 i5, .slice A8 l6.length c9, .slice A10 l7.length c11], row kStep 89 (.slice A8 l6.length c9) l6, row (Kd.int .i64) 3 (.slice A10 l7.length c11) l7, box g23 27 #[.int .i64 i15, .slice A19 l16.length c20, .slice A21 l17.length c22], row kStep 89 (.slice A19 l16.length c20) l16, row (Kd.int .i64) 3 (.slice A21 l17.length c22) l17, box g45 27 #[.int .i64 i37, .slice A41 l38.length c42, .slice A43 l39.length c44], row kStep 89 (.slice A41 l38.length c42) l38, row (Kd.int .i64) 3 (.slice A43 l39.length c44) l39, row (gk 3 (Kd.int .i64)) 25 (.slice A69 l67.length c70) (zp H71 l67), box g56 27 #[.int .i64 i48, .slice A52 l49.length c53, .slice A54 l50.length c55], row kStep 89 (.slice A52 l49.length c53) l49, row (Kd.int .i64) 3 (.slice A54 l50.length c55) l50, box g34 27 #[.int .i64 i26, .slice A30 l27.length c31, .slice A32 l28.length c33], row kStep 89 (.slice A30 l27.length c31) l27, row (Kd.int .i64) 3 (.slice A32 l28.length c33) l28]) ?_ ?_
              · skip
                have h := hl121; clear hl121
                refine c_seq ?_
                refine za0 ?_
                refine o_q rfl rfl (za2 rfl) ?_
                refine o_end ?_
                refine za1 ?_
                refine zar _ rfl (fun hb125 => ?_) (fun hb125 => ?_)
                · skip
                  replace h := bb_t hb125 h
                  refine c_seq ?_
                  refine za0 ?_
                  refine o_q rfl rfl (q_ldB G27 Z27 rfl (fun w h => h.zab (i := 10) rfl) rfl) ?_
                  refine bindE2 h (fun l127 b128 hx126 h => ?_) rfl
                  refine o_e rfl (zac 0 Z Try.func52 N52 rfl rfl rfl (fun w P1 hF hB hS hT => impl_OutputExponents.calls k i15 A19 c20 l16.length l16 A21 c22 l17.length l17 hB hF (hT 11 _ rfl).row (hT 11 _ rfl).cap (hT 12 _ rfl).row (hT 12 _ rfl).cap _ _ hx126)) (cur3 (fun A129 c130 H131 => ?_))
                  refine o_q rfl rfl (za2 rfl) ?_
                  refine o_q rfl rfl (q_ext rfl rfl) ?_
                  refine o_q rfl rfl (q_ext rfl rfl) ?_
                  refine o_q rfl rfl (q_asg rfl) ?_
                  refine o_q rfl rfl (q_asg rfl) ?_
                  refine o_end ?_
                  refine za1 ?_
                  refine c_seq ?_
                  refine c_seq ?_
                  refine za0 ?_
                  refine o_q rfl rfl (za2 rfl) ?_
                  refine o_q rfl rfl (q_not rfl) ?_
                  refine o_q rfl rfl (za2 rfl) ?_
                  refine byB b128 (fun hb132 => ?_) (fun hb132 => ?_)
                  · replace h := bb_t hb132 h
                    refine o_w (za4 rfl rfl rfl (congrArg (fun b => Value.bool (!(b))) hb132)) rfl (za2 rfl) ?_
                    refine o_w (za4 rfl rfl rfl (congrArg (fun b => Value.bool (!(b))) hb132)) rfl (q_len Try.underlying60 rfl) ?_
                    refine o_w (za4 rfl rfl rfl (congrArg (fun b => Value.bool (!(b))) hb132)) rfl (q_neq rfl rfl) ?_
                    refine o_q rfl rfl (zas false (congrArg (fun b => Value.bool (!(b))) hb132) rfl) ?_
                    refine o_end ?_
                    refine za1 ?_
                    refine zar _ rfl (fun hb133 => ?_) (fun hb133 => ?_)
                    · skip
                      replace h := br_t hb133 h
                      refine c_seq ?_
                      refine za0 ?_
                      refine o_q rfl rfl (q_asg rfl) ?_
                      refine o_end ?_
                      refine za1 ?_
                      refine c_ret ?_
                      refine zaa ?_
                      refine zaa ?_
                      have e_ := Option.some.inj h; replace h := hR122; rw [← e_] at h; clear e_
                      have e0_ := Option.some.inj h; clear h
                      subst e0_
                      exact x_r1 () Try.results10 (zai rfl) rfl (fun w h => za7 [] (by decide) rfl w h)
                    · skip
                      replace h := br_f hb133 h
                      refine zam ?_
                      refine za1 ?_
                      refine c_seq ?_
                      refine za0 ?_
                      refine o_q rfl rfl (q_asg rfl) ?_
                      refine o_end ?_
                      refine za1 ?_
                      refine zaj ?_
                      refine za8 h (fun o142 hl141 hR140 => ?_) rfl
                      clear h
                      refine zax (σ := Int) (fun k137 (i134 : Int) => laws_FnFoldsAndCollapses.l0 i5 l67 l127 k137 i134 = some o142) [4, 18, 19, 21, 105, 106, 107, 108, 109, 110, 111, 112, 113, 114, 115, 116, 117, 118, 119, 120, 121, 122, 123, 124, 125, 126, 127, 128, 129, 130, 131] (fun (i134 : Int) => [(18, .int .i64 i134)]) (fun (i134 : Int) => [row (gk 3 (Kd.int .i64)) 25 (.slice A129 l127.length c130) (zp H131 l127), row (gk 3 (Kd.int .i64)) 25 (.slice A69 l67.length c70) (zp H71 l67), box g56 27 #[.int .i64 i48, .slice A52 l49.length c53, .slice A54 l50.length c55], row kStep 89 (.slice A52 l49.length c53) l49, row (Kd.int .i64) 3 (.slice A54 l50.length c55) l50, box g45 27 #[.int .i64 i37, .slice A41 l38.length c42, .slice A43 l39.length c44], row kStep 89 (.slice A41 l38.length c42) l38, row (Kd.int .i64) 3 (.slice A43 l39.length c44) l39, box g34 27 #[.int .i64 i26, .slice A30 l27.length c31, .slice A32 l28.length c33], row kStep 89 (.slice A30 l27.length c31) l27, row (Kd.int .i64) 3 (.slice A32 l28.length c33) l28, box g23 27 #[.int .i64 i15, .slice A19 l16.length c20, .slice A21 l17.length c22], row kStep 89 (.slice A19 l16.length c20) l16, row (Kd.int .i64) 3 (.slice A21 l17.length c22) l17, box g12 27 #[.int .i64 i5, .slice A8 l6.length c9, .slice A10 l7.length c11], row kStep 89 (.slice A8 l6.length c9) l6, row (Kd.int .i64) 3 (.slice A10 l7.length c11) l7]) k 0 hl141 ⟨rfl, trivial⟩ (fun w h => h) ?_
                      refine natC (fun i134 => fun U143 hJ_ => ?_) (fun k137 => (fun i134 => fun U143 hJ_ => ?_))
                      · skip
                        replace hJ_ : laws_FnFoldsAndCollapses.l0 i5 l67 l127 0 i134 = some o142 := hJ_
                        rw [laws_FnFoldsAndCollapses.l0] at hJ_
                        exact noneE hJ_
                      · skip
                        clear hl141
                        have h := hJ_; clear hJ_
                        replace h : laws_FnFoldsAndCollapses.l0 i5 l67 l127 (k137 + 1) i134 = some o142 := h
                        rw [laws_FnFoldsAndCollapses.l0] at h
                        refine c_seq ?_
                        refine c_seq ?_
                        refine za0 ?_
                        refine o_q rfl rfl (za2 rfl) ?_
                        refine o_q rfl rfl (q_f F27_0 rfl) ?_
                        refine o_q rfl rfl (q_ldb Y3 rfl (fun w h => h.zab (i := 14) rfl) rfl) ?_
                        refine o_q rfl rfl (q_lss rfl rfl) ?_
                        refine o_end ?_
                        refine za1 ?_
                        refine zar _ rfl (fun hb145 => ?_) (fun hb145 => ?_)
                        · skip
                          replace h := br_t hb145 h
                          refine zam ?_
                          refine za1 ?_
                          refine c_seq ?_
                          refine zaj ?_
                          refine c_seq ?_
                          refine za0 ?_
                          refine o_q rfl rfl (q_asg rfl) ?_
                          refine o_end ?_
                          refine za1 ?_
                          refine c_seq ?_
                          refine c_seq ?_
                          refine za0 ?_
                          refine o_q rfl rfl (za2 rfl) ?_
                          refine o_q rfl rfl (q_len Try.underlying60 rfl) ?_
                          refine o_q rfl rfl (za2 rfl) ?_
                          refine o_end ?_
                          refine za1 ?_
                          refine zaj ?_
                          refine za8 h (fun o155 hl154 hR153 => ?_) rfl
                          clear h
                          refine c_fact (p := l67.length ≤ 9223372036854775807) (fun w h => (h.zaq (i := 1) rfl).2.1) (fun hm152 => ?_)
                          refine zax (σ := (List (List Int)) × Int × Int) (fun k150 ((ys149, i146, i147) : (List (List Int)) × Int × Int) => Rg l67 i146 ys149 ∧ ys149.length = k150 ∧ laws_FnFoldsAndCollapses.l1 i134 ys149 i146 i147 = some o155) [19, 21, 113, 114, 115, 116, 117, 118, 119, 120, 121, 122, 123] (fun ((ys149, i146, i147) : (List (List Int)) × Int × Int) => [(19, .int .i64 i147), (113, .int .i64 i146)]) (fun ((ys149, i146, i147) : (List (List Int)) × Int × Int) => [row (gk 3 (Kd.int .i64)) 25 (.slice A129 l127.length c130) (zp H131 l127), row (gk 3 (Kd.int .i64)) 25 (.slice A69 l67.length c70) (zp H71 l67), box g56 27 #[.int .i64 i48, .slice A52 l49.length c53, .slice A54 l50.length c55], row kStep 89 (.slice A52 l49.length c53) l49, row (Kd.int .i64) 3 (.slice A54 l50.length c55) l50, box g45 27 #[.int .i64 i37, .slice A41 l38.length c42, .slice A43 l39.length c44], row kStep 89 (.slice A41 l38.length c42) l38, row (Kd.int .i64) 3 (.slice A43 l39.length c44) l39, box g34 27 #[.int .i64 i26, .slice A30 l27.length c31, .slice A32 l28.length c33], row kStep 89 (.slice A30 l27.length c31) l27, row (Kd.int .i64) 3 (.slice A32 l28.length c33) l28, box g23 27 #[.int .i64 i15, .slice A19 l16.length c20, .slice A21 l17.length c22], row kStep 89 (.slice A19 l16.length c20) l16, row (Kd.int .i64) 3 (.slice A21 l17.length c22) l17, box g12 27 #[.int .i64 i5, .slice A8 l6.length c9, .slice A10 l7.length c11], row kStep 89 (.slice A8 l6.length c9) l6, row (Kd.int .i64) 3 (.slice A10 l7.length c11) l7]) l67.length (l67, 0, 0) ⟨Rg.start _, rfl, hl154⟩ ⟨rfl, rfl, trivial⟩ (fun w h => h) ?_
                          refine fun k150 => cur3 (listC (fun i146 i147 U156 hJ_ => ?_) (fun y148 ys149 i146 i147 U156 hJ_ => ?_))
                          · skip
                            clear hl154
                            have hr151 := hJ_.1; have hk157 := hJ_.2.1; have h := hJ_.2.2; clear hJ_
                            replace h : laws_FnFoldsAndCollapses.l1 i134 [] i146 i147 = some o155 := h
                            rw [laws_FnFoldsAndCollapses.l1] at h
                            refine c_seq ?_
                            refine za0 ?_
                            refine o_q rfl rfl (q_lss rfl rfl) ?_
                            refine o_end ?_
                            refine za1 ?_
                            refine c_seq ?_
                            refine zb3 (congrArg Value.bool hr151.ge) ?_
                            refine zb6 ?_
                            refine za6 ?_
                            refine za6 ?_
                            have e_ := Option.some.inj h; replace h := hR153; rw [← e_] at h; clear e_
                            refine x_hit ?_
                            refine za1 ?_
                            refine c_seq ?_
                            refine za0 ?_
                            refine o_q rfl rfl (za2 rfl) ?_
                            refine zau (p := Sh A129 l127.length (zp H131 l127).length) (fun w h => f_sh (dk := (gk 3 (Kd.int .i64))) h (fun w h => h.zaq (i := 0) rfl)) (fun hq158 => ?_)
                            refine za8 h (fun y160 hg159 h => ?_) rfl
                            refine o_q rfl rfl (q_ix Try.underlying60 Z25 rfl rfl hq158 (gt_zp hg159)) ?_
                            refine zau (p := y160.length ≤ hC H131 (0 : Int)) (fun w h => (K_in (h.zaq (i := 0) rfl) hg159).1) (fun hc161 => ?_)
                            refine o_q rfl rfl (q_lde (off := 0) Y25 rfl rfl (fun w h => h.zaq (i := 0) rfl) (gt_zp hg159) (fun _ _ h => h.1) rfl) ?_
                            refine o_q rfl rfl (za2 rfl) ?_
                            refine zau (p := Sh (hA H131 (0 : Int)) y160.length y160.length) (fun w h => f_sh (dk := (Kd.int .i64)) h (fun w h => C_in (h.zaq (i := 0) rfl) hg159)) (fun hq162 => ?_)
                            refine za8 h (fun y164 hg163 h => ?_) rfl
                            refine o_q rfl rfl (q_ix Try.underlying25 Z3 rfl rfl hq162 hg163) ?_
                            refine o_q rfl rfl (q_lde (off := 0) Y3 rfl rfl (fun w h => C_in (h.zaq (i := 0) rfl) hg159) hg163 (fun _ _ h => h) rfl) ?_
                            refine o_q rfl rfl (za2 rfl) ?_
                            refine o_q rfl rfl (q_neq rfl rfl) ?_
                            refine o_end ?_
                            refine za1 ?_
                            refine zar _ rfl (fun hb165 => ?_) (fun hb165 => ?_)
                            · skip
                              replace h := br_t hb165 h
                              refine c_seq ?_
                              refine za0 ?_
                              refine o_q rfl rfl (q_asg rfl) ?_
                              refine o_end ?_
                              refine za1 ?_
                              refine c_ret ?_
                              refine zao ?_
                              refine zaa ?_
                              refine zaa ?_
                              have e_ := Option.some.inj h; replace h := hR140; rw [← e_] at h; clear e_
                              refine zao ?_
                              refine zaa ?_
                              have e_ := Option.some.inj h; replace h := hR122; rw [← e_] at h; clear e_
                              have e0_ := Option.some.inj h; clear h
                              subst e0_
                              exact x_r1 () Try.results10 (zai rfl) rfl (fun w h => za7 [] (by decide) rfl w h)
                            · skip
                              replace h := br_f hb165 h
                              refine zam ?_
                              refine zan ?_
                              refine za1 ?_
                              refine za0 ?_
                              refine o_q rfl rfl (za2 rfl) ?_
                              refine o_q rfl rfl (q_add64 rfl rfl) ?_
                              refine o_q rfl rfl (q_asg rfl) ?_
                              refine o_end ?_
                              refine zak k137 (w64 (i134 + 1)) (Nat.lt_succ_self _) h ⟨rfl, trivial⟩ (fun w h => za7 [0, 1, 2, 3, 4, 5, 6, 7, 8, 9, 10, 11, 12, 13, 14, 15, 16] (by decide) rfl w h) ?_
                              repeat (first | exact zad _ _ | refine zaf rfl ?_ | refine zae rfl ?_ | refine zah rfl ?_)
                          · skip
                            clear hl154
                            have hr151 := hJ_.1; have hk157 := hJ_.2.1; have h := hJ_.2.2; clear hJ_
                            replace h : laws_FnFoldsAndCollapses.l1 i134 (y148 :: ys149) i146 i147 = some o155 := h
                            rw [laws_FnFoldsAndCollapses.l1] at h
                            refine c_seq ?_
                            refine za0 ?_
                            refine o_q rfl rfl (q_lss rfl rfl) ?_
                            refine o_end ?_
                            refine za1 ?_
                            refine c_seq ?_
                            refine zb2 (congrArg Value.bool hr151.lt) ?_
                            refine zam ?_
                            refine za1 ?_
                            refine c_seq ?_
                            refine zaj ?_
                            refine c_seq ?_
                            refine za0 ?_
                            refine zau (p := Sh A69 l67.length (zp H71 l67).length) (fun w h => f_sh (dk := (gk 3 (Kd.int .i64))) h (fun w h => h.zaq (i := 1) rfl)) (fun hq166 => ?_)
                            refine o_q rfl rfl (q_ix Try.underlying60 Z25 rfl rfl hq166 (gt_zp hr151.get)) ?_
                            refine zau (p := y148.length ≤ hC H71 i146) (fun w h => (K_in (h.zaq (i := 1) rfl) hr151.get).1) (fun hc167 => ?_)
                            refine o_q rfl rfl (q_lde (off := 0) Y25 rfl rfl (fun w h => h.zaq (i := 1) rfl) (gt_zp hr151.get) (fun _ _ h => h.1) rfl) ?_
                            refine o_q rfl rfl (q_asg rfl) ?_
                            refine o_end ?_
                            refine za1 ?_
                            refine za0 ?_
                            refine o_q rfl rfl (za2 rfl) ?_
                            refine o_q rfl rfl (za2 rfl) ?_
                            refine o_q rfl rfl (za2 rfl) ?_
                            refine zau (p := Sh (hA H71 i146) y148.length y148.length) (fun w h => f_sh (dk := (Kd.int .i64)) h (fun w h => C_in (h.zaq (i := 1) rfl) hr151.get)) (fun hq168 => ?_)
                            refine za8 h (fun y170 hg169 h => ?_) rfl
                            refine o_q rfl rfl (q_ix Try.underlying25 Z3 rfl rfl hq168 hg169) ?_
                            refine o_q rfl rfl (q_lde (off := 0) Y3 rfl rfl (fun w h => C_in (h.zaq (i := 1) rfl) hr151.get) hg169 (fun _ _ h => h) rfl) ?_
                            refine o_q rfl rfl (q_add64 rfl rfl) ?_
                            refine o_q rfl rfl (q_asg rfl) ?_
                            refine o_end ?_
                            refine zan ?_
                            refine za1 ?_
                            refine za0 ?_
                            refine o_q rfl rfl (q_up rfl rfl (hr151.up hm152)) ?_
                            refine o_q rfl rfl (za2 rfl) ?_
                            refine o_end ?_
                            refine zak ys149.length (ys149, i146 + 1, w64 (i147 + y170)) (by rw [← hk157]; exact Nat.lt_succ_self _) ⟨hr151.step, rfl, h⟩ ⟨rfl, rfl, trivial⟩ (fun w h => za7 [0, 1, 2, 3, 4, 5, 6, 7, 8, 9, 10, 11, 12, 13, 14, 15, 16] (by decide) rfl w h) ?_
                            repeat (first | exact zad _ _ | refine zaf rfl ?_ | refine zae rfl ?_ | refine zah rfl ?_)
                        · skip
                          replace h := br_f hb145 h
                          refine zb6 ?_
                          refine za6 ?_
                          refine za6 ?_
                          have e_ := Option.some.inj h; replace h := hR140; rw [← e_] at h; clear e_
                          refine x_hit ?_
                          refine zb0 () h trivial (fun w h => za7 [14, 15, 16, 11, 12, 13, 5, 6, 7, 1, 2, 3, 4, 8, 9, 10] (by decide) rfl w h) ?_
                          repeat (first | exact zad _ _ | refine zaf rfl ?_ | refine zae rfl ?_ | refine zah rfl ?_)
                  · replace h := bb_f hb132 h
                    refine @o_n _ _ _ _ _ _ _ _ _ _ _ 101 (za3 rfl rfl rfl (congrArg (fun b => Value.bool (!(b))) hb132) rfl) (Eq.refl (some 101)) ?_
                    refine @o_n _ _ _ _ _ _ _ _ _ _ _ 102 (za3 rfl rfl rfl (congrArg (fun b => Value.bool (!(b))) hb132) rfl) (Eq.refl (some 102)) ?_
                    refine @o_n _ _ _ _ _ _ _ _ _ _ _ 103 (za3 rfl rfl rfl (congrArg (fun b => Value.bool (!(b))) hb132) rfl) (Eq.refl (some 103)) ?_
                    refine o_q rfl rfl (zas true (congrArg (fun b => Value.bool (!(b))) hb132) rfl) ?_
                    refine o_end ?_
                    refine za1 ?_
                    refine zb2 rfl ?_
                    refine c_seq ?_
                    refine za0 ?_
                    refine o_q rfl rfl (q_asg rfl) ?_
                    refine o_end ?_
                    refine za1 ?_
                    refine c_ret ?_
                    refine zaa ?_
                    refine zaa ?_
                    have e_ := Option.some.inj h; replace h := hR122; rw [← e_] at h; clear e_
                    have e0_ := Option.some.inj h; clear h
                    subst e0_
                    exact x_r1 () Try.results10 (zai rfl) rfl (fun w h => za7 [] (by decide) rfl w h)
                · skip
                  replace h := bb_f hb125 h
                  refine zam ?_
                  refine zb0 () h trivial (fun w h => za7 [13, 14, 15, 10, 11, 12, 4, 5, 6, 0, 1, 2, 3, 7, 8, 9] (by decide) rfl w h) ?_
                  repeat (first | exact zad _ _ | refine zaf rfl ?_ | refine zae rfl ?_ | refine zah rfl ?_)
              · skip
                refine (fun _ => fun U123 hJ124 => ?_)
                have e_ := Option.some.inj hJ124; have h := hR122; rw [← e_] at h; clear e_ hJ124 hR122 hl121
                refine za8 h (fun o207 hl208 hR209 => ?_) rfl
                clear h
                refine c_cutJ (σ := Unit) (fun _ => some (.inr ()) = some o207) [4, 22, 23, 24, 25, 132, 133, 134, 135, 136, 137, 138, 139, 140, 141, 142, 143, 144, 145, 146, 147, 148, 149, 150, 151, 152, 153, 154, 155, 156, 157, 158, 159, 160, 161, 162, 163, 164, 165, 166, 167, 168, 169, 170, 171] (fun _ => []) (fun _ => [box g12 27 #[.int .i64 i5, .slice A8 l6.length c9, .slice A10 l7.length c11], row kStep 89 (.slice A8 l6.length c9) l6, row (Kd.int .i64) 3 (.slice A10 l7.length c11) l7, box g23 27 #[.int .i64 i15, .slice A19 l16.length c20, .slice A21 l17.length c22], row kStep 89 (.slice A19 l16.length c20) l16, row (Kd.int .i64) 3 (.slice A21 l17.length c22) l17, box g45 27 #[.int .i64 i37, .slice A41 l38.length c42, .slice A43 l39.length c44], row kStep 89 (.slice A41 l38.length c42) l38, row (Kd.int .i64) 3 (.slice A43 l39.length c44) l39, row (gk 3 (Kd.int .i64)) 25 (.slice A69 l67.length c70) (zp H71 l67), box g56 27 #[.int .i64 i48, .slice A52 l49.length c53, .slice A54 l50.length c55], row kStep 89 (.slice A52 l49.length c53) l49, row (Kd.int .i64) 3 (.slice A54 l50.length c55) l50, box g34 27 #[.int .i64 i26, .slice A30 l27.length c31, .slice A32 l28.length c33], row kStep 89 (.slice A30 l27.length c31) l27, row (Kd.int .i64) 3 (.slice A32 l28.length c33) l28]) ?_ ?_
                · skip
                  have h := hl208; clear hl208
                  refine c_seq ?_
                  refine za0 ?_
                  refine o_q rfl rfl (za2 rfl) ?_
                  refine o_end ?_
                  refine za1 ?_
                  refine zar _ rfl (fun hb212 => ?_) (fun hb212 => ?_)
                  · skip
                    replace h := bb_t hb212 h
                    refine c_seq ?_
                    refine za0 ?_
                    refine o_q rfl rfl (q_ldB G27 Z27 rfl (fun w h => h.zab (i := 6) rfl) rfl) ?_
                    refine bindE2 h (fun l214 b215 hx213 h => ?_) rfl
                    refine o_e rfl (zac 0 Z Try.func52 N52 rfl rfl rfl (fun w P1 hF hB hS hT => impl_OutputExponents.calls k i37 A41 c42 l38.length l38 A43 c44 l39.length l39 hB hF (hT 7 _ rfl).row (hT 7 _ rfl).cap (hT 8 _ rfl).row (hT 8 _ rfl).cap _ _ hx213)) (cur3 (fun A216 c217 H218 => ?_))
                    refine o_q rfl rfl (za2 rfl) ?_
                    refine o_q rfl rfl (q_ext rfl rfl) ?_
                    refine o_q rfl rfl (q_ext rfl rfl) ?_
                    refine o_q rfl rfl (q_asg rfl) ?_
                    refine o_q rfl rfl (q_asg rfl) ?_
                    refine o_end ?_
                    refine za1 ?_
                    refine c_seq ?_
                    refine c_seq ?_
                    refine za0 ?_
                    refine o_q rfl rfl (za2 rfl) ?_
                    refine o_q rfl rfl (q_not rfl) ?_
                    refine o_q rfl rfl (za2 rfl) ?_
                    refine byB b215 (fun hb219 => ?_) (fun hb219 => ?_)
                    · replace h := bb_t hb219 h
                      refine o_w (za4 rfl rfl rfl (congrArg (fun b => Value.bool (!(b))) hb219)) rfl (za2 rfl) ?_
                      refine o_w (za4 rfl rfl rfl (congrArg (fun b => Value.bool (!(b))) hb219)) rfl (q_len Try.underlying60 rfl) ?_
                      refine o_w (za4 rfl rfl rfl (congrArg (fun b => Value.bool (!(b))) hb219)) rfl (za2 rfl) ?_
                      refine o_w (za4 rfl rfl rfl (congrArg (fun b => Value.bool (!(b))) hb219)) rfl (q_len Try.underlying60 rfl) ?_
                      refine o_w (za4 rfl rfl rfl (congrArg (fun b => Value.bool (!(b))) hb219)) rfl (q_neq rfl rfl) ?_
                      refine o_q rfl rfl (zas false (congrArg (fun b => Value.bool (!(b))) hb219) rfl) ?_
                      refine o_end ?_
                      refine za1 ?_
                      refine zar _ rfl (fun hb220 => ?_) (fun hb220 => ?_)
                      · skip
                        replace h := br_t hb220 h
                        refine c_seq ?_
                        refine za0 ?_
                        refine o_q rfl rfl (q_asg rfl) ?_
                        refine o_end ?_
                        refine za1 ?_
                        refine c_ret ?_
                        refine zaa ?_
                        refine zaa ?_
                        have e_ := Option.some.inj h; replace h := hR209; rw [← e_] at h; clear e_
                        have e0_ := Option.some.inj h; clear h
                        subst e0_
                        exact x_r1 () Try.results10 (zai rfl) rfl (fun w h => za7 [] (by decide) rfl w h)
                      · skip
                        replace h := br_f hb220 h
                        refine zam ?_
                        refine za1 ?_
                        refine c_seq ?_
                        refine za0 ?_
                        refine o_q rfl rfl (za2 rfl) ?_
                        refine o_q rfl rfl (q_len Try.underlying60 rfl) ?_
                        refine o_q rfl rfl (za2 rfl) ?_
                        refine o_end ?_
                        refine za1 ?_
                        refine zaj ?_
                        refine za8 h (fun o229 hl228 hR227 => ?_) rfl
                        clear h
                        refine c_fact (p := l67.length ≤ 9223372036854775807) (fun w h => (h.zaq (i := 10) rfl).2.1) (fun hm226 => ?_)
                        refine zax (σ := (List (List Int)) × Int) (fun k224 ((ys223, i221) : (List (List Int)) × Int) => Rg l67 i221 ys223 ∧ ys223.length = k224 ∧ laws_FnFoldsAndCollapses.l2 l214 ys223 i221 = some o229) [4, 24, 25, 149, 150, 151, 152, 153, 154, 155, 156, 157, 158, 159, 160, 161, 162, 163, 164, 165, 166, 167, 168, 169, 170, 171] (fun ((ys223, i221) : (List (List Int)) × Int) => [(149, .int .i64 i221)]) (fun ((ys223, i221) : (List (List Int)) × Int) => [row (gk 3 (Kd.int .i64)) 25 (.slice A216 l214.length c217) (zp H218 l214), box g12 27 #[.int .i64 i5, .slice A8 l6.length c9, .slice A10 l7.length c11], row kStep 89 (.slice A8 l6.length c9) l6, row (Kd.int .i64) 3 (.slice A10 l7.length c11) l7, box g23 27 #[.int .i64 i15, .slice A19 l16.length c20, .slice A21 l17.length c22], row kStep 89 (.slice A19 l16.length c20) l16, row (Kd.int .i64) 3 (.slice A21 l17.length c22) l17, box g45 27 #[.int .i64 i37, .slice A41 l38.length c42, .slice A43 l39.length c44], row kStep 89 (.slice A41 l38.length c42) l38, row (Kd.int .i64) 3 (.slice A43 l39.length c44) l39, row (gk 3 (Kd.int .i64)) 25 (.slice A69 l67.length c70) (zp H71 l67), box g56 27 #[.int .i64 i48, .slice A52 l49.length c53, .slice A54 l50.length c55], row kStep 89 (.slice A52 l49.length c53) l49, row (Kd.int .i64) 3 (.slice A54 l50.length c55) l50, box g34 27 #[.int .i64 i26, .slice A30 l27.length c31, .slice A32 l28.length c33], row kStep 89 (.slice A30 l27.length c31) l27, row (Kd.int .i64) 3 (.slice A32 l28.length c33) l28]) l67.length (l67, 0) ⟨Rg.start _, rfl, hl228⟩ ⟨rfl, trivial⟩ (fun w h => h) ?_
                        refine fun k224 => cur2 (listC (fun i221 U230 hJ_ => ?_) (fun y222 ys223 i221 U230 hJ_ => ?_))
                        · skip
                          clear hl228
                          have hr225 := hJ_.1; have hk231 := hJ_.2.1; have h := hJ_.2.2; clear hJ_
                          replace h : laws_FnFoldsAndCollapses.l2 l214 [] i221 = some o229 := h
                          rw [laws_FnFoldsAndCollapses.l2] at h
                          refine c_seq ?_
                          refine za0 ?_
                          refine o_q rfl rfl (q_lss rfl rfl) ?_
                          refine o_end ?_
                          refine za1 ?_
                          refine c_seq ?_
                          refine zb3 (congrArg Value.bool hr225.ge) ?_
                          refine zb6 ?_
                          refine za6 ?_
                          refine za6 ?_
                          have e_ := Option.some.inj h; replace h := hR227; rw [← e_] at h; clear e_
                          refine x_hit ?_
                          refine zb0 () h trivial (fun w h => za7 [1, 2, 3, 4, 5, 6, 7, 8, 9, 10, 11, 12, 13, 14, 15, 16] (by decide) rfl w h) ?_
                          repeat (first | exact zad _ _ | refine zaf rfl ?_ | refine zae rfl ?_ | refine zah rfl ?_)
                        · skip
                          clear hl228
                          have hr225 := hJ_.1; have hk231 := hJ_.2.1; have h := hJ_.2.2; clear hJ_
                          replace h : laws_FnFoldsAndCollapses.l2 l214 (y222 :: ys223) i221 = some o229 := h
                          rw [laws_FnFoldsAndCollapses.l2] at h
                          refine c_seq ?_
                          refine za0 ?_
                          refine o_q rfl rfl (q_lss rfl rfl) ?_
                          refine o_end ?_
                          refine za1 ?_
                          refine c_seq ?_
                          refine zb2 (congrArg Value.bool hr225.lt) ?_
                          refine zam ?_
                          refine za1 ?_
                          refine c_seq ?_
                          refine zaj ?_
                          refine c_seq ?_
                          refine za0 ?_
                          refine o_q rfl rfl (za2 rfl) ?_
                          refine zau (p := Sh A69 l67.length (zp H71 l67).length) (fun w h => f_sh (dk := (gk 3 (Kd.int .i64))) h (fun w h => h.zaq (i := 10) rfl)) (fun hq232 => ?_)
                          refine o_q rfl rfl (q_ix Try.underlying60 Z25 rfl rfl hq232 (gt_zp hr225.get)) ?_
                          refine zau (p := y222.length ≤ hC H71 i221) (fun w h => (K_in (h.zaq (i := 10) rfl) hr225.get).1) (fun hc233 => ?_)
                          refine o_q rfl rfl (q_lde (off := 0) Y25 rfl rfl (fun w h => h.zaq (i := 10) rfl) (gt_zp hr225.get) (fun _ _ h => h.1) rfl) ?_
                          refine o_q rfl rfl (q_asg rfl) ?_
                          refine o_q rfl rfl (q_asg rfl) ?_
                          refine o_end ?_
                          refine za1 ?_
                          refine c_seq ?_
                          refine a_start (ds := []) MO rfl ?_
                          refine za5 0 rfl rfl rfl (by kernel_rfl) (fun _ _ _ h => h) (za2 rfl) ?_
                          refine za5 1 rfl rfl rfl (by kernel_rfl) (fun _ _ _ h => h) (za2 rfl) ?_
                          refine a_fact (p := Sh A216 l214.length (zp H218 l214).length) (fun w h => f_sh (dk := (gk 3 (Kd.int .i64))) h (fun w h => h.zaq (i := 0) rfl)) (fun hq234 => ?_)
                          refine za8 h (fun y236 hg235 h => ?_) rfl
                          refine za5 2 rfl rfl rfl (by kernel_rfl) (fun _ _ _ h => h) (q_ix Try.underlying60 Z25 rfl rfl hq234 (gt_zp hg235)) ?_
                          refine a_fact (p := y236.length ≤ hC H218 i221) (fun w h => (K_in (h.zaq (i := 0) rfl) hg235).1) (fun hc237 => ?_)
                          refine zay 3 rfl rfl rfl (by kernel_rfl) (fun _ _ _ h => h) (fun w h => h) (q_lde (off := 0) Y25 rfl rfl (fun w h => h.zaq (i := 0) rfl) (gt_zp hg235) (fun _ _ h => h.1) rfl) ?_
                          refine za5 4 rfl rfl rfl (by kernel_rfl) (fun _ _ _ h => h) (q_len Try.underlying25 rfl) ?_
                          refine za5 5 rfl rfl rfl (by kernel_rfl) (fun _ _ _ h => h) (q_neq rfl rfl) ?_
                          refine za5 6 rfl rfl rfl (by kernel_rfl) (fun _ _ _ h => h) (za2 rfl) ?_
                          refine byB (decide ((y236.length : Int) ≠ 1)) (fun hb238 => ?_) (fun hb238 => ?_)
                          · replace h := br_t hb238 h
                            refine a_no 7 rfl rfl (za3 rfl rfl rfl (congrArg Value.bool hb238) rfl) (by kernel_rfl) (fun _ _ _ h => h) ?_
                            refine a_no 8 rfl rfl (za3 rfl rfl rfl (congrArg Value.bool hb238) rfl) (by kernel_rfl) (fun _ _ _ h => h) ?_
                            refine a_no 9 rfl rfl (za3 rfl rfl rfl (congrArg Value.bool hb238) rfl) (by kernel_rfl) (fun _ _ _ h => h) ?_
                            refine a_no 10 rfl rfl (za3 rfl rfl rfl (congrArg Value.bool hb238) rfl) (by kernel_rfl) (fun _ _ _ h => h) ?_
                            refine a_no 11 rfl rfl (za3 rfl rfl rfl (congrArg Value.bool hb238) rfl) (by kernel_rfl) (fun _ _ _ h => h) ?_
                            refine a_no 12 rfl rfl (za3 rfl rfl rfl (congrArg Value.bool hb238) rfl) (by kernel_rfl) (fun _ _ _ h => h) ?_
                            refine a_no 13 rfl rfl (za3 rfl rfl rfl (congrArg Value.bool hb238) rfl) (by kernel_rfl) (fun _ _ _ h => h) ?_
                            refine a_no 14 rfl rfl (za3 rfl rfl rfl (congrArg Value.bool hb238) rfl) (by kernel_rfl) (fun _ _ _ h => h) ?_
                            refine a_no 15 rfl rfl (za3 rfl rfl rfl (congrArg Value.bool hb238) rfl) (by kernel_rfl) (fun _ _ _ h => h) ?_
                            refine za5 16 rfl rfl rfl (by kernel_rfl) (fun _ _ _ h => h) (zas true (congrArg Value.bool hb238) rfl) ?_
                            refine zaz (by kernel_rfl) ?_
                            refine za1 ?_
                            refine zb2 rfl ?_
                            refine c_seq ?_
                            refine za0 ?_
                            refine o_q rfl rfl (q_asg rfl) ?_
                            refine o_end ?_
                            refine za1 ?_
                            refine c_ret ?_
                            refine zao ?_
                            refine zaa ?_
                            refine zaa ?_
                            have e_ := Option.some.inj h; replace h := hR227; rw [← e_] at h; clear e_
                            refine zao ?_
                            refine zaa ?_
                            have e_ := Option.some.inj h; replace h := hR209; rw [← e_] at h; clear e_
                            have e0_ := Option.some.inj h; clear h
                            subst e0_
                            exact x_r1 () Try.results10 (zai rfl) rfl (fun w h => za7 [] (by decide) rfl w h)
                          · replace h := br_f hb238 h
                            refine a_purew 7 rfl rfl (za4 rfl rfl rfl (congrArg Value.bool hb238)) (by kernel_rfl) (fun _ _ _ h => h) (za2 rfl) ?_
                            refine a_purew 8 rfl rfl (za4 rfl rfl rfl (congrArg Value.bool hb238)) (by kernel_rfl) (fun _ _ _ h => h) (za2 rfl) ?_
                            refine za8 h (fun y240 hg239 h => ?_) rfl
                            refine a_purew 9 rfl rfl (za4 rfl rfl rfl (congrArg Value.bool hb238)) (by kernel_rfl) (fun _ _ _ h => h) (q_ix Try.underlying60 Z25 rfl rfl hq234 (gt_zp hg239)) ?_
                            refine a_fact (p := y240.length ≤ hC H218 i221) (fun w h => (K_in (h.zaq (i := 0) rfl) hg239).1) (fun hc241 => ?_)
                            refine a_takew 10 rfl rfl (za4 rfl rfl rfl (congrArg Value.bool hb238)) (by kernel_rfl) (fun _ _ _ h => h) (fun w h => h) (q_lde (off := 0) Y25 rfl rfl (fun w h => h.zaq (i := 0) rfl) (gt_zp hg239) (fun _ _ h => h.1) rfl) ?_
                            refine a_fact (p := Sh (hA H218 i221) y240.length y240.length) (fun w h => f_sh (dk := (Kd.int .i64)) h (fun w h => C_in (h.zaq (i := 0) rfl) hg239)) (fun hq242 => ?_)
                            refine za8 h (fun y244 hg243 h => ?_) rfl
                            refine a_purew 11 rfl rfl (za4 rfl rfl rfl (congrArg Value.bool hb238)) (by kernel_rfl) (fun _ _ _ h => h) (q_ix Try.underlying25 Z3 rfl rfl hq242 hg243) ?_
                            refine a_takew 12 rfl rfl (za4 rfl rfl rfl (congrArg Value.bool hb238)) (by kernel_rfl) (fun _ _ _ h => h) (fun w h => h) (q_lde (off := 0) Y3 rfl rfl (fun w h => C_in (h.zaq (i := 0) rfl) hg239) hg243 (fun _ _ h => h) rfl) ?_
                            refine a_purew 13 rfl rfl (za4 rfl rfl rfl (congrArg Value.bool hb238)) (by kernel_rfl) (fun _ _ _ h => h) (za2 rfl) ?_
                            refine za8 h (fun i246 hx245 h => ?_) rfl
                            refine a_onew 14 rfl (za4 rfl rfl rfl (congrArg Value.bool hb238)) (by kernel_rfl) rfl (zac 0 Z Try.func66 N66 rfl rfl rfl (fun w P1 hF hB hS hT => laws_pSum.calls (hA H71 i221) (hC H71 i221) y222.length y222 hB hF (stab_in (hT 10 _ rfl).row hr225.get) hc233 _ hx245)) (fun s w h => h) (fun _ => ?_)
                            refine a_purew 15 rfl rfl (za4 rfl rfl rfl (congrArg Value.bool hb238)) (by kernel_rfl) (fun _ _ _ h => h) (q_neq rfl rfl) ?_
                            refine za5 16 rfl rfl rfl (by kernel_rfl) (fun _ _ _ h => h) (zas false (congrArg Value.bool hb238) rfl) ?_
                            refine zaz (by kernel_rfl) ?_
                            refine za1 ?_
                            refine zar _ rfl (fun hb247 => ?_) (fun hb247 => ?_)
                            · skip
                              replace h := br_t hb247 h
                              refine c_seq ?_
                              refine za0 ?_
                              refine o_q rfl rfl (q_asg rfl) ?_
                              refine o_end ?_
                              refine za1 ?_
                              refine c_ret ?_
                              refine zao ?_
                              refine zaa ?_
                              refine zaa ?_
                              have e_ := Option.some.inj h; replace h := hR227; rw [← e_] at h; clear e_
                              refine zao ?_
                              refine zaa ?_
                              have e_ := Option.some.inj h; replace h := hR209; rw [← e_] at h; clear e_
                              have e0_ := Option.some.inj h; clear h
                              subst e0_
                              exact x_r1 () Try.results10 (zai rfl) rfl (fun w h => za7 [] (by decide) rfl w h)
                            · skip
                              replace h := br_f hb247 h
                              refine zam ?_
                              refine zan ?_
                              refine za1 ?_
                              refine za0 ?_
                              refine o_q rfl rfl (q_up rfl rfl (hr225.up hm226)) ?_
                              refine o_q rfl rfl (za2 rfl) ?_
                              refine o_end ?_
                              refine zak ys223.length (ys223, i221 + 1) (by rw [← hk231]; exact Nat.lt_succ_self _) ⟨hr225.step, rfl, h⟩ ⟨rfl, trivial⟩ (fun w h => za7 [0, 1, 2, 3, 4, 5, 6, 7, 8, 9, 10, 11, 12, 13, 14, 15, 16] (by decide) rfl w h) ?_
                              repeat (first | exact zad _ _ | refine zaf rfl ?_ | refine zae rfl ?_ | refine zah rfl ?_)
                    · replace h := bb_f hb219 h
                      refine @o_n _ _ _ _ _ _ _ _ _ _ _ 141 (za3 rfl rfl rfl (congrArg (fun b => Value.bool (!(b))) hb219) rfl) (Eq.refl (some 141)) ?_
                      refine @o_n _ _ _ _ _ _ _ _ _ _ _ 142 (za3 rfl rfl rfl (congrArg (fun b => Value.bool (!(b))) hb219) rfl) (Eq.refl (some 142)) ?_
                      refine @o_n _ _ _ _ _ _ _ _ _ _ _ 143 (za3 rfl rfl rfl (congrArg (fun b => Value.bool (!(b))) hb219) rfl) (Eq.refl (some 143)) ?_
                      refine @o_n _ _ _ _ _ _ _ _ _ _ _ 144 (za3 rfl rfl rfl (congrArg (fun b => Value.bool (!(b))) hb219) rfl) (Eq.refl (some 144)) ?_
                      refine @o_n _ _ _ _ _ _ _ _ _ _ _ 145 (za3 rfl rfl rfl (congrArg (fun b => Value.bool (!(b))) hb219) rfl) (Eq.refl (some 145)) ?_
                      refine o_q rfl rfl (zas true (congrArg (fun b => Value.bool (!(b))) hb219) rfl) ?_
                      refine o_end ?_
                      refine za1 ?_
                      refine zb2 rfl ?_
                      refine c_seq ?_
                      refine za0 ?_
                      refine o_q rfl rfl (q_asg rfl) ?_
                      refine o_end ?_
                      refine za1 ?_
                      refine c_ret ?_
                      refine zaa ?_
                      refine zaa ?_
                      have e_ := Option.some.inj h; replace h := hR209; rw [← e_] at h; clear e_
                      have e0_ := Option.some.inj h; clear h
                      subst e0_
                      exact x_r1 () Try.results10 (zai rfl) rfl (fun w h => za7 [] (by decide) rfl w h)
                  · skip
                    replace h := bb_f hb212 h
                    refine zam ?_
                    refine zb0 () h trivial (fun w h => za7 [0, 1, 2, 3, 4, 5, 6, 7, 8, 9, 10, 11, 12, 13, 14, 15] (by decide) rfl w h) ?_
                    repeat (first | exact zad _ _ | refine zaf rfl ?_ | refine zae rfl ?_ | refine zah rfl ?_)
                · skip
                  refine (fun _ => fun U210 hJ211 => ?_)
                  have e_ := Option.some.inj hJ211; have h := hR209; rw [← e_] at h; clear e_ hJ211 hR209 hl208
                  refine c_seq ?_
                  refine za0 ?_
                  refine o_q rfl rfl (q_ldB G27 Z27 rfl (fun w h => h.zab (i := 0) rfl) rfl) ?_
                  refine bindE5 h (fun i249 l250 l251 z252 b253 hx248 h => ?_) rfl
                  refine o_e rfl (zac 0 Z Try.func67 N67 rfl rfl rfl (fun w P1 hF hB hS hT => impl_TurnPlan.calls k i5 A8 c9 l6.length l6 A10 c11 l7.length l7 hB hF (hT 1 _ rfl).row (hT 1 _ rfl).cap (hT 2 _ rfl).row (hT 2 _ rfl).cap _ _ _ _ _ hx248)) (cur4 (fun A254 c255 A256 c257 => ?_))
                  refine o_q rfl rfl (za2 rfl) ?_
                  refine o_q rfl rfl (q_ext rfl rfl) ?_
                  refine o_q rfl rfl (q_ext rfl rfl) ?_
                  refine o_e rfl (zav V27 rfl) (fun g258 => ?_)
                  refine o_e rfl (zal (i := 0) rfl rfl rfl Z27 rfl rfl) (fun _ => ?_)
                  refine o_q rfl rfl (q_asg rfl) ?_
                  refine o_end ?_
                  refine za1 ?_
                  refine c_seq ?_
                  refine za0 ?_
                  refine o_q rfl rfl (q_ldB G27 Z27 rfl (fun w h => h.zab (i := 0) rfl) rfl) ?_
                  refine bindE4 h (fun i261 l262 l263 b264 hx260 h => ?_) rfl
                  refine o_e rfl (zac 0 Z Try.func64 N64 rfl rfl rfl (fun w P1 hF hB hS hT => impl_CollapseInputs.calls k i249 A254 c255 l250.length l250 A256 (tl z252 l251.length) (tl z252 l251.length) (l251.take z252) hB hF (hT 1 _ rfl).row (hT 1 _ rfl).cap (stab_tk z252 (hT 2 _ rfl).row) (Nat.le_refl _) _ _ _ _ hx260)) (cur4 (fun A265 c266 A267 c268 => ?_))
                  refine o_q rfl rfl (za2 rfl) ?_
                  refine o_q rfl rfl (q_ext rfl rfl) ?_
                  refine o_q rfl rfl (q_ext rfl rfl) ?_
                  refine o_e rfl (zav V27 rfl) (fun g269 => ?_)
                  refine o_e rfl (zal (i := 0) rfl rfl rfl Z27 rfl rfl) (fun _ => ?_)
                  refine o_q rfl rfl (q_asg rfl) ?_
                  refine o_end ?_
                  refine za1 ?_
                  refine c_seq ?_
                  refine za0 ?_
                  refine o_q rfl rfl (q_ldB G27 Z27 rfl (fun w h => h.zab (i := 9) rfl) rfl) ?_
                  refine bindE5 h (fun i272 l273 l274 z275 b276 hx271 h => ?_) rfl
                  refine o_e rfl (zac 0 Z Try.func67 N67 rfl rfl rfl (fun w P1 hF hB hS hT => impl_TurnPlan.calls k i15 A19 c20 l16.length l16 A21 c22 l17.length l17 hB hF (hT 10 _ rfl).row (hT 10 _ rfl).cap (hT 11 _ rfl).row (hT 11 _ rfl).cap _ _ _ _ _ hx271)) (cur4 (fun A277 c278 A279 c280 => ?_))
                  refine o_q rfl rfl (za2 rfl) ?_
                  refine o_q rfl rfl (q_ext rfl rfl) ?_
                  refine o_q rfl rfl (q_ext rfl rfl) ?_
                  refine o_e rfl (zav V27 rfl) (fun g281 => ?_)
                  refine o_e rfl (zal (i := 0) rfl rfl rfl Z27 rfl rfl) (fun _ => ?_)
                  refine o_q rfl rfl (q_asg rfl) ?_
                  refine o_end ?_
                  refine za1 ?_
                  refine c_seq ?_
                  refine c_seq ?_
                  refine za0 ?_
                  refine o_q rfl rfl (za2 rfl) ?_
                  refine o_q rfl rfl (q_not rfl) ?_
                  refine o_q rfl rfl (za2 rfl) ?_
                  refine byB b253 (fun hb283 => ?_) (fun hb283 => ?_)
                  · replace h := bb_t hb283 h
                    refine o_w (za4 rfl rfl rfl (congrArg (fun b => Value.bool (!(b))) hb283)) rfl (za2 rfl) ?_
                    refine o_w (za4 rfl rfl rfl (congrArg (fun b => Value.bool (!(b))) hb283)) rfl (q_not rfl) ?_
                    refine o_q rfl rfl (zas false (congrArg (fun b => Value.bool (!(b))) hb283) rfl) ?_
                    refine o_q rfl rfl (za2 rfl) ?_
                    refine byB b264 (fun hb284 => ?_) (fun hb284 => ?_)
                    · replace h := bb_t hb284 h
                      refine o_w (za4 rfl rfl rfl (congrArg (fun b => Value.bool (!(b))) hb284)) rfl (za2 rfl) ?_
                      refine o_w (za4 rfl rfl rfl (congrArg (fun b => Value.bool (!(b))) hb284)) rfl (q_not rfl) ?_
                      refine o_q rfl rfl (zas false (congrArg (fun b => Value.bool (!(b))) hb284) rfl) ?_
                      refine o_end ?_
                      refine za1 ?_
                      refine zar _ rfl (fun hb285 => ?_) (fun hb285 => ?_)
                      · replace hb285 := nt_t hb285
                        replace h := bb_f hb285 h
                        refine c_seq ?_
                        refine za0 ?_
                        refine o_q rfl rfl (q_asg rfl) ?_
                        refine o_end ?_
                        refine za1 ?_
                        refine c_ret ?_
                        refine zaa ?_
                        have e0_ := Option.some.inj h; clear h
                        subst e0_
                        exact x_r1 () Try.results10 (zai rfl) rfl (fun w h => za7 [] (by decide) rfl w h)
                      · replace hb285 := nt_f hb285
                        replace h := bb_t hb285 h
                        refine zam ?_
                        refine za1 ?_
                        refine c_seq ?_
                        refine za0 ?_
                        refine o_q rfl rfl (q_ldB G27 Z27 rfl (fun w h => h.zab (i := 3) rfl) rfl) ?_
                        refine o_q rfl rfl (q_ldB G27 Z27 rfl (fun w h => h.zab (i := 0) rfl) rfl) ?_
                        refine bindE2 h (fun b287 b288 hx286 h => ?_) rfl
                        refine o_e rfl (zac 0 Z Try.func27 N27 rfl rfl rfl (fun w P1 hF hB hS hT => impl_SamePowers.calls k i261 A265 c266 l262.length l262 A267 c268 l263.length l263 i272 A277 c278 l273.length l273 A279 (tl z275 l274.length) (tl z275 l274.length) (l274.take z275) hB hF (hT 4 _ rfl).row (hT 4 _ rfl).cap (hT 5 _ rfl).row (hT 5 _ rfl).cap (hT 1 _ rfl).row (hT 1 _ rfl).cap (stab_tk z275 (hT 2 _ rfl).row) (Nat.le_refl _) _ _ hx286)) (fun _ => ?_)
                        refine o_q rfl rfl (za2 rfl) ?_
                        refine o_q rfl rfl (q_ext rfl rfl) ?_
                        refine o_q rfl rfl (q_ext rfl rfl) ?_
                        refine o_q rfl rfl (q_asg rfl) ?_
                        refine o_q rfl rfl (q_asg rfl) ?_
                        refine o_end ?_
                        refine za1 ?_
                        refine c_seq ?_
                        refine za0 ?_
                        refine o_q rfl rfl (za2 rfl) ?_
                        refine o_q rfl rfl (za2 rfl) ?_
                        refine byB b288 (fun hb289 => ?_) (fun hb289 => ?_)
                        · replace h := bb_t hb289 h
                          refine o_w (za4 rfl rfl rfl (congrArg Value.bool hb289)) rfl (za2 rfl) ?_
                          refine o_q rfl rfl (zas true (congrArg Value.bool hb289) rfl) ?_
                          refine o_q rfl rfl (q_asg rfl) ?_
                          refine o_end ?_
                          refine za1 ?_
                          refine c_ret ?_
                          have e0_ := Option.some.inj h; clear h
                          subst e0_
                          exact x_r1 () Try.results10 (zai rfl) rfl (fun w h => za7 [] (by decide) rfl w h)
                        · replace h := bb_f hb289 h
                          refine @o_n _ _ _ _ _ _ _ _ _ _ _ 205 (za3 rfl rfl rfl (congrArg Value.bool hb289) rfl) (Eq.refl (some 205)) ?_
                          refine o_q rfl rfl (zas false (congrArg Value.bool hb289) rfl) ?_
                          refine o_q rfl rfl (q_asg rfl) ?_
                          refine o_end ?_
                          refine za1 ?_
                          refine c_ret ?_
                          have e0_ := Option.some.inj h; clear h
                          subst e0_
                          exact x_r1 () Try.results10 (zai rfl) rfl (fun w h => za7 [] (by decide) rfl w h)
                    · replace h := bb_f hb284 h
                      refine @o_n _ _ _ _ _ _ _ _ _ _ _ 194 (za3 rfl rfl rfl (congrArg (fun b => Value.bool (!(b))) hb284) rfl) (Eq.refl (some 194)) ?_
                      refine @o_n _ _ _ _ _ _ _ _ _ _ _ 195 (za3 rfl rfl rfl (congrArg (fun b => Value.bool (!(b))) hb284) rfl) (Eq.refl (some 195)) ?_
                      refine o_q rfl rfl (zas true (congrArg (fun b => Value.bool (!(b))) hb284) rfl) ?_
                      refine o_end ?_
                      refine za1 ?_
                      refine zb2 rfl ?_
                      refine c_seq ?_
                      refine za0 ?_
                      refine o_q rfl rfl (q_asg rfl) ?_
                      refine o_end ?_
                      refine za1 ?_
                      refine c_ret ?_
                      refine zaa ?_
                      have e0_ := Option.some.inj h; clear h
                      subst e0_
                      exact x_r1 () Try.results10 (zai rfl) rfl (fun w h => za7 [] (by decide) rfl w h)
                  · replace h := bb_f hb283 h
                    refine @o_n _ _ _ _ _ _ _ _ _ _ _ 190 (za3 rfl rfl rfl (congrArg (fun b => Value.bool (!(b))) hb283) rfl) (Eq.refl (some 190)) ?_
                    refine @o_n _ _ _ _ _ _ _ _ _ _ _ 191 (za3 rfl rfl rfl (congrArg (fun b => Value.bool (!(b))) hb283) rfl) (Eq.refl (some 191)) ?_
                    refine o_q rfl rfl (zas true (congrArg (fun b => Value.bool (!(b))) hb283) rfl) ?_
                    refine o_q rfl rfl (za2 rfl) ?_
                    refine @o_n _ _ _ _ _ _ _ _ _ _ _ 194 (za3 rfl rfl rfl rfl rfl) (Eq.refl (some 194)) ?_
                    refine @o_n _ _ _ _ _ _ _ _ _ _ _ 195 (za3 rfl rfl rfl rfl rfl) (Eq.refl (some 195)) ?_
                    refine o_q rfl rfl (zas true rfl rfl) ?_
                    refine o_end ?_
                    refine za1 ?_
                    refine zb2 rfl ?_
                    refine c_seq ?_
                    refine za0 ?_
                    refine o_q rfl rfl (q_asg rfl) ?_
                    refine o_end ?_
                    refine za1 ?_
                    refine c_ret ?_
                    refine zaa ?_
                    have e0_ := Option.some.inj h; clear h
                    subst e0_
                    exact x_r1 () Try.results10 (zai rfl) rfl (fun w h => za7 [] (by decide) rfl w h)
      · replace h := bb_f hb61 h
        refine @o_n _ _ _ _ _ _ _ _ _ _ _ 69 (za3 rfl rfl rfl (congrArg (fun b => Value.bool (!(b))) hb61) rfl) (Eq.refl (some 69)) ?_
        refine @o_n _ _ _ _ _ _ _ _ _ _ _ 70 (za3 rfl rfl rfl (congrArg (fun b => Value.bool (!(b))) hb61) rfl) (Eq.refl (some 70)) ?_
        refine @o_n _ _ _ _ _ _ _ _ _ _ _ 71 (za3 rfl rfl rfl (congrArg (fun b => Value.bool (!(b))) hb61) rfl) (Eq.refl (some 71)) ?_
        refine o_q rfl rfl (zas true (congrArg (fun b => Value.bool (!(b))) hb61) rfl) ?_
        refine o_q rfl rfl (za2 rfl) ?_
        refine @o_n _ _ _ _ _ _ _ _ _ _ _ 74 (za3 rfl rfl rfl rfl rfl) (Eq.refl (some 74)) ?_
        refine @o_n _ _ _ _ _ _ _ _ _ _ _ 75 (za3 rfl rfl rfl rfl rfl) (Eq.refl (some 75)) ?_
        refine @o_n _ _ _ _ _ _ _ _ _ _ _ 76 (za3 rfl rfl rfl rfl rfl) (Eq.refl (some 76)) ?_
        refine @o_n _ _ _ _ _ _ _ _ _ _ _ 77 (za3 rfl rfl rfl rfl rfl) (Eq.refl (some 77)) ?_
        refine o_q rfl rfl (zas true rfl rfl) ?_
        refine o_end ?_
        refine za1 ?_
        refine zb2 rfl ?_
        refine c_seq ?_
        refine za0 ?_
        refine o_q rfl rfl (q_asg rfl) ?_
        refine o_end ?_
        refine za1 ?_
        refine c_ret ?_
        refine zaa ?_
        have e0_ := Option.some.inj h; clear h
        subst e0_
        exact x_r1 () Try.results10 (zai rfl) rfl (fun w h => za7 [] (by decide) rfl w h)

/-- THE ONE PURE STATEMENT of laws_FnFoldsAndCollapses. -/
def laws_FnFoldsAndCollapses.Pure : Prop := ∀ (l0 : List Int) (l1 : List Int), l0.length ≤ maxLen → (∀ y ∈ l0, (Lit.int .u8 y).wf = true) → l1.length ≤ maxLen → (∀ y ∈ l1, (Lit.int .u8 y).wf = true) → ∃ k, laws_FnFoldsAndCollapses.f k l0 l1 = some true
theorem laws_FnFoldsAndCollapses.walk (P : laws_FnFoldsAndCollapses.Pure) (A0 : Option Addr) (c0 : Nat) (l0 : List Int) (A1 : Option Addr) (c1 : Nat) (l1 : List Int) (w : World) (hr0 : Kd.C (Kd.int .u8) w A0 l0.length l0) (hc0 : l0.length ≤ c0) (hr1 : Kd.C (Kd.int .u8) w A1 l1.length l1) (hc1 : l1.length ≤ c1) (q0 : l0.length ≤ maxLen) (q1 : (∀ y ∈ l0, (Lit.int .u8 y).wf = true)) (q2 : l1.length ≤ maxLen) (q3 : (∀ y ∈ l1, (Lit.int .u8 y).wf = true)) :
    Calls Try.prog 10 #[.slice A0 l0.length c0, .slice A1 l1.length c1] w fun e w' => e = .returned (.bool true) ∧ Below w.heap.size w w' := by
  obtain ⟨k, h⟩ := P l0 l1 q0 q1 q2 q3
  refine (laws_FnFoldsAndCollapses.calls k A0 c0 l0.length l0 A1 c1 l1.length l1 (Below.refl _ _) (Fr.start w) (fun W hW => Kd.C_below hr0 hW.below) hc0 (fun W hW => Kd.C_below hr1 hW.below) hc1 true h).mono ?_
  rintro e w' ⟨s, rfl, hF⟩
  exact ⟨rfl, hF.bel⟩
end Go.Proofs.Ytoegbcbdiggbjaa.FC
