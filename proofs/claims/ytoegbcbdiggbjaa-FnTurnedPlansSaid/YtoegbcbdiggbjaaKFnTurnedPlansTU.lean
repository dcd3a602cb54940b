import Derived.Test.YtoegbcbdiggbjaaKFnTurnedPlansTUp4
namespace Go.Proofs.Ytoegbcbdiggbjaa.TU
open Go.RowKit Go.Proofs.Ytoegbcbdiggbjaa.Frame Go.Proofs.YtoegbcbdiggbjaaW.PrintLast Go.Proofs.Ytoegbcbdiggbjaa.Hand
open Go.Proofs.YtoegbcbdiggbjaaW.PrintWords hiding mn mx
set_option linter.unusedVariables false
/-! ### loop.example/g01098/laws.FnTurnedPlans: function 11 -/
def laws_FnTurnedPlans.f (k : Nat) (l0 : List Int) (l1 : List Int) : Option Bool := (laws_big.f l0 l1).bind fun b2 => if b2 = true then (some true) else ((spec_DrawTurnPlan.f k l0).bind fun (i5, l6, l7) => (impl_TurnPlan.f k i5 l6 l7).bind fun (i15, l16, l17, z18, b19) => (spec_TurnPlan.f k i5 l6 l7).bind fun (i27, l28, l29, b30) => if (b19 != b30) = true then (some false) else ((laws_pSamePlan.f i15 l16 (l17.take z18) i27 l28 l29).bind fun b39 => if b39 = true then ((impl_CanTurn.f k i5 l6 l7).bind fun (b42, b43) => (impl_TurnedCost.f k i5 l6 l7).bind fun (i45, b46) => (if b43 = true then (some (!b42)) else (some true)).bind fun b48 => if b48 = true then (if b19 = true then (some false) else (some (!b46))) else (if b46 = true then (if i45 ≠ w64 (w64 ((l6.length : Int) + (l7.length : Int)) - i5) then (some false) else (if (b19 != decide (i45 ≤ 40)) = true then (some false) else (if b19 = true then ((impl_OutputExponents.f k i5 l6 l7).bind fun (l62, b63) => (impl_OutputExponents.f k i15 l16 (l17.take z18)).bind fun (l68, b69) => (impl_TransposeRows.f l62).bind fun (l74, b75) => (impl_TurnPlan.f k i15 l16 (l17.take z18)).bind fun (i80, l81, l82, z83, b84) => (impl_SamePowers.f k i80 l81 (l82.take z83) i5 l6 l7).bind fun (b92, b93) => if b63 = true then (if b69 = true then (if b75 = true then (if b84 = true then (if b93 = true then (if (l16.length : Int) = i45 then ((laws_pSameRows.f l68 l74).bind fun b101 => if b101 = true then (if b92 = true then (some (decide ((l81.length : Int) = (l6.length : Int)))) else (some false)) else (some false)) else (some false)) else (some false)) else (some false)) else (some false)) else (some false)) else (some false)) else (some true)))) else (some false))) else (some false)))
set_option maxHeartbeats 600000 in
set_option maxRecDepth 100000 in
theorem laws_FnTurnedPlans.calls (k : Nat) {w0 ws : World} {P0 : Nat → Prop} (A0 : Option Addr) (c0 : Nat) (n0 : Nat) (l0 : List Int) (A1 : Option Addr) (c1 : Nat) (n1 : Nat) (l1 : List Int) (Z : Below w0.heap.size w0 ws) (hF : Fr w0 ws P0 [] ws) (R0 : Stable ws P0 (fun w => Kd.C (Kd.int .u8) w A0 n0 l0)) (hc0 : n0 ≤ c0) (R1 : Stable ws P0 (fun w => Kd.C (Kd.int .u8) w A1 n1 l1)) (hc1 : n1 ≤ c1) (r_1 : Bool) (h : laws_FnTurnedPlans.f k l0 l1 = some r_1) :
    Calls Try.prog 11 #[.slice A0 n0 c0, .slice A1 n1 c1] ws (Post1 w0 ws P0 (fun (_ : Unit) => .bool r_1) (fun (_ : Unit) => [])) := by
  unfold laws_FnTurnedPlans.f at h
  obtain rfl := (R0 ws (KeptB.refl _ _)).1
  obtain rfl := (R1 ws (KeptB.refl _ _)).1
  refine enter Try.func11 rfl Try.ntmps11 rfl hF ?_
  refine c_seq ?_
  refine za0 ?_
  refine o_q rfl rfl (q_asg rfl) ?_
  refine o_end ?_
  refine za1 ?_
  refine c_seq ?_
  refine c_seq ?_
  refine za0 ?_
  refine o_q rfl rfl (za2 rfl) ?_
  refine o_q rfl rfl (za2 rfl) ?_
  refine za7 h (fun b2 hx1 h => ?_) rfl
  refine o_e rfl (zac 0 Z Try.func13 N13 rfl rfl rfl (fun w P1 hF hB hS hT => laws_big.calls A0 c0 l0.length l0 A1 c1 l1.length l1 hB hF (hS _ R0) hc0 (hS _ R1) hc1 _ hx1)) (fun _ => ?_)
  refine o_end ?_
  refine za1 ?_
  refine zar _ rfl (fun hb3 => ?_) (fun hb3 => ?_)
  · skip
    replace h := bb_t hb3 h
    refine c_seq ?_
    refine za0 ?_
    refine o_q rfl rfl (q_asg rfl) ?_
    refine o_end ?_
    refine za1 ?_
    refine c_ret ?_
    refine za9 ?_
    have e0_ := Option.some.inj h; clear h
    subst e0_
    exact x_r1 () Try.results11 (zaf rfl) rfl (fun w h => za5 [] (by decide) rfl w h)
  · skip
    replace h := bb_f hb3 h
    refine zam ?_
    refine za1 ?_
    refine c_seq ?_
    refine za0 ?_
    refine o_q rfl rfl (za2 rfl) ?_
    refine bindE3 h (fun i5 l6 l7 hx4 h => ?_) rfl
    refine o_e rfl (zac 0 Z Try.func68 N68 rfl rfl rfl (fun w P1 hF hB hS hT => spec_DrawTurnPlan.calls k A0 c0 l0.length l0 hB hF (hS _ R0) hc0 _ _ _ hx4)) (cur4 (fun A8 c9 A10 c11 => ?_))
    refine o_e rfl (zaz V27 rfl) (fun g12 => ?_)
    refine o_e rfl (zaq (i := 0) rfl rfl rfl Z27 rfl rfl) (fun _ => ?_)
    refine o_end ?_
    refine za1 ?_
    refine c_seq ?_
    refine za0 ?_
    refine o_q rfl rfl (q_ldB G27 Z27 rfl (fun w h => h.zaa (i := 0) rfl) rfl) ?_
    refine bindE5 h (fun i15 l16 l17 z18 b19 hx14 h => ?_) rfl
    refine o_e rfl (zac 0 Z Try.func67 N67 rfl rfl rfl (fun w P1 hF hB hS hT => impl_TurnPlan.calls k i5 A8 c9 l6.length l6 A10 c11 l7.length l7 hB hF (hT 1 _ rfl).row (hT 1 _ rfl).cap (hT 2 _ rfl).row (hT 2 _ rfl).cap _ _ _ _ _ hx14)) (cur4 (fun A20 c21 A22 c23 => ?_))
    refine o_q rfl rfl (za2 rfl) ?_
    refine o_q rfl rfl (q_ext rfl rfl) ?_
    refine o_q rfl rfl (q_ext rfl rfl) ?_
    refine o_e rfl (zaz V27 rfl) (fun g24 => ?_)
    refine o_e rfl (zaq (i := 0) rfl rfl rfl Z27 rfl rfl) (fun _ => ?_)
    refine o_q rfl rfl (q_asg rfl) ?_
    refine o_end ?_
    refine za1 ?_
    refine c_seq ?_
    refine za0 ?_
    refine o_q rfl rfl (q_ldB G27 Z27 rfl (fun w h => h.zaa (i := 3) rfl) rfl) ?_
    refine bindE4 h (fun i27 l28 l29 b30 hx26 h => ?_) rfl
    refine o_e rfl (zac 0 Z Try.func69 N69 rfl rfl rfl (fun w P1 hF hB hS hT => spec_TurnPlan.calls k i5 A8 c9 l6.length l6 A10 c11 l7.length l7 hB hF (hT 4 _ rfl).row (hT 4 _ rfl).cap (hT 5 _ rfl).row (hT 5 _ rfl).cap _ _ _ _ hx26)) (cur4 (fun A31 c32 A33 c34 => ?_))
    refine o_q rfl rfl (za2 rfl) ?_
    refine o_q rfl rfl (q_ext rfl rfl) ?_
    refine o_q rfl rfl (q_ext rfl rfl) ?_
    refine o_e rfl (zaz V27 rfl) (fun g35 => ?_)
    refine o_e rfl (zaq (i := 0) rfl rfl rfl Z27 rfl rfl) (fun _ => ?_)
    refine o_q rfl rfl (q_asg rfl) ?_
    refine o_end ?_
    refine za1 ?_
    refine c_seq ?_
    refine c_seq ?_
    refine za0 ?_
    refine o_q rfl rfl (za2 rfl) ?_
    refine o_q rfl rfl (za2 rfl) ?_
    refine o_q rfl rfl (q_bneq Try.underlying4 rfl rfl) ?_
    refine o_q rfl rfl (za2 rfl) ?_
    refine byB (b19 != b30) (fun hb37 => ?_) (fun hb37 => ?_)
    · replace h := bb_t hb37 h
      refine @o_n _ _ _ _ _ _ _ _ _ _ _ 43 (za3 rfl rfl rfl (congrArg Value.bool hb37) rfl) (Eq.refl (some 43)) ?_
      refine @o_n _ _ _ _ _ _ _ _ _ _ _ 44 (za3 rfl rfl rfl (congrArg Value.bool hb37) rfl) (Eq.refl (some 44)) ?_
      refine @o_n _ _ _ _ _ _ _ _ _ _ _ 45 (za3 rfl rfl rfl (congrArg Value.bool hb37) rfl) (Eq.refl (some 45)) ?_
      refine @o_n _ _ _ _ _ _ _ _ _ _ _ 46 (za3 rfl rfl rfl (congrArg Value.bool hb37) rfl) (Eq.refl (some 46)) ?_
      refine o_q rfl rfl (zal true (congrArg Value.bool hb37) rfl) ?_
      refine o_end ?_
      refine za1 ?_
      refine zb3 rfl ?_
      refine c_seq ?_
      refine za0 ?_
      refine o_q rfl rfl (q_asg rfl) ?_
      refine o_end ?_
      refine za1 ?_
      refine c_ret ?_
      refine za9 ?_
      have e0_ := Option.some.inj h; clear h
      subst e0_
      exact x_r1 () Try.results11 (zaf rfl) rfl (fun w h => za5 [] (by decide) rfl w h)
    · replace h := bb_f hb37 h
      refine o_w (za4 rfl rfl rfl (congrArg Value.bool hb37)) rfl (q_ldB G27 Z27 rfl (fun w h => h.zaa (i := 3) rfl) rfl) ?_
      refine o_w (za4 rfl rfl rfl (congrArg Value.bool hb37)) rfl (q_ldB G27 Z27 rfl (fun w h => h.zaa (i := 0) rfl) rfl) ?_
      refine za7 h (fun b39 hx38 h => ?_) rfl
      refine o_ew (za4 rfl rfl rfl (congrArg Value.bool hb37)) (zac 0 Z Try.func17 N17 rfl rfl rfl (fun w P1 hF hB hS hT => laws_pSamePlan.calls i15 A20 c21 l16.length l16 A22 (tl z18 l17.length) (tl z18 l17.length) (l17.take z18) i27 A31 c32 l28.length l28 A33 c34 l29.length l29 hB hF (hT 4 _ rfl).row (hT 4 _ rfl).cap (stab_tk z18 (hT 5 _ rfl).row) (Nat.le_refl _) (hT 1 _ rfl).row (hT 1 _ rfl).cap (hT 2 _ rfl).row (hT 2 _ rfl).cap _ hx38)) (fun _ => ?_)
      refine o_w (za4 rfl rfl rfl (congrArg Value.bool hb37)) rfl (q_not rfl) ?_
      refine o_q rfl rfl (zal false (congrArg Value.bool hb37) rfl) ?_
      refine o_end ?_
      refine za1 ?_
      refine zar _ rfl (fun hb40 => ?_) (fun hb40 => ?_)
      · replace hb40 := nt_t hb40
        replace h := bb_f hb40 h
        refine c_seq ?_
        refine za0 ?_
        refine o_q rfl rfl (q_asg rfl) ?_
        refine o_end ?_
        refine za1 ?_
        refine c_ret ?_
        refine za9 ?_
        have e0_ := Option.some.inj h; clear h
        subst e0_
        exact x_r1 () Try.results11 (zaf rfl) rfl (fun w h => za5 [] (by decide) rfl w h)
      · replace hb40 := nt_f hb40
        replace h := bb_t hb40 h
        refine zam ?_
        refine za1 ?_
        refine c_seq ?_
        refine za0 ?_
        refine o_q rfl rfl (q_ldB G27 Z27 rfl (fun w h => h.zaa (i := 6) rfl) rfl) ?_
        refine bindE2 h (fun b42 b43 hx41 h => ?_) rfl
        refine o_e rfl (zac 0 Z Try.func70 N70 rfl rfl rfl (fun w P1 hF hB hS hT => impl_CanTurn.calls k i5 A8 c9 l6.length l6 A10 c11 l7.length l7 hB hF (hT 7 _ rfl).row (hT 7 _ rfl).cap (hT 8 _ rfl).row (hT 8 _ rfl).cap _ _ hx41)) (fun _ => ?_)
        refine o_q rfl rfl (za2 rfl) ?_
        refine o_q rfl rfl (q_ext rfl rfl) ?_
        refine o_q rfl rfl (q_ext rfl rfl) ?_
        refine o_q rfl rfl (q_asg rfl) ?_
        refine o_q rfl rfl (q_asg rfl) ?_
        refine o_end ?_
        refine za1 ?_
        refine c_seq ?_
        refine za0 ?_
        refine o_q rfl rfl (q_ldB G27 Z27 rfl (fun w h => h.zaa (i := 6) rfl) rfl) ?_
        refine bindE2 h (fun i45 b46 hx44 h => ?_) rfl
        refine o_e rfl (zac 0 Z Try.func71 N71 rfl rfl rfl (fun w P1 hF hB hS hT => impl_TurnedCost.calls k i5 A8 c9 l6.length l6 A10 c11 l7.length l7 hB hF (hT 7 _ rfl).row (hT 7 _ rfl).cap (hT 8 _ rfl).row (hT 8 _ rfl).cap _ _ hx44)) (fun _ => ?_)
        refine o_q rfl rfl (za2 rfl) ?_
        refine o_q rfl rfl (q_ext rfl rfl) ?_
        refine o_q rfl rfl (q_ext rfl rfl) ?_
        refine o_q rfl rfl (q_asg rfl) ?_
        refine o_q rfl rfl (q_asg rfl) ?_
        refine o_end ?_
        refine za1 ?_
        refine c_seq ?_
        refine za7 h (fun o49 hl50 hR51 => ?_) rfl
        clear h
        refine c_cutJ (σ := Bool) (fun b48 => some b48 = some o49) [58, 59, 60, 61, 62, 63] (fun b48 => [(63, .bool b48)]) (fun b48 => [box g12 27 #[.int .i64 i5, .slice A8 l6.length c9, .slice A10 l7.length c11], row kStep 89 (.slice A8 l6.length c9) l6, row (Kd.int .i64) 3 (.slice A10 l7.length c11) l7, box g24 27 #[.int .i64 i15, .slice A20 l16.length c21, .slice A22 (tl z18 l17.length) (tl z18 l17.length)], row kStep 89 (.slice A20 l16.length c21) l16, row (Kd.int .i64) 3 (.slice A22 l17.length c23) l17, box g35 27 #[.int .i64 i27, .slice A31 l28.length c32, .slice A33 l29.length c34], row kStep 89 (.slice A31 l28.length c32) l28, row (Kd.int .i64) 3 (.slice A33 l29.length c34) l29]) ?_ ?_
        · skip
          have h := hl50; clear hl50
          clear hR51
          refine za0 ?_
          refine o_q rfl rfl (za2 rfl) ?_
          refine o_q rfl rfl (q_not rfl) ?_
          refine o_q rfl rfl (za2 rfl) ?_
          refine byB b43 (fun hb54 => ?_) (fun hb54 => ?_)
          · replace h := bb_t hb54 h
            refine o_w (za4 rfl rfl rfl (congrArg (fun b => Value.bool (!(b))) hb54)) rfl (za2 rfl) ?_
            refine o_w (za4 rfl rfl rfl (congrArg (fun b => Value.bool (!(b))) hb54)) rfl (q_not rfl) ?_
            refine o_q rfl rfl (zal false (congrArg (fun b => Value.bool (!(b))) hb54) rfl) ?_
            refine o_end ?_
            refine zay (!b42) h ⟨rfl, trivial⟩ (fun w h => za5 [6, 7, 8, 3, 4, 5, 0, 1, 2] (by decide) rfl w h) ?_
            repeat (first | exact zad _ _ | refine zah rfl ?_ | refine zae rfl ?_ | refine zai rfl ?_)
          · replace h := bb_f hb54 h
            refine @o_n _ _ _ _ _ _ _ _ _ _ _ 61 (za3 rfl rfl rfl (congrArg (fun b => Value.bool (!(b))) hb54) rfl) (Eq.refl (some 61)) ?_
            refine @o_n _ _ _ _ _ _ _ _ _ _ _ 62 (za3 rfl rfl rfl (congrArg (fun b => Value.bool (!(b))) hb54) rfl) (Eq.refl (some 62)) ?_
            refine o_q rfl rfl (zal true (congrArg (fun b => Value.bool (!(b))) hb54) rfl) ?_
            refine o_end ?_
            refine zay true h ⟨rfl, trivial⟩ (fun w h => za5 [6, 7, 8, 3, 4, 5, 0, 1, 2] (by decide) rfl w h) ?_
            repeat (first | exact zad _ _ | refine zah rfl ?_ | refine zae rfl ?_ | refine zai rfl ?_)
        · skip
          refine (fun b48 => fun U52 hJ53 => ?_)
          have e_ := Option.some.inj hJ53; have h := hR51; rw [← e_] at h; clear e_ hJ53 hR51 hl50
          refine zar _ rfl (fun hb55 => ?_) (fun hb55 => ?_)
          · skip
            replace h := bb_t hb55 h
            refine c_seq ?_
            refine za0 ?_
            refine o_q rfl rfl (za2 rfl) ?_
            refine o_q rfl rfl (q_not rfl) ?_
            refine o_q rfl rfl (za2 rfl) ?_
            refine byB b19 (fun hb56 => ?_) (fun hb56 => ?_)
            · replace h := bb_t hb56 h
              refine @o_n _ _ _ _ _ _ _ _ _ _ _ 67 (za3 rfl rfl rfl (congrArg (fun b => Value.bool (!(b))) hb56) rfl) (Eq.refl (some 67)) ?_
              refine @o_n _ _ _ _ _ _ _ _ _ _ _ 68 (za3 rfl rfl rfl (congrArg (fun b => Value.bool (!(b))) hb56) rfl) (Eq.refl (some 68)) ?_
              refine o_q rfl rfl (zal false (congrArg (fun b => Value.bool (!(b))) hb56) rfl) ?_
              refine o_q rfl rfl (q_asg rfl) ?_
              refine o_end ?_
              refine za1 ?_
              refine c_ret ?_
              refine za9 ?_
              have e0_ := Option.some.inj h; clear h
              subst e0_
              exact x_r1 () Try.results11 (zaf rfl) rfl (fun w h => za5 [] (by decide) rfl w h)
            · replace h := bb_f hb56 h
              refine o_w (za4 rfl rfl rfl (congrArg (fun b => Value.bool (!(b))) hb56)) rfl (za2 rfl) ?_
              refine o_w (za4 rfl rfl rfl (congrArg (fun b => Value.bool (!(b))) hb56)) rfl (q_not rfl) ?_
              refine o_q rfl rfl (zal true (congrArg (fun b => Value.bool (!(b))) hb56) rfl) ?_
              refine o_q rfl rfl (q_asg rfl) ?_
              refine o_end ?_
              refine za1 ?_
              refine c_ret ?_
              refine za9 ?_
              have e0_ := Option.some.inj h; clear h
              subst e0_
              exact x_r1 () Try.results11 (zaf rfl) rfl (fun w h => za5 [] (by decide) rfl w h)
          · skip
            replace h := bb_f hb55 h
            refine zam ?_
            refine za1 ?_
            refine c_seq ?_
            refine c_seq ?_
            refine za0 ?_
            refine o_q rfl rfl (za2 rfl) ?_
            refine o_q rfl rfl (q_not rfl) ?_
            refine o_q rfl rfl (za2 rfl) ?_
            refine byB b46 (fun hb57 => ?_) (fun hb57 => ?_)
            · replace h := bb_t hb57 h
              refine o_w (za4 rfl rfl rfl (congrArg (fun b => Value.bool (!(b))) hb57)) rfl (za2 rfl) ?_
              refine o_w (za4 rfl rfl rfl (congrArg (fun b => Value.bool (!(b))) hb57)) rfl (q_f F27_1 rfl) ?_
              refine o_w (za4 rfl rfl rfl (congrArg (fun b => Value.bool (!(b))) hb57)) rfl (q_ldb Y24 rfl (fun w h => h.zaa (i := 0) rfl) rfl) ?_
              refine o_w (za4 rfl rfl rfl (congrArg (fun b => Value.bool (!(b))) hb57)) rfl (q_len Try.underlying24 rfl) ?_
              refine o_w (za4 rfl rfl rfl (congrArg (fun b => Value.bool (!(b))) hb57)) rfl (q_f F27_2 rfl) ?_
              refine o_w (za4 rfl rfl rfl (congrArg (fun b => Value.bool (!(b))) hb57)) rfl (q_ldb Y25 rfl (fun w h => h.zaa (i := 0) rfl) rfl) ?_
              refine o_w (za4 rfl rfl rfl (congrArg (fun b => Value.bool (!(b))) hb57)) rfl (q_len Try.underlying25 rfl) ?_
              refine o_w (za4 rfl rfl rfl (congrArg (fun b => Value.bool (!(b))) hb57)) rfl (q_add64 rfl rfl) ?_
              refine o_w (za4 rfl rfl rfl (congrArg (fun b => Value.bool (!(b))) hb57)) rfl (q_f F27_0 rfl) ?_
              refine o_w (za4 rfl rfl rfl (congrArg (fun b => Value.bool (!(b))) hb57)) rfl (q_ldb Y3 rfl (fun w h => h.zaa (i := 0) rfl) rfl) ?_
              refine o_w (za4 rfl rfl rfl (congrArg (fun b => Value.bool (!(b))) hb57)) rfl (q_sub64 rfl rfl) ?_
              refine o_w (za4 rfl rfl rfl (congrArg (fun b => Value.bool (!(b))) hb57)) rfl (q_neq rfl rfl) ?_
              refine o_q rfl rfl (zal false (congrArg (fun b => Value.bool (!(b))) hb57) rfl) ?_
              refine o_q rfl rfl (za2 rfl) ?_
              refine byB (decide (i45 ≠ w64 (w64 ((l6.length : Int) + (l7.length : Int)) - i5))) (fun hb58 => ?_) (fun hb58 => ?_)
              · replace h := br_t hb58 h
                refine @o_n _ _ _ _ _ _ _ _ _ _ _ 87 (za3 rfl rfl rfl (congrArg Value.bool hb58) rfl) (Eq.refl (some 87)) ?_
                refine @o_n _ _ _ _ _ _ _ _ _ _ _ 88 (za3 rfl rfl rfl (congrArg Value.bool hb58) rfl) (Eq.refl (some 88)) ?_
                refine @o_n _ _ _ _ _ _ _ _ _ _ _ 89 (za3 rfl rfl rfl (congrArg Value.bool hb58) rfl) (Eq.refl (some 89)) ?_
                refine @o_n _ _ _ _ _ _ _ _ _ _ _ 90 (za3 rfl rfl rfl (congrArg Value.bool hb58) rfl) (Eq.refl (some 90)) ?_
                refine o_q rfl rfl (zal true (congrArg Value.bool hb58) rfl) ?_
                refine o_end ?_
                refine za1 ?_
                refine zb3 rfl ?_
                refine c_seq ?_
                refine za0 ?_
                refine o_q rfl rfl (q_asg rfl) ?_
                refine o_end ?_
                refine za1 ?_
                refine c_ret ?_
                refine za9 ?_
                have e0_ := Option.some.inj h; clear h
                subst e0_
                exact x_r1 () Try.results11 (zaf rfl) rfl (fun w h => za5 [] (by decide) rfl w h)
              · replace h := br_f hb58 h
                refine o_w (za4 rfl rfl rfl (congrArg Value.bool hb58)) rfl (za2 rfl) ?_
                refine o_w (za4 rfl rfl rfl (congrArg Value.bool hb58)) rfl (za2 rfl) ?_
                refine o_w (za4 rfl rfl rfl (congrArg Value.bool hb58)) rfl (q_leq rfl rfl) ?_
                refine o_w (za4 rfl rfl rfl (congrArg Value.bool hb58)) rfl (q_bneq Try.underlying4 rfl rfl) ?_
                refine o_q rfl rfl (zal false (congrArg Value.bool hb58) rfl) ?_
                refine o_end ?_
                refine za1 ?_
                refine zar _ rfl (fun hb59 => ?_) (fun hb59 => ?_)
                · skip
                  replace h := bb_t hb59 h
                  refine c_seq ?_
                  refine za0 ?_
                  refine o_q rfl rfl (q_asg rfl) ?_
                  refine o_end ?_
                  refine za1 ?_
                  refine c_ret ?_
                  refine za9 ?_
                  have e0_ := Option.some.inj h; clear h
                  subst e0_
                  exact x_r1 () Try.results11 (zaf rfl) rfl (fun w h => za5 [] (by decide) rfl w h)
                · skip
                  replace h := bb_f hb59 h
                  refine zam ?_
                  refine za1 ?_
                  refine c_seq ?_
                  refine c_seq ?_
                  refine za0 ?_
                  refine o_q rfl rfl (za2 rfl) ?_
                  refine o_q rfl rfl (q_not rfl) ?_
                  refine o_end ?_
                  refine za1 ?_
                  refine zar _ rfl (fun hb60 => ?_) (fun hb60 => ?_)
                  · replace hb60 := nt_t hb60
                    replace h := bb_f hb60 h
                    refine c_seq ?_
                    refine za0 ?_
                    refine o_q rfl rfl (q_asg rfl) ?_
                    refine o_end ?_
                    refine za1 ?_
                    refine c_ret ?_
                    refine za9 ?_
                    have e0_ := Option.some.inj h; clear h
                    subst e0_
                    exact x_r1 () Try.results11 (zaf rfl) rfl (fun w h => za5 [] (by decide) rfl w h)
                  · replace hb60 := nt_f hb60
                    replace h := bb_t hb60 h
                    refine zam ?_
                    refine za1 ?_
                    refine c_seq ?_
                    refine za0 ?_
                    refine o_q rfl rfl (q_ldB G27 Z27 rfl (fun w h => h.zaa (i := 0) rfl) rfl) ?_
                    refine bindE2 h (fun l62 b63 hx61 h => ?_) rfl
                    refine o_e rfl (zac 0 Z Try.func52 N52 rfl rfl rfl (fun w P1 hF hB hS hT => impl_OutputExponents.calls k i5 A8 c9 l6.length l6 A10 c11 l7.length l7 hB hF (hT 1 _ rfl).row (hT 1 _ rfl).cap (hT 2 _ rfl).row (hT 2 _ rfl).cap _ _ hx61)) (cur3 (fun A64 c65 H66 => ?_))
                    refine o_q rfl rfl (za2 rfl) ?_
                    refine o_q rfl rfl (q_ext rfl rfl) ?_
                    refine o_q rfl rfl (q_ext rfl rfl) ?_
                    refine o_q rfl rfl (q_asg rfl) ?_
                    refine o_q rfl rfl (q_asg rfl) ?_
                    refine o_end ?_
                    refine za1 ?_
                    refine c_seq ?_
                    refine za0 ?_
                    refine o_q rfl rfl (q_ldB G27 Z27 rfl (fun w h => h.zaa (i := 4) rfl) rfl) ?_
                    refine bindE2 h (fun l68 b69 hx67 h => ?_) rfl
                    refine o_e rfl (zac 0 Z Try.func52 N52 rfl rfl rfl (fun w P1 hF hB hS hT => impl_OutputExponents.calls k i15 A20 c21 l16.length l16 A22 (tl z18 l17.length) (tl z18 l17.length) (l17.take z18) hB hF (hT 5 _ rfl).row (hT 5 _ rfl).cap (stab_tk z18 (hT 6 _ rfl).row) (Nat.le_refl _) _ _ hx67)) (cur3 (fun A70 c71 H72 => ?_))
                    refine o_q rfl rfl (za2 rfl) ?_
                    refine o_q rfl rfl (q_ext rfl rfl) ?_
                    refine o_q rfl rfl (q_ext rfl rfl) ?_
                    refine o_q rfl rfl (q_asg rfl) ?_
                    refine o_q rfl rfl (q_asg rfl) ?_
                    refine o_end ?_
                    refine za1 ?_
                    refine c_seq ?_
                    refine za0 ?_
                    refine o_q rfl rfl (za2 rfl) ?_
                    refine bindE2 h (fun l74 b75 hx73 h => ?_) rfl
                    refine o_e rfl (zac 0 Z Try.func72 N72 rfl rfl rfl (fun w P1 hF hB hS hT => impl_TransposeRows.calls A64 c65 l62.length H66 l62 hB hF (hT 1 _ rfl).row (hT 1 _ rfl).cap _ _ hx73)) (cur3 (fun A76 c77 H78 => ?_))
                    refine o_q rfl rfl (za2 rfl) ?_
                    refine o_q rfl rfl (q_ext rfl rfl) ?_
                    refine o_q rfl rfl (q_ext rfl rfl) ?_
                    refine o_q rfl rfl (q_asg rfl) ?_
                    refine o_q rfl rfl (q_asg rfl) ?_
                    refine o_end ?_
                    refine za1 ?_
                    refine c_seq ?_
                    refine za0 ?_
                    refine o_q rfl rfl (q_ldB G27 Z27 rfl (fun w h => h.zaa (i := 6) rfl) rfl) ?_
                    refine bindE5 h (fun i80 l81 l82 z83 b84 hx79 h => ?_) rfl
                    refine o_e rfl (zac 0 Z Try.func67 N67 rfl rfl rfl (fun w P1 hF hB hS hT => impl_TurnPlan.calls k i15 A20 c21 l16.length l16 A22 (tl z18 l17.length) (tl z18 l17.length) (l17.take z18) hB hF (hT 7 _ rfl).row (hT 7 _ rfl).cap (stab_tk z18 (hT 8 _ rfl).row) (Nat.le_refl _) _ _ _ _ _ hx79)) (cur4 (fun A85 c86 A87 c88 => ?_))
                    refine o_q rfl rfl (za2 rfl) ?_
                    refine o_q rfl rfl (q_ext rfl rfl) ?_
                    refine o_q rfl rfl (q_ext rfl rfl) ?_
                    refine o_e rfl (zaz V27 rfl) (fun g89 => ?_)
                    refine o_e rfl (zaq (i := 0) rfl rfl rfl Z27 rfl rfl) (fun _ => ?_)
                    refine o_q rfl rfl (q_asg rfl) ?_
                    refine o_end ?_
                    refine za1 ?_
                    refine c_seq ?_
                    refine za0 ?_
                    refine o_q rfl rfl (q_ldB G27 Z27 rfl (fun w h => h.zaa (i := 0) rfl) rfl) ?_
                    refine o_q rfl rfl (q_ldB G27 Z27 rfl (fun w h => h.zaa (i := 6) rfl) rfl) ?_
                    refine bindE2 h (fun b92 b93 hx91 h => ?_) rfl
                    refine o_e rfl (zac 0 Z Try.func27 N27 rfl rfl rfl (fun w P1 hF hB hS hT => impl_SamePowers.calls k i80 A85 c86 l81.length l81 A87 (tl z83 l82.length) (tl z83 l82.length) (l82.take z83) i5 A8 c9 l6.length l6 A10 c11 l7.length l7 hB hF (hT 1 _ rfl).row (hT 1 _ rfl).cap (stab_tk z83 (hT 2 _ rfl).row) (Nat.le_refl _) (hT 7 _ rfl).row (hT 7 _ rfl).cap (hT 8 _ rfl).row (hT 8 _ rfl).cap _ _ hx91)) (fun _ => ?_)
                    refine o_q rfl rfl (za2 rfl) ?_
                    refine o_q rfl rfl (q_ext rfl rfl) ?_
                    refine o_q rfl rfl (q_ext rfl rfl) ?_
                    refine o_q rfl rfl (q_asg rfl) ?_
                    refine o_q rfl rfl (q_asg rfl) ?_
                    refine o_end ?_
                    refine za1 ?_
                    refine c_seq ?_
                    refine za0 ?_
                    refine o_q rfl rfl (za2 rfl) ?_
                    refine o_q rfl rfl (za2 rfl) ?_
                    refine byB b63 (fun hb94 => ?_) (fun hb94 => ?_)
                    · replace h := bb_t hb94 h
                      refine o_w (za4 rfl rfl rfl (congrArg Value.bool hb94)) rfl (za2 rfl) ?_
                      refine o_q rfl rfl (zal true (congrArg Value.bool hb94) rfl) ?_
                      refine o_q rfl rfl (za2 rfl) ?_
                      refine byB b69 (fun hb95 => ?_) (fun hb95 => ?_)
                      · replace h := bb_t hb95 h
                        refine o_w (za4 rfl rfl rfl (congrArg Value.bool hb95)) rfl (za2 rfl) ?_
                        refine o_q rfl rfl (zal true (congrArg Value.bool hb95) rfl) ?_
                        refine o_q rfl rfl (za2 rfl) ?_
                        refine byB b75 (fun hb96 => ?_) (fun hb96 => ?_)
                        · replace h := bb_t hb96 h
                          refine o_w (za4 rfl rfl rfl (congrArg Value.bool hb96)) rfl (za2 rfl) ?_
                          refine o_q rfl rfl (zal true (congrArg Value.bool hb96) rfl) ?_
                          refine o_q rfl rfl (za2 rfl) ?_
                          refine byB b84 (fun hb97 => ?_) (fun hb97 => ?_)
                          · replace h := bb_t hb97 h
                            refine o_w (za4 rfl rfl rfl (congrArg Value.bool hb97)) rfl (za2 rfl) ?_
                            refine o_q rfl rfl (zal true (congrArg Value.bool hb97) rfl) ?_
                            refine o_q rfl rfl (za2 rfl) ?_
                            refine byB b93 (fun hb98 => ?_) (fun hb98 => ?_)
                            · replace h := bb_t hb98 h
                              refine o_w (za4 rfl rfl rfl (congrArg Value.bool hb98)) rfl (q_f F27_1 rfl) ?_
                              refine o_w (za4 rfl rfl rfl (congrArg Value.bool hb98)) rfl (q_ldb Y24 rfl (fun w h => h.zaa (i := 9) rfl) rfl) ?_
                              refine o_w (za4 rfl rfl rfl (congrArg Value.bool hb98)) rfl (q_len Try.underlying24 rfl) ?_
                              refine o_w (za4 rfl rfl rfl (congrArg Value.bool hb98)) rfl (za2 rfl) ?_
                              refine o_w (za4 rfl rfl rfl (congrArg Value.bool hb98)) rfl (q_eql rfl rfl) ?_
                              refine o_q rfl rfl (zal true (congrArg Value.bool hb98) rfl) ?_
                              refine o_q rfl rfl (za2 rfl) ?_
                              refine byB (decide ((l16.length : Int) = i45)) (fun hb99 => ?_) (fun hb99 => ?_)
                              · replace h := br_t hb99 h
                                refine o_w (za4 rfl rfl rfl (congrArg Value.bool hb99)) rfl (za2 rfl) ?_
                                refine o_w (za4 rfl rfl rfl (congrArg Value.bool hb99)) rfl (za2 rfl) ?_
                                refine za7 h (fun b101 hx100 h => ?_) rfl
                                refine o_ew (za4 rfl rfl rfl (congrArg Value.bool hb99)) (zac 0 Z Try.func73 N73 rfl rfl rfl (fun w P1 hF hB hS hT => laws_pSameRows.calls A70 c71 l68.length H72 l68 A76 c77 l74.length H78 l74 hB hF (hT 4 _ rfl).row (hT 4 _ rfl).cap (hT 3 _ rfl).row (hT 3 _ rfl).cap _ hx100)) (fun _ => ?_)
                                refine o_q rfl rfl (zal true (congrArg Value.bool hb99) rfl) ?_
                                refine o_q rfl rfl (za2 rfl) ?_
                                refine byB b101 (fun hb102 => ?_) (fun hb102 => ?_)
                                · replace h := bb_t hb102 h
                                  refine o_w (za4 rfl rfl rfl (congrArg Value.bool hb102)) rfl (za2 rfl) ?_
                                  refine o_q rfl rfl (zal true (congrArg Value.bool hb102) rfl) ?_
                                  refine o_q rfl rfl (za2 rfl) ?_
                                  refine byB b92 (fun hb103 => ?_) (fun hb103 => ?_)
                                  · replace h := bb_t hb103 h
                                    refine o_w (za4 rfl rfl rfl (congrArg Value.bool hb103)) rfl (q_f F27_1 rfl) ?_
                                    refine o_w (za4 rfl rfl rfl (congrArg Value.bool hb103)) rfl (q_ldb Y24 rfl (fun w h => h.zaa (i := 0) rfl) rfl) ?_
                                    refine o_w (za4 rfl rfl rfl (congrArg Value.bool hb103)) rfl (q_len Try.underlying24 rfl) ?_
                                    refine o_w (za4 rfl rfl rfl (congrArg Value.bool hb103)) rfl (q_f F27_1 rfl) ?_
                                    refine o_w (za4 rfl rfl rfl (congrArg Value.bool hb103)) rfl (q_ldb Y24 rfl (fun w h => h.zaa (i := 6) rfl) rfl) ?_
                                    refine o_w (za4 rfl rfl rfl (congrArg Value.bool hb103)) rfl (q_len Try.underlying24 rfl) ?_
                                    refine o_w (za4 rfl rfl rfl (congrArg Value.bool hb103)) rfl (q_eql rfl rfl) ?_
                                    refine o_q rfl rfl (zal true (congrArg Value.bool hb103) rfl) ?_
                                    refine o_q rfl rfl (q_asg rfl) ?_
                                    refine o_end ?_
                                    refine za1 ?_
                                    refine c_ret ?_
                                    have e0_ := Option.some.inj h; clear h
                                    subst e0_
                                    exact x_r1 () Try.results11 (zaf rfl) rfl (fun w h => za5 [] (by decide) rfl w h)
                                  · replace h := bb_f hb103 h
                                    refine @o_n _ _ _ _ _ _ _ _ _ _ _ 149 (za3 rfl rfl rfl (congrArg Value.bool hb103) rfl) (Eq.refl (some 149)) ?_
                                    refine @o_n _ _ _ _ _ _ _ _ _ _ _ 150 (za3 rfl rfl rfl (congrArg Value.bool hb103) rfl) (Eq.refl (some 150)) ?_
                                    refine @o_n _ _ _ _ _ _ _ _ _ _ _ 151 (za3 rfl rfl rfl (congrArg Value.bool hb103) rfl) (Eq.refl (some 151)) ?_
                                    refine @o_n _ _ _ _ _ _ _ _ _ _ _ 152 (za3 rfl rfl rfl (congrArg Value.bool hb103) rfl) (Eq.refl (some 152)) ?_
                                    refine @o_n _ _ _ _ _ _ _ _ _ _ _ 153 (za3 rfl rfl rfl (congrArg Value.bool hb103) rfl) (Eq.refl (some 153)) ?_
                                    refine @o_n _ _ _ _ _ _ _ _ _ _ _ 154 (za3 rfl rfl rfl (congrArg Value.bool hb103) rfl) (Eq.refl (some 154)) ?_
                                    refine @o_n _ _ _ _ _ _ _ _ _ _ _ 155 (za3 rfl rfl rfl (congrArg Value.bool hb103) rfl) (Eq.refl (some 155)) ?_
                                    refine o_q rfl rfl (zal false (congrArg Value.bool hb103) rfl) ?_
                                    refine o_q rfl rfl (q_asg rfl) ?_
                                    refine o_end ?_
                                    refine za1 ?_
                                    refine c_ret ?_
                                    have e0_ := Option.some.inj h; clear h
                                    subst e0_
                                    exact x_r1 () Try.results11 (zaf rfl) rfl (fun w h => za5 [] (by decide) rfl w h)
                                · replace h := bb_f hb102 h
                                  refine @o_n _ _ _ _ _ _ _ _ _ _ _ 146 (za3 rfl rfl rfl (congrArg Value.bool hb102) rfl) (Eq.refl (some 146)) ?_
                                  refine o_q rfl rfl (zal false (congrArg Value.bool hb102) rfl) ?_
                                  refine o_q rfl rfl (za2 rfl) ?_
                                  refine @o_n _ _ _ _ _ _ _ _ _ _ _ 149 (za3 rfl rfl rfl rfl rfl) (Eq.refl (some 149)) ?_
                                  refine @o_n _ _ _ _ _ _ _ _ _ _ _ 150 (za3 rfl rfl rfl rfl rfl) (Eq.refl (some 150)) ?_
                                  refine @o_n _ _ _ _ _ _ _ _ _ _ _ 151 (za3 rfl rfl rfl rfl rfl) (Eq.refl (some 151)) ?_
                                  refine @o_n _ _ _ _ _ _ _ _ _ _ _ 152 (za3 rfl rfl rfl rfl rfl) (Eq.refl (some 152)) ?_
                                  refine @o_n _ _ _ _ _ _ _ _ _ _ _ 153 (za3 rfl rfl rfl rfl rfl) (Eq.refl (some 153)) ?_
                                  refine @o_n _ _ _ _ _ _ _ _ _ _ _ 154 (za3 rfl rfl rfl rfl rfl) (Eq.refl (some 154)) ?_
                                  refine @o_n _ _ _ _ _ _ _ _ _ _ _ 155 (za3 rfl rfl rfl rfl rfl) (Eq.refl (some 155)) ?_
                                  refine o_q rfl rfl (zal false rfl rfl) ?_
                                  refine o_q rfl rfl (q_asg rfl) ?_
                                  refine o_end ?_
                                  refine za1 ?_
                                  refine c_ret ?_
                                  have e0_ := Option.some.inj h; clear h
                                  subst e0_
                                  exact x_r1 () Try.results11 (zaf rfl) rfl (fun w h => za5 [] (by decide) rfl w h)
                              · replace h := br_f hb99 h
                                refine @o_n _ _ _ _ _ _ _ _ _ _ _ 141 (za3 rfl rfl rfl (congrArg Value.bool hb99) rfl) (Eq.refl (some 141)) ?_
                                refine @o_n _ _ _ _ _ _ _ _ _ _ _ 142 (za3 rfl rfl rfl (congrArg Value.bool hb99) rfl) (Eq.refl (some 142)) ?_
                                refine @o_n _ _ _ _ _ _ _ _ _ _ _ 143 (za3 rfl rfl rfl (congrArg Value.bool hb99) rfl) (Eq.refl (some 143)) ?_
                                refine o_q rfl rfl (zal false (congrArg Value.bool hb99) rfl) ?_
                                refine o_q rfl rfl (za2 rfl) ?_
                                refine @o_n _ _ _ _ _ _ _ _ _ _ _ 146 (za3 rfl rfl rfl rfl rfl) (Eq.refl (some 146)) ?_
                                refine o_q rfl rfl (zal false rfl rfl) ?_
                                refine o_q rfl rfl (za2 rfl) ?_
                                refine @o_n _ _ _ _ _ _ _ _ _ _ _ 149 (za3 rfl rfl rfl rfl rfl) (Eq.refl (some 149)) ?_
                                refine @o_n _ _ _ _ _ _ _ _ _ _ _ 150 (za3 rfl rfl rfl rfl rfl) (Eq.refl (some 150)) ?_
                                refine @o_n _ _ _ _ _ _ _ _ _ _ _ 151 (za3 rfl rfl rfl rfl rfl) (Eq.refl (some 151)) ?_
                                refine @o_n _ _ _ _ _ _ _ _ _ _ _ 152 (za3 rfl rfl rfl rfl rfl) (Eq.refl (some 152)) ?_
                                refine @o_n _ _ _ _ _ _ _ _ _ _ _ 153 (za3 rfl rfl rfl rfl rfl) (Eq.refl (some 153)) ?_
                                refine @o_n _ _ _ _ _ _ _ _ _ _ _ 154 (za3 rfl rfl rfl rfl rfl) (Eq.refl (some 154)) ?_
                                refine @o_n _ _ _ _ _ _ _ _ _ _ _ 155 (za3 rfl rfl rfl rfl rfl) (Eq.refl (some 155)) ?_
                                refine o_q rfl rfl (zal false rfl rfl) ?_
                                refine o_q rfl rfl (q_asg rfl) ?_
                                refine o_end ?_
                                refine za1 ?_
                                refine c_ret ?_
                                have e0_ := Option.some.inj h; clear h
                                subst e0_
                                exact x_r1 () Try.results11 (zaf rfl) rfl (fun w h => za5 [] (by decide) rfl w h)
                            · replace h := bb_f hb98 h
                              refine @o_n _ _ _ _ _ _ _ _ _ _ _ 134 (za3 rfl rfl rfl (congrArg Value.bool hb98) rfl) (Eq.refl (some 134)) ?_
                              refine @o_n _ _ _ _ _ _ _ _ _ _ _ 135 (za3 rfl rfl rfl (congrArg Value.bool hb98) rfl) (Eq.refl (some 135)) ?_
                              refine @o_n _ _ _ _ _ _ _ _ _ _ _ 136 (za3 rfl rfl rfl (congrArg Value.bool hb98) rfl) (Eq.refl (some 136)) ?_
                              refine @o_n _ _ _ _ _ _ _ _ _ _ _ 137 (za3 rfl rfl rfl (congrArg Value.bool hb98) rfl) (Eq.refl (some 137)) ?_
                              refine @o_n _ _ _ _ _ _ _ _ _ _ _ 138 (za3 rfl rfl rfl (congrArg Value.bool hb98) rfl) (Eq.refl (some 138)) ?_
                              refine o_q rfl rfl (zal false (congrArg Value.bool hb98) rfl) ?_
                              refine o_q rfl rfl (za2 rfl) ?_
                              refine @o_n _ _ _ _ _ _ _ _ _ _ _ 141 (za3 rfl rfl rfl rfl rfl) (Eq.refl (some 141)) ?_
                              refine @o_n _ _ _ _ _ _ _ _ _ _ _ 142 (za3 rfl rfl rfl rfl rfl) (Eq.refl (some 142)) ?_
                              refine @o_n _ _ _ _ _ _ _ _ _ _ _ 143 (za3 rfl rfl rfl rfl rfl) (Eq.refl (some 143)) ?_
                              refine o_q rfl rfl (zal false rfl rfl) ?_
                              refine o_q rfl rfl (za2 rfl) ?_
                              refine @o_n _ _ _ _ _ _ _ _ _ _ _ 146 (za3 rfl rfl rfl rfl rfl) (Eq.refl (some 146)) ?_
                              refine o_q rfl rfl (zal false rfl rfl) ?_
                              refine o_q rfl rfl (za2 rfl) ?_
                              refine @o_n _ _ _ _ _ _ _ _ _ _ _ 149 (za3 rfl rfl rfl rfl rfl) (Eq.refl (some 149)) ?_
                              refine @o_n _ _ _ _ _ _ _ _ _ _ _ 150 (za3 rfl rfl rfl rfl rfl) (Eq.refl (some 150)) ?_
                              refine @o_n _ _ _ _ _ _ _ _ _ _ _ 151 (za3 rfl rfl rfl rfl rfl) (Eq.refl (some 151)) ?_
                              refine @o_n _ _ _ _ _ _ _ _ _ _ _ 152 (za3 rfl rfl rfl rfl rfl) (Eq.refl (some 152)) ?_
                              refine @o_n _ _ _ _ _ _ _ _ _ _ _ 153 (za3 rfl rfl rfl rfl rfl) (Eq.refl (some 153)) ?_
                              refine @o_n _ _ _ _ _ _ _ _ _ _ _ 154 (za3 rfl rfl rfl rfl rfl) (Eq.refl (some 154)) ?_
                              refine @o_n _ _ _ _ _ _ _ _ _ _ _ 155 (za3 rfl rfl rfl rfl rfl) (Eq.refl (some 155)) ?_
                              refine o_q rfl rfl (zal false rfl rfl) ?_
                              refine o_q rfl rfl (q_asg rfl) ?_
                              refine o_end ?_
                              refine za1 ?_
                              refine c_ret ?_
                              have e0_ := Option.some.inj h; clear h
                              subst e0_
                              exact x_r1 () Try.results11 (zaf rfl) rfl (fun w h => za5 [] (by decide) rfl w h)
                          · replace h := bb_f hb97 h
                            refine @o_n _ _ _ _ _ _ _ _ _ _ _ 131 (za3 rfl rfl rfl (congrArg Value.bool hb97) rfl) (Eq.refl (some 131)) ?_
                            refine o_q rfl rfl (zal false (congrArg Value.bool hb97) rfl) ?_
                            refine o_q rfl rfl (za2 rfl) ?_
                            refine @o_n _ _ _ _ _ _ _ _ _ _ _ 134 (za3 rfl rfl rfl rfl rfl) (Eq.refl (some 134)) ?_
                            refine @o_n _ _ _ _ _ _ _ _ _ _ _ 135 (za3 rfl rfl rfl rfl rfl) (Eq.refl (some 135)) ?_
                            refine @o_n _ _ _ _ _ _ _ _ _ _ _ 136 (za3 rfl rfl rfl rfl rfl) (Eq.refl (some 136)) ?_
                            refine @o_n _ _ _ _ _ _ _ _ _ _ _ 137 (za3 rfl rfl rfl rfl rfl) (Eq.refl (some 137)) ?_
                            refine @o_n _ _ _ _ _ _ _ _ _ _ _ 138 (za3 rfl rfl rfl rfl rfl) (Eq.refl (some 138)) ?_
                            refine o_q rfl rfl (zal false rfl rfl) ?_
                            refine o_q rfl rfl (za2 rfl) ?_
                            refine @o_n _ _ _ _ _ _ _ _ _ _ _ 141 (za3 rfl rfl rfl rfl rfl) (Eq.refl (some 141)) ?_
                            refine @o_n _ _ _ _ _ _ _ _ _ _ _ 142 (za3 rfl rfl rfl rfl rfl) (Eq.refl (some 142)) ?_
                            refine @o_n _ _ _ _ _ _ _ _ _ _ _ 143 (za3 rfl rfl rfl rfl rfl) (Eq.refl (some 143)) ?_
                            refine o_q rfl rfl (zal false rfl rfl) ?_
                            refine o_q rfl rfl (za2 rfl) ?_
                            refine @o_n _ _ _ _ _ _ _ _ _ _ _ 146 (za3 rfl rfl rfl rfl rfl) (Eq.refl (some 146)) ?_
                            refine o_q rfl rfl (zal false rfl rfl) ?_
                            refine o_q rfl rfl (za2 rfl) ?_
                            refine @o_n _ _ _ _ _ _ _ _ _ _ _ 149 (za3 rfl rfl rfl rfl rfl) (Eq.refl (some 149)) ?_
                            refine @o_n _ _ _ _ _ _ _ _ _ _ _ 150 (za3 rfl rfl rfl rfl rfl) (Eq.refl (some 150)) ?_
                            refine @o_n _ _ _ _ _ _ _ _ _ _ _ 151 (za3 rfl rfl rfl rfl rfl) (Eq.refl (some 151)) ?_
                            refine @o_n _ _ _ _ _ _ _ _ _ _ _ 152 (za3 rfl rfl rfl rfl rfl) (Eq.refl (some 152)) ?_
                            refine @o_n _ _ _ _ _ _ _ _ _ _ _ 153 (za3 rfl rfl rfl rfl rfl) (Eq.refl (some 153)) ?_
                            refine @o_n _ _ _ _ _ _ _ _ _ _ _ 154 (za3 rfl rfl rfl rfl rfl) (Eq.refl (some 154)) ?_
                            refine @o_n _ _ _ _ _ _ _ _ _ _ _ 155 (za3 rfl rfl rfl rfl rfl) (Eq.refl (some 155)) ?_
                            refine o_q rfl rfl (zal false rfl rfl) ?_
                            refine o_q rfl rfl (q_asg rfl) ?_
                            refine o_end ?_
                            refine za1 ?_
                            refine c_ret ?_
                            have e0_ := Option.some.inj h; clear h
                            subst e0_
                            exact x_r1 () Try.results11 (zaf rfl) rfl (fun w h => za5 [] (by decide) rfl w h)
                        · replace h := bb_f hb96 h
                          refine @o_n _ _ _ _ _ _ _ _ _ _ _ 128 (za3 rfl rfl rfl (congrArg Value.bool hb96) rfl) (Eq.refl (some 128)) ?_
                          refine o_q rfl rfl (zal false (congrArg Value.bool hb96) rfl) ?_
                          refine o_q rfl rfl (za2 rfl) ?_
                          refine @o_n _ _ _ _ _ _ _ _ _ _ _ 131 (za3 rfl rfl rfl rfl rfl) (Eq.refl (some 131)) ?_
                          refine o_q rfl rfl (zal false rfl rfl) ?_
                          refine o_q rfl rfl (za2 rfl) ?_
                          refine @o_n _ _ _ _ _ _ _ _ _ _ _ 134 (za3 rfl rfl rfl rfl rfl) (Eq.refl (some 134)) ?_
                          refine @o_n _ _ _ _ _ _ _ _ _ _ _ 135 (za3 rfl rfl rfl rfl rfl) (Eq.refl (some 135)) ?_
                          refine @o_n _ _ _ _ _ _ _ _ _ _ _ 136 (za3 rfl rfl rfl rfl rfl) (Eq.refl (some 136)) ?_
                          refine @o_n _ _ _ _ _ _ _ _ _ _ _ 137 (za3 rfl rfl rfl rfl rfl) (Eq.refl (some 137)) ?_
                          refine @o_n _ _ _ _ _ _ _ _ _ _ _ 138 (za3 rfl rfl rfl rfl rfl) (Eq.refl (some 138)) ?_
                          refine o_q rfl rfl (zal false rfl rfl) ?_
                          refine o_q rfl rfl (za2 rfl) ?_
                          refine @o_n _ _ _ _ _ _ _ _ _ _ _ 141 (za3 rfl rfl rfl rfl rfl) (Eq.refl (some 141)) ?_
                          refine @o_n _ _ _ _ _ _ _ _ _ _ _ 142 (za3 rfl rfl rfl rfl rfl) (Eq.refl (some 142)) ?_
                          refine @o_n _ _ _ _ _ _ _ _ _ _ _ 143 (za3 rfl rfl rfl rfl rfl) (Eq.refl (some 143)) ?_
                          refine o_q rfl rfl (zal false rfl rfl) ?_
                          refine o_q rfl rfl (za2 rfl) ?_
                          refine @o_n _ _ _ _ _ _ _ _ _ _ _ 146 (za3 rfl rfl rfl rfl rfl) (Eq.refl (some 146)) ?_
                          refine o_q rfl rfl (zal false rfl rfl) ?_
                          refine o_q rfl rfl (za2 rfl) ?_
                          refine @o_n _ _ _ _ _ _ _ _ _ _ _ 149 (za3 rfl rfl rfl rfl rfl) (Eq.refl (some 149)) ?_
                          refine @o_n _ _ _ _ _ _ _ _ _ _ _ 150 (za3 rfl rfl rfl rfl rfl) (Eq.refl (some 150)) ?_
                          refine @o_n _ _ _ _ _ _ _ _ _ _ _ 151 (za3 rfl rfl rfl rfl rfl) (Eq.refl (some 151)) ?_
                          refine @o_n _ _ _ _ _ _ _ _ _ _ _ 152 (za3 rfl rfl rfl rfl rfl) (Eq.refl (some 152)) ?_
                          refine @o_n _ _ _ _ _ _ _ _ _ _ _ 153 (za3 rfl rfl rfl rfl rfl) (Eq.refl (some 153)) ?_
                          refine @o_n _ _ _ _ _ _ _ _ _ _ _ 154 (za3 rfl rfl rfl rfl rfl) (Eq.refl (some 154)) ?_
                          refine @o_n _ _ _ _ _ _ _ _ _ _ _ 155 (za3 rfl rfl rfl rfl rfl) (Eq.refl (some 155)) ?_
                          refine o_q rfl rfl (zal false rfl rfl) ?_
                          refine o_q rfl rfl (q_asg rfl) ?_
                          refine o_end ?_
                          refine za1 ?_
                          refine c_ret ?_
                          have e0_ := Option.some.inj h; clear h
                          subst e0_
                          exact x_r1 () Try.results11 (zaf rfl) rfl (fun w h => za5 [] (by decide) rfl w h)
                      · replace h := bb_f hb95 h
                        refine @o_n _ _ _ _ _ _ _ _ _ _ _ 125 (za3 rfl rfl rfl (congrArg Value.bool hb95) rfl) (Eq.refl (some 125)) ?_
                        refine o_q rfl rfl (zal false (congrArg Value.bool hb95) rfl) ?_
                        refine o_q rfl rfl (za2 rfl) ?_
                        refine @o_n _ _ _ _ _ _ _ _ _ _ _ 128 (za3 rfl rfl rfl rfl rfl) (Eq.refl (some 128)) ?_
                        refine o_q rfl rfl (zal false rfl rfl) ?_
                        refine o_q rfl rfl (za2 rfl) ?_
                        refine @o_n _ _ _ _ _ _ _ _ _ _ _ 131 (za3 rfl rfl rfl rfl rfl) (Eq.refl (some 131)) ?_
                        refine o_q rfl rfl (zal false rfl rfl) ?_
                        refine o_q rfl rfl (za2 rfl) ?_
                        refine @o_n _ _ _ _ _ _ _ _ _ _ _ 134 (za3 rfl rfl rfl rfl rfl) (Eq.refl (some 134)) ?_
                        refine @o_n _ _ _ _ _ _ _ _ _ _ _ 135 (za3 rfl rfl rfl rfl rfl) (Eq.refl (some 135)) ?_
                        refine @o_n _ _ _ _ _ _ _ _ _ _ _ 136 (za3 rfl rfl rfl rfl rfl) (Eq.refl (some 136)) ?_
                        refine @o_n _ _ _ _ _ _ _ _ _ _ _ 137 (za3 rfl rfl rfl rfl rfl) (Eq.refl (some 137)) ?_
                        refine @o_n _ _ _ _ _ _ _ _ _ _ _ 138 (za3 rfl rfl rfl rfl rfl) (Eq.refl (some 138)) ?_
                        refine o_q rfl rfl (zal false rfl rfl) ?_
                        refine o_q rfl rfl (za2 rfl) ?_
                        refine @o_n _ _ _ _ _ _ _ _ _ _ _ 141 (za3 rfl rfl rfl rfl rfl) (Eq.refl (some 141)) ?_
                        refine @o_n _ _ _ _ _ _ _ _ _ _ _ 142 (za3 rfl rfl rfl rfl rfl) (Eq.refl (some 142)) ?_
                        refine @o_n _ _ _ _ _ _ _ _ _ _ _ 143 (za3 rfl rfl rfl rfl rfl) (Eq.refl (some 143)) ?_
                        refine o_q rfl rfl (zal false rfl rfl) ?_
                        refine o_q rfl rfl (za2 rfl) ?_
                        refine @o_n _ _ _ _ _ _ _ _ _ _ _ 146 (za3 rfl rfl rfl rfl rfl) (Eq.refl (some 146)) ?_
                        refine o_q rfl rfl (zal false rfl rfl) ?_
                        refine o_q rfl rfl (za2 rfl) ?_
                        refine @o_n _ _ _ _ _ _ _ _ _ _ _ 149 (za3 rfl rfl rfl rfl rfl) (Eq.refl (some 149)) ?_
                        refine @o_n _ _ _ _ _ _ _ _ _ _ _ 150 (za3 rfl rfl rfl rfl rfl) (Eq.refl (some 150)) ?_
                        refine @o_n _ _ _ _ _ _ _ _ _ _ _ 151 (za3 rfl rfl rfl rfl rfl) (Eq.refl (some 151)) ?_
                        refine @o_n _ _ _ _ _ _ _ _ _ _ _ 152 (za3 rfl rfl rfl rfl rfl) (Eq.refl (some 152)) ?_
                        refine @o_n _ _ _ _ _ _ _ _ _ _ _ 153 (za3 rfl rfl rfl rfl rfl) (Eq.refl (some 153)) ?_
                        refine @o_n _ _ _ _ _ _ _ _ _ _ _ 154 (za3 rfl rfl rfl rfl rfl) (Eq.refl (some 154)) ?_
                        refine @o_n _ _ _ _ _ _ _ _ _ _ _ 155 (za3 rfl rfl rfl rfl rfl) (Eq.refl (some 155)) ?_
                        refine o_q rfl rfl (zal false rfl rfl) ?_
                        refine o_q rfl rfl (q_asg rfl) ?_
                        refine o_end ?_
                        refine za1 ?_
                        refine c_ret ?_
                        have e0_ := Option.some.inj h; clear h
                        subst e0_
                        exact x_r1 () Try.results11 (zaf rfl) rfl (fun w h => za5 [] (by decide) rfl w h)
                    · replace h := bb_f hb94 h
                      refine @o_n _ _ _ _ _ _ _ _ _ _ _ 122 (za3 rfl rfl rfl (congrArg Value.bool hb94) rfl) (Eq.refl (some 122)) ?_
                      refine o_q rfl rfl (zal false (congrArg Value.bool hb94) rfl) ?_
                      refine o_q rfl rfl (za2 rfl) ?_
                      refine @o_n _ _ _ _ _ _ _ _ _ _ _ 125 (za3 rfl rfl rfl rfl rfl) (Eq.refl (some 125)) ?_
                      refine o_q rfl rfl (zal false rfl rfl) ?_
                      refine o_q rfl rfl (za2 rfl) ?_
                      refine @o_n _ _ _ _ _ _ _ _ _ _ _ 128 (za3 rfl rfl rfl rfl rfl) (Eq.refl (some 128)) ?_
                      refine o_q rfl rfl (zal false rfl rfl) ?_
                      refine o_q rfl rfl (za2 rfl) ?_
                      refine @o_n _ _ _ _ _ _ _ _ _ _ _ 131 (za3 rfl rfl rfl rfl rfl) (Eq.refl (some 131)) ?_
                      refine o_q rfl rfl (zal false rfl rfl) ?_
                      refine o_q rfl rfl (za2 rfl) ?_
                      refine @o_n _ _ _ _ _ _ _ _ _ _ _ 134 (za3 rfl rfl rfl rfl rfl) (Eq.refl (some 134)) ?_
                      refine @o_n _ _ _ _ _ _ _ _ _ _ _ 135 (za3 rfl rfl rfl rfl rfl) (Eq.refl (some 135)) ?_
                      refine @o_n _ _ _ _ _ _ _ _ _ _ _ 136 (za3 rfl rfl rfl rfl rfl) (Eq.refl (some 136)) ?_
                      refine @o_n _ _ _ _ _ _ _ _ _ _ _ 137 (za3 rfl rfl rfl rfl rfl) (Eq.refl (some 137)) ?_
                      refine @o_n _ _ _ _ _ _ _ _ _ _ _ 138 (za3 rfl rfl rfl rfl rfl) (Eq.refl (some 138)) ?_
                      refine o_q rfl rfl (zal false rfl rfl) ?_
                      refine o_q rfl rfl (za2 rfl) ?_
                      refine @o_n _ _ _ _ _ _ _ _ _ _ _ 141 (za3 rfl rfl rfl rfl rfl) (Eq.refl (some 141)) ?_
                      refine @o_n _ _ _ _ _ _ _ _ _ _ _ 142 (za3 rfl rfl rfl rfl rfl) (Eq.refl (some 142)) ?_
                      refine @o_n _ _ _ _ _ _ _ _ _ _ _ 143 (za3 rfl rfl rfl rfl rfl) (Eq.refl (some 143)) ?_
                      refine o_q rfl rfl (zal false rfl rfl) ?_
                      refine o_q rfl rfl (za2 rfl) ?_
                      refine @o_n _ _ _ _ _ _ _ _ _ _ _ 146 (za3 rfl rfl rfl rfl rfl) (Eq.refl (some 146)) ?_
                      refine o_q rfl rfl (zal false rfl rfl) ?_
                      refine o_q rfl rfl (za2 rfl) ?_
                      refine @o_n _ _ _ _ _ _ _ _ _ _ _ 149 (za3 rfl rfl rfl rfl rfl) (Eq.refl (some 149)) ?_
                      refine @o_n _ _ _ _ _ _ _ _ _ _ _ 150 (za3 rfl rfl rfl rfl rfl) (Eq.refl (some 150)) ?_
                      refine @o_n _ _ _ _ _ _ _ _ _ _ _ 151 (za3 rfl rfl rfl rfl rfl) (Eq.refl (some 151)) ?_
                      refine @o_n _ _ _ _ _ _ _ _ _ _ _ 152 (za3 rfl rfl rfl rfl rfl) (Eq.refl (some 152)) ?_
                      refine @o_n _ _ _ _ _ _ _ _ _ _ _ 153 (za3 rfl rfl rfl rfl rfl) (Eq.refl (some 153)) ?_
                      refine @o_n _ _ _ _ _ _ _ _ _ _ _ 154 (za3 rfl rfl rfl rfl rfl) (Eq.refl (some 154)) ?_
                      refine @o_n _ _ _ _ _ _ _ _ _ _ _ 155 (za3 rfl rfl rfl rfl rfl) (Eq.refl (some 155)) ?_
                      refine o_q rfl rfl (zal false rfl rfl) ?_
                      refine o_q rfl rfl (q_asg rfl) ?_
                      refine o_end ?_
                      refine za1 ?_
                      refine c_ret ?_
                      have e0_ := Option.some.inj h; clear h
                      subst e0_
                      exact x_r1 () Try.results11 (zaf rfl) rfl (fun w h => za5 [] (by decide) rfl w h)
            · replace h := bb_f hb57 h
              refine @o_n _ _ _ _ _ _ _ _ _ _ _ 73 (za3 rfl rfl rfl (congrArg (fun b => Value.bool (!(b))) hb57) rfl) (Eq.refl (some 73)) ?_
              refine @o_n _ _ _ _ _ _ _ _ _ _ _ 74 (za3 rfl rfl rfl (congrArg (fun b => Value.bool (!(b))) hb57) rfl) (Eq.refl (some 74)) ?_
              refine @o_n _ _ _ _ _ _ _ _ _ _ _ 75 (za3 rfl rfl rfl (congrArg (fun b => Value.bool (!(b))) hb57) rfl) (Eq.refl (some 75)) ?_
              refine @o_n _ _ _ _ _ _ _ _ _ _ _ 76 (za3 rfl rfl rfl (congrArg (fun b => Value.bool (!(b))) hb57) rfl) (Eq.refl (some 76)) ?_
              refine @o_n _ _ _ _ _ _ _ _ _ _ _ 77 (za3 rfl rfl rfl (congrArg (fun b => Value.bool (!(b))) hb57) rfl) (Eq.refl (some 77)) ?_
              refine @o_n _ _ _ _ _ _ _ _ _ _ _ 78 (za3 rfl rfl rfl (congrArg (fun b => Value.bool (!(b))) hb57) rfl) (Eq.refl (some 78)) ?_
              refine @o_n _ _ _ _ _ _ _ _ _ _ _ 79 (za3 rfl rfl rfl (congrArg (fun b => Value.bool (!(b))) hb57) rfl) (Eq.refl (some 79)) ?_
              refine @o_n _ _ _ _ _ _ _ _ _ _ _ 80 (za3 rfl rfl rfl (congrArg (fun b => Value.bool (!(b))) hb57) rfl) (Eq.refl (some 80)) ?_
              refine @o_n _ _ _ _ _ _ _ _ _ _ _ 81 (za3 rfl rfl rfl (congrArg (fun b => Value.bool (!(b))) hb57) rfl) (Eq.refl (some 81)) ?_
              refine @o_n _ _ _ _ _ _ _ _ _ _ _ 82 (za3 rfl rfl rfl (congrArg (fun b => Value.bool (!(b))) hb57) rfl) (Eq.refl (some 82)) ?_
              refine @o_n _ _ _ _ _ _ _ _ _ _ _ 83 (za3 rfl rfl rfl (congrArg (fun b => Value.bool (!(b))) hb57) rfl) (Eq.refl (some 83)) ?_
              refine @o_n _ _ _ _ _ _ _ _ _ _ _ 84 (za3 rfl rfl rfl (congrArg (fun b => Value.bool (!(b))) hb57) rfl) (Eq.refl (some 84)) ?_
              refine o_q rfl rfl (zal true (congrArg (fun b => Value.bool (!(b))) hb57) rfl) ?_
              refine o_q rfl rfl (za2 rfl) ?_
              refine @o_n _ _ _ _ _ _ _ _ _ _ _ 87 (za3 rfl rfl rfl rfl rfl) (Eq.refl (some 87)) ?_
              refine @o_n _ _ _ _ _ _ _ _ _ _ _ 88 (za3 rfl rfl rfl rfl rfl) (Eq.refl (some 88)) ?_
              refine @o_n _ _ _ _ _ _ _ _ _ _ _ 89 (za3 rfl rfl rfl rfl rfl) (Eq.refl (some 89)) ?_
              refine @o_n _ _ _ _ _ _ _ _ _ _ _ 90 (za3 rfl rfl rfl rfl rfl) (Eq.refl (some 90)) ?_
              refine o_q rfl rfl (zal true rfl rfl) ?_
              refine o_end ?_
              refine za1 ?_
              refine zb3 rfl ?_
              refine c_seq ?_
              refine za0 ?_
              refine o_q rfl rfl (q_asg rfl) ?_
              refine o_end ?_
              refine za1 ?_
              refine c_ret ?_
              refine za9 ?_
              have e0_ := Option.some.inj h; clear h
              subst e0_
              exact x_r1 () Try.results11 (zaf rfl) rfl (fun w h => za5 [] (by decide) rfl w h)

/-- THE ONE PURE STATEMENT of laws_FnTurnedPlans. -/
def laws_FnTurnedPlans.Pure : Prop := ∀ (l0 : List Int) (l1 : List Int), l0.length ≤ maxLen → (∀ y ∈ l0, (Lit.int .u8 y).wf = true) → l1.length ≤ maxLen → (∀ y ∈ l1, (Lit.int .u8 y).wf = true) → ∃ k, laws_FnTurnedPlans.f k l0 l1 = some true
theorem laws_FnTurnedPlans.walk (P : laws_FnTurnedPlans.Pure) (A0 : Option Addr) (c0 : Nat) (l0 : List Int) (A1 : Option Addr) (c1 : Nat) (l1 : List Int) (w : World) (hr0 : Kd.C (Kd.int .u8) w A0 l0.length l0) (hc0 : l0.length ≤ c0) (hr1 : Kd.C (Kd.int .u8) w A1 l1.length l1) (hc1 : l1.length ≤ c1) (q0 : l0.length ≤ maxLen) (q1 : (∀ y ∈ l0, (Lit.int .u8 y).wf = true)) (q2 : l1.length ≤ maxLen) (q3 : (∀ y ∈ l1, (Lit.int .u8 y).wf = true)) :
    Calls Try.prog 11 #[.slice A0 l0.length c0, .slice A1 l1.length c1] w fun e w' => e = .returned (.bool true) ∧ Below w.heap.size w w' := by
  obtain ⟨k, h⟩ := P l0 l1 q0 q1 q2 q3
  refine (laws_FnTurnedPlans.calls k A0 c0 l0.length l0 A1 c1 l1.length l1 (Below.refl _ _) (Fr.start w) (fun W hW => Kd.C_below hr0 hW.below) hc0 (fun W hW => Kd.C_below hr1 hW.below) hc1 true h).mono ?_
  rintro e w' ⟨s, rfl, hF⟩
  exact ⟨rfl, hF.bel⟩
end Go.Proofs.Ytoegbcbdiggbjaa.TU
