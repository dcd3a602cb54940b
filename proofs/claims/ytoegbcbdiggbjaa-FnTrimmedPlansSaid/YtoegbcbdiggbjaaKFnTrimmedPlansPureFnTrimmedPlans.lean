/- Pure: the law of trimmed plans. -/
import Derived.Test.YtoegbcbdiggbjaaKFnTrimmedPlansPused
import Derived.Test.YtoegbcbdiggbjaaKFnTrimmedPlansPpw
import Derived.Test.YtoegbcbdiggbjaaKFnTrimmedPlansPdraw
set_option linter.unusedVariables false
set_option linter.unusedSimpArgs false
namespace Go.Proofs.Ytoegbcbdiggbjaa.Pure
open Go.RowKit Go.Proofs.Ytoegbcbdiggbjaa.E Go.Proofs.Ytoegbcbdiggbjaa.TP Go.Proofs.Ytoegbcbdiggbjaa.Frame Go.Proofs.YtoegbcbdiggbjaaW.PrintLast Go.Proofs.YtoegbcbdiggbjaaW.PrintMore
open Go.Proofs.YtoegbcbdiggbjaaW.PrintWords hiding mn mx
theorem trim_no {i : Int} {s : List SStep} {o : List Int} (h : good i s o = false) : Ev (fun k => impl_TrimPlan.f k i s o) (0, [], [], false) ∧ Ev (fun k => spec_TrimPlan.f k i s o) (0, [], [], false) := by
  have p1 := plGood_ev i s o
  have p2 := isPlan_ev i s o
  rw [h] at p1 p2
  unfold impl_TrimPlan.f spec_TrimPlan.f
  exact ⟨bind p2 (neg (by simp) (ret _)), bind p1 (neg (by simp) (ret _))⟩
theorem kept_powers {I : Nat} {s : List SStep} {o : List Int} (h : Good I s o) : Ev (fun k => impl_SamePowers.f k (I : Int) s o (I : Int) (kS I s o) (kO I s o)) (true, true) := by
  refine same_yes h (kept_good h) (by simp [kO]) fun i hi j hj => ?_
  have q := h.os o[i] (List.getElem_mem hi)
  have e : rg (kO I s o) (i : Int) = pl I (us I s o) o[i] := by
    unfold kO
    rw [rg_nat (by simpa using hi), List.getElem_map]
  rw [e, rg_nat hi]
  exact (ts_vl (unitR I j) (unitR_len I j) s h.ok (us_cl h.ok) o[i] q.1 q.2 (.inr (us_out (List.getElem_mem hi)))).symm
theorem same_less (i : Int) (s t : List SStep) (o p : List Int) (h : s.length ≠ t.length) : laws_pSamePlan.f i s o i t p = some false := by
  unfold laws_pSamePlan.f laws_pSameSteps.f
  rw [if_pos rfl, if_pos (by omega), Option.bind_some, if_neg (by simp)]
theorem tl_l0 {I : Nat} (hI : I ≤ 1000) (L : List Int) (ys : List SStep) (j : Nat) (hj : j + ys.length ≤ 1000) (hL : I + j + ys.length ≤ L.length) (h : ∀ v : Int, ((I + j : Nat) : Int) ≤ v → v < ((I + j + ys.length : Nat) : Int) → 1 ≤ rg L v) : laws_FnTrimmedPlans.l0 (I : Int) L ys (j : Int) = some (Sum.inr ()) := by
  induction ys generalizing j with
  | nil => rfl
  | cons y ys ih =>
    simp only [List.length_cons] at hj hL h
    have := h ((I + j : Nat) : Int) (by omega) (by omega)
    simp only [laws_FnTrimmedPlans.l0]
    rw [zax (by omega), rg_gt (by omega) (by omega), Option.bind_some, if_neg (by rw [show (I : Int) + (j : Int) = ((I + j : Nat) : Int) by omega]; omega), show (j : Int) + 1 = ((j + 1 : Nat) : Int) by omega]
    exact ih (j + 1) (by omega) (by omega) fun v h0 h1 => h v (by omega) (by omega)
theorem FnTrimmedPlans : laws_FnTrimmedPlans.Pure := by
  intro l0 l1 hl0 hb0 hl1 hb1
  refine some_of ?_
  unfold laws_FnTrimmedPlans.f
  obtain ⟨b, e0, hb⟩ := big_eq l0 l1 hl0 hl1
  refine bind0 e0 ?_
  cases b with
  | true => exact pos rfl (ret _)
  | false =>
    refine neg (by simp) ?_
    obtain ⟨i, s, o, a, sd, e1, ls, lo, b1⟩ := drawAny (byte_in hb0) (hb rfl).1 0 0 3 9 (by omega) 1000 ⟨by omega, by omega⟩
    refine bind (a := (i, s, o)) ?_ ?_
    · unfold spec_DrawTrimPlan.f
      exact bind e1 (ret _)
    cases hg : good i s o with
    | false =>
      obtain ⟨f1, f2⟩ := trim_no hg
      exact bind f1 (bind f2 (neg (by simp) (bind0 (pSamePlan_refl _ _ _) (pos rfl (neg (by simp) (ret _))))))
    | true =>
      obtain ⟨I, rfl, h⟩ := good_Good hg
      have h1 := h.inp
      have hK := kept_good h
      have h4 := hK.stp
      obtain ⟨L, u1, u2, u3⟩ := usesOf_ev hK
      have tw := kept_twice h
      have t2 := trim_ev hK
      rw [tw.1, tw.2] at t2
      have it := isTrim_ev hK
      rw [kept_kp h, decide_eq_true rfl] at it
      refine bind (trim_ev h) (bind (strim_ev h) (neg (by simp) (bind0 (pSamePlan_refl _ _ _) (pos rfl (pos rfl ?_)))))
      refine bind (kept_powers h) (bind (steps_ev h) (bind it (bind t2 (bind (isTrim_ev h) (bind u1 ?_)))))
      refine pos rfl (pos rfl (pos rfl (pos rfl (pos rfl (pos rfl (pos rfl (pos rfl (neg ?_ (bind0 (pSamePlan_refl _ _ _) (pos rfl ?_))))))))))
      · rw [kS_kp]
        omega
      have hl := tl_l0 (I := I) (by omega) L (kS I s o) 0 (by omega) (by omega) (fun v v0 v1 => u3 v (by omega) (by omega) (kept_all h v (by omega) (by omega)))
      rw [show ((0 : Nat) : Int) = 0 from rfl] at hl
      by_cases c : (kp I s o).length = s.length
      · have hs := kept_same h (kp_full c)
        have er : laws_pSamePlan.f (I : Int) s o (I : Int) (kS I s o) (kO I s o) = some true := by
          rw [hs.1, hs.2]
          exact pSamePlan_refl _ _ _
        refine bind0 er (neg ?_ (bind0 hl (ret _)))
        rw [decide_eq_true (by omega)]
        simp
      · have er := same_less (I : Int) s (kS I s o) o (kO I s o) (by rw [kS_kp]; omega)
        refine bind0 er (neg ?_ (bind0 hl (ret _)))
        rw [decide_eq_false (by omega)]
        simp
end Go.Proofs.Ytoegbcbdiggbjaa.Pure
