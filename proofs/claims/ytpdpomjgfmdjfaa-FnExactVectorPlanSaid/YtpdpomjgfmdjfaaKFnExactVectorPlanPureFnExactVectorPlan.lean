/- Pure: plans for vectors of powers, on both sides, and the law. -/
import Derived.Test.YtpdpomjgfmdjfaaKFnExactVectorPlanPsq
set_option linter.unusedVariables false
set_option linter.unusedSimpArgs false
namespace Go.Proofs.Ytpdpomjgfmdjfaa.Pure
open Go.RowKit Go.Proofs.Ytpdpomjgfmdjfaa.E Go.Proofs.Ytpdpomjgfmdjfaa.V2 Go.Proofs.Ytpdpomjgfmdjfaa.Frame Go.Proofs.Ytpdpomjgfmdjfaa.Hand Go.Proofs.YtpdpomjgfmdjfaaW.PrintLast Go.Proofs.YtpdpomjgfmdjfaaW.PrintMore
open Go.Proofs.YtpdpomjgfmdjfaaW.PrintWords hiding mn mx
theorem vector_both (l0 : List Int) : ∃ n s' o' z b, Ev (fun k => impl_VectorPlan.f k l0) (n, s', o', z, b) ∧ Ev (fun k => spec_VectorPlan.f k l0) (n, s', o'.take z, b) ∧ s'.length ≤ 10000 ∧ o'.length ≤ 1000 := by
  obtain ⟨n, s, o, b, e1, e2, _, _⟩ := squares_both l0
  unfold impl_VectorPlan.f spec_VectorPlan.f
  cases b with
  | false => exact ⟨0, [], [], 0, false, bind e1 (neg (by simp) (ret _)), bind e2 (neg (by simp) (ret _)), by simp, by simp⟩
  | true =>
    obtain ⟨n', s', o', z, b, f1, f2, f3, f4⟩ := turn_both n s o
    exact ⟨n', s', o', z, b, bind e1 (pos rfl (bind f1 (ret _))), bind e2 (pos rfl (bind f2 (ret _))), f3, f4⟩
set_option maxHeartbeats 4000000 in
theorem FnExactVectorPlan : laws_FnExactVectorPlan.Pure := by
  intro l0 _ _
  refine some_of ?_
  unfold laws_FnExactVectorPlan.f
  by_cases c : 1048576 < (l0.length : Int)
  · exact pos c (ret _)
  · refine neg c ?_
    have ht := toIntS_ev l0 (by omega)
    have hq := eqIntS_refl l0 (by omega)
    have hm := markIntS_ev l0 1 (by omega) (by omega)
    obtain ⟨n, s', o', z, b, b1, b2, b3, b4⟩ := vector_both l0
    have hzl : (o'.take z).length ≤ 1000 := by rw [List.length_take]; omega
    have he := eqPlan_refl n s' (o'.take z) (by omega) (by omega)
    obtain ⟨l', k1, k2⟩ := markIntS2_ev o' z (1 + 2 * s'.length) (by omega) (by omega)
    have hk : Ev (fun k => laws_markPlan_2.f k n s' o' z 1) (1 + 2 * s'.length + (o'.take z).length, mkSteps 1 s'.length, l') := by
      unfold laws_markPlan_2.f
      exact bind (markStepS_ev s' 1 (by omega) (by omega)) (bind k1 (ret _))
    have hh := heldPlan_ev n s'.length (o'.take z).length 1 (by omega) (by omega)
    rw [← k2] at hh
    have hb : (b != b) = false := by cases b <;> rfl
    refine bind ht (bind b2 (bind ht (bind b1 (bind he (pos rfl ?_)))))
    simp only [hb]
    refine neg (by simp) (bind ht (bind hq (pos rfl (bind hm (neg (by omega) (bind he (pos rfl (bind hk (bind hh (neg (by omega) (neg (by simp) (bind ht (bind b1 (bind he (pos rfl ?_)))))))))))))))
    simp only [hb]
    exact neg (by simp) (bind hh (neg (by omega) (neg (by simp) (ret _))))
end Go.Proofs.Ytpdpomjgfmdjfaa.Pure
