/- Pure: plans for vectors of powers, on both sides, and the law. -/
import Derived.Test.YtpdpomjgfmdjfaaKFnExactVectorCostsPsq
set_option linter.unusedVariables false
set_option linter.unusedSimpArgs false
namespace Go.Proofs.Ytpdpomjgfmdjfaa.Pure
open Go.RowKit Go.Proofs.Ytpdpomjgfmdjfaa.E Go.Proofs.Ytpdpomjgfmdjfaa.V3 Go.Proofs.Ytpdpomjgfmdjfaa.Frame Go.Proofs.Ytpdpomjgfmdjfaa.Hand Go.Proofs.YtpdpomjgfmdjfaaW.PrintLast Go.Proofs.YtpdpomjgfmdjfaaW.PrintMore
open Go.Proofs.YtpdpomjgfmdjfaaW.PrintWords hiding mn mx
theorem vector_both (l0 : List Int) : ∃ n s' o' z b, Ev (fun k => impl_VectorPlan.f k l0) (n, s', o', z, b) ∧ Ev (fun k => spec_VectorPlan.f k l0) (n, s', o'.take z, b) ∧ s'.length ≤ 10000 ∧ o'.length ≤ 1000 := by
  obtain ⟨n, s, o, b, e1, e2, _, _⟩ := squares_both l0
  unfold impl_VectorPlan.f spec_VectorPlan.f
  cases b with
  | false => exact ⟨0, [], [], 0, false, bind e1 (neg (by simp) (ret _)), bind e2 (neg (by simp) (ret _)), by simp, by simp⟩
  | true =>
    obtain ⟨n', s', o', z, b, f1, f2, f3, f4⟩ := turn_both n s o
    exact ⟨n', s', o', z, b, bind e1 (pos rfl (bind f1 (ret _))), bind e2 (pos rfl (bind f2 (ret _))), f3, f4⟩
end Go.Proofs.Ytpdpomjgfmdjfaa.Pure
