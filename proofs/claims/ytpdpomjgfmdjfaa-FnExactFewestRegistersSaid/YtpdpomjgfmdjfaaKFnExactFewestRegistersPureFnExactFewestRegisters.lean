/- Pure: FewestRegisters' law. -/
import Derived.Test.YtpdpomjgfmdjfaaKFnExactFewestRegistersPordB
set_option linter.unusedVariables false
set_option linter.unusedSimpArgs false
namespace Go.Proofs.Ytpdpomjgfmdjfaa.Pure
open Go.RowKit Go.Proofs.Ytpdpomjgfmdjfaa.E Go.Proofs.Ytpdpomjgfmdjfaa.G1 Go.Proofs.Ytpdpomjgfmdjfaa.Frame Go.Proofs.YtpdpomjgfmdjfaaW.PrintLast Go.Proofs.YtpdpomjgfmdjfaaW.PrintMore
open Go.Proofs.YtpdpomjgfmdjfaaW.PrintWords hiding mn mx
theorem FnExactFewestRegisters : laws_FnExactFewestRegisters.Pure := by
  intro i s o _ hs _ ho _
  refine some_of ?_
  obtain ⟨v, h1, h2⟩ := szPlan_eq i s o hs ho
  unfold laws_FnExactFewestRegisters.f
  refine bind0 h1 ?_
  by_cases c : v < 0
  · exact pos c (ret _)
  · refine neg c ?_
    obtain ⟨l1, l2⟩ := h2 (by omega)
    have ht := toPlan_ev i s o (by omega) (by omega)
    obtain ⟨n, b, b1, b2⟩ := fewest_both i s o
    refine bind ht (bind b1 (bind ht (bind b2 (neg (by simp) ?_))))
    have hb : (b != b) = false := by cases b <;> rfl
    simp only [hb]
    exact neg (by simp) (bind ht (bind (eqPlan_refl i s o (by omega) (by omega)) (pos rfl (ret _))))
end Go.Proofs.Ytpdpomjgfmdjfaa.Pure
