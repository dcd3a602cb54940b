/- Pure: FactorPlan's law from what both hand back. -/
import Derived.Test.YtpdpomjgfmdjfaaKFnExactFactorPlanPbase
set_option linter.unusedVariables false
set_option linter.unusedSimpArgs false
namespace Go.Proofs.Ytpdpomjgfmdjfaa.Pure
open Go.RowKit Go.Proofs.Ytpdpomjgfmdjfaa.E Go.Proofs.Ytpdpomjgfmdjfaa.E2 Go.Proofs.Ytpdpomjgfmdjfaa.Frame Go.Proofs.YtpdpomjgfmdjfaaW.PrintWords Go.Proofs.YtpdpomjgfmdjfaaW.PrintLast Go.Proofs.YtpdpomjgfmdjfaaW.PrintMore
theorem factor_law (both : ∀ n : Int, ∃ i s o b, Ev (fun k => spec_FactorPlan.f k n) (i, s, o, b) ∧ Ev (fun k => impl_FactorPlan.f k n) (i, s, o, b) ∧ s.length ≤ 1000 ∧ o.length ≤ 1000) : laws_FnExactFactorPlan.Pure := by
  intro n _
  refine some_of ?_
  obtain ⟨i, s, o, b, h1, h2, hs, ho⟩ := both n
  have he := eqPlan_refl i s o (by omega) (by omega)
  have hm := markPlan_ev i s o 1 (by omega) (by omega)
  have hh := heldPlan_ev i s.length o.length 1 (by omega) (by omega)
  have hb : (b != b) = false := by cases b <;> rfl
  unfold laws_FnExactFactorPlan.f
  refine bind h1 (bind h2 (bind he (pos rfl ?_)))
  simp only [hb]
  refine neg (by simp) (bind hm ?_)
  refine bind hh (neg (by omega) (neg (by simp) (bind h2 (bind he (pos rfl ?_)))))
  simp only [hb]
  exact neg (by simp) (bind hh (neg (by omega) (neg (by simp) (ret _))))
end Go.Proofs.Ytpdpomjgfmdjfaa.Pure
