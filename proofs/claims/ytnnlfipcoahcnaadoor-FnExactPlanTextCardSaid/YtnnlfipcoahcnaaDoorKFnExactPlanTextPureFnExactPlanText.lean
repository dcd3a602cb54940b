/- Pure: the program's text of a plan is the documentation's. -/
import Derived.Test.YtnnlfipcoahcnaaDoorKFnExactPlanTextPtx
set_option linter.unusedVariables false
set_option linter.unusedSimpArgs false
namespace Go.Proofs.YtnnlfipcoahcnaaDoor.Pure
open Go.RowKit Go.Proofs.YtnnlfipcoahcnaaDoor.E Go.Proofs.YtnnlfipcoahcnaaDoor.P1 Go.Proofs.YtnnlfipcoahcnaaDoor.Hand Go.Proofs.YtnnlfipcoahcnaaDoor.Frame Go.Proofs.YtnnlfipcoahcnaaDoorW.PrintLast Go.Proofs.YtnnlfipcoahcnaaDoorW.PrintMore
open Go.Proofs.YtnnlfipcoahcnaaDoorW.PrintWords hiding mn mx
theorem FnExactPlanText : laws_FnExactPlanText.Pure := by
  intro i s o hi hs ws ho wo
  obtain ⟨v, h1, h2⟩ := szPlan_eq i s o hs ho
  refine some_of ?_
  unfold laws_FnExactPlanText.f
  refine bind0 h1 ?_
  by_cases c : v < 0
  · exact pos c (ret _)
  · have hq := h2 (by omega)
    have ht := toPlan_ev i s o (by omega) (by omega)
    have he := eqPlan_refl i s o (by omega) (by omega)
    obtain ⟨p, hp⟩ : ∃ p, ptP i s o = p := ⟨_, rfl⟩
    have a1 := iPlanText_ev i s o
    have a2 := sPlanText_ev i s o
    rw [hp] at a1 a2
    obtain ⟨t, b⟩ := p
    exact neg c (bind ht (bind a2 (bind ht (bind a1 (neg (by simp) (neg (by simp) (bind ht (bind he (pos rfl (ret _))))))))))
end Go.Proofs.YtnnlfipcoahcnaaDoor.Pure
