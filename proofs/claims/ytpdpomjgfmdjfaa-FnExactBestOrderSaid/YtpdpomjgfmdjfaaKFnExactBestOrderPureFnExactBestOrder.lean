/- Pure: BestOrder's law. -/
import Derived.Test.YtpdpomjgfmdjfaaKFnExactBestOrderPordB
set_option linter.unusedVariables false
set_option linter.unusedSimpArgs false
namespace Go.Proofs.Ytpdpomjgfmdjfaa.Pure
open Go.RowKit Go.Proofs.Ytpdpomjgfmdjfaa.E Go.Proofs.Ytpdpomjgfmdjfaa.G1 Go.Proofs.Ytpdpomjgfmdjfaa.Frame Go.Proofs.YtpdpomjgfmdjfaaW.PrintLast Go.Proofs.YtpdpomjgfmdjfaaW.PrintMore
open Go.Proofs.YtpdpomjgfmdjfaaW.PrintWords hiding mn mx
theorem FnExactBestOrder : laws_FnExactBestOrder.Pure := by
  intro i s o _ hs _ ho _
  refine some_of ?_
  obtain ⟨v, h1, h2⟩ := szPlan_eq i s o hs ho
  unfold laws_FnExactBestOrder.f
  refine bind0 h1 ?_
  by_cases c : v < 0
  · exact pos c (ret _)
  · refine neg c ?_
    obtain ⟨l1, l2⟩ := h2 (by omega)
    have ht := toPlan_ev i s o (by omega) (by omega)
    have hq := eqPlan_refl i s o (by omega) (by omega)
    have hm := markPlan_ev i s o 1 (by omega) (by omega)
    obtain ⟨l, b, b1, b2, b3⟩ := bestOrder_both i s o
    have he := eqIntS_refl l (by omega)
    have hk := markIntS_ev l 1 (by omega) (by omega)
    have hh := heldIntS_ev l.length 1 (by omega) (by omega)
    have hb : (b != b) = false := by cases b <;> rfl
    refine bind ht (bind b1 (bind ht (bind b2 (bind he (pos rfl ?_)))))
    simp only [hb]
    refine neg (by simp) (bind ht (bind hq (pos rfl (bind hm (neg (by omega) (bind he (pos rfl (bind hk (bind hh (neg (by omega) (neg (by simp) (bind ht (bind b2 (bind he (pos rfl ?_)))))))))))))))
    simp only [hb]
    exact neg (by simp) (bind hh (neg (by omega) (neg (by simp) (ret _))))
end Go.Proofs.Ytpdpomjgfmdjfaa.Pure
