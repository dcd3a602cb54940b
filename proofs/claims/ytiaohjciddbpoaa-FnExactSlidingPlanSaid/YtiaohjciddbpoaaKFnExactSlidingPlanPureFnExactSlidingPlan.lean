/- Pure: the law of plans by sliding windows. -/
import Derived.Test.YtiaohjciddbpoaaKFnExactSlidingPlanPsl
set_option linter.unusedVariables false
set_option linter.unusedSimpArgs false
namespace Go.Proofs.Ytiaohjciddbpoaa.Pure
open Go.RowKit Go.Proofs.Ytiaohjciddbpoaa.E Go.Proofs.Ytiaohjciddbpoaa.H2 Go.Proofs.Ytiaohjciddbpoaa.Frame Go.Proofs.YtiaohjciddbpoaaW.PrintLast Go.Proofs.YtiaohjciddbpoaaW.PrintMore
open Go.Proofs.YtiaohjciddbpoaaW.PrintWords hiding mn mx
theorem FnExactSlidingPlan : laws_FnExactSlidingPlan.Pure := by
  intro a0 a1 _ _
  refine some_of ?_
  unfold laws_FnExactSlidingPlan.f
  obtain ⟨i, t, o, b, h1, h2, hl1, hl2⟩ := sliding_both a0 a1
  have hq := eqPlan_refl i t o (by omega) (by omega)
  have hm := markPlan_ev i t o 1 (by omega) (by omega)
  have hh := heldPlan_ev i t.length o.length 1 (by omega) (by omega)
  exact bind h2 (bind h1 (bind hq (pos rfl (neg (by simp) (bind hm (bind hh (neg (by omega) (neg (by simp) (bind h1 (bind hq (pos rfl (neg (by simp) (bind hh (neg (by omega) (neg (by simp) (ret _))))))))))))))))
end Go.Proofs.Ytiaohjciddbpoaa.Pure
