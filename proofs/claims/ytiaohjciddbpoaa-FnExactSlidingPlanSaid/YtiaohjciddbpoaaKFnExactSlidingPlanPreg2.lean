/- Pure: code of registers: the reference's plan. -/
import Derived.Test.YtiaohjciddbpoaaKFnExactSlidingPlanPreg
set_option linter.unusedVariables false
set_option linter.unusedSimpArgs false
namespace Go.Proofs.Ytiaohjciddbpoaa.Pure
open Go.RowKit Go.Proofs.Ytiaohjciddbpoaa.E Go.Proofs.Ytiaohjciddbpoaa.H2 Go.Proofs.Ytiaohjciddbpoaa.Frame Go.Proofs.YtiaohjciddbpoaaW.PrintLast Go.Proofs.YtiaohjciddbpoaaW.PrintMore
open Go.Proofs.YtiaohjciddbpoaaW.PrintWords hiding mn mx
theorem least_eq (a b : Int) : spec_l1Least.f a b = some (mn a b) := by
  unfold spec_l1Least.f mn
  split <;> split <;> simp <;> omega
theorem most_eq (a b : Int) : spec_l1Most.f a b = some (mx a b) := by
  unfold spec_l1Most.f mx
  split <;> split <;> simp <;> omega
theorem plStep_eq (a b : Int) : spec_plStep.f a b = some ⟨mn a b, mx a b⟩ := by
  unfold spec_plStep.f
  rw [least_eq, most_eq]
  rfl
/-- No number twice. -/
def dst (p : List Int) : List Int → Bool
  | [] => true
  | y :: ys => !decide (y ∈ p) && dst (p ++ [y]) ys
def insS : List Int → List Int → Int → List Int
  | [], l, _ => l
  | y :: ys, l, i => insS ys (l.set y.toNat i) (i + 1)
end Go.Proofs.Ytiaohjciddbpoaa.Pure
