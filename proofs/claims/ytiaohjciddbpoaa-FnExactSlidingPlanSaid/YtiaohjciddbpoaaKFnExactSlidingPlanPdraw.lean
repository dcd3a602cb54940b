/- Pure: draws come to an end. -/
import Derived.Test.YtiaohjciddbpoaaKFnExactSlidingPlanParg
set_option linter.unusedVariables false
set_option linter.unusedSimpArgs false
namespace Go.Proofs.Ytiaohjciddbpoaa.Pure
open Go.RowKit Go.Proofs.Ytiaohjciddbpoaa.E Go.Proofs.Ytiaohjciddbpoaa.H2 Go.Proofs.Ytiaohjciddbpoaa.Frame Go.Proofs.YtiaohjciddbpoaaW.PrintLast Go.Proofs.YtiaohjciddbpoaaW.PrintMore
open Go.Proofs.YtiaohjciddbpoaaW.PrintWords hiding mn mx
def Bytes (c : List Int) : Prop := ∀ y ∈ c, 0 ≤ y ∧ y ≤ 255
/-- So many picks may still be made. -/
def Bud (a : Int) (m : Nat) : Prop := 0 ≤ a ∧ a + 2 * (m : Int) ≤ 1000000000
theorem Bud.le {a : Int} {m m' : Nat} (h : Bud a m) (hm : m' ≤ m) : Bud a m' := ⟨h.1, by have := h.2; omega⟩
end Go.Proofs.Ytiaohjciddbpoaa.Pure
