/- Small coefficients, small arguments: what the reference asks is what the program asks. -/
import Derived.Test.YtgglemlhombgkaaKFnExactBestGiantEv
import Derived.Test.YtgglemlhombgkaaKFnExactBestGiantQ0
import Derived.Test.YtgglemlhombgkaaKFnExactBestGiantQ1
import Derived.Test.YtgglemlhombgkaaKFnExactBestGiantQ3
namespace Go.Proofs.Ytgglemlhombgkaa.Pure
open Go.RowKit Go.Proofs.Ytgglemlhombgkaa.Z Go.Proofs.Ytgglemlhombgkaa.E Go.Proofs.YtgglemlhombgkaaW.PrintWords Go.Proofs.YtgglemlhombgkaaW.PrintLast Go.Proofs.YtgglemlhombgkaaW.PrintMore
theorem l1In_eq (x lo hi : Int) : spec_l1In.f x lo hi = some (decide (lo ≤ x ∧ x ≤ hi)) := by
  unfold spec_l1In.f
  by_cases h : lo ≤ x <;> simp [h]
theorem in_eq (x lo hi : Int) : impl_in.f x lo hi = some (decide (lo ≤ x ∧ x ≤ hi)) := by
  unfold impl_in.f
  by_cases h : lo ≤ x <;> simp [h]
def smallB (l : List Int) : Bool := decide (l.length ≤ 17) && l.all fun x => decide (-1000000 ≤ x ∧ x ≤ 1000000)
end Go.Proofs.Ytgglemlhombgkaa.Pure
