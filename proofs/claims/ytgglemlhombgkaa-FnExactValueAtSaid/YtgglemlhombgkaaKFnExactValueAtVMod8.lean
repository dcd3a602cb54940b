/- Remainders and their ranges. -/
import Derived.Test.YtgglemlhombgkaaKFnExactValueAtVSmall8
import Derived.Test.YtgglemlhombgkaaKFnExactValueAtQ0
import Derived.Test.YtgglemlhombgkaaKFnExactValueAtQ1
namespace Go.Proofs.Ytgglemlhombgkaa.Pure
open Go.RowKit Go.Proofs.Ytgglemlhombgkaa.V Go.Proofs.Ytgglemlhombgkaa.E Go.Proofs.YtgglemlhombgkaaW.PrintWords Go.Proofs.YtgglemlhombgkaaW.PrintLast Go.Proofs.YtgglemlhombgkaaW.PrintMore
theorem polyModulusOk_eq (m : Int) : impl_polyModulusOk.f m = some (decide (1 ≤ m ∧ m ≤ 1000000)) := by
  unfold impl_polyModulusOk.f
  rw [in_eq]
  rfl
theorem poModulus_eq (x m : Int) : spec_poModulus.f x m = some (decide ((-1000000 ≤ x ∧ x ≤ 1000000) ∧ (1 ≤ m ∧ m ≤ 1000000))) := by
  unfold spec_poModulus.f
  rw [l1In_eq]
  simp only [Option.bind_some]
  by_cases h : -1000000 ≤ x ∧ x ≤ 1000000
  · rw [if_pos (by simpa using h), l1In_eq]
    simp [h]
  · rw [if_neg (by simpa using h)]
    simp [h]
end Go.Proofs.Ytgglemlhombgkaa.Pure
