/- Coefficients, and codes that are handed back, in plain Lean. -/
import Derived.Test.YtgglemlhombgkaaKFnExactBestGiantZCode8
import Derived.Test.YtgglemlhombgkaaKFnExactBestGiantQ0
import Derived.Test.YtgglemlhombgkaaKFnExactBestGiantQ1
import Derived.Test.YtgglemlhombgkaaKFnExactBestGiantQ2
import Derived.Test.YtgglemlhombgkaaKFnExactBestGiantQ3
import Derived.Test.YtgglemlhombgkaaKFnExactBestGiantQ4
namespace Go.Proofs.Ytgglemlhombgkaa.Pure
open Go.RowKit Go.Proofs.Ytgglemlhombgkaa.Z Go.Proofs.Ytgglemlhombgkaa.E Go.Proofs.YtgglemlhombgkaaW.PrintWords Go.Proofs.YtgglemlhombgkaaW.PrintLast Go.Proofs.YtgglemlhombgkaaW.PrintMore
def coefsB (l : List Int) : Bool := decide (0 < l.length) && smallB l
theorem poAdd_eq (l : List Op) (o a b c : Int) (hl : l.length ≤ 1000000) : spec_poAdd.f l o a b c = some (l ++ [⟨a, b, c⟩], 0, (l.length : Int) + 1) := by
  unfold spec_poAdd.f
  simp only [Option.bind_some, List.length_nil, List.nil_append]
  rw [if_pos (by omega), if_pos (by omega)]
  simp
end Go.Proofs.Ytgglemlhombgkaa.Pure
