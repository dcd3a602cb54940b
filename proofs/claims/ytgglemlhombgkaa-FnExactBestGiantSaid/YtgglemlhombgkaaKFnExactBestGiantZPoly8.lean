/- The polynomials of a code's values: the program and the reference come to the same. -/
import Derived.Test.YtgglemlhombgkaaKFnExactBestGiantZOps8
import Derived.Test.YtgglemlhombgkaaKFnExactBestGiantQ0
import Derived.Test.YtgglemlhombgkaaKFnExactBestGiantQ1
import Derived.Test.YtgglemlhombgkaaKFnExactBestGiantQ3
namespace Go.Proofs.Ytgglemlhombgkaa.Pure
open Go.RowKit Go.Proofs.Ytgglemlhombgkaa.Z Go.Proofs.Ytgglemlhombgkaa.E Go.Proofs.YtgglemlhombgkaaW.PrintWords Go.Proofs.YtgglemlhombgkaaW.PrintLast Go.Proofs.YtgglemlhombgkaaW.PrintMore

/-- A list's first n elements without zeros at the end. -/
def trimN (l : List Int) : Nat → List Int
  | 0 => []
  | n + 1 => if rd l (n : Int) = 0 then trimN l n else l.take (n + 1)
/-! ### sums -/
/-! ### products -/
end Go.Proofs.Ytgglemlhombgkaa.Pure
