/- The laws' helpers over ops and codes: what they come to. -/
import Derived.Test.YtgglemlhombgkaaKFnExactBestGiantEv
import Derived.Test.YtgglemlhombgkaaKFnExactBestGiantQ0
import Derived.Test.YtgglemlhombgkaaKFnExactBestGiantQ1
import Derived.Test.YtgglemlhombgkaaKFnExactBestGiantQ4
import Derived.Test.YtgglemlhombgkaaKFnExactBestGiantQ5
namespace Go.Proofs.Ytgglemlhombgkaa.Pure
open Go.RowKit Go.Proofs.Ytgglemlhombgkaa.Z Go.Proofs.Ytgglemlhombgkaa.E Go.Proofs.YtgglemlhombgkaaW.PrintWords Go.Proofs.YtgglemlhombgkaaW.PrintLast Go.Proofs.YtgglemlhombgkaaW.PrintMore
abbrev Op := S69
abbrev LOp := S93
def toOp (x : LOp) : Op := ⟨x.f0, x.f1, x.f2⟩
/-! ### codes -/
end Go.Proofs.Ytgglemlhombgkaa.Pure
