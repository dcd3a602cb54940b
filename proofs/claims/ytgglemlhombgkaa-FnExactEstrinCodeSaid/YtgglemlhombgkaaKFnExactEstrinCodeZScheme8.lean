/- Powers and groups: what the reference writes is what the program writes. -/
import Derived.Test.YtgglemlhombgkaaKFnExactEstrinCodeZCoefs8
import Derived.Test.YtgglemlhombgkaaKFnExactEstrinCodeQ0
import Derived.Test.YtgglemlhombgkaaKFnExactEstrinCodeQ3
import Derived.Test.YtgglemlhombgkaaKFnExactEstrinCodeQ4
namespace Go.Proofs.Ytgglemlhombgkaa.Pure
open Go.RowKit Go.Proofs.Ytgglemlhombgkaa.Z Go.Proofs.Ytgglemlhombgkaa.E Go.Proofs.YtgglemlhombgkaaW.PrintWords Go.Proofs.YtgglemlhombgkaaW.PrintLast Go.Proofs.YtgglemlhombgkaaW.PrintMore
end Go.Proofs.Ytgglemlhombgkaa.Pure
