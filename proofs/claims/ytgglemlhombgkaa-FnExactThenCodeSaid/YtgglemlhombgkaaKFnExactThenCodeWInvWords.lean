-- Printed words of the kit, packed by a program of this session (wip/tools/claimpack.py): theorems that the claim doesn't name are left out.
import Derived.Test.YtgglemlhombgkaaKFnExactThenCodeWInv
import Derived.Test.YtgglemlhombgkaaKFnExactThenCodeWFootNe
namespace Go.Proofs.YtgglemlhombgkaaW.PrintWords
open Go.RowKit
end Go.Proofs.YtgglemlhombgkaaW.PrintWords
namespace Go.Proofs.YtgglemlhombgkaaW.PrintLast
section
variable {ops : Array Oper} {a : Act} {o og : Oper} {g : Nat} {t : Tmp} {u : Bool}
end
end Go.Proofs.YtgglemlhombgkaaW.PrintLast
