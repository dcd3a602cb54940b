-- Printed words of the kit, packed by a program of this session (wip/tools/claimpack.py): theorems that the claim doesn't name are left out.
import Derived.Test.YtpdpomjgfmdjfaaKFnExactCheckRegCodeWInv
import Derived.Test.YtpdpomjgfmdjfaaKFnExactCheckRegCodeWFootNe
namespace Go.Proofs.YtpdpomjgfmdjfaaW.PrintWords
open Go.RowKit
end Go.Proofs.YtpdpomjgfmdjfaaW.PrintWords
namespace Go.Proofs.YtpdpomjgfmdjfaaW.PrintLast
section
variable {ops : Array Oper} {a : Act} {o og : Oper} {g : Nat} {t : Tmp} {u : Bool}
end
end Go.Proofs.YtpdpomjgfmdjfaaW.PrintLast
