-- Printed words of the kit, packed by a program of this session (wip/tools/claimpack.py): theorems that the claim doesn't name are left out.
import Derived.Test.YtpdpomjgfmdjfaaKFnExactCheckRegCodeWWords
import Derived.Laws.StructEq
/-! ### 53. '==' of structs as_ one Bool -/
namespace Go.Proofs.YtpdpomjgfmdjfaaW.PrintWords
open Go.RowKit
section
variable {P : Program} {d : Nat} {xs ys : Array Value} {f : Field} {fs : List Field} {a b : Value} {r s : Bool} {w : World}
end
end Go.Proofs.YtpdpomjgfmdjfaaW.PrintWords
