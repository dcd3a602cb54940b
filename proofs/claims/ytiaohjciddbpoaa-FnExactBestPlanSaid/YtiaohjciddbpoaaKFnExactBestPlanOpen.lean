/- Arguments of the laws opened: a slice of whole numbers, a slice of structs of whole numbers, as lists that the memory holds. -/
import Derived.Test.YtiaohjciddbpoaaKFnExactBestPlanWWords
import Derived.Deep.Slices
import Derived.Deep.Fields
import Derived.ChangeSame
import Derived.ChangeSlices
import Derived.Lib.SmallJoins
namespace Go.Proofs.Ytiaohjciddbpoaa.Open
open Go.ChangeShapes Go.WideShapes Go.Deep Go.RowKit Go.Proofs.YtiaohjciddbpoaaW.PrintWords
variable {H : Type} {enc : TypeId × Value → H} {P : Program} {w : World} {base : Nat} {spare : Nat → Bool} {held : Bool}

end Go.Proofs.Ytiaohjciddbpoaa.Open
