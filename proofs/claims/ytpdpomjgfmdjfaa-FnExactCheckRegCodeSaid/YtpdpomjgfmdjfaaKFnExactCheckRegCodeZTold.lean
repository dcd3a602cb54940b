/- A plan if it is one, as the program says it. -/
import Derived.Test.YtpdpomjgfmdjfaaKFnExactCheckRegCodeZPl
import Derived.Test.YtpdpomjgfmdjfaaKFnExactCheckRegCodeQ0
import Derived.Test.YtpdpomjgfmdjfaaKFnExactCheckRegCodeQ3
namespace Go.Proofs.Ytpdpomjgfmdjfaa.Pure
open Go.RowKit Go.Proofs.Ytpdpomjgfmdjfaa.Z Go.Proofs.Ytpdpomjgfmdjfaa.E Go.Proofs.YtpdpomjgfmdjfaaW.PrintWords Go.Proofs.YtpdpomjgfmdjfaaW.PrintLast Go.Proofs.YtpdpomjgfmdjfaaW.PrintMore
theorem told_ev (n : Int) (l : List St) (o : List Int) : Ev (fun k => impl_told.f k n l o) (if goodB n l o = true then (n, l, o, true) else (0, [], [], false)) := by
 unfold impl_told.f
 refine bind (IsPlan_ev n l o) ?_
 cases goodB n l o with
 | true => exact pos rfl (ret _)
 | false => exact neg (by simp) (ret _)
end Go.Proofs.Ytpdpomjgfmdjfaa.Pure
