/- A plan if it is one, as the reference says it. -/
import Derived.Test.YtpdpomjgfmdjfaaKFnExactSquaresPlanZPl
import Derived.Test.YtpdpomjgfmdjfaaKFnExactSquaresPlanQ0
import Derived.Test.YtpdpomjgfmdjfaaKFnExactSquaresPlanQ3
namespace Go.Proofs.Ytpdpomjgfmdjfaa.Pure
open Go.RowKit Go.Proofs.Ytpdpomjgfmdjfaa.Z Go.Proofs.Ytpdpomjgfmdjfaa.E Go.Proofs.YtpdpomjgfmdjfaaW.PrintWords Go.Proofs.YtpdpomjgfmdjfaaW.PrintLast Go.Proofs.YtpdpomjgfmdjfaaW.PrintMore
theorem plIf_ev (n : Int) (l : List St) (o : List Int) : Ev (fun k => spec_plIf.f k n l o) (if goodB n l o = true then (n, l, o, true) else (0, [], [], false)) := by
  unfold spec_plIf.f
  refine bind (plGood_ev n l o) ?_
  cases goodB n l o with
  | true => exact pos rfl (ret _)
  | false => exact neg (by simp) (ret _)
end Go.Proofs.Ytpdpomjgfmdjfaa.Pure
