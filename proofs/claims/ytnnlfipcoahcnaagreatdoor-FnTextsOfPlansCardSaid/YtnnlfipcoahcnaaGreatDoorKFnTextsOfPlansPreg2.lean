/- Pure: code of registers: the reference's plan. -/
import Derived.Test.YtnnlfipcoahcnaaGreatDoorKFnTextsOfPlansPreg
set_option linter.unusedVariables false
set_option linter.unusedSimpArgs false
namespace Go.Proofs.YtnnlfipcoahcnaaGreatDoor.Pure
open Go.RowKit Go.Proofs.YtnnlfipcoahcnaaGreatDoor.E Go.Proofs.YtnnlfipcoahcnaaGreatDoor.G2 Go.Proofs.YtnnlfipcoahcnaaGreatDoor.Frame Go.Proofs.YtnnlfipcoahcnaaGreatDoorW.PrintLast Go.Proofs.YtnnlfipcoahcnaaGreatDoorW.PrintMore
open Go.Proofs.YtnnlfipcoahcnaaGreatDoorW.PrintWords hiding mn mx
/-- No number twice. -/
def dst (p : List Int) : List Int → Bool
  | [] => true
  | y :: ys => !decide (y ∈ p) && dst (p ++ [y]) ys
def insS : List Int → List Int → Int → List Int
  | [], l, _ => l
  | y :: ys, l, i => insS ys (l.set y.toNat i) (i + 1)
end Go.Proofs.YtnnlfipcoahcnaaGreatDoor.Pure
