/- Pure: laws' arguments: their sizes, their copies; lists searched. -/
import Derived.Test.YtnnlfipcoahcnaaGreatDoorKFnTextsOfPlansPgood2
set_option linter.unusedVariables false
set_option linter.unusedSimpArgs false
namespace Go.Proofs.YtnnlfipcoahcnaaGreatDoor.Pure
open Go.RowKit Go.Proofs.YtnnlfipcoahcnaaGreatDoor.E Go.Proofs.YtnnlfipcoahcnaaGreatDoor.G2 Go.Proofs.YtnnlfipcoahcnaaGreatDoor.Frame Go.Proofs.YtnnlfipcoahcnaaGreatDoorW.PrintLast Go.Proofs.YtnnlfipcoahcnaaGreatDoorW.PrintMore
open Go.Proofs.YtnnlfipcoahcnaaGreatDoorW.PrintWords hiding mn mx
/-! lists searched -/
/-- A number put into a rising list, as the code does it. -/
def put : List Int → Int → List Int
  | [], a => [a]
  | y :: ys, a => if y < a then y :: put ys a else if y = a then y :: ys else a :: y :: ys
def pre : List Int → Int → Nat
  | [], _ => 0
  | y :: ys, a => if y < a then pre ys a + 1 else 0
/-! rows of bools as functions -/
def tb (M : Nat) (f : Int → Bool) : List Bool := (List.range M).map fun (j : Nat) => f (j : Int)
end Go.Proofs.YtnnlfipcoahcnaaGreatDoor.Pure
