/- The engine's slices that are told cell by cell: literals as boxes, loops of so many rounds. -/
import Derived.Test.YtobaolbilllfgaaKFnRunsOfPermutationsOpm
import Derived.LoopNIn
set_option linter.unusedVariables false
set_option linter.unusedSimpArgs false
namespace Go.Proofs.Ytobaolbilllfgaa.Frame
open Go.RowKit Go.Proofs.YtobaolbilllfgaaW.PrintWords
section
variable {P : Program} {N : Md} {w0 ws : World} {P0 : Nat → Prop} {ops : Array Oper} {Q : Post} {e : Nat → Value} {L : List (Thing w0.heap.size)} {c : Code}
/-- A loop of at most m rounds, walked round by round. -/
def Rn (P : Program) (N : Md) (w0 ws : World) (P0 : Nat → Prop) (c : Code) (Q : Post) (m : Nat) (e : Nat → Value) (L : List (Thing w0.heap.size)) : Prop := ∀ w, Fr w0 ws P0 L w → Code.roundsIn N.F 0 P c Q m (act N e) w
end
section
variable {P : Program} {N : Md} {w0 ws : World} {P0 : Nat → Prop} {e : Nat → Value} {L : List (Thing w0.heap.size)} {d : Tmp} {ty t u : TypeId} {pos : String} {af : Array Edge} {g : Option (Nat × Bool)} {x : Operand} {v : Value}
end
/-! longer rows of letters -/
end Go.Proofs.Ytobaolbilllfgaa.Frame
