/- The engine: texts cut, bytes made a text. -/
import Derived.Test.YtobaolbilllfgaaKFnRunsOfPermutationsOpr
import Derived.Test.YtobaolbilllfgaaKFnRunsOfPermutationsWFour
import Derived.Laws.BytesArg
import Derived.Laws.Strings2
import Derived.Laws.Slices
set_option linter.unusedVariables false
set_option linter.unusedSimpArgs false
namespace Go.Proofs.Ytobaolbilllfgaa.Frame
open Go.RowKit Go.Proofs.YtobaolbilllfgaaW.PrintWords Go.Proofs.YtobaolbilllfgaaW.PrintLast
section
variable {P : Program} {N : Md} {S : World → Prop} {e : Nat → Value} {dst : Option Tmp} {ty : TypeId} {pos : String} {af : Array Edge} {g : Option (Nat × Bool)} {x y : Operand} {t : TypeId}
/-- a text cut -/
def cts (s : ByteArray) (l h : Int) : Option ByteArray := if 0 ≤ l ∧ l ≤ h ∧ h ≤ (s.size : Int) then some (s.extract l.toNat h.toNat) else none
end
section
variable {P : Program} {N : Md} {w0 ws : World} {P0 : Nat → Prop} {ops : Array Oper} {LS L : List (Thing w0.heap.size)} {ds : List Nat} {fuel : Nat} {l : Array Bool} {Q : Post} {e : Nat → Value}
end
/-! ### a range over slices.Backward, its state told with letters -/
def okB {β σ : Type} (f : β → σ → Option σ) (xs : List β) : Nat → σ → Bool
  | 0, _ => true
  | n + 1, s => xs.all fun x => match f x s with
    | none => false
    | some s' => okB f xs n s'
def stB {β σ : Type} (f : β → σ → Option σ) (s : σ) (x : β) : σ := (f x s).getD s
/-- What a range backward hands on: every round that might come must be right. -/
def rngB {α σ : Type} (zs : List α) (f : Int × α → σ → Option σ) (s0 : σ) : Option σ := if okB f (bwL zs) zs.length s0 = true then some ((bwL zs).foldl (stB f) s0) else none
section
variable {P : Program} {w0 w : World} {P1 : Nat → Prop} {nt : Nat} {e : Nat → Value} {g : Operand} {ps : Array Tmp} {assign body : Code} {Q : Post}
end
section
variable {P : Program} {w0 ws w : World} {P0 : Nat → Prop} {L L' : List (Thing w0.heap.size)} {e : Nat → Value}
end
end Go.Proofs.Ytobaolbilllfgaa.Frame
