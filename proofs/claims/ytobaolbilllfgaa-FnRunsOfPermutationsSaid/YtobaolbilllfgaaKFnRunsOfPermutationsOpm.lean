/- The engine's maps of whole numbers: the map's block is no cells, so it stays while frames are written; at a store the frame begins anew. -/
import Derived.Test.YtobaolbilllfgaaKFnRunsOfPermutationsOps
import Derived.Maps.OwnIn
import Derived.Maps.Views
set_option linter.unusedVariables false
set_option linter.unusedSimpArgs false
namespace Go.Proofs.Ytobaolbilllfgaa.Frame
open Go.RowKit Go.Proofs.YtobaolbilllfgaaW.PrintWords
/-- What a map says: its entries, the latest first. -/
def mlk : List (Int × Int) → Int → Int
  | [], _ => 0
  | h :: t, x => if x = h.1 then h.2 else mlk t x
def mget (m : List (Int × Int)) (x : Int) : Option Int := if (Lit.int .i64 x).wf = true then some (mlk m x) else none
def mput (m : List (Int × Int)) (x v : Int) : Option (List (Int × Int)) := if (Lit.int .i64 x).wf = true ∧ (Lit.int .i64 v).wf = true ∧ m.length < 1000000 then some ((x, v) :: m) else none
def MapAt (P : Program) (k e : TypeId) (b : Nat) (m : List (Int × Int)) (w : World) : Prop := ∃ D : DataW Unit, w.ownsMap P k (plainElem P e) b m.length D ∧ Maps.IsMap D ∧ ∀ x, (Lit.int .i64 x).wf = true → D.atKey (.int .i64 x) (.lit (.int .i64 0)) = .lit (.int .i64 (mlk m x))
section
variable {P : Program} {N : Md} {w0 ws wo : World} {P0 Po : Nat → Prop} {ops : Array Oper} {Q : Post} {ev_ : Nat → Value} {L : List (Thing w0.heap.size)} {o : Oper} {rest : List Oper} {k e t : TypeId} {b : Nat} {m : List (Int × Int)} {w : World}
/-- The frame begins anew; what it comes to is told from where it began first. -/
def Cv (w0 ws : World) (P0 : Nat → Prop) (wo : World) (Po : Nat → Prop) : Prop := ∀ (w' : World) (L' : List (Thing w0.heap.size)), Fr w0 ws P0 L' w' → Fr w0 wo Po L' w'
theorem Cv.refl : Cv w0 ws P0 ws P0 := fun _ _ h => h
/-! a loop that stores into the map -/
/-! ways meet -/
end
end Go.Proofs.Ytobaolbilllfgaa.Frame
