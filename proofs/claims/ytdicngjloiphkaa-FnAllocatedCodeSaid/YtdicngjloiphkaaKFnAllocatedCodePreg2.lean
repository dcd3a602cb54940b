/- Pure: code of registers: the reference's plan. -/
import Derived.Test.YtdicngjloiphkaaKFnAllocatedCodePreg
set_option linter.unusedVariables false
set_option linter.unusedSimpArgs false
namespace Go.Proofs.Ytdicngjloiphkaa.Pure
open Go.RowKit Go.Proofs.Ytdicngjloiphkaa.E Go.Proofs.Ytdicngjloiphkaa.L7 Go.Proofs.Ytdicngjloiphkaa.Frame Go.Proofs.YtdicngjloiphkaaW.PrintLast Go.Proofs.YtdicngjloiphkaaW.PrintMore
open Go.Proofs.YtdicngjloiphkaaW.PrintWords hiding mn mx
/-- No number twice. -/
def dst (p : List Int) : List Int → Bool
  | [] => true
  | y :: ys => !decide (y ∈ p) && dst (p ++ [y]) ys
def opIn (n : Nat) (y : SRegOp) : Bool := hs n y.f0 && (hs n y.f1 && hs n y.f2)
def shB (n : Nat) (l1 : List Int) (l2 : List SRegOp) (l3 : List Int) : Bool := decide (1 ≤ l1.length ∧ l1.length ≤ 6) && (decide (l2.length ≤ 40) && (decide (l3.length ≤ 6) && (dst [] l1 && (l2.all (opIn n) && (l1.all (hs n) && l3.all (hs n))))))
def insS : List Int → List Int → Int → List Int
  | [], l, _ => l
  | y :: ys, l, i => insS ys (l.set y.toNat i) (i + 1)
end Go.Proofs.Ytdicngjloiphkaa.Pure
