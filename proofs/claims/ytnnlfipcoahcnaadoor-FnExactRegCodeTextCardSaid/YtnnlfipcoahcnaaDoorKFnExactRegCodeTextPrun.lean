/- Pure: code run on residues, and its plan. -/
import Derived.Test.YtnnlfipcoahcnaaDoorKFnExactRegCodeTextPreg2
import Derived.Test.YtnnlfipcoahcnaaDoorKFnExactRegCodeTextPcode
set_option linter.unusedVariables false
set_option linter.unusedSimpArgs false
namespace Go.Proofs.YtnnlfipcoahcnaaDoor.Pure
open Go.RowKit Go.Proofs.YtnnlfipcoahcnaaDoor.E Go.Proofs.YtnnlfipcoahcnaaDoor.P3 Go.Proofs.YtnnlfipcoahcnaaDoor.Frame Go.Proofs.YtnnlfipcoahcnaaDoorW.PrintLast Go.Proofs.YtnnlfipcoahcnaaDoorW.PrintMore
open Go.Proofs.YtnnlfipcoahcnaaDoorW.PrintWords hiding mn mx
def mulM (m x y : Int) : Int := (w64 (x * y)).tmod m
def runP (m : Int) : List SStep → List Int → List Int
  | [], v => v
  | y :: ys, v => runP m ys (v ++ [mulM m (rg v y.f0) (rg v y.f1)])
def runR (m : Int) : List SRegOp → List Int → List Int
  | [], v => v
  | y :: ys, v => runR m ys (v.set y.f0.toNat (mulM m (rg v y.f1) (rg v y.f2)))
/-- Registers hold the values that the code tells. -/
structure Rel (n : Nat) (l reg v : List Int) : Prop where
  len : l.length = n
  len2 : reg.length = n
  at_ : ∀ r, hs n r = true → rg l r ≠ -1 → (0 ≤ rg l r ∧ rg l r < (v.length : Int)) ∧ rg reg r = rg v (rg l r)
def insR : List Int → List Int → List Int → List Int
  | [], _, reg => reg
  | y :: ys, v, reg => insR ys (v.drop 1) (reg.set y.toNat (v.getD 0 0))
/-! the programs run -/
end Go.Proofs.YtnnlfipcoahcnaaDoor.Pure
