/- Pure: plans cut in two: what lives at a cut, both parts, the whole again; the law. -/
import Derived.Test.YtoegbcbdiggbjaaKFnRunsOfWordsPlaws
import Derived.Test.YtoegbcbdiggbjaaKFnRunsOfWordsPdraw
set_option linter.unusedVariables false
set_option linter.unusedSimpArgs false
namespace Go.Proofs.Ytoegbcbdiggbjaa.Pure
open Go.RowKit Go.Proofs.Ytoegbcbdiggbjaa.E Go.Proofs.Ytoegbcbdiggbjaa.RW Go.Proofs.Ytoegbcbdiggbjaa.Frame Go.Proofs.YtoegbcbdiggbjaaW.PrintLast Go.Proofs.YtoegbcbdiggbjaaW.PrintMore
open Go.Proofs.YtoegbcbdiggbjaaW.PrintWords hiding mn mx
/-! lists that rise -/
/-! what lives at a cut -/
def usd (ys : List SStep) (u : Int) : Bool := ys.any fun y => decide (u = y.f0) || decide (u = y.f1)
def lv (s : List SStep) (o : List Int) (k : Nat) (u : Int) : Bool := decide (u ∈ o) || usd (s.drop k) u
/-! where values go -/
def idx : List Int → Int → Int → Int
  | [], _, _ => -1
  | y :: ys, v, j => if y = v then j else idx ys v (j + 1)
/-- The number of a value in the second part. -/
def later (I k : Nat) (L : List Int) (u : Int) : Int := if u < ((I + k : Nat) : Int) then idx L u 0 else (L.length : Int) + u - (I : Int) - (k : Int)
def lt_ (I k : Nat) (L : List Int) (y : SStep) : SStep := ⟨mn (later I k L y.f0) (later I k L y.f1), mx (later I k L y.f0) (later I k L y.f1)⟩
/-- A value that the second part may use. -/
def Kn (I k : Nat) (L : List Int) (n : Nat) (u : Int) : Prop := (u < ((I + k : Nat) : Int) ∧ u ∈ L) ∨ (((I + k : Nat) : Int) ≤ u ∧ u < ((n : Nat) : Int))
/-! the program's places -/
/-! the second part's values -/
end Go.Proofs.Ytoegbcbdiggbjaa.Pure
