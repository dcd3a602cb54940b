/- Pure: laws' arguments: their sizes, their copies; lists searched. -/
import Derived.Test.YtoegbcbdiggbjaaKFnRunsOfWordsPgood2
set_option linter.unusedVariables false
set_option linter.unusedSimpArgs false
namespace Go.Proofs.Ytoegbcbdiggbjaa.Pure
open Go.RowKit Go.Proofs.Ytoegbcbdiggbjaa.E Go.Proofs.Ytoegbcbdiggbjaa.RW Go.Proofs.Ytoegbcbdiggbjaa.Frame Go.Proofs.YtoegbcbdiggbjaaW.PrintLast Go.Proofs.YtoegbcbdiggbjaaW.PrintMore
open Go.Proofs.YtoegbcbdiggbjaaW.PrintWords hiding mn mx
/-! lists searched -/
theorem l1Own_eq (l : List Int) (h : l.length ≤ 1000000000) : spec_l1Own.f l = some l := by
  unfold spec_l1Own.f
  rw [ap_ok (by simpa using h)]
  rfl
/-- A number put into a rising list, as the code does it. -/
def put : List Int → Int → List Int
  | [], a => [a]
  | y :: ys, a => if y < a then y :: put ys a else if y = a then y :: ys else a :: y :: ys
def pre : List Int → Int → Nat
  | [], _ => 0
  | y :: ys, a => if y < a then pre ys a + 1 else 0
/-! rows of bools as functions -/
def tb (M : Nat) (f : Int → Bool) : List Bool := (List.range M).map fun (j : Nat) => f (j : Int)
end Go.Proofs.Ytoegbcbdiggbjaa.Pure
