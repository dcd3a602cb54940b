/- Pure: code of registers: the reference's plan. -/
import Derived.Test.YtoegbcbdiggbjaaKFnRunsOfWordsPreg
set_option linter.unusedVariables false
set_option linter.unusedSimpArgs false
namespace Go.Proofs.Ytoegbcbdiggbjaa.Pure
open Go.RowKit Go.Proofs.Ytoegbcbdiggbjaa.E Go.Proofs.Ytoegbcbdiggbjaa.RW Go.Proofs.Ytoegbcbdiggbjaa.Frame Go.Proofs.YtoegbcbdiggbjaaW.PrintLast Go.Proofs.YtoegbcbdiggbjaaW.PrintMore
open Go.Proofs.YtoegbcbdiggbjaaW.PrintWords hiding mn mx
theorem least_eq (a b : Int) : spec_l1Least.f a b = some (mn a b) := by
  unfold spec_l1Least.f mn
  split <;> split <;> simp <;> omega
theorem most_eq (a b : Int) : spec_l1Most.f a b = some (mx a b) := by
  unfold spec_l1Most.f mx
  split <;> split <;> simp <;> omega
/-- No number twice. -/
def dst (p : List Int) : List Int → Bool
  | [] => true
  | y :: ys => !decide (y ∈ p) && dst (p ++ [y]) ys
def insS : List Int → List Int → Int → List Int
  | [], l, _ => l
  | y :: ys, l, i => insS ys (l.set y.toNat i) (i + 1)
end Go.Proofs.Ytoegbcbdiggbjaa.Pure
