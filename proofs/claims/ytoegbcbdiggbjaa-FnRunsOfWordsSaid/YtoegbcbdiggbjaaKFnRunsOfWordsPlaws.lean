/- Pure: what laws about plans ask: the same numbers, steps, plans; values renamed; copies. -/
import Derived.Test.YtoegbcbdiggbjaaKFnRunsOfWordsPval
set_option linter.unusedVariables false
set_option linter.unusedSimpArgs false
namespace Go.Proofs.Ytoegbcbdiggbjaa.Pure
open Go.RowKit Go.Proofs.Ytoegbcbdiggbjaa.E Go.Proofs.Ytoegbcbdiggbjaa.RW Go.Proofs.Ytoegbcbdiggbjaa.Frame Go.Proofs.YtoegbcbdiggbjaaW.PrintLast Go.Proofs.YtoegbcbdiggbjaaW.PrintMore
open Go.Proofs.YtoegbcbdiggbjaaW.PrintWords hiding mn mx
theorem cloneI_eq (l : List Int) (h : l.length ≤ 1000000) : slices_Clone_int_int.f l = some l := by
  unfold slices_Clone_int_int.f
  rw [ap_ok (by simp; omega)]
  rfl
def toldP (i : Int) (s : List SStep) (o : List Int) : Int × List SStep × List Int × Bool := if good i s o = true then (i, s, o, true) else (0, [], [], false)
/-- The places of another plan's values when its steps are put behind. -/
def bh (i : Int) : List SStep → List Int → List SStep → List Int × List SStep
  | [], p, s => (p, s)
  | y :: ys, p, s => bh i ys (p ++ [i + (s.length : Int)]) (s ++ [⟨mn (rg (p ++ [i + (s.length : Int)]) y.f0) (rg (p ++ [i + (s.length : Int)]) y.f1), mx (rg (p ++ [i + (s.length : Int)]) y.f0) (rg (p ++ [i + (s.length : Int)]) y.f1)⟩])
end Go.Proofs.Ytoegbcbdiggbjaa.Pure
