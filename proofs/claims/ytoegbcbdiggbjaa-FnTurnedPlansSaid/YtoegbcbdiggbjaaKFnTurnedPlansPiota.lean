/- Pure: the first numbers. -/
import Derived.Test.YtoegbcbdiggbjaaKFnTurnedPlansPord
set_option linter.unusedVariables false
set_option linter.unusedSimpArgs false
namespace Go.Proofs.Ytoegbcbdiggbjaa.Pure
open Go.RowKit Go.Proofs.Ytoegbcbdiggbjaa.E Go.Proofs.Ytoegbcbdiggbjaa.TU Go.Proofs.Ytoegbcbdiggbjaa.Frame Go.Proofs.YtoegbcbdiggbjaaW.PrintLast Go.Proofs.YtoegbcbdiggbjaaW.PrintMore
open Go.Proofs.YtoegbcbdiggbjaaW.PrintWords hiding mn mx
def iota (j : Nat) : List Int := (List.range j).map fun (m : Nat) => (m : Int)
end Go.Proofs.Ytoegbcbdiggbjaa.Pure
