/- Pure: the used steps of a plan, and the plan of these alone, as the documentation has them. -/
import Derived.Test.YtoegbcbdiggbjaaKFnJoinedPlansPtrim
set_option linter.unusedVariables false
set_option linter.unusedSimpArgs false
namespace Go.Proofs.Ytoegbcbdiggbjaa.Pure
open Go.RowKit Go.Proofs.Ytoegbcbdiggbjaa.E Go.Proofs.Ytoegbcbdiggbjaa.JP Go.Proofs.Ytoegbcbdiggbjaa.Frame Go.Proofs.YtoegbcbdiggbjaaW.PrintLast Go.Proofs.YtoegbcbdiggbjaaW.PrintMore
open Go.Proofs.YtoegbcbdiggbjaaW.PrintWords hiding mn mx
/-- The numbers of the used steps. -/
def kp (I : Nat) (s : List SStep) (o : List Int) : List Int := vals s.length fun j => us I s o ((I : Int) + j)
/-! the plan of some steps -/
def sp (I : Nat) (U : Int → Bool) (s : List SStep) (i : Int) : SStep := ⟨pl I U (s.getD i.toNat ⟨0, 0⟩).f0, pl I U (s.getD i.toNat ⟨0, 0⟩).f1⟩
/-- The used steps alone. -/
def kS (I : Nat) (s : List SStep) (o : List Int) : List SStep := ts I (us I s o) s
def kO (I : Nat) (s : List SStep) (o : List Int) : List Int := o.map (pl I (us I s o))
end Go.Proofs.Ytoegbcbdiggbjaa.Pure
