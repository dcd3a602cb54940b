/- Pure: powers of outputs compared, on both sides. -/
import Derived.Test.YtdicngjloiphkaaKFnFewestRegistersPord
set_option linter.unusedVariables false
set_option linter.unusedSimpArgs false
namespace Go.Proofs.Ytdicngjloiphkaa.Pure
open Go.RowKit Go.Proofs.Ytdicngjloiphkaa.E Go.Proofs.Ytdicngjloiphkaa.FW Go.Proofs.Ytdicngjloiphkaa.Frame Go.Proofs.YtdicngjloiphkaaW.PrintLast Go.Proofs.YtdicngjloiphkaaW.PrintMore
open Go.Proofs.YtdicngjloiphkaaW.PrintWords hiding mn mx
/-- The powers of the outputs. -/
def pw (I : Nat) (s : List SStep) (o : List Int) : List (List Int) := o.map fun v => (exps I s).getD v.toNat []
/-- Are the powers of two plans the same? -/
def sameB (I : Nat) (s : List SStep) (o : List Int) (I' : Nat) (s' : List SStep) (o' : List Int) : Bool := decide (I = I') && decide (pw I s o = pw I' s' o')
end Go.Proofs.Ytdicngjloiphkaa.Pure
