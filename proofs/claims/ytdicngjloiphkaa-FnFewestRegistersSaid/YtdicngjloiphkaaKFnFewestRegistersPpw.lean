/- Pure: the powers of a plan told by values; another plan's steps behind; sums of rows. -/
import Derived.Test.YtdicngjloiphkaaKFnFewestRegistersPlaws
import Derived.Test.YtdicngjloiphkaaKFnFewestRegistersPsame
import Derived.Test.YtdicngjloiphkaaKFnFewestRegistersPtrim
set_option linter.unusedVariables false
set_option linter.unusedSimpArgs false
namespace Go.Proofs.Ytdicngjloiphkaa.Pure
open Go.RowKit Go.Proofs.Ytdicngjloiphkaa.E Go.Proofs.Ytdicngjloiphkaa.FW Go.Proofs.Ytdicngjloiphkaa.Frame Go.Proofs.YtdicngjloiphkaaW.PrintLast Go.Proofs.YtdicngjloiphkaaW.PrintMore
open Go.Proofs.YtdicngjloiphkaaW.PrintWords hiding mn mx
/-! another plan's steps behind -/
end Go.Proofs.Ytdicngjloiphkaa.Pure
