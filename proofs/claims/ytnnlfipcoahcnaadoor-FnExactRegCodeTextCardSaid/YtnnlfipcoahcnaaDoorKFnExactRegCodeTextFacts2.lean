/- Facts of the whole program, each by the kernel: what is lifted. -/
import Derived.Test.YtnnlfipcoahcnaaDoorRows
import Derived.JoinedOf
import Derived.KernelRfl
namespace Go.Proofs.YtnnlfipcoahcnaaDoor.Facts
theorem lifts : Tryd.pinned.checked.prog.liftsFinal = ({ program := "", sum := "", func := "", spec := "" } : OpenClaim).lifted := by kernel_rfl
end Go.Proofs.YtnnlfipcoahcnaaDoor.Facts
