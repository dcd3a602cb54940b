/- Facts of the whole program, each by the kernel: what was made. -/
import Derived.Test.YtnnlfipcoahcnaaDoorRows
import Derived.JoinedOf
import Derived.KernelRfl
namespace Go.Proofs.YtnnlfipcoahcnaaDoor.Facts
theorem make : Tryd.pinned.checked.prog.make = some ({ program := "", sum := "", func := "", spec := "" } : OpenClaim).make := by kernel_rfl
end Go.Proofs.YtnnlfipcoahcnaaDoor.Facts
