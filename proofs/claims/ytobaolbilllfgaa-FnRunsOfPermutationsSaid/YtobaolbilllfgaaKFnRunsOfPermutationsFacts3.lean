/- Facts of the whole program, each by the kernel: what was made. -/
import Derived.Test.YtobaolbilllfgaaRows
import Derived.JoinedOf
import Derived.KernelRfl
namespace Go.Proofs.Ytobaolbilllfgaa.Facts
theorem make : Try.pinned.checked.prog.make = some ({ program := "", sum := "", func := "", spec := "" } : OpenClaim).make := by kernel_rfl
end Go.Proofs.Ytobaolbilllfgaa.Facts
