/- Facts of the whole program, each by the kernel: what may enter. -/
import Derived.Test.YtobaolbilllfgaaRows
import Derived.JoinedOf
import Derived.KernelRfl
namespace Go.Proofs.Ytobaolbilllfgaa.Facts
theorem mayEnter : Try.pinned.checked.prog.mayEnter = true := by kernel_rfl
end Go.Proofs.Ytobaolbilllfgaa.Facts
