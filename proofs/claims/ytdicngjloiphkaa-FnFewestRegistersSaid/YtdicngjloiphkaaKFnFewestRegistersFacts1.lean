/- Facts of the whole program, each by the kernel: what may enter. -/
import Derived.Test.YtdicngjloiphkaaRows
import Derived.JoinedOf
import Derived.KernelRfl
namespace Go.Proofs.Ytdicngjloiphkaa.Facts
theorem mayEnter : Try.pinned.checked.prog.mayEnter = true := by kernel_rfl
end Go.Proofs.Ytdicngjloiphkaa.Facts
