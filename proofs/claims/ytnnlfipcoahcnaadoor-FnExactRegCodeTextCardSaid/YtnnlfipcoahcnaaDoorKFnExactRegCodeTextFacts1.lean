/- Facts of the whole program, each by the kernel: what may enter. -/
import Derived.Test.YtnnlfipcoahcnaaDoorRows
import Derived.JoinedOf
import Derived.KernelRfl
namespace Go.Proofs.YtnnlfipcoahcnaaDoor.Facts
theorem mayEnter : Tryd.pinned.checked.prog.mayEnter = true := by kernel_rfl
end Go.Proofs.YtnnlfipcoahcnaaDoor.Facts
