/- Facts of the whole program, each by the kernel: what may enter. -/
import Derived.Test.YtoegbcbdiggbjaaRows
import Derived.JoinedOf
import Derived.KernelRfl
namespace Go.Proofs.Ytoegbcbdiggbjaa.Facts
theorem mayEnter : Try.pinned.checked.prog.mayEnter = true := by kernel_rfl
end Go.Proofs.Ytoegbcbdiggbjaa.Facts
