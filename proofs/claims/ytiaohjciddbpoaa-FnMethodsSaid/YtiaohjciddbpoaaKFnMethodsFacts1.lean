/- Facts of the whole program, each by the kernel: what may enter. -/
import Derived.Test.YtiaohjciddbpoaaRows
import Derived.JoinedOf
import Derived.KernelRfl
namespace Go.Proofs.Ytiaohjciddbpoaa.Facts
theorem mayEnter : Try.pinned.checked.prog.mayEnter = true := by kernel_rfl
end Go.Proofs.Ytiaohjciddbpoaa.Facts
