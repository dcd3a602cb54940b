/- Facts of the whole program, each by the kernel: what is lifted. -/
import Derived.Test.YtiaohjciddbpoaaRows
import Derived.JoinedOf
import Derived.KernelRfl
namespace Go.Proofs.Ytiaohjciddbpoaa.Facts
theorem lifts : Try.pinned.checked.prog.liftsFinal = ({ program := "", sum := "", func := "", spec := "" } : OpenClaim).lifted := by kernel_rfl
end Go.Proofs.Ytiaohjciddbpoaa.Facts
