/- Facts of the whole program, each by the kernel: what was made. -/
import Derived.Test.YtiaohjciddbpoaaRows
import Derived.JoinedOf
import Derived.KernelRfl
namespace Go.Proofs.Ytiaohjciddbpoaa.Facts
theorem make : Try.pinned.checked.prog.make = some ({ program := "", sum := "", func := "", spec := "" } : OpenClaim).make := by kernel_rfl
end Go.Proofs.Ytiaohjciddbpoaa.Facts
