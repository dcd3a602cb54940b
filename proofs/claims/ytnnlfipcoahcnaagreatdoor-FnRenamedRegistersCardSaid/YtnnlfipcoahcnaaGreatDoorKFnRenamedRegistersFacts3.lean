/- Facts of the whole program, each by the kernel: what was made. -/
import Derived.Test.YtnnlfipcoahcnaaGreatDoorRows
import Derived.JoinedOf
import Derived.KernelRfl
namespace Go.Proofs.YtnnlfipcoahcnaaGreatDoor.Facts
theorem make : Tryz.pinned.checked.prog.make = some ({ program := "", sum := "", func := "", spec := "" } : OpenClaim).make := by kernel_rfl
end Go.Proofs.YtnnlfipcoahcnaaGreatDoor.Facts
