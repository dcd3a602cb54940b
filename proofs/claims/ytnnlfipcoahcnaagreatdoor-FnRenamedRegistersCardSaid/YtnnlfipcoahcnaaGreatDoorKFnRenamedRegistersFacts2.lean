/- Facts of the whole program, each by the kernel: what is lifted. -/
import Derived.Test.YtnnlfipcoahcnaaGreatDoorRows
import Derived.JoinedOf
import Derived.KernelRfl
namespace Go.Proofs.YtnnlfipcoahcnaaGreatDoor.Facts
theorem lifts : Tryz.pinned.checked.prog.liftsFinal = ({ program := "", sum := "", func := "", spec := "" } : OpenClaim).lifted := by kernel_rfl
end Go.Proofs.YtnnlfipcoahcnaaGreatDoor.Facts
