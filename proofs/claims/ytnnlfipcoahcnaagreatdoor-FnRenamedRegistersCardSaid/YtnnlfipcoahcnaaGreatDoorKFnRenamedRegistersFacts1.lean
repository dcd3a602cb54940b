/- Facts of the whole program, each by the kernel: what may enter. -/
import Derived.Test.YtnnlfipcoahcnaaGreatDoorRows
import Derived.JoinedOf
import Derived.KernelRfl
namespace Go.Proofs.YtnnlfipcoahcnaaGreatDoor.Facts
theorem mayEnter : Tryz.pinned.checked.prog.mayEnter = true := by kernel_rfl
end Go.Proofs.YtnnlfipcoahcnaaGreatDoor.Facts
