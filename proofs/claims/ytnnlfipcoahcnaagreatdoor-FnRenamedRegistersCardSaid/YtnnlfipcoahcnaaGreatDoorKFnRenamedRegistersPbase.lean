/- Pure: plans told equal, marked, held. -/
import Derived.Test.YtnnlfipcoahcnaaGreatDoorKFnRenamedRegistersEv
import Derived.Test.YtnnlfipcoahcnaaGreatDoorKFnRenamedRegistersG3
set_option linter.unusedVariables false
set_option linter.unusedSimpArgs false
namespace Go.Proofs.YtnnlfipcoahcnaaGreatDoor.Pure
open Go.RowKit Go.Proofs.YtnnlfipcoahcnaaGreatDoor.E Go.Proofs.YtnnlfipcoahcnaaGreatDoor.G3 Go.Proofs.YtnnlfipcoahcnaaGreatDoor.Frame Go.Proofs.YtnnlfipcoahcnaaGreatDoorW.PrintWords Go.Proofs.YtnnlfipcoahcnaaGreatDoorW.PrintLast Go.Proofs.YtnnlfipcoahcnaaGreatDoorW.PrintMore
theorem gt_nat {α : Type} {xs : List α} {j : Nat} (h : j < xs.length) : gt xs (j : Int) = some xs[j] := by
 unfold gt
 rw [if_pos (by omega), Int.toNat_natCast, List.getElem?_eq_getElem h]
theorem st_nat {α : Type} {xs : List α} {j : Nat} {v : α} (h : j < xs.length) : st xs (j : Int) v = some (xs.set j v) := by
 unfold st
 rw [if_pos (by omega), Int.toNat_natCast]
theorem w64_succ {j : Nat} (h : j < 9223372036854775807) : w64 ((j : Int) + 1) = ((j + 1 : Nat) : Int) := by
 rw [zb6 (by omega)]
 omega
theorem ap_ok {α : Type} {xs ys : List α} (h : xs.length + ys.length ≤ 1000000000) : ap xs ys = some (xs ++ ys) := by
 unfold ap
 rw [if_pos h]
/-! marks -/
def mkSteps (a : Int) (n : Nat) : List SStep := (List.range n).map fun (j : Nat) => ⟨a + 2 * (j : Int), a + 2 * (j : Int) + 1⟩
def mkInts (a : Int) (n : Nat) : List Int := (List.range n).map fun (j : Nat) => a + (j : Int)
theorem set_take {α : Type} {l m : List α} {j : Nat} {v : α} (hj : j < l.length) (hm : m.length = l.length) (hv : m[j]? = some v) : (m.take j ++ l.drop j).set j v = m.take (j + 1) ++ l.drop (j + 1) := by
 apply List.ext_getElem?
 intro i
 have h1 : (m.take j).length = j := by rw [List.length_take]; omega
 have h2 : (m.take (j + 1)).length = j + 1 := by rw [List.length_take]; omega
 rw [List.getElem?_set]
 by_cases hi : j = i
 ·subst hi
  rw [if_pos rfl, if_pos (by rw [List.length_append, h1, List.length_drop]; omega), List.getElem?_append_left (by omega), List.getElem?_take, if_pos (by omega), hv]
 ·rw [if_neg hi]
  by_cases hlt : i < j
  ·rw [List.getElem?_append_left (by omega), List.getElem?_append_left (by omega), List.getElem?_take, List.getElem?_take, if_pos (by omega), if_pos (by omega)]
  ·rw [List.getElem?_append_right (by omega), List.getElem?_append_right (by omega), h1, h2, List.getElem?_drop, List.getElem?_drop]
   congr 1
   omega
end Go.Proofs.YtnnlfipcoahcnaaGreatDoor.Pure
