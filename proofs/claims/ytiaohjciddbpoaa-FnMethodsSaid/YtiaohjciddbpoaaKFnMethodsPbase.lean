/- Pure: plans told equal, marked, held. -/
import Derived.Test.YtiaohjciddbpoaaKFnMethodsEv
import Derived.Test.YtiaohjciddbpoaaKFnMethodsM5
set_option linter.unusedVariables false
set_option linter.unusedSimpArgs false
namespace Go.Proofs.Ytiaohjciddbpoaa.Pure
open Go.RowKit Go.Proofs.Ytiaohjciddbpoaa.E Go.Proofs.Ytiaohjciddbpoaa.M5 Go.Proofs.Ytiaohjciddbpoaa.Frame Go.Proofs.YtiaohjciddbpoaaW.PrintWords Go.Proofs.YtiaohjciddbpoaaW.PrintLast Go.Proofs.YtiaohjciddbpoaaW.PrintMore
theorem gt_nat {α : Type} {xs : List α} {j : Nat} (h : j < xs.length) : gt xs (j : Int) = some xs[j] := by
 unfold gt
 rw [if_pos (by omega), Int.toNat_natCast, List.getElem?_eq_getElem h]
theorem st_nat {α : Type} {xs : List α} {j : Nat} {v : α} (h : j < xs.length) : st xs (j : Int) v = some (xs.set j v) := by
 unfold st
 rw [if_pos (by omega), Int.toNat_natCast]
theorem w64_succ {j : Nat} (h : j < 9223372036854775807) : w64 ((j : Int) + 1) = ((j + 1 : Nat) : Int) := by
 rw [zam (by omega)]
 omega
theorem ap_ok {α : Type} {xs ys : List α} (h : xs.length + ys.length ≤ 1000000000) : ap xs ys = some (xs ++ ys) := by
 unfold ap
 rw [if_pos h]
/-! marks -/
def mkSteps (a : Int) (n : Nat) : List SStep := (List.range n).map fun (j : Nat) => ⟨a + 2 * (j : Int), a + 2 * (j : Int) + 1⟩
def mkInts (a : Int) (n : Nat) : List Int := (List.range n).map fun (j : Nat) => a + (j : Int)
end Go.Proofs.Ytiaohjciddbpoaa.Pure
