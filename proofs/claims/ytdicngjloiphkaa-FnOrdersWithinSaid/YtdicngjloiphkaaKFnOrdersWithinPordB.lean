/- Pure: the best order and its pressure, on both sides. -/
import Derived.Test.YtdicngjloiphkaaKFnOrdersWithinPord2
set_option linter.unusedVariables false
set_option linter.unusedSimpArgs false
namespace Go.Proofs.Ytdicngjloiphkaa.Pure
open Go.RowKit Go.Proofs.Ytdicngjloiphkaa.E Go.Proofs.Ytdicngjloiphkaa.L1 Go.Proofs.Ytdicngjloiphkaa.Frame Go.Proofs.YtdicngjloiphkaaW.PrintLast Go.Proofs.YtdicngjloiphkaaW.PrintMore
open Go.Proofs.YtdicngjloiphkaaW.PrintWords hiding mn mx
def stepB (I : Nat) (s : List SStep) (o : List Int) (z : List Int × Int) (l : List Int) : List Int × Int := if press I s o l < z.2 then (l, press I s o l) else z
def stepI (I : Nat) (s : List SStep) (o : List Int) (z : Int × List Int) (l : List Int) : Int × List Int := if z.1 < 0 ∨ press I s o l < z.1 then (press I s o l, l) else z
def iota (j : Nat) : List Int := (List.range j).map fun (m : Nat) => (m : Int)
theorem iota_succ (j : Nat) : iota (j + 1) = iota j ++ [(j : Int)] := by simp [iota, List.range_succ]
theorem iota_mem {j : Nat} {v : Int} : v ∈ iota j ↔ 0 ≤ v ∧ v < (j : Int) := by
  unfold iota
  rw [List.mem_map]
  constructor
  · rintro ⟨m, hm, rfl⟩
    have := List.mem_range.1 hm
    omega
  · rintro ⟨h0, h1⟩
    exact ⟨v.toNat, List.mem_range.2 (by omega), by omega⟩
end Go.Proofs.Ytdicngjloiphkaa.Pure
