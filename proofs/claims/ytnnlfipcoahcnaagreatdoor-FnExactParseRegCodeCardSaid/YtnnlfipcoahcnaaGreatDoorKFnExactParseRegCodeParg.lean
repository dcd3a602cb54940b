/- Pure: laws' arguments: their sizes, their copies; lists searched. -/
import Derived.Test.YtnnlfipcoahcnaaGreatDoorKFnExactParseRegCodePgood2
set_option linter.unusedVariables false
set_option linter.unusedSimpArgs false
namespace Go.Proofs.YtnnlfipcoahcnaaGreatDoor.Pure
open Go.RowKit Go.Proofs.YtnnlfipcoahcnaaGreatDoor.E Go.Proofs.YtnnlfipcoahcnaaGreatDoor.G1 Go.Proofs.YtnnlfipcoahcnaaGreatDoor.Frame Go.Proofs.YtnnlfipcoahcnaaGreatDoorW.PrintLast Go.Proofs.YtnnlfipcoahcnaaGreatDoorW.PrintMore
open Go.Proofs.YtnnlfipcoahcnaaGreatDoorW.PrintWords hiding mn mx
/-! lists searched -/
theorem l1Has_l0 (x : Int) (l : List Int) (j : Int) : spec_l1Has.l0 x l j = some (bif decide (x ∈ l) then .inl true else .inr ()) := by
  induction l generalizing j with
  | nil => rfl
  | cons y ys ih =>
    simp only [spec_l1Has.l0]
    by_cases h : y = x
    · rw [if_pos h, decide_eq_true (by rw [h]; exact List.mem_cons_self)]
      rfl
    · have : (x ∈ y :: ys) ↔ x ∈ ys := by
        rw [List.mem_cons]
        exact ⟨fun q => q.resolve_left (fun e => h e.symm), .inr⟩
      rw [if_neg h, ih]
      simp only [this]
theorem l1Has_eq (l : List Int) (x : Int) : spec_l1Has.f l x = some (decide (x ∈ l)) := by
  unfold spec_l1Has.f
  rw [l1Has_l0]
  cases decide (x ∈ l) <;> rfl
theorem ct_take {α : Type} (l : List α) (j : Nat) (h : j ≤ l.length) : ct l (0 : Int) (j : Int) = some (l.take j) := by
  unfold ct
  rw [if_pos (by omega)]
  simp
/-- A number put into a rising list, as the code does it. -/
def put : List Int → Int → List Int
  | [], a => [a]
  | y :: ys, a => if y < a then y :: put ys a else if y = a then y :: ys else a :: y :: ys
def pre : List Int → Int → Nat
  | [], _ => 0
  | y :: ys, a => if y < a then pre ys a + 1 else 0
/-! rows of bools as functions -/
def tb (M : Nat) (f : Int → Bool) : List Bool := (List.range M).map fun (j : Nat) => f (j : Int)
end Go.Proofs.YtnnlfipcoahcnaaGreatDoor.Pure
