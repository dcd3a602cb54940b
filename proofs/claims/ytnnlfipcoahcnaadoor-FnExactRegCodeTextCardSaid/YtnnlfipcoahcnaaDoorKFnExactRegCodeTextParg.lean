/- Pure: laws' arguments: their sizes, their copies; lists searched. -/
import Derived.Test.YtnnlfipcoahcnaaDoorKFnExactRegCodeTextPgood2
set_option linter.unusedVariables false
set_option linter.unusedSimpArgs false
namespace Go.Proofs.YtnnlfipcoahcnaaDoor.Pure
open Go.RowKit Go.Proofs.YtnnlfipcoahcnaaDoor.E Go.Proofs.YtnnlfipcoahcnaaDoor.P3 Go.Proofs.YtnnlfipcoahcnaaDoor.Frame Go.Proofs.YtnnlfipcoahcnaaDoorW.PrintLast Go.Proofs.YtnnlfipcoahcnaaDoorW.PrintMore
open Go.Proofs.YtnnlfipcoahcnaaDoorW.PrintWords hiding mn mx
theorem toIntS_ev (l : List Int) (hl : l.length < 1000000000) : Ev (fun k => laws_toIntS.f k l) l := by
  have hm : (List.replicate l.length (0 : Int)).length = l.length := by simp
  have key : ∀ (d j : Nat), j + d = l.length → Ev (fun k => laws_toIntS.l0 l k (l.take j ++ (List.replicate l.length (0 : Int)).drop j) (j : Int)) l := by
    intro d
    induction d with
    | zero =>
      intro j hj
      obtain rfl : j = l.length := by omega
      refine shift ?_
      simp only [laws_toIntS.l0]
      rw [List.drop_eq_nil_of_le (by simp), List.append_nil, List.take_of_length_le (Nat.le_refl _)]
      exact neg (by omega) (ret _)
    | succ d ih =>
      intro j hj
      refine shift ?_
      simp only [laws_toIntS.l0]
      refine pos (by omega) ?_
      have hx : j < (l.take j ++ (List.replicate l.length (0 : Int)).drop j).length := by rw [List.length_append, List.length_take, List.length_drop, hm]; omega
      rw [gt_nat (show j < l.length by omega), gt_nat hx, w64_succ (by omega)]
      simp only [Option.bind_some]
      rw [st_nat hx, set_take (v := l[j]) (by omega) hm.symm (List.getElem?_eq_getElem (by omega))]
      exact ih (j + 1) (by omega)
  unfold laws_toIntS.f
  have := key l.length 0 (by omega)
  simp only [List.take_zero, List.drop_zero, List.nil_append, Int.natCast_zero] at this
  have hk : mk0 (l.length : Int) (0 : Int) = some (List.replicate l.length 0) := by
    unfold mk0
    rw [if_pos (by omega), Int.toNat_natCast]
  exact bind0 hk (bind this (ret _))
/-! lists searched -/
theorem l1Has_l0 (x : Int) (l : List Int) (j : Int) : spec_l1Has.l0 x l j = some (bif decide (x ∈ l) then .inl true else .inr ()) := by
  induction l generalizing j with
  | nil => rfl
  | cons y ys ih =>
    simp only [spec_l1Has.l0]
    by_cases h : y = x
    · rw [if_pos h, decide_eq_true (by rw [h]; exact List.mem_cons_self)]
      rfl
    · have : (x ∈ y :: ys) ↔ x ∈ ys := by
        rw [List.mem_cons]
        exact ⟨fun q => q.resolve_left (fun e => h e.symm), .inr⟩
      rw [if_neg h, ih]
      simp only [this]
theorem l1Has_eq (l : List Int) (x : Int) : spec_l1Has.f l x = some (decide (x ∈ l)) := by
  unfold spec_l1Has.f
  rw [l1Has_l0]
  cases decide (x ∈ l) <;> rfl
theorem ct_take {α : Type} (l : List α) (j : Nat) (h : j ≤ l.length) : ct l (0 : Int) (j : Int) = some (l.take j) := by
  unfold ct
  rw [if_pos (by omega)]
  simp
/-- A number put into a rising list, as the code does it. -/
def put : List Int → Int → List Int
  | [], a => [a]
  | y :: ys, a => if y < a then y :: put ys a else if y = a then y :: ys else a :: y :: ys
def pre : List Int → Int → Nat
  | [], _ => 0
  | y :: ys, a => if y < a then pre ys a + 1 else 0
/-! rows of bools as functions -/
def tb (M : Nat) (f : Int → Bool) : List Bool := (List.range M).map fun (j : Nat) => f (j : Int)
end Go.Proofs.YtnnlfipcoahcnaaDoor.Pure
