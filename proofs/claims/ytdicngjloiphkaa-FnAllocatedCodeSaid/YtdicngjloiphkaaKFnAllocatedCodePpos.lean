/- Pure: places in lists. -/
import Derived.Test.YtdicngjloiphkaaKFnAllocatedCodePord
set_option linter.unusedVariables false
set_option linter.unusedSimpArgs false
namespace Go.Proofs.Ytdicngjloiphkaa.Pure
open Go.RowKit Go.Proofs.Ytdicngjloiphkaa.E Go.Proofs.Ytdicngjloiphkaa.L7 Go.Proofs.Ytdicngjloiphkaa.Frame Go.Proofs.YtdicngjloiphkaaW.PrintLast Go.Proofs.YtdicngjloiphkaaW.PrintMore
open Go.Proofs.YtdicngjloiphkaaW.PrintWords hiding mn mx
/-- The place of a number in a list, or -1. -/
def pos_ : List Int → Int → Int
  | [], _ => -1
  | y :: ys, r => if y = r then 0 else if pos_ ys r = -1 then -1 else pos_ ys r + 1
theorem pos_ge (T : List Int) (r : Int) : -1 ≤ pos_ T r := by
  induction T with
  | nil => exact Int.le_refl _
  | cons y ys ih =>
    simp only [pos_]
    split
    · omega
    · split <;> omega
theorem place_eq (l : List Int) (x : Int) : spec_plPlace.f l x = some (pos_ l x) := by
  have key : ∀ (l : List Int) (j : Int), spec_plPlace.l0 x l j = some (if pos_ l x = -1 then .inr () else .inl (j + pos_ l x)) := by
    intro l
    induction l with
    | nil => intro j; rfl
    | cons y ys ih =>
      intro j
      have h0 := pos_ge ys x
      by_cases h : y = x
      · have e : pos_ (y :: ys) x = 0 := if_pos h
        simp only [spec_plPlace.l0, if_pos h, e]
        simp
      · have e : pos_ (y :: ys) x = if pos_ ys x = -1 then -1 else pos_ ys x + 1 := if_neg h
        simp only [spec_plPlace.l0, if_neg h, ih, e]
        by_cases c : pos_ ys x = -1
        · simp [c]
        · have c2 : ¬ (pos_ ys x + 1 = -1) := by omega
          simp only [if_neg c, if_neg c2]
          congr 2
          omega
  unfold spec_plPlace.f
  rw [key]
  have h0 := pos_ge l x
  by_cases c : pos_ l x = -1
  · rw [if_pos c, c]
    rfl
  · rw [if_neg c]
    simp
theorem indexI_eq (l : List Int) (x : Int) : slices_Index_int_int.f l x = some (pos_ l x) := by
  have key : ∀ (l : List Int) (j : Int), slices_Index_int_int.l0 x l j = some (if pos_ l x = -1 then .inr () else .inl (j + pos_ l x)) := by
    intro l
    induction l with
    | nil => intro j; rfl
    | cons y ys ih =>
      intro j
      have h0 := pos_ge ys x
      by_cases h : y = x
      · have e : pos_ (y :: ys) x = 0 := if_pos h
        simp only [slices_Index_int_int.l0, if_pos h.symm, e]
        simp
      · have e : pos_ (y :: ys) x = if pos_ ys x = -1 then -1 else pos_ ys x + 1 := if_neg h
        simp only [slices_Index_int_int.l0, if_neg (fun q : x = y => h q.symm), ih, e]
        by_cases c : pos_ ys x = -1
        · simp [c]
        · have c2 : ¬ (pos_ ys x + 1 = -1) := by omega
          simp only [if_neg c, if_neg c2]
          congr 2
          omega
  unfold slices_Index_int_int.f
  rw [key]
  by_cases c : pos_ l x = -1
  · rw [if_pos c, c]
    rfl
  · rw [if_neg c]
    simp
theorem pos_first {l : List Int} {v : Int} {p : Nat} (h : l[p]? = some v) (hu : ∀ q, l[q]? = some v → q = p) : pos_ l v = (p : Int) := by
  induction l generalizing p with
  | nil => simp at h
  | cons y ys ih =>
    simp only [pos_]
    by_cases e : y = v
    · rw [if_pos e]
      have := hu 0 (by simp [e])
      omega
    · rw [if_neg e]
      cases p with
      | zero => exact absurd (by simpa using h) e
      | succ p =>
        have := ih (p := p) (by simpa using h) (fun q hq => by have := hu (q + 1) (by simpa using hq); omega)
        rw [if_neg (by omega)]
        omega
theorem pos_at {l : List Int} {v : Int} (h : v ∈ l) : ∃ p : Nat, pos_ l v = (p : Int) ∧ l[p]? = some v := by
  induction l with
  | nil => cases h
  | cons y ys ih =>
    simp only [pos_]
    by_cases e : y = v
    · exact ⟨0, by rw [if_pos e]; rfl, by simp [e]⟩
    · obtain ⟨p, h1, h2⟩ := ih ((List.mem_cons.1 h).resolve_left (fun q => e q.symm))
      refine ⟨p + 1, ?_, by simpa using h2⟩
      rw [if_neg e, if_neg (by omega)]
      omega
end Go.Proofs.Ytdicngjloiphkaa.Pure
