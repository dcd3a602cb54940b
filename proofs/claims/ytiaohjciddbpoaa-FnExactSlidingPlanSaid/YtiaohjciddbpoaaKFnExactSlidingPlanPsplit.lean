/- Pure: plans cut in two: what lives at a cut, both parts, the whole again; the law. -/
import Derived.Test.YtiaohjciddbpoaaKFnExactSlidingPlanPlaws
import Derived.Test.YtiaohjciddbpoaaKFnExactSlidingPlanPdraw
set_option linter.unusedVariables false
set_option linter.unusedSimpArgs false
namespace Go.Proofs.Ytiaohjciddbpoaa.Pure
open Go.RowKit Go.Proofs.Ytiaohjciddbpoaa.E Go.Proofs.Ytiaohjciddbpoaa.H2 Go.Proofs.Ytiaohjciddbpoaa.Frame Go.Proofs.YtiaohjciddbpoaaW.PrintLast Go.Proofs.YtiaohjciddbpoaaW.PrintMore
open Go.Proofs.YtiaohjciddbpoaaW.PrintWords hiding mn mx
/-! lists that rise -/
theorem sorted_eq {l m : List Int} (hl : l.Pairwise (· < ·)) (hm : m.Pairwise (· < ·)) (h : ∀ x, x ∈ l ↔ x ∈ m) : l = m := by
  induction l generalizing m with
  | nil =>
    cases m with
    | nil => rfl
    | cons b m => exact absurd ((h b).2 List.mem_cons_self) (by simp)
  | cons a l ih =>
    cases m with
    | nil => exact absurd ((h a).1 List.mem_cons_self) (by simp)
    | cons b m =>
      obtain ⟨l1, l2⟩ := List.pairwise_cons.1 hl
      obtain ⟨m1, m2⟩ := List.pairwise_cons.1 hm
      have hab : a = b := by
        rcases List.mem_cons.1 ((h a).1 List.mem_cons_self) with e | e
        · exact e
        · rcases List.mem_cons.1 ((h b).2 List.mem_cons_self) with e' | e'
          · exact e'.symm
          · have := m1 a e
            have := l1 b e'
            omega
      subst hab
      congr 1
      refine ih l2 m2 fun x => ⟨fun hx => ?_, fun hx => ?_⟩
      · have := l1 x hx
        exact (List.mem_cons.1 ((h x).1 (List.mem_cons_of_mem _ hx))).resolve_left (by omega)
      · have := m1 x hx
        exact (List.mem_cons.1 ((h x).2 (List.mem_cons_of_mem _ hx))).resolve_left (by omega)
theorem mem_put (l : List Int) (a x : Int) : x ∈ put l a ↔ x = a ∨ x ∈ l := by
  induction l with
  | nil => simp [put]
  | cons y ys ih =>
    simp only [put]
    by_cases c : y < a
    · rw [if_pos c, List.mem_cons, ih, List.mem_cons]
      constructor
      · rintro (h | h | h)
        · exact .inr (.inl h)
        · exact .inl h
        · exact .inr (.inr h)
      · rintro (h | h | h)
        · exact .inr (.inl h)
        · exact .inl h
        · exact .inr (.inr h)
    · rw [if_neg c]
      by_cases e : y = a
      · rw [if_pos e, List.mem_cons]
        constructor
        · exact .inr
        · rintro (h | h)
          · exact .inl (h.trans e.symm)
          · exact h
      · rw [if_neg e]
        exact List.mem_cons
theorem sorted_put {l : List Int} (h : l.Pairwise (· < ·)) (a : Int) : (put l a).Pairwise (· < ·) := by
  induction l with
  | nil => simp [put]
  | cons y ys ih =>
    obtain ⟨h1, h2⟩ := List.pairwise_cons.1 h
    simp only [put]
    by_cases c : y < a
    · rw [if_pos c]
      refine List.pairwise_cons.2 ⟨fun x hx => ?_, ih h2⟩
      rcases (mem_put _ _ _).1 hx with e | hx
      · omega
      · exact h1 x hx
    · rw [if_neg c]
      by_cases e : y = a
      · rw [if_pos e]
        exact h
      · rw [if_neg e]
        refine List.pairwise_cons.2 ⟨fun x hx => ?_, h⟩
        rcases List.mem_cons.1 hx with e | hx
        · omega
        · have := h1 x hx
          omega
theorem put_vals {M : Nat} {p : Int → Bool} {y : Int} (h0 : 0 ≤ y) (h1 : y < (M : Int)) : put (vals M p) y = vals M (fun u => p u || decide (u = y)) := by
  refine sorted_eq (sorted_put (vals_sorted _ _) _) (vals_sorted _ _) fun x => ?_
  rw [mem_put, vals_mem, vals_mem]
  simp only [Bool.or_eq_true, decide_eq_true_eq]
  constructor
  · rintro (h | ⟨h, h'⟩)
    · exact ⟨by omega, .inr h⟩
    · exact ⟨h, .inl h'⟩
  · rintro ⟨h, h' | h'⟩
    · exact .inr ⟨h, h'⟩
    · exact .inl h'
/-! what lives at a cut -/
def usd (ys : List SStep) (u : Int) : Bool := ys.any fun y => decide (u = y.f0) || decide (u = y.f1)
def lv (s : List SStep) (o : List Int) (k : Nat) (u : Int) : Bool := decide (u ∈ o) || usd (s.drop k) u
/-! where values go -/
def idx : List Int → Int → Int → Int
  | [], _, _ => -1
  | y :: ys, v, j => if y = v then j else idx ys v (j + 1)
theorem idx_l0 (v : Int) (l : List Int) (j : Int) (hj : 0 ≤ j) : ∃ r, spec_plPlace.l0 v l j = some r ∧ (match r with | .inl x => x | .inr _ => -1) = idx l v j := by
  induction l generalizing j with
  | nil => exact ⟨_, rfl, rfl⟩
  | cons y ys ih =>
    simp only [spec_plPlace.l0, idx]
    by_cases c : y = v
    · rw [if_pos c, if_pos c]
      exact ⟨_, rfl, rfl⟩
    · rw [if_neg c, if_neg c]
      exact ih (j + 1) (by omega)
theorem place_eq (l : List Int) (v : Int) : spec_plPlace.f l v = some (idx l v 0) := by
  obtain ⟨r, h1, h2⟩ := idx_l0 v l 0 (by omega)
  unfold spec_plPlace.f
  rw [h1]
  cases r with
  | inl x => exact congrArg some h2
  | inr x => exact congrArg some h2
theorem idx_at {l : List Int} (h : l.Pairwise (· < ·)) {m : Nat} {v : Int} (hm : l[m]? = some v) (j : Int) : idx l v j = j + (m : Int) := by
  induction l generalizing m j with
  | nil => simp at hm
  | cons y ys ih =>
    obtain ⟨h1, h2⟩ := List.pairwise_cons.1 h
    cases m with
    | zero =>
      obtain rfl : y = v := by simpa using hm
      simp [idx]
    | succ m =>
      have hm' : ys[m]? = some v := by simpa using hm
      have := h1 v (List.mem_of_getElem? hm')
      simp only [idx]
      rw [if_neg (by omega), ih h2 hm']
      omega
/-- The number of a value in the second part. -/
def later (I k : Nat) (L : List Int) (u : Int) : Int := if u < ((I + k : Nat) : Int) then idx L u 0 else (L.length : Int) + u - (I : Int) - (k : Int)
def lt_ (I k : Nat) (L : List Int) (y : SStep) : SStep := ⟨mn (later I k L y.f0) (later I k L y.f1), mx (later I k L y.f0) (later I k L y.f1)⟩
/-- A value that the second part may use. -/
def Kn (I k : Nat) (L : List Int) (n : Nat) (u : Int) : Prop := (u < ((I + k : Nat) : Int) ∧ u ∈ L) ∨ (((I + k : Nat) : Int) ≤ u ∧ u < ((n : Nat) : Int))
/-! the program's places -/
/-! the second part's values -/
end Go.Proofs.Ytiaohjciddbpoaa.Pure
