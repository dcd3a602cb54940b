/- Pure: what is needed behind some steps, the pressure of an order, all orders. -/
import Derived.Test.YtiaohjciddbpoaaKFnExactSlidingPlanParg
set_option linter.unusedVariables false
set_option linter.unusedSimpArgs false
namespace Go.Proofs.Ytiaohjciddbpoaa.Pure
open Go.RowKit Go.Proofs.Ytiaohjciddbpoaa.E Go.Proofs.Ytiaohjciddbpoaa.H2 Go.Proofs.Ytiaohjciddbpoaa.Frame Go.Proofs.YtiaohjciddbpoaaW.PrintLast Go.Proofs.YtiaohjciddbpoaaW.PrintMore
open Go.Proofs.YtiaohjciddbpoaaW.PrintWords hiding mn mx
/-- Is a value a factor of a step that has not been done? -/
def use (ds : List Int) : List SStep → Int → Int → Bool
  | [], _, _ => false
  | y :: ys, j, v => (!decide (j ∈ ds) && (decide (y.f0 = v) || decide (y.f1 = v))) || use ds ys (j + 1) v
/-- Is a value needed when the steps ds have been done? -/
def nd (i : Int) (s : List SStep) (o : List Int) (ds : List Int) (v : Int) : Bool := (decide (v < i) || decide (v - i ∈ ds)) && (decide (v ∈ o) || use ds s 0 v)
/-- The values below M that have a property, in order. -/
def vals (M : Nat) (p : Int → Bool) : List Int := ((List.range M).map fun (j : Nat) => (j : Int)).filter p
theorem vals_succ (M : Nat) (p : Int → Bool) : vals (M + 1) p = vals M p ++ (if p (M : Int) = true then [(M : Int)] else []) := by
  unfold vals
  rw [List.range_succ, List.map_append, List.filter_append]
  congr 1
  by_cases h : p (M : Int) = true <;> simp [h]
theorem vals_len (M : Nat) (p : Int → Bool) : (vals M p).length ≤ M := by
  refine Nat.le_trans (List.length_filter_le _ _) ?_
  simp
theorem vals_mem {M : Nat} {p : Int → Bool} {v : Int} : v ∈ vals M p ↔ (0 ≤ v ∧ v < M) ∧ p v = true := by
  unfold vals
  rw [List.mem_filter, List.mem_map]
  constructor
  · rintro ⟨⟨j, hj, rfl⟩, h⟩
    have := List.mem_range.1 hj
    exact ⟨by omega, h⟩
  · rintro ⟨⟨h0, h1⟩, h⟩
    exact ⟨⟨v.toNat, List.mem_range.2 (by omega), by omega⟩, h⟩
theorem vals_sorted (M : Nat) (p : Int → Bool) : (vals M p).Pairwise (· < ·) := by
  refine List.Pairwise.filter _ ?_
  rw [List.pairwise_map]
  exact List.Pairwise.imp (fun h => by omega) List.pairwise_lt_range
/-! what is needed, told by the program -/
/-- A plan's form, as it is used here. -/
structure Form (I : Nat) (s : List SStep) (o : List Int) : Prop where
  inp : 1 ≤ I ∧ I ≤ 6
  stp : s.length ≤ 40
  out : o.length ≤ 6
  fs : fB (I : Int) s 0 = true
  os : ∀ y ∈ o, 0 ≤ y ∧ y < (I : Int) + (s.length : Int)
theorem fB_at {i : Int} (hi : 0 ≤ i ∧ i ≤ 1000) (ys : List SStep) (j : Nat) (h : fB i ys (j : Int) = true) (hl : j + ys.length ≤ 100000) (m : Nat) (y : SStep) (hm : ys[m]? = some y) : 0 ≤ y.f0 ∧ y.f0 ≤ y.f1 ∧ y.f1 < i + (j : Int) + (m : Int) := by
  induction ys generalizing j m with
  | nil => simp at hm
  | cons z ys ih =>
    simp only [List.length_cons] at hl
    simp only [fB, Bool.and_eq_true, decide_eq_true_eq] at h
    obtain ⟨⟨k0, k1, k2⟩, k3⟩ := h
    rw [zat (by omega)] at k2
    cases m with
    | zero =>
      obtain rfl : z = y := by simpa using hm
      omega
    | succ m =>
      have e : (j : Int) + 1 = ((j + 1 : Nat) : Int) := by omega
      rw [e] at k3
      have := ih (j + 1) k3 (by omega) m (by simpa using hm)
      omega
theorem Form.step {I : Nat} {s : List SStep} {o : List Int} (h : Form I s o) {m : Nat} {y : SStep} (hm : s[m]? = some y) : 0 ≤ y.f0 ∧ y.f0 ≤ y.f1 ∧ y.f1 < (I : Int) + (m : Int) := by
  have := fB_at (i := (I : Int)) (by have := h.inp; omega) s 0 h.fs (by have := h.stp; omega) m y hm
  omega
theorem good_form {i : Int} {s : List SStep} {o : List Int} (h : good i s o = true) : ∃ I : Nat, i = (I : Int) ∧ Form I s o := by
  unfold good at h
  simp only [Bool.and_eq_true, decide_eq_true_eq] at h
  obtain ⟨h1, h2, h3, h4, h5, h6⟩ := h
  refine ⟨i.toNat, by omega, by omega, h2, h3, ?_, ?_⟩
  · rw [show ((i.toNat : Nat) : Int) = i by omega]
    exact h4
  · intro y hy
    have := List.all_eq_true.1 h6 y hy
    rw [zat (x := i + (s.length : Int)) (by omega), zat (by omega)] at this
    simp only [decide_eq_true_eq] at this
    omega
/-- How many values are held when the last of ds has just been done. -/
def hC (I : Nat) (s : List SStep) (o ds : List Int) (y : Int) : Int := ((put (vals (I + s.length) (nd (I : Int) s o ds)) ((I : Int) + y)).length : Int)
/-- The pressure: pre are done, the rest follow. -/
def prGo (I : Nat) (s : List SStep) (o : List Int) (pre : List Int) : List Int → Int → Int
  | [], m => m
  | y :: ys, m => prGo I s o (pre ++ [y]) ys (mx m (hC I s o (pre ++ [y]) y))
def press (I : Nat) (s : List SStep) (o ds : List Int) : Int := prGo I s o [] ds (I : Int)
end Go.Proofs.Ytiaohjciddbpoaa.Pure
