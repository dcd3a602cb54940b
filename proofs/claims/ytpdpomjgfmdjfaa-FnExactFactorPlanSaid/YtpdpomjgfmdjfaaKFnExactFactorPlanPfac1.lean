/- Pure: the least factor, on both sides. -/
import Derived.Test.YtpdpomjgfmdjfaaKFnExactFactorPlanPgood2
set_option linter.unusedVariables false
set_option linter.unusedSimpArgs false
namespace Go.Proofs.Ytpdpomjgfmdjfaa.Pure
open Go.RowKit Go.Proofs.Ytpdpomjgfmdjfaa.E Go.Proofs.Ytpdpomjgfmdjfaa.E2 Go.Proofs.Ytpdpomjgfmdjfaa.Frame Go.Proofs.YtpdpomjgfmdjfaaW.PrintLast Go.Proofs.YtpdpomjgfmdjfaaW.PrintMore
open Go.Proofs.YtpdpomjgfmdjfaaW.PrintWords hiding mn mx
theorem factor_same (a : Int) : ∀ (k : Nat) (i : Int), impl_leastFactor.l0 a k i = spec_meFactor.l0 a k i := by
  intro k
  induction k with
  | zero => intro i; rfl
  | succ k ih =>
    intro i
    simp only [impl_leastFactor.l0, spec_meFactor.l0, ih]
theorem factor_same' (a : Int) (k : Nat) : impl_leastFactor.f k a = spec_meFactor.f k a := by
  unfold impl_leastFactor.f spec_meFactor.f
  rw [factor_same]
theorem factor_loop (n : Nat) (hn : n ≤ 1000000) : ∀ (d i : Nat), 2 ≤ i → i + d = n + 1 → ∃ r, Ev (fun k => spec_meFactor.l0 (n : Int) k (i : Int)) r ∧ ((∃ p : Nat, r = .inl (p : Int) ∧ i ≤ p ∧ p * p ≤ n ∧ p ∣ n ∧ (i = 2 → 2 ∣ n → p = 2)) ∨ r = .inr () ∧ (i = 2 → 2 ∣ n → n ≤ 3)) := by
  intro d
  induction d with
  | zero =>
    intro i h2 hi
    refine ⟨.inr (), shift ?_, .inr ⟨rfl, fun h _ => by omega⟩⟩
    simp only [spec_meFactor.l0]
    have : n + 1 ≤ i * i := by
      have := Nat.mul_le_mul_right i h2
      omega
    have hw : w64 ((i : Int) * i) = ((i * i : Nat) : Int) := by
      have h3 : i * i ≤ 1000001 * 1000001 := Nat.mul_le_mul (by omega) (by omega)
      rw [w64_id (by rw [← Int.natCast_mul]; omega), Int.natCast_mul]
    rw [hw]
    exact neg (by omega) (ret _)
  | succ d ih =>
    intro i h2 hi
    have h3 : i * i ≤ 1000001 * 1000001 := Nat.mul_le_mul (by omega) (by omega)
    have hw : w64 ((i : Int) * i) = ((i * i : Nat) : Int) := by
      rw [w64_id (by rw [← Int.natCast_mul]; omega), Int.natCast_mul]
    have hz : nz (i : Int) = some () := by
      unfold nz
      rw [if_neg (by omega)]
    by_cases hle : i * i ≤ n
    · by_cases hd : n % i = 0
      · refine ⟨.inl (i : Int), shift ?_, .inl ⟨i, rfl, Nat.le_refl _, hle, Nat.dvd_of_mod_eq_zero hd, fun h _ => h⟩⟩
        simp only [spec_meFactor.l0, hw, hz, Option.bind_some]
        refine pos (by omega) (pos ?_ (ret _))
        rw [Int.tmod_eq_emod_of_nonneg (by omega), ← Int.natCast_emod, hd]
        rfl
      · obtain ⟨r, e, hr⟩ := ih (i + 1) (by omega) (by omega)
        refine ⟨r, shift ?_, ?_⟩
        · simp only [spec_meFactor.l0, hw, hz, Option.bind_some]
          refine pos (by omega) (neg ?_ ?_)
          · rw [Int.tmod_eq_emod_of_nonneg (by omega), ← Int.natCast_emod]
            omega
          · rw [w64_succ (by omega)]
            exact e
        · rcases hr with ⟨p, rfl, h4, h5, h6, _⟩ | ⟨rfl, _⟩
          · refine .inl ⟨p, rfl, by omega, h5, h6, fun h h' => ?_⟩
            subst h
            omega
          · refine .inr ⟨rfl, fun h h' => ?_⟩
            subst h
            omega
    · refine ⟨.inr (), shift ?_, .inr ⟨rfl, fun h _ => by subst h; omega⟩⟩
      simp only [spec_meFactor.l0, hw]
      exact neg (by omega) (ret _)
theorem factor_ev (n : Nat) (h : 2 ≤ n ∧ n ≤ 1000000) : ∃ p : Nat, Ev (fun k => spec_meFactor.f k (n : Int)) (p : Int) ∧ Ev (fun k => impl_leastFactor.f k (n : Int)) (p : Int) ∧ 2 ≤ p ∧ p ≤ n ∧ p ∣ n ∧ (2 ∣ n → p = 2) := by
  simp only [factor_same']
  obtain ⟨r, e, hr⟩ := factor_loop n h.2 (n - 1) 2 (by omega) (by omega)
  rcases hr with ⟨p, rfl, h1, h2, h3, h4⟩ | ⟨rfl, h4⟩
  · have : Ev (fun k => spec_meFactor.f k (n : Int)) (p : Int) := by
      unfold spec_meFactor.f
      exact bind e (ret _)
    exact ⟨p, this, this, h1, Nat.le_of_dvd (by omega) h3, h3, h4 rfl⟩
  · have : Ev (fun k => spec_meFactor.f k (n : Int)) (n : Int) := by
      unfold spec_meFactor.f
      exact bind e (ret _)
    exact ⟨n, this, this, h.1, Nat.le_refl _, Nat.dvd_refl _, fun h5 => by have := h4 rfl h5; omega⟩
end Go.Proofs.Ytpdpomjgfmdjfaa.Pure
