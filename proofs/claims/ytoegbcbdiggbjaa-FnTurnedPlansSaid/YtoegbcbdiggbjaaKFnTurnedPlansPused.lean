/- Pure: the program's used values, and its plan of these alone. -/
import Derived.Test.YtoegbcbdiggbjaaKFnTurnedPlansPkeep
import Derived.Test.YtoegbcbdiggbjaaKFnTurnedPlansPiota
set_option linter.unusedVariables false
set_option linter.unusedSimpArgs false
namespace Go.Proofs.Ytoegbcbdiggbjaa.Pure
open Go.RowKit Go.Proofs.Ytoegbcbdiggbjaa.E Go.Proofs.Ytoegbcbdiggbjaa.TU Go.Proofs.Ytoegbcbdiggbjaa.Frame Go.Proofs.YtoegbcbdiggbjaaW.PrintLast Go.Proofs.YtoegbcbdiggbjaaW.PrintMore
open Go.Proofs.YtoegbcbdiggbjaaW.PrintWords hiding mn mx
/-! which steps -/
/-! how often -/
theorem uses_ge0 (M : Nat) (ys : List SStep) (l : List Int) (j : Int) (c : Nat) (hl : l.length = M) (h : ∀ y ∈ ys, (0 ≤ y.f0 ∧ y.f0 < (M : Int)) ∧ (0 ≤ y.f1 ∧ y.f1 < (M : Int))) (hb : ∀ v : Int, 0 ≤ v → v < (M : Int) → 0 ≤ rg l v ∧ rg l v ≤ (c : Int)) (hc : c + 2 * ys.length ≤ 1000) : ∃ l', impl_Plan_uses.l0 ys l j = some l' ∧ l'.length = M ∧ ∀ v : Int, 0 ≤ v → v < (M : Int) → (rg l v ≤ rg l' v ∧ rg l' v ≤ ((c + 2 * ys.length : Nat) : Int)) ∧ ((∃ y ∈ ys, y.f0 = v ∨ y.f1 = v) → 1 ≤ rg l' v) := by
  induction ys generalizing l j c with
  | nil => exact ⟨l, rfl, hl, fun v h0 h1 => ⟨⟨Int.le_refl _, (hb v h0 h1).2⟩, fun ⟨y, hy, _⟩ => nomatch hy⟩⟩
  | cons y ys ih =>
    have q := h y List.mem_cons_self
    simp only [List.length_cons] at hc
    have b0 := hb y.f0 q.1.1 q.1.2
    obtain ⟨l1, hl1⟩ : ∃ l1, l.set y.f0.toNat (rg l y.f0 + 1) = l1 := ⟨_, rfl⟩
    have hl1l : l1.length = M := by rw [← hl1]; simpa using hl
    have g1 : ∀ v : Int, 0 ≤ v → v < (M : Int) → rg l1 v = if y.f0 = v then rg l y.f0 + 1 else rg l v := fun v h0 h1 => by rw [← hl1, rg_set h0 (by omega) q.1.1]
    have b1 := hb y.f1 q.2.1 q.2.2
    have e1 := g1 y.f1 q.2.1 q.2.2
    obtain ⟨l2, hl2⟩ : ∃ l2, l1.set y.f1.toNat (rg l1 y.f1 + 1) = l2 := ⟨_, rfl⟩
    have hl2l : l2.length = M := by rw [← hl2]; simpa using hl1l
    have g2 : ∀ v : Int, 0 ≤ v → v < (M : Int) → rg l2 v = if y.f1 = v then rg l1 y.f1 + 1 else rg l1 v := fun v h0 h1 => by rw [← hl2, rg_set h0 (by omega) q.2.1]
    have hb2 : ∀ v : Int, 0 ≤ v → v < (M : Int) → (rg l v ≤ rg l2 v ∧ rg l2 v ≤ ((c + 2 : Nat) : Int)) ∧ ((y.f0 = v ∨ y.f1 = v) → 1 ≤ rg l2 v) := fun v h0 h1 => by
      have a := hb v h0 h1
      have k1 := g1 v h0 h1
      rw [g2 v h0 h1]
      by_cases c1 : y.f1 = v
      · rw [if_pos c1]
        by_cases c0 : y.f0 = v
        · rw [if_pos c0] at k1
          rw [c1, k1, c0]
          omega
        · rw [if_neg c0] at k1
          rw [c1, k1]
          omega
      · rw [if_neg c1]
        by_cases c0 : y.f0 = v
        · rw [if_pos c0] at k1
          rw [k1, c0]
          omega
        · rw [if_neg c0] at k1
          rw [k1]
          exact ⟨by omega, fun q => by rcases q with q | q <;> contradiction⟩
    obtain ⟨l', u1, u2, u3⟩ := ih l2 (j + 1) (c + 2) hl2l (fun z hz => h z (List.mem_cons_of_mem _ hz)) (fun v h0 h1 => by
      have := hb2 v h0 h1
      have := hb v h0 h1
      omega) (by omega)
    refine ⟨l', ?_, u2, fun v h0 h1 => ?_⟩
    · simp only [impl_Plan_uses.l0]
      rw [rg_gt (l := l) q.1.1 (by omega)]
      simp only [Option.bind_some]
      rw [zax (x := rg l y.f0 + 1) (by omega), rg_st (l := l) q.1.1 (by omega), hl1]
      simp only [Option.bind_some]
      rw [rg_gt (l := l1) q.2.1 (by omega)]
      simp only [Option.bind_some]
      have hw : rg l1 y.f1 ≤ (c : Int) + 1 ∧ 0 ≤ rg l1 y.f1 := by
        rw [e1]
        split <;> omega
      rw [zax (x := rg l1 y.f1 + 1) (by omega), rg_st (l := l1) q.2.1 (by omega), hl2]
      exact u1
    · have a := hb2 v h0 h1
      have b := u3 v h0 h1
      refine ⟨⟨by omega, by simp only [List.length_cons]; omega⟩, ?_⟩
      rintro ⟨z, hz, hv⟩
      rcases List.mem_cons.1 hz with rfl | hz
      · have := a.2 hv
        omega
      · exact b.2 ⟨z, hz, hv⟩
theorem uses_ge1 (M : Nat) (ys : List Int) (l : List Int) (j : Int) (c : Nat) (hl : l.length = M) (h : ∀ y ∈ ys, 0 ≤ y ∧ y < (M : Int)) (hb : ∀ v : Int, 0 ≤ v → v < (M : Int) → 0 ≤ rg l v ∧ rg l v ≤ (c : Int)) (hc : c + ys.length ≤ 1000) : ∃ l', impl_Plan_uses.l1 ys l j = some l' ∧ l'.length = M ∧ ∀ v : Int, 0 ≤ v → v < (M : Int) → rg l v ≤ rg l' v ∧ (v ∈ ys → 1 ≤ rg l' v) := by
  induction ys generalizing l j c with
  | nil => exact ⟨l, rfl, hl, fun v h0 h1 => ⟨Int.le_refl _, fun hy => nomatch hy⟩⟩
  | cons y ys ih =>
    have q := h y List.mem_cons_self
    simp only [List.length_cons] at hc
    have b0 := hb y q.1 q.2
    obtain ⟨l1, hl1⟩ : ∃ l1, l.set y.toNat (rg l y + 1) = l1 := ⟨_, rfl⟩
    have hl1l : l1.length = M := by rw [← hl1]; simpa using hl
    have g1 : ∀ v : Int, 0 ≤ v → v < (M : Int) → rg l1 v = if y = v then rg l y + 1 else rg l v := fun v h0 h1 => by rw [← hl1, rg_set h0 (by omega) q.1]
    obtain ⟨l', u1, u2, u3⟩ := ih l1 (j + 1) (c + 1) hl1l (fun z hz => h z (List.mem_cons_of_mem _ hz)) (fun v h0 h1 => by
      have := hb v h0 h1
      rw [g1 v h0 h1]
      split <;> omega) (by omega)
    refine ⟨l', ?_, u2, fun v h0 h1 => ?_⟩
    · simp only [impl_Plan_uses.l1]
      rw [rg_gt (l := l) q.1 (by omega)]
      simp only [Option.bind_some]
      rw [zax (x := rg l y + 1) (by omega), rg_st (l := l) q.1 (by omega), hl1]
      exact u1
    · have a := g1 v h0 h1
      have b := u3 v h0 h1
      have c1 := hb v h0 h1
      refine ⟨by by_cases d : y = v <;> simp [d] at a <;> omega, fun hv => ?_⟩
      rcases List.mem_cons.1 hv with rfl | hv
      · rw [if_pos rfl] at a
        omega
      · exact b.2 hv
/-! the plan of the used steps uses all of its own -/
end Go.Proofs.Ytoegbcbdiggbjaa.Pure
