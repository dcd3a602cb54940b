/- Pure: FactorPlan on both sides, by induction; its law. -/
import Derived.Test.YtpdpomjgfmdjfaaKFnExactFactorPlanPfac3
import Derived.Test.YtpdpomjgfmdjfaaKFnExactFactorPlanPfac0
set_option linter.unusedVariables false
set_option linter.unusedSimpArgs false
namespace Go.Proofs.Ytpdpomjgfmdjfaa.Pure
open Go.RowKit Go.Proofs.Ytpdpomjgfmdjfaa.E Go.Proofs.Ytpdpomjgfmdjfaa.E2 Go.Proofs.Ytpdpomjgfmdjfaa.Frame Go.Proofs.YtpdpomjgfmdjfaaW.PrintLast Go.Proofs.YtpdpomjgfmdjfaaW.PrintMore
open Go.Proofs.YtpdpomjgfmdjfaaW.PrintWords hiding mn mx
structure Fac (n : Nat) (s : List SStep) (v : Int) : Prop where
  specE : Ev (fun k => spec_meFactors.f k (n : Int)) (s, [v])
  implE : Ev (fun k => impl_FactorPlan.f k (n : Int)) (1, s, [v], true)
  form : fB 1 s 0 = true
  inb : 0 ≤ v ∧ v ≤ s.length
  low : ∀ e ∈ g1 [1] s, 1 ≤ e ∧ e ≤ (n : Int)
  top : at1 (g1 [1] s) v = (n : Int)
  size : 2 ^ s.length ≤ n * n
  even : 2 ∣ n → 2 ^ (s.length + 1) ≤ n * n
theorem len40 {n m : Nat} (hn : n ≤ 1000000) (h : 2 ^ m ≤ n * n) : m < 40 := by
  rcases Nat.lt_or_ge m 40 with hm | hm
  · exact hm
  · have h1 : 2 ^ 40 ≤ 2 ^ m := Nat.pow_le_pow_right (by omega) hm
    have h2 : n * n ≤ 1000000 * 1000000 := Nat.mul_le_mul hn hn
    have h3 : (2 : Nat) ^ 40 = 1099511627776 := by decide
    omega
theorem Fac.good {n : Nat} {s : List SStep} {v : Int} (h : Fac n s v) (hn : n ≤ 1000000) : good 1 s [v] = true := by
  have := len40 hn h.size
  exact good1 (by omega) h.form h.inb (fun e he => by have := h.low e he; omega)
theorem isNumber_eq (a : Int) : impl_isNumber.f a = some (decide (1 ≤ a ∧ a ≤ 1000000)) := by
  unfold impl_isNumber.f
  rw [in_eq]
  rfl
theorem told_ev {s : List SStep} {o : List Int} {i : Int} (h : good i s o = true) : Ev (fun k => impl_told.f k i s o) (i, s, o, true) := by
  unfold impl_told.f
  have := isPlan_ev i s o
  rw [h] at this
  exact bind this (pos rfl (ret _))
theorem ap_nil {α : Type} {xs : List α} (h : xs.length ≤ 1000) : ap [] xs = some xs := ap_ok (by simp; omega)
theorem clone_eq {i : Int} {s : List SStep} {o : List Int} (hs : s.length ≤ 1000) (ho : o.length ≤ 1000) : impl_clonePlan.f i s o = some (s, o) := by
  unfold impl_clonePlan.f slices_Clone_impl_Step_impl_Step.f slices_Clone_int_int.f
  rw [ap_nil hs, ap_nil ho]
  rfl
theorem fac_one : Fac 1 [] 0 := by
  refine ⟨shift ?_, shift ?_, rfl, by simp, fun e he => ?_, rfl, by simp, fun h => by omega⟩
  · simp only [spec_meFactors.f, spec_meEnd.f, Option.bind_some]
    exact pos rfl (ret _)
  · simp only [impl_FactorPlan.f, isNumber_eq, Option.bind_some]
    exact pos rfl (pos rfl (ret _))
  · simp [g1] at he
    omega
theorem fac_prime {n : Nat} (hn : 2 ≤ n ∧ n ≤ 1000000) (h1 : Ev (fun k => spec_meFactor.f k (n : Int)) (n : Int)) (h2 : Ev (fun k => impl_leastFactor.f k (n : Int)) (n : Int)) (hp : 2 ∣ n → n = 2) {s : List SStep} {v : Int} (h : Fac (n - 1) s v) : ∃ s v, Fac n s v := by
  have hl := len40 (by omega) h.size
  have hw : w64 ((n : Int) - 1) = ((n - 1 : Nat) : Int) := by
    rw [w64_id (by omega)]
    omega
  have hv := h.inb
  have hst : stp v 0 = ⟨0, v⟩ := by
    unfold stp mn mx
    by_cases hv0 : v < 0
    · omega
    · rw [if_neg hv0]
      by_cases hv1 : (0 : Int) < v
      · rw [if_pos hv1]
      · rw [if_neg hv1]
        congr 1
        omega
  have gl : (g1 [1] s).length = 1 + s.length := by rw [g1_len]; rfl
  have h0 : ∀ (ys : List SStep) (rs : List Int), rs.length ≠ 0 → at1 (g1 rs ys) 0 = at1 rs 0 := fun ys => by
    induction ys with
    | nil => intro rs _; rfl
    | cons y ys ih =>
      intro rs hr
      rw [g1, ih _ (by simp), at1_left (by omega) (by omega)]
  have hg : g1 [1] (s ++ [stp v 0]) = g1 [1] s ++ [(n : Int)] := by
    rw [g1_append, g1, g1, stp_add, h.top, h0 s [1] (by simp)]
    have : addC ((n - 1 : Nat) : Int) (at1 [1] 0) = (n : Int) := by
      show addC _ 1 = _
      unfold addC
      rw [if_pos (by omega)]
      omega
    rw [this]
  have hform : fB 1 (s ++ [stp v 0]) 0 = true := by
    rw [fB_append, h.form, hst]
    simp only [fB, Bool.true_and, Bool.and_true, decide_eq_true_eq]
    rw [w64_id (by omega)]
    omega
  have hlen : (s ++ [stp v 0]).length = s.length + 1 := by simp
  have hlow : ∀ e ∈ g1 [1] (s ++ [stp v 0]), 1 ≤ e ∧ e ≤ (n : Int) := fun e he => by
    rw [hg] at he
    rcases List.mem_append.1 he with he | he
    · have := h.low e he
      omega
    · rw [List.mem_singleton.1 he]
      omega
  have hin : (0 : Int) ≤ (s.length : Int) + 1 ∧ (s.length : Int) + 1 ≤ ((s ++ [stp v 0]).length : Int) := by rw [hlen]; omega
  have hgood : Pure.good 1 (s ++ [stp v 0]) [(s.length : Int) + 1] = true := good1 (by rw [hlen]; omega) hform hin (fun e he => by have := hlow e he; omega)
  refine ⟨s ++ [stp v 0], (s.length : Int) + 1, shift ?_, shift ?_, hform, hin, hlow, ?_, ?_, ?_⟩
  · have e := h.specE
    rw [← hw] at e
    simp only [spec_meFactors.f]
    refine neg (by omega) (bind h1 (pos rfl (bind e ?_)))
    have hw2 : w64 (1 + (s.length : Int)) = (s.length : Int) + 1 := by
      rw [w64_id (by omega)]
      omega
    have hgt : gt [v] 0 = some v := rfl
    have hap : ap s [stp v 0] = some (s ++ [stp v 0]) := ap_ok (by simp; omega)
    simp only [hgt, Option.bind_some, spec_meTimes.f, ap_nil (show s.length ≤ 1000 by omega), plStep_eq, hap, spec_meEnd.f, hw2]
    exact ret _
  · have e := h.implE
    rw [← hw] at e
    simp only [impl_FactorPlan.f, isNumber_eq, Option.bind_some]
    refine pos (decide_eq_true (by omega)) (neg (by omega) (bind h2 (neg (by omega) (bind e (pos rfl ?_)))))
    have hgt : gt [v] 0 = some v := rfl
    have hap : ap s [(⟨mn v 0, mx v 0⟩ : SStep)] = some (s ++ [stp v 0]) := ap_ok (by simp; omega)
    have hw2 : w64 (w64 (1 + ((s ++ [stp v 0]).length : Int)) - 1) = (s.length : Int) + 1 := by
      rw [hlen, w64_id (x := 1 + ((s.length + 1 : Nat) : Int)) (by omega), w64_id (by omega)]
      omega
    simp only [clone_eq (show s.length ≤ 1000 by omega) (show [v].length ≤ 1000 by simp), hgt, Option.bind_some, impl_maker_multiply.f, impl_step.f, hap, impl_Plan_many_2.f, impl_maker_plan.f, hw2]
    exact bind (told_ev hgood) (ret _)
  · rw [hg]
    have : (s.length : Int) + 1 = ((g1 [1] s).length : Int) := by rw [gl]; omega
    rw [this, at1_last]
  · rw [hlen, Nat.pow_succ]
    by_cases h2n : n = 2
    · subst h2n
      have := h.size
      omega
    · have hodd : ¬ 2 ∣ n := fun hd => h2n (hp hd)
      have hev := h.even (by omega)
      rw [Nat.pow_succ] at hev
      have : (n - 1) * (n - 1) ≤ n * n := Nat.mul_le_mul (by omega) (by omega)
      omega
  · intro hd
    have := hp hd
    subst this
    have hs := h.size
    rw [hlen, Nat.pow_succ, Nat.pow_succ]
    omega
end Go.Proofs.Ytpdpomjgfmdjfaa.Pure
