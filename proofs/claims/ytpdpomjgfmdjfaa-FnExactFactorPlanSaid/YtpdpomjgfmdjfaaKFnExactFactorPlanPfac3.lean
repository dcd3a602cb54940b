/- Pure: a plan of one input behind another, on both sides. -/
import Derived.Test.YtpdpomjgfmdjfaaKFnExactFactorPlanPfac2
set_option linter.unusedVariables false
set_option linter.unusedSimpArgs false
namespace Go.Proofs.Ytpdpomjgfmdjfaa.Pure
open Go.RowKit Go.Proofs.Ytpdpomjgfmdjfaa.E Go.Proofs.Ytpdpomjgfmdjfaa.E2 Go.Proofs.Ytpdpomjgfmdjfaa.Frame Go.Proofs.YtpdpomjgfmdjfaaW.PrintLast Go.Proofs.YtpdpomjgfmdjfaaW.PrintMore
open Go.Proofs.YtpdpomjgfmdjfaaW.PrintWords hiding mn mx
def stp (a b : Int) : SStep := ⟨mn a b, mx a b⟩
theorem plStep_eq (a b : Int) : spec_plStep.f a b = some (stp a b) := by
  unfold spec_plStep.f spec_l1Least.f spec_l1Most.f stp mn mx
  by_cases h : a < b
  · have h2 : ¬ b < a := by omega
    simp [h, h2]
  · by_cases h2 : b < a
    · simp [h, h2]
    · obtain rfl : a = b := by omega
      simp
theorem stp_in {a b n : Int} (ha : 0 ≤ a ∧ a < n) (hb : 0 ≤ b ∧ b < n) : 0 ≤ (stp a b).f0 ∧ (stp a b).f0 ≤ (stp a b).f1 ∧ (stp a b).f1 < n := by
  unfold stp mn mx
  refine ⟨?_, ?_, ?_⟩ <;> dsimp only <;> split <;> (try split) <;> omega
theorem addC_comm (a b : Int) : addC a b = addC b a := by unfold addC; rw [Int.add_comm]
theorem stp_add (rs : List Int) (a b : Int) : addC (at1 rs (stp a b).f0) (at1 rs (stp a b).f1) = addC (at1 rs a) (at1 rs b) := by
  unfold stp mn mx
  by_cases h : b < a
  · rw [if_pos h, if_neg (by omega), addC_comm]
  · rw [if_neg h]
    by_cases h2 : a < b
    · rw [if_pos h2]
    · obtain rfl : a = b := by omega
      simp
/-- Steps put behind out, vs the places of the values. -/
def cmp : List SStep → List Int → List SStep → List Int × List SStep
  | [], vs, out => (vs, out)
  | y :: ys, vs, out => cmp ys (vs ++ [(out.length : Int) + 1]) (out ++ [stp (at1 vs y.f0) (at1 vs y.f1)])
theorem spec_cmp (ys : List SStep) (vs : List Int) (out : List SStep) (j i : Int) (hj : 0 ≤ j) (hl : (vs.length : Int) = 1 + j) (hb : vs.length + out.length + 2 * ys.length ≤ 100000) (hf : fB 1 ys j = true) : spec_plThen.l0 1 ys vs out i = some (cmp ys vs out) := by
  induction ys generalizing vs out j i with
  | nil => rfl
  | cons y ys ih =>
    simp only [fB, Bool.and_eq_true, decide_eq_true_eq] at hf
    obtain ⟨⟨k0, k1, k2⟩, k3⟩ := hf
    simp only [List.length_cons] at hb
    rw [w64_id (by omega)] at k2
    simp only [spec_plThen.l0, cmp]
    rw [at1_gt k0 (by omega), Option.bind_some, at1_gt (show 0 ≤ y.f1 by omega) (by omega), Option.bind_some, plStep_eq, Option.bind_some, ap_ok (by simp; omega), Option.bind_some]
    have hw : w64 (w64 (1 + ((out ++ [stp (at1 vs y.f0) (at1 vs y.f1)]).length : Int)) - 1) = (out.length : Int) + 1 := by
      rw [List.length_append, List.length_singleton, w64_id (x := 1 + ((out.length + 1 : Nat) : Int)) (by omega), w64_id (by omega)]
      omega
    rw [hw, ap_ok (by simp; omega), Option.bind_some]
    exact ih _ _ (j + 1) _ (by omega) (by rw [List.length_append, List.length_singleton]; omega) (by rw [List.length_append, List.length_append, List.length_singleton, List.length_singleton]; omega) k3
theorem impl_cmp (o : List Int) (ys : List SStep) (vs : List Int) (out : List SStep) (j i : Int) (hj : 0 ≤ j) (hl : (vs.length : Int) = 1 + j) (hb : vs.length + out.length + 2 * ys.length ≤ 100000) (hf : fB 1 ys j = true) : impl_Plan_behind.l0 1 o ys vs out i = some (cmp ys vs out) := by
  induction ys generalizing vs out j i with
  | nil => rfl
  | cons y ys ih =>
    simp only [fB, Bool.and_eq_true, decide_eq_true_eq] at hf
    obtain ⟨⟨k0, k1, k2⟩, k3⟩ := hf
    simp only [List.length_cons] at hb
    rw [w64_id (by omega)] at k2
    simp only [impl_Plan_behind.l0, cmp, impl_Plan_many.f, impl_step.f, Option.bind_some]
    have hw : w64 (1 + (out.length : Int)) = (out.length : Int) + 1 := by
      rw [w64_id (by omega)]
      omega
    rw [hw, ap_ok (by simp; omega), Option.bind_some, at1_gt k0 (by simp; omega), Option.bind_some, at1_gt (show 0 ≤ y.f1 by omega) (by simp; omega), Option.bind_some, at1_left k0 (by omega), at1_left (show 0 ≤ y.f1 by omega) (by omega), ap_ok (by simp; omega), Option.bind_some]
    exact ih _ _ (j + 1) _ (by omega) (by rw [List.length_append, List.length_singleton]; omega) (by rw [List.length_append, List.length_append, List.length_singleton, List.length_singleton]; omega) k3
/-- What stays true while steps are put behind: c the exponent of the value that takes the input's place. -/
structure Beh (c m : Int) (vs : List Int) (F : List Int) (out : List SStep) : Prop where
  len : vs.length = F.length
  inb : ∀ v ∈ vs, 0 ≤ v ∧ v ≤ out.length
  form : fB 1 out 0 = true
  exps : ∀ k : Int, 0 ≤ k → k < vs.length → at1 (g1 [1] out) (at1 vs k) = c * at1 F k
  low : ∀ e ∈ g1 [1] out, 1 ≤ e ∧ e ≤ m
theorem cmp_beh {c n m : Int} (hc : 1 ≤ c) (hm : c * n ≤ m) (hm2 : m ≤ 1000000) : ∀ (ys : List SStep) (vs : List Int) (F : List Int) (out : List SStep) (j : Int), 0 ≤ j → (vs.length : Int) = 1 + j → vs.length + out.length + 2 * ys.length ≤ 100000 → fB 1 ys j = true → Beh c m vs F out → (∀ e ∈ F, 1 ≤ e) → (∀ e ∈ g1 F ys, e ≤ n) →
    Beh c m (cmp ys vs out).1 (g1 F ys) (cmp ys vs out).2 ∧ (cmp ys vs out).2.length = out.length + ys.length
  | [], vs, F, out, j, _, _, _, _, h, _, _ => ⟨h, rfl⟩
  | y :: ys, vs, F, out, j, hj, hl, hb, hf, h, hF, hn => by
    simp only [fB, Bool.and_eq_true, decide_eq_true_eq] at hf
    obtain ⟨⟨k0, k1, k2⟩, k3⟩ := hf
    simp only [List.length_cons] at hb
    rw [w64_id (by omega)] at k2
    have hl2 := h.len
    have m0 := h.inb _ (at1_mem (l := vs) k0 (by omega))
    have m1 := h.inb _ (at1_mem (l := vs) (show 0 ≤ y.f1 by omega) (by omega))
    have e0 := h.exps y.f0 k0 (by omega)
    have e1 := h.exps y.f1 (by omega) (by omega)
    have f0 := hF _ (at1_mem (l := F) k0 (by omega))
    have f1 := hF _ (at1_mem (l := F) (show 0 ≤ y.f1 by omega) (by omega))
    have gl : (g1 [1] out).length = 1 + out.length := by rw [g1_len]; rfl
    -- the new exponent of the inner plan is at most n
    have hnew : addC (at1 F y.f0) (at1 F y.f1) ≤ n := by
      refine hn _ ?_
      rw [g1]
      have : ∀ (zs : List SStep) (rs : List Int) (e : Int), e ∈ rs → e ∈ g1 rs zs := fun zs => by
        induction zs with
        | nil => intro rs e he; exact he
        | cons z zs ih => intro rs e he; exact ih _ _ (List.mem_append_left _ he)
      exact this _ _ _ (by simp)
    have hn6 : n ≤ 1000000 := by
      have : 1 * n ≤ c * n ∨ n < 0 := by
        by_cases h0 : 0 ≤ n
        · exact .inl (Int.mul_le_mul_of_nonneg_right hc h0)
        · exact .inr (by omega)
      omega
    have hsum : addC (at1 F y.f0) (at1 F y.f1) = at1 F y.f0 + at1 F y.f1 := by
      unfold addC at hnew ⊢
      split
      · rfl
      · rename_i hx
        rw [if_neg hx] at hnew
        omega
    rw [hsum] at hnew
    have hcm : c * (at1 F y.f0 + at1 F y.f1) ≤ m := Int.le_trans (Int.mul_le_mul_of_nonneg_left hnew (by omega)) hm
    have hadd : addC (at1 (g1 [1] out) (at1 vs y.f0)) (at1 (g1 [1] out) (at1 vs y.f1)) = c * (at1 F y.f0 + at1 F y.f1) := by
      rw [e0, e1, Int.mul_add]
      unfold addC
      rw [Int.mul_add] at hcm
      rw [if_pos (by omega)]
    have hg : g1 [1] (out ++ [stp (at1 vs y.f0) (at1 vs y.f1)]) = g1 [1] out ++ [c * (at1 F y.f0 + at1 F y.f1)] := by
      rw [g1_append, g1, g1, stp_add, hadd]
    have hpos : 1 ≤ c * (at1 F y.f0 + at1 F y.f1) := by
      have : 1 * 1 ≤ c * (at1 F y.f0 + at1 F y.f1) := Int.mul_le_mul hc (by omega) (by omega) (by omega)
      omega
    have hB : Beh c m (vs ++ [(out.length : Int) + 1]) (F ++ [addC (at1 F y.f0) (at1 F y.f1)]) (out ++ [stp (at1 vs y.f0) (at1 vs y.f1)]) := by
      refine ⟨by rw [List.length_append, List.length_append, hl2]; rfl, ?_, ?_, ?_, ?_⟩
      · intro v hv
        rw [List.length_append, List.length_singleton]
        rcases List.mem_append.1 hv with hv | hv
        · have := h.inb v hv
          omega
        · rw [List.mem_singleton.1 hv]
          omega
      · rw [fB_append, h.form]
        have hs := stp_in (a := at1 vs y.f0) (b := at1 vs y.f1) (n := 1 + out.length) (by omega) (by omega)
        simp only [fB, Bool.true_and, Bool.and_true, decide_eq_true_eq]
        rw [w64_id (by omega)]
        refine ⟨hs.1, hs.2.1, by omega⟩
      · intro k h0 h1
        rw [List.length_append, List.length_singleton] at h1
        rw [hg]
        by_cases hk : k < vs.length
        · rw [at1_left (l := vs) h0 hk, at1_left (l := F) h0 (by omega)]
          have := h.inb _ (at1_mem (l := vs) h0 hk)
          rw [at1_left this.1 (by rw [gl]; omega)]
          exact h.exps k h0 hk
        · obtain rfl : k = (vs.length : Int) := by omega
          rw [at1_last, hl2, at1_last, hsum]
          have : ((out.length : Int) + 1) = ((g1 [1] out).length : Int) := by rw [gl]; omega
          rw [this, at1_last]
      · rw [hg]
        intro e he
        rcases List.mem_append.1 he with he | he
        · exact h.low e he
        · rw [List.mem_singleton.1 he]
          exact ⟨hpos, hcm⟩
    obtain ⟨r1, r2⟩ := cmp_beh hc hm hm2 ys _ _ _ (j + 1) (by omega) (by rw [List.length_append, List.length_singleton]; omega) (by rw [List.length_append, List.length_append, List.length_singleton, List.length_singleton]; omega) k3 hB (fun e he => by
      rcases List.mem_append.1 he with he | he
      · exact hF e he
      · rw [List.mem_singleton.1 he, hsum]
        omega) (fun e he => hn e (by rw [g1]; exact he))
    rw [List.length_append, List.length_singleton] at r2
    refine ⟨by rw [g1, cmp]; exact r1, by rw [cmp, r2, List.length_cons]; omega⟩
end Go.Proofs.Ytpdpomjgfmdjfaa.Pure
