/- Pure: laws' arguments: their sizes, their copies; lists searched. -/
import Derived.Test.YtiaohjciddbpoaaKFnExactSlidingPlanPgood2
set_option linter.unusedVariables false
set_option linter.unusedSimpArgs false
namespace Go.Proofs.Ytiaohjciddbpoaa.Pure
open Go.RowKit Go.Proofs.Ytiaohjciddbpoaa.E Go.Proofs.Ytiaohjciddbpoaa.H2 Go.Proofs.Ytiaohjciddbpoaa.Frame Go.Proofs.YtiaohjciddbpoaaW.PrintLast Go.Proofs.YtiaohjciddbpoaaW.PrintMore
open Go.Proofs.YtiaohjciddbpoaaW.PrintWords hiding mn mx
/-! lists searched -/
theorem l1Has_l0 (x : Int) (l : List Int) (j : Int) : spec_l1Has.l0 x l j = some (bif decide (x ∈ l) then .inl true else .inr ()) := by
  induction l generalizing j with
  | nil => rfl
  | cons y ys ih =>
    simp only [spec_l1Has.l0]
    by_cases h : y = x
    · rw [if_pos h, decide_eq_true (by rw [h]; exact List.mem_cons_self)]
      rfl
    · have : (x ∈ y :: ys) ↔ x ∈ ys := by
        rw [List.mem_cons]
        exact ⟨fun q => q.resolve_left (fun e => h e.symm), .inr⟩
      rw [if_neg h, ih]
      simp only [this]
theorem l1Has_eq (l : List Int) (x : Int) : spec_l1Has.f l x = some (decide (x ∈ l)) := by
  unfold spec_l1Has.f
  rw [l1Has_l0]
  cases decide (x ∈ l) <;> rfl
theorem l1Own_eq (l : List Int) (h : l.length ≤ 1000000000) : spec_l1Own.f l = some l := by
  unfold spec_l1Own.f
  rw [ap_ok (by simpa using h)]
  rfl
theorem ct_take {α : Type} (l : List α) (j : Nat) (h : j ≤ l.length) : ct l (0 : Int) (j : Int) = some (l.take j) := by
  unfold ct
  rw [if_pos (by omega)]
  simp
theorem ct_drop {α : Type} (l : List α) (j : Nat) (h : j ≤ l.length) : ct l (j : Int) (l.length : Int) = some (l.drop j) := by
  unfold ct
  rw [if_pos (by omega)]
  simp
/-- A number put into a rising list, as the code does it. -/
def put : List Int → Int → List Int
  | [], a => [a]
  | y :: ys, a => if y < a then y :: put ys a else if y = a then y :: ys else a :: y :: ys
def pre : List Int → Int → Nat
  | [], _ => 0
  | y :: ys, a => if y < a then pre ys a + 1 else 0
theorem pre_le (l : List Int) (a : Int) : pre l a ≤ l.length := by
  induction l with
  | nil => exact Nat.le_refl _
  | cons y ys ih =>
    simp only [pre, List.length_cons]
    split <;> omega
theorem put_eq (l : List Int) (a : Int) : put l a = if l[pre l a]? = some a then l else l.take (pre l a) ++ [a] ++ l.drop (pre l a) := by
  induction l with
  | nil => simp [put, pre]
  | cons y ys ih =>
    by_cases h : y < a
    · simp only [put, pre, if_pos h, List.getElem?_cons_succ]
      rw [ih]
      by_cases h2 : ys[pre ys a]? = some a
      · rw [if_pos h2, if_pos h2]
      · rw [if_neg h2, if_neg h2]
        simp
    · simp only [put, pre, if_neg h]
      by_cases h2 : y = a
      · simp [h2]
      · simp [h2]
theorem put_l0 (l : List Int) (a : Int) (hl : l.length ≤ 1000000) : ∀ (d j : Nat), j + d = l.length → Ev (fun k => spec_l1Put.l0 l a k (j : Int)) ((j + pre (l.drop j) a : Nat) : Int) := by
  intro d
  induction d with
  | zero =>
    intro j hj
    refine shift ?_
    simp only [spec_l1Put.l0]
    rw [List.drop_eq_nil_of_le (by omega)]
    exact neg (by omega) (ret _)
  | succ d ih =>
    intro j hj
    refine shift ?_
    simp only [spec_l1Put.l0]
    refine pos (by omega) ?_
    rw [gt_nat (show j < l.length by omega), List.drop_eq_getElem_cons (show j < l.length by omega)]
    simp only [Option.bind_some, pre]
    by_cases h : l[j] < a
    · rw [w64_succ (by omega)]
      refine pos h ?_
      rw [if_pos h, show j + (pre (l.drop (j + 1)) a + 1) = j + 1 + pre (l.drop (j + 1)) a by omega]
      exact ih (j + 1) (by omega)
    · refine neg h ?_
      rw [if_neg h]
      exact ret _
theorem put_ev (l : List Int) (a : Int) (hl : l.length ≤ 1000000) : Ev (fun k => spec_l1Put.f k l a) (put l a) := by
  unfold spec_l1Put.f
  have hp := pre_le l a
  have h0 := put_l0 l a hl l.length 0 (by omega)
  rw [List.drop_zero, Nat.zero_add] at h0
  refine bind h0 ?_
  rw [put_eq]
  by_cases h1 : pre l a < l.length
  · have hg : gt l ((pre l a : Nat) : Int) = some l[pre l a] := gt_nat h1
    by_cases h2 : l[pre l a] = a
    · refine now ?_
      rw [if_pos (by omega), hg, List.getElem?_eq_getElem h1, h2]
      simp
    · refine now ?_
      rw [if_pos (by omega), hg, List.getElem?_eq_getElem h1, if_neg (by simpa using h2)]
      simp only [Option.bind_some, if_neg h2]
      rw [ct_take _ _ hp, Option.bind_some, ap_ok (by simp; omega), Option.bind_some, ap_ok (by simp; omega), Option.bind_some, ct_drop _ _ hp, Option.bind_some, ap_ok (by simp; omega), Option.bind_some]
      simp
  · refine now ?_
    rw [if_neg (by omega), List.getElem?_eq_none (by omega), if_neg (by simp)]
    simp only [Option.bind_some]
    rw [ct_take _ _ hp, Option.bind_some, ap_ok (by simp; omega), Option.bind_some, ap_ok (by simp; omega), Option.bind_some, ct_drop _ _ hp, Option.bind_some, ap_ok (by simp; omega), Option.bind_some]
    simp
/-! rows of bools as functions -/
def tb (M : Nat) (f : Int → Bool) : List Bool := (List.range M).map fun (j : Nat) => f (j : Int)
theorem tb_len (M : Nat) (f : Int → Bool) : (tb M f).length = M := by simp [tb]
theorem tb_ext {M : Nat} {f g : Int → Bool} (h : ∀ u : Int, 0 ≤ u → u < M → f u = g u) : tb M f = tb M g := by
  unfold tb
  refine List.map_congr_left fun j hj => h _ (by omega) ?_
  have := List.mem_range.1 hj
  omega
theorem tb_gt {M : Nat} {f : Int → Bool} {v : Int} (h0 : 0 ≤ v) (h1 : v < M) : gt (tb M f) v = some (f v) := by
  obtain ⟨j, rfl⟩ := Int.eq_ofNat_of_zero_le h0
  rw [gt_nat (by rw [tb_len]; omega)]
  simp [tb]
theorem tb_st {M : Nat} {f : Int → Bool} {v : Int} {b : Bool} (h0 : 0 ≤ v) (h1 : v < M) : st (tb M f) v b = some (tb M (fun u => if u = v then b else f u)) := by
  obtain ⟨j, rfl⟩ := Int.eq_ofNat_of_zero_le h0
  rw [st_nat (by rw [tb_len]; omega)]
  congr 1
  apply List.ext_getElem
  · simp [tb]
  · intro n k1 k2
    rw [List.getElem_set]
    simp only [tb, List.getElem_map, List.getElem_range]
    by_cases h : j = n
    · subst h
      simp
    · rw [if_neg h, if_neg (by omega)]
theorem tb_mk {M : Nat} {n : Int} (h : n = (M : Int)) (hM : M ≤ 1000000) : mk0 n false = some (tb M fun _ => false) := by
  subst h
  unfold mk0
  rw [if_pos (by omega), Int.toNat_natCast]
  congr 1
  apply List.ext_getElem
  · simp [tb]
  · intro n k1 k2
    simp [tb]
end Go.Proofs.Ytiaohjciddbpoaa.Pure
