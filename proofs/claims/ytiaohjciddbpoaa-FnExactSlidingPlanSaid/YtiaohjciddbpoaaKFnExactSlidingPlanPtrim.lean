/- Pure: which values of a plan are used, the used steps alone, values that are shared, another plan's steps behind. -/
import Derived.Test.YtiaohjciddbpoaaKFnExactSlidingPlanPsplit
set_option linter.unusedVariables false
set_option linter.unusedSimpArgs false
namespace Go.Proofs.Ytiaohjciddbpoaa.Pure
open Go.RowKit Go.Proofs.Ytiaohjciddbpoaa.E Go.Proofs.Ytiaohjciddbpoaa.H2 Go.Proofs.Ytiaohjciddbpoaa.Frame Go.Proofs.YtiaohjciddbpoaaW.PrintLast Go.Proofs.YtiaohjciddbpoaaW.PrintMore
open Go.Proofs.YtiaohjciddbpoaaW.PrintWords hiding mn mx
/-! ### which values are used -/
/-- What is used, of the steps that make the values from n on. -/
def us (n : Nat) : List SStep → List Int → Int → Bool
  | [], o, v => decide (v ∈ o)
  | y :: ys, o, v => us (n + 1) ys o v || (us (n + 1) ys o (n : Int) && (decide (v = y.f0) || decide (v = y.f1)))
theorem us_out {n : Nat} {s : List SStep} {o : List Int} {v : Int} (h : v ∈ o) : us n s o v = true := by
  induction s generalizing n with
  | nil => simp [us, h]
  | cons y ys ih => simp [us, ih]
/-- Steps before say nothing of the values behind them. -/
theorem us_drop {n : Nat} {s : List SStep} {o : List Int} (h : Ok n s) (j : Nat) (hj : j ≤ s.length) {v : Int} (hv : ((n + j : Nat) : Int) ≤ v + 1) : us n s o v = us (n + j) (s.drop j) o v := by
  induction s generalizing n j with
  | nil => simp at hj; subst hj; rfl
  | cons y ys ih =>
    cases j with
    | zero => rfl
    | succ j =>
      have h1 := h.1
      rw [List.drop_succ_cons, show n + (j + 1) = n + 1 + j by omega, ← ih h.2 j (by simpa using hj) (by omega)]
      simp only [us]
      rw [decide_eq_false (show ¬ v = y.f0 by omega), decide_eq_false (show ¬ v = y.f1 by omega)]
      simp
/-- A used step's factors are used. -/
theorem us_fac {n : Nat} {s : List SStep} {o : List Int} (h : Ok n s) {j : Nat} {y : SStep} (hj : s[j]? = some y) (hu : us n s o ((n + j : Nat) : Int) = true) : us n s o y.f0 = true ∧ us n s o y.f1 = true := by
  induction s generalizing n j with
  | nil => simp at hj
  | cons z ys ih =>
    have h1 := h.1
    cases j with
    | zero =>
      obtain rfl : z = y := by simpa using hj
      have hu' : us (n + 1) ys o (n : Int) = true := by
        simp only [us, Bool.or_eq_true, Bool.and_eq_true, decide_eq_true_eq] at hu
        rcases hu with hu | ⟨hu, _⟩
        · exact hu
        · exact hu
      simp [us, hu']
    | succ j =>
      have hj' : ys[j]? = some y := by simpa using hj
      have hu' : us (n + 1) ys o ((n + 1 + j : Nat) : Int) = true := by
        simp only [us, Bool.or_eq_true, Bool.and_eq_true, decide_eq_true_eq] at hu
        rw [show n + 1 + j = n + (j + 1) by omega]
        rcases hu with hu | ⟨_, hu⟩
        · exact hu
        · omega
      have := ih h.2 hj' hu'
      simp [us, this]
/-! ### the used steps alone -/
/-- The places of all values, and the steps that stay. -/
def tr (U : Int → Bool) (i : Int) : Nat → List SStep → List Int → List SStep → List Int × List SStep
  | _, [], p, q => (p, q)
  | n, y :: ys, p, q => tr U i (n + 1) ys (p ++ [i + (q.length : Int)]) (if U (n : Int) = true then q ++ [⟨mn (rg (p ++ [i + (q.length : Int)]) y.f0) (rg (p ++ [i + (q.length : Int)]) y.f1), mx (rg (p ++ [i + (q.length : Int)]) y.f0) (rg (p ++ [i + (q.length : Int)]) y.f1)⟩] else q)
/-- What is used or comes in. -/
def Lv (I : Nat) (U : Int → Bool) (v : Int) : Prop := v < (I : Int) ∨ U v = true
/-- The place of a value is I and how many used ones lie before it. -/
def pl (I : Nat) (U : Int → Bool) (v : Int) : Int := if v < (I : Int) then v else (I : Int) + ((vals (v - (I : Int)).toNat fun j => U ((I : Int) + j)).length : Int)
structure Tr (I : Nat) (U : Int → Bool) (s : List SStep) (p : List Int) (q : List SStep) : Prop where
  pn : p.length = I + s.length
  qn : q.length = (vals s.length fun j => U ((I : Int) + j)).length
  pv : ∀ v : Int, 0 ≤ v → v < ((I + s.length : Nat) : Int) → rg p v = pl I U v
theorem tr_app (U : Int → Bool) (i : Int) (n : Nat) (s t : List SStep) (p : List Int) (q : List SStep) : tr U i n (s ++ t) p q = tr U i (n + s.length) t (tr U i n s p q).1 (tr U i n s p q).2 := by
  induction s generalizing n p q with
  | nil => rfl
  | cons y ys ih =>
    simp only [List.cons_append, tr, List.length_cons]
    rw [ih, show n + 1 + ys.length = n + (ys.length + 1) by omega]
theorem pl_at {I : Nat} {U : Int → Bool} (m : Nat) : pl I U ((I + m : Nat) : Int) = (I : Int) + ((vals m fun j => U ((I : Int) + j)).length : Int) := by
  unfold pl
  rw [if_neg (by omega), show (((I + m : Nat) : Int) - (I : Int)).toNat = m by omega]
theorem tr_ok {I : Nat} {U : Int → Bool} (s : List SStep) (p0 : List Int) (hp0 : p0.length = I) (hp : ∀ v : Int, 0 ≤ v → v < (I : Int) → rg p0 v = v) : Tr I U s (tr U (I : Int) I s p0 []).1 (tr U (I : Int) I s p0 []).2 := by
  obtain ⟨k, hk⟩ : ∃ k, s.length = k := ⟨_, rfl⟩
  induction k generalizing s with
  | zero =>
    obtain rfl := List.length_eq_zero_iff.1 hk
    refine ⟨by simp [tr, hp0], by simp [tr, vals], ?_⟩
    intro v h0 h1
    unfold pl
    rw [if_pos (by simpa using h1)]
    exact hp v h0 (by simpa using h1)
  | succ k ih =>
    rcases List.eq_nil_or_concat s with rfl | ⟨t, y, rfl⟩
    · simp at hk
    simp only [List.concat_eq_append, List.length_append, List.length_cons, List.length_nil] at hk
    simp only [List.concat_eq_append]
    have ht := ih t (by omega)
    rw [tr_app]
    generalize tr U (I : Int) I t p0 [] = pq at ht ⊢
    obtain ⟨p, q⟩ := pq
    have h1 := ht.pn
    have h2 := ht.qn
    have h3 := ht.pv
    simp only at h1 h2 h3
    simp only [tr]
    refine ⟨by simp [h1]; omega, ?_, ?_⟩
    · rw [List.length_append, List.length_singleton, vals_succ, List.length_append, ← h2]
      rw [show (I : Int) + (t.length : Int) = ((I + t.length : Nat) : Int) by omega]
      by_cases c : U ((I + t.length : Nat) : Int) = true
      · rw [if_pos c, if_pos c]; simp
      · rw [if_neg c, if_neg c]; simp
    · intro v v0 v1
      rw [List.length_append, List.length_singleton] at v1
      by_cases c : v < ((I + t.length : Nat) : Int)
      · rw [rg_app v0 (by omega)]
        exact h3 v v0 c
      · obtain rfl : v = ((I + t.length : Nat) : Int) := by omega
        rw [rg_new (by omega), pl_at, h2]
theorem vals_le {M N : Nat} (h : M ≤ N) (p : Int → Bool) : (vals M p).length ≤ (vals N p).length := by
  induction N with
  | zero =>
    obtain rfl : M = 0 := by omega
    exact Nat.le_refl _
  | succ N ih =>
    by_cases c : M = N + 1
    · subst c; exact Nat.le_refl _
    · rw [vals_succ, List.length_append]
      have := ih (by omega)
      omega
theorem vals_lt {M N : Nat} (h : M < N) {p : Int → Bool} (hp : p (M : Int) = true) : (vals M p).length < (vals N p).length := by
  have := vals_le (show M + 1 ≤ N by omega) p
  rw [vals_succ, if_pos hp, List.length_append, List.length_singleton] at this
  omega
theorem pl_lt {I : Nat} {U : Int → Bool} {u v : Int} (h0 : 0 ≤ u) (h : u < v) (hu : Lv I U u) : pl I U u < pl I U v := by
  unfold pl
  by_cases c : v < (I : Int)
  · rw [if_pos (by omega), if_pos c]; exact h
  · rw [if_neg c]
    by_cases d : u < (I : Int)
    · rw [if_pos d]; omega
    · rw [if_neg d]
      have hu' := hu.resolve_left d
      have := vals_lt (M := (u - (I : Int)).toNat) (N := (v - (I : Int)).toNat) (by omega) (p := fun j => U ((I : Int) + j)) (by
        show U ((I : Int) + (((u - (I : Int)).toNat : Nat) : Int)) = true
        rw [show (I : Int) + (((u - (I : Int)).toNat : Nat) : Int) = u by omega]
        exact hu')
      omega
theorem pl_le {I : Nat} {U : Int → Bool} {u v : Int} (h0 : 0 ≤ u) (h : u ≤ v) (hu : Lv I U u) : pl I U u ≤ pl I U v := by
  by_cases c : u = v
  · subst c; exact Int.le_refl _
  · exact Int.le_of_lt (pl_lt h0 (by omega) hu)
theorem mn_of_le {a b : Int} (h : a ≤ b) : mn a b = a := by unfold mn; rw [if_neg (by omega)]
theorem mx_of_le {a b : Int} (h : a ≤ b) : mx a b = b := by unfold mx; split <;> omega
/-- The steps that stay. -/
def ts (I : Nat) (U : Int → Bool) (s : List SStep) : List SStep := (tr U (I : Int) I s ((List.range I).map fun (j : Nat) => (j : Int)) []).2
def tp (I : Nat) (U : Int → Bool) (s : List SStep) : List Int := (tr U (I : Int) I s ((List.range I).map fun (j : Nat) => (j : Int)) []).1
theorem tr_Tr (I : Nat) (U : Int → Bool) (s : List SStep) : Tr I U s (tp I U s) (ts I U s) := by
  refine tr_ok s _ (by simp) fun v h0 h1 => ?_
  obtain ⟨j, rfl⟩ := Int.eq_ofNat_of_zero_le h0
  rw [rg_nat (by simp; omega)]
  simp
theorem ts_snoc (I : Nat) (U : Int → Bool) (s : List SStep) (y : SStep) (h0 : 0 ≤ y.f0) (h01 : y.f0 ≤ y.f1) (h1 : y.f1 < ((I + s.length : Nat) : Int)) (hU : U ((I + s.length : Nat) : Int) = true → Lv I U y.f0 ∧ Lv I U y.f1) :
    ts I U (s ++ [y]) = if U ((I + s.length : Nat) : Int) = true then ts I U s ++ [⟨pl I U y.f0, pl I U y.f1⟩] else ts I U s := by
  have h := tr_Tr I U s
  unfold ts tp at *
  rw [tr_app]
  generalize tr U (I : Int) I s ((List.range I).map fun (j : Nat) => (j : Int)) [] = pq at h ⊢
  obtain ⟨p, q⟩ := pq
  have e1 := h.pn
  have e3 := h.pv
  simp only at e1 e3
  simp only [tr]
  by_cases c : U ((I + s.length : Nat) : Int) = true
  · rw [if_pos c, if_pos c, rg_app h0 (by omega), rg_app (by omega) (by omega), e3 _ h0 (by omega), e3 _ (by omega) h1]
    have hl := pl_le h0 h01 (hU c).1
    rw [mn_of_le hl, mx_of_le hl]
  · rw [if_neg c, if_neg c]
/-- What a rule for what stays must keep. -/
def Cl (I : Nat) (U : Int → Bool) (s : List SStep) : Prop := ∀ (j : Nat) (y : SStep), s[j]? = some y → U ((I + j : Nat) : Int) = true → Lv I U y.f0 ∧ Lv I U y.f1
theorem Cl.init {I : Nat} {U : Int → Bool} {s : List SStep} {y : SStep} (h : Cl I U (s ++ [y])) : Cl I U s ∧ (U ((I + s.length : Nat) : Int) = true → Lv I U y.f0 ∧ Lv I U y.f1) := by
  refine ⟨fun j z hz => h j z (by rw [List.getElem?_append_left (List.getElem?_eq_some_iff.1 hz).1]; exact hz), fun hu => h s.length y (by simp) hu⟩
theorem ind_snoc {α : Type} {P : List α → Prop} (h0 : P []) (h1 : ∀ s y, P s → P (s ++ [y])) : ∀ s, P s := by
  intro s
  obtain ⟨k, hk⟩ : ∃ k, s.length = k := ⟨_, rfl⟩
  induction k generalizing s with
  | zero =>
    obtain rfl := List.length_eq_zero_iff.1 hk
    exact h0
  | succ k ih =>
    rcases List.eq_nil_or_concat s with rfl | ⟨t, y, rfl⟩
    · simp at hk
    rw [List.concat_eq_append] at *
    exact h1 _ _ (ih t (by simp at hk; omega))
theorem ts_len (I : Nat) (U : Int → Bool) (s : List SStep) : (ts I U s).length = (vals s.length fun j => U ((I : Int) + j)).length := (tr_Tr I U s).qn
theorem vals_congr {M : Nat} {p q : Int → Bool} (h : ∀ v : Int, 0 ≤ v → v < (M : Int) → p v = q v) : vals M p = vals M q := by
  induction M with
  | zero => rfl
  | succ M ih => rw [vals_succ, vals_succ, ih (fun v h0 h1 => h v h0 (by omega)), h (M : Int) (by omega) (by omega)]
/-! ### values that are shared -/
def shs (fi : Int → Int) (y : SStep) : SStep := ⟨mn (fi y.f0) (fi y.f1), mx (fi y.f0) (fi y.f1)⟩
/-! ### another plan's steps behind -/
def sf (I d : Nat) (v : Int) : Int := if v < (I : Int) then v else v + (d : Int)
def sfs (I d : Nat) (y : SStep) : SStep := ⟨sf I d y.f0, sf I d y.f1⟩
end Go.Proofs.Ytiaohjciddbpoaa.Pure
