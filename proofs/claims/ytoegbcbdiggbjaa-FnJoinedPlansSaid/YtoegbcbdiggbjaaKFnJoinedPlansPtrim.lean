/- Pure: which values of a plan are used, the used steps alone, values that are shared, another plan's steps behind. -/
import Derived.Test.YtoegbcbdiggbjaaKFnJoinedPlansPsplit
set_option linter.unusedVariables false
set_option linter.unusedSimpArgs false
namespace Go.Proofs.Ytoegbcbdiggbjaa.Pure
open Go.RowKit Go.Proofs.Ytoegbcbdiggbjaa.E Go.Proofs.Ytoegbcbdiggbjaa.JP Go.Proofs.Ytoegbcbdiggbjaa.Frame Go.Proofs.YtoegbcbdiggbjaaW.PrintLast Go.Proofs.YtoegbcbdiggbjaaW.PrintMore
open Go.Proofs.YtoegbcbdiggbjaaW.PrintWords hiding mn mx
/-! ### which values are used -/
/-- What is used, of the steps that make the values from n on. -/
def us (n : Nat) : List SStep → List Int → Int → Bool
  | [], o, v => decide (v ∈ o)
  | y :: ys, o, v => us (n + 1) ys o v || (us (n + 1) ys o (n : Int) && (decide (v = y.f0) || decide (v = y.f1)))
/-- Only outputs and factors of used steps are used. -/
theorem us_why {n : Nat} {s : List SStep} {o : List Int} {v : Int} (h : us n s o v = true) : v ∈ o ∨ ∃ (j : Nat) (y : SStep), s[j]? = some y ∧ us (n + j + 1) (s.drop (j + 1)) o ((n + j : Nat) : Int) = true ∧ (v = y.f0 ∨ v = y.f1) := by
  induction s generalizing n with
  | nil => exact .inl (by simpa [us] using h)
  | cons y ys ih =>
    simp only [us, Bool.or_eq_true, Bool.and_eq_true, decide_eq_true_eq] at h
    rcases h with h | ⟨h, h'⟩
    · rcases ih h with h | ⟨j, z, h1, h2, h3⟩
      · exact .inl h
      · refine .inr ⟨j + 1, z, by simpa using h1, ?_, h3⟩
        rw [show n + (j + 1) = n + 1 + j by omega]
        simpa using h2
    · refine .inr ⟨0, y, rfl, ?_, h'⟩
      simpa using h
/-! ### the used steps alone -/
/-- The places of all values, and the steps that stay. -/
def tr (U : Int → Bool) (i : Int) : Nat → List SStep → List Int → List SStep → List Int × List SStep
  | _, [], p, q => (p, q)
  | n, y :: ys, p, q => tr U i (n + 1) ys (p ++ [i + (q.length : Int)]) (if U (n : Int) = true then q ++ [⟨mn (rg (p ++ [i + (q.length : Int)]) y.f0) (rg (p ++ [i + (q.length : Int)]) y.f1), mx (rg (p ++ [i + (q.length : Int)]) y.f0) (rg (p ++ [i + (q.length : Int)]) y.f1)⟩] else q)
/-- What is used or comes in. -/
def Lv (I : Nat) (U : Int → Bool) (v : Int) : Prop := v < (I : Int) ∨ U v = true
/-- The place of a value is I and how many used ones lie before it. -/
def pl (I : Nat) (U : Int → Bool) (v : Int) : Int := if v < (I : Int) then v else (I : Int) + ((vals (v - (I : Int)).toNat fun j => U ((I : Int) + j)).length : Int)
structure Tr (I : Nat) (U : Int → Bool) (s : List SStep) (p : List Int) (q : List SStep) : Prop where
  pn : p.length = I + s.length
  qn : q.length = (vals s.length fun j => U ((I : Int) + j)).length
  pv : ∀ v : Int, 0 ≤ v → v < ((I + s.length : Nat) : Int) → rg p v = pl I U v
theorem tr_app (U : Int → Bool) (i : Int) (n : Nat) (s t : List SStep) (p : List Int) (q : List SStep) : tr U i n (s ++ t) p q = tr U i (n + s.length) t (tr U i n s p q).1 (tr U i n s p q).2 := by
  induction s generalizing n p q with
  | nil => rfl
  | cons y ys ih =>
    simp only [List.cons_append, tr, List.length_cons]
    rw [ih, show n + 1 + ys.length = n + (ys.length + 1) by omega]
theorem pl_at {I : Nat} {U : Int → Bool} (m : Nat) : pl I U ((I + m : Nat) : Int) = (I : Int) + ((vals m fun j => U ((I : Int) + j)).length : Int) := by
  unfold pl
  rw [if_neg (by omega), show (((I + m : Nat) : Int) - (I : Int)).toNat = m by omega]
theorem tr_ok {I : Nat} {U : Int → Bool} (s : List SStep) (p0 : List Int) (hp0 : p0.length = I) (hp : ∀ v : Int, 0 ≤ v → v < (I : Int) → rg p0 v = v) : Tr I U s (tr U (I : Int) I s p0 []).1 (tr U (I : Int) I s p0 []).2 := by
  obtain ⟨k, hk⟩ : ∃ k, s.length = k := ⟨_, rfl⟩
  induction k generalizing s with
  | zero =>
    obtain rfl := List.length_eq_zero_iff.1 hk
    refine ⟨by simp [tr, hp0], by simp [tr, vals], ?_⟩
    intro v h0 h1
    unfold pl
    rw [if_pos (by simpa using h1)]
    exact hp v h0 (by simpa using h1)
  | succ k ih =>
    rcases List.eq_nil_or_concat s with rfl | ⟨t, y, rfl⟩
    · simp at hk
    simp only [List.concat_eq_append, List.length_append, List.length_cons, List.length_nil] at hk
    simp only [List.concat_eq_append]
    have ht := ih t (by omega)
    rw [tr_app]
    generalize tr U (I : Int) I t p0 [] = pq at ht ⊢
    obtain ⟨p, q⟩ := pq
    have h1 := ht.pn
    have h2 := ht.qn
    have h3 := ht.pv
    simp only at h1 h2 h3
    simp only [tr]
    refine ⟨by simp [h1]; omega, ?_, ?_⟩
    · rw [List.length_append, List.length_singleton, vals_succ, List.length_append, ← h2]
      rw [show (I : Int) + (t.length : Int) = ((I + t.length : Nat) : Int) by omega]
      by_cases c : U ((I + t.length : Nat) : Int) = true
      · rw [if_pos c, if_pos c]; simp
      · rw [if_neg c, if_neg c]; simp
    · intro v v0 v1
      rw [List.length_append, List.length_singleton] at v1
      by_cases c : v < ((I + t.length : Nat) : Int)
      · rw [rg_app v0 (by omega)]
        exact h3 v v0 c
      · obtain rfl : v = ((I + t.length : Nat) : Int) := by omega
        rw [rg_new (by omega), pl_at, h2]
/-- The steps that stay. -/
def ts (I : Nat) (U : Int → Bool) (s : List SStep) : List SStep := (tr U (I : Int) I s ((List.range I).map fun (j : Nat) => (j : Int)) []).2
def tp (I : Nat) (U : Int → Bool) (s : List SStep) : List Int := (tr U (I : Int) I s ((List.range I).map fun (j : Nat) => (j : Int)) []).1
theorem tr_Tr (I : Nat) (U : Int → Bool) (s : List SStep) : Tr I U s (tp I U s) (ts I U s) := by
  refine tr_ok s _ (by simp) fun v h0 h1 => ?_
  obtain ⟨j, rfl⟩ := Int.eq_ofNat_of_zero_le h0
  rw [rg_nat (by simp; omega)]
  simp
/-- What a rule for what stays must keep. -/
def Cl (I : Nat) (U : Int → Bool) (s : List SStep) : Prop := ∀ (j : Nat) (y : SStep), s[j]? = some y → U ((I + j : Nat) : Int) = true → Lv I U y.f0 ∧ Lv I U y.f1
theorem tr_none {U : Int → Bool} {i : Int} {n : Nat} {s : List SStep} {p : List Int} {q : List SStep} (h : ∀ v : Int, (n : Int) ≤ v → v < ((n + s.length : Nat) : Int) → U v = false) : (tr U i n s p q).2 = q := by
  induction s generalizing n p with
  | nil => rfl
  | cons y ys ih =>
    simp only [List.length_cons] at h
    simp only [tr]
    rw [h (n : Int) (by omega) (by omega), if_neg (by simp)]
    exact ih fun v h0 h1 => h v (by omega) (by omega)
theorem ts_none {I : Nat} {U : Int → Bool} {s t : List SStep} (h : ∀ v : Int, ((I + s.length : Nat) : Int) ≤ v → v < ((I + s.length + t.length : Nat) : Int) → U v = false) : ts I U (s ++ t) = ts I U s := by
  unfold ts
  rw [tr_app]
  exact tr_none h
theorem us_nouse {n : Nat} {t : List SStep} {o : List Int} (h : ∀ v ∈ o, v < (n : Int)) : ∀ v, us n t o v = decide (v ∈ o) := by
  induction t generalizing n with
  | nil => intro v; rfl
  | cons y ys ih =>
    intro v
    have h' : ∀ v ∈ o, v < ((n + 1 : Nat) : Int) := fun v hv => by have := h v hv; omega
    have hn : (n : Int) ∉ o := fun hm => by have := h _ hm; omega
    simp only [us]
    rw [ih h' v, ih h' (n : Int), decide_eq_false hn]
    simp
theorem us_app {n : Nat} {s t : List SStep} {o : List Int} (h : ∀ v ∈ o, v < ((n + s.length : Nat) : Int)) : ∀ v, us n (s ++ t) o v = us n s o v := by
  induction s generalizing n with
  | nil => exact us_nouse (by simpa using h)
  | cons y ys ih =>
    intro v
    have h' : ∀ v ∈ o, v < ((n + 1 + ys.length : Nat) : Int) := fun v hv => by have := h v hv; simp only [List.length_cons] at this; omega
    simp only [List.cons_append, us]
    rw [ih h' v, ih h' (n : Int)]
theorem us_lt {n : Nat} {s : List SStep} {o : List Int} (hs : Ok n s) (h : ∀ v ∈ o, v < ((n + s.length : Nat) : Int)) {v : Int} (hv : ((n + s.length : Nat) : Int) ≤ v) : us n s o v = false := by
  cases c : us n s o v with
  | false => rfl
  | true =>
    rcases us_why c with c | ⟨j, y, h1, _, h3⟩
    · have := h v c; omega
    · have := hs.at h1
      have := (List.getElem?_eq_some_iff.1 h1).1
      omega
/-! ### values that are shared -/
def shs (fi : Int → Int) (y : SStep) : SStep := ⟨mn (fi y.f0) (fi y.f1), mx (fi y.f0) (fi y.f1)⟩
theorem add_mnmx {f : Int → Int} (a b : Int) : f (mn a b) + f (mx a b) = f a + f b := by
  unfold mn mx
  by_cases c : b < a
  · rw [if_pos c, if_neg (by omega)]; omega
  · rw [if_neg c]
    by_cases d : a < b
    · rw [if_pos d]
    · rw [if_neg d, show a = b by omega]
/-! ### another plan's steps behind -/
def sf (I d : Nat) (v : Int) : Int := if v < (I : Int) then v else v + (d : Int)
def sfs (I d : Nat) (y : SStep) : SStep := ⟨sf I d y.f0, sf I d y.f1⟩
end Go.Proofs.Ytoegbcbdiggbjaa.Pure
