/- Pure: powers of outputs compared, on both sides. -/
import Derived.Test.YtoegbcbdiggbjaaKFnReorderedPlansPord
set_option linter.unusedVariables false
set_option linter.unusedSimpArgs false
namespace Go.Proofs.Ytoegbcbdiggbjaa.Pure
open Go.RowKit Go.Proofs.Ytoegbcbdiggbjaa.E Go.Proofs.Ytoegbcbdiggbjaa.RO Go.Proofs.Ytoegbcbdiggbjaa.Frame Go.Proofs.YtoegbcbdiggbjaaW.PrintLast Go.Proofs.YtoegbcbdiggbjaaW.PrintMore
open Go.Proofs.YtoegbcbdiggbjaaW.PrintWords hiding mn mx
theorem drop_eq_cons {α : Type} {l : List α} {j : Nat} {y : α} {ys : List α} (hj : j < l.length) : (y :: ys = l.drop j) ↔ y = l[j] ∧ ys = l.drop (j + 1) := by
  rw [List.drop_eq_getElem_cons hj, List.cons.injEq]
theorem equal_l0 (l m : List Int) (j : Nat) (h : j + l.length = m.length) : slices_Equal_int_int.l0 m l (j : Int) = some (if l = m.drop j then .inr () else .inl false) := by
  induction l generalizing j with
  | nil =>
    rw [List.drop_eq_nil_of_le (by simp at h; omega)]
    rfl
  | cons y ys ih =>
    simp only [List.length_cons] at h
    have hj : j < m.length := by omega
    simp only [slices_Equal_int_int.l0]
    rw [gt_nat hj, Option.bind_some]
    by_cases c : y = m[j]
    · rw [if_neg (by simpa using c), show (j : Int) + 1 = ((j + 1 : Nat) : Int) by omega, ih (j + 1) (by omega)]
      by_cases d : ys = m.drop (j + 1)
      · rw [if_pos d, if_pos ((drop_eq_cons hj).2 ⟨c, d⟩)]
      · rw [if_neg d, if_neg (fun q => d ((drop_eq_cons hj).1 q).2)]
    · rw [if_pos c, if_neg (fun q => c ((drop_eq_cons hj).1 q).1)]
theorem equal_eq (l m : List Int) : slices_Equal_int_int.f l m = some (decide (l = m)) := by
  unfold slices_Equal_int_int.f
  by_cases h : l.length = m.length
  · rw [if_neg (by omega)]
    have := equal_l0 l m 0 (by omega)
    rw [List.drop_zero, show ((0 : Nat) : Int) = 0 from rfl] at this
    rw [this]
    by_cases c : l = m
    · simp [c]
    · simp [c]
  · rw [if_pos (by omega)]
    have : ¬ l = m := fun e => h (by rw [e])
    simp [this]
theorem equalF_l0 (l m : List (List Int)) (j : Nat) (h : j + l.length = m.length) : slices_EqualFunc_int_int_int_int.l0 m l (j : Int) = some (if l = m.drop j then .inr () else .inl false) := by
  induction l generalizing j with
  | nil =>
    rw [List.drop_eq_nil_of_le (by simp at h; omega)]
    rfl
  | cons y ys ih =>
    simp only [List.length_cons] at h
    have hj : j < m.length := by omega
    simp only [slices_EqualFunc_int_int_int_int.l0, equal_eq]
    rw [gt_nat hj, Option.bind_some, Option.bind_some]
    by_cases c : y = m[j]
    · rw [if_pos (decide_eq_true c), show (j : Int) + 1 = ((j + 1 : Nat) : Int) by omega, ih (j + 1) (by omega)]
      by_cases d : ys = m.drop (j + 1)
      · rw [if_pos d, if_pos ((drop_eq_cons hj).2 ⟨c, d⟩)]
      · rw [if_neg d, if_neg (fun q => d ((drop_eq_cons hj).1 q).2)]
    · rw [if_neg (by simpa using c), if_neg (fun q => c ((drop_eq_cons hj).1 q).1)]
theorem equalF_eq (l m : List (List Int)) : slices_EqualFunc_int_int_int_int.f l m = some (decide (l = m)) := by
  unfold slices_EqualFunc_int_int_int_int.f
  by_cases h : l.length = m.length
  · rw [if_neg (by omega)]
    have := equalF_l0 l m 0 (by omega)
    rw [List.drop_zero, show ((0 : Nat) : Int) = 0 from rfl] at this
    rw [this]
    by_cases c : l = m
    · simp [c]
    · simp [c]
  · rw [if_pos (by omega)]
    have : ¬ l = m := fun e => h (by rw [e])
    simp [this]
/-- The powers of the outputs. -/
def pw (I : Nat) (s : List SStep) (o : List Int) : List (List Int) := o.map fun v => (exps I s).getD v.toNat []
theorem impl_pw_l0 {n : Nat} (hn : n ≤ 1000) (rs : List (List Int)) (hr : ∀ r ∈ rs, RowOk n r) (ys : List Int) (a : List (List Int)) (j : Int) (h : ∀ y ∈ ys, 0 ≤ y ∧ y < (rs.length : Int)) (hb : a.length + ys.length ≤ 1000) : impl_Plan_outputExponents.l0 rs ys a j = some (a ++ ys.map fun v => rs.getD v.toNat []) := by
  induction ys generalizing a j with
  | nil => simp [impl_Plan_outputExponents.l0]
  | cons y ys ih =>
    simp only [List.length_cons] at hb
    have q := h y List.mem_cons_self
    obtain ⟨g, ok⟩ := getD_ok hr q.1 q.2
    simp only [impl_Plan_outputExponents.l0, slices_Clone_int_int.f]
    rw [g, Option.bind_some, ap_ok (by rw [List.length_nil, ok.1]; omega), Option.bind_some, Option.bind_some, List.nil_append, ap_ok (by simp; omega), Option.bind_some, ih _ _ (fun z hz => h z (List.mem_cons_of_mem _ hz)) (by rw [List.length_append, List.length_singleton]; omega)]
    simp
theorem impl_pw {I : Nat} {s : List SStep} {o : List Int} (h : Form I s o) : impl_Plan_outputExponents.f (I : Int) s o = some (pw I s o) := by
  have h1 := h.inp
  have h2 := h.stp
  have h3 := h.out
  obtain ⟨_, e, hr, hl⟩ := exps_ev I (by omega) s o (by omega) h.fs
  unfold impl_Plan_outputExponents.f
  rw [e, Option.bind_some, impl_pw_l0 (n := I) (by omega) (exps I s) hr o [] 0 (fun y hy => by have := h.os y hy; rw [hl]; omega) (by simp; omega)]
  simp [pw]
/-- Are the powers of two plans the same? -/
def sameB (I : Nat) (s : List SStep) (o : List Int) (I' : Nat) (s' : List SStep) (o' : List Int) : Bool := decide (I = I') && decide (pw I s o = pw I' s' o')
theorem impl_same {I : Nat} {s : List SStep} {o : List Int} (h : Form I s o) {I' : Nat} {s' : List SStep} {o' : List Int} (h' : Form I' s' o') : impl_samePowers.f (I : Int) s o (I' : Int) s' o' = some (sameB I s o I' s' o') := by
  unfold impl_samePowers.f sameB
  by_cases c : I = I'
  · rw [if_pos (by omega), impl_pw h, impl_pw h', Option.bind_some, Option.bind_some, equalF_eq, decide_eq_true c]
    rfl
  · rw [if_neg (by omega), decide_eq_false c]
    rfl
end Go.Proofs.Ytoegbcbdiggbjaa.Pure
