/- The law of SameCode in plain Lean: the program's answer is the reference's, for every code. -/
import Derived.Test.YtgglemlhombgkaaKFnExactSameCodePolyOf8
import Derived.Test.YtgglemlhombgkaaKFnExactSameCodeQ0
import Derived.Test.YtgglemlhombgkaaKFnExactSameCodeQ4
import Derived.Test.YtgglemlhombgkaaKFnExactSameCodeQ5
namespace Go.Proofs.Ytgglemlhombgkaa.Pure
open Go.RowKit Go.Proofs.Ytgglemlhombgkaa.Q Go.Proofs.Ytgglemlhombgkaa.E Go.Proofs.YtgglemlhombgkaaW.PrintWords Go.Proofs.YtgglemlhombgkaaW.PrintLast Go.Proofs.YtgglemlhombgkaaW.PrintMore
theorem l1Same_ev (l m : List Int) (hm : l.length < 9223372036854775807) : Ev (fun k => spec_l1Same.f k l m) (decide (l = m)) := by
  unfold spec_l1Same.f
  by_cases h : l.length = m.length
  · refine pos (by omega) ?_
    have key : ∀ d j : Nat, j + d = l.length → l.take j = m.take j → Ev (fun k => spec_l1Same.l0 k l m (l.length : Int) j) (decide (l = m)) := by
      intro d
      induction d with
      | zero =>
        intro j hj ht
        refine shift ?_
        simp only [spec_l1Same.l0]
        refine neg (by omega) (now ?_)
        rw [List.take_of_length_le (by omega), List.take_of_length_le (by omega)] at ht
        simp [ht]
      | succ d ih =>
        intro j hj ht
        have hlt : j < l.length := by omega
        refine shift ?_
        simp only [spec_l1Same.l0]
        refine pos (by omega) (pos (by omega) (pos (by omega) (pos (by omega) ?_)))
        rw [rd_nat l j hlt, rd_nat m j (by omega)]
        by_cases e : l[j] = m[j]
        · refine pos e ?_
          rw [wrap_succ (by omega)]
          refine ih (j + 1) (by omega) ?_
          rw [List.take_succ_eq_append_getElem hlt, List.take_succ_eq_append_getElem (by omega), ht, e]
        · refine neg e (now ?_)
          have : l ≠ m := fun z => e (by simp [z])
          simp [this]
    exact key l.length 0 (by omega) (by simp)
  · refine neg (by omega) (now ?_)
    have : l ≠ m := fun e => h (by rw [e])
    simp [this]
theorem equal_ev (l m : List Int) (hm : l.length < 9223372036854775807) : Ev (fun k => slices_Equal_int_int.f k l m) (decide (l = m)) := by
  unfold slices_Equal_int_int.f
  by_cases h : l.length = m.length
  · refine pos (by omega) ?_
    have key : ∀ d j : Nat, j + d = l.length → l.take j = m.take j → Ev (fun k => slices_Equal_int_int.l0 k l m (l.length : Int) j) (decide (l = m)) := by
      intro d
      induction d with
      | zero =>
        intro j hj ht
        refine shift ?_
        simp only [slices_Equal_int_int.l0]
        refine neg (by omega) (now ?_)
        rw [List.take_of_length_le (by omega), List.take_of_length_le (by omega)] at ht
        simp [ht]
      | succ d ih =>
        intro j hj ht
        have hlt : j < l.length := by omega
        refine shift ?_
        simp only [slices_Equal_int_int.l0]
        refine pos (by omega) (pos (by omega) (pos (by omega) (pos (by omega) ?_)))
        rw [rd_nat l j hlt, rd_nat m j (by omega)]
        by_cases e : l[j] = m[j]
        · refine pos e ?_
          rw [wrap_succ (by omega)]
          refine ih (j + 1) (by omega) ?_
          rw [List.take_succ_eq_append_getElem hlt, List.take_succ_eq_append_getElem (by omega), ht, e]
        · refine neg e (now ?_)
          have : l ≠ m := fun z => e (by simp [z])
          simp [this]
    exact key l.length 0 (by omega) (by simp)
  · refine neg (by omega) (now ?_)
    have : l ≠ m := fun e => h (by rw [e])
    simp [this]
theorem same_both (l : List Op) (o : Int) (m : List Op) (q : Int) (hl : l.length ≤ 1048576) (hm : m.length ≤ 1048576) : ∃ (r b : Bool), Ev (fun k => spec_SameCode.f k l o m q) (r, b) ∧ Ev (fun k => impl_SameCode.f k l o m q) (r, b) := by
  obtain ⟨r, b, h1, h2, hr⟩ := poly_both l o hl
  obtain ⟨s, c, g1, g2, hs⟩ := poly_both m q hm
  unfold spec_SameCode.f impl_SameCode.f
  cases b with
  | false => exact ⟨false, false, bind h1 (bind g1 (neg (by simp) (ret _))), bind h2 (bind g2 (neg (by simp) (ret _)))⟩
  | true =>
    cases c with
    | false => exact ⟨false, false, bind h1 (bind g1 (pos rfl (neg (by simp) (ret _)))), bind h2 (bind g2 (pos rfl (neg (by simp) (ret _))))⟩
    | true => exact ⟨decide (r = s), true, bind h1 (bind g1 (pos rfl (pos rfl (bind (l1Same_ev r s (by omega)) (ret _))))), bind h2 (bind g2 (pos rfl (pos rfl (bind (equal_ev r s (by omega)) (ret _)))))⟩
theorem law_SameCode : laws_FnExactSameCode.Pure := by
  intro l o m q hl _ _ hm _ _
  refine some_of ?_
  unfold laws_FnExactSameCode.f
  by_cases h : l.length ≤ 1048576
  · refine bind0 (szCode_small l o 1048576 (Nat.le_refl _) h) (neg (by omega) ?_)
    by_cases h' : m.length ≤ 1048576 - l.length
    · refine bind0 (szCode_small m q (1048576 - l.length) (by omega) h') (neg (by omega) ?_)
      have hc := toCode_ev l o h
      have hd := toCode_ev m q (by omega)
      obtain ⟨r, b, h1, h2⟩ := same_both (l.map toOp) o (m.map toOp) q (by simpa using h) (by simp; omega)
      refine bind hc (bind hd (bind h1 (bind hc (bind hd (bind h2 (neg (by simp) (shift ?_)))))))
      simp only [laws_FnExactSameCode.j0]
      exact neg (by simp) (bind hc (bind (eqCode_refl _ _ (by simp; omega)) (pos rfl (bind hd (bind (eqCode_refl _ _ (by simp; omega)) (pos rfl (ret _)))))))
    · exact bind0 (szCode_large m q (1048576 - l.length) (by omega) (by omega) hm) (pos (by omega) (ret _))
  · exact bind0 (szCode_large l o 1048576 (Nat.le_refl _) (by omega) hl) (pos (by omega) (ret _))

theorem FnExactSameCode : laws_FnExactSameCode.Pure := law_SameCode
end Go.Proofs.Ytgglemlhombgkaa.Pure
