/- Pure: plans told equal, marked, held. -/
import Derived.Test.YtiaohjciddbpoaaKFnExactBestPlanEv
import Derived.Test.YtiaohjciddbpoaaKFnExactBestPlanH9
set_option linter.unusedVariables false
set_option linter.unusedSimpArgs false
namespace Go.Proofs.Ytiaohjciddbpoaa.Pure
open Go.RowKit Go.Proofs.Ytiaohjciddbpoaa.E Go.Proofs.Ytiaohjciddbpoaa.H9 Go.Proofs.Ytiaohjciddbpoaa.Frame Go.Proofs.YtiaohjciddbpoaaW.PrintWords Go.Proofs.YtiaohjciddbpoaaW.PrintLast Go.Proofs.YtiaohjciddbpoaaW.PrintMore
theorem gt_nat {α : Type} {xs : List α} {j : Nat} (h : j < xs.length) : gt xs (j : Int) = some xs[j] := by
  unfold gt
  rw [if_pos (by omega), Int.toNat_natCast, List.getElem?_eq_getElem h]
theorem st_nat {α : Type} {xs : List α} {j : Nat} {v : α} (h : j < xs.length) : st xs (j : Int) v = some (xs.set j v) := by
  unfold st
  rw [if_pos (by omega), Int.toNat_natCast]
theorem w64_succ {j : Nat} (h : j < 9223372036854775807) : w64 ((j : Int) + 1) = ((j + 1 : Nat) : Int) := by
  rw [zas (by omega)]
  omega
theorem ap_ok {α : Type} {xs ys : List α} (h : xs.length + ys.length ≤ 1000000000) : ap xs ys = some (xs ++ ys) := by
  unfold ap
  rw [if_pos h]
theorem eqIntS_refl (l : List Int) (hl : l.length < 1000000000) : Ev (fun k => laws_eqIntS.f k l l) true := by
  have key : ∀ (d j : Nat), j + d = l.length → Ev (fun k => laws_eqIntS.l0 l l k (j : Int)) (.inr ()) := by
    intro d
    induction d with
    | zero =>
      intro j hj
      refine shift ?_
      simp only [laws_eqIntS.l0]
      exact neg (by omega) (ret _)
    | succ d ih =>
      intro j hj
      refine shift ?_
      simp only [laws_eqIntS.l0]
      refine pos (by omega) ?_
      rw [gt_nat (show j < l.length by omega), w64_succ (by omega)]
      simp only [Option.bind_some]
      exact neg (by simp) (ih (j + 1) (by omega))
  unfold laws_eqIntS.f
  refine neg (by simp) (bind (key l.length 0 (by omega)) ?_)
  exact ret _
theorem eqStepS_refl (l : List SStep) (hl : l.length < 1000000000) : Ev (fun k => laws_eqStepS.f k l l) true := by
  have key : ∀ (d j : Nat), j + d = l.length → Ev (fun k => laws_eqStepS.l0 l l k (j : Int)) (.inr ()) := by
    intro d
    induction d with
    | zero =>
      intro j hj
      refine shift ?_
      simp only [laws_eqStepS.l0]
      exact neg (by omega) (ret _)
    | succ d ih =>
      intro j hj
      refine shift ?_
      simp only [laws_eqStepS.l0]
      refine pos (by omega) ?_
      rw [gt_nat (show j < l.length by omega), w64_succ (by omega)]
      simp only [Option.bind_some, laws_eqStep.f, ne_eq, not_true_eq_false, if_false]
      exact pos trivial (ih (j + 1) (by omega))
  unfold laws_eqStepS.f
  refine neg (by simp) (bind (key l.length 0 (by omega)) ?_)
  exact ret _
theorem eqPlan_refl (i : Int) (s : List SStep) (o : List Int) (hs : s.length < 1000000000) (ho : o.length < 1000000000) : Ev (fun k => laws_eqPlan.f k i s o i s o) true := by
  unfold laws_eqPlan.f
  exact neg (by simp) (bind (eqStepS_refl s hs) (pos rfl (bind (eqIntS_refl o ho) (pos rfl (ret _)))))
/-! marks -/
def mkSteps (a : Int) (n : Nat) : List SStep := (List.range n).map fun (j : Nat) => ⟨a + 2 * (j : Int), a + 2 * (j : Int) + 1⟩
def mkInts (a : Int) (n : Nat) : List Int := (List.range n).map fun (j : Nat) => a + (j : Int)
theorem set_take {α : Type} {l m : List α} {j : Nat} {v : α} (hj : j < l.length) (hm : m.length = l.length) (hv : m[j]? = some v) : (m.take j ++ l.drop j).set j v = m.take (j + 1) ++ l.drop (j + 1) := by
  apply List.ext_getElem?
  intro i
  have h1 : (m.take j).length = j := by rw [List.length_take]; omega
  have h2 : (m.take (j + 1)).length = j + 1 := by rw [List.length_take]; omega
  rw [List.getElem?_set]
  by_cases hi : j = i
  · subst hi
    rw [if_pos rfl, if_pos (by rw [List.length_append, h1, List.length_drop]; omega), List.getElem?_append_left (by omega), List.getElem?_take, if_pos (by omega), hv]
  · rw [if_neg hi]
    by_cases hlt : i < j
    · rw [List.getElem?_append_left (by omega), List.getElem?_append_left (by omega), List.getElem?_take, List.getElem?_take, if_pos (by omega), if_pos (by omega)]
    · rw [List.getElem?_append_right (by omega), List.getElem?_append_right (by omega), h1, h2, List.getElem?_drop, List.getElem?_drop]
      congr 1
      omega
theorem markIntS_ev (l : List Int) (a : Int) (h0 : 0 ≤ a) (ha : a + l.length < 1000000000) : Ev (fun k => laws_markIntS.f k l a) (a + l.length, mkInts a l.length) := by
  have hm : (mkInts a l.length).length = l.length := by simp [mkInts]
  have key : ∀ (d j : Nat), j + d = l.length → Ev (fun k => laws_markIntS.l0 l k ((mkInts a l.length).take j ++ l.drop j) (a + j) (j : Int)) (mkInts a l.length, a + l.length) := by
    intro d
    induction d with
    | zero =>
      intro j hj
      obtain rfl : j = l.length := by omega
      refine shift ?_
      simp only [laws_markIntS.l0]
      rw [List.drop_eq_nil_of_le (Nat.le_refl _), List.append_nil, List.take_of_length_le (by omega)]
      exact neg (by omega) (ret _)
    | succ d ih =>
      intro j hj
      refine shift ?_
      simp only [laws_markIntS.l0]
      refine pos (by omega) ?_
      have hl : j < ((mkInts a l.length).take j ++ l.drop j).length := by rw [List.length_append, List.length_take, List.length_drop]; omega
      rw [gt_nat hl, st_nat hl, w64_succ (by omega), set_take (v := a + j) (by omega) hm (by simp [mkInts, show j < l.length by omega]), zas (by omega)]
      have := ih (j + 1) (by omega)
      rw [show a + ((j + 1 : Nat) : Int) = a + j + 1 by omega] at this
      exact this
  unfold laws_markIntS.f
  have := key l.length 0 (by omega)
  simp only [List.take_zero, List.drop_zero, List.nil_append, Int.natCast_zero, Int.add_zero] at this
  exact bind this (ret _)
theorem markStepS_ev (l : List SStep) (a : Int) (h0 : 0 ≤ a) (ha : a + 2 * l.length < 1000000000) : Ev (fun k => laws_markStepS.f k l a) (a + 2 * l.length, mkSteps a l.length) := by
  have hm : (mkSteps a l.length).length = l.length := by simp [mkSteps]
  have key : ∀ (d j : Nat), j + d = l.length → Ev (fun k => laws_markStepS.l0 l k ((mkSteps a l.length).take j ++ l.drop j) (a + 2 * j) (j : Int)) (mkSteps a l.length, a + 2 * l.length) := by
    intro d
    induction d with
    | zero =>
      intro j hj
      obtain rfl : j = l.length := by omega
      refine shift ?_
      simp only [laws_markStepS.l0]
      rw [List.drop_eq_nil_of_le (Nat.le_refl _), List.append_nil, List.take_of_length_le (by omega)]
      exact neg (by omega) (ret _)
    | succ d ih =>
      intro j hj
      refine shift ?_
      simp only [laws_markStepS.l0]
      refine pos (by omega) ?_
      have hl : j < ((mkSteps a l.length).take j ++ l.drop j).length := by rw [List.length_append, List.length_take, List.length_drop]; omega
      rw [gt_nat hl]
      simp only [Option.bind_some]
      rw [st_nat hl]
      simp only [Option.bind_some]
      rw [gt_nat (by rw [List.length_set]; exact hl)]
      simp only [Option.bind_some, List.getElem_set_self]
      rw [st_nat (by rw [List.length_set]; exact hl), List.set_set, zas (x := a + 2 * (j : Int) + 1) (by omega), set_take (v := ⟨a + 2 * j, a + 2 * j + 1⟩) (by omega) hm (by simp [mkSteps, show j < l.length by omega]), zas (by omega), w64_succ (by omega)]
      have := ih (j + 1) (by omega)
      rw [show a + 2 * ((j + 1 : Nat) : Int) = a + 2 * j + 1 + 1 by omega] at this
      exact this
  unfold laws_markStepS.f
  have := key l.length 0 (by omega)
  simp only [List.take_zero, List.drop_zero, List.nil_append, Int.natCast_zero, Int.mul_zero, Int.add_zero] at this
  exact bind this (ret _)
theorem heldIntS_ev (n : Nat) (a : Int) (h0 : 0 ≤ a) (ha : a + n < 1000000000) : Ev (fun k => laws_heldIntS.f k (mkInts a n) a) (a + n) := by
  have hm : (mkInts a n).length = n := by simp [mkInts]
  have key : ∀ (d j : Nat), j + d = n → Ev (fun k => laws_heldIntS.l0 (mkInts a n) k (a + j) (j : Int)) (.inr (a + n)) := by
    intro d
    induction d with
    | zero =>
      intro j hj
      obtain rfl : j = n := by omega
      refine shift ?_
      simp only [laws_heldIntS.l0]
      exact neg (by omega) (ret _)
    | succ d ih =>
      intro j hj
      refine shift ?_
      simp only [laws_heldIntS.l0]
      refine pos (by omega) ?_
      rw [gt_nat (show j < (mkInts a n).length by omega), w64_succ (by omega), zas (by omega)]
      simp only [Option.bind_some, mkInts, List.getElem_map, List.getElem_range, ne_eq, not_true_eq_false, if_false]
      have := ih (j + 1) (by omega)
      rw [show a + ((j + 1 : Nat) : Int) = a + j + 1 by omega] at this
      exact this
  unfold laws_heldIntS.f
  have := key n 0 (by omega)
  simp only [Int.natCast_zero, Int.add_zero] at this
  exact bind this (ret _)
theorem heldStepS_ev (n : Nat) (a : Int) (h0 : 0 ≤ a) (ha : a + 2 * n < 1000000000) : Ev (fun k => laws_heldStepS.f k (mkSteps a n) a) (a + 2 * n) := by
  have hm : (mkSteps a n).length = n := by simp [mkSteps]
  have key : ∀ (d j : Nat), j + d = n → Ev (fun k => laws_heldStepS.l0 (mkSteps a n) k (a + 2 * j) (j : Int)) (.inr (a + 2 * n)) := by
    intro d
    induction d with
    | zero =>
      intro j hj
      obtain rfl : j = n := by omega
      refine shift ?_
      simp only [laws_heldStepS.l0]
      exact neg (by omega) (ret _)
    | succ d ih =>
      intro j hj
      refine shift ?_
      simp only [laws_heldStepS.l0]
      refine pos (by omega) ?_
      rw [gt_nat (show j < (mkSteps a n).length by omega), w64_succ (by omega), zas (x := a + 2 * (j : Int) + 1) (by omega), zas (by omega)]
      simp only [Option.bind_some, mkSteps, List.getElem_map, List.getElem_range, ne_eq, not_true_eq_false, if_false]
      have := ih (j + 1) (by omega)
      rw [show a + 2 * ((j + 1 : Nat) : Int) = a + 2 * j + 1 + 1 by omega] at this
      exact this
  unfold laws_heldStepS.f
  have := key n 0 (by omega)
  simp only [Int.natCast_zero, Int.mul_zero, Int.add_zero] at this
  exact bind this (ret _)
theorem markPlan_ev (i : Int) (s : List SStep) (o : List Int) (a : Int) (h0 : 0 ≤ a) (h : a + 2 * s.length + o.length < 1000000000) : Ev (fun k => laws_markPlan.f k i s o a) (a + 2 * s.length + o.length, mkSteps a s.length, mkInts (a + 2 * s.length) o.length) := by
  unfold laws_markPlan.f
  exact bind (markStepS_ev s a h0 (by omega)) (bind (markIntS_ev o _ (by omega) (by omega)) (ret _))
theorem heldPlan_ev (i : Int) (n m : Nat) (a : Int) (h0 : 0 ≤ a) (h : a + 2 * n + m < 1000000000) : Ev (fun k => laws_heldPlan.f k i (mkSteps a n) (mkInts (a + 2 * n) m) a) (a + 2 * n + m) := by
  unfold laws_heldPlan.f
  exact bind (heldStepS_ev n a h0 (by omega)) (neg (by omega) (bind (heldIntS_ev m _ (by omega) (by omega)) (neg (by omega) (ret _))))
end Go.Proofs.Ytiaohjciddbpoaa.Pure
