/- Powers of plans, and whether two have the same. -/
import Derived.Test.YtpdpomjgfmdjfaaKFnExactCheckRegCodeZPl
import Derived.Test.YtpdpomjgfmdjfaaKFnExactCheckRegCodeZTold
import Derived.Test.YtpdpomjgfmdjfaaKFnExactCheckRegCodeQ0
import Derived.Test.YtpdpomjgfmdjfaaKFnExactCheckRegCodeQ3
import Derived.Test.YtpdpomjgfmdjfaaKFnExactCheckRegCodeQ5
import Derived.Test.YtpdpomjgfmdjfaaKFnExactCheckRegCodeQ6
namespace Go.Proofs.Ytpdpomjgfmdjfaa.Pure
open Go.RowKit Go.Proofs.Ytpdpomjgfmdjfaa.Z Go.Proofs.Ytpdpomjgfmdjfaa.E Go.Proofs.YtpdpomjgfmdjfaaW.PrintWords Go.Proofs.YtpdpomjgfmdjfaaW.PrintLast Go.Proofs.YtpdpomjgfmdjfaaW.PrintMore
theorem l1Same_loop (l m : List Int) (hl : l.length = m.length) (hm : l.length < 9223372036854775807) (d : Nat) : ∀ (j : Nat), j + d = l.length → l.take j = m.take j → Ev (fun k => spec_l1Same.l0 k l m (l.length : Int) j) (decide (l = m)) := by
 induction d with
 | zero =>
  intro j hj ht
  refine shift ?_
  simp only [spec_l1Same.l0]
  refine neg (by omega) (now ?_)
  rw [List.take_of_length_le (by omega), List.take_of_length_le (by omega)] at ht
  simp [ht]
 | succ d ih =>
  intro j hj ht
  have hlt : j < l.length := by omega
  refine shift ?_
  simp only [spec_l1Same.l0]
  refine pos (by omega) (pos (by omega) (pos (by omega) (pos (by omega) ?_)))
  rw [rd_nat l j hlt, rd_nat m j (by omega)]
  by_cases h : l[j] = m[j]
  ·refine pos h ?_
   rw [zb8 (by omega)]
   refine ih (j + 1) (by omega) ?_
   rw [List.take_succ_eq_append_getElem hlt, List.take_succ_eq_append_getElem (by omega), ht, h]
  ·refine neg h (now ?_)
   have : l ≠ m := fun e => h (by simp [e])
   simp [this]
theorem l1Same_ev (l m : List Int) (hl : l.length < 9223372036854775807) : Ev (fun k => spec_l1Same.f k l m) (decide (l = m)) := by
 unfold spec_l1Same.f
 by_cases h : l.length = m.length
 ·exact pos (by omega) (l1Same_loop l m h hl l.length 0 (by omega) rfl)
 ·refine neg (by omega) (now ?_)
  have : l ≠ m := fun e => h (by rw [e])
  simp [this]
theorem sEqual_loop (l m : List Int) (hl : l.length = m.length) (hm : l.length < 9223372036854775807) (d : Nat) : ∀ (j : Nat), j + d = l.length → l.take j = m.take j → Ev (fun k => slices_Equal_int_int.l0 k l m (l.length : Int) j) (decide (l = m)) := by
 induction d with
 | zero =>
  intro j hj ht
  refine shift ?_
  simp only [slices_Equal_int_int.l0]
  refine neg (by omega) (now ?_)
  rw [List.take_of_length_le (by omega), List.take_of_length_le (by omega)] at ht
  simp [ht]
 | succ d ih =>
  intro j hj ht
  have hlt : j < l.length := by omega
  refine shift ?_
  simp only [slices_Equal_int_int.l0]
  refine pos (by omega) (pos (by omega) (pos (by omega) (pos (by omega) ?_)))
  rw [rd_nat l j hlt, rd_nat m j (by omega)]
  by_cases h : l[j] = m[j]
  ·refine pos h ?_
   rw [zb8 (by omega)]
   refine ih (j + 1) (by omega) ?_
   rw [List.take_succ_eq_append_getElem hlt, List.take_succ_eq_append_getElem (by omega), ht, h]
  ·refine neg h (now ?_)
   have : l ≠ m := fun e => h (by simp [e])
   simp [this]
theorem sEqual_ev (l m : List Int) (hl : l.length < 9223372036854775807) : Ev (fun k => slices_Equal_int_int.f k l m) (decide (l = m)) := by
 unfold slices_Equal_int_int.f
 by_cases h : l.length = m.length
 ·exact pos (by omega) (sEqual_loop l m h hl l.length 0 (by omega) rfl)
 ·refine neg (by omega) (now ?_)
  have : l ≠ m := fun e => h (by rw [e])
  simp [this]
theorem plPow_loop (t : List (List Int)) (ht : ∀ r ∈ t, r.length ≤ 1000) (o : List Int) (ho : o.length ≤ 1000) (hv : ∀ v ∈ o, 0 ≤ v ∧ v < (t.length : Int)) : ∀ (d j : Nat) (acc : List (List Int)), j + d = o.length → acc = (o.take j).map (rd_L3 t) → Ev (fun k => spec_plPowers.l0 k t acc o (o.length : Int) j) (o.map (rd_L3 t)) := by
 intro d
 induction d with
 | zero =>
  intro j acc hj ha
  refine shift ?_
  simp only [spec_plPowers.l0]
  refine neg (by omega) (now ?_)
  rw [ha, List.take_of_length_le (by omega)]
 | succ d ih =>
  intro j acc hj ha
  have hlt : j < o.length := by omega
  have hr := hv _ (rd_mem o (j : Int) (by omega) (by omega))
  have hrow := ht _ (rdR_mem t (rd o (j : Int)) hr.1 hr.2)
  have hal : acc.length ≤ 1000 := by rw [ha]; simp; omega
  refine shift ?_
  simp only [spec_plPowers.l0]
  rw [zb8 (by omega)]
  refine pos (by omega) (pos (by omega) (pos (by omega) (pos hr.1 (pos hr.2 (bind0 (a := rd_L3 t (rd o (j : Int))) ?_ (pos (by omega) ?_))))))
  ·unfold spec_l1Own.f
   simp only [Option.bind_some, List.nil_append, List.length_nil, Nat.zero_add]
   rw [if_pos (by omega)]
  ·refine ih (j + 1) _ (by omega) ?_
   rw [List.take_succ_eq_append_getElem hlt, List.map_append, ← ha, ← rd_nat o j hlt]
   rfl
theorem outExp_loop (t : List (List Int)) (ht : ∀ r ∈ t, r.length ≤ 1000) (o : List Int) (ho : o.length ≤ 1000) (hv : ∀ v ∈ o, 0 ≤ v ∧ v < (t.length : Int)) : ∀ (d j : Nat) (acc : List (List Int)), j + d = o.length → acc = (o.take j).map (rd_L3 t) → Ev (fun k => impl_Plan_outputExponents.l0 k t acc o (o.length : Int) j) (o.map (rd_L3 t)) := by
 intro d
 induction d with
 | zero =>
  intro j acc hj ha
  refine shift ?_
  simp only [impl_Plan_outputExponents.l0]
  refine neg (by omega) (now ?_)
  rw [ha, List.take_of_length_le (by omega)]
 | succ d ih =>
  intro j acc hj ha
  have hlt : j < o.length := by omega
  have hr := hv _ (rd_mem o (j : Int) (by omega) (by omega))
  have hrow := ht _ (rdR_mem t (rd o (j : Int)) hr.1 hr.2)
  have hal : acc.length ≤ 1000 := by rw [ha]; simp; omega
  refine shift ?_
  simp only [impl_Plan_outputExponents.l0]
  rw [zb8 (by omega)]
  refine pos (by omega) (pos (by omega) (pos (by omega) (pos hr.1 (pos hr.2 (bind0 (a := rd_L3 t (rd o (j : Int))) ?_ (pos (by omega) ?_))))))
  ·unfold slices_Clone_int_int.f
   rw [if_pos (by omega)]
  ·refine ih (j + 1) _ (by omega) ?_
   rw [List.take_succ_eq_append_getElem hlt, List.map_append, ← ha, ← rd_nat o j hlt]
   rfl
/-- What a plan's exponents are. -/
theorem good_rows {n : Int} {l : List St} {o : List Int} (h : goodB n l o = true) : ∃ N : Nat, n = (N : Int) ∧ N ≤ 1000 ∧ l.length ≤ 40 ∧ o.length ≤ 6 ∧ StepsOk N l ∧ (∀ r ∈ expo N l, r.length ≤ 1000) ∧ (∀ v ∈ o, 0 ≤ v ∧ v < ((expo N l).length : Int)) := by
 unfold goodB at h
 simp only [Bool.and_eq_true, decide_eq_true_eq, List.all_eq_true] at h
 obtain ⟨hn, hl, ho, hs, hr, hv⟩ := h
 obtain ⟨N, rfl⟩ := Int.eq_ofNat_of_zero_le (show 0 ≤ n by omega)
 have hN : N ≤ 1000 := by omega
 have hst : StepsOk N l := by
  have := (stepsOk_iff N hN l (by omega) l.length 0 (by omega)).1 hs
  simpa using this
 have hx := expoFrom_ok l (units N) (units_ok N) (by rw [units_length]; exact hst)
 refine ⟨N, rfl, hN, hl, ho, hst, fun r hr => ?_, fun v hv' => ?_⟩
 ·have := (hx.1 r hr).1
  omega
 ·have h1 := hv v hv'
  have h2 := hx.2
  rw [units_length] at h2
  unfold expo
  rw [h2]
  push_cast
  omega
theorem plPowers_ev {n : Int} {l : List St} {o : List Int} (h : goodB n l o = true) : Ev (fun k => spec_plPowers.f k n l o) (o.map (rd_L3 (expo n.toNat l))) := by
 obtain ⟨N, rfl, hN, hl, ho, hs, hr, hv⟩ := good_rows h
 unfold spec_plPowers.f
 rw [Int.toNat_natCast]
 exact bind (specExp_ev N hN l o (by omega) hs) (plPow_loop _ hr o (by omega) hv o.length 0 [] (by omega) (by simp))
theorem outputExponents_ev {n : Int} {l : List St} {o : List Int} (h : goodB n l o = true) : Ev (fun k => impl_Plan_outputExponents.f k n l o) (o.map (rd_L3 (expo n.toNat l))) := by
 obtain ⟨N, rfl, hN, hl, ho, hs, hr, hv⟩ := good_rows h
 unfold impl_Plan_outputExponents.f
 rw [Int.toNat_natCast]
 exact bind (implExp_ev N hN l o (by omega) hs) (outExp_loop _ hr o (by omega) hv o.length 0 [] (by omega) (by simp))
theorem powers_rows {n : Int} {l : List St} {o : List Int} (h : goodB n l o = true) : (o.map (rd_L3 (expo n.toNat l))).length ≤ 6 ∧ ∀ r ∈ o.map (rd_L3 (expo n.toNat l)), r.length ≤ 1000 := by
 obtain ⟨N, rfl, hN, hl, ho, hs, hr, hv⟩ := good_rows h
 rw [Int.toNat_natCast]
 refine ⟨by simpa using ho, fun r hm => ?_⟩
 obtain ⟨v, hv1, rfl⟩ := List.mem_map.1 hm
 exact hr _ (rdR_mem _ v (hv v hv1).1 (hv v hv1).2)
theorem rdR_eq (xs : List (List Int)) (j : Nat) (h : j < xs.length) : rdR xs (j : Int) = xs[j] := by
 simp [rdR, List.getD_eq_getElem?_getD, h]
theorem plSame_ev (a b : List (List Int)) (ha : a.length ≤ 1000) (hr : ∀ r ∈ a, r.length ≤ 1000) : Ev (fun k => spec_plSame.f k a b) (decide (a = b)) := by
 unfold spec_plSame.f
 by_cases hl : a.length = b.length
 ·refine pos (by omega) ?_
  have key : ∀ (d j : Nat), j + d = a.length → a.take j = b.take j → Ev (fun k => spec_plSame.l0 k a b (a.length : Int) j) (decide (a = b)) := by
   intro d
   induction d with
   | zero =>
    intro j hj ht
    refine shift ?_
    simp only [spec_plSame.l0]
    refine neg (by omega) (now ?_)
    rw [List.take_of_length_le (by omega), List.take_of_length_le (by omega)] at ht
    simp [ht]
   | succ d ih =>
    intro j hj ht
    have hlt : j < a.length := by omega
    have hrow := hr _ (List.getElem_mem hlt)
    refine shift ?_
    simp only [spec_plSame.l0]
    have he := l1Same_ev (a[j]'hlt) (b[j]'(by omega)) (by omega)
    rw [← rdR_nat a j hlt, ← rdR_nat b j (by omega)] at he
    refine pos (by omega) (pos (by omega) (pos (by omega) (pos (by omega) (bind he ?_))))
    rw [rdR_nat a j hlt, rdR_nat b j (by omega)]
    by_cases h : a[j] = b[j]
    ·refine pos (decide_eq_true h) ?_
     rw [zb8 (by omega)]
     refine ih (j + 1) (by omega) ?_
     rw [List.take_succ_eq_append_getElem hlt, List.take_succ_eq_append_getElem (by omega), ht, h]
    ·refine neg (by simp [h]) (now ?_)
     have : a ≠ b := fun e => h (by simp [e])
     simp [this]
  exact key a.length 0 (by omega) rfl
 ·refine neg (by omega) (now ?_)
  have : a ≠ b := fun e => hl (by rw [e])
  simp [this]
theorem equalFunc_ev (a b : List (List Int)) (hr : ∀ r ∈ a, r.length ≤ 1000) : Ev (fun k => slices_EqualFunc_int_int_int_int.f k a b) (decide (a = b)) := by
 unfold slices_EqualFunc_int_int_int_int.f
 by_cases hl : a.length = b.length
 ·refine pos hl ?_
  have key : ∀ (d j : Nat), j + d = a.length → a.take j = b.take j → Ev (fun k => eqRows k a b d j) (decide (a = b)) := by
   intro d
   induction d with
   | zero =>
    intro j hj ht
    rw [List.take_of_length_le (by omega), List.take_of_length_le (by omega)] at ht
    simp only [eqRows]
    refine now ?_
    simp [ht]
   | succ d ih =>
    intro j hj ht
    have hlt : j < a.length := by omega
    have hrow := hr _ (List.getElem_mem hlt)
    simp only [eqRows]
    have he := sEqual_ev (a[j]'hlt) (b[j]'(by omega)) (by omega)
    rw [← rdR_eq a j hlt, ← rdR_eq b j (by omega)] at he
    refine bind he ?_
    rw [rdR_eq a j hlt, rdR_eq b j (by omega)]
    by_cases h : a[j] = b[j]
    ·refine pos (decide_eq_true h) ?_
     refine ih (j + 1) (by omega) ?_
     rw [List.take_succ_eq_append_getElem hlt, List.take_succ_eq_append_getElem (by omega), ht, h]
    ·refine neg (by simp [h]) (now ?_)
     have : a ≠ b := fun e => h (by simp [e])
     simp [this]
  exact key a.length 0 (by omega) rfl
 ·refine neg hl (now ?_)
  have : a ≠ b := fun e => hl (by rw [e])
  simp [this]
/-- Two plans' same powers, as both reckon them. -/
theorem same_both {n n' : Int} {l l' : List St} {o o' : List Int} (h : goodB n l o = true) (h' : goodB n' l' o' = true) : ∃ b : Bool, Ev (fun k => spec_SamePowers.f k n l o n' l' o') (b, true) ∧ Ev (fun k => impl_samePowers.f k n l o n' l' o') b := by
 have g1 := plGood_ev n l o
 have g2 := plGood_ev n' l' o'
 rw [h] at g1
 rw [h'] at g2
 by_cases hn : n = n'
 ·refine ⟨decide (o.map (rd_L3 (expo n.toNat l)) = o'.map (rd_L3 (expo n'.toNat l'))), ?_, ?_⟩
  ·unfold spec_SamePowers.f
   refine bind g1 (pos rfl (bind g2 (shift ?_)))
   simp only [spec_SamePowers.j0]
   exact neg (by simp) (pos hn (bind (plPowers_ev h) (bind (plPowers_ev h') (bindr (plSame_ev _ _ (by have := (powers_rows h).1; omega) (powers_rows h).2) rfl))))
  ·unfold impl_samePowers.f
   exact pos hn (bind (outputExponents_ev h) (bind (outputExponents_ev h') (equalFunc_ev _ _ (powers_rows h).2)))
 ·refine ⟨false, ?_, ?_⟩
  ·unfold spec_SamePowers.f
   refine bind g1 (pos rfl (bind g2 (shift ?_)))
   simp only [spec_SamePowers.j0]
   exact neg (by simp) (neg hn (ret _))
  ·unfold impl_samePowers.f
   exact neg hn (ret _)
end Go.Proofs.Ytpdpomjgfmdjfaa.Pure
