/- Code of registers: its plan for the reference is its plan for the program. -/
import Derived.Test.YtpdpomjgfmdjfaaKFnExactCheckRegCodeZTold
import Derived.Test.YtpdpomjgfmdjfaaKFnExactCheckRegCodeQ0
import Derived.Test.YtpdpomjgfmdjfaaKFnExactCheckRegCodeQ1
import Derived.Test.YtpdpomjgfmdjfaaKFnExactCheckRegCodeQ2
import Derived.Test.YtpdpomjgfmdjfaaKFnExactCheckRegCodeQ3
import Derived.Test.YtpdpomjgfmdjfaaKFnExactCheckRegCodeQ4
namespace Go.Proofs.Ytpdpomjgfmdjfaa.Pure
open Go.RowKit Go.Proofs.Ytpdpomjgfmdjfaa.Z Go.Proofs.Ytpdpomjgfmdjfaa.E Go.Proofs.YtpdpomjgfmdjfaaW.PrintWords Go.Proofs.YtpdpomjgfmdjfaaW.PrintLast Go.Proofs.YtpdpomjgfmdjfaaW.PrintMore
abbrev Rop := S80
theorem rdRop_nat (xs : List Rop) (j : Nat) (h : j < xs.length) : zae xs (j : Int) = xs[j] := by
 simp [zae, List.getD_eq_getElem?_getD, h]
theorem l1Has_dec (l : List Int) (x : Int) (hl : l.length < 9223372036854775807) : Ev (fun k => spec_l1Has.f k l x) (decide (x ∈ l)) := by
 have key : ∀ d j : Nat, j + d = l.length → Ev (fun k => spec_l1Has.l0 k x l (l.length : Int) j) (decide (x ∈ l.drop j)) := by
  intro d
  induction d with
  | zero =>
   intro j hj
   refine shift ?_
   simp only [spec_l1Has.l0]
   rw [List.drop_eq_nil_of_le (by omega)]
   exact neg (by omega) (now (by simp))
  | succ d ih =>
   intro j hj
   have hlt : j < l.length := by omega
   refine shift ?_
   simp only [spec_l1Has.l0]
   refine pos (by omega) (pos (by omega) (pos (by omega) ?_))
   rw [List.drop_eq_getElem_cons hlt, rd_nat l j hlt, zb8 (by omega)]
   by_cases h : l[j] = x
   ·exact pos h (now (by simp [h]))
   ·refine neg h ?_
    have := ih (j + 1) (by omega)
    have e : decide (x ∈ l[j] :: l.drop (j + 1)) = decide (x ∈ l.drop (j + 1)) := by
     simp only [List.mem_cons, decide_eq_decide]
     exact ⟨fun g => g.elim (fun g => absurd g.symm h) id, .inr⟩
    rw [e]
    exact this
 unfold spec_l1Has.f
 have := key l.length 0 (by omega)
 rwa [List.drop_zero] at this
def inR (n : Nat) (r : Int) : Prop := 0 ≤ r ∧ r < (n : Int)
instance (n : Nat) (r : Int) : Decidable (inR n r) := by unfold inR; infer_instance
theorem hasB_iff (n : Nat) (r : Int) : hasB n r = true ↔ inR n r := by
 unfold hasB inR
 simp
theorem rd_set (s : List Int) (x : Nat) (v r : Int) (h0 : 0 ≤ r) (h1 : r < s.length) : rd (s.set x v) r = if (x : Int) = r then v else rd s r := by
 obtain ⟨q, rfl⟩ := Int.eq_ofNat_of_zero_le h0
 by_cases h : x = q
 ·subst h
  rw [if_pos rfl, rd_set_eq _ _ _ (by omega)]
 ·rw [if_neg (by omega), rd_set_ne _ _ _ _ (by omega) h]
def Low (s : List Int) : Prop := ∀ x ∈ s, -1 ≤ x
theorem rd_low {s : List Int} (h : Low s) (r : Int) (h0 : 0 ≤ r) (h1 : r < s.length) : -1 ≤ rd s r := h _ (rd_mem s r h0 h1)
theorem low_set {s : List Int} (h : Low s) (x : Nat) (v : Int) (hv : -1 ≤ v) : Low (s.set x v) := by
 intro y hy
 rcases List.mem_or_eq_of_mem_set hy with g | g
 ·exact h y g
 ·rw [g]; exact hv
theorem least_eq (a b : Int) : spec_l1Least.f a b = some (mn a b) := by
 unfold spec_l1Least.f mn
 by_cases h : a < b
 ·rw [if_pos h, if_neg (by omega)]
 ·rw [if_neg h]
  by_cases h' : b < a
  ·rw [if_pos h']
  ·rw [if_neg h']; congr 1; omega
theorem most_eq (a b : Int) : spec_l1Most.f a b = some (mx a b) := by
 unfold spec_l1Most.f mx
 by_cases h : a > b
 ·rw [if_pos h, if_neg (by omega)]
 ·rw [if_neg h]
  by_cases h' : a < b
  ·rw [if_pos h']
  ·rw [if_neg h']; congr 1; omega
theorem plStep_eq (a b : Int) : spec_plStep.f a b = some (mn a b, mx a b) := by
 unfold spec_plStep.f
 rw [least_eq, most_eq]
 rfl

/-! ### what code must bear -/
def InsOk (n : Nat) (l : List Int) : Prop := ∀ (j : Nat) (h : j < l.length), inR n l[j] ∧ l[j] ∉ l.take j
def OpR (n : Nat) (o : Rop) : Prop := inR n o.f0 ∧ inR n o.f1 ∧ inR n o.f2
def putIns : List Int → Nat → List Int → List Int
 | [], _, s => s
 | r :: t, i, s => putIns t (i + 1) (s.set r.toNat (i : Int))
theorem putIns_length : ∀ (l : List Int) (i : Nat) (s : List Int), (putIns l i s).length = s.length
 | [], _, _ => rfl
 | r :: t, i, s => by simp only [putIns]; rw [putIns_length t]; simp
theorem putIns_low : ∀ (l : List Int) (i : Nat) (s : List Int), Low s → Low (putIns l i s)
 | [], _, _, h => h
 | r :: t, i, s, h => putIns_low t (i + 1) _ (low_set h _ _ (by omega))
abbrev Res := Int × List St × List Int × Bool
/-! the program's run: what it must have met -/
theorem rdC_true (a0 : Int) (n m : Nat) (s : List Int) (st : List St) (l : List Int) : ∀ (d j : Nat) (os : List Int) (r1 : Int) (r2 : List St) (r3 : List Int), j + d = l.length → rdC a0 n m s st l d j os = (r1, r2, r3, true) →
  (1 ≤ a0 ∧ a0 ≤ 46) ∧ r1 = (m : Int) ∧ ∀ i (h : i < l.length), j ≤ i → inR n l[i]
 | 0, j, os, r1, r2, r3, hj, h => by
  simp only [rdC, Prod.mk.injEq] at h
  refine ⟨by simpa using h.2.2.2, h.1.symm, fun i hi hji => by omega⟩
 | d + 1, j, os, r1, r2, r3, hj, h => by
  have hlt : j < l.length := by omega
  simp only [rdC] at h
  rw [rd_nat l j hlt] at h
  split at h
  ·rename_i g
   obtain ⟨h1, h2, h3⟩ := rdC_true a0 n m s st l d (j + 1) _ r1 r2 r3 (by omega) h
   refine ⟨h1, h2, fun i hi hji => ?_⟩
   rcases Nat.eq_or_lt_of_le hji with e | e
   ·subst e
    exact (hasB_iff n _).1 g.1
   ·exact h3 i hi e
  ·simp at h
theorem rdB_true (a0 : Int) (n m : Nat) (l2 : List Rop) (l3 : List Int) : ∀ (d j : Nat) (s : List Int) (st : List St) (r1 : Int) (r2 : List St) (r3 : List Int), j + d = l2.length → rdB a0 n m l2 l3 d j s st = (r1, r2, r3, true) →
  (1 ≤ a0 ∧ a0 ≤ 46) ∧ r1 = (m : Int) ∧ (∀ i (h : i < l3.length), inR n l3[i]) ∧ ∀ i (h : i < l2.length), j ≤ i → OpR n l2[i]
 | 0, j, s, st, r1, r2, r3, hj, h => by
  simp only [rdB] at h
  obtain ⟨h1, h2, h3⟩ := rdC_true a0 n m s st l3 l3.length 0 [] r1 r2 r3 (by omega) h
  exact ⟨h1, h2, fun i hi => h3 i hi (Nat.zero_le _), fun i hi hji => by omega⟩
 | d + 1, j, s, st, r1, r2, r3, hj, h => by
  have hlt : j < l2.length := by omega
  simp only [rdB] at h
  rw [rdRop_nat l2 j hlt] at h
  split at h
  ·rename_i g
   obtain ⟨h1, h2, h3, h4⟩ := rdB_true a0 n m l2 l3 d (j + 1) _ _ r1 r2 r3 (by omega) h
   refine ⟨h1, h2, h3, fun i hi hji => ?_⟩
   rcases Nat.eq_or_lt_of_le hji with e | e
   ·subst e
    exact ⟨(hasB_iff n _).1 g.1, (hasB_iff n _).1 g.2.1, (hasB_iff n _).1 g.2.2.1⟩
   ·exact h4 i hi e
  ·simp at h
theorem rdA_true (a0 : Int) (n : Nat) (l1 : List Int) (l2 : List Rop) (l3 : List Int) : ∀ (d j : Nat) (s : List Int) (r1 : Int) (r2 : List St) (r3 : List Int), j + d = l1.length → s.length = n → (∀ i (h : i < l1.length), i < j → inR n l1[i] ∧ rd s l1[i] ≠ -1) →
  (∀ i (h : i < l1.length), i < j → l1[i] ∉ l1.take i) → rdA a0 n l1 l2 l3 d j s = (r1, r2, r3, true) →
  (1 ≤ a0 ∧ a0 ≤ 46) ∧ r1 = (l1.length : Int) ∧ (∀ i (h : i < l3.length), inR n l3[i]) ∧ (∀ i (h : i < l2.length), OpR n l2[i]) ∧ InsOk n l1
 | 0, j, s, r1, r2, r3, hj, hs, hp, hq, h => by
  simp only [rdA] at h
  obtain ⟨h1, h2, h3, h4⟩ := rdB_true a0 n l1.length l2 l3 l2.length 0 s [] r1 r2 r3 (by omega) h
  exact ⟨h1, h2, h3, fun i hi => h4 i hi (Nat.zero_le _), fun i hi => ⟨(hp i hi (by omega)).1, hq i hi (by omega)⟩⟩
 | d + 1, j, s, r1, r2, r3, hj, hs, hp, hq, h => by
  have hlt : j < l1.length := by omega
  simp only [rdA] at h
  rw [rd_nat l1 j hlt] at h
  split at h
  ·rename_i g
   have gr := (hasB_iff n _).1 g.1
   refine rdA_true a0 n l1 l2 l3 d (j + 1) _ r1 r2 r3 (by omega) (by simpa using hs) (fun i hi hij => ?_) (fun i hi hij => ?_) h
   ·rcases Nat.lt_or_ge i j with e | e
    ·obtain ⟨p1, p2⟩ := hp i hi e
     refine ⟨p1, ?_⟩
     rw [rd_set _ _ _ _ p1.1 (by rw [hs]; exact p1.2)]
     split
     ·omega
     ·exact p2
    ·have e' : i = j := by omega
     subst e'
     refine ⟨gr, ?_⟩
     rw [rd_set _ _ _ _ gr.1 (by rw [hs]; exact gr.2), if_pos (by have := gr.1; omega)]
     omega
   ·rcases Nat.lt_or_ge i j with e | e
    ·exact hq i hi e
    ·have e' : i = j := by omega
     subst e'
     intro hm
     obtain ⟨q, hq', he⟩ := List.mem_iff_getElem.1 hm
     have hqi : q < i := by rw [List.length_take] at hq'; omega
     rw [List.getElem_take] at he
     have := (hp q (by omega) hqi).2
     rw [he] at this
     exact this g.2
  ·simp at h
/-! the reference's shape -/
def shapeB (a0 : Int) (l1 : List Int) (l2 : List Rop) (l3 : List Int) : Prop :=
 (1 ≤ a0 ∧ a0 ≤ 46) ∧ (1 ≤ l1.length ∧ l1.length ≤ 6) ∧ l2.length ≤ 40 ∧ l3.length ≤ 6 ∧ InsOk a0.toNat l1 ∧ (∀ i (h : i < l2.length), OpR a0.toNat l2[i]) ∧ ∀ i (h : i < l3.length), inR a0.toNat l3[i]
theorem all_inR (a0 : Int) (ha : 1 ≤ a0 ∧ a0 ≤ 46) (l : List Int) : (l.all fun x => decide (0 ≤ x ∧ x ≤ wrap64 (a0 - 1))) = true ↔ ∀ i (h : i < l.length), inR a0.toNat l[i] := by
 rw [wrap_id (by omega) (by omega), List.all_eq_true]
 constructor
 ·intro h i hi
  have := h _ (List.getElem_mem hi)
  simp only [decide_eq_true_eq] at this
  unfold inR
  omega
 ·intro h x hx
  obtain ⟨i, hi, rfl⟩ := List.mem_iff_getElem.1 hx
  have := h i hi
  unfold inR at this
  simp only [decide_eq_true_eq]
  omega
theorem shape_l1 (a0 : Int) (ha : 1 ≤ a0 ∧ a0 ≤ 46) (l1 : List Int) (l2 : List Rop) (l3 : List Int) (h1 : l1.length ≤ 6) (h2 : l2.length ≤ 40) (h3 : l3.length ≤ 6) : ∀ d j : Nat, j + d = l2.length →
  ∃ b : Bool, Ev (fun k => spec_reShape.l1 k l2 (l2.length : Int) j a0 l1 l2 l3) b ∧ (b = true ↔ (∀ i (h : i < l2.length), j ≤ i → OpR a0.toNat l2[i]) ∧ (∀ i (h : i < l1.length), inR a0.toNat l1[i]) ∧ ∀ i (h : i < l3.length), inR a0.toNat l3[i])
 | 0, j, hj => by
  refine ⟨(l1.all fun x => decide (0 ≤ x ∧ x ≤ wrap64 (a0 - 1))) && (l3.all fun x => decide (0 ≤ x ∧ x ≤ wrap64 (a0 - 1))), ?_, ?_⟩
  ·refine shift ?_
   simp only [spec_reShape.l1]
   refine neg (by omega) (bind (l1All_dec l1 _ _ (by omega)) ?_)
   cases hb : (l1.all fun x => decide (0 ≤ x ∧ x ≤ wrap64 (a0 - 1))) with
   | true => exact pos rfl (bind (l1All_dec l3 _ _ (by omega)) (ret _))
   | false => exact neg (by simp) (ret _)
  ·rw [Bool.and_eq_true, all_inR a0 ha, all_inR a0 ha]
   exact ⟨fun h => ⟨fun i hi hji => by omega, h⟩, fun h => h.2⟩
 | d + 1, j, hj => by
  have hlt : j < l2.length := by omega
  obtain ⟨b, hb, hi⟩ := shape_l1 a0 ha l1 l2 l3 h1 h2 h3 d (j + 1) (by omega)
  have ha3 := all_inR a0 ha [l2[j].f0, l2[j].f1, l2[j].f2]
  have h3' : (∀ i (h : i < [l2[j].f0, l2[j].f1, l2[j].f2].length), inR a0.toNat [l2[j].f0, l2[j].f1, l2[j].f2][i]) ↔ OpR a0.toNat l2[j] := by
   constructor
   ·intro h
    exact ⟨h 0 (by simp), h 1 (by simp), h 2 (by simp)⟩
   ·rintro ⟨g0, g1, g2⟩ i hi
    match i, hi with
    | 0, _ => exact g0
    | 1, _ => exact g1
    | 2, _ => exact g2
  rw [h3'] at ha3
  cases hc : ([l2[j].f0, l2[j].f1, l2[j].f2].all fun x => decide (0 ≤ x ∧ x ≤ wrap64 (a0 - 1))) with
  | true =>
   refine ⟨b, ?_, ?_⟩
   ·refine shift ?_
    simp only [spec_reShape.l1]
    rw [rdRop_nat l2 j hlt, zb8 (by omega)]
    refine pos (by omega) (pos (by omega) (pos (by omega) (bind (l1All_dec _ _ _ (by simp)) (pos hc hb))))
   ·rw [hi]
    refine ⟨fun h => ⟨fun i hi hji => ?_, h.2⟩, fun h => ⟨fun i hi hji => h.1 i hi (by omega), h.2⟩⟩
    rcases Nat.eq_or_lt_of_le hji with e | e
    ·subst e
     exact ha3.1 hc
    ·exact h.1 i hi e
  | false =>
   refine ⟨false, ?_, ?_⟩
   ·refine shift ?_
    simp only [spec_reShape.l1]
    rw [rdRop_nat l2 j hlt]
    refine pos (by omega) (pos (by omega) (pos (by omega) (bind (l1All_dec _ _ _ (by simp)) (neg (by rw [hc]; simp) (ret _)))))
   ·refine ⟨(fun h => by cases h), fun h => ?_⟩
    rw [ha3.2 (h.1 j hlt (Nat.le_refl _))] at hc
    cases hc
theorem shape_l0 (a0 : Int) (ha : 1 ≤ a0 ∧ a0 ≤ 46) (l1 : List Int) (l2 : List Rop) (l3 : List Int) (h1 : l1.length ≤ 6) (h2 : l2.length ≤ 40) (h3 : l3.length ≤ 6) : ∀ d j : Nat, j + d = l1.length →
  ∃ b : Bool, Ev (fun k => spec_reShape.l0 k l1 (l1.length : Int) j a0 l1 l2 l3) b ∧ (b = true ↔ (∀ i (h : i < l1.length), j ≤ i → l1[i] ∉ l1.take i) ∧ (∀ i (h : i < l2.length), OpR a0.toNat l2[i]) ∧ (∀ i (h : i < l1.length), inR a0.toNat l1[i]) ∧ ∀ i (h : i < l3.length), inR a0.toNat l3[i])
 | 0, j, hj => by
  obtain ⟨b, hb, hi⟩ := shape_l1 a0 ha l1 l2 l3 h1 h2 h3 l2.length 0 (by omega)
  refine ⟨b, ?_, ?_⟩
  ·refine shift ?_
   simp only [spec_reShape.l0]
   exact neg (by omega) hb
  ·rw [hi]
   exact ⟨fun h => ⟨fun i hi hji => by omega, fun i hi => h.1 i hi (Nat.zero_le _), h.2⟩, fun h => ⟨fun i hi _ => h.2.1 i hi, h.2.2⟩⟩
 | d + 1, j, hj => by
  have hlt : j < l1.length := by omega
  obtain ⟨b, hb, hi⟩ := shape_l0 a0 ha l1 l2 l3 h1 h2 h3 d (j + 1) (by omega)
  by_cases hm : l1[j] ∈ l1.take j
  ·refine ⟨false, ?_, ⟨(fun h => by cases h), fun h => absurd hm (h.1 j hlt (Nat.le_refl _))⟩⟩
   refine shift ?_
   simp only [spec_reShape.l0]
   rw [rd_nat l1 j hlt, toNat_cast]
   exact pos (by omega) (pos (by omega) (pos (by omega) (pos (by omega) (bind (l1Has_dec _ _ (by simp; omega)) (pos (by simpa using hm) (ret _))))))
  ·refine ⟨b, ?_, ?_⟩
   ·refine shift ?_
    simp only [spec_reShape.l0]
    rw [rd_nat l1 j hlt, toNat_cast, zb8 (by omega)]
    exact pos (by omega) (pos (by omega) (pos (by omega) (pos (by omega) (bind (l1Has_dec _ _ (by simp; omega)) (neg (by simpa using hm) hb)))))
   ·rw [hi]
    refine ⟨fun h => ⟨fun i hi hji => ?_, h.2⟩, fun h => ⟨fun i hi hji => h.1 i hi (by omega), h.2⟩⟩
    rcases Nat.eq_or_lt_of_le hji with e | e
    ·subst e
     exact hm
    ·exact h.1 i hi e
theorem shape_ev (a0 : Int) (l1 : List Int) (l2 : List Rop) (l3 : List Int) : ∃ b : Bool, Ev (fun k => spec_reShape.f k a0 l1 l2 l3) b ∧ (b = true ↔ shapeB a0 l1 l2 l3) := by
 unfold spec_reShape.f shapeB
 by_cases ha : 1 ≤ a0 ∧ a0 ≤ 46
 ·by_cases h1 : 1 ≤ l1.length ∧ l1.length ≤ 6
  ·by_cases h2 : l2.length ≤ 40
   ·by_cases h3 : l3.length ≤ 6
    ·obtain ⟨b, hb, hi⟩ := shape_l0 a0 ha l1 l2 l3 h1.2 h2 h3 l1.length 0 (by omega)
     refine ⟨b, bind0 (l1In_dec _ _ _) (pos (by simpa using ha) (bind0 (l1In_dec _ _ _) (pos (by simp; omega) (neg (by omega) (shift ?_))))), ?_⟩
     ·simp only [spec_reShape.j0]
      exact neg (by simp; omega) hb
     ·rw [hi]
      exact ⟨fun h => ⟨ha, h1, h2, h3, fun i hi => ⟨h.2.2.1 i hi, h.1 i hi (Nat.zero_le _)⟩, h.2.1, h.2.2.2⟩, fun h => ⟨fun i hi _ => (h.2.2.2.2.1 i hi).2, h.2.2.2.2.2.1, fun i hi => (h.2.2.2.2.1 i hi).1, h.2.2.2.2.2.2⟩⟩
    ·refine ⟨false, bind0 (l1In_dec _ _ _) (pos (by simpa using ha) (bind0 (l1In_dec _ _ _) (pos (by simp; omega) (neg (by omega) (shift ?_))))), ⟨(fun h => by cases h), fun h => absurd h.2.2.2.1 h3⟩⟩
     simp only [spec_reShape.j0]
     exact pos (by simp; omega) (ret _)
   ·refine ⟨false, bind0 (l1In_dec _ _ _) (pos (by simpa using ha) (bind0 (l1In_dec _ _ _) (pos (by simp; omega) (pos (by omega) (shift ?_))))), ⟨(fun h => by cases h), fun h => absurd h.2.2.1 h2⟩⟩
    simp only [spec_reShape.j0]
    exact pos trivial (ret _)
  ·refine ⟨false, bind0 (l1In_dec _ _ _) (pos (by simpa using ha) (bind0 (l1In_dec _ _ _) (neg (by simp; omega) (shift ?_)))), ⟨(fun h => by cases h), fun h => absurd h.2.1 h1⟩⟩
   simp only [spec_reShape.j0]
   exact pos trivial (ret _)
 ·refine ⟨false, bind0 (l1In_dec _ _ _) (neg (by simpa using ha) (shift ?_)), ⟨(fun h => by cases h), fun h => absurd h.1 ha⟩⟩
  simp only [spec_reShape.j0]
  exact pos trivial (ret _)

/-! ### the run, under the shape -/
theorem rdA_put (a0 : Int) (n : Nat) (l1 : List Int) (l2 : List Rop) (l3 : List Int) (hok : InsOk n l1) : ∀ (d j : Nat) (s : List Int), j + d = l1.length → s.length = n → (∀ i (h : i < l1.length), j ≤ i → rd s l1[i] = -1) →
  rdA a0 n l1 l2 l3 d j s = rdB a0 n l1.length l2 l3 l2.length 0 (putIns (l1.drop j) j s) []
 | 0, j, s, hj, hs, _ => by
  rw [List.drop_eq_nil_of_le (by omega)]
  rfl
 | d + 1, j, s, hj, hs, hp => by
  have hlt : j < l1.length := by omega
  simp only [rdA]
  rw [rd_nat l1 j hlt, if_pos ⟨(hasB_iff n _).2 (hok j hlt).1, hp j hlt (Nat.le_refl _)⟩, List.drop_eq_getElem_cons hlt]
  simp only [putIns]
  refine rdA_put a0 n l1 l2 l3 hok d (j + 1) _ (by omega) (by simpa using hs) (fun i hi hji => ?_)
  have hr := (hok i hi).1
  have hrj := (hok j hlt).1
  rw [rd_set _ _ _ _ hr.1 (by rw [hs]; exact hr.2), if_neg ?_]
  ·exact hp i hi (by omega)
  ·intro e
   have : l1[j] = l1[i] := by have := hrj.1; omega
   refine (hok i hi).2 ?_
   rw [← this]
   exact List.mem_iff_getElem.2 ⟨j, by rw [List.length_take]; omega, by rw [List.getElem_take]⟩
theorem specPut (a0 : Int) (n : Nat) (l1 : List Int) (l2 : List Rop) (l3 : List Int) (hok : InsOk n l1) (h1 : l1.length ≤ 6) (x1 : Int) (r : List Int × List St × Bool)
  (hk : ∀ s, s.length = n → s = putIns l1 0 (List.replicate n (-1)) → Ev (fun k => if 0 ≤ x1 then (if x1 ≤ (l2.length : Int) then ((some (l2.take (x1 : Int).toNat : List Rop)).bind fun y => (spec_reValues.l2 k s ([] : List St) y (y.length : Int) 0 a0 l1 l2 l3)) else none) else none) r) :
  ∀ (d j : Nat) (s : List Int), j + d = l1.length → s.length = n → putIns (l1.drop j) j s = putIns l1 0 (List.replicate n (-1)) → Ev (fun k => spec_reValues.l1 k x1 s l1 (l1.length : Int) j a0 l1 l2 l3) r
 | 0, j, s, hj, hs, he => by
  rw [List.drop_eq_nil_of_le (by omega)] at he
  refine shift ?_
  simp only [spec_reValues.l1]
  exact neg (by omega) (hk s hs he)
 | d + 1, j, s, hj, hs, he => by
  have hlt : j < l1.length := by omega
  have hr := (hok j hlt).1
  rw [List.drop_eq_getElem_cons hlt] at he
  simp only [putIns] at he
  refine shift ?_
  simp only [spec_reValues.l1]
  rw [rd_nat l1 j hlt, zb8 (by omega)]
  exact pos (by omega) (pos (by omega) (pos (by omega) (pos hr.1 (pos (by rw [hs]; exact hr.2) (specPut a0 n l1 l2 l3 hok h1 x1 r hk d (j + 1) _ (by omega) (by simpa using hs) he)))))
theorem ops_both (a0 : Int) (n : Nat) (l1 : List Int) (l2 : List Rop) (l3 : List Int) (h1 : l1.length ≤ 6) (h2 : l2.length ≤ 40) (hok : ∀ i (h : i < l2.length), OpR n l2[i]) : ∀ (d j : Nat) (s : List Int) (st : List St), j + d = l2.length → s.length = n → Low s → st.length = j →
  (rdB a0 n l1.length l2 l3 d j s st = (0, [], [], false) ∧ Ev (fun k => spec_reValues.l2 k s st l2 (l2.length : Int) j a0 l1 l2 l3) ([], [], false)) ∨
  ∃ (s' : List Int) (st' : List St), rdB a0 n l1.length l2 l3 d j s st = rdC a0 n l1.length s' st' l3 l3.length 0 [] ∧ Ev (fun k => spec_reValues.l2 k s st l2 (l2.length : Int) j a0 l1 l2 l3) (s', st', true) ∧ s'.length = n ∧ Low s' ∧ st'.length = l2.length
 | 0, j, s, st, hj, hs, hlo, hst => by
  refine .inr ⟨s, st, by simp only [rdB], ?_, hs, hlo, by omega⟩
  refine shift ?_
  simp only [spec_reValues.l2]
  exact neg (by omega) (ret _)
 | d + 1, j, s, st, hj, hs, hlo, hst => by
  have hlt : j < l2.length := by omega
  obtain ⟨g0, g1, g2⟩ := hok j hlt
  have e0 := (hasB_iff n _).2 g0
  have e1 := (hasB_iff n _).2 g1
  have e2 := (hasB_iff n _).2 g2
  have v1 := rd_low hlo l2[j].f1 g1.1 (by rw [hs]; exact g1.2)
  have v2 := rd_low hlo l2[j].f2 g2.1 (by rw [hs]; exact g2.2)
  simp only [rdB]
  rw [rdRop_nat l2 j hlt]
  by_cases c1 : rd s l2[j].f1 = -1
  ·left
   rw [if_neg (fun h => h.2.2.2.1 c1)]
   refine ⟨rfl, shift ?_⟩
   simp only [spec_reValues.l2]
   rw [rdRop_nat l2 j hlt]
   exact pos (by omega) (pos (by omega) (pos (by omega) (pos g1.1 (pos (by rw [hs]; exact g1.2) (pos (by omega) (ret _))))))
  ·by_cases c2 : rd s l2[j].f2 = -1
   ·left
    rw [if_neg (fun h => h.2.2.2.2 c2)]
    refine ⟨rfl, shift ?_⟩
    simp only [spec_reValues.l2]
    rw [rdRop_nat l2 j hlt]
    exact pos (by omega) (pos (by omega) (pos (by omega) (pos g1.1 (pos (by rw [hs]; exact g1.2) (neg (by omega) (pos g2.1 (pos (by rw [hs]; exact g2.2) (pos (by omega) (ret _)))))))))
   ·rw [if_pos ⟨e0, e1, e2, c1, c2⟩]
    have step : ∀ r, Ev (fun k => spec_reValues.l2 k (s.set l2[j].f0.toNat ((l1.length : Int) + (st.length : Int))) (st ++ [⟨mn (rd s l2[j].f1) (rd s l2[j].f2), mx (rd s l2[j].f1) (rd s l2[j].f2)⟩]) l2 (l2.length : Int) ((j + 1 : Nat) : Int) a0 l1 l2 l3) r →
      Ev (fun k => spec_reValues.l2 k s st l2 (l2.length : Int) j a0 l1 l2 l3) r := by
     intro r hr
     refine shift ?_
     simp only [spec_reValues.l2]
     rw [rdRop_nat l2 j hlt, plStep_eq]
     simp only [Option.bind_some]
     rw [zb8 (by omega), wrap_id (x := (l1.length : Int) + _) (by simp; omega) (by simp; omega), wrap_id (by simp; omega) (by simp; omega)]
     refine pos (by omega) (pos (by omega) (pos (by omega) (pos g1.1 (pos (by rw [hs]; exact g1.2) (neg (by omega) (pos g2.1 (pos (by rw [hs]; exact g2.2) (neg (by omega) (pos (by omega) (pos g0.1 (pos (by rw [hs]; exact g0.2) ?_)))))))))))
     have e : (l1.length : Int) + ((st ++ [(⟨mn (rd s l2[j].f1) (rd s l2[j].f2), mx (rd s l2[j].f1) (rd s l2[j].f2)⟩ : St)]).length : Int) - 1 = (l1.length : Int) + (st.length : Int) := by simp; omega
     rw [e]
     exact hr
    rcases ops_both a0 n l1 l2 l3 h1 h2 hok d (j + 1) (s.set l2[j].f0.toNat ((l1.length : Int) + (st.length : Int))) (st ++ [⟨mn (rd s l2[j].f1) (rd s l2[j].f2), mx (rd s l2[j].f1) (rd s l2[j].f2)⟩]) (by omega) (by simpa using hs) (low_set hlo _ _ (by omega)) (by simp; omega) with ⟨q1, q2⟩ | ⟨s', st', q1, q2, q3⟩
    ·exact .inl ⟨q1, step _ q2⟩
    ·exact .inr ⟨s', st', q1, step _ q2, q3⟩
theorem outs_both (a0 : Int) (ha : 1 ≤ a0 ∧ a0 ≤ 46) (n m : Nat) (s : List Int) (st : List St) (l3 : List Int) (h3 : l3.length ≤ 6) (hs : s.length = n) (hlo : Low s) (hok : ∀ i (h : i < l3.length), inR n l3[i]) : ∀ (d j : Nat) (os : List Int), j + d = l3.length → os.length = j →
  (rdC a0 n m s st l3 d j os = (0, [], [], false) ∧ Ev (fun k => spec_rePlan.l0 k s l3 (l3.length : Int) j (m : Int) st os) (0, [], [], false)) ∨
  ∃ os', rdC a0 n m s st l3 d j os = ((m : Int), st, os', true) ∧ Ev (fun k => spec_rePlan.l0 k s l3 (l3.length : Int) j (m : Int) st os) ((m : Int), st, os', goodB m st os')
 | 0, j, os, hj, hos => by
  refine .inr ⟨os, by simp only [rdC]; simp [ha], ?_⟩
  refine shift ?_
  simp only [spec_rePlan.l0]
  exact neg (by omega) (bind (plGood_ev _ _ _) (ret _))
 | d + 1, j, os, hj, hos => by
  have hlt : j < l3.length := by omega
  have g := hok j hlt
  have v := rd_low hlo l3[j] g.1 (by rw [hs]; exact g.2)
  simp only [rdC]
  rw [rd_nat l3 j hlt]
  by_cases c : rd s l3[j] = -1
  ·left
   rw [if_neg (fun h => h.2 c)]
   refine ⟨rfl, shift ?_⟩
   simp only [spec_rePlan.l0]
   rw [rd_nat l3 j hlt]
   exact pos (by omega) (pos (by omega) (pos (by omega) (pos g.1 (pos (by rw [hs]; exact g.2) (pos (by omega) (ret _))))))
  ·rw [if_pos ⟨(hasB_iff n _).2 g, c⟩]
   have step : ∀ r, Ev (fun k => spec_rePlan.l0 k s l3 (l3.length : Int) ((j + 1 : Nat) : Int) (m : Int) st (os ++ [rd s l3[j]])) r → Ev (fun k => spec_rePlan.l0 k s l3 (l3.length : Int) j (m : Int) st os) r := by
    intro r hr
    refine shift ?_
    simp only [spec_rePlan.l0]
    rw [rd_nat l3 j hlt, zb8 (by omega)]
    exact pos (by omega) (pos (by omega) (pos (by omega) (pos g.1 (pos (by rw [hs]; exact g.2) (neg (by omega) (pos (by omega) hr))))))
   rcases outs_both a0 ha n m s st l3 h3 hs hlo hok d (j + 1) (os ++ [rd s l3[j]]) (by omega) (by simp; omega) with ⟨q1, q2⟩ | ⟨os', q1, q2⟩
   ·exact .inl ⟨q1, step _ q2⟩
   ·exact .inr ⟨os', q1, step _ q2⟩
theorem specVals_l0 (n : Nat) (hn : n ≤ 46) (l1 : List Int) (l2 : List Rop) (l3 : List Int) (x1 : Int) (r : List Int × List St × Bool) (hk : Ev (fun k => spec_reValues.l1 k x1 (List.replicate n (-1)) l1 (l1.length : Int) 0 (n : Int) l1 l2 l3) r) : ∀ d i : Nat, i + d = n →
  Ev (fun k => spec_reValues.l0 k x1 (List.replicate i (-1)) i (n : Int) l1 l2 l3) r
 | 0, i, hi => by
  obtain rfl : i = n := by omega
  refine shift ?_
  simp only [spec_reValues.l0]
  exact neg (by omega) hk
 | d + 1, i, hi => by
  refine shift ?_
  simp only [spec_reValues.l0]
  refine pos (by omega) (pos (by simp; omega) ?_)
  rw [zb8 (by omega), show List.replicate i (-1 : Int) ++ [-1] = List.replicate (i + 1) (-1) from by rw [List.replicate_succ']]
  exact specVals_l0 n hn l1 l2 l3 x1 r hk d (i + 1) (by omega)
theorem nreg_of (a0 : Int) (h : 1 ≤ a0 ∧ a0 ≤ 46) : nreg a0 = a0.toNat := by
 unfold nreg
 rw [if_neg (by omega), if_neg (by omega)]
/-- The reference's plan of code and the program's. -/
theorem plan_both (a0 : Int) (l1 : List Int) (l2 : List Rop) (l3 : List Int) : ∃ (r1 : Int) (r2 : List St) (r3 : List Int) (b : Bool), Ev (fun k => spec_rePlan.f k a0 l1 l2 l3) (r1, r2, r3, b) ∧
  Ev (fun k => impl_RegCode_plan.f k a0 l1 l2 l3) (if b = true then (r1, r2, r3, true) else (0, [], [], false)) ∧ (b = true → r2.length ≤ 40 ∧ r3.length ≤ 6 ∧ goodB r1 r2 r3 = true) := by
 obtain ⟨sb, hsb, hsi⟩ := shape_ev a0 l1 l2 l3
 -- the program: whatever it reads
 have impl_run : ∀ (q1 : Int) (q2 : List St) (q3 : List Int) (q4 : Bool), l1.length ≤ 6 → l2.length ≤ 40 → l3.length ≤ 6 → rdA a0 (nreg a0) l1 l2 l3 l1.length 0 (List.replicate (nreg a0) (-1)) = (q1, q2, q3, q4) →
   Ev (fun k => impl_RegCode_plan.f k a0 l1 l2 l3) (if q4 = true ∧ goodB q1 q2 q3 = true then (q1, q2, q3, true) else (0, [], [], false)) := by
  intro q1 q2 q3 q4 h1 h2 h3 hr
  unfold impl_RegCode_plan.f
  refine neg (by omega) (neg (by omega) (shift ?_))
  simp only [impl_RegCode_plan.j0]
  refine neg (by simp; omega) (bind0 (a := (q1, q2, q3, q4)) ?_ ?_)
  ·unfold impl_RegCode_read.f
   rw [if_pos ⟨by omega, by omega, by omega⟩, hr]
  ·cases q4 with
   | true =>
    refine pos rfl (bindr (told_ev q1 q2 q3) ?_)
    cases goodB q1 q2 q3 <;> simp
   | false => exact neg (by simp) (now (by simp))
 have impl_fail : (l1.length ≤ 6 → l2.length ≤ 40 → l3.length ≤ 6 → ∀ q1 q2 q3, rdA a0 (nreg a0) l1 l2 l3 l1.length 0 (List.replicate (nreg a0) (-1)) = (q1, q2, q3, true) → goodB q1 q2 q3 = false) → Ev (fun k => impl_RegCode_plan.f k a0 l1 l2 l3) (0, [], [], false) := by
  intro hf
  by_cases h1 : l1.length ≤ 6
  ·by_cases h2 : l2.length ≤ 40
   ·by_cases h3 : l3.length ≤ 6
    ·obtain ⟨⟨q1, q2, q3, q4⟩, hq⟩ : ∃ q, rdA a0 (nreg a0) l1 l2 l3 l1.length 0 (List.replicate (nreg a0) (-1)) = q := ⟨_, rfl⟩
     have := impl_run q1 q2 q3 q4 h1 h2 h3 hq
     rwa [if_neg ?_] at this
     rintro ⟨rfl, g⟩
     rw [hf h1 h2 h3 q1 q2 q3 hq] at g
     cases g
    ·unfold impl_RegCode_plan.f
     refine neg (by omega) (neg (by omega) (shift ?_))
     simp only [impl_RegCode_plan.j0]
     exact pos (by simp; omega) (ret _)
   ·unfold impl_RegCode_plan.f
    refine neg (by omega) (pos (by omega) (shift ?_))
    simp only [impl_RegCode_plan.j0]
    exact pos trivial (ret _)
  ·unfold impl_RegCode_plan.f
   refine pos (by omega) (shift ?_)
   simp only [impl_RegCode_plan.j0]
   exact pos trivial (ret _)
 by_cases hS : shapeB a0 l1 l2 l3
 ·obtain ⟨ha, h1, h2, h3, hI, hO, hT⟩ := hS
  have hb : sb = true := hsi.2 ⟨ha, h1, h2, h3, hI, hO, hT⟩
  subst hb
  obtain ⟨n, rfl⟩ := Int.eq_ofNat_of_zero_le (show 0 ≤ a0 by omega)
  rw [Int.toNat_natCast] at hI hO hT
  have hnr : nreg (n : Int) = n := by rw [nreg_of _ ha, Int.toNat_natCast]
  have hrep : ∀ i (h : i < l1.length), 0 ≤ i → rd (List.replicate n (-1 : Int)) l1[i] = -1 := by
   intro i hi _
   have g := (hI i hi).1
   exact List.eq_of_mem_replicate (rd_mem _ _ g.1 (by simpa using g.2))
  have hA := rdA_put (n : Int) n l1 l2 l3 hI l1.length 0 (List.replicate n (-1)) (by omega) (by simp) hrep
  rw [List.drop_zero] at hA
  have hlen : (putIns l1 0 (List.replicate n (-1 : Int))).length = n := by rw [putIns_length]; simp
  have hlow : Low (putIns l1 0 (List.replicate n (-1 : Int))) := putIns_low l1 0 _ (fun x hx => by rw [List.eq_of_mem_replicate hx]; omega)
  have hvals : ∀ r, Ev (fun k => spec_reValues.l2 k (putIns l1 0 (List.replicate n (-1))) [] l2 (l2.length : Int) 0 (n : Int) l1 l2 l3) r → Ev (fun k => spec_reValues.f k (n : Int) l1 l2 l3 (l2.length : Int)) r := by
   intro r hr
   unfold spec_reValues.f
   have hz := specVals_l0 n (by omega) l1 l2 l3 (l2.length : Int) r (specPut (n : Int) n l1 l2 l3 hI h1.2 (l2.length : Int) r (fun s _ he => by
    subst he
    refine pos (by omega) (pos (by omega) (bind0 (a := l2) ?_ hr))
    rw [Int.toNat_natCast, List.take_length]) l1.length 0 (List.replicate n (-1)) (by omega) (by simp) (by rw [List.drop_zero])) n 0 (by omega)
   exact hz
  rcases ops_both (n : Int) n l1 l2 l3 h1.2 h2 hO l2.length 0 (putIns l1 0 (List.replicate n (-1))) [] (by omega) hlen hlow rfl with ⟨q1, q2⟩ | ⟨s', st', q1, q2, q3, q4, q5⟩
  ·refine ⟨0, [], [], false, ?_, ?_, fun h => by cases h⟩
   ·unfold spec_rePlan.f
    exact bind hsb (pos rfl (bind (hvals _ q2) (neg (by simp) (ret _))))
   ·refine impl_fail (fun _ _ _ p1 p2 p3 hp => ?_)
    rw [hnr, hA, q1] at hp
    simp at hp
  ·rcases outs_both (n : Int) ha n l1.length s' st' l3 h3 q3 q4 hT l3.length 0 [] (by omega) rfl with ⟨o1, o2⟩ | ⟨os', o1, o2⟩
   ·refine ⟨0, [], [], false, ?_, ?_, fun h => by cases h⟩
    ·unfold spec_rePlan.f
     exact bind hsb (pos rfl (bind (hvals _ q2) (pos rfl o2)))
    ·refine impl_fail (fun _ _ _ p1 p2 p3 hp => ?_)
     rw [hnr, hA, q1, o1] at hp
     simp at hp
   ·refine ⟨(l1.length : Int), st', os', goodB l1.length st' os', ?_, ?_, fun h => ?_⟩
    ·unfold spec_rePlan.f
     exact bind hsb (pos rfl (bind (hvals _ q2) (pos rfl o2)))
    ·have := impl_run (l1.length : Int) st' os' true h1.2 h2 h3 (by rw [hnr, hA, q1, o1])
     simpa using this
    ·have hg := h
     unfold goodB at h
     simp only [Bool.and_eq_true, decide_eq_true_eq] at h
     exact ⟨h.2.1, h.2.2.1, hg⟩
 ·have hb : sb = false := by
   cases sb with
   | true => exact absurd (hsi.1 rfl) hS
   | false => rfl
  subst hb
  refine ⟨0, [], [], false, ?_, ?_, fun h => by cases h⟩
  ·unfold spec_rePlan.f
   exact bind hsb (neg (by simp) (ret _))
  ·refine impl_fail (fun h1 h2 h3 p1 p2 p3 hp => ?_)
   obtain ⟨c1, c2, c3, c4, c5⟩ := rdA_true a0 (nreg a0) l1 l2 l3 l1.length 0 (List.replicate (nreg a0) (-1)) p1 p2 p3 (by omega) (by simp) (fun i _ hi => by omega) (fun i _ hi => by omega) hp
   rw [nreg_of a0 c1] at c3 c4 c5
   cases hg : goodB p1 p2 p3 with
   | false => rfl
   | true =>
    exfalso
    unfold goodB at hg
    simp only [Bool.and_eq_true, decide_eq_true_eq] at hg
    have := hg.1
    exact hS ⟨c1, ⟨by omega, h1⟩, h2, h3, c5, c4, c3⟩
end Go.Proofs.Ytpdpomjgfmdjfaa.Pure
