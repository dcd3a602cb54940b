/- Pure: Pgood, Pgood2, Parg, Pord. -/
import Derived.Test.YtiaohjciddbpoaaKFnMethodsPbase
set_option linter.unusedVariables false
set_option linter.unusedSimpArgs false
namespace Go.Proofs.Ytiaohjciddbpoaa.Pure
open Go.RowKit Go.Proofs.Ytiaohjciddbpoaa.E Go.Proofs.Ytiaohjciddbpoaa.M5 Go.Proofs.Ytiaohjciddbpoaa.Frame Go.Proofs.YtiaohjciddbpoaaW.PrintLast Go.Proofs.YtiaohjciddbpoaaW.PrintMore
open Go.Proofs.YtiaohjciddbpoaaW.PrintWords hiding mn mx
theorem l1In_eq (a b c : Int) : spec_l1In.f a b c = some (decide (b ≤ a ∧ a ≤ c)) := by
 unfold spec_l1In.f
 by_cases h : b ≤ a <;> simp [h]
theorem in_eq (a b c : Int) : impl_in.f a b c = some (decide (b ≤ a ∧ a ≤ c)) := by
 unfold impl_in.f
 by_cases h : b ≤ a <;> simp [h]
def fB (i : Int) : List SStep → Int → Bool
 | [], _ => true
 | y :: ys, j => decide (0 ≤ y.f0 ∧ y.f0 ≤ y.f1 ∧ y.f1 < w64 (i + j)) && fB i ys (j + 1)
theorem spec_formed (i : Int) (ys : List SStep) (j : Int) : spec_plGood.l0 i ys j = some (bif fB i ys j then .inr () else .inl false) := by
 induction ys generalizing j with
 | nil => rfl
 | cons y ys ih =>
  simp only [spec_plGood.l0, l1In_eq, Option.bind_some, fB]
  by_cases h1 : 0 ≤ y.f0 ∧ y.f0 ≤ y.f1
  ·by_cases h2 : w64 (i + j) ≤ y.f1
   ·have : ¬ y.f1 < w64 (i + j) := by omega
    simp [h1, h2, this]
   ·have : y.f1 < w64 (i + j) := by omega
    simp [h1, h2, this, ih]
  ·have h3 : ¬ (0 ≤ y.f0 ∧ y.f0 ≤ y.f1 ∧ y.f1 < w64 (i + j)) := fun h => h1 ⟨h.1, h.2.1⟩
   rw [decide_eq_false h1, decide_eq_false h3]
   simp
theorem impl_formed (i : Int) (ys : List SStep) (j : Int) : impl_Plan_formed.l0 i ys j = some (bif fB i ys j then .inr () else .inl false) := by
 induction ys generalizing j with
 | nil => rfl
 | cons y ys ih =>
  simp only [impl_Plan_formed.l0, fB]
  by_cases h0 : y.f0 < 0
  ·have h3 : ¬ (0 ≤ y.f0 ∧ y.f0 ≤ y.f1 ∧ y.f1 < w64 (i + j)) := by omega
   rw [if_pos h0, decide_eq_false h3]
   simp
  ·rw [if_neg h0]
   by_cases h1 : y.f1 < y.f0
   ·have h3 : ¬ (0 ≤ y.f0 ∧ y.f0 ≤ y.f1 ∧ y.f1 < w64 (i + j)) := by omega
    rw [if_pos h1, decide_eq_false h3]
    simp
   ·rw [if_neg h1]
    by_cases h2 : w64 (i + j) ≤ y.f1
    ·have h3 : ¬ (0 ≤ y.f0 ∧ y.f0 ≤ y.f1 ∧ y.f1 < w64 (i + j)) := by omega
     rw [if_pos h2, decide_eq_false h3]
     simp
    ·have h3 : (0 ≤ y.f0 ∧ y.f0 ≤ y.f1 ∧ y.f1 < w64 (i + j)) := by omega
     rw [if_neg h2, decide_eq_true h3, ih]
     simp
/-- All in a range. -/
def aB (lo hi : Int) (l : List Int) : Bool := l.all fun y => decide (lo ≤ y ∧ y ≤ hi)
theorem l1All_l0 (lo hi : Int) (l : List Int) (j : Int) : spec_l1All.l0 lo hi l j = some (bif aB lo hi l then .inr () else .inl false) := by
 induction l generalizing j with
 | nil => rfl
 | cons y ys ih =>
  simp only [spec_l1All.l0, l1In_eq, Option.bind_some, ih]
  by_cases h : lo ≤ y ∧ y ≤ hi
  ·simp [aB, h]
  ·have hd : decide (lo ≤ y ∧ y ≤ hi) = false := decide_eq_false h
   simp only [aB, List.all_cons, hd, Bool.false_and]
   rfl
theorem l1All_eq (l : List Int) (lo hi : Int) : spec_l1All.f l lo hi = some (aB lo hi l) := by
 unfold spec_l1All.f
 rw [l1All_l0]
 cases aB lo hi l <;> rfl
theorem outs_l0 (i : Int) (s : List SStep) (o l : List Int) (j : Int) (hj : 0 ≤ j) : ∃ r, slices_IndexFunc_int_int.l0 i s o l j = some r ∧ (aB 0 (w64 (w64 (i + (s.length : Int)) - 1)) l = true → r = .inr ()) ∧ (aB 0 (w64 (w64 (i + (s.length : Int)) - 1)) l = false → ∃ m, r = .inl m ∧ 0 ≤ m) := by
 induction l generalizing j with
 | nil => exact ⟨_, rfl, fun _ => rfl, fun h => by simp [aB] at h⟩
 | cons y ys ih =>
  simp only [slices_IndexFunc_int_int.l0, impl_Plan_formed_1.f, impl_Plan_many.f, in_eq, Option.bind_some]
  by_cases h : 0 ≤ y ∧ y ≤ w64 (w64 (i + (s.length : Int)) - 1)
  ·obtain ⟨r, h1, h2, h3⟩ := ih (j + 1) (by omega)
   refine ⟨r, by simpa [h] using h1, fun ha => h2 ?_, fun ha => h3 ?_⟩
   ·simpa [aB, h] using ha
   ·simpa [aB, h] using ha
  ·refine ⟨.inl j, by simp [decide_eq_false h], fun ha => ?_, fun _ => ⟨j, rfl, hj⟩⟩
   have : decide (0 ≤ y ∧ y ≤ w64 (w64 (i + (s.length : Int)) - 1)) = false := decide_eq_false h
   simp only [aB, List.all_cons, this, Bool.false_and] at ha
   cases ha
theorem outs_eq (i : Int) (s : List SStep) (o : List Int) : slices_ContainsFunc_int_int.f o i s o = some (!aB 0 (w64 (w64 (i + (s.length : Int)) - 1)) o) := by
 obtain ⟨r, h1, h2, h3⟩ := outs_l0 i s o o 0 (by omega)
 unfold slices_ContainsFunc_int_int.f slices_IndexFunc_int_int.f
 rw [h1]
 cases hb : aB 0 (w64 (w64 (i + (s.length : Int)) - 1)) o with
 | true =>
  obtain rfl := h2 hb
  rfl
 | false =>
  obtain ⟨m, rfl, hm⟩ := h3 hb
  simp [hm]
theorem formed_eq (i : Int) (s : List SStep) (o : List Int) : impl_Plan_formed.f i s o = some (decide (1 ≤ i ∧ i ≤ 6) && (decide (s.length ≤ 40) && (decide (o.length ≤ 6) && (fB i s 0 && aB 0 (w64 (w64 (i + (s.length : Int)) - 1)) o)))) := by
 unfold impl_Plan_formed.f
 rw [in_eq, Option.bind_some]
 by_cases h1 : 1 ≤ i ∧ i ≤ 6
 ·rw [decide_eq_true h1, if_pos rfl, Bool.true_and]
  by_cases h2 : 40 < (s.length : Int)
  ·rw [if_pos h2, decide_eq_false (by omega), Bool.false_and]
  ·rw [if_neg h2, decide_eq_true (show s.length ≤ 40 by omega), Bool.true_and]
   by_cases h3 : 6 < (o.length : Int)
   ·rw [if_pos h3, decide_eq_false (by omega), Bool.false_and]
   ·rw [if_neg h3, decide_eq_true (show o.length ≤ 6 by omega), Bool.true_and, impl_formed]
    cases fB i s 0 with
    | false => rfl
    | true =>
     simp only [cond_true, Option.bind_some, outs_eq, Bool.not_not, Bool.true_and]
 ·rw [decide_eq_false h1, Bool.false_and]
  rfl
/-! exponents -/
def addC (a b : Int) : Int := if a + b ≤ 1000001 then a + b else 1000001
/-- A row of exponents: as many as inputs, none less than 0 or greater than 1000001. -/
def RowOk (n : Nat) (r : List Int) : Prop := r.length = n ∧ ∀ e ∈ r, 0 ≤ e ∧ e ≤ 1000001
def sumC (r q : List Int) : List Int := List.zipWith addC r q
theorem sumC_ok {n : Nat} {r q : List Int} (hr : RowOk n r) (hq : RowOk n q) : RowOk n (sumC r q) := by
 refine ⟨by rw [sumC, List.length_zipWith, hr.1, hq.1, Nat.min_self], fun e he => ?_⟩
 obtain ⟨i, hi, rfl⟩ := List.getElem_of_mem he
 have h1 : i < r.length ∧ i < q.length := by rw [sumC, List.length_zipWith] at hi; omega
 have h2 : (sumC r q)[i] = addC r[i] q[i] := by simp [sumC]
 have h3 := hr.2 r[i] (List.getElem_mem _)
 have h4 := hq.2 q[i] (List.getElem_mem _)
 rw [h2, addC]
 split <;> omega
theorem least_add {a b : Int} (ha : 0 ≤ a ∧ a ≤ 1000001) (hb : 0 ≤ b ∧ b ≤ 1000001) : spec_l1Least.f (w64 (a + b)) 1000001 = some (addC a b) := by
 unfold spec_l1Least.f addC
 rw [zam (by omega)]
 by_cases h : a + b < 1000001
 ·rw [if_pos h, if_pos (by omega)]
 ·rw [if_neg h]
  by_cases h2 : a + b ≤ 1000001
  ·rw [if_pos h2]
   congr 1
   omega
  ·rw [if_neg h2]
theorem mn_add {a b : Int} (ha : 0 ≤ a ∧ a ≤ 1000001) (hb : 0 ≤ b ∧ b ≤ 1000001) : mn (w64 (a + b)) 1000001 = addC a b := by
 unfold mn addC
 rw [zam (by omega)]
 split <;> split <;> omega
theorem plSum_eq {n : Nat} {r q : List Int} (hr : RowOk n r) (hq : RowOk n q) (hn : n ≤ 1000) : spec_plSum.f r q = some (sumC r q) := by
 have key : ∀ (d : Nat) (j : Nat), j + d = n → spec_plSum.l0 q (r.drop j) (sumC (r.take j) (q.take j)) (j : Int) = some (sumC r q) := by
  intro d
  induction d with
  | zero =>
   intro j hj
   rw [List.drop_eq_nil_of_le (by rw [hr.1]; omega), List.take_of_length_le (by rw [hr.1]; omega), List.take_of_length_le (by rw [hq.1]; omega)]
   rfl
  | succ d ih =>
   intro j hj
   have h1 : j < r.length := by rw [hr.1]; omega
   have h2 : j < q.length := by rw [hq.1]; omega
   have h3 : (sumC (r.take j) (q.take j)).length = j := by rw [sumC, List.length_zipWith, List.length_take, List.length_take]; omega
   rw [List.drop_eq_getElem_cons h1]
   simp only [spec_plSum.l0]
   rw [gt_nat h2]
   simp only [Option.bind_some]
   rw [least_add (hr.2 _ (List.getElem_mem _)) (hq.2 _ (List.getElem_mem _)), Option.bind_some, ap_ok (by rw [h3]; simp; omega), Option.bind_some]
   have := ih (j + 1) (by omega)
   rw [List.take_add_one, List.take_add_one, List.getElem?_eq_getElem h1, List.getElem?_eq_getElem h2] at this
   have hz : sumC (r.take j ++ [r[j]]) (q.take j ++ [q[j]]) = sumC (r.take j) (q.take j) ++ [addC r[j] q[j]] := by
    unfold sumC
    rw [List.zipWith_append (by rw [List.length_take, List.length_take]; omega)]
    rfl
   simp only [Option.toList_some] at this
   rw [hz] at this
   exact this
 have := key n 0 (by omega)
 unfold spec_plSum.f
 simp only [List.drop_zero, List.take_zero, sumC, List.zipWith_nil_left, Int.natCast_zero] at this
 rw [this]
 rfl
theorem gt_some {α : Type} {xs : List α} {i : Int} {v : α} (h0 : 0 ≤ i) (h : xs[i.toNat]? = some v) : gt xs i = some v := by
 unfold gt
 rw [if_pos h0, h]
theorem implSum_eq {n : Nat} {rs : List (List Int)} {y : SStep} {r q : List Int} (hr : RowOk n r) (hq : RowOk n q) (hn : n ≤ 1000) (hg : gt rs y.f1 = some q) : impl_Plan_exponents.l2 rs y r [] 0 = some (sumC r q) := by
 have key : ∀ (d : Nat) (j : Nat), j + d = n → impl_Plan_exponents.l2 rs y (r.drop j) (sumC (r.take j) (q.take j)) (j : Int) = some (sumC r q) := by
  intro d
  induction d with
  | zero =>
   intro j hj
   rw [List.drop_eq_nil_of_le (by rw [hr.1]; omega), List.take_of_length_le (by rw [hr.1]; omega), List.take_of_length_le (by rw [hq.1]; omega)]
   rfl
  | succ d ih =>
   intro j hj
   have h1 : j < r.length := by rw [hr.1]; omega
   have h2 : j < q.length := by rw [hq.1]; omega
   have h3 : (sumC (r.take j) (q.take j)).length = j := by rw [sumC, List.length_zipWith, List.length_take, List.length_take]; omega
   rw [List.drop_eq_getElem_cons h1]
   simp only [impl_Plan_exponents.l2]
   rw [hg, Option.bind_some, gt_nat h2, Option.bind_some]
   rw [mn_add (hr.2 _ (List.getElem_mem _)) (hq.2 _ (List.getElem_mem _)), ap_ok (by rw [h3]; simp; omega), Option.bind_some]
   have := ih (j + 1) (by omega)
   rw [List.take_add_one, List.take_add_one, List.getElem?_eq_getElem h1, List.getElem?_eq_getElem h2] at this
   have hz : sumC (r.take j ++ [r[j]]) (q.take j ++ [q[j]]) = sumC (r.take j) (q.take j) ++ [addC r[j] q[j]] := by
    unfold sumC
    rw [List.zipWith_append (by rw [List.length_take, List.length_take]; omega)]
    rfl
   simp only [Option.toList_some] at this
   rw [hz] at this
   exact this
 have := key n 0 (by omega)
 simpa only [List.drop_zero, List.take_zero, sumC, List.zipWith_nil_left, Int.natCast_zero] using this
def exGo (rs : List (List Int)) : List SStep → List (List Int)
 | [] => rs
 | y :: ys => exGo (rs ++ [sumC (rs.getD y.f0.toNat []) (rs.getD y.f1.toNat [])]) ys
theorem getD_ok {n : Nat} {rs : List (List Int)} (h : ∀ r ∈ rs, RowOk n r) {i : Int} (h0 : 0 ≤ i) (h1 : i < rs.length) : gt rs i = some (rs.getD i.toNat []) ∧ RowOk n (rs.getD i.toNat []) := by
 have hi : i.toNat < rs.length := by omega
 have he : rs.getD i.toNat [] = rs[i.toNat] := by simp [List.getD_eq_getElem?_getD, hi]
 rw [he]
 exact ⟨gt_some h0 (List.getElem?_eq_getElem hi), h _ (List.getElem_mem _)⟩
theorem ex_eq {n : Nat} (hn : n ≤ 1000) (i : Int) (hi : 0 ≤ i ∧ i ≤ 1000) (ys : List SStep) (rs : List (List Int)) (j : Int) (hj : 0 ≤ j) (hl : (rs.length : Int) = i + j) (hb : rs.length + ys.length ≤ 100000) (h : ∀ r ∈ rs, RowOk n r) (hf : fB i ys j = true) :
  spec_plExponents.l1 ys rs j = some (exGo rs ys) ∧ impl_Plan_exponents.l1 ys rs j = some (exGo rs ys) ∧ (∀ r ∈ exGo rs ys, RowOk n r) ∧ (exGo rs ys).length = rs.length + ys.length := by
 induction ys generalizing rs j with
 | nil => exact ⟨rfl, rfl, h, rfl⟩
 | cons y ys ih =>
  simp only [fB, Bool.and_eq_true, decide_eq_true_eq] at hf
  obtain ⟨⟨k0, k1, k2⟩, k3⟩ := hf
  simp only [List.length_cons] at hb
  rw [zam (by omega)] at k2
  obtain ⟨g0, o0⟩ := getD_ok h k0 (by omega)
  obtain ⟨g1, o1⟩ := getD_ok h (show 0 ≤ y.f1 by omega) (by omega)
  have hs := sumC_ok o0 o1
  have hrs : ∀ r ∈ rs ++ [sumC (rs.getD y.f0.toNat []) (rs.getD y.f1.toNat [])], RowOk n r := fun r hr => by
   rcases List.mem_append.1 hr with hr | hr
   ·exact h r hr
   ·rw [List.mem_singleton.1 hr]
    exact hs
  obtain ⟨a1, a2, a3, a4⟩ := ih (rs ++ [sumC (rs.getD y.f0.toNat []) (rs.getD y.f1.toNat [])]) (j + 1) (by omega) (by rw [List.length_append, List.length_singleton]; omega) (by rw [List.length_append, List.length_singleton]; omega) hrs k3
  refine ⟨?_, ?_, a3, by rw [exGo, a4, List.length_append, List.length_singleton, List.length_cons]; omega⟩
  ·simp only [spec_plExponents.l1]
   rw [g0, Option.bind_some, g1, Option.bind_some, plSum_eq o0 o1 hn, Option.bind_some, ap_ok (by simp; omega), Option.bind_some]
   exact a1
  ·simp only [impl_Plan_exponents.l1]
   rw [g0, Option.bind_some, implSum_eq o0 o1 hn g1, Option.bind_some, ap_ok (by simp; omega), Option.bind_some]
   exact a2
def unitR (n j : Nat) : List Int := (List.replicate n (0 : Int)).set j 1
def units (n m : Nat) : List (List Int) := (List.range m).map (unitR n)
theorem units_succ (n m : Nat) : units n (m + 1) = units n m ++ [unitR n m] := by simp [units, List.range_succ]
theorem unitR_ok (n j : Nat) : RowOk n (unitR n j) := by
 refine ⟨by simp [unitR], fun e he => ?_⟩
 rcases List.mem_or_eq_of_mem_set he with h | h
 ·rw [(List.mem_replicate.1 h).2]
  omega
 ·omega
theorem units_ok (n m : Nat) : ∀ r ∈ units n m, RowOk n r := fun r hr => by
 obtain ⟨j, _, rfl⟩ := List.mem_map.1 hr
 exact unitR_ok n j
theorem unit_step (n j : Nat) (hn : n ≤ 1000) (hj : j < n) : mk0 (n : Int) (0 : Int) = some (List.replicate n 0) ∧ gt (List.replicate n (0 : Int)) (j : Int) = some 0 ∧ st (List.replicate n (0 : Int)) (j : Int) 1 = some (unitR n j) ∧ ap (units n j) [unitR n j] = some (units n (j + 1)) := by
 refine ⟨?_, ?_, ?_, ?_⟩
 ·unfold mk0
  rw [if_pos (by omega), Int.toNat_natCast]
 ·rw [gt_nat (by simp; omega)]
  simp
 ·rw [st_nat (by simp; omega)]
  rfl
 ·rw [ap_ok (by simp [units]; omega), units_succ]
theorem spec_units (n : Nat) (hn : n ≤ 1000) : Ev (fun k => spec_plExponents.l0 (n : Int) k [] 0) (units n n) := by
 have key : ∀ (d j : Nat), j + d = n → Ev (fun k => spec_plExponents.l0 (n : Int) k (units n j) (j : Int)) (units n n) := by
  intro d
  induction d with
  | zero =>
   intro j hj
   obtain rfl : j = n := by omega
   refine shift ?_
   simp only [spec_plExponents.l0]
   exact neg (by omega) (ret _)
  | succ d ih =>
   intro j hj
   refine shift ?_
   simp only [spec_plExponents.l0]
   refine pos (by omega) ?_
   obtain ⟨h1, h2, h3, h4⟩ := unit_step n j hn (by omega)
   simp only [h1, h2, h3, h4, Option.bind_some]
   rw [w64_succ (by omega)]
   exact ih (j + 1) (by omega)
 exact key n 0 (by omega)
theorem impl_units (n : Nat) (hn : n ≤ 1000) : impl_Plan_exponents.l0 (n : Int) n [] 0 = some (units n n) := by
 have key : ∀ (d j : Nat), j + d = n → impl_Plan_exponents.l0 (n : Int) d (units n j) (j : Int) = some (units n n) := by
  intro d
  induction d with
  | zero =>
   intro j hj
   obtain rfl : j = n := by omega
   rfl
  | succ d ih =>
   intro j hj
   simp only [impl_Plan_exponents.l0]
   obtain ⟨h1, h2, h3, h4⟩ := unit_step n j hn (by omega)
   simp only [h1, h2, h3, h4, Option.bind_some]
   exact ih (j + 1) (by omega)
 exact key n 0 (by omega)
/-- All values' exponents. -/
def exps (n : Nat) (s : List SStep) : List (List Int) := exGo (units n n) s
theorem exps_ev (n : Nat) (hn : n ≤ 1000) (s : List SStep) (o : List Int) (hs : s.length ≤ 1000) (hf : fB n s 0 = true) :
  Ev (fun k => spec_plExponents.f k n s o) (exps n s) ∧ impl_Plan_exponents.f n s o = some (exps n s) ∧ (∀ r ∈ exps n s, RowOk n r) ∧ (exps n s).length = n + s.length := by
 have hl : (units n n).length = n := by simp [units]
 obtain ⟨a1, a2, a3, a4⟩ := ex_eq hn (n : Int) (by omega) s (units n n) 0 (by omega) (by omega) (by omega) (units_ok n n) hf
 refine ⟨?_, ?_, a3, by rw [exps, a4, hl]⟩
 ·unfold spec_plExponents.f
  exact bind (spec_units n hn) (bind (now a1) (ret _))
 ·unfold impl_Plan_exponents.f
  have hb : bd (n : Int) = some () := by
   unfold bd
   rw [if_pos (by omega)]
  rw [hb, Option.bind_some, Int.toNat_natCast, impl_units n hn, Option.bind_some, a2]
  rfl
def big (r : List Int) : Bool := r.any fun e => decide (1000000 < e)
theorem mx_big (a b : Int) : decide (1000000 < mx a b) = (decide (1000000 < a) || decide (1000000 < b)) := by
 unfold mx
 by_cases h1 : 1000000 < a <;> by_cases h2 : 1000000 < b <;> split <;> simp [h1, h2] <;> omega
theorem max_ev (r : List Int) (hl : r.length ≤ 1000) : ∀ (d j : Nat) (m : Int), j + d = r.length → ∃ v, Ev (fun k => slices_Max_int_int.l0 r k m (j : Int)) v ∧ decide (1000000 < v) = (decide (1000000 < m) || big (r.drop j)) := by
 intro d
 induction d with
 | zero =>
  intro j m hj
  refine ⟨m, shift ?_, ?_⟩
  ·simp only [slices_Max_int_int.l0]
   exact neg (by omega) (ret _)
  ·rw [List.drop_eq_nil_of_le (by omega)]
   simp [big]
 | succ d ih =>
  intro j m hj
  have h1 : j < r.length := by omega
  obtain ⟨v, e, he⟩ := ih (j + 1) (mx m r[j]) (by omega)
  refine ⟨v, shift ?_, ?_⟩
  ·simp only [slices_Max_int_int.l0]
   refine pos (by omega) ?_
   simp only [gt_nat h1, Option.bind_some]
   rw [w64_succ (by omega)]
   exact e
  ·have hd : big (r.drop j) = (decide (1000000 < r[j]) || big (r.drop (j + 1))) := by
    rw [List.drop_eq_getElem_cons h1]
    rfl
   rw [he, mx_big, hd, Bool.or_assoc]
theorem isPlan1_ev {n : Nat} (hn : 1 ≤ n ∧ n ≤ 1000) {r : List Int} (hr : RowOk n r) : Ev (fun k => impl_IsPlan_1.f k r) (big r) := by
 have h0 : 0 < r.length := by rw [hr.1]; omega
 obtain ⟨v, e, he⟩ := max_ev r (by rw [hr.1]; omega) (r.length - 1) 1 r[0] (by omega)
 have hb : decide (1000000 < v) = big r := by
  rw [he]
  cases r with
  | nil => simp at h0
  | cons a l => simp [big]
 unfold impl_IsPlan_1.f slices_Max_int_int.f
 rw [← hb]
 refine bind (neg (by omega) ?_) (ret _)
 have hg : gt r 0 = some r[0] := gt_nat h0
 simp only [hg, Option.bind_some]
 exact bind e (ret _)
theorem big_aB {n : Nat} {r : List Int} (hr : RowOk n r) : big r = !aB 0 1000000 r := by
 have h := hr.2
 clear hr
 induction r with
 | nil => rfl
 | cons a l ih =>
  have ha := h a (by simp)
  have := ih (fun e he => h e (by simp [he]))
  simp only [big, aB, List.any_cons, List.all_cons] at this ⊢
  rw [this, Bool.not_and]
  congr 1
  by_cases h1 : 1000000 < a
  ·rw [decide_eq_true h1, decide_eq_false (by omega)]
   rfl
  ·rw [decide_eq_false h1, decide_eq_true (by omega)]
   rfl
theorem rows_l0 {n : Nat} (hn : 1 ≤ n ∧ n ≤ 1000) (rs : List (List Int)) (h : ∀ r ∈ rs, RowOk n r) (j : Int) (hj : 0 ≤ j) : ∃ r, Ev (fun k => slices_IndexFunc_int_int_2.l0 k rs j) r ∧ (rs.all (aB 0 1000000) = true → r = .inr ()) ∧ (rs.all (aB 0 1000000) = false → ∃ m, r = .inl m ∧ 0 ≤ m) := by
 induction rs generalizing j with
 | nil => exact ⟨.inr (), ret _, fun _ => rfl, fun h => by simp at h⟩
 | cons y ys ih =>
  have hy := h y (by simp)
  have e := isPlan1_ev hn hy
  rw [big_aB hy] at e
  cases hb : aB 0 1000000 y with
  | true =>
   obtain ⟨r, h1, h2, h3⟩ := ih (fun r hr => h r (by simp [hr])) (j + 1) (by omega)
   rw [hb] at e
   refine ⟨r, ?_, fun ha => h2 (by simpa [hb] using ha), fun ha => h3 (by simpa [hb] using ha)⟩
   exact bind e (neg (by simp) h1)
  | false =>
   rw [hb] at e
   refine ⟨.inl j, bind e (pos rfl (ret _)), fun ha => by simp [hb] at ha, fun _ => ⟨j, rfl, hj⟩⟩
theorem rows_ev {n : Nat} (hn : 1 ≤ n ∧ n ≤ 1000) (rs : List (List Int)) (h : ∀ r ∈ rs, RowOk n r) : Ev (fun k => slices_ContainsFunc_int_int_2.f k rs) (!rs.all (aB 0 1000000)) := by
 obtain ⟨r, h1, h2, h3⟩ := rows_l0 hn rs h 0 (by omega)
 unfold slices_ContainsFunc_int_int_2.f slices_IndexFunc_int_int_2.f
 cases hb : rs.all (aB 0 1000000) with
 | true =>
  obtain rfl := h2 hb
  exact bind (bind h1 (ret (-1))) (ret _)
 | false =>
  obtain ⟨m, rfl, hm⟩ := h3 hb
  have : (!false) = decide (0 ≤ m) := by simp [hm]
  rw [this]
  exact bind (bind h1 (ret m)) (ret _)
theorem spec_rows (rs : List (List Int)) (j : Int) : spec_plGood.l1 rs j = some (bif rs.all (aB 0 1000000) then .inr () else .inl false) := by
 induction rs generalizing j with
 | nil => rfl
 | cons y ys ih =>
  simp only [spec_plGood.l1, l1All_eq, Option.bind_some, ih, List.all_cons]
  cases aB 0 1000000 y <;> rfl
/-- What a plan is. -/
def good (i : Int) (s : List SStep) (o : List Int) : Bool := decide (1 ≤ i ∧ i ≤ 6) && (decide (s.length ≤ 40) && (decide (o.length ≤ 6) && (fB i s 0 && ((exps i.toNat s).all (aB 0 1000000) && aB 0 (w64 (w64 (i + (s.length : Int)) - 1)) o))))
theorem isPlan_ev (i : Int) (s : List SStep) (o : List Int) : Ev (fun k => impl_IsPlan.f k i s o) (good i s o) := by
 unfold impl_IsPlan.f good
 simp only [formed_eq, Option.bind_some]
 cases h1 : decide (1 ≤ i ∧ i ≤ 6) with
 | false => exact neg (by simp) (ret _)
 | true =>
  cases h2 : decide (s.length ≤ 40) with
  | false => exact neg (by simp) (ret _)
  | true =>
   cases h3 : decide (o.length ≤ 6) with
   | false => exact neg (by simp) (ret _)
   | true =>
    cases h4 : fB i s 0 with
    | false => exact neg (by simp) (ret _)
    | true =>
     cases h5 : aB 0 (w64 (w64 (i + (s.length : Int)) - 1)) o with
     | false =>
      simp only [Bool.and_false]
      exact neg (by simp) (ret _)
     | true =>
      have h1' := of_decide_eq_true h1
      have h2' := of_decide_eq_true h2
      obtain ⟨n, rfl⟩ := Int.eq_ofNat_of_zero_le (show 0 ≤ i by omega)
      obtain ⟨_, e2, e3, _⟩ := exps_ev n (by omega) s o (by omega) h4
      refine pos rfl ?_
      simp only [e2, Option.bind_some]
      have := rows_ev (by omega) (exps n s) e3
      simp only [Bool.true_and, Bool.and_true, Int.toNat_natCast]
      have hh := bind (f := fun _ (b12 : Bool) => some (!b12)) this (ret _)
      rw [Bool.not_not] at hh
      exact hh
theorem plGood_ev (i : Int) (s : List SStep) (o : List Int) : Ev (fun k => spec_plGood.f k i s o) (good i s o) := by
 unfold spec_plGood.f good
 simp only [l1In_eq, Option.bind_some, spec_formed, l1All_eq]
 cases h1 : decide (1 ≤ i ∧ i ≤ 6) with
 | false => exact neg (by simp) (ret _)
 | true =>
  refine pos rfl ?_
  by_cases h2 : 40 < (s.length : Int)
  ·rw [decide_eq_false (show ¬ s.length ≤ 40 by omega)]
   exact pos h2 (ret _)
  ·rw [decide_eq_true (show s.length ≤ 40 by omega)]
   refine neg h2 ?_
   by_cases h3 : 6 < (o.length : Int)
   ·rw [decide_eq_false (show ¬ o.length ≤ 6 by omega)]
    exact pos h3 (ret _)
   ·rw [decide_eq_true (show o.length ≤ 6 by omega)]
    refine neg h3 ?_
    cases h4 : fB i s 0 with
    | false => exact ret _
    | true =>
     have h1' := of_decide_eq_true h1
     obtain ⟨n, rfl⟩ := Int.eq_ofNat_of_zero_le (show 0 ≤ i by omega)
     obtain ⟨e1, _, e3, _⟩ := exps_ev n (by omega) s o (by omega) h4
     simp only [cond_true, Option.bind_some, Bool.true_and, Int.toNat_natCast]
     refine bind e1 ?_
     simp only [spec_rows, Option.bind_some]
     cases (exps n s).all (aB 0 1000000) with
     | false => exact ret _
     | true => exact ret _
/-! lists searched -/
theorem l1Has_l0 (x : Int) (l : List Int) (j : Int) : spec_l1Has.l0 x l j = some (bif decide (x ∈ l) then .inl true else .inr ()) := by
 induction l generalizing j with
 | nil => rfl
 | cons y ys ih =>
  simp only [spec_l1Has.l0]
  by_cases h : y = x
  ·rw [if_pos h, decide_eq_true (by rw [h]; exact List.mem_cons_self)]
   rfl
  ·have : (x ∈ y :: ys) ↔ x ∈ ys := by
    rw [List.mem_cons]
    exact ⟨fun q => q.resolve_left (fun e => h e.symm), .inr⟩
   rw [if_neg h, ih]
   simp only [this]
theorem l1Has_eq (l : List Int) (x : Int) : spec_l1Has.f l x = some (decide (x ∈ l)) := by
 unfold spec_l1Has.f
 rw [l1Has_l0]
 cases decide (x ∈ l) <;> rfl
theorem l1Own_eq (l : List Int) (h : l.length ≤ 1000000000) : spec_l1Own.f l = some l := by
 unfold spec_l1Own.f
 rw [ap_ok (by simpa using h)]
 rfl
theorem ct_take {α : Type} (l : List α) (j : Nat) (h : j ≤ l.length) : ct l (0 : Int) (j : Int) = some (l.take j) := by
 unfold ct
 rw [if_pos (by omega)]
 simp
theorem ct_drop {α : Type} (l : List α) (j : Nat) (h : j ≤ l.length) : ct l (j : Int) (l.length : Int) = some (l.drop j) := by
 unfold ct
 rw [if_pos (by omega)]
 simp
/-- A number put into a rising list, as the code does it. -/
def put : List Int → Int → List Int
 | [], a => [a]
 | y :: ys, a => if y < a then y :: put ys a else if y = a then y :: ys else a :: y :: ys
def pre : List Int → Int → Nat
 | [], _ => 0
 | y :: ys, a => if y < a then pre ys a + 1 else 0
theorem pre_le (l : List Int) (a : Int) : pre l a ≤ l.length := by
 induction l with
 | nil => exact Nat.le_refl _
 | cons y ys ih =>
  simp only [pre, List.length_cons]
  split <;> omega
theorem put_eq (l : List Int) (a : Int) : put l a = if l[pre l a]? = some a then l else l.take (pre l a) ++ [a] ++ l.drop (pre l a) := by
 induction l with
 | nil => simp [put, pre]
 | cons y ys ih =>
  by_cases h : y < a
  ·simp only [put, pre, if_pos h, List.getElem?_cons_succ]
   rw [ih]
   by_cases h2 : ys[pre ys a]? = some a
   ·rw [if_pos h2, if_pos h2]
   ·rw [if_neg h2, if_neg h2]
    simp
  ·simp only [put, pre, if_neg h]
   by_cases h2 : y = a
   ·simp [h2]
   ·simp [h2]
theorem put_l0 (l : List Int) (a : Int) (hl : l.length ≤ 1000000) : ∀ (d j : Nat), j + d = l.length → Ev (fun k => spec_l1Put.l0 l a k (j : Int)) ((j + pre (l.drop j) a : Nat) : Int) := by
 intro d
 induction d with
 | zero =>
  intro j hj
  refine shift ?_
  simp only [spec_l1Put.l0]
  rw [List.drop_eq_nil_of_le (by omega)]
  exact neg (by omega) (ret _)
 | succ d ih =>
  intro j hj
  refine shift ?_
  simp only [spec_l1Put.l0]
  refine pos (by omega) ?_
  rw [gt_nat (show j < l.length by omega), List.drop_eq_getElem_cons (show j < l.length by omega)]
  simp only [Option.bind_some, pre]
  by_cases h : l[j] < a
  ·rw [w64_succ (by omega)]
   refine pos h ?_
   rw [if_pos h, show j + (pre (l.drop (j + 1)) a + 1) = j + 1 + pre (l.drop (j + 1)) a by omega]
   exact ih (j + 1) (by omega)
  ·refine neg h ?_
   rw [if_neg h]
   exact ret _
theorem put_ev (l : List Int) (a : Int) (hl : l.length ≤ 1000000) : Ev (fun k => spec_l1Put.f k l a) (put l a) := by
 unfold spec_l1Put.f
 have hp := pre_le l a
 have h0 := put_l0 l a hl l.length 0 (by omega)
 rw [List.drop_zero, Nat.zero_add] at h0
 refine bind h0 ?_
 rw [put_eq]
 by_cases h1 : pre l a < l.length
 ·have hg : gt l ((pre l a : Nat) : Int) = some l[pre l a] := gt_nat h1
  by_cases h2 : l[pre l a] = a
  ·refine now ?_
   rw [if_pos (by omega), hg, List.getElem?_eq_getElem h1, h2]
   simp
  ·refine now ?_
   rw [if_pos (by omega), hg, List.getElem?_eq_getElem h1, if_neg (by simpa using h2)]
   simp only [Option.bind_some, if_neg h2]
   rw [ct_take _ _ hp, Option.bind_some, ap_ok (by simp; omega), Option.bind_some, ap_ok (by simp; omega), Option.bind_some, ct_drop _ _ hp, Option.bind_some, ap_ok (by simp; omega), Option.bind_some]
   simp
 ·refine now ?_
  rw [if_neg (by omega), List.getElem?_eq_none (by omega), if_neg (by simp)]
  simp only [Option.bind_some]
  rw [ct_take _ _ hp, Option.bind_some, ap_ok (by simp; omega), Option.bind_some, ap_ok (by simp; omega), Option.bind_some, ct_drop _ _ hp, Option.bind_some, ap_ok (by simp; omega), Option.bind_some]
  simp
/-! rows of bools as functions -/
def tb (M : Nat) (f : Int → Bool) : List Bool := (List.range M).map fun (j : Nat) => f (j : Int)
theorem tb_len (M : Nat) (f : Int → Bool) : (tb M f).length = M := by simp [tb]
theorem tb_ext {M : Nat} {f g : Int → Bool} (h : ∀ u : Int, 0 ≤ u → u < M → f u = g u) : tb M f = tb M g := by
 unfold tb
 refine List.map_congr_left fun j hj => h _ (by omega) ?_
 have := List.mem_range.1 hj
 omega
theorem tb_gt {M : Nat} {f : Int → Bool} {v : Int} (h0 : 0 ≤ v) (h1 : v < M) : gt (tb M f) v = some (f v) := by
 obtain ⟨j, rfl⟩ := Int.eq_ofNat_of_zero_le h0
 rw [gt_nat (by rw [tb_len]; omega)]
 simp [tb]
theorem tb_st {M : Nat} {f : Int → Bool} {v : Int} {b : Bool} (h0 : 0 ≤ v) (h1 : v < M) : st (tb M f) v b = some (tb M (fun u => if u = v then b else f u)) := by
 obtain ⟨j, rfl⟩ := Int.eq_ofNat_of_zero_le h0
 rw [st_nat (by rw [tb_len]; omega)]
 congr 1
 apply List.ext_getElem
 ·simp [tb]
 ·intro n k1 k2
  rw [List.getElem_set]
  simp only [tb, List.getElem_map, List.getElem_range]
  by_cases h : j = n
  ·subst h
   simp
  ·rw [if_neg h, if_neg (by omega)]
theorem tb_mk {M : Nat} {n : Int} (h : n = (M : Int)) (hM : M ≤ 1000000) : mk0 n false = some (tb M fun _ => false) := by
 subst h
 unfold mk0
 rw [if_pos (by omega), Int.toNat_natCast]
 congr 1
 apply List.ext_getElem
 ·simp [tb]
 ·intro n k1 k2
  simp [tb]
/-- Is a value a factor of a step that has not been done? -/
def use (ds : List Int) : List SStep → Int → Int → Bool
 | [], _, _ => false
 | y :: ys, j, v => (!decide (j ∈ ds) && (decide (y.f0 = v) || decide (y.f1 = v))) || use ds ys (j + 1) v
/-- Is a value needed when the steps ds have been done? -/
def nd (i : Int) (s : List SStep) (o : List Int) (ds : List Int) (v : Int) : Bool := (decide (v < i) || decide (v - i ∈ ds)) && (decide (v ∈ o) || use ds s 0 v)
/-- The values below M that have a property, in order. -/
def vals (M : Nat) (p : Int → Bool) : List Int := ((List.range M).map fun (j : Nat) => (j : Int)).filter p
theorem vals_succ (M : Nat) (p : Int → Bool) : vals (M + 1) p = vals M p ++ (if p (M : Int) = true then [(M : Int)] else []) := by
 unfold vals
 rw [List.range_succ, List.map_append, List.filter_append]
 congr 1
 by_cases h : p (M : Int) = true <;> simp [h]
theorem vals_len (M : Nat) (p : Int → Bool) : (vals M p).length ≤ M := by
 refine Nat.le_trans (List.length_filter_le _ _) ?_
 simp
theorem vals_mem {M : Nat} {p : Int → Bool} {v : Int} : v ∈ vals M p ↔ (0 ≤ v ∧ v < M) ∧ p v = true := by
 unfold vals
 rw [List.mem_filter, List.mem_map]
 constructor
 ·rintro ⟨⟨j, hj, rfl⟩, h⟩
  have := List.mem_range.1 hj
  exact ⟨by omega, h⟩
 ·rintro ⟨⟨h0, h1⟩, h⟩
  exact ⟨⟨v.toNat, List.mem_range.2 (by omega), by omega⟩, h⟩
theorem vals_sorted (M : Nat) (p : Int → Bool) : (vals M p).Pairwise (· < ·) := by
 refine List.Pairwise.filter _ ?_
 rw [List.pairwise_map]
 exact List.Pairwise.imp (fun h => by omega) List.pairwise_lt_range
/-! what is needed, told by the program -/
/-- A plan's form, as it is used here. -/
structure Form (I : Nat) (s : List SStep) (o : List Int) : Prop where
 inp : 1 ≤ I ∧ I ≤ 6
 stp : s.length ≤ 40
 out : o.length ≤ 6
 fs : fB (I : Int) s 0 = true
 os : ∀ y ∈ o, 0 ≤ y ∧ y < (I : Int) + (s.length : Int)
theorem fB_at {i : Int} (hi : 0 ≤ i ∧ i ≤ 1000) (ys : List SStep) (j : Nat) (h : fB i ys (j : Int) = true) (hl : j + ys.length ≤ 100000) (m : Nat) (y : SStep) (hm : ys[m]? = some y) : 0 ≤ y.f0 ∧ y.f0 ≤ y.f1 ∧ y.f1 < i + (j : Int) + (m : Int) := by
 induction ys generalizing j m with
 | nil => simp at hm
 | cons z ys ih =>
  simp only [List.length_cons] at hl
  simp only [fB, Bool.and_eq_true, decide_eq_true_eq] at h
  obtain ⟨⟨k0, k1, k2⟩, k3⟩ := h
  rw [zam (by omega)] at k2
  cases m with
  | zero =>
   obtain rfl : z = y := by simpa using hm
   omega
  | succ m =>
   have e : (j : Int) + 1 = ((j + 1 : Nat) : Int) := by omega
   rw [e] at k3
   have := ih (j + 1) k3 (by omega) m (by simpa using hm)
   omega
theorem Form.step {I : Nat} {s : List SStep} {o : List Int} (h : Form I s o) {m : Nat} {y : SStep} (hm : s[m]? = some y) : 0 ≤ y.f0 ∧ y.f0 ≤ y.f1 ∧ y.f1 < (I : Int) + (m : Int) := by
 have := fB_at (i := (I : Int)) (by have := h.inp; omega) s 0 h.fs (by have := h.stp; omega) m y hm
 omega
theorem good_form {i : Int} {s : List SStep} {o : List Int} (h : good i s o = true) : ∃ I : Nat, i = (I : Int) ∧ Form I s o := by
 unfold good at h
 simp only [Bool.and_eq_true, decide_eq_true_eq] at h
 obtain ⟨h1, h2, h3, h4, h5, h6⟩ := h
 refine ⟨i.toNat, by omega, by omega, h2, h3, ?_, ?_⟩
 ·rw [show ((i.toNat : Nat) : Int) = i by omega]
  exact h4
 ·intro y hy
  have := List.all_eq_true.1 h6 y hy
  rw [zam (x := i + (s.length : Int)) (by omega), zam (by omega)] at this
  simp only [decide_eq_true_eq] at this
  omega
/-- How many values are held when the last of ds has just been done. -/
def hC (I : Nat) (s : List SStep) (o ds : List Int) (y : Int) : Int := ((put (vals (I + s.length) (nd (I : Int) s o ds)) ((I : Int) + y)).length : Int)
/-- The pressure: pre are done, the rest follow. -/
def prGo (I : Nat) (s : List SStep) (o : List Int) (pre : List Int) : List Int → Int → Int
 | [], m => m
 | y :: ys, m => prGo I s o (pre ++ [y]) ys (mx m (hC I s o (pre ++ [y]) y))
def press (I : Nat) (s : List SStep) (o ds : List Int) : Int := prGo I s o [] ds (I : Int)
end Go.Proofs.Ytiaohjciddbpoaa.Pure
