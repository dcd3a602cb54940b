/- Pure: what a plan is, on both sides. -/
import Derived.Test.YtiaohjciddbpoaaKFnExactSlidingPlanPbase
set_option linter.unusedVariables false
set_option linter.unusedSimpArgs false
namespace Go.Proofs.Ytiaohjciddbpoaa.Pure
open Go.RowKit Go.Proofs.Ytiaohjciddbpoaa.E Go.Proofs.Ytiaohjciddbpoaa.H2 Go.Proofs.Ytiaohjciddbpoaa.Frame Go.Proofs.YtiaohjciddbpoaaW.PrintLast Go.Proofs.YtiaohjciddbpoaaW.PrintMore
open Go.Proofs.YtiaohjciddbpoaaW.PrintWords hiding mn mx
theorem l1In_eq (a b c : Int) : spec_l1In.f a b c = some (decide (b ≤ a ∧ a ≤ c)) := by
  unfold spec_l1In.f
  by_cases h : b ≤ a <;> simp [h]
theorem in_eq (a b c : Int) : impl_in.f a b c = some (decide (b ≤ a ∧ a ≤ c)) := by
  unfold impl_in.f
  by_cases h : b ≤ a <;> simp [h]
def fB (i : Int) : List SStep → Int → Bool
  | [], _ => true
  | y :: ys, j => decide (0 ≤ y.f0 ∧ y.f0 ≤ y.f1 ∧ y.f1 < w64 (i + j)) && fB i ys (j + 1)
theorem spec_formed (i : Int) (ys : List SStep) (j : Int) : spec_plGood.l0 i ys j = some (bif fB i ys j then .inr () else .inl false) := by
  induction ys generalizing j with
  | nil => rfl
  | cons y ys ih =>
    simp only [spec_plGood.l0, l1In_eq, Option.bind_some, fB]
    by_cases h1 : 0 ≤ y.f0 ∧ y.f0 ≤ y.f1
    · by_cases h2 : w64 (i + j) ≤ y.f1
      · have : ¬ y.f1 < w64 (i + j) := by omega
        simp [h1, h2, this]
      · have : y.f1 < w64 (i + j) := by omega
        simp [h1, h2, this, ih]
    · have h3 : ¬ (0 ≤ y.f0 ∧ y.f0 ≤ y.f1 ∧ y.f1 < w64 (i + j)) := fun h => h1 ⟨h.1, h.2.1⟩
      rw [decide_eq_false h1, decide_eq_false h3]
      simp
theorem impl_formed (i : Int) (ys : List SStep) (j : Int) : impl_Plan_formed.l0 i ys j = some (bif fB i ys j then .inr () else .inl false) := by
  induction ys generalizing j with
  | nil => rfl
  | cons y ys ih =>
    simp only [impl_Plan_formed.l0, fB]
    by_cases h0 : y.f0 < 0
    · have h3 : ¬ (0 ≤ y.f0 ∧ y.f0 ≤ y.f1 ∧ y.f1 < w64 (i + j)) := by omega
      rw [if_pos h0, decide_eq_false h3]
      simp
    · rw [if_neg h0]
      by_cases h1 : y.f1 < y.f0
      · have h3 : ¬ (0 ≤ y.f0 ∧ y.f0 ≤ y.f1 ∧ y.f1 < w64 (i + j)) := by omega
        rw [if_pos h1, decide_eq_false h3]
        simp
      · rw [if_neg h1]
        by_cases h2 : w64 (i + j) ≤ y.f1
        · have h3 : ¬ (0 ≤ y.f0 ∧ y.f0 ≤ y.f1 ∧ y.f1 < w64 (i + j)) := by omega
          rw [if_pos h2, decide_eq_false h3]
          simp
        · have h3 : (0 ≤ y.f0 ∧ y.f0 ≤ y.f1 ∧ y.f1 < w64 (i + j)) := by omega
          rw [if_neg h2, decide_eq_true h3, ih]
          simp
/-- All in a range. -/
def aB (lo hi : Int) (l : List Int) : Bool := l.all fun y => decide (lo ≤ y ∧ y ≤ hi)
theorem l1All_l0 (lo hi : Int) (l : List Int) (j : Int) : spec_l1All.l0 lo hi l j = some (bif aB lo hi l then .inr () else .inl false) := by
  induction l generalizing j with
  | nil => rfl
  | cons y ys ih =>
    simp only [spec_l1All.l0, l1In_eq, Option.bind_some, ih]
    by_cases h : lo ≤ y ∧ y ≤ hi
    · simp [aB, h]
    · have hd : decide (lo ≤ y ∧ y ≤ hi) = false := decide_eq_false h
      simp only [aB, List.all_cons, hd, Bool.false_and]
      rfl
theorem l1All_eq (l : List Int) (lo hi : Int) : spec_l1All.f l lo hi = some (aB lo hi l) := by
  unfold spec_l1All.f
  rw [l1All_l0]
  cases aB lo hi l <;> rfl
theorem outs_l0 (i : Int) (s : List SStep) (o l : List Int) (j : Int) (hj : 0 ≤ j) : ∃ r, slices_IndexFunc_int_int.l0 i s o l j = some r ∧ (aB 0 (w64 (w64 (i + (s.length : Int)) - 1)) l = true → r = .inr ()) ∧ (aB 0 (w64 (w64 (i + (s.length : Int)) - 1)) l = false → ∃ m, r = .inl m ∧ 0 ≤ m) := by
  induction l generalizing j with
  | nil => exact ⟨_, rfl, fun _ => rfl, fun h => by simp [aB] at h⟩
  | cons y ys ih =>
    simp only [slices_IndexFunc_int_int.l0, impl_Plan_formed_1.f, impl_Plan_many.f, in_eq, Option.bind_some]
    by_cases h : 0 ≤ y ∧ y ≤ w64 (w64 (i + (s.length : Int)) - 1)
    · obtain ⟨r, h1, h2, h3⟩ := ih (j + 1) (by omega)
      refine ⟨r, by simpa [h] using h1, fun ha => h2 ?_, fun ha => h3 ?_⟩
      · simpa [aB, h] using ha
      · simpa [aB, h] using ha
    · refine ⟨.inl j, by simp [decide_eq_false h], fun ha => ?_, fun _ => ⟨j, rfl, hj⟩⟩
      have : decide (0 ≤ y ∧ y ≤ w64 (w64 (i + (s.length : Int)) - 1)) = false := decide_eq_false h
      simp only [aB, List.all_cons, this, Bool.false_and] at ha
      cases ha
theorem outs_eq (i : Int) (s : List SStep) (o : List Int) : slices_ContainsFunc_int_int.f o i s o = some (!aB 0 (w64 (w64 (i + (s.length : Int)) - 1)) o) := by
  obtain ⟨r, h1, h2, h3⟩ := outs_l0 i s o o 0 (by omega)
  unfold slices_ContainsFunc_int_int.f slices_IndexFunc_int_int.f
  rw [h1]
  cases hb : aB 0 (w64 (w64 (i + (s.length : Int)) - 1)) o with
  | true =>
    obtain rfl := h2 hb
    rfl
  | false =>
    obtain ⟨m, rfl, hm⟩ := h3 hb
    simp [hm]
theorem formed_eq (i : Int) (s : List SStep) (o : List Int) : impl_Plan_formed.f i s o = some (decide (1 ≤ i ∧ i ≤ 6) && (decide (s.length ≤ 40) && (decide (o.length ≤ 6) && (fB i s 0 && aB 0 (w64 (w64 (i + (s.length : Int)) - 1)) o)))) := by
  unfold impl_Plan_formed.f
  rw [in_eq, Option.bind_some]
  by_cases h1 : 1 ≤ i ∧ i ≤ 6
  · rw [decide_eq_true h1, if_pos rfl, Bool.true_and]
    by_cases h2 : 40 < (s.length : Int)
    · rw [if_pos h2, decide_eq_false (by omega), Bool.false_and]
    · rw [if_neg h2, decide_eq_true (show s.length ≤ 40 by omega), Bool.true_and]
      by_cases h3 : 6 < (o.length : Int)
      · rw [if_pos h3, decide_eq_false (by omega), Bool.false_and]
      · rw [if_neg h3, decide_eq_true (show o.length ≤ 6 by omega), Bool.true_and, impl_formed]
        cases fB i s 0 with
        | false => rfl
        | true =>
          simp only [cond_true, Option.bind_some, outs_eq, Bool.not_not, Bool.true_and]
  · rw [decide_eq_false h1, Bool.false_and]
    rfl
/-! exponents -/
def addC (a b : Int) : Int := if a + b ≤ 1000001 then a + b else 1000001
/-- A row of exponents: as many as inputs, none less than 0 or greater than 1000001. -/
def RowOk (n : Nat) (r : List Int) : Prop := r.length = n ∧ ∀ e ∈ r, 0 ≤ e ∧ e ≤ 1000001
def sumC (r q : List Int) : List Int := List.zipWith addC r q
theorem sumC_ok {n : Nat} {r q : List Int} (hr : RowOk n r) (hq : RowOk n q) : RowOk n (sumC r q) := by
  refine ⟨by rw [sumC, List.length_zipWith, hr.1, hq.1, Nat.min_self], fun e he => ?_⟩
  obtain ⟨i, hi, rfl⟩ := List.getElem_of_mem he
  have h1 : i < r.length ∧ i < q.length := by rw [sumC, List.length_zipWith] at hi; omega
  have h2 : (sumC r q)[i] = addC r[i] q[i] := by simp [sumC]
  have h3 := hr.2 r[i] (List.getElem_mem _)
  have h4 := hq.2 q[i] (List.getElem_mem _)
  rw [h2, addC]
  split <;> omega
theorem least_add {a b : Int} (ha : 0 ≤ a ∧ a ≤ 1000001) (hb : 0 ≤ b ∧ b ≤ 1000001) : spec_l1Least.f (w64 (a + b)) 1000001 = some (addC a b) := by
  unfold spec_l1Least.f addC
  rw [zat (by omega)]
  by_cases h : a + b < 1000001
  · rw [if_pos h, if_pos (by omega)]
  · rw [if_neg h]
    by_cases h2 : a + b ≤ 1000001
    · rw [if_pos h2]
      congr 1
      omega
    · rw [if_neg h2]
theorem mn_add {a b : Int} (ha : 0 ≤ a ∧ a ≤ 1000001) (hb : 0 ≤ b ∧ b ≤ 1000001) : mn (w64 (a + b)) 1000001 = addC a b := by
  unfold mn addC
  rw [zat (by omega)]
  split <;> split <;> omega
theorem plSum_eq {n : Nat} {r q : List Int} (hr : RowOk n r) (hq : RowOk n q) (hn : n ≤ 1000) : spec_plSum.f r q = some (sumC r q) := by
  have key : ∀ (d : Nat) (j : Nat), j + d = n → spec_plSum.l0 q (r.drop j) (sumC (r.take j) (q.take j)) (j : Int) = some (sumC r q) := by
    intro d
    induction d with
    | zero =>
      intro j hj
      rw [List.drop_eq_nil_of_le (by rw [hr.1]; omega), List.take_of_length_le (by rw [hr.1]; omega), List.take_of_length_le (by rw [hq.1]; omega)]
      rfl
    | succ d ih =>
      intro j hj
      have h1 : j < r.length := by rw [hr.1]; omega
      have h2 : j < q.length := by rw [hq.1]; omega
      have h3 : (sumC (r.take j) (q.take j)).length = j := by rw [sumC, List.length_zipWith, List.length_take, List.length_take]; omega
      rw [List.drop_eq_getElem_cons h1]
      simp only [spec_plSum.l0]
      rw [gt_nat h2]
      simp only [Option.bind_some]
      rw [least_add (hr.2 _ (List.getElem_mem _)) (hq.2 _ (List.getElem_mem _)), Option.bind_some, ap_ok (by rw [h3]; simp; omega), Option.bind_some]
      have := ih (j + 1) (by omega)
      rw [List.take_add_one, List.take_add_one, List.getElem?_eq_getElem h1, List.getElem?_eq_getElem h2] at this
      have hz : sumC (r.take j ++ [r[j]]) (q.take j ++ [q[j]]) = sumC (r.take j) (q.take j) ++ [addC r[j] q[j]] := by
        unfold sumC
        rw [List.zipWith_append (by rw [List.length_take, List.length_take]; omega)]
        rfl
      simp only [Option.toList_some] at this
      rw [hz] at this
      exact this
  have := key n 0 (by omega)
  unfold spec_plSum.f
  simp only [List.drop_zero, List.take_zero, sumC, List.zipWith_nil_left, Int.natCast_zero] at this
  rw [this]
  rfl
theorem gt_some {α : Type} {xs : List α} {i : Int} {v : α} (h0 : 0 ≤ i) (h : xs[i.toNat]? = some v) : gt xs i = some v := by
  unfold gt
  rw [if_pos h0, h]
theorem implSum_eq {n : Nat} {rs : List (List Int)} {y : SStep} {r q : List Int} (hr : RowOk n r) (hq : RowOk n q) (hn : n ≤ 1000) (hg : gt rs y.f1 = some q) : impl_Plan_exponents.l2 rs y r [] 0 = some (sumC r q) := by
  have key : ∀ (d : Nat) (j : Nat), j + d = n → impl_Plan_exponents.l2 rs y (r.drop j) (sumC (r.take j) (q.take j)) (j : Int) = some (sumC r q) := by
    intro d
    induction d with
    | zero =>
      intro j hj
      rw [List.drop_eq_nil_of_le (by rw [hr.1]; omega), List.take_of_length_le (by rw [hr.1]; omega), List.take_of_length_le (by rw [hq.1]; omega)]
      rfl
    | succ d ih =>
      intro j hj
      have h1 : j < r.length := by rw [hr.1]; omega
      have h2 : j < q.length := by rw [hq.1]; omega
      have h3 : (sumC (r.take j) (q.take j)).length = j := by rw [sumC, List.length_zipWith, List.length_take, List.length_take]; omega
      rw [List.drop_eq_getElem_cons h1]
      simp only [impl_Plan_exponents.l2]
      rw [hg, Option.bind_some, gt_nat h2, Option.bind_some]
      rw [mn_add (hr.2 _ (List.getElem_mem _)) (hq.2 _ (List.getElem_mem _)), ap_ok (by rw [h3]; simp; omega), Option.bind_some]
      have := ih (j + 1) (by omega)
      rw [List.take_add_one, List.take_add_one, List.getElem?_eq_getElem h1, List.getElem?_eq_getElem h2] at this
      have hz : sumC (r.take j ++ [r[j]]) (q.take j ++ [q[j]]) = sumC (r.take j) (q.take j) ++ [addC r[j] q[j]] := by
        unfold sumC
        rw [List.zipWith_append (by rw [List.length_take, List.length_take]; omega)]
        rfl
      simp only [Option.toList_some] at this
      rw [hz] at this
      exact this
  have := key n 0 (by omega)
  simpa only [List.drop_zero, List.take_zero, sumC, List.zipWith_nil_left, Int.natCast_zero] using this
def exGo (rs : List (List Int)) : List SStep → List (List Int)
  | [] => rs
  | y :: ys => exGo (rs ++ [sumC (rs.getD y.f0.toNat []) (rs.getD y.f1.toNat [])]) ys
theorem getD_ok {n : Nat} {rs : List (List Int)} (h : ∀ r ∈ rs, RowOk n r) {i : Int} (h0 : 0 ≤ i) (h1 : i < rs.length) : gt rs i = some (rs.getD i.toNat []) ∧ RowOk n (rs.getD i.toNat []) := by
  have hi : i.toNat < rs.length := by omega
  have he : rs.getD i.toNat [] = rs[i.toNat] := by simp [List.getD_eq_getElem?_getD, hi]
  rw [he]
  exact ⟨gt_some h0 (List.getElem?_eq_getElem hi), h _ (List.getElem_mem _)⟩
theorem ex_eq {n : Nat} (hn : n ≤ 1000) (i : Int) (hi : 0 ≤ i ∧ i ≤ 1000) (ys : List SStep) (rs : List (List Int)) (j : Int) (hj : 0 ≤ j) (hl : (rs.length : Int) = i + j) (hb : rs.length + ys.length ≤ 100000) (h : ∀ r ∈ rs, RowOk n r) (hf : fB i ys j = true) :
    spec_plExponents.l1 ys rs j = some (exGo rs ys) ∧ impl_Plan_exponents.l1 ys rs j = some (exGo rs ys) ∧ (∀ r ∈ exGo rs ys, RowOk n r) ∧ (exGo rs ys).length = rs.length + ys.length := by
  induction ys generalizing rs j with
  | nil => exact ⟨rfl, rfl, h, rfl⟩
  | cons y ys ih =>
    simp only [fB, Bool.and_eq_true, decide_eq_true_eq] at hf
    obtain ⟨⟨k0, k1, k2⟩, k3⟩ := hf
    simp only [List.length_cons] at hb
    rw [zat (by omega)] at k2
    obtain ⟨g0, o0⟩ := getD_ok h k0 (by omega)
    obtain ⟨g1, o1⟩ := getD_ok h (show 0 ≤ y.f1 by omega) (by omega)
    have hs := sumC_ok o0 o1
    have hrs : ∀ r ∈ rs ++ [sumC (rs.getD y.f0.toNat []) (rs.getD y.f1.toNat [])], RowOk n r := fun r hr => by
      rcases List.mem_append.1 hr with hr | hr
      · exact h r hr
      · rw [List.mem_singleton.1 hr]
        exact hs
    obtain ⟨a1, a2, a3, a4⟩ := ih (rs ++ [sumC (rs.getD y.f0.toNat []) (rs.getD y.f1.toNat [])]) (j + 1) (by omega) (by rw [List.length_append, List.length_singleton]; omega) (by rw [List.length_append, List.length_singleton]; omega) hrs k3
    refine ⟨?_, ?_, a3, by rw [exGo, a4, List.length_append, List.length_singleton, List.length_cons]; omega⟩
    · simp only [spec_plExponents.l1]
      rw [g0, Option.bind_some, g1, Option.bind_some, plSum_eq o0 o1 hn, Option.bind_some, ap_ok (by simp; omega), Option.bind_some]
      exact a1
    · simp only [impl_Plan_exponents.l1]
      rw [g0, Option.bind_some, implSum_eq o0 o1 hn g1, Option.bind_some, ap_ok (by simp; omega), Option.bind_some]
      exact a2
def unitR (n j : Nat) : List Int := (List.replicate n (0 : Int)).set j 1
def units (n m : Nat) : List (List Int) := (List.range m).map (unitR n)
theorem units_succ (n m : Nat) : units n (m + 1) = units n m ++ [unitR n m] := by simp [units, List.range_succ]
theorem unitR_ok (n j : Nat) : RowOk n (unitR n j) := by
  refine ⟨by simp [unitR], fun e he => ?_⟩
  rcases List.mem_or_eq_of_mem_set he with h | h
  · rw [(List.mem_replicate.1 h).2]
    omega
  · omega
theorem units_ok (n m : Nat) : ∀ r ∈ units n m, RowOk n r := fun r hr => by
  obtain ⟨j, _, rfl⟩ := List.mem_map.1 hr
  exact unitR_ok n j
theorem unit_step (n j : Nat) (hn : n ≤ 1000) (hj : j < n) : mk0 (n : Int) (0 : Int) = some (List.replicate n 0) ∧ gt (List.replicate n (0 : Int)) (j : Int) = some 0 ∧ st (List.replicate n (0 : Int)) (j : Int) 1 = some (unitR n j) ∧ ap (units n j) [unitR n j] = some (units n (j + 1)) := by
  refine ⟨?_, ?_, ?_, ?_⟩
  · unfold mk0
    rw [if_pos (by omega), Int.toNat_natCast]
  · rw [gt_nat (by simp; omega)]
    simp
  · rw [st_nat (by simp; omega)]
    rfl
  · rw [ap_ok (by simp [units]; omega), units_succ]
theorem spec_units (n : Nat) (hn : n ≤ 1000) : Ev (fun k => spec_plExponents.l0 (n : Int) k [] 0) (units n n) := by
  have key : ∀ (d j : Nat), j + d = n → Ev (fun k => spec_plExponents.l0 (n : Int) k (units n j) (j : Int)) (units n n) := by
    intro d
    induction d with
    | zero =>
      intro j hj
      obtain rfl : j = n := by omega
      refine shift ?_
      simp only [spec_plExponents.l0]
      exact neg (by omega) (ret _)
    | succ d ih =>
      intro j hj
      refine shift ?_
      simp only [spec_plExponents.l0]
      refine pos (by omega) ?_
      obtain ⟨h1, h2, h3, h4⟩ := unit_step n j hn (by omega)
      simp only [h1, h2, h3, h4, Option.bind_some]
      rw [w64_succ (by omega)]
      exact ih (j + 1) (by omega)
  exact key n 0 (by omega)
theorem impl_units (n : Nat) (hn : n ≤ 1000) : impl_Plan_exponents.l0 (n : Int) n [] 0 = some (units n n) := by
  have key : ∀ (d j : Nat), j + d = n → impl_Plan_exponents.l0 (n : Int) d (units n j) (j : Int) = some (units n n) := by
    intro d
    induction d with
    | zero =>
      intro j hj
      obtain rfl : j = n := by omega
      rfl
    | succ d ih =>
      intro j hj
      simp only [impl_Plan_exponents.l0]
      obtain ⟨h1, h2, h3, h4⟩ := unit_step n j hn (by omega)
      simp only [h1, h2, h3, h4, Option.bind_some]
      exact ih (j + 1) (by omega)
  exact key n 0 (by omega)
/-- All values' exponents. -/
def exps (n : Nat) (s : List SStep) : List (List Int) := exGo (units n n) s
theorem exps_ev (n : Nat) (hn : n ≤ 1000) (s : List SStep) (o : List Int) (hs : s.length ≤ 1000) (hf : fB n s 0 = true) :
    Ev (fun k => spec_plExponents.f k n s o) (exps n s) ∧ impl_Plan_exponents.f n s o = some (exps n s) ∧ (∀ r ∈ exps n s, RowOk n r) ∧ (exps n s).length = n + s.length := by
  have hl : (units n n).length = n := by simp [units]
  obtain ⟨a1, a2, a3, a4⟩ := ex_eq hn (n : Int) (by omega) s (units n n) 0 (by omega) (by omega) (by omega) (units_ok n n) hf
  refine ⟨?_, ?_, a3, by rw [exps, a4, hl]⟩
  · unfold spec_plExponents.f
    exact bind (spec_units n hn) (bind (now a1) (ret _))
  · unfold impl_Plan_exponents.f
    have hb : bd (n : Int) = some () := by
      unfold bd
      rw [if_pos (by omega)]
    rw [hb, Option.bind_some, Int.toNat_natCast, impl_units n hn, Option.bind_some, a2]
    rfl
end Go.Proofs.Ytiaohjciddbpoaa.Pure
