/- Pure: what is needed behind some steps, the pressure of an order, all orders. -/
import Derived.Test.YtdicngjloiphkaaKFnFewestRegistersParg
set_option linter.unusedVariables false
set_option linter.unusedSimpArgs false
namespace Go.Proofs.Ytdicngjloiphkaa.Pure
open Go.RowKit Go.Proofs.Ytdicngjloiphkaa.E Go.Proofs.Ytdicngjloiphkaa.FW Go.Proofs.Ytdicngjloiphkaa.Frame Go.Proofs.YtdicngjloiphkaaW.PrintLast Go.Proofs.YtdicngjloiphkaaW.PrintMore
open Go.Proofs.YtdicngjloiphkaaW.PrintWords hiding mn mx
/-- Is a value a factor of a step that has not been done? -/
def use (ds : List Int) : List SStep → Int → Int → Bool
  | [], _, _ => false
  | y :: ys, j, v => (!decide (j ∈ ds) && (decide (y.f0 = v) || decide (y.f1 = v))) || use ds ys (j + 1) v
/-- Is a value needed when the steps ds have been done? -/
def nd (i : Int) (s : List SStep) (o : List Int) (ds : List Int) (v : Int) : Bool := (decide (v < i) || decide (v - i ∈ ds)) && (decide (v ∈ o) || use ds s 0 v)
theorem use_l1 (ds : List Int) (v : Int) (ys : List SStep) (j : Int) (b : Bool) : spec_reNeeded.l1 ds v ys j b = some (b || use ds ys j v) := by
  induction ys generalizing j b with
  | nil => simp [spec_reNeeded.l1, use]
  | cons y ys ih =>
    simp only [spec_reNeeded.l1, use, l1Has_eq, Option.bind_some, ih]
    cases b <;> by_cases h1 : j ∈ ds <;> by_cases h2 : y.f0 = v <;> by_cases h3 : y.f1 = v <;> simp [h1, h2, h3]
theorem use_l2 (ds : List Int) (v : Int) (ys : List SStep) (j : Int) (b : Bool) : spec_reNeeded.l2 ds v ys j b = some (b || use ds ys j v) := by
  induction ys generalizing j b with
  | nil => simp [spec_reNeeded.l2, use]
  | cons y ys ih =>
    simp only [spec_reNeeded.l2, use, l1Has_eq, Option.bind_some, ih]
    cases b <;> by_cases h1 : j ∈ ds <;> by_cases h2 : y.f0 = v <;> by_cases h3 : y.f1 = v <;> simp [h1, h2, h3]
/-- The values below M that have a property, in order. -/
def vals (M : Nat) (p : Int → Bool) : List Int := ((List.range M).map fun (j : Nat) => (j : Int)).filter p
theorem vals_succ (M : Nat) (p : Int → Bool) : vals (M + 1) p = vals M p ++ (if p (M : Int) = true then [(M : Int)] else []) := by
  unfold vals
  rw [List.range_succ, List.map_append, List.filter_append]
  congr 1
  by_cases h : p (M : Int) = true <;> simp [h]
theorem vals_len (M : Nat) (p : Int → Bool) : (vals M p).length ≤ M := by
  refine Nat.le_trans (List.length_filter_le _ _) ?_
  simp
theorem vals_mem {M : Nat} {p : Int → Bool} {v : Int} : v ∈ vals M p ↔ (0 ≤ v ∧ v < M) ∧ p v = true := by
  unfold vals
  rw [List.mem_filter, List.mem_map]
  constructor
  · rintro ⟨⟨j, hj, rfl⟩, h⟩
    have := List.mem_range.1 hj
    exact ⟨by omega, h⟩
  · rintro ⟨⟨h0, h1⟩, h⟩
    exact ⟨⟨v.toNat, List.mem_range.2 (by omega), by omega⟩, h⟩
theorem vals_sorted (M : Nat) (p : Int → Bool) : (vals M p).Pairwise (· < ·) := by
  refine List.Pairwise.filter _ ?_
  rw [List.pairwise_map]
  exact List.Pairwise.imp (fun h => by omega) List.pairwise_lt_range
theorem vals_one (M : Nat) (p : Int → Bool) (y : Int) (h0 : 0 ≤ y) (h1 : y < M) : (vals M (fun u => if u = y then true else p u)).length = (put (vals M p) y).length := by
  have key : ∀ m : Nat, (vals m (fun u => if u = y then true else p u)).length = (vals m p).length + (if y < m ∧ p y = false then 1 else 0) := by
    intro m
    induction m with
    | zero => simp [vals]; intro h; omega
    | succ m ih =>
      rw [vals_succ, vals_succ, List.length_append, List.length_append, ih]
      by_cases e : (m : Int) = y
      · cases hp : p y with
        | true => simp [e, hp]
        | false => simp [e, hp]; omega
      · rw [if_neg e]
        have : (y < ((m + 1 : Nat) : Int)) ↔ y < (m : Int) := by omega
        simp only [this]
        omega
  rw [key, put_len _ _ (vals_sorted M p)]
  cases hp : p y with
  | true => rw [if_neg (by simp), if_pos (vals_mem.2 ⟨⟨h0, h1⟩, hp⟩)]; rfl
  | false => rw [if_pos ⟨h1, rfl⟩, if_neg (fun h => by have := (vals_mem.1 h).2; rw [hp] at this; cases this)]
theorem reNeeded_ev (I : Nat) (hI : I ≤ 1000) (s : List SStep) (hs : s.length ≤ 1000) (o ds : List Int) : Ev (fun k => spec_reNeeded.f k (I : Int) s o ds) (vals (I + s.length) (nd (I : Int) s o ds)) := by
  have key : ∀ (d j : Nat), j + d = I + s.length → Ev (fun k => spec_reNeeded.l0 (I : Int) s o ds k (vals j (nd (I : Int) s o ds)) (j : Int)) (vals (I + s.length) (nd (I : Int) s o ds)) := by
    intro d
    induction d with
    | zero =>
      intro j hj
      obtain rfl : j = I + s.length := by omega
      refine shift ?_
      simp only [spec_reNeeded.l0]
      rw [w64_id (by omega)]
      exact neg (by omega) (ret _)
    | succ d ih =>
      intro j hj
      have hn := ih (j + 1) (by omega)
      rw [vals_succ] at hn
      have hlen := vals_len j (nd (I : Int) s o ds)
      refine shift ?_
      simp only [spec_reNeeded.l0, l1Has_eq, use_l1, use_l2, Option.bind_some]
      rw [w64_id (x := (I : Int) + (s.length : Int)) (by omega), w64_succ (by omega), w64_id (x := (j : Int) - (I : Int)) (by omega)]
      refine pos (by omega) ?_
      by_cases h1 : (I : Int) ≤ (j : Int)
      · refine pos h1 ?_
        by_cases h2 : (j : Int) - (I : Int) ∈ ds
        · refine pos (decide_eq_true h2) ?_
          cases hb : (decide ((j : Int) ∈ o) || use ds s 0 (j : Int)) with
          | true =>
            have : nd (I : Int) s o ds (j : Int) = true := by simp only [nd, hb, decide_eq_true h2, Bool.or_true, Bool.and_true]
            rw [if_pos this] at hn
            exact pos rfl (bind0 (ap_ok (by simp; omega)) hn)
          | false =>
            refine neg (by simp) ?_
            have : nd (I : Int) s o ds (j : Int) = false := by simp only [nd, hb, Bool.and_false]
            rw [this, if_neg (by simp), List.append_nil] at hn
            exact hn
        · refine neg (by simpa using h2) ?_
          have : nd (I : Int) s o ds (j : Int) = false := by simp only [nd, decide_eq_false h2, decide_eq_false (show ¬ (j : Int) < (I : Int) by omega), Bool.or_false, Bool.false_and]
          rw [this, if_neg (by simp), List.append_nil] at hn
          exact hn
      · refine neg h1 ?_
        cases hb : (decide ((j : Int) ∈ o) || use ds s 0 (j : Int)) with
        | true =>
          have : nd (I : Int) s o ds (j : Int) = true := by simp only [nd, hb, decide_eq_true (show (j : Int) < (I : Int) by omega), Bool.true_or, Bool.and_true]
          rw [if_pos this] at hn
          exact pos rfl (bind0 (ap_ok (by simp; omega)) hn)
        | false =>
          refine neg (by simp) ?_
          have : nd (I : Int) s o ds (j : Int) = false := by simp only [nd, hb, Bool.and_false]
          rw [this, if_neg (by simp), List.append_nil] at hn
          exact hn
  unfold spec_reNeeded.f
  exact bind (key (I + s.length) 0 (by omega)) (ret _)
/-! what is needed, told by the program -/
theorem needed_l0 (M : Nat) (ys : List Int) (f : Int → Bool) (j : Int) (h : ∀ y ∈ ys, 0 ≤ y ∧ y < M) : impl_Plan_needed.l0 ys (tb M f) j = some (tb M fun u => f u || decide (u ∈ ys)) := by
  induction ys generalizing f j with
  | nil => simp [impl_Plan_needed.l0]
  | cons y ys ih =>
    have hy := h y List.mem_cons_self
    simp only [impl_Plan_needed.l0]
    rw [tb_gt hy.1 hy.2, Option.bind_some, tb_st hy.1 hy.2, Option.bind_some, ih _ _ (fun z hz => h z (List.mem_cons_of_mem _ hz))]
    congr 1
    refine tb_ext fun u _ _ => ?_
    by_cases e : u = y <;> simp [e]
theorem needed_l1 (n M : Nat) (ds : List Int) (ys : List SStep) (f : Int → Bool) (j : Nat) (hj : j + ys.length = n) (h : ∀ y ∈ ys, (0 ≤ y.f0 ∧ y.f0 < M) ∧ (0 ≤ y.f1 ∧ y.f1 < M)) : impl_Plan_needed.l1 (tb n fun u => decide (u ∈ ds)) ys (tb M f) (j : Int) = some (tb M fun u => f u || use ds ys (j : Int) u) := by
  induction ys generalizing f j with
  | nil => simp [impl_Plan_needed.l1, use]
  | cons y ys ih =>
    simp only [List.length_cons] at hj
    have hy := h y List.mem_cons_self
    have hr := fun z hz => h z (List.mem_cons_of_mem _ hz)
    have ec : (j : Int) + 1 = ((j + 1 : Nat) : Int) := by omega
    simp only [impl_Plan_needed.l1, use]
    rw [tb_gt (by omega) (by omega), Option.bind_some, ec]
    by_cases hd : (j : Int) ∈ ds
    · rw [if_pos (decide_eq_true hd), ih _ _ (by omega) hr]
      simp [hd]
    · rw [if_neg (by simpa using hd), tb_gt hy.1.1 hy.1.2, Option.bind_some, tb_st hy.1.1 hy.1.2, Option.bind_some, tb_gt hy.2.1 hy.2.2, Option.bind_some, tb_st hy.2.1 hy.2.2, Option.bind_some, ih _ _ (by omega) hr]
      congr 1
      refine tb_ext fun u _ _ => ?_
      by_cases e0 : u = y.f0
      · subst e0
        simp [hd]
      · by_cases e1 : u = y.f1
        · subst e1
          simp [hd]
        · have d0 : decide (y.f0 = u) = false := decide_eq_false fun q => e0 q.symm
          have d1 : decide (y.f1 = u) = false := decide_eq_false fun q => e1 q.symm
          simp [e0, e1, hd, d0, d1]
theorem needed_l2 (I n : Nat) (hI : I ≤ 1000) (hn : n ≤ 1000) (dn f : Int → Bool) : ∀ (d j : Nat), j + d = n → impl_Plan_needed.l2 (I : Int) ((tb n dn).drop j) (tb (I + n) fun u => if u < (I : Int) + (j : Int) then (decide (u < (I : Int)) || dn (u - (I : Int))) && f u else f u) (j : Int) = some (tb (I + n) fun u => (decide (u < (I : Int)) || dn (u - (I : Int))) && f u) := by
  intro d
  induction d with
  | zero =>
    intro j hj
    rw [List.drop_eq_nil_of_le (by rw [tb_len]; omega)]
    simp only [impl_Plan_needed.l2]
    congr 1
    refine tb_ext fun u _ _ => ?_
    rw [if_pos (by omega)]
  | succ d ih =>
    intro j hj
    have ec : (j : Int) + 1 = ((j + 1 : Nat) : Int) := by omega
    rw [tb_drop (by omega)]
    simp only [impl_Plan_needed.l2]
    rw [w64_id (x := (I : Int) + (j : Int)) (by omega), tb_gt (by omega) (by omega)]
    simp only [Option.bind_some]
    rw [if_neg (show ¬ ((I : Int) + (j : Int) < (I : Int) + (j : Int)) by omega), ec]
    have hnext := ih (j + 1) (by omega)
    have he : (tb (I + n) fun u => if u < (I : Int) + ((j + 1 : Nat) : Int) then (decide (u < (I : Int)) || dn (u - (I : Int))) && f u else f u) = tb (I + n) (fun u => if u = (I : Int) + (j : Int) then dn (j : Int) && f u else if u < (I : Int) + (j : Int) then (decide (u < (I : Int)) || dn (u - (I : Int))) && f u else f u) := tb_ext fun u _ _ => by
      by_cases e : u = (I : Int) + (j : Int)
      · subst e
        rw [if_pos (by omega), if_pos rfl, decide_eq_false (by omega), Bool.false_or]
        congr 2
        omega
      · rw [if_neg e]
        by_cases c : u < (I : Int) + (j : Int)
        · rw [if_pos c, if_pos (by omega)]
        · rw [if_neg c, if_neg (by omega)]
    rw [he] at hnext
    cases hb : f ((I : Int) + (j : Int)) with
    | true =>
      rw [if_pos rfl, tb_st (by omega) (by omega), Option.bind_some]
      refine Eq.trans ?_ hnext
      congr 1
      refine tb_ext fun u _ _ => ?_
      by_cases e : u = (I : Int) + (j : Int)
      · rw [if_pos e, if_pos e, e, hb, Bool.and_true]
      · rw [if_neg e, if_neg e]
    | false =>
      rw [if_neg (by simp), tb_st (by omega) (by omega), Option.bind_some]
      refine Eq.trans ?_ hnext
      congr 1
      refine tb_ext fun u _ _ => ?_
      by_cases e : u = (I : Int) + (j : Int)
      · rw [if_pos e, if_pos e, e, hb, Bool.and_false]
      · rw [if_neg e, if_neg e]
/-- A plan's form, as it is used here. -/
structure Form (I : Nat) (s : List SStep) (o : List Int) : Prop where
  inp : 1 ≤ I ∧ I ≤ 6
  stp : s.length ≤ 40
  out : o.length ≤ 6
  fs : fB (I : Int) s 0 = true
  os : ∀ y ∈ o, 0 ≤ y ∧ y < (I : Int) + (s.length : Int)
theorem fB_at {i : Int} (hi : 0 ≤ i ∧ i ≤ 1000) (ys : List SStep) (j : Nat) (h : fB i ys (j : Int) = true) (hl : j + ys.length ≤ 100000) (m : Nat) (y : SStep) (hm : ys[m]? = some y) : 0 ≤ y.f0 ∧ y.f0 ≤ y.f1 ∧ y.f1 < i + (j : Int) + (m : Int) := by
  induction ys generalizing j m with
  | nil => simp at hm
  | cons z ys ih =>
    simp only [List.length_cons] at hl
    simp only [fB, Bool.and_eq_true, decide_eq_true_eq] at h
    obtain ⟨⟨k0, k1, k2⟩, k3⟩ := h
    rw [w64_id (by omega)] at k2
    cases m with
    | zero =>
      obtain rfl : z = y := by simpa using hm
      omega
    | succ m =>
      have e : (j : Int) + 1 = ((j + 1 : Nat) : Int) := by omega
      rw [e] at k3
      have := ih (j + 1) k3 (by omega) m (by simpa using hm)
      omega
theorem Form.step {I : Nat} {s : List SStep} {o : List Int} (h : Form I s o) {m : Nat} {y : SStep} (hm : s[m]? = some y) : 0 ≤ y.f0 ∧ y.f0 ≤ y.f1 ∧ y.f1 < (I : Int) + (m : Int) := by
  have := fB_at (i := (I : Int)) (by have := h.inp; omega) s 0 h.fs (by have := h.stp; omega) m y hm
  omega
theorem Form.mem {I : Nat} {s : List SStep} {o : List Int} (h : Form I s o) : ∀ y ∈ s, (0 ≤ y.f0 ∧ y.f0 < ((I + s.length : Nat) : Int)) ∧ (0 ≤ y.f1 ∧ y.f1 < ((I + s.length : Nat) : Int)) := fun y hy => by
  obtain ⟨m, hm, rfl⟩ := List.getElem_of_mem hy
  have := h.step (List.getElem?_eq_getElem hm)
  omega
theorem good_form {i : Int} {s : List SStep} {o : List Int} (h : good i s o = true) : ∃ I : Nat, i = (I : Int) ∧ Form I s o := by
  unfold good at h
  simp only [Bool.and_eq_true, decide_eq_true_eq] at h
  obtain ⟨h1, h2, h3, h4, h5, h6⟩ := h
  refine ⟨i.toNat, by omega, by omega, h2, h3, ?_, ?_⟩
  · rw [show ((i.toNat : Nat) : Int) = i by omega]
    exact h4
  · intro y hy
    have := List.all_eq_true.1 h6 y hy
    rw [w64_id (x := i + (s.length : Int)) (by omega), w64_id (by omega)] at this
    simp only [decide_eq_true_eq] at this
    omega
theorem needed_eq {I : Nat} {s : List SStep} {o : List Int} (h : Form I s o) (ds : List Int) : impl_Plan_needed.f (I : Int) s o (tb s.length fun u => decide (u ∈ ds)) = some (tb (I + s.length) (nd (I : Int) s o ds)) := by
  have h1 := h.inp
  have h2 := h.stp
  unfold impl_Plan_needed.f impl_Plan_many.f
  rw [Option.bind_some, w64_id (by omega), tb_mk (M := I + s.length) (by omega) (by omega), Option.bind_some, needed_l0 _ _ _ _ (fun y hy => by have := h.os y hy; omega), Option.bind_some]
  have e1 := needed_l1 s.length (I + s.length) ds s (fun u => false || decide (u ∈ o)) 0 (by omega) h.mem
  rw [show ((0 : Nat) : Int) = 0 from rfl] at e1
  rw [e1, Option.bind_some]
  have e2 := needed_l2 I s.length (by omega) (by omega) (fun u => decide (u ∈ ds)) (fun u => (false || decide (u ∈ o)) || use ds s 0 u) s.length 0 (by omega)
  rw [List.drop_zero, show ((0 : Nat) : Int) = 0 from rfl] at e2
  have e3 : (tb (I + s.length) fun u => if u < (I : Int) + 0 then (decide (u < (I : Int)) || decide (u - (I : Int) ∈ ds)) && ((false || decide (u ∈ o)) || use ds s 0 u) else ((false || decide (u ∈ o)) || use ds s 0 u)) = tb (I + s.length) fun u => ((false || decide (u ∈ o)) || use ds s 0 u) := tb_ext fun u _ _ => by
    by_cases c : u < (I : Int) + 0
    · rw [if_pos c, decide_eq_true (by omega), Bool.true_or, Bool.true_and]
    · rw [if_neg c]
  rw [e3] at e2
  rw [e2, Option.bind_some]
  congr 1
/-- How many values are held when the last of ds has just been done. -/
def hC (I : Nat) (s : List SStep) (o ds : List Int) (y : Int) : Int := ((put (vals (I + s.length) (nd (I : Int) s o ds)) ((I : Int) + y)).length : Int)
theorem held_l0 (M : Nat) (f : Int → Bool) (hM : M ≤ 1000) : ∀ (d j : Nat), j + d = M → impl_Plan_held.l0 ((tb M f).drop j) (j : Int) ((vals j f).length : Int) = some ((vals M f).length : Int) := by
  intro d
  induction d with
  | zero =>
    intro j hj
    obtain rfl : j = M := by omega
    rw [List.drop_eq_nil_of_le (by rw [tb_len]; omega)]
    rfl
  | succ d ih =>
    intro j hj
    have hn := ih (j + 1) (by omega)
    have hlen := vals_len j f
    rw [tb_drop (by omega)]
    simp only [impl_Plan_held.l0]
    rw [vals_succ] at hn
    rw [show (j : Int) + 1 = ((j + 1 : Nat) : Int) by omega]
    by_cases hb : f (j : Int) = true
    · rw [if_pos hb, List.length_append, List.length_singleton] at hn
      rw [if_pos hb, w64_id (by omega)]
      rw [show ((vals j f).length : Int) + 1 = (((vals j f).length + 1 : Nat) : Int) by omega]
      exact hn
    · rw [if_neg hb, List.append_nil] at hn
      rw [if_neg hb]
      exact hn
theorem held_eq {I : Nat} {s : List SStep} {o : List Int} (h : Form I s o) (ds : List Int) (y : Int) (hy : 0 ≤ y ∧ y < (s.length : Int)) : impl_Plan_held.f (I : Int) s o (tb s.length fun u => decide (u ∈ ds)) y = some (hC I s o ds y) := by
  have h1 := h.inp
  have h2 := h.stp
  unfold impl_Plan_held.f
  rw [needed_eq h, Option.bind_some, w64_id (by omega), tb_gt (by omega) (by omega), Option.bind_some, tb_st (by omega) (by omega), Option.bind_some]
  have := held_l0 (I + s.length) (fun u => if u = (I : Int) + y then true else nd (I : Int) s o ds u) (by omega) (I + s.length) 0 (by omega)
  rw [List.drop_zero, show (vals 0 (fun u => if u = (I : Int) + y then true else nd (I : Int) s o ds u)).length = 0 from rfl] at this
  rw [show ((0 : Nat) : Int) = 0 from rfl] at this
  rw [this, Option.bind_some, vals_one _ _ _ (by omega) (by omega)]
  rfl
/-- The pressure: pre are done, the rest follow. -/
def prGo (I : Nat) (s : List SStep) (o : List Int) (pre : List Int) : List Int → Int → Int
  | [], m => m
  | y :: ys, m => prGo I s o (pre ++ [y]) ys (mx m (hC I s o (pre ++ [y]) y))
def press (I : Nat) (s : List SStep) (o ds : List Int) : Int := prGo I s o [] ds (I : Int)
theorem pressure_l0 {I : Nat} {s : List SStep} {o : List Int} (h : Form I s o) (ys : List Int) (hy : ∀ y ∈ ys, 0 ≤ y ∧ y < (s.length : Int)) (p : List Int) (j m : Int) : ∃ b, impl_Plan_pressure.l0 (I : Int) s o ys (tb s.length fun u => decide (u ∈ p)) j m = some (b, prGo I s o p ys m) := by
  induction ys generalizing p j m with
  | nil => exact ⟨_, rfl⟩
  | cons y ys ih =>
    have h0 := hy y List.mem_cons_self
    simp only [impl_Plan_pressure.l0, prGo]
    rw [tb_gt h0.1 h0.2, Option.bind_some, tb_st h0.1 h0.2, Option.bind_some]
    have e : (tb s.length fun u => if u = y then true else decide (u ∈ p)) = tb s.length fun u => decide (u ∈ p ++ [y]) := tb_ext fun u _ _ => by
      by_cases c : u = y
      · rw [if_pos c, decide_eq_true (by rw [c]; simp)]
      · rw [if_neg c]
        have : (u ∈ p ++ [y]) ↔ u ∈ p := by simp [c]
        simp only [this]
    rw [e, held_eq h _ _ h0, Option.bind_some]
    exact ih (fun z hz => hy z (List.mem_cons_of_mem _ hz)) (p ++ [y]) _ _
theorem pressure_eq {I : Nat} {s : List SStep} {o : List Int} (h : Form I s o) (ds : List Int) (hy : ∀ y ∈ ds, 0 ≤ y ∧ y < (s.length : Int)) : impl_Plan_pressure.f (I : Int) s o ds = some (press I s o ds) := by
  unfold impl_Plan_pressure.f
  rw [tb_mk (M := s.length) rfl (by have := h.stp; omega), Option.bind_some]
  obtain ⟨b, hb⟩ := pressure_l0 h ds hy [] 0 (I : Int)
  have e : (tb s.length fun u => decide (u ∈ ([] : List Int))) = tb s.length fun _ => false := tb_ext fun u _ _ => by simp
  rw [e] at hb
  rw [hb]
  rfl
theorem rePressure_l0 {I : Nat} {s : List SStep} {o : List Int} (h : Form I s o) (l ys p : List Int) (hl : l = p ++ ys) (hlen : l.length ≤ 1000) (hy : ∀ y ∈ l, 0 ≤ y ∧ y < (s.length : Int)) (m : Int) : Ev (fun k => spec_rePressure.l0 k (I : Int) s o l ys (p.length : Int) m) (prGo I s o p ys m) := by
  have h1 := h.inp
  have h2 := h.stp
  induction ys generalizing p m with
  | nil =>
    simp only [spec_rePressure.l0, prGo]
    exact ret _
  | cons y ys ih =>
    subst hl
    simp only [List.length_append, List.length_cons] at hlen
    have h0 := hy y (List.mem_append_right _ List.mem_cons_self)
    simp only [spec_rePressure.l0, prGo]
    have e1 : (p.length : Int) + 1 = ((p.length + 1 : Nat) : Int) := by omega
    rw [e1, ct_take _ _ (by simp)]
    have e2 : (p ++ y :: ys).take (p.length + 1) = p ++ [y] := by
      rw [show p ++ y :: ys = (p ++ [y]) ++ ys by simp]
      exact List.take_left' (by simp)
    simp only [Option.bind_some, e2]
    refine bind (reNeeded_ev I (by omega) s (by omega) o _) ?_
    rw [w64_id (by omega)]
    refine bind (put_ev _ _ (Nat.le_trans (vals_len _ _) (by omega))) ?_
    have e3 : spec_l1Most.f m (((put (vals (I + s.length) (nd (I : Int) s o (p ++ [y]))) ((I : Int) + y)).length : Nat) : Int) = some (mx m (hC I s o (p ++ [y]) y)) := by
      unfold spec_l1Most.f mx hC
      split <;> split <;> simp <;> omega
    refine bind0 e3 ?_
    have := ih (p ++ [y]) (by simp) (mx m (hC I s o (p ++ [y]) y))
    rw [List.length_append, List.length_singleton] at this
    exact this
theorem rePressure_ev {I : Nat} {s : List SStep} {o : List Int} (h : Form I s o) (ds : List Int) (hlen : ds.length ≤ 1000) (hy : ∀ y ∈ ds, 0 ≤ y ∧ y < (s.length : Int)) : Ev (fun k => spec_rePressure.f k (I : Int) s o ds) (press I s o ds) := by
  unfold spec_rePressure.f
  exact bind (rePressure_l0 h ds ds [] rfl hlen hy (I : Int)) (ret _)
theorem prGo_le {I : Nat} {s : List SStep} {o : List Int} (h : Form I s o) (h8 : s.length ≤ 8) (p ys : List Int) (m : Int) (h0 : 0 ≤ m ∧ m ≤ 46) : 0 ≤ prGo I s o p ys m ∧ prGo I s o p ys m ≤ 46 := by
  induction ys generalizing p m with
  | nil => exact h0
  | cons y ys ih =>
    simp only [prGo]
    have h1 := h.inp
    have hv := vals_len (I + s.length) (nd (I : Int) s o (p ++ [y]))
    have hp : (hC I s o (p ++ [y]) y) ≤ (I : Int) + (s.length : Int) + 1 := by
      unfold hC
      rw [put_len _ _ (vals_sorted _ _)]
      split <;> omega
    have hq : 0 ≤ hC I s o (p ++ [y]) y := by unfold hC; omega
    refine ih _ _ ?_
    unfold mx
    split <;> omega
end Go.Proofs.Ytdicngjloiphkaa.Pure
