/- Pure: the law of orders within registers. -/
import Derived.Test.YtdicngjloiphkaaKFnOrdersWithinPordB
import Derived.Test.YtdicngjloiphkaaKFnOrdersWithinPdraw
set_option linter.unusedVariables false
set_option linter.unusedSimpArgs false
namespace Go.Proofs.Ytdicngjloiphkaa.Pure
open Go.RowKit Go.Proofs.Ytdicngjloiphkaa.E Go.Proofs.Ytdicngjloiphkaa.L1 Go.Proofs.Ytdicngjloiphkaa.Frame Go.Proofs.YtdicngjloiphkaaW.PrintLast Go.Proofs.YtdicngjloiphkaaW.PrintMore
open Go.Proofs.YtdicngjloiphkaaW.PrintWords hiding mn mx
def fewB (i : Int) (s : List SStep) (o : List Int) : Bool := good i s o && decide (s.length ≤ 8)
/-- How many orders are within r registers. -/
def cnt (I : Nat) (s : List SStep) (o : List Int) (r : Int) : Nat := ((ords (I : Int) s s.length []).filter fun l => decide (press I s o l ≤ r)).length
theorem fold_cnt (I : Nat) (s : List SStep) (o : List Int) (r : Int) (ls : List (List Int)) (acc : Nat) (h : acc + ls.length ≤ 1000000000) : ls.foldl (stepW I s o r) (acc : Int) = ((acc + (ls.filter fun l => decide (press I s o l ≤ r)).length : Nat) : Int) := by
  induction ls generalizing acc with
  | nil => rfl
  | cons l ls ih =>
    simp only [List.length_cons] at h
    rw [List.foldl_cons, stepW]
    by_cases c : press I s o l ≤ r
    · rw [if_pos c, w64_id (by omega), show (acc : Int) + 1 = ((acc + 1 : Nat) : Int) by omega, ih _ (by omega), List.filter_cons_of_pos (by simpa using c), List.length_cons]
      congr 1
      omega
    · rw [if_neg c, ih _ (by omega), List.filter_cons_of_neg (by simpa using c)]
theorem cnt_mono (I : Nat) (s : List SStep) (o : List Int) (r : Int) : cnt I s o r ≤ cnt I s o (r + 1) := by
  unfold cnt
  generalize ords (I : Int) s s.length [] = ls
  induction ls with
  | nil => exact Nat.le_refl _
  | cons l ls ih =>
    by_cases c : press I s o l ≤ r
    · rw [List.filter_cons_of_pos (by simpa using c), List.filter_cons_of_pos (by simp; omega)]
      simp only [List.length_cons]
      omega
    · rw [List.filter_cons_of_neg (by simpa using c)]
      by_cases c2 : press I s o l ≤ r + 1
      · rw [List.filter_cons_of_pos (by simpa using c2)]
        simp only [List.length_cons]
        omega
      · rw [List.filter_cons_of_neg (by simpa using c2)]
        exact ih
/-- What OrdersWithin hands back, on both sides. -/
theorem ow_ev (i : Int) (s : List SStep) (o : List Int) (r : Int) : ∃ n b, Ev (fun k => spec_OrdersWithin.f k i s o r) (n, b) ∧ Ev (fun k => impl_OrdersWithin.f k i s o r) (n, b) ∧ (b = true ↔ fewB i s o = true ∧ 0 ≤ r ∧ r ≤ 46) ∧ (b = true → n = (cnt i.toNat s o r : Int)) := by
  unfold spec_OrdersWithin.f impl_OrdersWithin.f
  have e1 := few_ev i s o
  have e2 := orderable_ev i s o
  unfold fewB
  cases hg : (good i s o && decide (s.length ≤ 8)) with
  | false =>
    rw [hg] at e1 e2
    exact ⟨_, _, bind e1 (neg (by simp) (ret _)), bind e2 (neg (by simp) (ret _)), by simp, by simp⟩
  | true =>
    rw [hg] at e1 e2
    obtain ⟨I, rfl, hf, h8⟩ := few_form hg
    by_cases c : 0 ≤ r ∧ r ≤ 46
    · have l1 := l1In_eq r 0 46
      have l2 := in_eq r 0 46
      rw [decide_eq_true c] at l1 l2
      have hm : ∀ l ∈ ords (I : Int) s s.length [], l.length ≤ 1000 ∧ ∀ y ∈ l, 0 ≤ y ∧ y < (s.length : Int) := fun l hl => by
        have := ords_mem (fun y hy => by cases hy) hl
        exact ⟨by rw [this.1]; simp; omega, this.2⟩
      have hlen := ords_len (I : Int) s s.length []
      have hpow := pow_small h8 h8
      have hc := fold_cnt I s o r (ords (I : Int) s s.length []) 0 (by omega)
      refine ⟨_, _, bind e1 (pos rfl (bind0 l1 (pos rfl (bind (reOrders_ev hf h8 s.length [] (by simp)) (bind (spec_foldW hf r _ hm 0 0) (ret _)))))), bind e2 (pos rfl (bind0 l2 (pos rfl (bind ?_ (ret _))))), by simp [c], fun _ => ?_⟩
      · unfold impl_Plan_within.f
        exact bind (ordersW_ev hf r s.length [] 0 (by simp) (fun y hy => by cases hy)) (ret _)
      · rw [show (0 : Int) = ((0 : Nat) : Int) from rfl, hc, Int.toNat_natCast, Nat.zero_add]
        rfl
    · have l1 := l1In_eq r 0 46
      have l2 := in_eq r 0 46
      rw [decide_eq_false c] at l1 l2
      exact ⟨_, _, bind e1 (pos rfl (bind0 l1 (neg (by simp) (ret _)))), bind e2 (pos rfl (bind0 l2 (neg (by simp) (ret _)))), by simp; omega, by simp⟩
/-! what is needed after some steps -/
theorem upTo_ev (d : Nat) (hd : d ≤ 1000) : Ev (fun k => spec_plUpTo.f k (d : Int)) (iota d) := by
  have key : ∀ (e j : Nat), j + e = d → Ev (fun k => spec_plUpTo.l0 (d : Int) k (iota j) (j : Int)) (iota d) := by
    intro e
    induction e with
    | zero =>
      intro j hj
      obtain rfl : j = d := by omega
      refine shift ?_
      simp only [spec_plUpTo.l0]
      exact neg (by omega) (ret _)
    | succ e ih =>
      intro j hj
      refine shift ?_
      simp only [spec_plUpTo.l0]
      rw [w64_succ (by omega)]
      have := ih (j + 1) (by omega)
      rw [iota_succ] at this
      exact pos (by omega) (bind0 (ap_ok (by simp [iota]; omega)) this)
  unfold spec_plUpTo.f
  exact bind (key d 0 (by omega)) (ret _)
theorem doneFirst_eq (i : Int) (s : List SStep) (o : List Int) (d : Nat) (hd : d ≤ s.length) (hs : s.length ≤ 1000) : impl_Plan_doneFirst.f i s o (d : Int) = some (tb s.length fun u => decide (u ∈ iota d)) := by
  have key : ∀ (e j : Nat), j + e = d → impl_Plan_doneFirst.l0 e (tb s.length fun u => decide (u ∈ iota j)) (j : Int) = some (tb s.length fun u => decide (u ∈ iota d)) := by
    intro e
    induction e with
    | zero =>
      intro j hj
      obtain rfl : j = d := by omega
      rfl
    | succ e ih =>
      intro j hj
      simp only [impl_Plan_doneFirst.l0]
      rw [tb_gt (by omega) (by omega), Option.bind_some, tb_st (by omega) (by omega), Option.bind_some, show (j : Int) + 1 = ((j + 1 : Nat) : Int) by omega, ← ih (j + 1) (by omega)]
      congr 1
      refine tb_ext fun u h0 h1 => ?_
      by_cases c : u = (j : Int)
      · rw [if_pos c, decide_eq_true (iota_mem.2 (by omega))]
      · rw [if_neg c]
        have : (u ∈ iota (j + 1)) ↔ u ∈ iota j := by
          rw [iota_mem, iota_mem]
          omega
        simp only [this]
  unfold impl_Plan_doneFirst.f
  have hb : bd (d : Int) = some () := by
    unfold bd
    rw [if_pos (by omega)]
  have h0 : (tb s.length fun _ => false) = tb s.length fun u => decide (u ∈ iota 0) := tb_ext fun u _ _ => by simp [iota]
  rw [tb_mk rfl (by omega), hb, Option.bind_some, Option.bind_some, Int.toNat_natCast, h0, show (0 : Int) = ((0 : Nat) : Int) from rfl, key d 0 (by omega)]
  rfl
theorem na_l0 (M : Nat) (hM : M ≤ 1000) (f : Int → Bool) : ∀ (e j : Nat), j + e = M → impl_NeededAfter.l0 ((tb M f).drop j) (vals j f) (j : Int) = some (vals M f) := by
  intro e
  induction e with
  | zero =>
    intro j hj
    obtain rfl : j = M := by omega
    rw [List.drop_eq_nil_of_le (by rw [tb_len]; omega)]
    rfl
  | succ e ih =>
    intro j hj
    have hn := ih (j + 1) (by omega)
    have hl := vals_len j f
    rw [vals_succ] at hn
    rw [tb_drop (by omega)]
    simp only [impl_NeededAfter.l0]
    rw [show (j : Int) + 1 = ((j + 1 : Nat) : Int) by omega]
    by_cases c : f (j : Int) = true
    · rw [if_pos c] at hn
      rw [if_pos c, ap_ok (by simp; omega), Option.bind_some]
      exact hn
    · rw [if_neg c, List.append_nil] at hn
      rw [if_neg c]
      exact hn
theorem na_ev (i : Int) (s : List SStep) (o : List Int) (d : Int) : ∃ l b, Ev (fun k => spec_NeededAfter.f k i s o d) (l, b) ∧ Ev (fun k => impl_NeededAfter.f k i s o d) (l, b) ∧ (b = true → ∃ I : Nat, i = (I : Int) ∧ Form I s o ∧ ∃ D : Nat, d = (D : Int) ∧ l = vals (I + s.length) (nd (I : Int) s o (iota D))) := by
  have e1 := plGood_ev i s o
  have e2 := isPlan_ev i s o
  unfold spec_NeededAfter.f impl_NeededAfter.f
  cases hg : good i s o with
  | false =>
    rw [hg] at e1 e2
    exact ⟨_, _, bind e1 (neg (by simp) (ret _)), bind e2 (neg (by simp) (ret _)), by simp⟩
  | true =>
    rw [hg] at e1 e2
    obtain ⟨I, rfl, hf⟩ := good_form hg
    have h1 := hf.inp
    have h2 := hf.stp
    have l1 := l1In_eq d 0 (s.length : Int)
    have l2 := in_eq d 0 (s.length : Int)
    by_cases c : 0 ≤ d ∧ d ≤ (s.length : Int)
    · rw [decide_eq_true c] at l1 l2
      obtain ⟨D, rfl⟩ := Int.eq_ofNat_of_zero_le c.1
      have n1 := na_l0 (I + s.length) (by omega) (nd (I : Int) s o (iota D)) (I + s.length) 0 (by omega)
      rw [List.drop_zero, show vals 0 (nd (I : Int) s o (iota D)) = [] from rfl] at n1
      exact ⟨vals (I + s.length) (nd (I : Int) s o (iota D)), true, bind e1 (pos rfl (bind0 l1 (pos rfl (bind (upTo_ev D (by omega)) (bind (reNeeded_ev I (by omega) s (by omega) o (iota D)) (ret _)))))), bind e2 (pos rfl (bind0 l2 (pos rfl (bind0 (doneFirst_eq _ s o D (by omega) (by omega)) (bind0 (needed_eq hf (iota D)) (bind0 n1 (ret _))))))), fun _ => ⟨I, rfl, hf, D, rfl, rfl⟩⟩
    · rw [decide_eq_false c] at l1 l2
      exact ⟨_, _, bind e1 (pos rfl (bind0 l1 (neg (by simp) (ret _)))), bind e2 (pos rfl (bind0 l2 (neg (by simp) (ret _)))), by simp⟩
theorem use_all (n : Nat) (ys : List SStep) (j : Nat) (v : Int) (h : j + ys.length ≤ n) : use (iota n) ys (j : Int) v = false := by
  induction ys generalizing j with
  | nil => rfl
  | cons y ys ih =>
    simp only [List.length_cons] at h
    simp only [use]
    rw [decide_eq_true (show (j : Int) ∈ iota n from iota_mem.2 (by omega)), show (j : Int) + 1 = ((j + 1 : Nat) : Int) by omega, ih (j + 1) (by omega)]
    rfl
theorem low_l0 (o : List Int) (l : List Int) (h : ∀ y ∈ l, y ∈ o) (j : Int) : laws_FnOrdersWithin.l0 o l j = some (.inr ()) := by
  induction l generalizing j with
  | nil => rfl
  | cons y ys ih =>
    simp only [laws_FnOrdersWithin.l0, rHas_eq, Option.bind_some]
    rw [if_pos (decide_eq_true (h y List.mem_cons_self))]
    exact ih (fun z hz => h z (List.mem_cons_of_mem _ hz)) (j + 1)
theorem low_l1 (l : List Int) (o : List Int) (h : ∀ y ∈ o, y ∈ l) (j : Int) : laws_FnOrdersWithin.l1 l o j = some (.inr ()) := by
  induction o generalizing j with
  | nil => rfl
  | cons y ys ih =>
    simp only [laws_FnOrdersWithin.l1, rHas_eq, Option.bind_some]
    rw [if_pos (decide_eq_true (h y List.mem_cons_self))]
    exact ih (fun z hz => h z (List.mem_cons_of_mem _ hz)) (j + 1)
theorem drawInputs {c : List Int} (hc : Bytes c) (hl : c.length ≤ 1048576) {a : Int} {m : Nat} (ha : Bud a (m + 1)) (sd : Int) : ∃ y a' sd', spec_l1Cur_inputs.f c a sd = some (y, a', sd') ∧ (1 ≤ y ∧ y ≤ 4) ∧ Bud a' m := by
  obtain ⟨y, a', sd', e, hy, hb⟩ := among_ev hc hl ha sd [1, 1, 2, 2, 3, 4] (by simp)
  unfold spec_l1Cur_inputs.f
  rw [e]
  refine ⟨_, _, _, rfl, ?_, hb⟩
  simp only [List.mem_cons, List.not_mem_nil, or_false] at hy
  omega
theorem drawOW {c : List Int} (hc : Bytes c) (hl : c.length ≤ 1048576) : ∃ i s o r, Ev (fun k => spec_DrawOrdersWithin.f k c) (i, s, o, r) ∧ s.length ≤ 60 ∧ o.length ≤ 60 ∧ -1 ≤ r ∧ r ≤ 47 := by
  have fin : (∃ i s o a' sd', Ev (fun k => spec_l1Cur_few.f k c 0 0) (i, s, o, a', sd') ∧ s.length ≤ 60 ∧ o.length ≤ 60 ∧ Bud a' 1) → ∃ i s o r, Ev (fun k => spec_DrawOrdersWithin.f k c) (i, s, o, r) ∧ s.length ≤ 60 ∧ o.length ≤ 60 ∧ -1 ≤ r ∧ r ≤ 47 := by
    rintro ⟨i, s, o, a', sd', e, ls, lo, hb⟩
    obtain ⟨y, a2, s2, e2, hy, _⟩ := among_ev hc hl hb sd' [0, 1, 2, 3, 4, 5, 46, 47, (-1)] (by simp)
    simp only [List.mem_cons, List.not_mem_nil, or_false] at hy
    refine ⟨i, s, o, y, ?_, ls, lo, by omega, by omega⟩
    unfold spec_DrawOrdersWithin.f
    exact bind e (bind0 e2 (ret _))
  refine fin ?_
  obtain ⟨b, a1, s1, e1, b1⟩ := one_ev hc hl (a := 0) (m := 1000) ⟨by omega, by omega⟩ 0 15
  unfold spec_l1Cur_few.f
  cases b with
  | true =>
    obtain ⟨y, a2, s2, e2, hy, b2⟩ := drawInputs hc hl (m := 999) b1 s1
    obtain ⟨i, s, o, a3, s3, e3, ls, lo, b3⟩ := drawAny hc hl a2 s2 y 12 (by omega) 1 (b2.le (by omega))
    exact ⟨i, s, o, a3, s3, bind0 e1 (pos rfl (bind0 e2 (bind e3 (ret _)))), ls, lo, b3⟩
  | false =>
    obtain ⟨y, a2, s2, e2, hy, b2⟩ := among_ev hc hl (m := 999) b1 s1 [1, 2, 2, 3] (by simp)
    obtain ⟨z, a3, s3, e3, hz, b3⟩ := among_ev hc hl (m := 998) b2 s2 [3, 5, 6, 7] (by simp)
    simp only [List.mem_cons, List.not_mem_nil, or_false] at hz
    obtain ⟨i, s, o, a4, s4, e4, ls, lo, b4⟩ := drawAny hc hl a3 s3 y z (by omega) 1 (b3.le (by omega))
    exact ⟨i, s, o, a4, s4, bind0 e1 (neg (by simp) (bind0 e2 (bind0 e3 (bind e4 (ret _))))), ls, lo, b4⟩
theorem drawNA {c : List Int} (hc : Bytes c) (hl : c.length ≤ 1048576) : ∃ i s o d, Ev (fun k => spec_DrawNeededAfter.f k c) (i, s, o, d) := by
  obtain ⟨y, a2, s2, e2, hy, b2⟩ := drawInputs hc hl (a := 0) (m := 999) ⟨by omega, by omega⟩ 0
  obtain ⟨z, a3, s3, e3, hz, b3⟩ := among_ev hc hl (m := 998) b2 s2 [3, 6, 10] (by simp)
  simp only [List.mem_cons, List.not_mem_nil, or_false] at hz
  obtain ⟨i, s, o, a4, s4, e4, ls, lo, b4⟩ := drawAny hc hl a3 s3 y z (by omega) 1 (b3.le (by omega))
  obtain ⟨x, a5, s5, e5, _, _, _⟩ := pick_ev hc hl (m := 0) b4 s4 (w64 ((s.length : Int) + 3))
  refine ⟨i, s, o, w64 (x - 1), ?_⟩
  unfold spec_DrawNeededAfter.f
  exact bind0 e2 (bind0 e3 (bind e4 (bind0 e5 (ret _))))
theorem FnOrdersWithin : laws_FnOrdersWithin.Pure := by
  intro c1 c2 h1 w1 h2 w2
  refine some_of ?_
  unfold laws_FnOrdersWithin.f
  obtain ⟨b, e0, hb⟩ := big_eq c1 c2 h1 h2
  refine bind0 e0 ?_
  cases b with
  | true => exact pos rfl (ret _)
  | false =>
    refine neg (by simp) ?_
    obtain ⟨k1, k2⟩ := hb rfl
    obtain ⟨i, s, o, r, d1, ls, lo, r0, r1⟩ := drawOW (byte_in w1) k1
    obtain ⟨n, b, f1, f2, f3, f4⟩ := ow_ev i s o r
    obtain ⟨i', s', o', d, d2⟩ := drawNA (byte_in w2) k2
    obtain ⟨l, b', g1, g2, g3⟩ := na_ev i' s' o' d
    have hbb : ∀ b : Bool, (b != b) = false := fun b => by cases b <;> rfl
    refine bind d1 (bind f2 (bind f1 ?_))
    simp only [hbb]
    refine neg (by simp) (neg (by simp) (bind (a := .inr ()) ?_ ?_))
    · cases b with
      | false => exact bind0 rfl (neg (by simp) (ret _))
      | true =>
        refine bind0 (a := decide (r < 46)) rfl ?_
        obtain ⟨q1, q2⟩ := f3.1 rfl
        by_cases c : r < 46
        · obtain ⟨n', b2, u1, u2, u3, u4⟩ := ow_ev i s o (r + 1)
          have hb2 : b2 = true := u3.2 ⟨q1, by omega, by omega⟩
          subst hb2
          rw [w64_id (x := r + 1) (by omega)]
          have m1 := f4 rfl
          have m2 := u4 rfl
          have m3 := cnt_mono i.toNat s o r
          exact pos (decide_eq_true c) (bind u2 (pos rfl (neg (by omega) (ret _))))
        · exact neg (by simpa using c) (ret _)
    · refine bind d2 (bind g2 (bind g1 ?_))
      simp only [hbb]
      refine neg (by simp) (bind0 (rSame_refl l) (pos rfl ?_))
      cases b' with
      | false => exact bind0 rfl (neg (by simp) (ret _))
      | true =>
        refine bind0 (a := decide (d = (s'.length : Int))) rfl ?_
        by_cases c : d = (s'.length : Int)
        · obtain ⟨I, rfl, hf, D, rfl, rfl⟩ := g3 rfl
          have hD : D = s'.length := by omega
          subst hD
          have hu : ∀ v, use (iota s'.length) s' 0 v = false := fun v => use_all s'.length s' 0 v (by omega)
          refine pos (decide_eq_true c) (bind0 (low_l0 o' _ (fun y hy => ?_) 0) (bind0 (low_l1 _ o' (fun y hy => ?_) 0) (ret _)))
          · have := (vals_mem.1 hy).2
            unfold nd at this
            rw [hu, Bool.or_false, Bool.and_eq_true, decide_eq_true_eq] at this
            exact this.2
          · have hr := hf.os y hy
            refine vals_mem.2 ⟨by omega, ?_⟩
            unfold nd
            rw [decide_eq_true hy, Bool.true_or, Bool.and_true]
            by_cases c2 : y < (I : Int)
            · rw [decide_eq_true c2, Bool.true_or]
            · rw [decide_eq_true (show y - (I : Int) ∈ iota s'.length from iota_mem.2 (by omega)), Bool.or_true]
        · exact neg (by simpa using c) (ret _)
end Go.Proofs.Ytdicngjloiphkaa.Pure
