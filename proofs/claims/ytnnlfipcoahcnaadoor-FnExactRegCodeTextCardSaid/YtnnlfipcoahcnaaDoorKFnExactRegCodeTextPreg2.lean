/- Pure: code of registers: the reference's plan. -/
import Derived.Test.YtnnlfipcoahcnaaDoorKFnExactRegCodeTextPreg
set_option linter.unusedVariables false
set_option linter.unusedSimpArgs false
namespace Go.Proofs.YtnnlfipcoahcnaaDoor.Pure
open Go.RowKit Go.Proofs.YtnnlfipcoahcnaaDoor.E Go.Proofs.YtnnlfipcoahcnaaDoor.P3 Go.Proofs.YtnnlfipcoahcnaaDoor.Frame Go.Proofs.YtnnlfipcoahcnaaDoorW.PrintLast Go.Proofs.YtnnlfipcoahcnaaDoorW.PrintMore
open Go.Proofs.YtnnlfipcoahcnaaDoorW.PrintWords hiding mn mx
theorem least_eq (a b : Int) : spec_l1Least.f a b = some (mn a b) := by
  unfold spec_l1Least.f mn
  split <;> split <;> simp <;> omega
theorem most_eq (a b : Int) : spec_l1Most.f a b = some (mx a b) := by
  unfold spec_l1Most.f mx
  split <;> split <;> simp <;> omega
theorem plStep_eq (a b : Int) : spec_plStep.f a b = some ⟨mn a b, mx a b⟩ := by
  unfold spec_plStep.f
  rw [least_eq, most_eq]
  rfl
/-- No number twice. -/
def dst (p : List Int) : List Int → Bool
  | [] => true
  | y :: ys => !decide (y ∈ p) && dst (p ++ [y]) ys
theorem shape_l0 (l ys p : List Int) (h : l = p ++ ys) : spec_reShape.l0 l ys (p.length : Int) = some (if dst p ys = true then .inr () else .inl false) := by
  induction ys generalizing p with
  | nil => rfl
  | cons y ys ih =>
    subst h
    simp only [spec_reShape.l0, dst]
    rw [ct_take _ _ (by simp), List.take_left' rfl]
    simp only [Option.bind_some, l1Has_eq]
    by_cases c : y ∈ p
    · simp [c]
    · have := ih (p ++ [y]) (by simp)
      rw [List.length_append, List.length_singleton, show ((p.length + 1 : Nat) : Int) = (p.length : Int) + 1 by omega] at this
      rw [if_neg (by simpa using c), this]
      simp [c]
def opIn (n : Nat) (y : SRegOp) : Bool := hs n y.f0 && (hs n y.f1 && hs n y.f2)
theorem aB_hs (n : Nat) (hn : 1 ≤ n) (hi : Int) (h : hi = (n : Int) - 1) (l : List Int) : aB 0 hi l = l.all (hs n) := by
  subst h
  unfold aB hs
  congr 1
  funext y
  by_cases c : 0 ≤ y ∧ y < (n : Int)
  · rw [decide_eq_true c, decide_eq_true (by omega)]
  · rw [decide_eq_false c, decide_eq_false (by omega)]
theorem shape_l1 (n : Nat) (hn : 1 ≤ n ∧ n ≤ 46) (ys : List SRegOp) (j : Int) : spec_reShape.l1 (n : Int) ys j = some (if ys.all (opIn n) = true then .inr () else .inl false) := by
  induction ys generalizing j with
  | nil => rfl
  | cons y ys ih =>
    simp only [spec_reShape.l1]
    rw [l1All_eq, aB_hs n hn.1 _ (w64_id (by omega)), Option.bind_some]
    have e : [y.f0, y.f1, y.f2].all (hs n) = opIn n y := by simp [opIn]
    rw [e, ih, List.all_cons]
    cases opIn n y <;> rfl
def shB (n : Nat) (l1 : List Int) (l2 : List SRegOp) (l3 : List Int) : Bool := decide (1 ≤ l1.length ∧ l1.length ≤ 6) && (decide (l2.length ≤ 40) && (decide (l3.length ≤ 6) && (dst [] l1 && (l2.all (opIn n) && (l1.all (hs n) && l3.all (hs n))))))
theorem shape_eq (n : Nat) (hn : 1 ≤ n ∧ n ≤ 46) (l1 : List Int) (l2 : List SRegOp) (l3 : List Int) : spec_reShape.f (n : Int) l1 l2 l3 = some (shB n l1 l2 l3) := by
  unfold spec_reShape.f shB
  rw [l1In_eq, l1In_eq, decide_eq_true (by omega), Option.bind_some, Option.bind_some, if_pos rfl]
  by_cases c1 : 1 ≤ l1.length ∧ l1.length ≤ 6
  · rw [decide_eq_true c1, decide_eq_true (by omega), if_pos rfl, Bool.true_and]
    by_cases c2 : l2.length ≤ 40
    · rw [if_neg (by omega), decide_eq_true c2, Bool.true_and]
      by_cases c3 : l3.length ≤ 6
      · rw [if_neg (by omega), decide_eq_true c3, Bool.true_and]
        have := shape_l0 l1 l1 [] rfl
        rw [show (([] : List Int).length : Int) = 0 from rfl] at this
        rw [this, Option.bind_some, shape_l1 n hn]
        cases dst [] l1 with
        | false => rfl
        | true =>
          simp only [if_true, Option.bind_some, Bool.true_and]
          cases l2.all (opIn n) with
          | false => rfl
          | true =>
            simp only [if_true, Bool.true_and]
            rw [l1All_eq, l1All_eq, aB_hs n hn.1 _ (w64_id (by omega)), aB_hs n hn.1 _ (w64_id (by omega))]
            cases l1.all (hs n) <;> rfl
      · rw [if_pos (by omega), decide_eq_false c3, Bool.false_and]
    · rw [if_pos (by omega), decide_eq_false c2, Bool.false_and]
  · rw [decide_eq_false c1, decide_eq_false (by omega), Bool.false_and]
    rfl
def insS : List Int → List Int → Int → List Int
  | [], l, _ => l
  | y :: ys, l, i => insS ys (l.set y.toNat i) (i + 1)
theorem insS_len (ys l : List Int) (i : Int) : (insS ys l i).length = l.length := by
  induction ys generalizing l i with
  | nil => rfl
  | cons y ys ih => rw [insS, ih]; simp
theorem insS_low (ys l : List Int) (i : Int) (hi : 0 ≤ i) (h : Low l) : Low (insS ys l i) := by
  induction ys generalizing l i with
  | nil => exact h
  | cons y ys ih => exact ih _ (i + 1) (by omega) (h.set (by omega))
theorem values_l1 (n : Nat) (ys l : List Int) (i : Int) (hl : l.length = n) (h : ys.all (hs n) = true) : spec_reValues.l1 ys l i = some (insS ys l i) := by
  induction ys generalizing l i with
  | nil => rfl
  | cons y ys ih =>
    simp only [List.all_cons, Bool.and_eq_true] at h
    have q := hs_iff.1 h.1
    simp only [spec_reValues.l1, insS]
    rw [rg_gt q.1 (by omega), rg_st q.1 (by omega), Option.bind_some, Option.bind_some]
    exact ih _ (i + 1) (by simpa using hl) h.2
theorem insGo_of (n : Nat) (ys l p : List Int) (i : Int) (hl : l.length = n) (h : ys.all (hs n) = true) (hd : dst p ys = true) (hp : ∀ r, hs n r = true → r ∉ p → rg l r = -1) : insGo n ys l i = some (insS ys l i) := by
  induction ys generalizing l p i with
  | nil => rfl
  | cons y ys ih =>
    simp only [List.all_cons, Bool.and_eq_true] at h
    simp only [dst, Bool.and_eq_true, Bool.not_eq_true', decide_eq_false_iff_not] at hd
    have q := hs_iff.1 h.1
    simp only [insGo, insS]
    rw [if_pos ⟨h.1, hp y h.1 hd.1⟩]
    refine ih _ (p ++ [y]) (i + 1) (by simpa using hl) h.2 hd.2 (fun r hr hn => ?_)
    have qr := hs_iff.1 hr
    rw [rg_set qr.1 (by omega) q.1, if_neg (fun e => hn (by rw [e]; simp))]
    exact hp r hr (fun hm => hn (List.mem_append_left _ hm))
theorem insGo_in (n : Nat) (ys l p : List Int) (i : Int) (hi : 0 ≤ i) (hl : l.length = n) (hp : ∀ r ∈ p, hs n r = true ∧ rg l r ≠ -1) (a : List Int) (h : insGo n ys l i = some a) : ys.all (hs n) = true ∧ dst p ys = true := by
  induction ys generalizing l p i with
  | nil => exact ⟨rfl, rfl⟩
  | cons y ys ih =>
    simp only [insGo] at h
    split at h
    · rename_i c
      have q := hs_iff.1 c.1
      have := ih (l.set y.toNat i) (p ++ [y]) (i + 1) (by omega) (by simpa using hl) (fun r hr => by
        have hr' : hs n r = true ∧ (r = y ∨ rg l r ≠ -1) := by
          rcases List.mem_append.1 hr with g | g
          · exact ⟨(hp r g).1, .inr (hp r g).2⟩
          · rw [List.mem_singleton.1 g]
            exact ⟨c.1, .inl rfl⟩
        refine ⟨hr'.1, ?_⟩
        have qr := hs_iff.1 hr'.1
        rw [rg_set qr.1 (by omega) q.1]
        split
        · omega
        · rename_i e
          exact hr'.2.resolve_left (fun g => e g.symm)) h
      refine ⟨by simp [c.1, this.1], ?_⟩
      have hn : y ∉ p := fun hm => (hp y hm).2 c.2
      simp [dst, hn, this.2]
    · cases h
theorem opsGo_in (n : Nat) (m : Int) (ys : List SRegOp) (l : List Int) (s : List SStep) (a : List Int × List SStep) (h : opsGo n m ys l s = some a) : ys.all (opIn n) = true := by
  induction ys generalizing l s with
  | nil => rfl
  | cons y ys ih =>
    simp only [opsGo] at h
    split at h
    · rename_i c
      have := ih _ _ h
      simp [opIn, c.1.1, c.1.2.1, c.1.2.2, this]
    · cases h
theorem opsGo_low (n : Nat) (m : Int) (hm : 0 ≤ m) (ys : List SRegOp) (l : List Int) (s : List SStep) (hl : Low l) (a : List Int × List SStep) (h : opsGo n m ys l s = some a) : Low a.1 ∧ a.1.length = l.length ∧ a.2.length = s.length + ys.length := by
  induction ys generalizing l s with
  | nil =>
    simp only [opsGo, Option.some.injEq] at h
    subst h
    exact ⟨hl, rfl, rfl⟩
  | cons y ys ih =>
    simp only [opsGo] at h
    split at h
    · have := ih _ _ (hl.set (by omega)) h
      rw [List.length_set, List.length_append, List.length_singleton] at this
      rw [List.length_cons]
      exact ⟨this.1, this.2.1, by omega⟩
    · cases h
theorem outsGo_in (n : Nat) (l ys o a : List Int) (h : outsGo n l ys o = some a) : ys.all (hs n) = true ∧ a.length = o.length + ys.length := by
  induction ys generalizing o with
  | nil =>
    simp only [outsGo, Option.some.injEq] at h
    subst h
    exact ⟨rfl, rfl⟩
  | cons y ys ih =>
    simp only [outsGo] at h
    split at h
    · rename_i c
      have := ih _ h
      rw [List.length_append, List.length_singleton] at this
      exact ⟨by simp [c.1, this.1], by rw [List.length_cons]; omega⟩
    · cases h
theorem values_l2 (n : Nat) (l1 : List Int) (hm : l1.length ≤ 1000) (ys : List SRegOp) (l : List Int) (s : List SStep) (j : Int) (hl : l.length = n) (hlow : Low l) (h : ys.all (opIn n) = true) (hb : s.length + ys.length ≤ 1000) : spec_reValues.l2 l1 ys l s j = some (match opsGo n (l1.length : Int) ys l s with | none => .inl ([], [], false) | some a => .inr a) := by
  induction ys generalizing l s j with
  | nil => rfl
  | cons y ys ih =>
    simp only [List.all_cons, Bool.and_eq_true] at h
    have h0 := h.1
    simp only [opIn, Bool.and_eq_true] at h0
    simp only [List.length_cons] at hb
    have q0 := hs_iff.1 h0.1
    have q1 := hs_iff.1 h0.2.1
    have q2 := hs_iff.1 h0.2.2
    have w1 := hlow.at q1.1 (by omega)
    have w2 := hlow.at q2.1 (by omega)
    simp only [spec_reValues.l2, opsGo]
    rw [rg_gt (l := l) q0.1 (by omega), rg_gt (l := l) q1.1 (by omega), rg_gt (l := l) q2.1 (by omega), h0.1, h0.2.1, h0.2.2]
    by_cases c1 : rg l y.f1 = -1
    · simp only [c1, Option.bind_some, ne_eq, not_true_eq_false, false_and, and_false, if_false]
      rfl
    · by_cases c2 : rg l y.f2 = -1
      · have e1 : ¬ rg l y.f1 < 0 := by omega
        simp only [c2, e1, Option.bind_some, ne_eq, not_true_eq_false, and_false, if_false]
        rfl
      · have e1 : ¬ rg l y.f1 < 0 := by omega
        have e2 : ¬ rg l y.f2 < 0 := by omega
        simp only [c1, c2, e1, e2, Option.bind_some, ne_eq, not_false_eq_true, and_self, if_true, if_false, decide_false, Bool.false_eq_true, plStep_eq]
        rw [ap_ok (by simp; omega)]
        simp only [Option.bind_some]
        rw [List.length_append, List.length_singleton, w64_id (x := (l1.length : Int) + ((s.length + 1 : Nat) : Int)) (by omega), w64_id (by omega), rg_st q0.1 (by omega), Option.bind_some, show (l1.length : Int) + ((s.length + 1 : Nat) : Int) - 1 = (l1.length : Int) + (s.length : Int) by omega]
        exact ih _ _ (j + 1) (by simpa using hl) (hlow.set (by omega)) h.2 (by rw [List.length_append, List.length_singleton]; omega)
theorem plan_l0 (n : Nat) (l ys o : List Int) (j : Int) (hl : l.length = n) (hlow : Low l) (h : ys.all (hs n) = true) (hb : o.length + ys.length ≤ 1000) : spec_rePlan.l0 l ys o j = some (match outsGo n l ys o with | none => .inl nul | some a => .inr a) := by
  induction ys generalizing o j with
  | nil => rfl
  | cons y ys ih =>
    simp only [List.all_cons, Bool.and_eq_true] at h
    simp only [List.length_cons] at hb
    have q := hs_iff.1 h.1
    have w := hlow.at q.1 (by omega)
    simp only [spec_rePlan.l0, outsGo]
    rw [rg_gt (l := l) q.1 (by omega), h.1]
    by_cases c : rg l y = -1
    · simp only [c, Option.bind_some, ne_eq, not_true_eq_false, and_false, if_false]
      rfl
    · have e : ¬ rg l y < 0 := by omega
      simp only [c, e, Option.bind_some, ne_eq, not_false_eq_true, and_self, if_true, if_false]
      rw [ap_ok (by simp; omega), Option.bind_some]
      exact ih _ (j + 1) h.2 (by rw [List.length_append, List.length_singleton]; omega)
theorem values_l0 (n : Nat) (hn : n ≤ 1000) : Ev (fun k => spec_reValues.l0 (n : Int) k [] 0) (no n) := by
  have key : ∀ (d j : Nat), j + d = n → Ev (fun k => spec_reValues.l0 (n : Int) k (no j) (j : Int)) (no n) := by
    intro d
    induction d with
    | zero =>
      intro j hj
      obtain rfl : j = n := by omega
      refine shift ?_
      simp only [spec_reValues.l0]
      exact neg (by omega) (ret _)
    | succ d ih =>
      intro j hj
      refine shift ?_
      simp only [spec_reValues.l0]
      rw [w64_succ (by omega)]
      refine pos (by omega) (bind0 (ap_ok (by simp [no]; omega)) ?_)
      have := ih (j + 1) (by omega)
      rw [show no (j + 1) = no j ++ [-1] from List.replicate_succ' ..] at this
      exact this
  exact key n 0 (by omega)
theorem no_low (n : Nat) : Low (no n) := fun x hx => by
  rw [List.eq_of_mem_replicate hx]
  omega
theorem no_rg {n : Nat} {r : Int} (h : hs n r = true) : rg (no n) r = -1 := by
  have q := hs_iff.1 h
  unfold rg no
  rw [List.getD_eq_getElem?_getD, List.getElem?_replicate, if_pos (by omega)]
  rfl
/-- The reference has the same plan. -/
theorem rePlan_ev (a : Int) (l1 : List Int) (l2 : List SRegOp) (l3 : List Int) : ∃ r, Ev (fun k => spec_rePlan.f k a l1 l2 l3) r ∧ ((∃ s o, codeP a l1 l2 l3 = some (s, o) ∧ r = ((l1.length : Int), s, o, true)) ∨ (codeP a l1 l2 l3 = none ∧ r.2.2.2 = false)) := by
  unfold spec_rePlan.f
  by_cases ha : 1 ≤ a ∧ a ≤ 46
  · obtain ⟨n, rfl⟩ := Int.eq_ofNat_of_zero_le (show 0 ≤ a by omega)
    have hr : regs (n : Int) = n := by have := regs_in ha; omega
    have hsh := shape_eq n (by omega) l1 l2 l3
    cases hb : shB n l1 l2 l3 with
    | false =>
      rw [hb] at hsh
      refine ⟨_, bind0 hsh (neg (by simp) (ret _)), .inr ⟨?_, rfl⟩⟩
      cases hc : codeP (n : Int) l1 l2 l3 with
      | none => rfl
      | some q =>
        exfalso
        unfold codeP rdGo at hc
        rw [hr] at hc
        split at hc
        · rename_i hlen
          split at hc
          · cases hc
          · rename_i s o hrd
            split at hc
            · rename_i hg
              split at hrd
              · cases hrd
              · rename_i la hi
                split at hrd
                · cases hrd
                · rename_i lb sb ho
                  split at hrd
                  · cases hrd
                  · rename_i ob hu
                    obtain ⟨i1, i2⟩ := insGo_in n l1 (no n) [] 0 (by omega) (by simp [no]) (fun r hm => by cases hm) la hi
                    have i3 := opsGo_in n _ l2 la [] _ ho
                    have i4 := (outsGo_in n lb l3 [] ob hu).1
                    unfold good at hg
                    simp only [Bool.and_eq_true, decide_eq_true_eq] at hg
                    have : shB n l1 l2 l3 = true := by
                      unfold shB
                      rw [i1, i2, i3, i4, decide_eq_true (show 1 ≤ l1.length ∧ l1.length ≤ 6 by omega), decide_eq_true hlen.1.2.1, decide_eq_true hlen.1.2.2]
                      rfl
                    rw [this] at hb
                    cases hb
            · cases hc
        · cases hc
    | true =>
      rw [hb] at hsh
      unfold shB at hb
      simp only [Bool.and_eq_true, decide_eq_true_eq] at hb
      obtain ⟨b1, b2, b3, b4, b5, b6, b7⟩ := hb
      have ei := insGo_of n l1 (no n) [] 0 (by simp [no]) b6 b4 (fun r h _ => no_rg h)
      have hlow := insS_low l1 (no n) 0 (by omega) (no_low n)
      have hlen : (insS l1 (no n) 0).length = n := by rw [insS_len]; simp [no]
      have ev := values_l2 n l1 (by omega) l2 (insS l1 (no n) 0) [] 0 hlen hlow b5 (by simp; omega)
      have hval : ∀ q, (match opsGo n (l1.length : Int) l2 (insS l1 (no n) 0) [] with | none => (([], [], false) : List Int × List SStep × Bool) | some (l, s) => (l, s, true)) = q → Ev (fun k => spec_reValues.f k (n : Int) l1 l2 l3 (l2.length : Int)) q := by
        rintro q rfl
        unfold spec_reValues.f
        refine bind (values_l0 n (by omega)) (bind0 (values_l1 n l1 (no n) 0 (by simp [no]) b6) (bind0 (ct_take l2 l2.length (Nat.le_refl _)) ?_))
        rw [List.take_of_length_le (Nat.le_refl _)]
        refine bind0 ev (now ?_)
        cases opsGo n (l1.length : Int) l2 (insS l1 (no n) 0) [] <;> rfl
      unfold codeP rdGo
      rw [hr, ei, if_pos ⟨⟨b1.2, b2, b3⟩, ha⟩]
      simp only
      cases ho : opsGo n (l1.length : Int) l2 (insS l1 (no n) 0) [] with
      | none =>
        rw [ho] at hval
        exact ⟨_, bind0 hsh (pos rfl (bind (hval _ rfl) (neg (by simp) (ret _)))), .inr ⟨rfl, rfl⟩⟩
      | some q =>
        obtain ⟨l, s⟩ := q
        rw [ho] at hval
        obtain ⟨w1, w2, w3⟩ := opsGo_low n _ (by omega) l2 _ [] hlow _ ho
        have eo := plan_l0 n l l3 [] 0 (by rw [w2, hlen]) w1 b7 (by simp; omega)
        simp only
        cases hu : outsGo n l l3 [] with
        | none =>
          rw [hu] at eo
          exact ⟨_, bind0 hsh (pos rfl (bind (hval _ rfl) (pos rfl (bind0 eo (ret _))))), .inr ⟨rfl, rfl⟩⟩
        | some o =>
          rw [hu] at eo
          refine ⟨((l1.length : Int), s, o, good (l1.length : Int) s o), bind0 hsh (pos rfl (bind (hval _ rfl) (pos rfl (bind0 eo (bind (plGood_ev _ s o) (ret _)))))), ?_⟩
          cases hg : good (l1.length : Int) s o with
          | true =>
            refine .inl ⟨s, o, ?_, rfl⟩
            show (if good (l1.length : Int) s o = true then some (s, o) else none) = some (s, o)
            rw [hg]
            rfl
          | false =>
            refine .inr ⟨?_, rfl⟩
            show (if good (l1.length : Int) s o = true then some (s, o) else none) = none
            rw [hg]
            rfl
  · have hsh : spec_reShape.f a l1 l2 l3 = some false := by
      unfold spec_reShape.f
      rw [l1In_eq, decide_eq_false ha]
      rfl
    refine ⟨_, bind0 hsh (neg (by simp) (ret _)), .inr ⟨?_, rfl⟩⟩
    unfold codeP
    rw [if_neg (fun q => ha q.2)]
end Go.Proofs.YtnnlfipcoahcnaaDoor.Pure
