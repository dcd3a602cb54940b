/- Pure: code of registers: its plan, on both sides. -/
import Derived.Test.YtnnlfipcoahcnaaDoorKFnExactRegCodeTextPord
set_option linter.unusedVariables false
set_option linter.unusedSimpArgs false
namespace Go.Proofs.YtnnlfipcoahcnaaDoor.Pure
open Go.RowKit Go.Proofs.YtnnlfipcoahcnaaDoor.E Go.Proofs.YtnnlfipcoahcnaaDoor.P3 Go.Proofs.YtnnlfipcoahcnaaDoor.Frame Go.Proofs.YtnnlfipcoahcnaaDoorW.PrintLast Go.Proofs.YtnnlfipcoahcnaaDoorW.PrintMore
open Go.Proofs.YtnnlfipcoahcnaaDoorW.PrintWords hiding mn mx
open Go.Proofs.YtnnlfipcoahcnaaDoor.Hand
def rg (l : List Int) (r : Int) : Int := l.getD r.toNat 0
theorem rg_gt {l : List Int} {r : Int} (h0 : 0 ≤ r) (h1 : r < (l.length : Int)) : gt l r = some (rg l r) := by
  unfold gt rg
  rw [if_pos h0, List.getD_eq_getElem?_getD, List.getElem?_eq_getElem (by omega)]
  rfl
theorem rg_st {l : List Int} {r v : Int} (h0 : 0 ≤ r) (h1 : r < (l.length : Int)) : st l r v = some (l.set r.toNat v) := by
  unfold st
  rw [if_pos (by omega)]
theorem rg_set {l : List Int} {x r v : Int} (h0 : 0 ≤ r) (h1 : r < (l.length : Int)) (hx : 0 ≤ x) : rg (l.set x.toNat v) r = if x = r then v else rg l r := by
  unfold rg
  rw [List.getD_eq_getElem?_getD, List.getD_eq_getElem?_getD, List.getElem?_set]
  by_cases h : x = r
  · subst h
    rw [if_pos rfl, if_pos (by omega), if_pos rfl]
    rfl
  · rw [if_neg (by omega), if_neg h]
def Low (l : List Int) : Prop := ∀ x ∈ l, -1 ≤ x
theorem Low.at {l : List Int} (h : Low l) {r : Int} (h0 : 0 ≤ r) (h1 : r < (l.length : Int)) : -1 ≤ rg l r := by
  unfold rg
  rw [List.getD_eq_getElem?_getD, List.getElem?_eq_getElem (by omega)]
  exact h _ (List.getElem_mem _)
theorem Low.set {l : List Int} (h : Low l) {x : Nat} {v : Int} (hv : -1 ≤ v) : Low (l.set x v) := fun y hy => by
  rcases List.mem_or_eq_of_mem_set hy with g | g
  · exact h y g
  · rw [g]
    exact hv
/-- Is a register there? -/
def hs (n : Nat) (r : Int) : Bool := decide (0 ≤ r ∧ r < (n : Int))
theorem hs_iff {n : Nat} {r : Int} : hs n r = true ↔ 0 ≤ r ∧ r < (n : Int) := by simp [hs]
theorem read1_eq (r : Int) (l : List Int) (n : Nat) (hl : l.length = n) (hn : n ≤ 1000) : impl_RegCode_read_1.f r l = some (hs n r) := by
  unfold impl_RegCode_read_1.f
  rw [in_eq, hl, w64_id (by omega), Option.bind_some]
  congr 1
  unfold hs
  by_cases h : 0 ≤ r ∧ r < (n : Int)
  · rw [decide_eq_true h, decide_eq_true (by omega)]
  · rw [decide_eq_false h, decide_eq_false (by omega)]
def insGo (n : Nat) : List Int → List Int → Int → Option (List Int)
  | [], l, _ => some l
  | y :: ys, l, i => if hs n y = true ∧ rg l y = -1 then insGo n ys (l.set y.toNat i) (i + 1) else none
def opsGo (n : Nat) (m : Int) : List SRegOp → List Int → List SStep → Option (List Int × List SStep)
  | [], l, s => some (l, s)
  | y :: ys, l, s => if (hs n y.f0 = true ∧ hs n y.f1 = true ∧ hs n y.f2 = true) ∧ rg l y.f1 ≠ -1 ∧ rg l y.f2 ≠ -1 then opsGo n m ys (l.set y.f0.toNat (m + (s.length : Int))) (s ++ [⟨mn (rg l y.f1) (rg l y.f2), mx (rg l y.f1) (rg l y.f2)⟩]) else none
def outsGo (n : Nat) (l : List Int) : List Int → List Int → Option (List Int)
  | [], o => some o
  | y :: ys, o => if hs n y = true ∧ rg l y ≠ -1 then outsGo n l ys (o ++ [rg l y]) else none
def nul : Int × List SStep × List Int × Bool := (0, [], [], false)
theorem impl_ins (n : Nat) (hn : n ≤ 1000) (ys l : List Int) (i : Int) (hl : l.length = n) : impl_RegCode_read.l0 ys l i = some (match insGo n ys l i with | none => .inl nul | some a => .inr a) ∧ ∀ a, insGo n ys l i = some a → a.length = n := by
  induction ys generalizing l i with
  | nil => exact ⟨rfl, fun a h => by cases h; exact hl⟩
  | cons y ys ih =>
    simp only [impl_RegCode_read.l0, insGo]
    rw [read1_eq y l n hl hn]
    by_cases h1 : hs n y = true
    · have h1' := hs_iff.1 h1
      have hg := rg_gt (l := l) h1'.1 (by omega)
      rw [hg, rg_st h1'.1 (by omega), h1]
      by_cases h2 : rg l y = -1
      · simp only [Option.bind_some, if_true, if_false, ne_eq, not_true_eq_false, not_false_eq_true, decide_true, decide_false, Bool.false_eq_true, and_true, true_and, and_self, false_and, and_false, h2]
        exact ih (l.set y.toNat i) (i + 1) (by simpa using hl)
      · simp only [Option.bind_some, if_true, if_false, ne_eq, not_true_eq_false, not_false_eq_true, decide_true, decide_false, Bool.false_eq_true, and_true, true_and, and_self, false_and, and_false, h2]
        exact ⟨rfl, fun a h => nomatch h⟩
    · have h1' : hs n y = false := by simpa using h1
      rw [h1']
      simp only [Option.bind_some, if_true, if_false, ne_eq, not_true_eq_false, not_false_eq_true, decide_true, decide_false, Bool.false_eq_true, and_true, true_and, and_self, false_and, and_false]
      exact ⟨rfl, fun a h => nomatch h⟩
theorem impl_ops (n : Nat) (hn : n ≤ 1000) (l1 : List Int) (hm : l1.length ≤ 1000) (ys : List SRegOp) (l : List Int) (s : List SStep) (i : Int) (hl : l.length = n) (hb : s.length + ys.length ≤ 1000) : impl_RegCode_read.l1 l1 ys l s i = some (match opsGo n (l1.length : Int) ys l s with | none => .inl nul | some a => .inr a) ∧ ∀ a, opsGo n (l1.length : Int) ys l s = some a → a.1.length = n ∧ a.2.length = s.length + ys.length := by
  induction ys generalizing l s i with
  | nil => exact ⟨rfl, fun a h => by cases h; exact ⟨hl, rfl⟩⟩
  | cons y ys ih =>
    simp only [List.length_cons] at hb
    simp only [impl_RegCode_read.l1, opsGo]
    rw [read1_eq y.f0 l n hl hn, read1_eq y.f1 l n hl hn, read1_eq y.f2 l n hl hn]
    by_cases h1 : hs n y.f0 = true ∧ hs n y.f1 = true ∧ hs n y.f2 = true
    · have q0 := hs_iff.1 h1.1
      have q1 := hs_iff.1 h1.2.1
      have q2 := hs_iff.1 h1.2.2
      rw [rg_gt (l := l) q0.1 (by omega), rg_gt (l := l) q1.1 (by omega), rg_gt (l := l) q2.1 (by omega), h1.1, h1.2.1, h1.2.2]
      by_cases h2 : rg l y.f1 = -1
      · simp only [Option.bind_some, if_true, if_false, ne_eq, not_true_eq_false, not_false_eq_true, decide_true, decide_false, Bool.false_eq_true, and_true, true_and, and_self, false_and, and_false, h2]
        exact ⟨rfl, fun a h => nomatch h⟩
      · by_cases h3 : rg l y.f2 = -1
        · simp only [Option.bind_some, if_true, if_false, ne_eq, not_true_eq_false, not_false_eq_true, decide_true, decide_false, Bool.false_eq_true, and_true, true_and, and_self, false_and, and_false, h2, h3]
          exact ⟨rfl, fun a h => nomatch h⟩
        · simp only [Option.bind_some, if_true, if_false, ne_eq, not_true_eq_false, not_false_eq_true, decide_true, decide_false, Bool.false_eq_true, and_true, true_and, and_self, false_and, and_false, h2, h3]
          simp only [impl_step.f, impl_Plan_many.f, Option.bind_some]
          rw [ap_ok (by simp; omega)]
          simp only [Option.bind_some]
          rw [List.length_append, List.length_singleton, w64_id (x := (l1.length : Int) + ((s.length + 1 : Nat) : Int)) (by omega), w64_id (by omega), rg_st q0.1 (by omega), Option.bind_some, show (l1.length : Int) + ((s.length + 1 : Nat) : Int) - 1 = (l1.length : Int) + (s.length : Int) by omega]
          have := ih (l.set y.f0.toNat ((l1.length : Int) + (s.length : Int))) (s ++ [⟨mn (rg l y.f1) (rg l y.f2), mx (rg l y.f1) (rg l y.f2)⟩]) (i + 1) (by simpa using hl) (by rw [List.length_append, List.length_singleton]; omega)
          rw [List.length_append, List.length_singleton] at this
          refine ⟨this.1, fun a h => ?_⟩
          have h9 := this.2 a h
          rw [List.length_cons]
          omega
    · cases e0 : hs n y.f0 with
      | false =>
        simp only [Option.bind_some, if_true, if_false, ne_eq, not_true_eq_false, not_false_eq_true, decide_true, decide_false, Bool.false_eq_true, and_true, true_and, and_self, false_and, and_false]
        exact ⟨rfl, fun a h => nomatch h⟩
      | true =>
        cases e1 : hs n y.f1 with
        | false =>
          simp only [Option.bind_some, if_true, if_false, ne_eq, not_true_eq_false, not_false_eq_true, decide_true, decide_false, Bool.false_eq_true, and_true, true_and, and_self, false_and, and_false]
          exact ⟨rfl, fun a h => nomatch h⟩
        | true =>
          cases e2 : hs n y.f2 with
          | false =>
            simp only [Option.bind_some, if_true, if_false, ne_eq, not_true_eq_false, not_false_eq_true, decide_true, decide_false, Bool.false_eq_true, and_true, true_and, and_self, false_and, and_false]
            exact ⟨rfl, fun a h => nomatch h⟩
          | true => exact absurd ⟨e0, e1, e2⟩ h1
theorem impl_outs (n : Nat) (hn : n ≤ 1000) (l ys o : List Int) (i : Int) (hl : l.length = n) (hb : o.length + ys.length ≤ 1000) : impl_RegCode_read.l2 l ys o i = some (match outsGo n l ys o with | none => .inl nul | some a => .inr a) := by
  induction ys generalizing o i with
  | nil => rfl
  | cons y ys ih =>
    simp only [List.length_cons] at hb
    simp only [impl_RegCode_read.l2, outsGo]
    rw [read1_eq y l n hl hn]
    by_cases h1 : hs n y = true
    · have h1' := hs_iff.1 h1
      rw [rg_gt (l := l) h1'.1 (by omega), h1]
      by_cases h2 : rg l y = -1
      · simp only [Option.bind_some, if_true, if_false, ne_eq, not_true_eq_false, not_false_eq_true, decide_true, decide_false, Bool.false_eq_true, and_true, true_and, and_self, false_and, and_false, h2]
        rfl
      · simp only [Option.bind_some, if_true, if_false, ne_eq, not_true_eq_false, not_false_eq_true, decide_true, decide_false, Bool.false_eq_true, and_true, true_and, and_self, false_and, and_false, h2]
        rw [ap_ok (by simp; omega), Option.bind_some]
        exact ih _ (i + 1) (by rw [List.length_append, List.length_singleton]; omega)
    · have h1' : hs n y = false := by simpa using h1
      rw [h1']
      simp only [Option.bind_some, if_true, if_false, ne_eq, not_true_eq_false, not_false_eq_true, decide_true, decide_false, Bool.false_eq_true, and_true, true_and, and_self, false_and, and_false]
      rfl
def regs (a : Int) : Nat := (mx (mn a 46) 0).toNat
theorem regs_le (a : Int) : regs a ≤ 46 ∧ ((regs a : Nat) : Int) = mx (mn a 46) 0 := by
  unfold regs mx mn
  split <;> split <;> omega
theorem regs_in {a : Int} (h : 1 ≤ a ∧ a ≤ 46) : ((regs a : Nat) : Int) = a := by
  rw [(regs_le a).2]
  unfold mx mn
  split <;> split <;> omega
def no : Nat → List Int := fun n => List.replicate n (-1)
/-- What is read of code. -/
def rdGo (a : Int) (l1 : List Int) (l2 : List SRegOp) (l3 : List Int) : Option (List SStep × List Int) :=
  match insGo (regs a) l1 (no (regs a)) 0 with
  | none => none
  | some l => match opsGo (regs a) (l1.length : Int) l2 l [] with
    | none => none
    | some (l, s) => match outsGo (regs a) l l3 [] with
      | none => none
      | some o => some (s, o)
theorem read_eq (a : Int) (l1 : List Int) (l2 : List SRegOp) (l3 : List Int) (h1 : l1.length ≤ 6) (h2 : l2.length ≤ 40) (h3 : l3.length ≤ 6) : impl_RegCode_read.f a l1 l2 l3 = some (match rdGo a l1 l2 l3 with | none => nul | some (s, o) => ((l1.length : Int), s, o, decide (1 ≤ a ∧ a ≤ 46))) := by
  have hr := regs_le a
  have hrep : slices_Repeat_int_int.f ([(-1)] : List Int) (mx (mn a 46) 0) = some (no (regs a)) := by
    rw [← hr.2]
    unfold slices_Repeat_int_int.f
    rw [if_pos ⟨rfl, by omega, by omega⟩]
    rfl
  unfold impl_RegCode_read.f rdGo
  rw [hrep]
  simp only [Option.bind_some]
  obtain ⟨e1, e1l⟩ := impl_ins (regs a) (by omega) l1 (no (regs a)) 0 (by simp [no])
  rw [e1, Option.bind_some]
  cases c1 : insGo (regs a) l1 (no (regs a)) 0 with
  | none => rfl
  | some l =>
    obtain ⟨e2, e2l⟩ := impl_ops (regs a) (by omega) l1 (by omega) l2 l [] 0 (e1l l c1) (by simp; omega)
    simp only [e2, Option.bind_some]
    cases c2 : opsGo (regs a) (l1.length : Int) l2 l [] with
    | none => rfl
    | some q =>
      obtain ⟨l', s⟩ := q
      simp only [impl_outs (regs a) (by omega) l' l3 [] 0 (e2l _ c2).1 (by simp; omega), Option.bind_some]
      cases c3 : outsGo (regs a) l' l3 [] with
      | none => rfl
      | some o =>
        simp only [in_eq, Option.bind_some]
/-- The plan of code, if it is code. -/
def codeP (a : Int) (l1 : List Int) (l2 : List SRegOp) (l3 : List Int) : Option (List SStep × List Int) :=
  if (l1.length ≤ 6 ∧ l2.length ≤ 40 ∧ l3.length ≤ 6) ∧ (1 ≤ a ∧ a ≤ 46) then
    match rdGo a l1 l2 l3 with
    | none => none
    | some (s, o) => if good (l1.length : Int) s o = true then some (s, o) else none
  else none
theorem plan_ev (a : Int) (l1 : List Int) (l2 : List SRegOp) (l3 : List Int) : Ev (fun k => impl_RegCode_plan.f k a l1 l2 l3) (match codeP a l1 l2 l3 with | none => nul | some (s, o) => ((l1.length : Int), s, o, true)) := by
  unfold impl_RegCode_plan.f codeP
  by_cases h : l1.length ≤ 6 ∧ l2.length ≤ 40 ∧ l3.length ≤ 6
  · have e : (if 6 < (l1.length : Int) then (some true) else (if 40 < (l2.length : Int) then (some true) else (some (decide (6 < (l3.length : Int)))))) = some false := by
      rw [if_neg (by omega), if_neg (by omega), decide_eq_false (by omega)]
    refine bind0 e (neg (by simp) (bind0 (read_eq a l1 l2 l3 h.1 h.2.1 h.2.2) ?_))
    cases c : rdGo a l1 l2 l3 with
    | none =>
      have : (if (l1.length ≤ 6 ∧ l2.length ≤ 40 ∧ l3.length ≤ 6) ∧ (1 ≤ a ∧ a ≤ 46) then (none : Option (List SStep × List Int)) else none) = none := by split <;> rfl
      simp only [this]
      exact neg (by simp [nul]) (ret _)
    | some q =>
      obtain ⟨s, o⟩ := q
      simp only
      by_cases ha : 1 ≤ a ∧ a ≤ 46
      · rw [if_pos ⟨h, ha⟩]
        refine pos (decide_eq_true ha) (bind (a := if good (l1.length : Int) s o = true then ((l1.length : Int), s, o, true) else nul) ?_ ?_)
        · unfold impl_told.f
          refine bind (isPlan_ev _ s o) ?_
          cases hg : good (l1.length : Int) s o with
          | true => exact pos rfl (now (by simp))
          | false => exact neg (by simp) (now (by simp [nul]))
        · cases hg : good (l1.length : Int) s o with
          | true => exact now (by simp)
          | false => exact now (by simp [nul])
      · rw [if_neg (fun q => ha q.2)]
        exact neg (by simpa using ha) (ret _)
  · rw [if_neg (show ¬ ((l1.length ≤ 6 ∧ l2.length ≤ 40 ∧ l3.length ≤ 6) ∧ (1 ≤ a ∧ a ≤ 46)) from fun q => h q.1)]
    have e : (if 6 < (l1.length : Int) then (some true) else (if 40 < (l2.length : Int) then (some true) else (some (decide (6 < (l3.length : Int)))))) = some true := by
      by_cases c1 : 6 < (l1.length : Int)
      · rw [if_pos c1]
      · rw [if_neg c1]
        by_cases c2 : 40 < (l2.length : Int)
        · rw [if_pos c2]
        · rw [if_neg c2, decide_eq_true (by omega)]
    exact bind0 e (pos rfl (ret _))
end Go.Proofs.YtnnlfipcoahcnaaDoor.Pure
