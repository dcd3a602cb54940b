/- Pure: Preg, Preg2, Pval, Pcode, Prun, Pcf. -/
import Derived.Test.YtnnlfipcoahcnaaGreatDoorKFnRenamedRegistersPma
set_option linter.unusedVariables false
set_option linter.unusedSimpArgs false
namespace Go.Proofs.YtnnlfipcoahcnaaGreatDoor.Pure
open Go.RowKit Go.Proofs.YtnnlfipcoahcnaaGreatDoor.E Go.Proofs.YtnnlfipcoahcnaaGreatDoor.G3 Go.Proofs.YtnnlfipcoahcnaaGreatDoor.Frame Go.Proofs.YtnnlfipcoahcnaaGreatDoorW.PrintLast Go.Proofs.YtnnlfipcoahcnaaGreatDoorW.PrintMore
open Go.Proofs.YtnnlfipcoahcnaaGreatDoorW.PrintWords hiding mn mx
open Go.Proofs.YtnnlfipcoahcnaaGreatDoor.Hand
def rg (l : List Int) (r : Int) : Int := l.getD r.toNat 0
theorem rg_gt {l : List Int} {r : Int} (h0 : 0 ≤ r) (h1 : r < (l.length : Int)) : gt l r = some (rg l r) := by
 unfold gt rg
 rw [if_pos h0, List.getD_eq_getElem?_getD, List.getElem?_eq_getElem (by omega)]
 rfl
theorem rg_st {l : List Int} {r v : Int} (h0 : 0 ≤ r) (h1 : r < (l.length : Int)) : st l r v = some (l.set r.toNat v) := by
 unfold st
 rw [if_pos (by omega)]
theorem rg_set {l : List Int} {x r v : Int} (h0 : 0 ≤ r) (h1 : r < (l.length : Int)) (hx : 0 ≤ x) : rg (l.set x.toNat v) r = if x = r then v else rg l r := by
 unfold rg
 rw [List.getD_eq_getElem?_getD, List.getD_eq_getElem?_getD, List.getElem?_set]
 by_cases h : x = r
 ·subst h
  rw [if_pos rfl, if_pos (by omega), if_pos rfl]
  rfl
 ·rw [if_neg (by omega), if_neg h]
def Low (l : List Int) : Prop := ∀ x ∈ l, -1 ≤ x
theorem Low.at {l : List Int} (h : Low l) {r : Int} (h0 : 0 ≤ r) (h1 : r < (l.length : Int)) : -1 ≤ rg l r := by
 unfold rg
 rw [List.getD_eq_getElem?_getD, List.getElem?_eq_getElem (by omega)]
 exact h _ (List.getElem_mem _)
theorem Low.set {l : List Int} (h : Low l) {x : Nat} {v : Int} (hv : -1 ≤ v) : Low (l.set x v) := fun y hy => by
 rcases List.mem_or_eq_of_mem_set hy with g | g
 ·exact h y g
 ·rw [g]
  exact hv
/-- Is a register there? -/
def hs (n : Nat) (r : Int) : Bool := decide (0 ≤ r ∧ r < (n : Int))
theorem hs_iff {n : Nat} {r : Int} : hs n r = true ↔ 0 ≤ r ∧ r < (n : Int) := by simp [hs]
theorem read1_eq (r : Int) (l : List Int) (n : Nat) (hl : l.length = n) (hn : n ≤ 1000) : impl_RegCode_read_1.f r l = some (hs n r) := by
 unfold impl_RegCode_read_1.f
 rw [in_eq, hl, zb6 (by omega), Option.bind_some]
 congr 1
 unfold hs
 by_cases h : 0 ≤ r ∧ r < (n : Int)
 ·rw [decide_eq_true h, decide_eq_true (by omega)]
 ·rw [decide_eq_false h, decide_eq_false (by omega)]
def insGo (n : Nat) : List Int → List Int → Int → Option (List Int)
 | [], l, _ => some l
 | y :: ys, l, i => if hs n y = true ∧ rg l y = -1 then insGo n ys (l.set y.toNat i) (i + 1) else none
def opsGo (n : Nat) (m : Int) : List SRegOp → List Int → List SStep → Option (List Int × List SStep)
 | [], l, s => some (l, s)
 | y :: ys, l, s => if (hs n y.f0 = true ∧ hs n y.f1 = true ∧ hs n y.f2 = true) ∧ rg l y.f1 ≠ -1 ∧ rg l y.f2 ≠ -1 then opsGo n m ys (l.set y.f0.toNat (m + (s.length : Int))) (s ++ [⟨mn (rg l y.f1) (rg l y.f2), mx (rg l y.f1) (rg l y.f2)⟩]) else none
def outsGo (n : Nat) (l : List Int) : List Int → List Int → Option (List Int)
 | [], o => some o
 | y :: ys, o => if hs n y = true ∧ rg l y ≠ -1 then outsGo n l ys (o ++ [rg l y]) else none
def nul : Int × List SStep × List Int × Bool := (0, [], [], false)
theorem impl_ins (n : Nat) (hn : n ≤ 1000) (ys l : List Int) (i : Int) (hl : l.length = n) : impl_RegCode_read.l0 ys l i = some (match insGo n ys l i with | none => .inl nul | some a => .inr a) ∧ ∀ a, insGo n ys l i = some a → a.length = n := by
 induction ys generalizing l i with
 | nil => exact ⟨rfl, fun a h => by cases h; exact hl⟩
 | cons y ys ih =>
  simp only [impl_RegCode_read.l0, insGo]
  rw [read1_eq y l n hl hn]
  by_cases h1 : hs n y = true
  ·have h1' := hs_iff.1 h1
   have hg := rg_gt (l := l) h1'.1 (by omega)
   rw [hg, rg_st h1'.1 (by omega), h1]
   by_cases h2 : rg l y = -1
   ·simp only [Option.bind_some, if_true, if_false, ne_eq, not_true_eq_false, not_false_eq_true, decide_true, decide_false, Bool.false_eq_true, and_true, true_and, and_self, false_and, and_false, h2]
    exact ih (l.set y.toNat i) (i + 1) (by simpa using hl)
   ·simp only [Option.bind_some, if_true, if_false, ne_eq, not_true_eq_false, not_false_eq_true, decide_true, decide_false, Bool.false_eq_true, and_true, true_and, and_self, false_and, and_false, h2]
    exact ⟨rfl, fun a h => nomatch h⟩
  ·have h1' : hs n y = false := by simpa using h1
   rw [h1']
   simp only [Option.bind_some, if_true, if_false, ne_eq, not_true_eq_false, not_false_eq_true, decide_true, decide_false, Bool.false_eq_true, and_true, true_and, and_self, false_and, and_false]
   exact ⟨rfl, fun a h => nomatch h⟩
theorem impl_ops (n : Nat) (hn : n ≤ 1000) (l1 : List Int) (hm : l1.length ≤ 1000) (ys : List SRegOp) (l : List Int) (s : List SStep) (i : Int) (hl : l.length = n) (hb : s.length + ys.length ≤ 1000) : impl_RegCode_read.l1 l1 ys l s i = some (match opsGo n (l1.length : Int) ys l s with | none => .inl nul | some a => .inr a) ∧ ∀ a, opsGo n (l1.length : Int) ys l s = some a → a.1.length = n ∧ a.2.length = s.length + ys.length := by
 induction ys generalizing l s i with
 | nil => exact ⟨rfl, fun a h => by cases h; exact ⟨hl, rfl⟩⟩
 | cons y ys ih =>
  simp only [List.length_cons] at hb
  simp only [impl_RegCode_read.l1, opsGo]
  rw [read1_eq y.f0 l n hl hn, read1_eq y.f1 l n hl hn, read1_eq y.f2 l n hl hn]
  by_cases h1 : hs n y.f0 = true ∧ hs n y.f1 = true ∧ hs n y.f2 = true
  ·have q0 := hs_iff.1 h1.1
   have q1 := hs_iff.1 h1.2.1
   have q2 := hs_iff.1 h1.2.2
   rw [rg_gt (l := l) q0.1 (by omega), rg_gt (l := l) q1.1 (by omega), rg_gt (l := l) q2.1 (by omega), h1.1, h1.2.1, h1.2.2]
   by_cases h2 : rg l y.f1 = -1
   ·simp only [Option.bind_some, if_true, if_false, ne_eq, not_true_eq_false, not_false_eq_true, decide_true, decide_false, Bool.false_eq_true, and_true, true_and, and_self, false_and, and_false, h2]
    exact ⟨rfl, fun a h => nomatch h⟩
   ·by_cases h3 : rg l y.f2 = -1
    ·simp only [Option.bind_some, if_true, if_false, ne_eq, not_true_eq_false, not_false_eq_true, decide_true, decide_false, Bool.false_eq_true, and_true, true_and, and_self, false_and, and_false, h2, h3]
     exact ⟨rfl, fun a h => nomatch h⟩
    ·simp only [Option.bind_some, if_true, if_false, ne_eq, not_true_eq_false, not_false_eq_true, decide_true, decide_false, Bool.false_eq_true, and_true, true_and, and_self, false_and, and_false, h2, h3]
     simp only [impl_step.f, impl_Plan_many.f, Option.bind_some]
     rw [ap_ok (by simp; omega)]
     simp only [Option.bind_some]
     rw [List.length_append, List.length_singleton, zb6 (x := (l1.length : Int) + ((s.length + 1 : Nat) : Int)) (by omega), zb6 (by omega), rg_st q0.1 (by omega), Option.bind_some, show (l1.length : Int) + ((s.length + 1 : Nat) : Int) - 1 = (l1.length : Int) + (s.length : Int) by omega]
     have := ih (l.set y.f0.toNat ((l1.length : Int) + (s.length : Int))) (s ++ [⟨mn (rg l y.f1) (rg l y.f2), mx (rg l y.f1) (rg l y.f2)⟩]) (i + 1) (by simpa using hl) (by rw [List.length_append, List.length_singleton]; omega)
     rw [List.length_append, List.length_singleton] at this
     refine ⟨this.1, fun a h => ?_⟩
     have h9 := this.2 a h
     rw [List.length_cons]
     omega
  ·cases e0 : hs n y.f0 with
   | false =>
    simp only [Option.bind_some, if_true, if_false, ne_eq, not_true_eq_false, not_false_eq_true, decide_true, decide_false, Bool.false_eq_true, and_true, true_and, and_self, false_and, and_false]
    exact ⟨rfl, fun a h => nomatch h⟩
   | true =>
    cases e1 : hs n y.f1 with
    | false =>
     simp only [Option.bind_some, if_true, if_false, ne_eq, not_true_eq_false, not_false_eq_true, decide_true, decide_false, Bool.false_eq_true, and_true, true_and, and_self, false_and, and_false]
     exact ⟨rfl, fun a h => nomatch h⟩
    | true =>
     cases e2 : hs n y.f2 with
     | false =>
      simp only [Option.bind_some, if_true, if_false, ne_eq, not_true_eq_false, not_false_eq_true, decide_true, decide_false, Bool.false_eq_true, and_true, true_and, and_self, false_and, and_false]
      exact ⟨rfl, fun a h => nomatch h⟩
     | true => exact absurd ⟨e0, e1, e2⟩ h1
theorem impl_outs (n : Nat) (hn : n ≤ 1000) (l ys o : List Int) (i : Int) (hl : l.length = n) (hb : o.length + ys.length ≤ 1000) : impl_RegCode_read.l2 l ys o i = some (match outsGo n l ys o with | none => .inl nul | some a => .inr a) := by
 induction ys generalizing o i with
 | nil => rfl
 | cons y ys ih =>
  simp only [List.length_cons] at hb
  simp only [impl_RegCode_read.l2, outsGo]
  rw [read1_eq y l n hl hn]
  by_cases h1 : hs n y = true
  ·have h1' := hs_iff.1 h1
   rw [rg_gt (l := l) h1'.1 (by omega), h1]
   by_cases h2 : rg l y = -1
   ·simp only [Option.bind_some, if_true, if_false, ne_eq, not_true_eq_false, not_false_eq_true, decide_true, decide_false, Bool.false_eq_true, and_true, true_and, and_self, false_and, and_false, h2]
    rfl
   ·simp only [Option.bind_some, if_true, if_false, ne_eq, not_true_eq_false, not_false_eq_true, decide_true, decide_false, Bool.false_eq_true, and_true, true_and, and_self, false_and, and_false, h2]
    rw [ap_ok (by simp; omega), Option.bind_some]
    exact ih _ (i + 1) (by rw [List.length_append, List.length_singleton]; omega)
  ·have h1' : hs n y = false := by simpa using h1
   rw [h1']
   simp only [Option.bind_some, if_true, if_false, ne_eq, not_true_eq_false, not_false_eq_true, decide_true, decide_false, Bool.false_eq_true, and_true, true_and, and_self, false_and, and_false]
   rfl
def regs (a : Int) : Nat := (mx (mn a 46) 0).toNat
theorem regs_le (a : Int) : regs a ≤ 46 ∧ ((regs a : Nat) : Int) = mx (mn a 46) 0 := by
 unfold regs mx mn
 split <;> split <;> omega
theorem regs_in {a : Int} (h : 1 ≤ a ∧ a ≤ 46) : ((regs a : Nat) : Int) = a := by
 rw [(regs_le a).2]
 unfold mx mn
 split <;> split <;> omega
def no : Nat → List Int := fun n => List.replicate n (-1)
/-- What is read of code. -/
def rdGo (a : Int) (l1 : List Int) (l2 : List SRegOp) (l3 : List Int) : Option (List SStep × List Int) :=
 match insGo (regs a) l1 (no (regs a)) 0 with
 | none => none
 | some l => match opsGo (regs a) (l1.length : Int) l2 l [] with
  | none => none
  | some (l, s) => match outsGo (regs a) l l3 [] with
   | none => none
   | some o => some (s, o)
theorem read_eq (a : Int) (l1 : List Int) (l2 : List SRegOp) (l3 : List Int) (h1 : l1.length ≤ 6) (h2 : l2.length ≤ 40) (h3 : l3.length ≤ 6) : impl_RegCode_read.f a l1 l2 l3 = some (match rdGo a l1 l2 l3 with | none => nul | some (s, o) => ((l1.length : Int), s, o, decide (1 ≤ a ∧ a ≤ 46))) := by
 have hr := regs_le a
 have hrep : slices_Repeat_int_int.f ([(-1)] : List Int) (mx (mn a 46) 0) = some (no (regs a)) := by
  rw [← hr.2]
  unfold slices_Repeat_int_int.f
  rw [if_pos ⟨rfl, by omega, by omega⟩]
  rfl
 unfold impl_RegCode_read.f rdGo
 rw [hrep]
 simp only [Option.bind_some]
 obtain ⟨e1, e1l⟩ := impl_ins (regs a) (by omega) l1 (no (regs a)) 0 (by simp [no])
 rw [e1, Option.bind_some]
 cases c1 : insGo (regs a) l1 (no (regs a)) 0 with
 | none => rfl
 | some l =>
  obtain ⟨e2, e2l⟩ := impl_ops (regs a) (by omega) l1 (by omega) l2 l [] 0 (e1l l c1) (by simp; omega)
  simp only [e2, Option.bind_some]
  cases c2 : opsGo (regs a) (l1.length : Int) l2 l [] with
  | none => rfl
  | some q =>
   obtain ⟨l', s⟩ := q
   simp only [impl_outs (regs a) (by omega) l' l3 [] 0 (e2l _ c2).1 (by simp; omega), Option.bind_some]
   cases c3 : outsGo (regs a) l' l3 [] with
   | none => rfl
   | some o =>
    simp only [in_eq, Option.bind_some]
/-- The plan of code, if it is code. -/
def codeP (a : Int) (l1 : List Int) (l2 : List SRegOp) (l3 : List Int) : Option (List SStep × List Int) :=
 if (l1.length ≤ 6 ∧ l2.length ≤ 40 ∧ l3.length ≤ 6) ∧ (1 ≤ a ∧ a ≤ 46) then
  match rdGo a l1 l2 l3 with
  | none => none
  | some (s, o) => if good (l1.length : Int) s o = true then some (s, o) else none
 else none
theorem plan_ev (a : Int) (l1 : List Int) (l2 : List SRegOp) (l3 : List Int) : Ev (fun k => impl_RegCode_plan.f k a l1 l2 l3) (match codeP a l1 l2 l3 with | none => nul | some (s, o) => ((l1.length : Int), s, o, true)) := by
 unfold impl_RegCode_plan.f codeP
 by_cases h : l1.length ≤ 6 ∧ l2.length ≤ 40 ∧ l3.length ≤ 6
 ·have e : (if 6 < (l1.length : Int) then (some true) else (if 40 < (l2.length : Int) then (some true) else (some (decide (6 < (l3.length : Int)))))) = some false := by
   rw [if_neg (by omega), if_neg (by omega), decide_eq_false (by omega)]
  refine bind0 e (neg (by simp) (bind0 (read_eq a l1 l2 l3 h.1 h.2.1 h.2.2) ?_))
  cases c : rdGo a l1 l2 l3 with
  | none =>
   have : (if (l1.length ≤ 6 ∧ l2.length ≤ 40 ∧ l3.length ≤ 6) ∧ (1 ≤ a ∧ a ≤ 46) then (none : Option (List SStep × List Int)) else none) = none := by split <;> rfl
   simp only [this]
   exact neg (by simp [nul]) (ret _)
  | some q =>
   obtain ⟨s, o⟩ := q
   simp only
   by_cases ha : 1 ≤ a ∧ a ≤ 46
   ·rw [if_pos ⟨h, ha⟩]
    refine pos (decide_eq_true ha) (bind (a := if good (l1.length : Int) s o = true then ((l1.length : Int), s, o, true) else nul) ?_ ?_)
    ·unfold impl_told.f
     refine bind (isPlan_ev _ s o) ?_
     cases hg : good (l1.length : Int) s o with
     | true => exact pos rfl (now (by simp))
     | false => exact neg (by simp) (now (by simp [nul]))
    ·cases hg : good (l1.length : Int) s o with
     | true => exact now (by simp)
     | false => exact now (by simp [nul])
   ·rw [if_neg (fun q => ha q.2)]
    exact neg (by simpa using ha) (ret _)
 ·rw [if_neg (show ¬ ((l1.length ≤ 6 ∧ l2.length ≤ 40 ∧ l3.length ≤ 6) ∧ (1 ≤ a ∧ a ≤ 46)) from fun q => h q.1)]
  have e : (if 6 < (l1.length : Int) then (some true) else (if 40 < (l2.length : Int) then (some true) else (some (decide (6 < (l3.length : Int)))))) = some true := by
   by_cases c1 : 6 < (l1.length : Int)
   ·rw [if_pos c1]
   ·rw [if_neg c1]
    by_cases c2 : 40 < (l2.length : Int)
    ·rw [if_pos c2]
    ·rw [if_neg c2, decide_eq_true (by omega)]
  exact bind0 e (pos rfl (ret _))
theorem least_eq (a b : Int) : spec_l1Least.f a b = some (mn a b) := by
 unfold spec_l1Least.f mn
 split <;> split <;> simp <;> omega
theorem most_eq (a b : Int) : spec_l1Most.f a b = some (mx a b) := by
 unfold spec_l1Most.f mx
 split <;> split <;> simp <;> omega
theorem plStep_eq (a b : Int) : spec_plStep.f a b = some ⟨mn a b, mx a b⟩ := by
 unfold spec_plStep.f
 rw [least_eq, most_eq]
 rfl
/-- No number twice. -/
def dst (p : List Int) : List Int → Bool
 | [] => true
 | y :: ys => !decide (y ∈ p) && dst (p ++ [y]) ys
theorem shape_l0 (l ys p : List Int) (h : l = p ++ ys) : spec_reShape.l0 l ys (p.length : Int) = some (if dst p ys = true then .inr () else .inl false) := by
 induction ys generalizing p with
 | nil => rfl
 | cons y ys ih =>
  subst h
  simp only [spec_reShape.l0, dst]
  rw [ct_take _ _ (by simp), List.take_left' rfl]
  simp only [Option.bind_some, l1Has_eq]
  by_cases c : y ∈ p
  ·simp [c]
  ·have := ih (p ++ [y]) (by simp)
   rw [List.length_append, List.length_singleton, show ((p.length + 1 : Nat) : Int) = (p.length : Int) + 1 by omega] at this
   rw [if_neg (by simpa using c), this]
   simp [c]
def opIn (n : Nat) (y : SRegOp) : Bool := hs n y.f0 && (hs n y.f1 && hs n y.f2)
theorem aB_hs (n : Nat) (hn : 1 ≤ n) (hi : Int) (h : hi = (n : Int) - 1) (l : List Int) : aB 0 hi l = l.all (hs n) := by
 subst h
 unfold aB hs
 congr 1
 funext y
 by_cases c : 0 ≤ y ∧ y < (n : Int)
 ·rw [decide_eq_true c, decide_eq_true (by omega)]
 ·rw [decide_eq_false c, decide_eq_false (by omega)]
theorem shape_l1 (n : Nat) (hn : 1 ≤ n ∧ n ≤ 46) (ys : List SRegOp) (j : Int) : spec_reShape.l1 (n : Int) ys j = some (if ys.all (opIn n) = true then .inr () else .inl false) := by
 induction ys generalizing j with
 | nil => rfl
 | cons y ys ih =>
  simp only [spec_reShape.l1]
  rw [l1All_eq, aB_hs n hn.1 _ (zb6 (by omega)), Option.bind_some]
  have e : [y.f0, y.f1, y.f2].all (hs n) = opIn n y := by simp [opIn]
  rw [e, ih, List.all_cons]
  cases opIn n y <;> rfl
def shB (n : Nat) (l1 : List Int) (l2 : List SRegOp) (l3 : List Int) : Bool := decide (1 ≤ l1.length ∧ l1.length ≤ 6) && (decide (l2.length ≤ 40) && (decide (l3.length ≤ 6) && (dst [] l1 && (l2.all (opIn n) && (l1.all (hs n) && l3.all (hs n))))))
theorem shape_eq (n : Nat) (hn : 1 ≤ n ∧ n ≤ 46) (l1 : List Int) (l2 : List SRegOp) (l3 : List Int) : spec_reShape.f (n : Int) l1 l2 l3 = some (shB n l1 l2 l3) := by
 unfold spec_reShape.f shB
 rw [l1In_eq, l1In_eq, decide_eq_true (by omega), Option.bind_some, Option.bind_some, if_pos rfl]
 by_cases c1 : 1 ≤ l1.length ∧ l1.length ≤ 6
 ·rw [decide_eq_true c1, decide_eq_true (by omega), if_pos rfl, Bool.true_and]
  by_cases c2 : l2.length ≤ 40
  ·rw [if_neg (by omega), decide_eq_true c2, Bool.true_and]
   by_cases c3 : l3.length ≤ 6
   ·rw [if_neg (by omega), decide_eq_true c3, Bool.true_and]
    have := shape_l0 l1 l1 [] rfl
    rw [show (([] : List Int).length : Int) = 0 from rfl] at this
    rw [this, Option.bind_some, shape_l1 n hn]
    cases dst [] l1 with
    | false => rfl
    | true =>
     simp only [if_true, Option.bind_some, Bool.true_and]
     cases l2.all (opIn n) with
     | false => rfl
     | true =>
      simp only [if_true, Bool.true_and]
      rw [l1All_eq, l1All_eq, aB_hs n hn.1 _ (zb6 (by omega)), aB_hs n hn.1 _ (zb6 (by omega))]
      cases l1.all (hs n) <;> rfl
   ·rw [if_pos (by omega), decide_eq_false c3, Bool.false_and]
  ·rw [if_pos (by omega), decide_eq_false c2, Bool.false_and]
 ·rw [decide_eq_false c1, decide_eq_false (by omega), Bool.false_and]
  rfl
def insS : List Int → List Int → Int → List Int
 | [], l, _ => l
 | y :: ys, l, i => insS ys (l.set y.toNat i) (i + 1)
theorem insS_len (ys l : List Int) (i : Int) : (insS ys l i).length = l.length := by
 induction ys generalizing l i with
 | nil => rfl
 | cons y ys ih => rw [insS, ih]; simp
theorem insS_low (ys l : List Int) (i : Int) (hi : 0 ≤ i) (h : Low l) : Low (insS ys l i) := by
 induction ys generalizing l i with
 | nil => exact h
 | cons y ys ih => exact ih _ (i + 1) (by omega) (h.set (by omega))
theorem values_l1 (n : Nat) (ys l : List Int) (i : Int) (hl : l.length = n) (h : ys.all (hs n) = true) : spec_reValues.l1 ys l i = some (insS ys l i) := by
 induction ys generalizing l i with
 | nil => rfl
 | cons y ys ih =>
  simp only [List.all_cons, Bool.and_eq_true] at h
  have q := hs_iff.1 h.1
  simp only [spec_reValues.l1, insS]
  rw [rg_gt q.1 (by omega), rg_st q.1 (by omega), Option.bind_some, Option.bind_some]
  exact ih _ (i + 1) (by simpa using hl) h.2
theorem insGo_of (n : Nat) (ys l p : List Int) (i : Int) (hl : l.length = n) (h : ys.all (hs n) = true) (hd : dst p ys = true) (hp : ∀ r, hs n r = true → r ∉ p → rg l r = -1) : insGo n ys l i = some (insS ys l i) := by
 induction ys generalizing l p i with
 | nil => rfl
 | cons y ys ih =>
  simp only [List.all_cons, Bool.and_eq_true] at h
  simp only [dst, Bool.and_eq_true, Bool.not_eq_true', decide_eq_false_iff_not] at hd
  have q := hs_iff.1 h.1
  simp only [insGo, insS]
  rw [if_pos ⟨h.1, hp y h.1 hd.1⟩]
  refine ih _ (p ++ [y]) (i + 1) (by simpa using hl) h.2 hd.2 (fun r hr hn => ?_)
  have qr := hs_iff.1 hr
  rw [rg_set qr.1 (by omega) q.1, if_neg (fun e => hn (by rw [e]; simp))]
  exact hp r hr (fun hm => hn (List.mem_append_left _ hm))
theorem insGo_in (n : Nat) (ys l p : List Int) (i : Int) (hi : 0 ≤ i) (hl : l.length = n) (hp : ∀ r ∈ p, hs n r = true ∧ rg l r ≠ -1) (a : List Int) (h : insGo n ys l i = some a) : ys.all (hs n) = true ∧ dst p ys = true := by
 induction ys generalizing l p i with
 | nil => exact ⟨rfl, rfl⟩
 | cons y ys ih =>
  simp only [insGo] at h
  split at h
  ·rename_i c
   have q := hs_iff.1 c.1
   have := ih (l.set y.toNat i) (p ++ [y]) (i + 1) (by omega) (by simpa using hl) (fun r hr => by
    have hr' : hs n r = true ∧ (r = y ∨ rg l r ≠ -1) := by
     rcases List.mem_append.1 hr with g | g
     ·exact ⟨(hp r g).1, .inr (hp r g).2⟩
     ·rw [List.mem_singleton.1 g]
      exact ⟨c.1, .inl rfl⟩
    refine ⟨hr'.1, ?_⟩
    have qr := hs_iff.1 hr'.1
    rw [rg_set qr.1 (by omega) q.1]
    split
    ·omega
    ·rename_i e
     exact hr'.2.resolve_left (fun g => e g.symm)) h
   refine ⟨by simp [c.1, this.1], ?_⟩
   have hn : y ∉ p := fun hm => (hp y hm).2 c.2
   simp [dst, hn, this.2]
  ·cases h
theorem opsGo_in (n : Nat) (m : Int) (ys : List SRegOp) (l : List Int) (s : List SStep) (a : List Int × List SStep) (h : opsGo n m ys l s = some a) : ys.all (opIn n) = true := by
 induction ys generalizing l s with
 | nil => rfl
 | cons y ys ih =>
  simp only [opsGo] at h
  split at h
  ·rename_i c
   have := ih _ _ h
   simp [opIn, c.1.1, c.1.2.1, c.1.2.2, this]
  ·cases h
theorem opsGo_low (n : Nat) (m : Int) (hm : 0 ≤ m) (ys : List SRegOp) (l : List Int) (s : List SStep) (hl : Low l) (a : List Int × List SStep) (h : opsGo n m ys l s = some a) : Low a.1 ∧ a.1.length = l.length ∧ a.2.length = s.length + ys.length := by
 induction ys generalizing l s with
 | nil =>
  simp only [opsGo, Option.some.injEq] at h
  subst h
  exact ⟨hl, rfl, rfl⟩
 | cons y ys ih =>
  simp only [opsGo] at h
  split at h
  ·have := ih _ _ (hl.set (by omega)) h
   rw [List.length_set, List.length_append, List.length_singleton] at this
   rw [List.length_cons]
   exact ⟨this.1, this.2.1, by omega⟩
  ·cases h
theorem outsGo_in (n : Nat) (l ys o a : List Int) (h : outsGo n l ys o = some a) : ys.all (hs n) = true ∧ a.length = o.length + ys.length := by
 induction ys generalizing o with
 | nil =>
  simp only [outsGo, Option.some.injEq] at h
  subst h
  exact ⟨rfl, rfl⟩
 | cons y ys ih =>
  simp only [outsGo] at h
  split at h
  ·rename_i c
   have := ih _ h
   rw [List.length_append, List.length_singleton] at this
   exact ⟨by simp [c.1, this.1], by rw [List.length_cons]; omega⟩
  ·cases h
theorem values_l2 (n : Nat) (l1 : List Int) (hm : l1.length ≤ 1000) (ys : List SRegOp) (l : List Int) (s : List SStep) (j : Int) (hl : l.length = n) (hlow : Low l) (h : ys.all (opIn n) = true) (hb : s.length + ys.length ≤ 1000) : spec_reValues.l2 l1 ys l s j = some (match opsGo n (l1.length : Int) ys l s with | none => .inl ([], [], false) | some a => .inr a) := by
 induction ys generalizing l s j with
 | nil => rfl
 | cons y ys ih =>
  simp only [List.all_cons, Bool.and_eq_true] at h
  have h0 := h.1
  simp only [opIn, Bool.and_eq_true] at h0
  simp only [List.length_cons] at hb
  have q0 := hs_iff.1 h0.1
  have q1 := hs_iff.1 h0.2.1
  have q2 := hs_iff.1 h0.2.2
  have w1 := hlow.at q1.1 (by omega)
  have w2 := hlow.at q2.1 (by omega)
  simp only [spec_reValues.l2, opsGo]
  rw [rg_gt (l := l) q0.1 (by omega), rg_gt (l := l) q1.1 (by omega), rg_gt (l := l) q2.1 (by omega), h0.1, h0.2.1, h0.2.2]
  by_cases c1 : rg l y.f1 = -1
  ·simp only [c1, Option.bind_some, ne_eq, not_true_eq_false, false_and, and_false, if_false]
   rfl
  ·by_cases c2 : rg l y.f2 = -1
   ·have e1 : ¬ rg l y.f1 < 0 := by omega
    simp only [c2, e1, Option.bind_some, ne_eq, not_true_eq_false, and_false, if_false]
    rfl
   ·have e1 : ¬ rg l y.f1 < 0 := by omega
    have e2 : ¬ rg l y.f2 < 0 := by omega
    simp only [c1, c2, e1, e2, Option.bind_some, ne_eq, not_false_eq_true, and_self, if_true, if_false, decide_false, Bool.false_eq_true, plStep_eq]
    rw [ap_ok (by simp; omega)]
    simp only [Option.bind_some]
    rw [List.length_append, List.length_singleton, zb6 (x := (l1.length : Int) + ((s.length + 1 : Nat) : Int)) (by omega), zb6 (by omega), rg_st q0.1 (by omega), Option.bind_some, show (l1.length : Int) + ((s.length + 1 : Nat) : Int) - 1 = (l1.length : Int) + (s.length : Int) by omega]
    exact ih _ _ (j + 1) (by simpa using hl) (hlow.set (by omega)) h.2 (by rw [List.length_append, List.length_singleton]; omega)
theorem plan_l0 (n : Nat) (l ys o : List Int) (j : Int) (hl : l.length = n) (hlow : Low l) (h : ys.all (hs n) = true) (hb : o.length + ys.length ≤ 1000) : spec_rePlan.l0 l ys o j = some (match outsGo n l ys o with | none => .inl nul | some a => .inr a) := by
 induction ys generalizing o j with
 | nil => rfl
 | cons y ys ih =>
  simp only [List.all_cons, Bool.and_eq_true] at h
  simp only [List.length_cons] at hb
  have q := hs_iff.1 h.1
  have w := hlow.at q.1 (by omega)
  simp only [spec_rePlan.l0, outsGo]
  rw [rg_gt (l := l) q.1 (by omega), h.1]
  by_cases c : rg l y = -1
  ·simp only [c, Option.bind_some, ne_eq, not_true_eq_false, and_false, if_false]
   rfl
  ·have e : ¬ rg l y < 0 := by omega
   simp only [c, e, Option.bind_some, ne_eq, not_false_eq_true, and_self, if_true, if_false]
   rw [ap_ok (by simp; omega), Option.bind_some]
   exact ih _ (j + 1) h.2 (by rw [List.length_append, List.length_singleton]; omega)
theorem values_l0 (n : Nat) (hn : n ≤ 1000) : Ev (fun k => spec_reValues.l0 (n : Int) k [] 0) (no n) := by
 have key : ∀ (d j : Nat), j + d = n → Ev (fun k => spec_reValues.l0 (n : Int) k (no j) (j : Int)) (no n) := by
  intro d
  induction d with
  | zero =>
   intro j hj
   obtain rfl : j = n := by omega
   refine shift ?_
   simp only [spec_reValues.l0]
   exact neg (by omega) (ret _)
  | succ d ih =>
   intro j hj
   refine shift ?_
   simp only [spec_reValues.l0]
   rw [w64_succ (by omega)]
   refine pos (by omega) (bind0 (ap_ok (by simp [no]; omega)) ?_)
   have := ih (j + 1) (by omega)
   rw [show no (j + 1) = no j ++ [-1] from List.replicate_succ' ..] at this
   exact this
 exact key n 0 (by omega)
theorem no_low (n : Nat) : Low (no n) := fun x hx => by
 rw [List.eq_of_mem_replicate hx]
 omega
theorem no_rg {n : Nat} {r : Int} (h : hs n r = true) : rg (no n) r = -1 := by
 have q := hs_iff.1 h
 unfold rg no
 rw [List.getD_eq_getElem?_getD, List.getElem?_replicate, if_pos (by omega)]
 rfl
/-- The reference has the same plan. -/
theorem rePlan_ev (a : Int) (l1 : List Int) (l2 : List SRegOp) (l3 : List Int) : ∃ r, Ev (fun k => spec_rePlan.f k a l1 l2 l3) r ∧ ((∃ s o, codeP a l1 l2 l3 = some (s, o) ∧ r = ((l1.length : Int), s, o, true)) ∨ (codeP a l1 l2 l3 = none ∧ r.2.2.2 = false)) := by
 unfold spec_rePlan.f
 by_cases ha : 1 ≤ a ∧ a ≤ 46
 ·obtain ⟨n, rfl⟩ := Int.eq_ofNat_of_zero_le (show 0 ≤ a by omega)
  have hr : regs (n : Int) = n := by have := regs_in ha; omega
  have hsh := shape_eq n (by omega) l1 l2 l3
  cases hb : shB n l1 l2 l3 with
  | false =>
   rw [hb] at hsh
   refine ⟨_, bind0 hsh (neg (by simp) (ret _)), .inr ⟨?_, rfl⟩⟩
   cases hc : codeP (n : Int) l1 l2 l3 with
   | none => rfl
   | some q =>
    exfalso
    unfold codeP rdGo at hc
    rw [hr] at hc
    split at hc
    ·rename_i hlen
     split at hc
     ·cases hc
     ·rename_i s o hrd
      split at hc
      ·rename_i hg
       split at hrd
       ·cases hrd
       ·rename_i la hi
        split at hrd
        ·cases hrd
        ·rename_i lb sb ho
         split at hrd
         ·cases hrd
         ·rename_i ob hu
          obtain ⟨i1, i2⟩ := insGo_in n l1 (no n) [] 0 (by omega) (by simp [no]) (fun r hm => by cases hm) la hi
          have i3 := opsGo_in n _ l2 la [] _ ho
          have i4 := (outsGo_in n lb l3 [] ob hu).1
          unfold good at hg
          simp only [Bool.and_eq_true, decide_eq_true_eq] at hg
          have : shB n l1 l2 l3 = true := by
           unfold shB
           rw [i1, i2, i3, i4, decide_eq_true (show 1 ≤ l1.length ∧ l1.length ≤ 6 by omega), decide_eq_true hlen.1.2.1, decide_eq_true hlen.1.2.2]
           rfl
          rw [this] at hb
          cases hb
      ·cases hc
    ·cases hc
  | true =>
   rw [hb] at hsh
   unfold shB at hb
   simp only [Bool.and_eq_true, decide_eq_true_eq] at hb
   obtain ⟨b1, b2, b3, b4, b5, b6, b7⟩ := hb
   have ei := insGo_of n l1 (no n) [] 0 (by simp [no]) b6 b4 (fun r h _ => no_rg h)
   have hlow := insS_low l1 (no n) 0 (by omega) (no_low n)
   have hlen : (insS l1 (no n) 0).length = n := by rw [insS_len]; simp [no]
   have ev := values_l2 n l1 (by omega) l2 (insS l1 (no n) 0) [] 0 hlen hlow b5 (by simp; omega)
   have hval : ∀ q, (match opsGo n (l1.length : Int) l2 (insS l1 (no n) 0) [] with | none => (([], [], false) : List Int × List SStep × Bool) | some (l, s) => (l, s, true)) = q → Ev (fun k => spec_reValues.f k (n : Int) l1 l2 l3 (l2.length : Int)) q := by
    rintro q rfl
    unfold spec_reValues.f
    refine bind (values_l0 n (by omega)) (bind0 (values_l1 n l1 (no n) 0 (by simp [no]) b6) (bind0 (ct_take l2 l2.length (Nat.le_refl _)) ?_))
    rw [List.take_of_length_le (Nat.le_refl _)]
    refine bind0 ev (now ?_)
    cases opsGo n (l1.length : Int) l2 (insS l1 (no n) 0) [] <;> rfl
   unfold codeP rdGo
   rw [hr, ei, if_pos ⟨⟨b1.2, b2, b3⟩, ha⟩]
   simp only
   cases ho : opsGo n (l1.length : Int) l2 (insS l1 (no n) 0) [] with
   | none =>
    rw [ho] at hval
    exact ⟨_, bind0 hsh (pos rfl (bind (hval _ rfl) (neg (by simp) (ret _)))), .inr ⟨rfl, rfl⟩⟩
   | some q =>
    obtain ⟨l, s⟩ := q
    rw [ho] at hval
    obtain ⟨w1, w2, w3⟩ := opsGo_low n _ (by omega) l2 _ [] hlow _ ho
    have eo := plan_l0 n l l3 [] 0 (by rw [w2, hlen]) w1 b7 (by simp; omega)
    simp only
    cases hu : outsGo n l l3 [] with
    | none =>
     rw [hu] at eo
     exact ⟨_, bind0 hsh (pos rfl (bind (hval _ rfl) (pos rfl (bind0 eo (ret _))))), .inr ⟨rfl, rfl⟩⟩
    | some o =>
     rw [hu] at eo
     refine ⟨((l1.length : Int), s, o, good (l1.length : Int) s o), bind0 hsh (pos rfl (bind (hval _ rfl) (pos rfl (bind0 eo (bind (plGood_ev _ s o) (ret _)))))), ?_⟩
     cases hg : good (l1.length : Int) s o with
     | true =>
      refine .inl ⟨s, o, ?_, rfl⟩
      show (if good (l1.length : Int) s o = true then some (s, o) else none) = some (s, o)
      rw [hg]
      rfl
     | false =>
      refine .inr ⟨?_, rfl⟩
      show (if good (l1.length : Int) s o = true then some (s, o) else none) = none
      rw [hg]
      rfl
 ·have hsh : spec_reShape.f a l1 l2 l3 = some false := by
   unfold spec_reShape.f
   rw [l1In_eq, decide_eq_false ha]
   rfl
  refine ⟨_, bind0 hsh (neg (by simp) (ret _)), .inr ⟨?_, rfl⟩⟩
  unfold codeP
  rw [if_neg (fun q => ha q.2)]
theorem rg_app {l m : List Int} {v : Int} (h0 : 0 ≤ v) (h1 : v < (l.length : Int)) : rg (l ++ m) v = rg l v := by
 unfold rg
 rw [List.getD_eq_getElem?_getD, List.getD_eq_getElem?_getD, List.getElem?_append_left (by omega)]
theorem rg_new {l : List Int} {x v : Int} (h : v = (l.length : Int)) : rg (l ++ [x]) v = x := by
 subst h
 unfold rg
 rw [Int.toNat_natCast, List.getD_eq_getElem?_getD, List.getElem?_append_right (Nat.le_refl _), Nat.sub_self]
 rfl
theorem rg_nat {l : List Int} {j : Nat} (h : j < l.length) : rg l (j : Int) = l[j] := by
 unfold rg
 rw [Int.toNat_natCast, List.getD_eq_getElem?_getD, List.getElem?_eq_getElem h]
 rfl
theorem rg_memL {l : List Int} {v : Int} (h0 : 0 ≤ v) (h1 : v < (l.length : Int)) : rg l v ∈ l := by
 obtain ⟨j, rfl⟩ := Int.eq_ofNat_of_zero_le h0
 rw [rg_nat (show j < l.length by omega)]
 exact List.getElem_mem _
theorem rg_le0 {l : List Int} (h : ∀ x ∈ l, 0 ≤ x) (v : Int) : 0 ≤ rg l v := by
 unfold rg
 rw [List.getD_eq_getElem?_getD]
 cases c : l[v.toNat]? with
 | none => exact Int.le_refl 0
 | some x => exact h x (List.mem_of_getElem? c)
/-- All values from those of the inputs, not bounded. -/
def vl : List SStep → List Int → List Int
 | [], l => l
 | y :: ys, l => vl ys (l ++ [rg l y.f0 + rg l y.f1])
/-- Steps that may follow n values. -/
def Ok (n : Nat) : List SStep → Prop
 | [] => True
 | y :: ys => (0 ≤ y.f0 ∧ y.f0 ≤ y.f1 ∧ y.f1 < (n : Int)) ∧ Ok (n + 1) ys
theorem Ok.append {n : Nat} {s t : List SStep} : Ok n (s ++ t) ↔ Ok n s ∧ Ok (n + s.length) t := by
 induction s generalizing n with
 | nil => simp [Ok]
 | cons y ys ih =>
  simp only [List.cons_append, Ok, ih, List.length_cons]
  rw [show n + 1 + ys.length = n + (ys.length + 1) by omega]
  exact and_assoc.symm
theorem Ok.at {n : Nat} {s : List SStep} (h : Ok n s) {m : Nat} {y : SStep} (hm : s[m]? = some y) : 0 ≤ y.f0 ∧ y.f0 ≤ y.f1 ∧ y.f1 < ((n + m : Nat) : Int) := by
 induction s generalizing n m with
 | nil => simp at hm
 | cons z s ih =>
  cases m with
  | zero =>
   obtain rfl : z = y := by simpa using hm
   exact h.1
  | succ m =>
   have := ih h.2 (m := m) (by simpa using hm)
   rw [show n + (m + 1) = n + 1 + m by omega]
   exact this
theorem ok_fB {I : Nat} (s : List SStep) (j : Nat) (hb : I + j + s.length ≤ 100000) : fB (I : Int) s (j : Int) = true ↔ Ok (I + j) s := by
 induction s generalizing j with
 | nil => simp [fB, Ok]
 | cons y ys ih =>
  simp only [List.length_cons] at hb
  simp only [fB, Ok, Bool.and_eq_true, decide_eq_true_eq]
  rw [zb6 (by omega), show (j : Int) + 1 = ((j + 1 : Nat) : Int) by omega, ih (j + 1) (by omega)]
  rw [show I + (j + 1) = I + j + 1 by omega, show ((I + j : Nat) : Int) = (I : Int) + (j : Int) by omega]
theorem vl_ge {s : List SStep} {l : List Int} (h : ∀ x ∈ l, 0 ≤ x) : ∀ x ∈ vl s l, 0 ≤ x := by
 induction s generalizing l with
 | nil => exact h
 | cons y ys ih =>
  refine ih fun x hx => ?_
  rcases List.mem_append.1 hx with hx | hx
  ·exact h x hx
  ·rw [List.mem_singleton.1 hx]
   have := rg_le0 h y.f0
   have := rg_le0 h y.f1
   omega
/-! exponents -/
theorem unitR_len (n j : Nat) : (unitR n j).length = n := by simp [unitR]
theorem unitR_rg {n j : Nat} (hj : j < n) {v : Int} (h0 : 0 ≤ v) (h1 : v < (n : Int)) : rg (unitR n j) v = if v = (j : Int) then 1 else 0 := by
 obtain ⟨u, rfl⟩ := Int.eq_ofNat_of_zero_le h0
 rw [rg_nat (by rw [unitR_len]; omega)]
 unfold unitR
 rw [List.getElem_set]
 by_cases c : j = u
 ·rw [if_pos c, if_pos (by omega)]
 ·rw [if_neg c, if_neg (by omega)]
  simp
theorem unitR_ge (n j : Nat) : ∀ x ∈ unitR n j, 0 ≤ x := fun x hx => ((unitR_ok n j).2 x hx).1
def capI (x : Int) : Int := if x ≤ 1000001 then x else 1000001
theorem cap_add {a b : Int} (ha : 0 ≤ a) (hb : 0 ≤ b) : addC (capI a) (capI b) = capI (a + b) := by
 unfold addC capI
 split <;> split <;> split <;> omega
theorem exGo_col {n j : Nat} (hj : j < n) (s : List SStep) (rs : List (List Int)) (l : List Int) (hrs : ∀ r ∈ rs, RowOk n r) (hl : l.length = rs.length) (hs : Ok l.length s) (h0 : ∀ x ∈ l, 0 ≤ x) (h : ∀ v : Nat, v < rs.length → rg (rs.getD v []) (j : Int) = capI (rg l (v : Int))) : ∀ v : Nat, v < rs.length + s.length → rg ((exGo rs s).getD v []) (j : Int) = capI (rg (vl s l) (v : Int)) := by
 induction s generalizing rs l with
 | nil => exact fun v hv => h v (by simpa using hv)
 | cons y ys ih =>
  have h1 := hs.1
  obtain ⟨g0, o0⟩ := getD_ok hrs h1.1 (by omega)
  obtain ⟨g1, o1⟩ := getD_ok hrs (show 0 ≤ y.f1 by omega) (by omega)
  have hso := sumC_ok o0 o1
  intro v hv
  simp only [List.length_cons] at hv
  refine ih (rs ++ [_]) (l ++ [_]) (fun r hr => ?_) (by rw [List.length_append, List.length_append, hl]; rfl) (by rw [List.length_append, List.length_singleton]; exact hs.2) ?_ ?_ v (by rw [List.length_append, List.length_singleton]; omega)
  ·rcases List.mem_append.1 hr with hr | hr
   ·exact hrs r hr
   ·rw [List.mem_singleton.1 hr]
    exact hso
  ·intro x hx
   rcases List.mem_append.1 hx with hx | hx
   ·exact h0 x hx
   ·rw [List.mem_singleton.1 hx]
    have := rg_le0 h0 y.f0
    have := rg_le0 h0 y.f1
    omega
  ·intro u hu
   rw [List.length_append, List.length_singleton] at hu
   by_cases c : u < rs.length
   ·rw [rg_app (by omega) (by omega), List.getD_eq_getElem?_getD, List.getElem?_append_left c, ← List.getD_eq_getElem?_getD]
    exact h u c
   ·obtain rfl : u = rs.length := by omega
    rw [rg_new (by omega), List.getD_eq_getElem?_getD, List.getElem?_append_right (Nat.le_refl _), Nat.sub_self]
    simp only [List.getElem?_cons_zero, Option.getD_some]
    have e0 := h y.f0.toNat (by omega)
    have e1 := h y.f1.toNat (by omega)
    rw [show ((y.f0.toNat : Nat) : Int) = y.f0 by omega] at e0
    rw [show ((y.f1.toNat : Nat) : Int) = y.f1 by omega] at e1
    rw [← cap_add (rg_le0 h0 _) (rg_le0 h0 _), ← e0, ← e1]
    have q0 : j < (rs.getD y.f0.toNat []).length := by rw [o0.1]; exact hj
    have q1 : j < (rs.getD y.f1.toNat []).length := by rw [o1.1]; exact hj
    have q2 : j < (sumC (rs.getD y.f0.toNat []) (rs.getD y.f1.toNat [])).length := by rw [hso.1]; exact hj
    rw [rg_nat q2, rg_nat q0, rg_nat q1]
    simp [sumC]
theorem exps_col {I : Nat} {s : List SStep} (hs : Ok I s) {j : Nat} (hj : j < I) (v : Nat) (hv : v < I + s.length) : rg ((exps I s).getD v []) (j : Int) = capI (rg (vl s (unitR I j)) (v : Int)) := by
 have hl : (units I I).length = I := by simp [units]
 refine exGo_col hj s (units I I) (unitR I j) (units_ok I I) (by rw [unitR_len, hl]) (by rw [unitR_len]; exact hs) (unitR_ge I j) ?_ v (by rw [hl]; exact hv)
 intro u hu
 rw [hl] at hu
 have e : (units I I).getD u [] = unitR I u := by
  rw [List.getD_eq_getElem?_getD, List.getElem?_eq_getElem (by rw [hl]; exact hu)]
  simp [units]
 rw [e, unitR_rg hu (by omega) (by omega), unitR_rg hj (by omega) (by omega)]
 by_cases c : j = u
 ·subst c
  rw [if_pos rfl]
  rfl
 ·rw [if_neg (by omega), if_neg (by omega)]
  rfl
/-- What a plan is. -/
structure Good (I : Nat) (s : List SStep) (o : List Int) : Prop where
 inp : 1 ≤ I ∧ I ≤ 6
 stp : s.length ≤ 40
 out : o.length ≤ 6
 ok : Ok I s
 os : ∀ y ∈ o, 0 ≤ y ∧ y < ((I + s.length : Nat) : Int)
 le : ∀ j : Nat, j < I → ∀ v : Int, 0 ≤ v → v < ((I + s.length : Nat) : Int) → rg (vl s (unitR I j)) v ≤ 1000000
theorem exps_len {I : Nat} {s : List SStep} (hI : 1 ≤ I ∧ I ≤ 6) (hs : s.length ≤ 40) (h : Ok I s) : (exps I s).length = I + s.length ∧ ∀ r ∈ exps I s, RowOk I r := by
 obtain ⟨_, _, a3, a4⟩ := exps_ev I (by omega) s [] (by omega) (by have := (ok_fB (I := I) s 0 (by omega)).2 (by simpa using h); exact this)
 exact ⟨a4, a3⟩
theorem good_iff {I : Nat} {s : List SStep} {o : List Int} : good (I : Int) s o = true ↔ Good I s o := by
 unfold good
 simp only [Bool.and_eq_true, decide_eq_true_eq, Int.toNat_natCast]
 constructor
 ·rintro ⟨h1, h2, h3, h4, h5, h6⟩
  have hI : 1 ≤ I ∧ I ≤ 6 := by omega
  have hok : Ok I s := by have := (ok_fB (I := I) s 0 (by omega)).1 h4; simpa using this
  obtain ⟨e1, e2⟩ := exps_len hI h2 hok
  refine ⟨hI, h2, h3, hok, ?_, ?_⟩
  ·intro y hy
   have := List.all_eq_true.1 h6 y hy
   rw [zb6 (x := (I : Int) + (s.length : Int)) (by omega), zb6 (by omega)] at this
   simp only [decide_eq_true_eq] at this
   omega
  ·intro j hj v v0 v1
   obtain ⟨u, rfl⟩ := Int.eq_ofNat_of_zero_le v0
   have hc := exps_col hok hj u (by omega)
   have hu : u < (exps I s).length := by omega
   have hr := List.all_eq_true.1 h5 ((exps I s).getD u []) (by rw [List.getD_eq_getElem?_getD, List.getElem?_eq_getElem hu]; exact List.getElem_mem _)
   have hrow := e2 ((exps I s).getD u []) (by rw [List.getD_eq_getElem?_getD, List.getElem?_eq_getElem hu]; exact List.getElem_mem _)
   have := List.all_eq_true.1 hr _ (rg_memL (l := (exps I s).getD u []) (v := (j : Int)) (by omega) (by rw [hrow.1]; omega))
   simp only [decide_eq_true_eq] at this
   rw [hc] at this
   unfold capI at this
   split at this <;> omega
 ·rintro ⟨hI, h2, h3, hok, h6, h5⟩
  obtain ⟨e1, e2⟩ := exps_len hI h2 hok
  refine ⟨by omega, h2, h3, ?_, ?_, ?_⟩
  ·have := (ok_fB (I := I) s 0 (by omega)).2 (by simpa using hok)
   exact this
  ·refine List.all_eq_true.2 fun r hr => ?_
   have hrow := e2 r hr
   obtain ⟨u, hu, rfl⟩ := List.getElem_of_mem hr
   refine List.all_eq_true.2 fun x hx => ?_
   obtain ⟨j, hj, rfl⟩ := List.getElem_of_mem hx
   have hj' : j < I := by rw [← hrow.1]; exact hj
   have hc := exps_col hok hj' u (by omega)
   rw [List.getD_eq_getElem?_getD, List.getElem?_eq_getElem hu, Option.getD_some, rg_nat hj] at hc
   have := h5 j hj' (u : Int) (by omega) (by omega)
   have h0 := rg_le0 (vl_ge (s := s) (unitR_ge I j)) (u : Int)
   rw [hc]
   unfold capI
   simp only [decide_eq_true_eq]
   split <;> omega
  ·refine List.all_eq_true.2 fun y hy => ?_
   have := h6 y hy
   rw [zb6 (x := (I : Int) + (s.length : Int)) (by omega), zb6 (by omega)]
   simp only [decide_eq_true_eq]
   omega
theorem Good.form {I : Nat} {s : List SStep} {o : List Int} (h : Good I s o) : Form I s o := by
 obtain ⟨J, e, hf⟩ := good_form (good_iff.2 h)
 obtain rfl : I = J := by omega
 exact hf
def mkOps (a : Int) (n : Nat) : List SRegOp := (List.range n).map fun (j : Nat) => ⟨a + 3 * (j : Int), a + 3 * (j : Int) + 1, a + 3 * (j : Int) + 2⟩
def mulM (m x y : Int) : Int := (w64 (x * y)).tmod m
def runP (m : Int) : List SStep → List Int → List Int
 | [], v => v
 | y :: ys, v => runP m ys (v ++ [mulM m (rg v y.f0) (rg v y.f1)])
def runR (m : Int) : List SRegOp → List Int → List Int
 | [], v => v
 | y :: ys, v => runR m ys (v.set y.f0.toNat (mulM m (rg v y.f1) (rg v y.f2)))
/-- Registers hold the values that the code tells. -/
structure Rel (n : Nat) (l reg v : List Int) : Prop where
 len : l.length = n
 len2 : reg.length = n
 at_ : ∀ r, hs n r = true → rg l r ≠ -1 → (0 ≤ rg l r ∧ rg l r < (v.length : Int)) ∧ rg reg r = rg v (rg l r)
def insR : List Int → List Int → List Int → List Int
 | [], _, reg => reg
 | y :: ys, v, reg => insR ys (v.drop 1) (reg.set y.toNat (v.getD 0 0))
/-! the programs run -/
theorem pick_l0 (v ys o : List Int) (j : Int) (h : ∀ y ∈ ys, 0 ≤ y ∧ y < (v.length : Int)) (hb : o.length + ys.length ≤ 1000) : spec_moPick.l0 v ys o j = some (o ++ ys.map (rg v)) := by
 induction ys generalizing o j with
 | nil => simp [spec_moPick.l0]
 | cons y ys ih =>
  simp only [List.length_cons] at hb
  have q := h y List.mem_cons_self
  simp only [spec_moPick.l0]
  rw [rg_gt q.1 q.2, Option.bind_some, ap_ok (by simp; omega), Option.bind_some, ih _ _ (fun z hz => h z (List.mem_cons_of_mem _ hz)) (by rw [List.length_append, List.length_singleton]; omega)]
  simp
structure CodeOk (n : Nat) (l1 : List Int) (l2 : List SRegOp) (l3 : List Int) : Prop where
 reg : 1 ≤ n ∧ n ≤ 46
 len1 : 1 ≤ l1.length ∧ l1.length ≤ 6
 len2 : l2.length ≤ 40
 len3 : l3.length ≤ 6
 dist : dst [] l1 = true
 ins : ∀ y ∈ l1, hs n y = true
 ops : ∀ y ∈ l2, hs n y.f0 = true ∧ hs n y.f1 = true ∧ hs n y.f2 = true
 outs : ∀ y ∈ l3, hs n y = true
 full : ∀ y ∈ l3, y ∈ l1 ∨ ∃ q ∈ l2, q.f0 = y
theorem insS_ne {n : Nat} {ys l : List Int} {i : Int} (hi : 0 ≤ i) (hl : l.length = n) (h : ∀ y ∈ ys, hs n y = true) {r : Int} (hr : hs n r = true) (hne : rg (insS ys l i) r ≠ -1) : rg l r ≠ -1 ∨ r ∈ ys := by
 induction ys generalizing l i with
 | nil => exact .inl hne
 | cons y ys ih =>
  have q := hs_iff.1 (h y List.mem_cons_self)
  have qr := hs_iff.1 hr
  rcases ih (by omega) (by simpa using hl) (fun z hz => h z (List.mem_cons_of_mem _ hz)) hne with g | g
  ·rw [rg_set qr.1 (by omega) q.1] at g
   by_cases e : y = r
   ·exact .inr (by rw [e]; exact List.mem_cons_self)
   ·rw [if_neg e] at g
    exact .inl g
  ·exact .inr (List.mem_cons_of_mem _ g)
theorem opsGo_ne {n : Nat} {m : Int} {ys : List SRegOp} {l : List Int} {s : List SStep} {a : List Int × List SStep} (hl : l.length = n) (h : opsGo n m ys l s = some a) {r : Int} (hr : hs n r = true) (hne : rg a.1 r ≠ -1) : rg l r ≠ -1 ∨ ∃ q ∈ ys, q.f0 = r := by
 induction ys generalizing l s with
 | nil =>
  simp only [opsGo, Option.some.injEq] at h
  subst h
  exact .inl hne
 | cons y ys ih =>
  simp only [opsGo] at h
  split at h
  ·rename_i c
   have q := hs_iff.1 c.1.1
   have qr := hs_iff.1 hr
   rcases ih (by simpa using hl) h with g | ⟨q, hq, e⟩
   ·rw [rg_set qr.1 (by omega) q.1] at g
    by_cases e : y.f0 = r
    ·exact .inr ⟨y, List.mem_cons_self, e⟩
    ·rw [if_neg e] at g
     exact .inl g
   ·exact .inr ⟨q, List.mem_cons_of_mem _ hq, e⟩
  ·cases h
theorem outsGo_ne {n : Nat} {l ys o a : List Int} (h : outsGo n l ys o = some a) : ∀ y ∈ ys, rg l y ≠ -1 := by
 induction ys generalizing o with
 | nil => exact fun y hy => nomatch hy
 | cons y ys ih =>
  simp only [outsGo] at h
  split at h
  ·rename_i c
   intro z hz
   rcases List.mem_cons.1 hz with e | e
   ·rw [e]
    exact c.2
   ·exact ih h z e
  ·cases h
theorem codeP_ok {a : Int} {l1 : List Int} {l2 : List SRegOp} {l3 : List Int} {s : List SStep} {o : List Int} (h : codeP a l1 l2 l3 = some (s, o)) : ∃ n : Nat, a = (n : Int) ∧ CodeOk n l1 l2 l3 ∧ Form l1.length s o := by
 unfold codeP at h
 split at h
 ·rename_i hlen
  split at h
  ·cases h
  ·rename_i s' o' hrd
   split at h
   ·rename_i hg
    obtain ⟨rfl, rfl⟩ : s' = s ∧ o' = o := by
     simp only [Option.some.injEq, Prod.mk.injEq] at h
     exact h
    obtain ⟨n, rfl⟩ := Int.eq_ofNat_of_zero_le (show 0 ≤ a by omega)
    have hreg : regs (n : Int) = n := by have := regs_in hlen.2; omega
    unfold rdGo at hrd
    rw [hreg] at hrd
    split at hrd
    ·cases hrd
    ·rename_i la hi
     split at hrd
     ·cases hrd
     ·rename_i lb sb hop
      split at hrd
      ·cases hrd
      ·rename_i ob hu
       obtain ⟨rfl, rfl⟩ : sb = s' ∧ ob = o' := by
        simp only [Option.some.injEq, Prod.mk.injEq] at hrd
        exact hrd
       obtain ⟨i1, i2⟩ := insGo_in n l1 (no n) [] 0 (by omega) (by simp [no]) (fun r hm => by cases hm) la hi
       have i3 := opsGo_in n _ l2 la [] _ hop
       have i4 := outsGo_in n lb l3 [] ob hu
       have ei := insGo_of n l1 (no n) [] 0 (by simp [no]) i1 i2 (fun r h _ => no_rg h)
       obtain rfl : insS l1 (no n) 0 = la := by rw [ei] at hi; exact Option.some.inj hi
       obtain ⟨I, hI, hform⟩ := good_form hg
       have hIl : I = l1.length := by omega
       subst hIl
       have a1 := fun y hy => List.all_eq_true.1 i1 y hy
       have hl0 : (no n).length = n := by simp [no]
       refine ⟨n, rfl, ⟨by omega, hform.inp, hlen.1.2.1, hlen.1.2.2, i2, a1, fun y hy => ?_, fun y hy => List.all_eq_true.1 i4.1 y hy, fun y hy => ?_⟩, hform⟩
       ·have := List.all_eq_true.1 i3 y hy
        simp only [opIn, Bool.and_eq_true] at this
        exact this
       ·have hy1 := List.all_eq_true.1 i4.1 y hy
        have hy2 := outsGo_ne hu y hy
        rcases opsGo_ne (by rw [insS_len]; exact hl0) hop hy1 hy2 with g | g
        ·rcases insS_ne (by omega) hl0 a1 hy1 g with g | g
         ·exact absurd (no_rg hy1) g
         ·exact .inl g
        ·exact .inr g
   ·cases h
 ·cases h
theorem reCode_ev (a : Int) (l1 : List Int) (l2 : List SRegOp) (l3 : List Int) : Ev (fun k => spec_reCode.f k a l1 l2 l3) (codeP a l1 l2 l3).isSome := by
 obtain ⟨r, hr, hc⟩ := rePlan_ev a l1 l2 l3
 unfold spec_reCode.f
 refine bind hr (now ?_)
 rcases hc with ⟨s, o, hc, rfl⟩ | ⟨hc, hf⟩
 ·rw [hc]
  rfl
 ·rw [hc]
  exact congrArg some hf
theorem isRegCode_ev (a : Int) (l1 : List Int) (l2 : List SRegOp) (l3 : List Int) : Ev (fun k => impl_IsRegCode.f k a l1 l2 l3) (codeP a l1 l2 l3).isSome := by
 unfold impl_IsRegCode.f
 refine bind (plan_ev a l1 l2 l3) (now ?_)
 cases codeP a l1 l2 l3 <;> rfl
theorem renamed_l0 (v ys o : List Int) (j : Int) (h : ∀ y ∈ ys, 0 ≤ y ∧ y < (v.length : Int)) (hb : o.length + ys.length ≤ 1000) : impl_renamed.l0 v ys o j = some (o ++ ys.map (rg v)) := by
 induction ys generalizing o j with
 | nil => simp [impl_renamed.l0]
 | cons y ys ih =>
  simp only [List.length_cons] at hb
  have q := h y List.mem_cons_self
  simp only [impl_renamed.l0]
  rw [rg_gt q.1 q.2, Option.bind_some, ap_ok (by simp; omega), Option.bind_some, ih _ _ (fun z hz => h z (List.mem_cons_of_mem _ hz)) (by rw [List.length_append, List.length_singleton]; omega)]
  simp
theorem renamed_eq (v ys : List Int) (h : ∀ y ∈ ys, 0 ≤ y ∧ y < (v.length : Int)) (hb : ys.length ≤ 1000) : impl_renamed.f ys v = some (ys.map (rg v)) := by
 unfold impl_renamed.f
 rw [renamed_l0 v ys [] 0 h (by simpa using hb)]
 simp
theorem moPick_eq (v ys : List Int) (h : ∀ y ∈ ys, 0 ≤ y ∧ y < (v.length : Int)) (hb : ys.length ≤ 1000) : spec_moPick.f v ys = some (ys.map (rg v)) := by
 unfold spec_moPick.f
 rw [pick_l0 v ys [] 0 h (by simpa using hb)]
 simp
def opMap (v : List Int) (y : SRegOp) : SRegOp := ⟨rg v y.f0, rg v y.f1, rg v y.f2⟩
theorem called_l0 (v : List Int) (ys o : List SRegOp) (j : Int) (h : ∀ y ∈ ys, (0 ≤ y.f0 ∧ y.f0 < (v.length : Int)) ∧ (0 ≤ y.f1 ∧ y.f1 < (v.length : Int)) ∧ (0 ≤ y.f2 ∧ y.f2 < (v.length : Int))) (hb : o.length + ys.length ≤ 1000) : impl_RegCode_called.l0 v ys o j = some (o ++ ys.map (opMap v)) := by
 induction ys generalizing o j with
 | nil => simp [impl_RegCode_called.l0]
 | cons y ys ih =>
  simp only [List.length_cons] at hb
  have q := h y List.mem_cons_self
  simp only [impl_RegCode_called.l0]
  rw [rg_gt q.1.1 q.1.2, rg_gt q.2.1.1 q.2.1.2, rg_gt q.2.2.1 q.2.2.2]
  simp only [Option.bind_some]
  rw [ap_ok (by simp; omega), Option.bind_some, ih _ _ (fun z hz => h z (List.mem_cons_of_mem _ hz)) (by rw [List.length_append, List.length_singleton]; omega)]
  simp [opMap]
theorem named_l0 (v : List Int) (ys o : List SRegOp) (j : Int) (h : ∀ y ∈ ys, (0 ≤ y.f0 ∧ y.f0 < (v.length : Int)) ∧ (0 ≤ y.f1 ∧ y.f1 < (v.length : Int)) ∧ (0 ≤ y.f2 ∧ y.f2 < (v.length : Int))) (hb : o.length + ys.length ≤ 1000) : spec_reNamed.l0 v ys o j = some (o ++ ys.map (opMap v)) := by
 induction ys generalizing o j with
 | nil => simp [spec_reNamed.l0]
 | cons y ys ih =>
  simp only [List.length_cons] at hb
  have q := h y List.mem_cons_self
  simp only [spec_reNamed.l0]
  rw [rg_gt q.1.1 q.1.2, rg_gt q.2.1.1 q.2.1.2, rg_gt q.2.2.1 q.2.2.2]
  simp only [Option.bind_some]
  rw [ap_ok (by simp; omega), Option.bind_some, ih _ _ (fun z hz => h z (List.mem_cons_of_mem _ hz)) (by rw [List.length_append, List.length_singleton]; omega)]
  simp [opMap]
/-- Registers called by other names. -/
theorem called_eq {n : Nat} {l1 : List Int} {l2 : List SRegOp} {l3 : List Int} (h : CodeOk n l1 l2 l3) (v : List Int) (hv : v.length = n) (a b : Int) : impl_RegCode_called.f a l1 l2 l3 b v = some (l1.map (rg v), l2.map (opMap v), l3.map (rg v)) ∧ spec_reNamed.f a l1 l2 l3 v b = some (l1.map (rg v), l2.map (opMap v), l3.map (rg v)) := by
 have r1 : ∀ y ∈ l1, 0 ≤ y ∧ y < (v.length : Int) := fun y hy => by have := hs_iff.1 (h.ins y hy); rw [hv]; exact this
 have r3 : ∀ y ∈ l3, 0 ≤ y ∧ y < (v.length : Int) := fun y hy => by have := hs_iff.1 (h.outs y hy); rw [hv]; exact this
 have r2 : ∀ y ∈ l2, (0 ≤ y.f0 ∧ y.f0 < (v.length : Int)) ∧ (0 ≤ y.f1 ∧ y.f1 < (v.length : Int)) ∧ (0 ≤ y.f2 ∧ y.f2 < (v.length : Int)) := fun y hy => by
  have := h.ops y hy
  rw [hv]
  exact ⟨hs_iff.1 this.1, hs_iff.1 this.2.1, hs_iff.1 this.2.2⟩
 have b1 := h.len1
 have b2 := h.len2
 have b3 := h.len3
 constructor
 ·unfold impl_RegCode_called.f
  rw [renamed_eq v l1 r1 (by omega), renamed_eq v l3 r3 (by omega), called_l0 v l2 [] 0 r2 (by simp; omega)]
  simp
 ·unfold spec_reNamed.f
  rw [moPick_eq v l1 r1 (by omega), moPick_eq v l3 r3 (by omega), named_l0 v l2 [] 0 r2 (by simp; omega)]
  simp
end Go.Proofs.YtnnlfipcoahcnaaGreatDoor.Pure
