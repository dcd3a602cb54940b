/- Pure: Preg, Preg2, Pval, Plaws, Pdraw, Psplit, Ptrim, Pkeep, Piota, Pused. -/
import Derived.Test.YtiaohjciddbpoaaKFnMethodsPna
set_option linter.unusedVariables false
set_option linter.unusedSimpArgs false
namespace Go.Proofs.Ytiaohjciddbpoaa.Pure
open Go.RowKit Go.Proofs.Ytiaohjciddbpoaa.E Go.Proofs.Ytiaohjciddbpoaa.M5 Go.Proofs.Ytiaohjciddbpoaa.Frame Go.Proofs.YtiaohjciddbpoaaW.PrintLast Go.Proofs.YtiaohjciddbpoaaW.PrintMore
open Go.Proofs.YtiaohjciddbpoaaW.PrintWords hiding mn mx
open Go.Proofs.Ytiaohjciddbpoaa.Hand
def rg (l : List Int) (r : Int) : Int := l.getD r.toNat 0
theorem rg_gt {l : List Int} {r : Int} (h0 : 0 ≤ r) (h1 : r < (l.length : Int)) : gt l r = some (rg l r) := by
 unfold gt rg
 rw [if_pos h0, List.getD_eq_getElem?_getD, List.getElem?_eq_getElem (by omega)]
 rfl
def Low (l : List Int) : Prop := ∀ x ∈ l, -1 ≤ x
theorem Low.at {l : List Int} (h : Low l) {r : Int} (h0 : 0 ≤ r) (h1 : r < (l.length : Int)) : -1 ≤ rg l r := by
 unfold rg
 rw [List.getD_eq_getElem?_getD, List.getElem?_eq_getElem (by omega)]
 exact h _ (List.getElem_mem _)
theorem Low.set {l : List Int} (h : Low l) {x : Nat} {v : Int} (hv : -1 ≤ v) : Low (l.set x v) := fun y hy => by
 rcases List.mem_or_eq_of_mem_set hy with g | g
 ·exact h y g
 ·rw [g]
  exact hv
/-- Is a register there? -/
def hs (n : Nat) (r : Int) : Bool := decide (0 ≤ r ∧ r < (n : Int))
def insGo (n : Nat) : List Int → List Int → Int → Option (List Int)
 | [], l, _ => some l
 | y :: ys, l, i => if hs n y = true ∧ rg l y = -1 then insGo n ys (l.set y.toNat i) (i + 1) else none
def outsGo (n : Nat) (l : List Int) : List Int → List Int → Option (List Int)
 | [], o => some o
 | y :: ys, o => if hs n y = true ∧ rg l y ≠ -1 then outsGo n l ys (o ++ [rg l y]) else none
def nul : Int × List SStep × List Int × Bool := (0, [], [], false)
def regs (a : Int) : Nat := (mx (mn a 46) 0).toNat
def no : Nat → List Int := fun n => List.replicate n (-1)
theorem least_eq (a b : Int) : spec_l1Least.f a b = some (mn a b) := by
 unfold spec_l1Least.f mn
 split <;> split <;> simp <;> omega
theorem most_eq (a b : Int) : spec_l1Most.f a b = some (mx a b) := by
 unfold spec_l1Most.f mx
 split <;> split <;> simp <;> omega
theorem plStep_eq (a b : Int) : spec_plStep.f a b = some ⟨mn a b, mx a b⟩ := by
 unfold spec_plStep.f
 rw [least_eq, most_eq]
 rfl
/-- No number twice. -/
def dst (p : List Int) : List Int → Bool
 | [] => true
 | y :: ys => !decide (y ∈ p) && dst (p ++ [y]) ys
def insS : List Int → List Int → Int → List Int
 | [], l, _ => l
 | y :: ys, l, i => insS ys (l.set y.toNat i) (i + 1)
theorem rg_app {l m : List Int} {v : Int} (h0 : 0 ≤ v) (h1 : v < (l.length : Int)) : rg (l ++ m) v = rg l v := by
 unfold rg
 rw [List.getD_eq_getElem?_getD, List.getD_eq_getElem?_getD, List.getElem?_append_left (by omega)]
theorem rg_new {l : List Int} {x v : Int} (h : v = (l.length : Int)) : rg (l ++ [x]) v = x := by
 subst h
 unfold rg
 rw [Int.toNat_natCast, List.getD_eq_getElem?_getD, List.getElem?_append_right (Nat.le_refl _), Nat.sub_self]
 rfl
theorem rg_nat {l : List Int} {j : Nat} (h : j < l.length) : rg l (j : Int) = l[j] := by
 unfold rg
 rw [Int.toNat_natCast, List.getD_eq_getElem?_getD, List.getElem?_eq_getElem h]
 rfl
theorem rg_memL {l : List Int} {v : Int} (h0 : 0 ≤ v) (h1 : v < (l.length : Int)) : rg l v ∈ l := by
 obtain ⟨j, rfl⟩ := Int.eq_ofNat_of_zero_le h0
 rw [rg_nat (show j < l.length by omega)]
 exact List.getElem_mem _
theorem rg_le0 {l : List Int} (h : ∀ x ∈ l, 0 ≤ x) (v : Int) : 0 ≤ rg l v := by
 unfold rg
 rw [List.getD_eq_getElem?_getD]
 cases c : l[v.toNat]? with
 | none => exact Int.le_refl 0
 | some x => exact h x (List.mem_of_getElem? c)
/-- All values from those of the inputs, not bounded. -/
def vl : List SStep → List Int → List Int
 | [], l => l
 | y :: ys, l => vl ys (l ++ [rg l y.f0 + rg l y.f1])
theorem vl_len (s : List SStep) (l : List Int) : (vl s l).length = l.length + s.length := by
 induction s generalizing l with
 | nil => rfl
 | cons y ys ih =>
  rw [vl, ih, List.length_append, List.length_singleton, List.length_cons]
  omega
theorem vl_pre (s : List SStep) (l : List Int) {v : Int} (h0 : 0 ≤ v) (h1 : v < (l.length : Int)) : rg (vl s l) v = rg l v := by
 induction s generalizing l with
 | nil => rfl
 | cons y ys ih =>
  rw [vl, ih _ (by rw [List.length_append]; omega), rg_app h0 h1]
theorem vl_append (s t : List SStep) (l : List Int) : vl (s ++ t) l = vl t (vl s l) := by
 induction s generalizing l with
 | nil => rfl
 | cons y ys ih => exact ih _
/-- Steps that may follow n values. -/
def Ok (n : Nat) : List SStep → Prop
 | [] => True
 | y :: ys => (0 ≤ y.f0 ∧ y.f0 ≤ y.f1 ∧ y.f1 < (n : Int)) ∧ Ok (n + 1) ys
theorem Ok.append {n : Nat} {s t : List SStep} : Ok n (s ++ t) ↔ Ok n s ∧ Ok (n + s.length) t := by
 induction s generalizing n with
 | nil => simp [Ok]
 | cons y ys ih =>
  simp only [List.cons_append, Ok, ih, List.length_cons]
  rw [show n + 1 + ys.length = n + (ys.length + 1) by omega]
  exact and_assoc.symm
theorem Ok.at {n : Nat} {s : List SStep} (h : Ok n s) {m : Nat} {y : SStep} (hm : s[m]? = some y) : 0 ≤ y.f0 ∧ y.f0 ≤ y.f1 ∧ y.f1 < ((n + m : Nat) : Int) := by
 induction s generalizing n m with
 | nil => simp at hm
 | cons z s ih =>
  cases m with
  | zero =>
   obtain rfl : z = y := by simpa using hm
   exact h.1
  | succ m =>
   have := ih h.2 (m := m) (by simpa using hm)
   rw [show n + (m + 1) = n + 1 + m by omega]
   exact this
theorem ok_fB {I : Nat} (s : List SStep) (j : Nat) (hb : I + j + s.length ≤ 100000) : fB (I : Int) s (j : Int) = true ↔ Ok (I + j) s := by
 induction s generalizing j with
 | nil => simp [fB, Ok]
 | cons y ys ih =>
  simp only [List.length_cons] at hb
  simp only [fB, Ok, Bool.and_eq_true, decide_eq_true_eq]
  rw [zam (by omega), show (j : Int) + 1 = ((j + 1 : Nat) : Int) by omega, ih (j + 1) (by omega)]
  rw [show I + (j + 1) = I + j + 1 by omega, show ((I + j : Nat) : Int) = (I : Int) + (j : Int) by omega]
theorem vl_at {s : List SStep} {l : List Int} (h : Ok l.length s) {m : Nat} {y : SStep} (hm : s[m]? = some y) : rg (vl s l) ((l.length + m : Nat) : Int) = rg (vl s l) y.f0 + rg (vl s l) y.f1 := by
 induction s generalizing l m with
 | nil => simp at hm
 | cons z s ih =>
  have h1 := h.1
  have h2 := h.2
  cases m with
  | zero =>
   obtain rfl : z = y := by simpa using hm
   have hl : (l ++ [rg l z.f0 + rg l z.f1]).length = l.length + 1 := by rw [List.length_append, List.length_singleton]
   have e0 : rg (l ++ [rg l z.f0 + rg l z.f1]) ((l.length + 0 : Nat) : Int) = rg l z.f0 + rg l z.f1 := rg_new (by omega)
   have e1 : rg (l ++ [rg l z.f0 + rg l z.f1]) z.f0 = rg l z.f0 := rg_app (by omega) (by omega)
   have e2 : rg (l ++ [rg l z.f0 + rg l z.f1]) z.f1 = rg l z.f1 := rg_app (by omega) (by omega)
   rw [vl, vl_pre _ _ (by omega) (by omega), vl_pre _ _ (by omega) (by omega), vl_pre _ _ (by omega) (by omega), e0, e1, e2]
  | succ m =>
   rw [vl]
   have := ih (l := l ++ [rg l z.f0 + rg l z.f1]) (by rw [List.length_append, List.length_singleton]; exact h2) (m := m) (by simpa using hm)
   rw [List.length_append, List.length_singleton, show l.length + 1 + m = l.length + (m + 1) by omega] at this
   exact this
theorem vl_ge {s : List SStep} {l : List Int} (h : ∀ x ∈ l, 0 ≤ x) : ∀ x ∈ vl s l, 0 ≤ x := by
 induction s generalizing l with
 | nil => exact h
 | cons y ys ih =>
  refine ih fun x hx => ?_
  rcases List.mem_append.1 hx with hx | hx
  ·exact h x hx
  ·rw [List.mem_singleton.1 hx]
   have := rg_le0 h y.f0
   have := rg_le0 h y.f1
   omega
/-! exponents -/
theorem unitR_len (n j : Nat) : (unitR n j).length = n := by simp [unitR]
theorem unitR_rg {n j : Nat} (hj : j < n) {v : Int} (h0 : 0 ≤ v) (h1 : v < (n : Int)) : rg (unitR n j) v = if v = (j : Int) then 1 else 0 := by
 obtain ⟨u, rfl⟩ := Int.eq_ofNat_of_zero_le h0
 rw [rg_nat (by rw [unitR_len]; omega)]
 unfold unitR
 rw [List.getElem_set]
 by_cases c : j = u
 ·rw [if_pos c, if_pos (by omega)]
 ·rw [if_neg c, if_neg (by omega)]
  simp
theorem unitR_ge (n j : Nat) : ∀ x ∈ unitR n j, 0 ≤ x := fun x hx => ((unitR_ok n j).2 x hx).1
def capI (x : Int) : Int := if x ≤ 1000001 then x else 1000001
theorem cap_add {a b : Int} (ha : 0 ≤ a) (hb : 0 ≤ b) : addC (capI a) (capI b) = capI (a + b) := by
 unfold addC capI
 split <;> split <;> split <;> omega
theorem exGo_col {n j : Nat} (hj : j < n) (s : List SStep) (rs : List (List Int)) (l : List Int) (hrs : ∀ r ∈ rs, RowOk n r) (hl : l.length = rs.length) (hs : Ok l.length s) (h0 : ∀ x ∈ l, 0 ≤ x) (h : ∀ v : Nat, v < rs.length → rg (rs.getD v []) (j : Int) = capI (rg l (v : Int))) : ∀ v : Nat, v < rs.length + s.length → rg ((exGo rs s).getD v []) (j : Int) = capI (rg (vl s l) (v : Int)) := by
 induction s generalizing rs l with
 | nil => exact fun v hv => h v (by simpa using hv)
 | cons y ys ih =>
  have h1 := hs.1
  obtain ⟨g0, o0⟩ := getD_ok hrs h1.1 (by omega)
  obtain ⟨g1, o1⟩ := getD_ok hrs (show 0 ≤ y.f1 by omega) (by omega)
  have hso := sumC_ok o0 o1
  intro v hv
  simp only [List.length_cons] at hv
  refine ih (rs ++ [_]) (l ++ [_]) (fun r hr => ?_) (by rw [List.length_append, List.length_append, hl]; rfl) (by rw [List.length_append, List.length_singleton]; exact hs.2) ?_ ?_ v (by rw [List.length_append, List.length_singleton]; omega)
  ·rcases List.mem_append.1 hr with hr | hr
   ·exact hrs r hr
   ·rw [List.mem_singleton.1 hr]
    exact hso
  ·intro x hx
   rcases List.mem_append.1 hx with hx | hx
   ·exact h0 x hx
   ·rw [List.mem_singleton.1 hx]
    have := rg_le0 h0 y.f0
    have := rg_le0 h0 y.f1
    omega
  ·intro u hu
   rw [List.length_append, List.length_singleton] at hu
   by_cases c : u < rs.length
   ·rw [rg_app (by omega) (by omega), List.getD_eq_getElem?_getD, List.getElem?_append_left c, ← List.getD_eq_getElem?_getD]
    exact h u c
   ·obtain rfl : u = rs.length := by omega
    rw [rg_new (by omega), List.getD_eq_getElem?_getD, List.getElem?_append_right (Nat.le_refl _), Nat.sub_self]
    simp only [List.getElem?_cons_zero, Option.getD_some]
    have e0 := h y.f0.toNat (by omega)
    have e1 := h y.f1.toNat (by omega)
    rw [show ((y.f0.toNat : Nat) : Int) = y.f0 by omega] at e0
    rw [show ((y.f1.toNat : Nat) : Int) = y.f1 by omega] at e1
    rw [← cap_add (rg_le0 h0 _) (rg_le0 h0 _), ← e0, ← e1]
    have q0 : j < (rs.getD y.f0.toNat []).length := by rw [o0.1]; exact hj
    have q1 : j < (rs.getD y.f1.toNat []).length := by rw [o1.1]; exact hj
    have q2 : j < (sumC (rs.getD y.f0.toNat []) (rs.getD y.f1.toNat [])).length := by rw [hso.1]; exact hj
    rw [rg_nat q2, rg_nat q0, rg_nat q1]
    simp [sumC]
theorem exps_col {I : Nat} {s : List SStep} (hs : Ok I s) {j : Nat} (hj : j < I) (v : Nat) (hv : v < I + s.length) : rg ((exps I s).getD v []) (j : Int) = capI (rg (vl s (unitR I j)) (v : Int)) := by
 have hl : (units I I).length = I := by simp [units]
 refine exGo_col hj s (units I I) (unitR I j) (units_ok I I) (by rw [unitR_len, hl]) (by rw [unitR_len]; exact hs) (unitR_ge I j) ?_ v (by rw [hl]; exact hv)
 intro u hu
 rw [hl] at hu
 have e : (units I I).getD u [] = unitR I u := by
  rw [List.getD_eq_getElem?_getD, List.getElem?_eq_getElem (by rw [hl]; exact hu)]
  simp [units]
 rw [e, unitR_rg hu (by omega) (by omega), unitR_rg hj (by omega) (by omega)]
 by_cases c : j = u
 ·subst c
  rw [if_pos rfl]
  rfl
 ·rw [if_neg (by omega), if_neg (by omega)]
  rfl
/-- What a plan is. -/
structure Good (I : Nat) (s : List SStep) (o : List Int) : Prop where
 inp : 1 ≤ I ∧ I ≤ 6
 stp : s.length ≤ 40
 out : o.length ≤ 6
 ok : Ok I s
 os : ∀ y ∈ o, 0 ≤ y ∧ y < ((I + s.length : Nat) : Int)
 le : ∀ j : Nat, j < I → ∀ v : Int, 0 ≤ v → v < ((I + s.length : Nat) : Int) → rg (vl s (unitR I j)) v ≤ 1000000
theorem exps_len {I : Nat} {s : List SStep} (hI : 1 ≤ I ∧ I ≤ 6) (hs : s.length ≤ 40) (h : Ok I s) : (exps I s).length = I + s.length ∧ ∀ r ∈ exps I s, RowOk I r := by
 obtain ⟨_, _, a3, a4⟩ := exps_ev I (by omega) s [] (by omega) (by have := (ok_fB (I := I) s 0 (by omega)).2 (by simpa using h); exact this)
 exact ⟨a4, a3⟩
theorem good_iff {I : Nat} {s : List SStep} {o : List Int} : good (I : Int) s o = true ↔ Good I s o := by
 unfold good
 simp only [Bool.and_eq_true, decide_eq_true_eq, Int.toNat_natCast]
 constructor
 ·rintro ⟨h1, h2, h3, h4, h5, h6⟩
  have hI : 1 ≤ I ∧ I ≤ 6 := by omega
  have hok : Ok I s := by have := (ok_fB (I := I) s 0 (by omega)).1 h4; simpa using this
  obtain ⟨e1, e2⟩ := exps_len hI h2 hok
  refine ⟨hI, h2, h3, hok, ?_, ?_⟩
  ·intro y hy
   have := List.all_eq_true.1 h6 y hy
   rw [zam (x := (I : Int) + (s.length : Int)) (by omega), zam (by omega)] at this
   simp only [decide_eq_true_eq] at this
   omega
  ·intro j hj v v0 v1
   obtain ⟨u, rfl⟩ := Int.eq_ofNat_of_zero_le v0
   have hc := exps_col hok hj u (by omega)
   have hu : u < (exps I s).length := by omega
   have hr := List.all_eq_true.1 h5 ((exps I s).getD u []) (by rw [List.getD_eq_getElem?_getD, List.getElem?_eq_getElem hu]; exact List.getElem_mem _)
   have hrow := e2 ((exps I s).getD u []) (by rw [List.getD_eq_getElem?_getD, List.getElem?_eq_getElem hu]; exact List.getElem_mem _)
   have := List.all_eq_true.1 hr _ (rg_memL (l := (exps I s).getD u []) (v := (j : Int)) (by omega) (by rw [hrow.1]; omega))
   simp only [decide_eq_true_eq] at this
   rw [hc] at this
   unfold capI at this
   split at this <;> omega
 ·rintro ⟨hI, h2, h3, hok, h6, h5⟩
  obtain ⟨e1, e2⟩ := exps_len hI h2 hok
  refine ⟨by omega, h2, h3, ?_, ?_, ?_⟩
  ·have := (ok_fB (I := I) s 0 (by omega)).2 (by simpa using hok)
   exact this
  ·refine List.all_eq_true.2 fun r hr => ?_
   have hrow := e2 r hr
   obtain ⟨u, hu, rfl⟩ := List.getElem_of_mem hr
   refine List.all_eq_true.2 fun x hx => ?_
   obtain ⟨j, hj, rfl⟩ := List.getElem_of_mem hx
   have hj' : j < I := by rw [← hrow.1]; exact hj
   have hc := exps_col hok hj' u (by omega)
   rw [List.getD_eq_getElem?_getD, List.getElem?_eq_getElem hu, Option.getD_some, rg_nat hj] at hc
   have := h5 j hj' (u : Int) (by omega) (by omega)
   have h0 := rg_le0 (vl_ge (s := s) (unitR_ge I j)) (u : Int)
   rw [hc]
   unfold capI
   simp only [decide_eq_true_eq]
   split <;> omega
  ·refine List.all_eq_true.2 fun y hy => ?_
   have := h6 y hy
   rw [zam (x := (I : Int) + (s.length : Int)) (by omega), zam (by omega)]
   simp only [decide_eq_true_eq]
   omega
theorem Good.form {I : Nat} {s : List SStep} {o : List Int} (h : Good I s o) : Form I s o := by
 obtain ⟨J, e, hf⟩ := good_form (good_iff.2 h)
 obtain rfl : I = J := by omega
 exact hf
theorem pSameInts_refl (l : List Int) : laws_pSameInts.f l l = some true := by
 have key : ∀ (d j : Nat), j + d = l.length → laws_pSameInts.l0 l (l.drop j) (j : Int) = some (.inr ()) := by
  intro d
  induction d with
  | zero =>
   intro j hj
   rw [List.drop_eq_nil_of_le (by omega)]
   rfl
  | succ d ih =>
   intro j hj
   rw [List.drop_eq_getElem_cons (show j < l.length by omega)]
   simp only [laws_pSameInts.l0]
   rw [gt_nat (show j < l.length by omega), Option.bind_some, if_neg (by simp), show (j : Int) + 1 = ((j + 1 : Nat) : Int) by omega]
   exact ih (j + 1) (by omega)
 unfold laws_pSameInts.f
 rw [if_neg (by simp)]
 have := key l.length 0 (by omega)
 rw [List.drop_zero] at this
 rw [show (0 : Int) = ((0 : Nat) : Int) from rfl, this]
 rfl
theorem ren_l0 (v ys o : List Int) (j : Int) (h : ∀ y ∈ ys, 0 ≤ y ∧ y < (v.length : Int)) (hb : o.length + ys.length ≤ 1000) : impl_renamed.l0 v ys o j = some (o ++ ys.map (rg v)) := by
 induction ys generalizing o j with
 | nil => simp [impl_renamed.l0]
 | cons y ys ih =>
  simp only [List.length_cons] at hb
  have hy := h y List.mem_cons_self
  simp only [impl_renamed.l0]
  rw [rg_gt hy.1 hy.2, Option.bind_some, ap_ok (by simp; omega), Option.bind_some, ih _ _ (fun z hz => h z (List.mem_cons_of_mem _ hz)) (by rw [List.length_append, List.length_singleton]; omega)]
  simp
theorem ren_eq (v ys : List Int) (h : ∀ y ∈ ys, 0 ≤ y ∧ y < (v.length : Int)) (hb : ys.length ≤ 1000) : impl_renamed.f ys v = some (ys.map (rg v)) := by
 unfold impl_renamed.f
 rw [ren_l0 v ys [] 0 h (by simpa using hb)]
 rfl
def toldP (i : Int) (s : List SStep) (o : List Int) : Int × List SStep × List Int × Bool := if good i s o = true then (i, s, o, true) else (0, [], [], false)
theorem plIf_ev (i : Int) (s : List SStep) (o : List Int) : Ev (fun k => spec_plIf.f k i s o) (toldP i s o) := by
 have e1 := plGood_ev i s o
 unfold spec_plIf.f toldP
 cases hg : good i s o with
 | true => rw [hg] at e1; exact bind e1 (pos rfl (ret _))
 | false => rw [hg] at e1; exact bind e1 (neg (by simp) (ret _))
theorem told_ev (i : Int) (s : List SStep) (o : List Int) : Ev (fun k => impl_told.f k i s o) (toldP i s o) := by
 have e1 := isPlan_ev i s o
 unfold impl_told.f toldP
 cases hg : good i s o with
 | true => rw [hg] at e1; exact bind e1 (pos rfl (ret _))
 | false => rw [hg] at e1; exact bind e1 (neg (by simp) (ret _))
/-- The places of another plan's values when its steps are put behind. -/
def bh (i : Int) : List SStep → List Int → List SStep → List Int × List SStep
 | [], p, s => (p, s)
 | y :: ys, p, s => bh i ys (p ++ [i + (s.length : Int)]) (s ++ [⟨mn (rg (p ++ [i + (s.length : Int)]) y.f0) (rg (p ++ [i + (s.length : Int)]) y.f1), mx (rg (p ++ [i + (s.length : Int)]) y.f0) (rg (p ++ [i + (s.length : Int)]) y.f1)⟩])
theorem bh_len (i : Int) (ys : List SStep) (p : List Int) (s : List SStep) : (bh i ys p s).1.length = p.length + ys.length ∧ (bh i ys p s).2.length = s.length + ys.length := by
 induction ys generalizing p s with
 | nil => exact ⟨rfl, rfl⟩
 | cons y ys ih =>
  have := ih (p ++ [i + (s.length : Int)]) (s ++ [⟨mn (rg (p ++ [i + (s.length : Int)]) y.f0) (rg (p ++ [i + (s.length : Int)]) y.f1), mx (rg (p ++ [i + (s.length : Int)]) y.f0) (rg (p ++ [i + (s.length : Int)]) y.f1)⟩])
  simp only [bh, List.length_cons]
  rw [List.length_append, List.length_append, List.length_singleton, List.length_singleton] at this
  omega
def Bytes (c : List Int) : Prop := ∀ y ∈ c, 0 ≤ y ∧ y ≤ 255
/-- So many picks may still be made. -/
def Bud (a : Int) (m : Nat) : Prop := 0 ≤ a ∧ a + 2 * (m : Int) ≤ 1000000000
theorem Bud.le {a : Int} {m m' : Nat} (h : Bud a m) (hm : m' ≤ m) : Bud a m' := ⟨h.1, by have := h.2; omega⟩
theorem byte_in {c : List Int} (h : ∀ y ∈ c, (Lit.int .u8 y).wf = true) : Bytes c := fun y hy => by
 have h2 := h y hy
 simp [Lit.wf, IntKind.min, IntKind.max, IntKind.signed, IntKind.bits] at h2
 omega
theorem and255 (x : Int) : 0 ≤ Go.bits .and .u64 x 255 ∧ Go.bits .and .u64 x 255 ≤ 255 := by
 have hw : ∀ n : Nat, n ≤ 255 → 0 ≤ IntKind.u64.wrap (n : Int) ∧ IntKind.u64.wrap (n : Int) ≤ 255 := fun n hn => by
  unfold IntKind.wrap
  simp [IntKind.signed, IntKind.bits]
  omega
 have h : (BitVec.ofInt IntKind.u64.bits x &&& BitVec.ofInt IntKind.u64.bits 255).toNat ≤ 255 := by
  rw [BitVec.toNat_and]
  exact Nat.le_trans Nat.and_le_right (by decide)
 exact hw _ h
theorem next_ev {c : List Int} (hc : Bytes c) (hl : c.length ≤ 1048576) {a : Int} (ha : 0 ≤ a ∧ a ≤ 1000000000) (sd : Int) : ∃ x sd', spec_l1Cur_next.f c a sd = some (x, sd') ∧ 0 ≤ x ∧ x ≤ 255 := by
 have hv : ∃ v, (if a < (c.length : Int) then ((gt c a).bind fun y14 => some (w64 y14)) else (some 0)) = some v ∧ 0 ≤ v ∧ v ≤ 255 := by
  by_cases h : a < (c.length : Int)
  ·rw [if_pos h]
   have hj : a.toNat < c.length := by omega
   have hg : gt c a = some c[a.toNat] := by
    unfold gt
    rw [if_pos ha.1, List.getElem?_eq_getElem hj]
   have hb := hc _ (List.getElem_mem hj)
   rw [hg, Option.bind_some, zam (by omega)]
   exact ⟨_, rfl, hb⟩
  ·rw [if_neg h]
   exact ⟨0, rfl, by omega, by omega⟩
 obtain ⟨v, e, hv⟩ := hv
 unfold spec_l1Cur_next.f
 rw [e, Option.bind_some]
 split
 ·exact ⟨_, _, rfl, hv⟩
 ·refine ⟨_, _, rfl, ?_⟩
  have := and255 ((IntKind.u64.wrap (IntKind.u64.wrap (IntKind.u64.wrap (sd * 6364136223846793005) + (IntKind.u64.wrap v)) + 1442695040888963407)) / 2 ^ min (40 : Int).toNat IntKind.u64.bits)
  rw [zam (by omega)]
  exact this
theorem pick_ev {c : List Int} (hc : Bytes c) (hl : c.length ≤ 1048576) {a : Int} {m : Nat} (ha : Bud a (m + 1)) (sd n : Int) : ∃ x a' sd', spec_l1Cur_pick.f c a sd n = some (x, a', sd') ∧ 0 ≤ x ∧ (x = 0 ∨ x < n) ∧ Bud a' m := by
 unfold spec_l1Cur_pick.f
 have h0 := ha.1
 have h1 := ha.2
 by_cases hn : n ≤ 1
 ·rw [if_pos hn]
  exact ⟨0, a, sd, rfl, by omega, .inl rfl, ha.le (by omega)⟩
 ·rw [if_neg hn]
  obtain ⟨x, s1, e1, x0, x1⟩ := next_ev hc hl (a := a) (by omega) sd
  have hz : nz n = some () := by
   unfold nz
   rw [if_neg (by omega)]
  rw [e1, Option.bind_some]
  simp only
  by_cases h2 : 200 < n
  ·rw [if_pos h2, zam (x := a + 1) (by omega)]
   obtain ⟨y, s2, e2, y0, y1⟩ := next_ev hc hl (a := a + 1) (by omega) s1
   rw [e2, Option.bind_some, hz, zam (x := x * 256) (by omega), zam (x := x * 256 + y) (by omega), zam (x := a + 1 + 1) (by omega)]
   refine ⟨_, _, _, rfl, Int.tmod_nonneg _ (by omega), .inr (Int.tmod_lt_of_pos _ (by omega)), by omega, by omega⟩
  ·rw [if_neg h2, hz, zam (x := a + 1) (by omega)]
   exact ⟨_, _, _, rfl, Int.tmod_nonneg _ (by omega), .inr (Int.tmod_lt_of_pos _ (by omega)), by omega, by omega⟩
theorem among_ev {c : List Int} (hc : Bytes c) (hl : c.length ≤ 1048576) {a : Int} {m : Nat} (ha : Bud a (m + 1)) (sd : Int) (l : List Int) (hne : 0 < l.length) : ∃ y a' sd', spec_l1Cur_among.f c a sd l = some (y, a', sd') ∧ y ∈ l ∧ Bud a' m := by
 obtain ⟨x, a', sd', e, x0, x1, hb⟩ := pick_ev hc hl ha sd (l.length : Int)
 unfold spec_l1Cur_among.f
 rw [e, Option.bind_some]
 have hj : x.toNat < l.length := by omega
 have hg : gt l x = some l[x.toNat] := by
  unfold gt
  rw [if_pos x0, List.getElem?_eq_getElem hj]
 simp only [hg, Option.bind_some]
 exact ⟨_, _, _, rfl, List.getElem_mem hj, hb⟩
theorem big_eq (l m : List Int) (hl : l.length ≤ maxLen) (hm : m.length ≤ maxLen) : ∃ b, laws_big.f l m = some b ∧ (b = false → l.length ≤ 1048576 ∧ m.length ≤ 1048576) := by
 have h1 : l.length ≤ 9223372036854775807 := hl
 have h2 : m.length ≤ 9223372036854775807 := hm
 unfold laws_big.f
 by_cases c : 1048576 < (l.length : Int)
 ·rw [if_pos c]
  exact ⟨true, rfl, fun h => nomatch h⟩
 ·rw [if_neg c, zam (by omega)]
  refine ⟨_, rfl, fun h => ?_⟩
  simp only [decide_eq_false_iff_not] at h
  omega
/-! lists that rise -/
theorem sorted_eq {l m : List Int} (hl : l.Pairwise (· < ·)) (hm : m.Pairwise (· < ·)) (h : ∀ x, x ∈ l ↔ x ∈ m) : l = m := by
 induction l generalizing m with
 | nil =>
  cases m with
  | nil => rfl
  | cons b m => exact absurd ((h b).2 List.mem_cons_self) (by simp)
 | cons a l ih =>
  cases m with
  | nil => exact absurd ((h a).1 List.mem_cons_self) (by simp)
  | cons b m =>
   obtain ⟨l1, l2⟩ := List.pairwise_cons.1 hl
   obtain ⟨m1, m2⟩ := List.pairwise_cons.1 hm
   have hab : a = b := by
    rcases List.mem_cons.1 ((h a).1 List.mem_cons_self) with e | e
    ·exact e
    ·rcases List.mem_cons.1 ((h b).2 List.mem_cons_self) with e' | e'
     ·exact e'.symm
     ·have := m1 a e
      have := l1 b e'
      omega
   subst hab
   congr 1
   refine ih l2 m2 fun x => ⟨fun hx => ?_, fun hx => ?_⟩
   ·have := l1 x hx
    exact (List.mem_cons.1 ((h x).1 (List.mem_cons_of_mem _ hx))).resolve_left (by omega)
   ·have := m1 x hx
    exact (List.mem_cons.1 ((h x).2 (List.mem_cons_of_mem _ hx))).resolve_left (by omega)
theorem mem_put (l : List Int) (a x : Int) : x ∈ put l a ↔ x = a ∨ x ∈ l := by
 induction l with
 | nil => simp [put]
 | cons y ys ih =>
  simp only [put]
  by_cases c : y < a
  ·rw [if_pos c, List.mem_cons, ih, List.mem_cons]
   constructor
   ·rintro (h | h | h)
    ·exact .inr (.inl h)
    ·exact .inl h
    ·exact .inr (.inr h)
   ·rintro (h | h | h)
    ·exact .inr (.inl h)
    ·exact .inl h
    ·exact .inr (.inr h)
  ·rw [if_neg c]
   by_cases e : y = a
   ·rw [if_pos e, List.mem_cons]
    constructor
    ·exact .inr
    ·rintro (h | h)
     ·exact .inl (h.trans e.symm)
     ·exact h
   ·rw [if_neg e]
    exact List.mem_cons
theorem sorted_put {l : List Int} (h : l.Pairwise (· < ·)) (a : Int) : (put l a).Pairwise (· < ·) := by
 induction l with
 | nil => simp [put]
 | cons y ys ih =>
  obtain ⟨h1, h2⟩ := List.pairwise_cons.1 h
  simp only [put]
  by_cases c : y < a
  ·rw [if_pos c]
   refine List.pairwise_cons.2 ⟨fun x hx => ?_, ih h2⟩
   rcases (mem_put _ _ _).1 hx with e | hx
   ·omega
   ·exact h1 x hx
  ·rw [if_neg c]
   by_cases e : y = a
   ·rw [if_pos e]
    exact h
   ·rw [if_neg e]
    refine List.pairwise_cons.2 ⟨fun x hx => ?_, h⟩
    rcases List.mem_cons.1 hx with e | hx
    ·omega
    ·have := h1 x hx
     omega
theorem put_vals {M : Nat} {p : Int → Bool} {y : Int} (h0 : 0 ≤ y) (h1 : y < (M : Int)) : put (vals M p) y = vals M (fun u => p u || decide (u = y)) := by
 refine sorted_eq (sorted_put (vals_sorted _ _) _) (vals_sorted _ _) fun x => ?_
 rw [mem_put, vals_mem, vals_mem]
 simp only [Bool.or_eq_true, decide_eq_true_eq]
 constructor
 ·rintro (h | ⟨h, h'⟩)
  ·exact ⟨by omega, .inr h⟩
  ·exact ⟨h, .inl h'⟩
 ·rintro ⟨h, h' | h'⟩
  ·exact .inr ⟨h, h'⟩
  ·exact .inl h'
/-! what lives at a cut -/
def usd (ys : List SStep) (u : Int) : Bool := ys.any fun y => decide (u = y.f0) || decide (u = y.f1)
def lv (s : List SStep) (o : List Int) (k : Nat) (u : Int) : Bool := decide (u ∈ o) || usd (s.drop k) u
/-! where values go -/
def idx : List Int → Int → Int → Int
 | [], _, _ => -1
 | y :: ys, v, j => if y = v then j else idx ys v (j + 1)
theorem idx_l0 (v : Int) (l : List Int) (j : Int) (hj : 0 ≤ j) : ∃ r, spec_plPlace.l0 v l j = some r ∧ (match r with | .inl x => x | .inr _ => -1) = idx l v j := by
 induction l generalizing j with
 | nil => exact ⟨_, rfl, rfl⟩
 | cons y ys ih =>
  simp only [spec_plPlace.l0, idx]
  by_cases c : y = v
  ·rw [if_pos c, if_pos c]
   exact ⟨_, rfl, rfl⟩
  ·rw [if_neg c, if_neg c]
   exact ih (j + 1) (by omega)
theorem place_eq (l : List Int) (v : Int) : spec_plPlace.f l v = some (idx l v 0) := by
 obtain ⟨r, h1, h2⟩ := idx_l0 v l 0 (by omega)
 unfold spec_plPlace.f
 rw [h1]
 cases r with
 | inl x => exact congrArg some h2
 | inr x => exact congrArg some h2
theorem idx_at {l : List Int} (h : l.Pairwise (· < ·)) {m : Nat} {v : Int} (hm : l[m]? = some v) (j : Int) : idx l v j = j + (m : Int) := by
 induction l generalizing m j with
 | nil => simp at hm
 | cons y ys ih =>
  obtain ⟨h1, h2⟩ := List.pairwise_cons.1 h
  cases m with
  | zero =>
   obtain rfl : y = v := by simpa using hm
   simp [idx]
  | succ m =>
   have hm' : ys[m]? = some v := by simpa using hm
   have := h1 v (List.mem_of_getElem? hm')
   simp only [idx]
   rw [if_neg (by omega), ih h2 hm']
   omega
/-- The number of a value in the second part. -/
def later (I k : Nat) (L : List Int) (u : Int) : Int := if u < ((I + k : Nat) : Int) then idx L u 0 else (L.length : Int) + u - (I : Int) - (k : Int)
def lt_ (I k : Nat) (L : List Int) (y : SStep) : SStep := ⟨mn (later I k L y.f0) (later I k L y.f1), mx (later I k L y.f0) (later I k L y.f1)⟩
/-- A value that the second part may use. -/
def Kn (I k : Nat) (L : List Int) (n : Nat) (u : Int) : Prop := (u < ((I + k : Nat) : Int) ∧ u ∈ L) ∨ (((I + k : Nat) : Int) ≤ u ∧ u < ((n : Nat) : Int))
/-! the program's places -/
/-! the second part's values -/
/-! ### which values are used -/
/-- What is used, of the steps that make the values from n on. -/
def us (n : Nat) : List SStep → List Int → Int → Bool
 | [], o, v => decide (v ∈ o)
 | y :: ys, o, v => us (n + 1) ys o v || (us (n + 1) ys o (n : Int) && (decide (v = y.f0) || decide (v = y.f1)))
theorem us_out {n : Nat} {s : List SStep} {o : List Int} {v : Int} (h : v ∈ o) : us n s o v = true := by
 induction s generalizing n with
 | nil => simp [us, h]
 | cons y ys ih => simp [us, ih]
/-- Only outputs and factors of used steps are used. -/
theorem us_why {n : Nat} {s : List SStep} {o : List Int} {v : Int} (h : us n s o v = true) : v ∈ o ∨ ∃ (j : Nat) (y : SStep), s[j]? = some y ∧ us (n + j + 1) (s.drop (j + 1)) o ((n + j : Nat) : Int) = true ∧ (v = y.f0 ∨ v = y.f1) := by
 induction s generalizing n with
 | nil => exact .inl (by simpa [us] using h)
 | cons y ys ih =>
  simp only [us, Bool.or_eq_true, Bool.and_eq_true, decide_eq_true_eq] at h
  rcases h with h | ⟨h, h'⟩
  ·rcases ih h with h | ⟨j, z, h1, h2, h3⟩
   ·exact .inl h
   ·refine .inr ⟨j + 1, z, by simpa using h1, ?_, h3⟩
    rw [show n + (j + 1) = n + 1 + j by omega]
    simpa using h2
  ·refine .inr ⟨0, y, rfl, ?_, h'⟩
   simpa using h
/-- Steps before say nothing of the values behind them. -/
theorem us_drop {n : Nat} {s : List SStep} {o : List Int} (h : Ok n s) (j : Nat) (hj : j ≤ s.length) {v : Int} (hv : ((n + j : Nat) : Int) ≤ v + 1) : us n s o v = us (n + j) (s.drop j) o v := by
 induction s generalizing n j with
 | nil => simp at hj; subst hj; rfl
 | cons y ys ih =>
  cases j with
  | zero => rfl
  | succ j =>
   have h1 := h.1
   rw [List.drop_succ_cons, show n + (j + 1) = n + 1 + j by omega, ← ih h.2 j (by simpa using hj) (by omega)]
   simp only [us]
   rw [decide_eq_false (show ¬ v = y.f0 by omega), decide_eq_false (show ¬ v = y.f1 by omega)]
   simp
/-- A used step's factors are used. -/
theorem us_fac {n : Nat} {s : List SStep} {o : List Int} (h : Ok n s) {j : Nat} {y : SStep} (hj : s[j]? = some y) (hu : us n s o ((n + j : Nat) : Int) = true) : us n s o y.f0 = true ∧ us n s o y.f1 = true := by
 induction s generalizing n j with
 | nil => simp at hj
 | cons z ys ih =>
  have h1 := h.1
  cases j with
  | zero =>
   obtain rfl : z = y := by simpa using hj
   have hu' : us (n + 1) ys o (n : Int) = true := by
    simp only [us, Bool.or_eq_true, Bool.and_eq_true, decide_eq_true_eq] at hu
    rcases hu with hu | ⟨hu, _⟩
    ·exact hu
    ·exact hu
   simp [us, hu']
  | succ j =>
   have hj' : ys[j]? = some y := by simpa using hj
   have hu' : us (n + 1) ys o ((n + 1 + j : Nat) : Int) = true := by
    simp only [us, Bool.or_eq_true, Bool.and_eq_true, decide_eq_true_eq] at hu
    rw [show n + 1 + j = n + (j + 1) by omega]
    rcases hu with hu | ⟨_, hu⟩
    ·exact hu
    ·omega
   have := ih h.2 hj' hu'
   simp [us, this]
theorem us_iff {n : Nat} {s : List SStep} {o : List Int} (h : Ok n s) {v : Int} : us n s o v = true ↔ v ∈ o ∨ ∃ (j : Nat) (y : SStep), s[j]? = some y ∧ us n s o ((n + j : Nat) : Int) = true ∧ (v = y.f0 ∨ v = y.f1) := by
 constructor
 ·intro hu
  rcases us_why hu with hu | ⟨j, y, h1, h2, h3⟩
  ·exact .inl hu
  ·refine .inr ⟨j, y, h1, ?_, h3⟩
   have hjl := (List.getElem?_eq_some_iff.1 h1).1
   rw [us_drop h (j + 1) (by omega) (by omega)]
   exact h2
 ·rintro (h | ⟨j, y, h1, h2, h3⟩)
  ·exact us_out h
  ·have := us_fac h h1 h2
   rcases h3 with rfl | rfl
   ·exact this.1
   ·exact this.2
/-! ### the used steps alone -/
/-- The places of all values, and the steps that stay. -/
def tr (U : Int → Bool) (i : Int) : Nat → List SStep → List Int → List SStep → List Int × List SStep
 | _, [], p, q => (p, q)
 | n, y :: ys, p, q => tr U i (n + 1) ys (p ++ [i + (q.length : Int)]) (if U (n : Int) = true then q ++ [⟨mn (rg (p ++ [i + (q.length : Int)]) y.f0) (rg (p ++ [i + (q.length : Int)]) y.f1), mx (rg (p ++ [i + (q.length : Int)]) y.f0) (rg (p ++ [i + (q.length : Int)]) y.f1)⟩] else q)
/-- What is used or comes in. -/
def Lv (I : Nat) (U : Int → Bool) (v : Int) : Prop := v < (I : Int) ∨ U v = true
/-- The place of a value is I and how many used ones lie before it. -/
def pl (I : Nat) (U : Int → Bool) (v : Int) : Int := if v < (I : Int) then v else (I : Int) + ((vals (v - (I : Int)).toNat fun j => U ((I : Int) + j)).length : Int)
structure Tr (I : Nat) (U : Int → Bool) (s : List SStep) (p : List Int) (q : List SStep) : Prop where
 pn : p.length = I + s.length
 qn : q.length = (vals s.length fun j => U ((I : Int) + j)).length
 pv : ∀ v : Int, 0 ≤ v → v < ((I + s.length : Nat) : Int) → rg p v = pl I U v
theorem tr_app (U : Int → Bool) (i : Int) (n : Nat) (s t : List SStep) (p : List Int) (q : List SStep) : tr U i n (s ++ t) p q = tr U i (n + s.length) t (tr U i n s p q).1 (tr U i n s p q).2 := by
 induction s generalizing n p q with
 | nil => rfl
 | cons y ys ih =>
  simp only [List.cons_append, tr, List.length_cons]
  rw [ih, show n + 1 + ys.length = n + (ys.length + 1) by omega]
theorem pl_at {I : Nat} {U : Int → Bool} (m : Nat) : pl I U ((I + m : Nat) : Int) = (I : Int) + ((vals m fun j => U ((I : Int) + j)).length : Int) := by
 unfold pl
 rw [if_neg (by omega), show (((I + m : Nat) : Int) - (I : Int)).toNat = m by omega]
theorem tr_ok {I : Nat} {U : Int → Bool} (s : List SStep) (p0 : List Int) (hp0 : p0.length = I) (hp : ∀ v : Int, 0 ≤ v → v < (I : Int) → rg p0 v = v) : Tr I U s (tr U (I : Int) I s p0 []).1 (tr U (I : Int) I s p0 []).2 := by
 obtain ⟨k, hk⟩ : ∃ k, s.length = k := ⟨_, rfl⟩
 induction k generalizing s with
 | zero =>
  obtain rfl := List.length_eq_zero_iff.1 hk
  refine ⟨by simp [tr, hp0], by simp [tr, vals], ?_⟩
  intro v h0 h1
  unfold pl
  rw [if_pos (by simpa using h1)]
  exact hp v h0 (by simpa using h1)
 | succ k ih =>
  rcases List.eq_nil_or_concat s with rfl | ⟨t, y, rfl⟩
  ·simp at hk
  simp only [List.concat_eq_append, List.length_append, List.length_cons, List.length_nil] at hk
  simp only [List.concat_eq_append]
  have ht := ih t (by omega)
  rw [tr_app]
  generalize tr U (I : Int) I t p0 [] = pq at ht ⊢
  obtain ⟨p, q⟩ := pq
  have h1 := ht.pn
  have h2 := ht.qn
  have h3 := ht.pv
  simp only at h1 h2 h3
  simp only [tr]
  refine ⟨by simp [h1]; omega, ?_, ?_⟩
  ·rw [List.length_append, List.length_singleton, vals_succ, List.length_append, ← h2]
   rw [show (I : Int) + (t.length : Int) = ((I + t.length : Nat) : Int) by omega]
   by_cases c : U ((I + t.length : Nat) : Int) = true
   ·rw [if_pos c, if_pos c]; simp
   ·rw [if_neg c, if_neg c]; simp
  ·intro v v0 v1
   rw [List.length_append, List.length_singleton] at v1
   by_cases c : v < ((I + t.length : Nat) : Int)
   ·rw [rg_app v0 (by omega)]
    exact h3 v v0 c
   ·obtain rfl : v = ((I + t.length : Nat) : Int) := by omega
    rw [rg_new (by omega), pl_at, h2]
theorem vals_le {M N : Nat} (h : M ≤ N) (p : Int → Bool) : (vals M p).length ≤ (vals N p).length := by
 induction N with
 | zero =>
  obtain rfl : M = 0 := by omega
  exact Nat.le_refl _
 | succ N ih =>
  by_cases c : M = N + 1
  ·subst c; exact Nat.le_refl _
  ·rw [vals_succ, List.length_append]
   have := ih (by omega)
   omega
theorem vals_lt {M N : Nat} (h : M < N) {p : Int → Bool} (hp : p (M : Int) = true) : (vals M p).length < (vals N p).length := by
 have := vals_le (show M + 1 ≤ N by omega) p
 rw [vals_succ, if_pos hp, List.length_append, List.length_singleton] at this
 omega
theorem pl_lt {I : Nat} {U : Int → Bool} {u v : Int} (h0 : 0 ≤ u) (h : u < v) (hu : Lv I U u) : pl I U u < pl I U v := by
 unfold pl
 by_cases c : v < (I : Int)
 ·rw [if_pos (by omega), if_pos c]; exact h
 ·rw [if_neg c]
  by_cases d : u < (I : Int)
  ·rw [if_pos d]; omega
  ·rw [if_neg d]
   have hu' := hu.resolve_left d
   have := vals_lt (M := (u - (I : Int)).toNat) (N := (v - (I : Int)).toNat) (by omega) (p := fun j => U ((I : Int) + j)) (by
    show U ((I : Int) + (((u - (I : Int)).toNat : Nat) : Int)) = true
    rw [show (I : Int) + (((u - (I : Int)).toNat : Nat) : Int) = u by omega]
    exact hu')
   omega
theorem pl_le {I : Nat} {U : Int → Bool} {u v : Int} (h0 : 0 ≤ u) (h : u ≤ v) (hu : Lv I U u) : pl I U u ≤ pl I U v := by
 by_cases c : u = v
 ·subst c; exact Int.le_refl _
 ·exact Int.le_of_lt (pl_lt h0 (by omega) hu)
theorem pl_ge {I : Nat} {U : Int → Bool} {v : Int} (h0 : 0 ≤ v) : 0 ≤ pl I U v := by
 unfold pl
 split <;> omega
theorem mn_of_le {a b : Int} (h : a ≤ b) : mn a b = a := by unfold mn; rw [if_neg (by omega)]
theorem mx_of_le {a b : Int} (h : a ≤ b) : mx a b = b := by unfold mx; split <;> omega
/-- The steps that stay. -/
def ts (I : Nat) (U : Int → Bool) (s : List SStep) : List SStep := (tr U (I : Int) I s ((List.range I).map fun (j : Nat) => (j : Int)) []).2
def tp (I : Nat) (U : Int → Bool) (s : List SStep) : List Int := (tr U (I : Int) I s ((List.range I).map fun (j : Nat) => (j : Int)) []).1
theorem tr_Tr (I : Nat) (U : Int → Bool) (s : List SStep) : Tr I U s (tp I U s) (ts I U s) := by
 refine tr_ok s _ (by simp) fun v h0 h1 => ?_
 obtain ⟨j, rfl⟩ := Int.eq_ofNat_of_zero_le h0
 rw [rg_nat (by simp; omega)]
 simp
theorem ts_snoc (I : Nat) (U : Int → Bool) (s : List SStep) (y : SStep) (h0 : 0 ≤ y.f0) (h01 : y.f0 ≤ y.f1) (h1 : y.f1 < ((I + s.length : Nat) : Int)) (hU : U ((I + s.length : Nat) : Int) = true → Lv I U y.f0 ∧ Lv I U y.f1) :
  ts I U (s ++ [y]) = if U ((I + s.length : Nat) : Int) = true then ts I U s ++ [⟨pl I U y.f0, pl I U y.f1⟩] else ts I U s := by
 have h := tr_Tr I U s
 unfold ts tp at *
 rw [tr_app]
 generalize tr U (I : Int) I s ((List.range I).map fun (j : Nat) => (j : Int)) [] = pq at h ⊢
 obtain ⟨p, q⟩ := pq
 have e1 := h.pn
 have e3 := h.pv
 simp only at e1 e3
 simp only [tr]
 by_cases c : U ((I + s.length : Nat) : Int) = true
 ·rw [if_pos c, if_pos c, rg_app h0 (by omega), rg_app (by omega) (by omega), e3 _ h0 (by omega), e3 _ (by omega) h1]
  have hl := pl_le h0 h01 (hU c).1
  rw [mn_of_le hl, mx_of_le hl]
 ·rw [if_neg c, if_neg c]
/-- What a rule for what stays must keep. -/
def Cl (I : Nat) (U : Int → Bool) (s : List SStep) : Prop := ∀ (j : Nat) (y : SStep), s[j]? = some y → U ((I + j : Nat) : Int) = true → Lv I U y.f0 ∧ Lv I U y.f1
theorem Cl.init {I : Nat} {U : Int → Bool} {s : List SStep} {y : SStep} (h : Cl I U (s ++ [y])) : Cl I U s ∧ (U ((I + s.length : Nat) : Int) = true → Lv I U y.f0 ∧ Lv I U y.f1) := by
 refine ⟨fun j z hz => h j z (by rw [List.getElem?_append_left (List.getElem?_eq_some_iff.1 hz).1]; exact hz), fun hu => h s.length y (by simp) hu⟩
theorem ind_snoc {α : Type} {P : List α → Prop} (h0 : P []) (h1 : ∀ s y, P s → P (s ++ [y])) : ∀ s, P s := by
 intro s
 obtain ⟨k, hk⟩ : ∃ k, s.length = k := ⟨_, rfl⟩
 induction k generalizing s with
 | zero =>
  obtain rfl := List.length_eq_zero_iff.1 hk
  exact h0
 | succ k ih =>
  rcases List.eq_nil_or_concat s with rfl | ⟨t, y, rfl⟩
  ·simp at hk
  rw [List.concat_eq_append] at *
  exact h1 _ _ (ih t (by simp at hk; omega))
theorem ts_len (I : Nat) (U : Int → Bool) (s : List SStep) : (ts I U s).length = (vals s.length fun j => U ((I : Int) + j)).length := (tr_Tr I U s).qn
theorem pl_in {I : Nat} {U : Int → Bool} {s : List SStep} {v : Int} (h0 : 0 ≤ v) (h1 : v < ((I + s.length : Nat) : Int)) (hv : Lv I U v) : pl I U v < ((I + (ts I U s).length : Nat) : Int) := by
 have := pl_lt (v := ((I + s.length : Nat) : Int)) h0 h1 hv
 rw [pl_at] at this
 rw [ts_len]
 omega
theorem ts_ok {I : Nat} {U : Int → Bool} : ∀ s : List SStep, Ok I s → Cl I U s → Ok I (ts I U s) := by
 refine ind_snoc (fun _ _ => trivial) fun s y ih hs hc => ?_
 obtain ⟨o1, o2⟩ := Ok.append.1 hs
 have q := o2.1
 obtain ⟨c1, c2⟩ := hc.init
 rw [ts_snoc I U s y q.1 q.2.1 q.2.2 c2]
 by_cases c : U ((I + s.length : Nat) : Int) = true
 ·rw [if_pos c]
  refine Ok.append.2 ⟨ih o1 c1, ⟨pl_ge q.1, pl_le q.1 q.2.1 (c2 c).1, ?_⟩, trivial⟩
  exact pl_in (by omega) q.2.2 (c2 c).2
 ·rw [if_neg c]
  exact ih o1 c1
/-- The values that stay are what they were. -/
theorem ts_vl {I : Nat} {U : Int → Bool} (l : List Int) (hl : l.length = I) : ∀ s : List SStep, Ok I s → Cl I U s → ∀ v : Int, 0 ≤ v → v < ((I + s.length : Nat) : Int) → Lv I U v → rg (vl (ts I U s) l) (pl I U v) = rg (vl s l) v := by
 refine ind_snoc (fun _ _ v h0 h1 hv => ?_) fun s y ih hs hc v v0 v1 hv => ?_
 ·unfold pl
  rw [if_pos (by simpa using h1)]
  rfl
 ·obtain ⟨o1, o2⟩ := Ok.append.1 hs
  have q := o2.1
  obtain ⟨c1, c2⟩ := hc.init
  have ih' := ih o1 c1
  rw [List.length_append, List.length_singleton] at v1
  have hn := vl_len s l
  have hm := vl_len (ts I U s) l
  have hpin := @pl_in I U s
  rw [ts_snoc I U s y q.1 q.2.1 q.2.2 c2, vl_append]
  by_cases c : U ((I + s.length : Nat) : Int) = true
  ·rw [if_pos c, vl_append]
   simp only [vl]
   by_cases d : v < ((I + s.length : Nat) : Int)
   ·rw [rg_app (pl_ge v0) (by have := hpin v0 d hv; omega), rg_app v0 (by omega)]
    exact ih' v v0 d hv
   ·obtain rfl : v = ((I + s.length : Nat) : Int) := by omega
    rw [rg_new (l := vl (ts I U s) l) (by rw [pl_at, hm, ts_len]; omega), rg_new (l := vl s l) (by omega), ih' _ q.1 (by omega) (c2 c).1, ih' _ (by omega) q.2.2 (c2 c).2]
  ·rw [if_neg c]
   have d : v < ((I + s.length : Nat) : Int) := by
    rcases Int.lt_or_le v ((I + s.length : Nat) : Int) with h | h
    ·exact h
    ·obtain rfl : v = ((I + s.length : Nat) : Int) := by omega
     rcases hv with hv | hv
     ·omega
     ·exact absurd hv c
   simp only [vl]
   rw [rg_app v0 (by omega)]
   exact ih' v v0 d hv
/-- Each value of what stays was one. -/
theorem ts_onto {I : Nat} {U : Int → Bool} : ∀ s : List SStep, ∀ w : Int, 0 ≤ w → w < ((I + (vals s.length fun j => U ((I : Int) + j)).length : Nat) : Int) → ∃ v : Int, 0 ≤ v ∧ v < ((I + s.length : Nat) : Int) ∧ Lv I U v ∧ pl I U v = w := by
 refine ind_snoc (fun w w0 w1 => ?_) fun s y ih w w0 w1 => ?_
 ·refine ⟨w, w0, ?_, .inl ?_, ?_⟩
  ·simpa [vals] using w1
  ·simpa [vals] using w1
  ·unfold pl
   rw [if_pos (by simpa [vals] using w1)]
 ·rw [List.length_append, List.length_singleton, vals_succ, List.length_append] at w1
  by_cases c : w < ((I + (vals s.length fun j => U ((I : Int) + j)).length : Nat) : Int)
  ·obtain ⟨v, h0, h1, h2, h3⟩ := ih w w0 c
   exact ⟨v, h0, by rw [List.length_append]; omega, h2, h3⟩
  ·by_cases d : U ((I : Int) + (s.length : Int)) = true
   ·rw [if_pos d, List.length_singleton] at w1
    refine ⟨((I + s.length : Nat) : Int), by omega, by rw [List.length_append, List.length_singleton]; omega, .inr ?_, ?_⟩
    ·rw [← d]; congr 1; 
    ·rw [pl_at]; omega
   ·rw [if_neg d] at w1
    simp at w1
    omega
theorem vals_all {M : Nat} {p : Int → Bool} (h : ∀ v : Int, 0 ≤ v → v < (M : Int) → p v = true) : vals M p = (List.range M).map fun (j : Nat) => (j : Int) := by
 unfold vals
 refine List.filter_eq_self.2 fun x hx => ?_
 obtain ⟨j, hj, rfl⟩ := List.mem_map.1 hx
 exact h _ (by omega) (by have := List.mem_range.1 hj; omega)
/-- Where all stays, nothing changes. -/
theorem pl_all {I M : Nat} {U : Int → Bool} (hU : ∀ v : Int, (I : Int) ≤ v → v < ((I + M : Nat) : Int) → U v = true) {v : Int} (h0 : 0 ≤ v) (h1 : v < ((I + M : Nat) : Int)) : pl I U v = v := by
 unfold pl
 by_cases c : v < (I : Int)
 ·rw [if_pos c]
 ·rw [if_neg c, vals_all (fun u u0 u1 => hU _ (by omega) (by omega))]
  simp
  omega
theorem ts_all {I : Nat} {U : Int → Bool} : ∀ s : List SStep, Ok I s → (∀ v : Int, (I : Int) ≤ v → v < ((I + s.length : Nat) : Int) → U v = true) → ts I U s = s := by
 refine ind_snoc (fun _ _ => rfl) fun s y ih hs hU => ?_
 obtain ⟨o1, o2⟩ := Ok.append.1 hs
 have q := o2.1
 rw [List.length_append, List.length_singleton] at hU
 have hL : ∀ v : Int, 0 ≤ v → v < ((I + s.length : Nat) : Int) → Lv I U v := fun v v0 v1 => by
  by_cases c : v < (I : Int)
  ·exact .inl c
  ·exact .inr (hU v (by omega) (by omega))
 rw [ts_snoc I U s y q.1 q.2.1 q.2.2 (fun _ => ⟨hL _ q.1 (by omega), hL _ (by omega) q.2.2⟩), if_pos (hU _ (by omega) (by omega)), ih o1 (fun v v0 v1 => hU v v0 (by omega)), pl_all (M := s.length + 1) hU q.1 (by omega), pl_all (M := s.length + 1) hU (by omega) (by omega)]
theorem vals_congr {M : Nat} {p q : Int → Bool} (h : ∀ v : Int, 0 ≤ v → v < (M : Int) → p v = q v) : vals M p = vals M q := by
 induction M with
 | zero => rfl
 | succ M ih => rw [vals_succ, vals_succ, ih (fun v h0 h1 => h v h0 (by omega)), h (M : Int) (by omega) (by omega)]
/-! ### values that are shared -/
def shs (fi : Int → Int) (y : SStep) : SStep := ⟨mn (fi y.f0) (fi y.f1), mx (fi y.f0) (fi y.f1)⟩
theorem add_mnmx {f : Int → Int} (a b : Int) : f (mn a b) + f (mx a b) = f a + f b := by
 unfold mn mx
 by_cases c : b < a
 ·rw [if_pos c, if_neg (by omega)]; omega
 ·rw [if_neg c]
  by_cases d : a < b
  ·rw [if_pos d]
  ·rw [if_neg d, show a = b by omega]
/-! ### another plan's steps behind -/
def sf (I d : Nat) (v : Int) : Int := if v < (I : Int) then v else v + (d : Int)
def sfs (I d : Nat) (y : SStep) : SStep := ⟨sf I d y.f0, sf I d y.f1⟩
theorem upK {α : Type} {g : Nat → Option α} {r : α} (c : Nat) (h : Ev g r) : Ev (fun k => g (k + c)) r := by
 obtain ⟨K, h⟩ := h
 exact ⟨K, fun n hn => h (n + c) (by omega)⟩
/-- The numbers of the used steps. -/
def kp (I : Nat) (s : List SStep) (o : List Int) : List Int := vals s.length fun j => us I s o ((I : Int) + j)
/-! the plan of some steps -/
theorem idx_vals {M : Nat} {p : Int → Bool} {x : Nat} (hx : x < M) (hp : p (x : Int) = true) : idx (vals M p) (x : Int) 0 = ((vals x p).length : Int) := by
 have key : ∀ d, ∃ t, vals (x + 1 + d) p = vals x p ++ ((x : Int) :: t) := by
  intro d
  induction d with
  | zero => exact ⟨[], by rw [Nat.add_zero, vals_succ, if_pos hp]⟩
  | succ d ih =>
   obtain ⟨t, e⟩ := ih
   rw [← Nat.add_assoc, vals_succ, e]
   exact ⟨t ++ (if p ((x + 1 + d : Nat) : Int) = true then [((x + 1 + d : Nat) : Int)] else []), by rw [List.append_assoc]; rfl⟩
 obtain ⟨t, e⟩ := key (M - (x + 1))
 rw [show x + 1 + (M - (x + 1)) = M by omega] at e
 have := idx_at (vals_sorted M p) (m := (vals x p).length) (v := (x : Int)) (by rw [e]; simp) 0
 omega
theorem number_eq {I : Nat} {s : List SStep} {o : List Int} {U : Int → Bool} (hI : I ≤ 1000) (hs : s.length ≤ 1000) {v : Int} (h0 : 0 ≤ v) (h1 : v < ((I + s.length : Nat) : Int)) (hv : Lv I U v) : spec_plNumber.f (I : Int) s o (vals s.length fun j => U ((I : Int) + j)) v = some (pl I U v) := by
 unfold spec_plNumber.f pl
 by_cases c : v < (I : Int)
 ·rw [if_pos c, if_pos c]
 ·rw [if_neg c, if_neg c, zam (x := v - (I : Int)) (by omega), place_eq, Option.bind_some]
  obtain ⟨x, hx⟩ : ∃ x : Nat, v - (I : Int) = (x : Int) := ⟨(v - (I : Int)).toNat, by omega⟩
  have hp : U ((I : Int) + (x : Int)) = true := by
   rw [← hx, show (I : Int) + (v - (I : Int)) = v by omega]
   exact hv.resolve_left c
  rw [hx, idx_vals (p := fun j => U ((I : Int) + j)) (by omega) hp, Int.toNat_natCast]
  have := vals_len x (fun j => U ((I : Int) + j))
  rw [zam (by omega)]
def sp (I : Nat) (U : Int → Bool) (s : List SStep) (i : Int) : SStep := ⟨pl I U (s.getD i.toNat ⟨0, 0⟩).f0, pl I U (s.getD i.toNat ⟨0, 0⟩).f1⟩
theorem ts_map {I : Nat} {U : Int → Bool} : ∀ s : List SStep, Ok I s → Cl I U s → ts I U s = (vals s.length fun j => U ((I : Int) + j)).map (sp I U s) := by
 refine ind_snoc (fun _ _ => rfl) fun s y ih hs hc => ?_
 obtain ⟨o1, o2⟩ := Ok.append.1 hs
 have q := o2.1
 obtain ⟨c1, c2⟩ := hc.init
 rw [ts_snoc I U s y q.1 q.2.1 q.2.2 c2, List.length_append, List.length_singleton, vals_succ, List.map_append, ih o1 c1]
 have e : (vals s.length fun j => U ((I : Int) + j)).map (sp I U s) = (vals s.length fun j => U ((I : Int) + j)).map (sp I U (s ++ [y])) := List.map_congr_left fun x hx => by
  have := (vals_mem.1 hx).1
  unfold sp
  rw [List.getD_eq_getElem?_getD, List.getD_eq_getElem?_getD, List.getElem?_append_left (by omega)]
 rw [e, show ((I + s.length : Nat) : Int) = (I : Int) + (s.length : Int) by omega]
 by_cases c : U ((I : Int) + (s.length : Int)) = true
 ·rw [if_pos c, if_pos c]
  simp [sp]
 ·rw [if_neg c, if_neg c]
  simp
theorem keep_l0 {I : Nat} {s : List SStep} {o : List Int} {U : Int → Bool} (hI : I ≤ 1000) (hsl : s.length ≤ 1000) (hs : Ok I s) (hc : Cl I U s) (ks : List Int) (acc : List SStep) (j : Int) (hk : ∀ x ∈ ks, (0 ≤ x ∧ x < (s.length : Int)) ∧ U ((I : Int) + x) = true) (hb : acc.length + ks.length ≤ 100000) : spec_plKeep.l0 (I : Int) s o (vals s.length fun j => U ((I : Int) + j)) ks acc j = some (acc ++ ks.map (sp I U s)) := by
 induction ks generalizing acc j with
 | nil => simp [spec_plKeep.l0]
 | cons x xs ih =>
  obtain ⟨⟨x0, x1⟩, hu⟩ := hk x List.mem_cons_self
  obtain ⟨m, rfl⟩ := Int.eq_ofNat_of_zero_le x0
  have hm : m < s.length := by omega
  simp only [List.length_cons] at hb
  have q := hs.at (List.getElem?_eq_getElem hm)
  have hcl := hc m s[m] (List.getElem?_eq_getElem hm) (by rw [← hu]; congr 1)
  simp only [spec_plKeep.l0]
  rw [gt_nat hm, Option.bind_some, number_eq hI hsl q.1 (by omega) hcl.1, Option.bind_some, number_eq hI hsl (by omega) (by omega) hcl.2, Option.bind_some, plStep_eq, Option.bind_some, ap_ok (by simp; omega), Option.bind_some, ih _ _ (fun z hz => hk z (List.mem_cons_of_mem _ hz)) (by rw [List.length_append, List.length_singleton]; omega)]
  have hle := pl_le (U := U) q.1 q.2.1 hcl.1
  rw [mn_of_le hle, mx_of_le hle]
  simp [sp, hm]
theorem keep_l1 {I : Nat} {s : List SStep} {o : List Int} {U : Int → Bool} (hI : I ≤ 1000) (hsl : s.length ≤ 1000) (ys acc : List Int) (j : Int) (hk : ∀ x ∈ ys, (0 ≤ x ∧ x < ((I + s.length : Nat) : Int)) ∧ Lv I U x) (hb : acc.length + ys.length ≤ 100000) : spec_plKeep.l1 (I : Int) s o (vals s.length fun j => U ((I : Int) + j)) ys acc j = some (acc ++ ys.map (pl I U)) := by
 induction ys generalizing acc j with
 | nil => simp [spec_plKeep.l1]
 | cons x xs ih =>
  obtain ⟨⟨x0, x1⟩, hu⟩ := hk x List.mem_cons_self
  simp only [List.length_cons] at hb
  simp only [spec_plKeep.l1]
  rw [number_eq hI hsl x0 x1 hu, Option.bind_some, ap_ok (by simp; omega), Option.bind_some, ih _ _ (fun z hz => hk z (List.mem_cons_of_mem _ hz)) (by rw [List.length_append, List.length_singleton]; omega)]
  simp
/-- The used steps alone. -/
def kS (I : Nat) (s : List SStep) (o : List Int) : List SStep := ts I (us I s o) s
def kO (I : Nat) (s : List SStep) (o : List Int) : List Int := o.map (pl I (us I s o))
theorem us_cl {I : Nat} {s : List SStep} {o : List Int} (hs : Ok I s) : Cl I (us I s o) s := fun j y hj hu => ⟨.inr (us_fac hs hj hu).1, .inr (us_fac hs hj hu).2⟩
theorem kS_len (I : Nat) (s : List SStep) (o : List Int) : (kS I s o).length ≤ s.length := by
 unfold kS
 rw [ts_len]
 exact vals_len _ _
def iota (j : Nat) : List Int := (List.range j).map fun (m : Nat) => (m : Int)
theorem iota_succ (j : Nat) : iota (j + 1) = iota j ++ [(j : Int)] := by simp [iota, List.range_succ]
theorem firsts_eq (n : Nat) (hn : n ≤ 1000) : impl_firsts.f (n : Int) = some (iota n) := by
 have key : ∀ (e j : Nat), j + e = n → impl_firsts.l0 e (iota j) (j : Int) = some (iota n) := by
  intro e
  induction e with
  | zero =>
   intro j hj
   obtain rfl : j = n := by omega
   rfl
  | succ e ih =>
   intro j hj
   have := ih (j + 1) (by omega)
   rw [iota_succ] at this
   simp only [impl_firsts.l0]
   rw [ap_ok (by simp [iota]; omega), Option.bind_some, show (j : Int) + 1 = ((j + 1 : Nat) : Int) by omega]
   exact this
 unfold impl_firsts.f
 have hb : bd (n : Int) = some () := by
  unfold bd
  rw [if_pos (by omega)]
 rw [hb, Option.bind_some, Int.toNat_natCast]
 have := key n 0 (by omega)
 rw [show iota 0 = [] from rfl] at this
 rw [show (0 : Int) = ((0 : Nat) : Int) from rfl, this]
 rfl
theorem tb_getD {M : Nat} {f : Int → Bool} {v : Int} (h0 : 0 ≤ v) (h1 : v < (M : Int)) : (tb M f).getD v.toNat false = f v := by
 have := tb_gt (f := f) h0 h1
 unfold gt at this
 rw [if_pos h0] at this
 rw [List.getD_eq_getElem?_getD, this]
 rfl
theorem tb_set {M : Nat} {f : Int → Bool} {v : Int} (h0 : 0 ≤ v) (h1 : v < (M : Int)) : (tb M f).set v.toNat true = tb M (fun u => if u = v then true else f u) := by
 have := tb_st (f := f) (b := true) h0 h1
 unfold st at this
 rw [if_pos ⟨h0, by rw [tb_len]; exact h1⟩] at this
 exact Option.some.inj this
theorem used_l0b (M : Nat) (ys : List Int) (f : Int → Bool) (j : Int) (h : ∀ y ∈ ys, 0 ≤ y ∧ y < (M : Int)) : impl_Plan_used.l0 ys (tb M f) j = some (tb M fun u => f u || decide (u ∈ ys)) := by
 induction ys generalizing f j with
 | nil => simp [impl_Plan_used.l0]
 | cons y ys ih =>
  have hy := h y List.mem_cons_self
  simp only [impl_Plan_used.l0]
  rw [tb_gt hy.1 hy.2, Option.bind_some, tb_st hy.1 hy.2, Option.bind_some, ih _ _ (fun z hz => h z (List.mem_cons_of_mem _ hz))]
  congr 1
  refine tb_ext fun u _ _ => ?_
  by_cases e : u = y <;> simp [e]
theorem used_back (I M : Nat) (o : List Int) (s : List SStep) (k : Nat) (hs : Ok (I + k) s) (hM : I + k + s.length ≤ M) : ((s.zipIdx k).map fun p => ((p.2 : Int), p.1)).foldr (fun x a => impl_Plan_used.b (I : Int) a x) (tb M fun v => decide (v ∈ o)) = tb M (us (I + k) s o) := by
 induction s generalizing k with
 | nil => rfl
 | cons y ys ih =>
  simp only [List.length_cons] at hM
  have q := hs.1
  have := ih (k + 1) (by rw [← Nat.add_assoc]; exact hs.2) (by omega)
  simp only [List.zipIdx_cons, List.map_cons, List.foldr_cons]
  rw [this, show I + (k + 1) = I + k + 1 by omega]
  have hg := tb_getD (M := M) (f := us (I + k + 1) ys o) (v := (I : Int) + (k : Int)) (by omega) (by omega)
  unfold impl_Plan_used.b
  simp only
  rw [hg, show (I : Int) + (k : Int) = ((I + k : Nat) : Int) by omega]
  cases c : us (I + k + 1) ys o ((I + k : Nat) : Int) with
  | true =>
   rw [if_pos rfl, tb_set q.1 (by omega), tb_set (by omega) (by omega)]
   refine tb_ext fun u _ _ => ?_
   simp only [us, c, Bool.true_and]
   by_cases e0 : u = y.f0
   ·simp [e0]
   ·by_cases e1 : u = y.f1
    ·simp [e1]
    ·simp [e0, e1]
  | false =>
   rw [if_neg (by simp)]
   refine tb_ext fun u _ _ => ?_
   simp only [us, c, Bool.false_and, Bool.or_false]
theorem bwL_fold {α β : Type} (f : β → Int × α → β) (a : β) (zs : List α) : (bwL zs).foldl f a = (zs.zipIdx.map fun p => ((p.2 : Int), p.1)).foldr (fun x a => f a x) a := by
 unfold bwL
 rw [List.foldl_reverse]
theorem trim_l0 (I : Nat) (U : Int → Bool) (M : Nat) (hM : M ≤ 1000) (ys : List SStep) (m : Nat) (p : List Int) (q : List SStep) (hp : p.length = I + m) (hs : Ok (I + m) ys) (hm : I + m + ys.length ≤ M) (hq : q.length ≤ m) : impl_Plan_trimmed.l0 (I : Int) (tb M U) ys p q (m : Int) = some (tr U (I : Int) (I + m) ys p q) := by
 induction ys generalizing m p q with
 | nil => rfl
 | cons y ys ih =>
  have c := hs.1
  simp only [List.length_cons] at hm
  have hlen : (p ++ [(I : Int) + (q.length : Int)]).length = I + (m + 1) := by rw [List.length_append, List.length_singleton]; omega
  simp only [impl_Plan_trimmed.l0, tr, impl_Plan_many.f, impl_step.f, Option.bind_some]
  rw [zam (x := (I : Int) + (q.length : Int)) (by omega), ap_ok (by simp; omega), Option.bind_some, zam (x := (I : Int) + (m : Int)) (by omega), tb_gt (by omega) (by omega), Option.bind_some, show (I : Int) + (m : Int) = ((I + m : Nat) : Int) by omega, show (m : Int) + 1 = ((m + 1 : Nat) : Int) by omega]
  cases cu : U ((I + m : Nat) : Int) with
  | true =>
   rw [if_pos rfl, if_pos rfl, rg_gt (by omega) (by omega), Option.bind_some, rg_gt (by omega) (by omega), Option.bind_some, ap_ok (by simp; omega), Option.bind_some]
   have := ih (m + 1) (p ++ [(I : Int) + (q.length : Int)]) (q ++ [⟨mn (rg (p ++ [(I : Int) + (q.length : Int)]) y.f0) (rg (p ++ [(I : Int) + (q.length : Int)]) y.f1), mx (rg (p ++ [(I : Int) + (q.length : Int)]) y.f0) (rg (p ++ [(I : Int) + (q.length : Int)]) y.f1)⟩]) hlen (by rw [← Nat.add_assoc]; exact hs.2) (by omega) (by simp; omega)
   rw [← Nat.add_assoc] at this
   exact this
  | false =>
   rw [if_neg (by simp), if_neg (by simp)]
   have := ih (m + 1) (p ++ [(I : Int) + (q.length : Int)]) q hlen (by rw [← Nat.add_assoc]; exact hs.2) (by omega) (by omega)
   rw [← Nat.add_assoc] at this
   exact this
/-! which steps -/
/-! how often -/
/-! the plan of the used steps uses all of its own -/
end Go.Proofs.Ytiaohjciddbpoaa.Pure
