/- Pure: Preg, Preg2, Pval, Plaws, Pdraw, Psplit, Ptrim. -/
import Derived.Test.YtobaolbilllfgaaKFnRunsOfPermutationsPra
set_option linter.unusedVariables false
set_option linter.unusedSimpArgs false
namespace Go.Proofs.Ytobaolbilllfgaa.Pure
open Go.RowKit Go.Proofs.Ytobaolbilllfgaa.E Go.Proofs.Ytobaolbilllfgaa.RP Go.Proofs.Ytobaolbilllfgaa.Frame Go.Proofs.YtobaolbilllfgaaW.PrintLast Go.Proofs.YtobaolbilllfgaaW.PrintMore
open Go.Proofs.YtobaolbilllfgaaW.PrintWords hiding mn mx
open Go.Proofs.Ytobaolbilllfgaa.Hand
def rg (l : List Int) (r : Int) : Int := l.getD r.toNat 0
theorem rg_gt {l : List Int} {r : Int} (h0 : 0 ≤ r) (h1 : r < (l.length : Int)) : gt l r = some (rg l r) := by
  unfold gt rg
  rw [if_pos h0, List.getD_eq_getElem?_getD, List.getElem?_eq_getElem (by omega)]
  rfl
def Low (l : List Int) : Prop := ∀ x ∈ l, -1 ≤ x
theorem Low.at {l : List Int} (h : Low l) {r : Int} (h0 : 0 ≤ r) (h1 : r < (l.length : Int)) : -1 ≤ rg l r := by
  unfold rg
  rw [List.getD_eq_getElem?_getD, List.getElem?_eq_getElem (by omega)]
  exact h _ (List.getElem_mem _)
theorem Low.set {l : List Int} (h : Low l) {x : Nat} {v : Int} (hv : -1 ≤ v) : Low (l.set x v) := fun y hy => by
  rcases List.mem_or_eq_of_mem_set hy with g | g
  · exact h y g
  · rw [g]
    exact hv
/-- Is a register there? -/
def hs (n : Nat) (r : Int) : Bool := decide (0 ≤ r ∧ r < (n : Int))
def insGo (n : Nat) : List Int → List Int → Int → Option (List Int)
  | [], l, _ => some l
  | y :: ys, l, i => if hs n y = true ∧ rg l y = -1 then insGo n ys (l.set y.toNat i) (i + 1) else none
def outsGo (n : Nat) (l : List Int) : List Int → List Int → Option (List Int)
  | [], o => some o
  | y :: ys, o => if hs n y = true ∧ rg l y ≠ -1 then outsGo n l ys (o ++ [rg l y]) else none
def nul : Int × List SStep × List Int × Bool := (0, [], [], false)
def regs (a : Int) : Nat := (mx (mn a 46) 0).toNat
def no : Nat → List Int := fun n => List.replicate n (-1)
theorem least_eq (a b : Int) : spec_l1Least.f a b = some (mn a b) := by
  unfold spec_l1Least.f mn
  split <;> split <;> simp <;> omega
theorem most_eq (a b : Int) : spec_l1Most.f a b = some (mx a b) := by
  unfold spec_l1Most.f mx
  split <;> split <;> simp <;> omega
/-- No number twice. -/
def dst (p : List Int) : List Int → Bool
  | [] => true
  | y :: ys => !decide (y ∈ p) && dst (p ++ [y]) ys
def insS : List Int → List Int → Int → List Int
  | [], l, _ => l
  | y :: ys, l, i => insS ys (l.set y.toNat i) (i + 1)
theorem rg_app {l m : List Int} {v : Int} (h0 : 0 ≤ v) (h1 : v < (l.length : Int)) : rg (l ++ m) v = rg l v := by
  unfold rg
  rw [List.getD_eq_getElem?_getD, List.getD_eq_getElem?_getD, List.getElem?_append_left (by omega)]
theorem rg_new {l : List Int} {x v : Int} (h : v = (l.length : Int)) : rg (l ++ [x]) v = x := by
  subst h
  unfold rg
  rw [Int.toNat_natCast, List.getD_eq_getElem?_getD, List.getElem?_append_right (Nat.le_refl _), Nat.sub_self]
  rfl
theorem rg_nat {l : List Int} {j : Nat} (h : j < l.length) : rg l (j : Int) = l[j] := by
  unfold rg
  rw [Int.toNat_natCast, List.getD_eq_getElem?_getD, List.getElem?_eq_getElem h]
  rfl
theorem rg_memL {l : List Int} {v : Int} (h0 : 0 ≤ v) (h1 : v < (l.length : Int)) : rg l v ∈ l := by
  obtain ⟨j, rfl⟩ := Int.eq_ofNat_of_zero_le h0
  rw [rg_nat (show j < l.length by omega)]
  exact List.getElem_mem _
theorem rg_le0 {l : List Int} (h : ∀ x ∈ l, 0 ≤ x) (v : Int) : 0 ≤ rg l v := by
  unfold rg
  rw [List.getD_eq_getElem?_getD]
  cases c : l[v.toNat]? with
  | none => exact Int.le_refl 0
  | some x => exact h x (List.mem_of_getElem? c)
theorem ext_rgL {l m : List Int} (hl : l.length = m.length) (h : ∀ v : Int, 0 ≤ v → v < (l.length : Int) → rg l v = rg m v) : l = m := by
  refine List.ext_getElem hl fun j h1 h2 => ?_
  have := h (j : Int) (by omega) (by omega)
  rwa [rg_nat h1, rg_nat h2] at this
/-- All values from those of the inputs, not bounded. -/
def vl : List SStep → List Int → List Int
  | [], l => l
  | y :: ys, l => vl ys (l ++ [rg l y.f0 + rg l y.f1])
theorem vl_pre (s : List SStep) (l : List Int) {v : Int} (h0 : 0 ≤ v) (h1 : v < (l.length : Int)) : rg (vl s l) v = rg l v := by
  induction s generalizing l with
  | nil => rfl
  | cons y ys ih =>
    rw [vl, ih _ (by rw [List.length_append]; omega), rg_app h0 h1]
/-- Steps that may follow n values. -/
def Ok (n : Nat) : List SStep → Prop
  | [] => True
  | y :: ys => (0 ≤ y.f0 ∧ y.f0 ≤ y.f1 ∧ y.f1 < (n : Int)) ∧ Ok (n + 1) ys
theorem Ok.append {n : Nat} {s t : List SStep} : Ok n (s ++ t) ↔ Ok n s ∧ Ok (n + s.length) t := by
  induction s generalizing n with
  | nil => simp [Ok]
  | cons y ys ih =>
    simp only [List.cons_append, Ok, ih, List.length_cons]
    rw [show n + 1 + ys.length = n + (ys.length + 1) by omega]
    exact and_assoc.symm
theorem Ok.at {n : Nat} {s : List SStep} (h : Ok n s) {m : Nat} {y : SStep} (hm : s[m]? = some y) : 0 ≤ y.f0 ∧ y.f0 ≤ y.f1 ∧ y.f1 < ((n + m : Nat) : Int) := by
  induction s generalizing n m with
  | nil => simp at hm
  | cons z s ih =>
    cases m with
    | zero =>
      obtain rfl : z = y := by simpa using hm
      exact h.1
    | succ m =>
      have := ih h.2 (m := m) (by simpa using hm)
      rw [show n + (m + 1) = n + 1 + m by omega]
      exact this
theorem ok_fB {I : Nat} (s : List SStep) (j : Nat) (hb : I + j + s.length ≤ 100000) : fB (I : Int) s (j : Int) = true ↔ Ok (I + j) s := by
  induction s generalizing j with
  | nil => simp [fB, Ok]
  | cons y ys ih =>
    simp only [List.length_cons] at hb
    simp only [fB, Ok, Bool.and_eq_true, decide_eq_true_eq]
    rw [w64_id (by omega), show (j : Int) + 1 = ((j + 1 : Nat) : Int) by omega, ih (j + 1) (by omega)]
    rw [show I + (j + 1) = I + j + 1 by omega, show ((I + j : Nat) : Int) = (I : Int) + (j : Int) by omega]
theorem vl_at {s : List SStep} {l : List Int} (h : Ok l.length s) {m : Nat} {y : SStep} (hm : s[m]? = some y) : rg (vl s l) ((l.length + m : Nat) : Int) = rg (vl s l) y.f0 + rg (vl s l) y.f1 := by
  induction s generalizing l m with
  | nil => simp at hm
  | cons z s ih =>
    have h1 := h.1
    have h2 := h.2
    cases m with
    | zero =>
      obtain rfl : z = y := by simpa using hm
      have hl : (l ++ [rg l z.f0 + rg l z.f1]).length = l.length + 1 := by rw [List.length_append, List.length_singleton]
      have e0 : rg (l ++ [rg l z.f0 + rg l z.f1]) ((l.length + 0 : Nat) : Int) = rg l z.f0 + rg l z.f1 := rg_new (by omega)
      have e1 : rg (l ++ [rg l z.f0 + rg l z.f1]) z.f0 = rg l z.f0 := rg_app (by omega) (by omega)
      have e2 : rg (l ++ [rg l z.f0 + rg l z.f1]) z.f1 = rg l z.f1 := rg_app (by omega) (by omega)
      rw [vl, vl_pre _ _ (by omega) (by omega), vl_pre _ _ (by omega) (by omega), vl_pre _ _ (by omega) (by omega), e0, e1, e2]
    | succ m =>
      rw [vl]
      have := ih (l := l ++ [rg l z.f0 + rg l z.f1]) (by rw [List.length_append, List.length_singleton]; exact h2) (m := m) (by simpa using hm)
      rw [List.length_append, List.length_singleton, show l.length + 1 + m = l.length + (m + 1) by omega] at this
      exact this
theorem vl_ge {s : List SStep} {l : List Int} (h : ∀ x ∈ l, 0 ≤ x) : ∀ x ∈ vl s l, 0 ≤ x := by
  induction s generalizing l with
  | nil => exact h
  | cons y ys ih =>
    refine ih fun x hx => ?_
    rcases List.mem_append.1 hx with hx | hx
    · exact h x hx
    · rw [List.mem_singleton.1 hx]
      have := rg_le0 h y.f0
      have := rg_le0 h y.f1
      omega
/-! exponents -/
theorem unitR_len (n j : Nat) : (unitR n j).length = n := by simp [unitR]
theorem unitR_rg {n j : Nat} (hj : j < n) {v : Int} (h0 : 0 ≤ v) (h1 : v < (n : Int)) : rg (unitR n j) v = if v = (j : Int) then 1 else 0 := by
  obtain ⟨u, rfl⟩ := Int.eq_ofNat_of_zero_le h0
  rw [rg_nat (by rw [unitR_len]; omega)]
  unfold unitR
  rw [List.getElem_set]
  by_cases c : j = u
  · rw [if_pos c, if_pos (by omega)]
  · rw [if_neg c, if_neg (by omega)]
    simp
theorem unitR_ge (n j : Nat) : ∀ x ∈ unitR n j, 0 ≤ x := fun x hx => ((unitR_ok n j).2 x hx).1
def capI (x : Int) : Int := if x ≤ 1000001 then x else 1000001
theorem cap_add {a b : Int} (ha : 0 ≤ a) (hb : 0 ≤ b) : addC (capI a) (capI b) = capI (a + b) := by
  unfold addC capI
  split <;> split <;> split <;> omega
theorem exGo_col {n j : Nat} (hj : j < n) (s : List SStep) (rs : List (List Int)) (l : List Int) (hrs : ∀ r ∈ rs, RowOk n r) (hl : l.length = rs.length) (hs : Ok l.length s) (h0 : ∀ x ∈ l, 0 ≤ x) (h : ∀ v : Nat, v < rs.length → rg (rs.getD v []) (j : Int) = capI (rg l (v : Int))) : ∀ v : Nat, v < rs.length + s.length → rg ((exGo rs s).getD v []) (j : Int) = capI (rg (vl s l) (v : Int)) := by
  induction s generalizing rs l with
  | nil => exact fun v hv => h v (by simpa using hv)
  | cons y ys ih =>
    have h1 := hs.1
    obtain ⟨g0, o0⟩ := getD_ok hrs h1.1 (by omega)
    obtain ⟨g1, o1⟩ := getD_ok hrs (show 0 ≤ y.f1 by omega) (by omega)
    have hso := sumC_ok o0 o1
    intro v hv
    simp only [List.length_cons] at hv
    refine ih (rs ++ [_]) (l ++ [_]) (fun r hr => ?_) (by rw [List.length_append, List.length_append, hl]; rfl) (by rw [List.length_append, List.length_singleton]; exact hs.2) ?_ ?_ v (by rw [List.length_append, List.length_singleton]; omega)
    · rcases List.mem_append.1 hr with hr | hr
      · exact hrs r hr
      · rw [List.mem_singleton.1 hr]
        exact hso
    · intro x hx
      rcases List.mem_append.1 hx with hx | hx
      · exact h0 x hx
      · rw [List.mem_singleton.1 hx]
        have := rg_le0 h0 y.f0
        have := rg_le0 h0 y.f1
        omega
    · intro u hu
      rw [List.length_append, List.length_singleton] at hu
      by_cases c : u < rs.length
      · rw [rg_app (by omega) (by omega), List.getD_eq_getElem?_getD, List.getElem?_append_left c, ← List.getD_eq_getElem?_getD]
        exact h u c
      · obtain rfl : u = rs.length := by omega
        rw [rg_new (by omega), List.getD_eq_getElem?_getD, List.getElem?_append_right (Nat.le_refl _), Nat.sub_self]
        simp only [List.getElem?_cons_zero, Option.getD_some]
        have e0 := h y.f0.toNat (by omega)
        have e1 := h y.f1.toNat (by omega)
        rw [show ((y.f0.toNat : Nat) : Int) = y.f0 by omega] at e0
        rw [show ((y.f1.toNat : Nat) : Int) = y.f1 by omega] at e1
        rw [← cap_add (rg_le0 h0 _) (rg_le0 h0 _), ← e0, ← e1]
        have q0 : j < (rs.getD y.f0.toNat []).length := by rw [o0.1]; exact hj
        have q1 : j < (rs.getD y.f1.toNat []).length := by rw [o1.1]; exact hj
        have q2 : j < (sumC (rs.getD y.f0.toNat []) (rs.getD y.f1.toNat [])).length := by rw [hso.1]; exact hj
        rw [rg_nat q2, rg_nat q0, rg_nat q1]
        simp [sumC]
theorem exps_col {I : Nat} {s : List SStep} (hs : Ok I s) {j : Nat} (hj : j < I) (v : Nat) (hv : v < I + s.length) : rg ((exps I s).getD v []) (j : Int) = capI (rg (vl s (unitR I j)) (v : Int)) := by
  have hl : (units I I).length = I := by simp [units]
  refine exGo_col hj s (units I I) (unitR I j) (units_ok I I) (by rw [unitR_len, hl]) (by rw [unitR_len]; exact hs) (unitR_ge I j) ?_ v (by rw [hl]; exact hv)
  intro u hu
  rw [hl] at hu
  have e : (units I I).getD u [] = unitR I u := by
    rw [List.getD_eq_getElem?_getD, List.getElem?_eq_getElem (by rw [hl]; exact hu)]
    simp [units]
  rw [e, unitR_rg hu (by omega) (by omega), unitR_rg hj (by omega) (by omega)]
  by_cases c : j = u
  · subst c
    rw [if_pos rfl]
    rfl
  · rw [if_neg (by omega), if_neg (by omega)]
    rfl
/-- What a plan is. -/
structure Good (I : Nat) (s : List SStep) (o : List Int) : Prop where
  inp : 1 ≤ I ∧ I ≤ 6
  stp : s.length ≤ 40
  out : o.length ≤ 6
  ok : Ok I s
  os : ∀ y ∈ o, 0 ≤ y ∧ y < ((I + s.length : Nat) : Int)
  le : ∀ j : Nat, j < I → ∀ v : Int, 0 ≤ v → v < ((I + s.length : Nat) : Int) → rg (vl s (unitR I j)) v ≤ 1000000
theorem exps_len {I : Nat} {s : List SStep} (hI : 1 ≤ I ∧ I ≤ 6) (hs : s.length ≤ 40) (h : Ok I s) : (exps I s).length = I + s.length ∧ ∀ r ∈ exps I s, RowOk I r := by
  obtain ⟨_, _, a3, a4⟩ := exps_ev I (by omega) s [] (by omega) (by have := (ok_fB (I := I) s 0 (by omega)).2 (by simpa using h); exact this)
  exact ⟨a4, a3⟩
theorem good_iff {I : Nat} {s : List SStep} {o : List Int} : good (I : Int) s o = true ↔ Good I s o := by
  unfold good
  simp only [Bool.and_eq_true, decide_eq_true_eq, Int.toNat_natCast]
  constructor
  · rintro ⟨h1, h2, h3, h4, h5, h6⟩
    have hI : 1 ≤ I ∧ I ≤ 6 := by omega
    have hok : Ok I s := by have := (ok_fB (I := I) s 0 (by omega)).1 h4; simpa using this
    obtain ⟨e1, e2⟩ := exps_len hI h2 hok
    refine ⟨hI, h2, h3, hok, ?_, ?_⟩
    · intro y hy
      have := List.all_eq_true.1 h6 y hy
      rw [w64_id (x := (I : Int) + (s.length : Int)) (by omega), w64_id (by omega)] at this
      simp only [decide_eq_true_eq] at this
      omega
    · intro j hj v v0 v1
      obtain ⟨u, rfl⟩ := Int.eq_ofNat_of_zero_le v0
      have hc := exps_col hok hj u (by omega)
      have hu : u < (exps I s).length := by omega
      have hr := List.all_eq_true.1 h5 ((exps I s).getD u []) (by rw [List.getD_eq_getElem?_getD, List.getElem?_eq_getElem hu]; exact List.getElem_mem _)
      have hrow := e2 ((exps I s).getD u []) (by rw [List.getD_eq_getElem?_getD, List.getElem?_eq_getElem hu]; exact List.getElem_mem _)
      have := List.all_eq_true.1 hr _ (rg_memL (l := (exps I s).getD u []) (v := (j : Int)) (by omega) (by rw [hrow.1]; omega))
      simp only [decide_eq_true_eq] at this
      rw [hc] at this
      unfold capI at this
      split at this <;> omega
  · rintro ⟨hI, h2, h3, hok, h6, h5⟩
    obtain ⟨e1, e2⟩ := exps_len hI h2 hok
    refine ⟨by omega, h2, h3, ?_, ?_, ?_⟩
    · have := (ok_fB (I := I) s 0 (by omega)).2 (by simpa using hok)
      exact this
    · refine List.all_eq_true.2 fun r hr => ?_
      have hrow := e2 r hr
      obtain ⟨u, hu, rfl⟩ := List.getElem_of_mem hr
      refine List.all_eq_true.2 fun x hx => ?_
      obtain ⟨j, hj, rfl⟩ := List.getElem_of_mem hx
      have hj' : j < I := by rw [← hrow.1]; exact hj
      have hc := exps_col hok hj' u (by omega)
      rw [List.getD_eq_getElem?_getD, List.getElem?_eq_getElem hu, Option.getD_some, rg_nat hj] at hc
      have := h5 j hj' (u : Int) (by omega) (by omega)
      have h0 := rg_le0 (vl_ge (s := s) (unitR_ge I j)) (u : Int)
      rw [hc]
      unfold capI
      simp only [decide_eq_true_eq]
      split <;> omega
    · refine List.all_eq_true.2 fun y hy => ?_
      have := h6 y hy
      rw [w64_id (x := (I : Int) + (s.length : Int)) (by omega), w64_id (by omega)]
      simp only [decide_eq_true_eq]
      omega
theorem good_Good {i : Int} {s : List SStep} {o : List Int} (h : good i s o = true) : ∃ I : Nat, i = (I : Int) ∧ Good I s o := by
  have h' := h
  unfold good at h
  simp only [Bool.and_eq_true, decide_eq_true_eq] at h
  obtain ⟨I, rfl⟩ := Int.eq_ofNat_of_zero_le (show 0 ≤ i by omega)
  exact ⟨I, rfl, good_iff.1 h'⟩
theorem Good.form {I : Nat} {s : List SStep} {o : List Int} (h : Good I s o) : Form I s o := by
  obtain ⟨J, e, hf⟩ := good_form (good_iff.2 h)
  obtain rfl : I = J := by omega
  exact hf
theorem cloneI_eq (l : List Int) (h : l.length ≤ 1000000) : slices_Clone_int_int.f l = some l := by
  unfold slices_Clone_int_int.f
  rw [ap_ok (by simp; omega)]
  rfl
theorem ren_l0 (v ys o : List Int) (j : Int) (h : ∀ y ∈ ys, 0 ≤ y ∧ y < (v.length : Int)) (hb : o.length + ys.length ≤ 1000) : impl_renamed.l0 v ys o j = some (o ++ ys.map (rg v)) := by
  induction ys generalizing o j with
  | nil => simp [impl_renamed.l0]
  | cons y ys ih =>
    simp only [List.length_cons] at hb
    have hy := h y List.mem_cons_self
    simp only [impl_renamed.l0]
    rw [rg_gt hy.1 hy.2, Option.bind_some, ap_ok (by simp; omega), Option.bind_some, ih _ _ (fun z hz => h z (List.mem_cons_of_mem _ hz)) (by rw [List.length_append, List.length_singleton]; omega)]
    simp
theorem ren_eq (v ys : List Int) (h : ∀ y ∈ ys, 0 ≤ y ∧ y < (v.length : Int)) (hb : ys.length ≤ 1000) : impl_renamed.f ys v = some (ys.map (rg v)) := by
  unfold impl_renamed.f
  rw [ren_l0 v ys [] 0 h (by simpa using hb)]
  rfl
def toldP (i : Int) (s : List SStep) (o : List Int) : Int × List SStep × List Int × Bool := if good i s o = true then (i, s, o, true) else (0, [], [], false)
/-- The places of another plan's values when its steps are put behind. -/
def bh (i : Int) : List SStep → List Int → List SStep → List Int × List SStep
  | [], p, s => (p, s)
  | y :: ys, p, s => bh i ys (p ++ [i + (s.length : Int)]) (s ++ [⟨mn (rg (p ++ [i + (s.length : Int)]) y.f0) (rg (p ++ [i + (s.length : Int)]) y.f1), mx (rg (p ++ [i + (s.length : Int)]) y.f0) (rg (p ++ [i + (s.length : Int)]) y.f1)⟩])
def Bytes (c : List Int) : Prop := ∀ y ∈ c, 0 ≤ y ∧ y ≤ 255
/-- So many picks may still be made. -/
def Bud (a : Int) (m : Nat) : Prop := 0 ≤ a ∧ a + 2 * (m : Int) ≤ 1000000000
theorem Bud.le {a : Int} {m m' : Nat} (h : Bud a m) (hm : m' ≤ m) : Bud a m' := ⟨h.1, by have := h.2; omega⟩
theorem byte_in {c : List Int} (h : ∀ y ∈ c, (Lit.int .u8 y).wf = true) : Bytes c := fun y hy => by
  have h2 := h y hy
  simp [Lit.wf, IntKind.min, IntKind.max, IntKind.signed, IntKind.bits] at h2
  omega
theorem and255 (x : Int) : 0 ≤ Go.bits .and .u64 x 255 ∧ Go.bits .and .u64 x 255 ≤ 255 := by
  have hw : ∀ n : Nat, n ≤ 255 → 0 ≤ IntKind.u64.wrap (n : Int) ∧ IntKind.u64.wrap (n : Int) ≤ 255 := fun n hn => by
    unfold IntKind.wrap
    simp [IntKind.signed, IntKind.bits]
    omega
  have h : (BitVec.ofInt IntKind.u64.bits x &&& BitVec.ofInt IntKind.u64.bits 255).toNat ≤ 255 := by
    rw [BitVec.toNat_and]
    exact Nat.le_trans Nat.and_le_right (by decide)
  exact hw _ h
theorem next_ev {c : List Int} (hc : Bytes c) (hl : c.length ≤ 1048576) {a : Int} (ha : 0 ≤ a ∧ a ≤ 1000000000) (sd : Int) : ∃ x sd', spec_l1Cur_next.f c a sd = some (x, sd') ∧ 0 ≤ x ∧ x ≤ 255 := by
  have hv : ∃ v, (if a < (c.length : Int) then ((gt c a).bind fun y14 => some (w64 y14)) else (some 0)) = some v ∧ 0 ≤ v ∧ v ≤ 255 := by
    by_cases h : a < (c.length : Int)
    · rw [if_pos h]
      have hj : a.toNat < c.length := by omega
      have hg : gt c a = some c[a.toNat] := by
        unfold gt
        rw [if_pos ha.1, List.getElem?_eq_getElem hj]
      have hb := hc _ (List.getElem_mem hj)
      rw [hg, Option.bind_some, w64_id (by omega)]
      exact ⟨_, rfl, hb⟩
    · rw [if_neg h]
      exact ⟨0, rfl, by omega, by omega⟩
  obtain ⟨v, e, hv⟩ := hv
  unfold spec_l1Cur_next.f
  rw [e, Option.bind_some]
  split
  · exact ⟨_, _, rfl, hv⟩
  · refine ⟨_, _, rfl, ?_⟩
    have := and255 ((IntKind.u64.wrap (IntKind.u64.wrap (IntKind.u64.wrap (sd * 6364136223846793005) + (IntKind.u64.wrap v)) + 1442695040888963407)) / 2 ^ min (40 : Int).toNat IntKind.u64.bits)
    rw [w64_id (by omega)]
    exact this
theorem pick_ev {c : List Int} (hc : Bytes c) (hl : c.length ≤ 1048576) {a : Int} {m : Nat} (ha : Bud a (m + 1)) (sd n : Int) : ∃ x a' sd', spec_l1Cur_pick.f c a sd n = some (x, a', sd') ∧ 0 ≤ x ∧ (x = 0 ∨ x < n) ∧ Bud a' m := by
  unfold spec_l1Cur_pick.f
  have h0 := ha.1
  have h1 := ha.2
  by_cases hn : n ≤ 1
  · rw [if_pos hn]
    exact ⟨0, a, sd, rfl, by omega, .inl rfl, ha.le (by omega)⟩
  · rw [if_neg hn]
    obtain ⟨x, s1, e1, x0, x1⟩ := next_ev hc hl (a := a) (by omega) sd
    have hz : nz n = some () := by
      unfold nz
      rw [if_neg (by omega)]
    rw [e1, Option.bind_some]
    simp only
    by_cases h2 : 200 < n
    · rw [if_pos h2, w64_id (x := a + 1) (by omega)]
      obtain ⟨y, s2, e2, y0, y1⟩ := next_ev hc hl (a := a + 1) (by omega) s1
      rw [e2, Option.bind_some, hz, w64_id (x := x * 256) (by omega), w64_id (x := x * 256 + y) (by omega), w64_id (x := a + 1 + 1) (by omega)]
      refine ⟨_, _, _, rfl, Int.tmod_nonneg _ (by omega), .inr (Int.tmod_lt_of_pos _ (by omega)), by omega, by omega⟩
    · rw [if_neg h2, hz, w64_id (x := a + 1) (by omega)]
      exact ⟨_, _, _, rfl, Int.tmod_nonneg _ (by omega), .inr (Int.tmod_lt_of_pos _ (by omega)), by omega, by omega⟩
theorem one_ev {c : List Int} (hc : Bytes c) (hl : c.length ≤ 1048576) {a : Int} {m : Nat} (ha : Bud a (m + 1)) (sd n : Int) : ∃ b a' sd', spec_l1Cur_one.f c a sd n = some (b, a', sd') ∧ Bud a' m := by
  obtain ⟨x, a', sd', e, _, _, hb⟩ := pick_ev hc hl ha sd n
  unfold spec_l1Cur_one.f
  rw [e]
  exact ⟨_, _, _, rfl, hb⟩
theorem among_ev {c : List Int} (hc : Bytes c) (hl : c.length ≤ 1048576) {a : Int} {m : Nat} (ha : Bud a (m + 1)) (sd : Int) (l : List Int) (hne : 0 < l.length) : ∃ y a' sd', spec_l1Cur_among.f c a sd l = some (y, a', sd') ∧ y ∈ l ∧ Bud a' m := by
  obtain ⟨x, a', sd', e, x0, x1, hb⟩ := pick_ev hc hl ha sd (l.length : Int)
  unfold spec_l1Cur_among.f
  rw [e, Option.bind_some]
  have hj : x.toNat < l.length := by omega
  have hg : gt l x = some l[x.toNat] := by
    unfold gt
    rw [if_pos x0, List.getElem?_eq_getElem hj]
  simp only [hg, Option.bind_some]
  exact ⟨_, _, _, rfl, List.getElem_mem hj, hb⟩
theorem plStep_some (a b : Int) : ∃ z, spec_plStep.f a b = some z := by
  unfold spec_plStep.f spec_l1Least.f spec_l1Most.f
  split <;> split <;> exact ⟨_, rfl⟩
theorem least_some (a b : Int) : ∃ z, spec_l1Least.f a b = some z := by
  unfold spec_l1Least.f
  split <;> exact ⟨_, rfl⟩
theorem dplan_l0 {c : List Int} (hc : Bytes c) (hl : c.length ≤ 1048576) (i : Int) (d : Nat) (s : List SStep) (a sd : Int) (m : Nat) (ha : Bud a (m + 3 * d)) (hd : s.length + d ≤ 1000) : ∃ s' a' sd', Ev (fun k => spec_l1Cur_plan.l0 c i k s a sd (d : Int)) (s', a', sd') ∧ s'.length = s.length + d ∧ Bud a' m := by
  induction d generalizing s a sd with
  | zero =>
    refine ⟨s, a, sd, shift ?_, rfl, ha.le (by omega)⟩
    simp only [spec_l1Cur_plan.l0]
    exact neg (by omega) (ret _)
  | succ d ih =>
    obtain ⟨x, a1, s1, e1, _, _, b1⟩ := pick_ev hc hl (m := m + 3 * d + 2) (ha.le (by omega)) sd (w64 (w64 (1 + i) + (s.length : Int)))
    obtain ⟨b, a2, s2, e2, b2⟩ := one_ev hc hl (m := m + 3 * d + 1) b1 s1 2
    have e3 : ∃ v, ((spec_l1Cur_one.f c a1 s1 2).bind fun (b49, i50, i51) => if b49 = true then (some (i50, i51, w64 (w64 (w64 (1 + i) + (s.length : Int)) - 1))) else (some (i50, i51, x))) = some (a2, s2, v) := by
      rw [e2, Option.bind_some]
      cases b
      · exact ⟨_, rfl⟩
      · exact ⟨_, rfl⟩
    obtain ⟨v, e3⟩ := e3
    obtain ⟨y, a4, s4, e4, _, _, b4⟩ := pick_ev hc hl (m := m + 3 * d) b2 s2 (w64 (w64 (1 + i) + (s.length : Int)))
    obtain ⟨z, e5⟩ := plStep_some v y
    obtain ⟨s', a', sd', e6, l6, b6⟩ := ih (s ++ [z]) a4 s4 b4 (by rw [List.length_append, List.length_singleton]; omega)
    refine ⟨s', a', sd', shift ?_, by rw [l6, List.length_append, List.length_singleton]; omega, b6⟩
    simp only [spec_l1Cur_plan.l0]
    refine pos (by omega) (bind0 e1 (bind0 e3 (bind0 e4 (bind0 e5 (bind0 (ap_ok (by simp; omega)) ?_)))))
    rw [w64_id (by omega), show ((d + 1 : Nat) : Int) - 1 = (d : Int) by omega]
    exact e6
theorem dplan_l1 {c : List Int} (hc : Bytes c) (hl : c.length ≤ 1048576) (i : Int) (s : List SStep) (d : Nat) (o : List Int) (a sd : Int) (m : Nat) (ha : Bud a (m + d)) (hd : o.length + d ≤ 1000) : ∃ o' a' sd', Ev (fun k => spec_l1Cur_plan.l1 c i s k o a sd (d : Int)) (o', a', sd') ∧ o'.length = o.length + d ∧ Bud a' m := by
  induction d generalizing o a sd with
  | zero =>
    refine ⟨o, a, sd, shift ?_, rfl, ha.le (by omega)⟩
    simp only [spec_l1Cur_plan.l1]
    exact neg (by omega) (ret _)
  | succ d ih =>
    obtain ⟨z, e0⟩ := least_some (w64 (w64 (1 + i) + (s.length : Int))) 4
    obtain ⟨x, a1, s1, e1, _, _, b1⟩ := pick_ev hc hl (m := m + d) (ha.le (by omega)) sd z
    obtain ⟨o', a', sd', e6, l6, b6⟩ := ih (o ++ [w64 (w64 (w64 (w64 (1 + i) + (s.length : Int)) - 1) - x)]) a1 s1 b1 (by rw [List.length_append, List.length_singleton]; omega)
    refine ⟨o', a', sd', shift ?_, by rw [l6, List.length_append, List.length_singleton]; omega, b6⟩
    simp only [spec_l1Cur_plan.l1]
    refine pos (by omega) (bind0 e0 (bind0 e1 (bind0 (ap_ok (by simp; omega)) ?_)))
    rw [w64_id (x := ((d + 1 : Nat) : Int) - 1) (by omega), show ((d + 1 : Nat) : Int) - 1 = (d : Int) by omega]
    exact e6
/-- A plan is drawn. -/
theorem drawPlan {c : List Int} (hc : Bytes c) (hl : c.length ≤ 1048576) (a sd n t : Int) (ht : 0 ≤ t ∧ t ≤ 40) (m : Nat) (ha : Bud a (m + 200)) : ∃ i s o a' sd', Ev (fun k => spec_l1Cur_plan.f k c a sd n t) (i, s, o, a', sd') ∧ s.length ≤ 40 ∧ o.length ≤ 3 ∧ Bud a' m := by
  obtain ⟨x, a1, s1, e1, _, _, b1⟩ := pick_ev hc hl (m := m + 199) (ha.le (by omega)) sd n
  obtain ⟨y, a2, s2, e2, y0, y1, b2⟩ := pick_ev hc hl (m := m + 198) b1 s1 (w64 (t + 1))
  rw [w64_id (by omega)] at e2 y1
  obtain ⟨d, rfl⟩ := Int.eq_ofNat_of_zero_le y0
  obtain ⟨s', a3, s3, e3, l3, b3⟩ := dplan_l0 hc hl x d [] a2 s2 (m + 70) (b2.le (by omega)) (by simp; omega)
  obtain ⟨z, a4, s4, e4, z0, z1, b4⟩ := pick_ev hc hl (m := m + 60) (b3.le (by omega)) s3 3
  obtain ⟨q, rfl⟩ := Int.eq_ofNat_of_zero_le z0
  obtain ⟨o', a5, s5, e5, l5, b5⟩ := dplan_l1 hc hl x s' (1 + q) [] a4 s4 (m + 30) (b4.le (by omega)) (by simp; omega)
  obtain ⟨b, a6, s6, e6, b6⟩ := one_ev hc hl (m := m + 20) (b5.le (by omega)) s5 12
  have e7 : ∃ o, o.length ≤ 3 ∧ ((spec_l1Cur_one.f c a5 s5 12).bind fun (b1653, i1654, i1655) => if b1653 = true then (some (([] : List Int), i1654, i1655)) else (some (o', i1654, i1655))) = some (o, a6, s6) := by
    rw [e6, Option.bind_some]
    cases b
    · exact ⟨o', by rw [l5]; simp; omega, rfl⟩
    · exact ⟨[], by simp, rfl⟩
  obtain ⟨o, lo, e7⟩ := e7
  refine ⟨w64 (1 + x), s', o, a6, s6, ?_, by rw [l3]; simp; omega, lo, b6.le (by omega)⟩
  unfold spec_l1Cur_plan.f
  rw [w64_id (x := t + 1) (by omega)]
  refine bind0 e1 (bind0 e2 (bind e3 (bind0 e4 (bind (a := (o', a5, s5)) ?_ (bind0 e7 (ret _))))))
  rw [w64_id (by omega), show (1 : Int) + (q : Int) = ((1 + q : Nat) : Int) by omega]
  exact e5
theorem any_l0 (d : Nat) (s : List SStep) (hd : s.length + d ≤ 1000) : ∃ s', Ev (fun k => spec_l1Cur_anyPlan.l0 k s (d : Int)) s' ∧ s'.length = s.length + d := by
  induction d generalizing s with
  | zero =>
    refine ⟨s, shift ?_, rfl⟩
    simp only [spec_l1Cur_anyPlan.l0]
    exact neg (by omega) (ret _)
  | succ d ih =>
    obtain ⟨s', e, l⟩ := ih (s ++ [⟨(s.length : Int), (s.length : Int)⟩]) (by rw [List.length_append, List.length_singleton]; omega)
    refine ⟨s', shift ?_, by rw [l, List.length_append, List.length_singleton]; omega⟩
    simp only [spec_l1Cur_anyPlan.l0]
    refine pos (by omega) (bind0 (ap_ok (by simp; omega)) ?_)
    rw [w64_id (by omega), show ((d + 1 : Nat) : Int) - 1 = (d : Int) by omega]
    exact e
theorem any_l2 (d : Nat) (s : List SStep) (hd : s.length + d ≤ 1000) : ∃ s', Ev (fun k => spec_l1Cur_anyPlan.l2 k s (d : Int)) s' ∧ s'.length = s.length + d := by
  induction d generalizing s with
  | zero =>
    refine ⟨s, shift ?_, rfl⟩
    simp only [spec_l1Cur_anyPlan.l2]
    exact neg (by omega) (ret _)
  | succ d ih =>
    obtain ⟨s', e, l⟩ := ih (s ++ [⟨0, w64 (1 + (s.length : Int))⟩]) (by rw [List.length_append, List.length_singleton]; omega)
    refine ⟨s', shift ?_, by rw [l, List.length_append, List.length_singleton]; omega⟩
    simp only [spec_l1Cur_anyPlan.l2]
    refine pos (by omega) (bind0 (ap_ok (by simp; omega)) ?_)
    rw [w64_id (x := ((d + 1 : Nat) : Int) - 1) (by omega), show ((d + 1 : Nat) : Int) - 1 = (d : Int) by omega]
    exact e
theorem any_l1 {c : List Int} (hc : Bytes c) (hl : c.length ≤ 1048576) (i : Int) (s : List SStep) (d : Nat) (o : List Int) (a sd : Int) (m : Nat) (ho : o.length + d = 8) (ha : Bud a (m + d + 1)) : ∃ o' a' sd', Ev (fun k => spec_l1Cur_anyPlan.l1 c i s k o a sd) (i, s, o', a', sd') ∧ o'.length ≤ 8 ∧ Bud a' m := by
  induction d generalizing o a sd with
  | zero =>
    obtain ⟨x, a1, s1, e1, x0, x1, b1⟩ := pick_ev hc hl (m := m) (ha.le (by omega)) sd 2
    refine ⟨o, a1, s1, shift ?_, by omega, b1⟩
    simp only [spec_l1Cur_anyPlan.l1]
    refine bind0 e1 ?_
    rw [w64_id (by omega)]
    exact neg (by omega) (ret _)
  | succ d ih =>
    obtain ⟨x, a1, s1, e1, x0, x1, b1⟩ := pick_ev hc hl (m := m + d + 1) (ha.le (by omega)) sd 2
    by_cases h : (o.length : Int) < 6 + x
    · obtain ⟨o', a', sd', e, l, b⟩ := ih (o ++ [0]) a1 s1 (by rw [List.length_append, List.length_singleton]; omega) b1
      refine ⟨o', a', sd', shift ?_, l, b⟩
      simp only [spec_l1Cur_anyPlan.l1]
      refine bind0 e1 ?_
      rw [w64_id (by omega)]
      exact pos h (bind0 (ap_ok (by simp; omega)) e)
    · refine ⟨o, a1, s1, shift ?_, by omega, b1.le (by omega)⟩
      simp only [spec_l1Cur_anyPlan.l1]
      refine bind0 e1 ?_
      rw [w64_id (by omega)]
      exact neg h (ret _)
/-- A plan, or something near one, is drawn. -/
theorem drawAny {c : List Int} (hc : Bytes c) (hl : c.length ≤ 1048576) (a sd n t : Int) (ht : 0 ≤ t ∧ t ≤ 40) (m : Nat) (ha : Bud a (m + 300)) : ∃ i s o a' sd', Ev (fun k => spec_l1Cur_anyPlan.f k c a sd n t) (i, s, o, a', sd') ∧ s.length ≤ 60 ∧ o.length ≤ 60 ∧ Bud a' m := by
  obtain ⟨i, s, o, a1, s1, e1, ls, lo, b1⟩ := drawPlan hc hl a sd n t ht (m + 100) ha
  obtain ⟨x, a2, s2, e2, x0, x1, b2⟩ := pick_ev hc hl (m := m + 99) b1 s1 16
  have fin : ∀ (g : Nat → Option (Int × List SStep × List Int × Int × Int)), (∃ i' s' o' a' sd', Ev g (i', s', o', a', sd') ∧ s'.length ≤ 60 ∧ o'.length ≤ 60 ∧ Bud a' m) → (∀ k, ((spec_l1Cur_pick.f c a1 s1 16).bind fun (i753, i754, i755) => if i753 = 0 then ((spec_l1Cur_among.f c i754 i755 ([(-1), 0, 1, 6, 7] : List Int)).bind fun (i761, i762, i763) => some (i761, s, o, i762, i763)) else (if i753 = 1 then (if 0 < (s.length : Int) then ((spec_l1Cur_pick.f c i754 i755 (s.length : Int)).bind fun (i767, i768, i769) => (spec_l1Cur_pick.f c i768 i769 5).bind fun (i771, i772, i773) => (spec_l1Cur_pick.f c i772 i773 8).bind fun (i775, i776, i777) => (gt s i767).bind fun y780 => (st s i767 (⟨w64 (i771 - 1), i775⟩ : SStep)).bind fun l781 => some (i, l781, o, i776, i777)) else (some (i, s, o, i754, i755))) else (if i753 = 2 then ((spec_l1Cur_pick.f c i754 i755 12).bind fun (i967, i968, i969) => (ap o ([w64 (i967 - 1)] : List Int)).bind fun l1146 => some (i, s, l1146, i968, i969)) else (if i753 = 3 then ((spec_l1Cur_pick.f c i754 i755 4).bind fun (i1388, i1389, i1390) => (spec_l1Cur_anyPlan.l0 k ([] : List SStep) (w64 (18 + i1388))).bind fun l1392 => some (1, l1392, ([(l1392.length : Int)] : List Int), i1389, i1390)) else (if i753 = 4 then ((spec_l1Cur_anyPlan.l1 c i s k o i754 i755)) else (if i753 = 5 then ((spec_l1Cur_pick.f c i754 i755 2).bind fun (i1447, i1448, i1449) => (spec_l1Cur_anyPlan.l2 k ([] : List SStep) (w64 (40 + i1447))).bind fun l1451 => some (2, l1451, ([5] : List Int), i1448, i1449)) else (some (i, s, o, i754, i755)))))))) = g k) → ∃ i s o a' sd', Ev (fun k => spec_l1Cur_anyPlan.f k c a sd n t) (i, s, o, a', sd') ∧ s.length ≤ 60 ∧ o.length ≤ 60 ∧ Bud a' m := by
    rintro g ⟨i', s', o', a', sd', eg, q1, q2, q3⟩ hg
    refine ⟨i', s', o', a', sd', ?_, q1, q2, q3⟩
    unfold spec_l1Cur_anyPlan.f
    refine bind e1 ?_
    simp only [hg]
    exact bind eg (ret _)
  refine fin _ ?_ (fun k => rfl)
  by_cases c0 : x = 0
  · obtain ⟨y, a3, s3, e3, _, b3⟩ := among_ev hc hl (m := m + 98) b2 s2 [(-1), 0, 1, 6, 7] (by simp)
    exact ⟨_, _, _, _, _, bind0 e2 (pos c0 (bind0 e3 (ret _))), by omega, by omega, b3.le (by omega)⟩
  · by_cases c1 : x = 1
    · by_cases h0 : 0 < (s.length : Int)
      · obtain ⟨y, a3, s3, e3, y0, y1, b3⟩ := pick_ev hc hl (m := m + 98) b2 s2 (s.length : Int)
        obtain ⟨z, a4, s4, e4, _, _, b4⟩ := pick_ev hc hl (m := m + 97) b3 s3 5
        obtain ⟨w, a5, s5, e5, _, _, b5⟩ := pick_ev hc hl (m := m + 96) b4 s4 8
        have hj : y.toNat < s.length := by omega
        have hg : gt s y = some s[y.toNat] := by
          unfold gt
          rw [if_pos y0, List.getElem?_eq_getElem hj]
        have hst : st s y (⟨w64 (z - 1), w⟩ : SStep) = some (s.set y.toNat ⟨w64 (z - 1), w⟩) := by
          unfold st
          rw [if_pos (by omega)]
        exact ⟨_, _, _, _, _, bind0 e2 (neg c0 (pos c1 (pos h0 (bind0 e3 (bind0 e4 (bind0 e5 (bind0 hg (bind0 hst (ret _))))))))), by simp; omega, by omega, b5.le (by omega)⟩
      · exact ⟨_, _, _, _, _, bind0 e2 (neg c0 (pos c1 (neg h0 (ret _)))), by omega, by omega, b2.le (by omega)⟩
    · by_cases c2 : x = 2
      · obtain ⟨y, a3, s3, e3, _, _, b3⟩ := pick_ev hc hl (m := m + 98) b2 s2 12
        exact ⟨_, _, _, _, _, bind0 e2 (neg c0 (neg c1 (pos c2 (bind0 e3 (bind0 (ap_ok (by simp; omega)) (ret _)))))), by omega, by simp; omega, b3.le (by omega)⟩
      · by_cases c3 : x = 3
        · obtain ⟨y, a3, s3, e3, y0, y1, b3⟩ := pick_ev hc hl (m := m + 98) b2 s2 4
          obtain ⟨d, rfl⟩ := Int.eq_ofNat_of_zero_le y0
          obtain ⟨s', e4, l4⟩ := any_l0 (18 + d) [] (by simp; omega)
          refine ⟨_, _, _, _, _, bind0 e2 (neg c0 (neg c1 (neg c2 (pos c3 (bind0 e3 (bind (a := s') ?_ (ret _))))))), by rw [l4]; simp; omega, by simp, b3.le (by omega)⟩
          rw [w64_id (by omega), show (18 : Int) + (d : Int) = ((18 + d : Nat) : Int) by omega]
          exact e4
        · by_cases c4 : x = 4
          · obtain ⟨o', a3, s3, e3, l3, b3⟩ := any_l1 hc hl i s (8 - o.length) o a2 s2 (m + 50) (by omega) (b2.le (by omega))
            exact ⟨_, _, _, _, _, bind0 e2 (neg c0 (neg c1 (neg c2 (neg c3 (pos c4 e3))))), by omega, by omega, b3.le (by omega)⟩
          · by_cases c5 : x = 5
            · obtain ⟨y, a3, s3, e3, y0, y1, b3⟩ := pick_ev hc hl (m := m + 98) b2 s2 2
              obtain ⟨d, rfl⟩ := Int.eq_ofNat_of_zero_le y0
              obtain ⟨s', e4, l4⟩ := any_l2 (40 + d) [] (by simp; omega)
              refine ⟨_, _, _, _, _, bind0 e2 (neg c0 (neg c1 (neg c2 (neg c3 (neg c4 (pos c5 (bind0 e3 (bind (a := s') ?_ (ret _))))))))), by rw [l4]; simp; omega, by simp, b3.le (by omega)⟩
              rw [w64_id (by omega), show (40 : Int) + (d : Int) = ((40 + d : Nat) : Int) by omega]
              exact e4
            · exact ⟨_, _, _, _, _, bind0 e2 (neg c0 (neg c1 (neg c2 (neg c3 (neg c4 (neg c5 (ret _))))))), by omega, by omega, b2.le (by omega)⟩
theorem big_eq (l m : List Int) (hl : l.length ≤ maxLen) (hm : m.length ≤ maxLen) : ∃ b, laws_big.f l m = some b ∧ (b = false → l.length ≤ 1048576 ∧ m.length ≤ 1048576) := by
  have h1 : l.length ≤ 9223372036854775807 := hl
  have h2 : m.length ≤ 9223372036854775807 := hm
  unfold laws_big.f
  by_cases c : 1048576 < (l.length : Int)
  · rw [if_pos c]
    exact ⟨true, rfl, fun h => nomatch h⟩
  · rw [if_neg c, w64_id (by omega)]
    refine ⟨_, rfl, fun h => ?_⟩
    simp only [decide_eq_false_iff_not] at h
    omega
theorem rSame_refl (l : List Int) : laws_rSame.f l l = some true := by
  have key : ∀ (d j : Nat), j + d = l.length → laws_rSame.l0 l (l.drop j) (j : Int) = some (.inr ()) := by
    intro d
    induction d with
    | zero =>
      intro j hj
      rw [List.drop_eq_nil_of_le (by omega)]
      rfl
    | succ d ih =>
      intro j hj
      rw [List.drop_eq_getElem_cons (show j < l.length by omega)]
      simp only [laws_rSame.l0]
      rw [gt_nat (show j < l.length by omega), Option.bind_some, if_neg (by simp), show (j : Int) + 1 = ((j + 1 : Nat) : Int) by omega]
      exact ih (j + 1) (by omega)
  unfold laws_rSame.f
  rw [if_neg (by simp)]
  have := key l.length 0 (by omega)
  rw [List.drop_zero] at this
  rw [show (0 : Int) = ((0 : Nat) : Int) from rfl, this]
  rfl
/-! lists that rise -/
/-! what lives at a cut -/
def usd (ys : List SStep) (u : Int) : Bool := ys.any fun y => decide (u = y.f0) || decide (u = y.f1)
def lv (s : List SStep) (o : List Int) (k : Nat) (u : Int) : Bool := decide (u ∈ o) || usd (s.drop k) u
/-! where values go -/
def idx : List Int → Int → Int → Int
  | [], _, _ => -1
  | y :: ys, v, j => if y = v then j else idx ys v (j + 1)
/-- The number of a value in the second part. -/
def later (I k : Nat) (L : List Int) (u : Int) : Int := if u < ((I + k : Nat) : Int) then idx L u 0 else (L.length : Int) + u - (I : Int) - (k : Int)
def lt_ (I k : Nat) (L : List Int) (y : SStep) : SStep := ⟨mn (later I k L y.f0) (later I k L y.f1), mx (later I k L y.f0) (later I k L y.f1)⟩
/-- A value that the second part may use. -/
def Kn (I k : Nat) (L : List Int) (n : Nat) (u : Int) : Prop := (u < ((I + k : Nat) : Int) ∧ u ∈ L) ∨ (((I + k : Nat) : Int) ≤ u ∧ u < ((n : Nat) : Int))
/-! the program's places -/
/-! the second part's values -/
/-! ### which values are used -/
/-- What is used, of the steps that make the values from n on. -/
def us (n : Nat) : List SStep → List Int → Int → Bool
  | [], o, v => decide (v ∈ o)
  | y :: ys, o, v => us (n + 1) ys o v || (us (n + 1) ys o (n : Int) && (decide (v = y.f0) || decide (v = y.f1)))
/-! ### the used steps alone -/
/-- The places of all values, and the steps that stay. -/
def tr (U : Int → Bool) (i : Int) : Nat → List SStep → List Int → List SStep → List Int × List SStep
  | _, [], p, q => (p, q)
  | n, y :: ys, p, q => tr U i (n + 1) ys (p ++ [i + (q.length : Int)]) (if U (n : Int) = true then q ++ [⟨mn (rg (p ++ [i + (q.length : Int)]) y.f0) (rg (p ++ [i + (q.length : Int)]) y.f1), mx (rg (p ++ [i + (q.length : Int)]) y.f0) (rg (p ++ [i + (q.length : Int)]) y.f1)⟩] else q)
/-- What is used or comes in. -/
def Lv (I : Nat) (U : Int → Bool) (v : Int) : Prop := v < (I : Int) ∨ U v = true
/-- The place of a value is I and how many used ones lie before it. -/
def pl (I : Nat) (U : Int → Bool) (v : Int) : Int := if v < (I : Int) then v else (I : Int) + ((vals (v - (I : Int)).toNat fun j => U ((I : Int) + j)).length : Int)
structure Tr (I : Nat) (U : Int → Bool) (s : List SStep) (p : List Int) (q : List SStep) : Prop where
  pn : p.length = I + s.length
  qn : q.length = (vals s.length fun j => U ((I : Int) + j)).length
  pv : ∀ v : Int, 0 ≤ v → v < ((I + s.length : Nat) : Int) → rg p v = pl I U v
/-- The steps that stay. -/
def ts (I : Nat) (U : Int → Bool) (s : List SStep) : List SStep := (tr U (I : Int) I s ((List.range I).map fun (j : Nat) => (j : Int)) []).2
def tp (I : Nat) (U : Int → Bool) (s : List SStep) : List Int := (tr U (I : Int) I s ((List.range I).map fun (j : Nat) => (j : Int)) []).1
/-- What a rule for what stays must keep. -/
def Cl (I : Nat) (U : Int → Bool) (s : List SStep) : Prop := ∀ (j : Nat) (y : SStep), s[j]? = some y → U ((I + j : Nat) : Int) = true → Lv I U y.f0 ∧ Lv I U y.f1
/-! ### values that are shared -/
def shs (fi : Int → Int) (y : SStep) : SStep := ⟨mn (fi y.f0) (fi y.f1), mx (fi y.f0) (fi y.f1)⟩
/-! ### another plan's steps behind -/
def sf (I d : Nat) (v : Int) : Int := if v < (I : Int) then v else v + (d : Int)
def sfs (I d : Nat) (y : SStep) : SStep := ⟨sf I d y.f0, sf I d y.f1⟩
end Go.Proofs.Ytobaolbilllfgaa.Pure
