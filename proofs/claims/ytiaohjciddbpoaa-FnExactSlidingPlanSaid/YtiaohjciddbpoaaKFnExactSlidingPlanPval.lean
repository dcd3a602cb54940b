/- Pure: a plan's values, told by what its inputs are; exponents as values of unit inputs. -/
import Derived.Test.YtiaohjciddbpoaaKFnExactSlidingPlanPreg2
set_option linter.unusedVariables false
set_option linter.unusedSimpArgs false
namespace Go.Proofs.Ytiaohjciddbpoaa.Pure
open Go.RowKit Go.Proofs.Ytiaohjciddbpoaa.E Go.Proofs.Ytiaohjciddbpoaa.H2 Go.Proofs.Ytiaohjciddbpoaa.Frame Go.Proofs.YtiaohjciddbpoaaW.PrintLast Go.Proofs.YtiaohjciddbpoaaW.PrintMore
open Go.Proofs.YtiaohjciddbpoaaW.PrintWords hiding mn mx
theorem rg_app {l m : List Int} {v : Int} (h0 : 0 ≤ v) (h1 : v < (l.length : Int)) : rg (l ++ m) v = rg l v := by
  unfold rg
  rw [List.getD_eq_getElem?_getD, List.getD_eq_getElem?_getD, List.getElem?_append_left (by omega)]
theorem rg_new {l : List Int} {x v : Int} (h : v = (l.length : Int)) : rg (l ++ [x]) v = x := by
  subst h
  unfold rg
  rw [Int.toNat_natCast, List.getD_eq_getElem?_getD, List.getElem?_append_right (Nat.le_refl _), Nat.sub_self]
  rfl
theorem rg_nat {l : List Int} {j : Nat} (h : j < l.length) : rg l (j : Int) = l[j] := by
  unfold rg
  rw [Int.toNat_natCast, List.getD_eq_getElem?_getD, List.getElem?_eq_getElem h]
  rfl
theorem rg_memL {l : List Int} {v : Int} (h0 : 0 ≤ v) (h1 : v < (l.length : Int)) : rg l v ∈ l := by
  obtain ⟨j, rfl⟩ := Int.eq_ofNat_of_zero_le h0
  rw [rg_nat (show j < l.length by omega)]
  exact List.getElem_mem _
theorem rg_le0 {l : List Int} (h : ∀ x ∈ l, 0 ≤ x) (v : Int) : 0 ≤ rg l v := by
  unfold rg
  rw [List.getD_eq_getElem?_getD]
  cases c : l[v.toNat]? with
  | none => exact Int.le_refl 0
  | some x => exact h x (List.mem_of_getElem? c)
/-- All values from those of the inputs, not bounded. -/
def vl : List SStep → List Int → List Int
  | [], l => l
  | y :: ys, l => vl ys (l ++ [rg l y.f0 + rg l y.f1])
/-- Steps that may follow n values. -/
def Ok (n : Nat) : List SStep → Prop
  | [] => True
  | y :: ys => (0 ≤ y.f0 ∧ y.f0 ≤ y.f1 ∧ y.f1 < (n : Int)) ∧ Ok (n + 1) ys
theorem Ok.append {n : Nat} {s t : List SStep} : Ok n (s ++ t) ↔ Ok n s ∧ Ok (n + s.length) t := by
  induction s generalizing n with
  | nil => simp [Ok]
  | cons y ys ih =>
    simp only [List.cons_append, Ok, ih, List.length_cons]
    rw [show n + 1 + ys.length = n + (ys.length + 1) by omega]
    exact and_assoc.symm
theorem Ok.at {n : Nat} {s : List SStep} (h : Ok n s) {m : Nat} {y : SStep} (hm : s[m]? = some y) : 0 ≤ y.f0 ∧ y.f0 ≤ y.f1 ∧ y.f1 < ((n + m : Nat) : Int) := by
  induction s generalizing n m with
  | nil => simp at hm
  | cons z s ih =>
    cases m with
    | zero =>
      obtain rfl : z = y := by simpa using hm
      exact h.1
    | succ m =>
      have := ih h.2 (m := m) (by simpa using hm)
      rw [show n + (m + 1) = n + 1 + m by omega]
      exact this
theorem ok_fB {I : Nat} (s : List SStep) (j : Nat) (hb : I + j + s.length ≤ 100000) : fB (I : Int) s (j : Int) = true ↔ Ok (I + j) s := by
  induction s generalizing j with
  | nil => simp [fB, Ok]
  | cons y ys ih =>
    simp only [List.length_cons] at hb
    simp only [fB, Ok, Bool.and_eq_true, decide_eq_true_eq]
    rw [zat (by omega), show (j : Int) + 1 = ((j + 1 : Nat) : Int) by omega, ih (j + 1) (by omega)]
    rw [show I + (j + 1) = I + j + 1 by omega, show ((I + j : Nat) : Int) = (I : Int) + (j : Int) by omega]
theorem vl_ge {s : List SStep} {l : List Int} (h : ∀ x ∈ l, 0 ≤ x) : ∀ x ∈ vl s l, 0 ≤ x := by
  induction s generalizing l with
  | nil => exact h
  | cons y ys ih =>
    refine ih fun x hx => ?_
    rcases List.mem_append.1 hx with hx | hx
    · exact h x hx
    · rw [List.mem_singleton.1 hx]
      have := rg_le0 h y.f0
      have := rg_le0 h y.f1
      omega
/-! exponents -/
theorem unitR_len (n j : Nat) : (unitR n j).length = n := by simp [unitR]
theorem unitR_rg {n j : Nat} (hj : j < n) {v : Int} (h0 : 0 ≤ v) (h1 : v < (n : Int)) : rg (unitR n j) v = if v = (j : Int) then 1 else 0 := by
  obtain ⟨u, rfl⟩ := Int.eq_ofNat_of_zero_le h0
  rw [rg_nat (by rw [unitR_len]; omega)]
  unfold unitR
  rw [List.getElem_set]
  by_cases c : j = u
  · rw [if_pos c, if_pos (by omega)]
  · rw [if_neg c, if_neg (by omega)]
    simp
theorem unitR_ge (n j : Nat) : ∀ x ∈ unitR n j, 0 ≤ x := fun x hx => ((unitR_ok n j).2 x hx).1
def capI (x : Int) : Int := if x ≤ 1000001 then x else 1000001
theorem cap_add {a b : Int} (ha : 0 ≤ a) (hb : 0 ≤ b) : addC (capI a) (capI b) = capI (a + b) := by
  unfold addC capI
  split <;> split <;> split <;> omega
theorem exGo_col {n j : Nat} (hj : j < n) (s : List SStep) (rs : List (List Int)) (l : List Int) (hrs : ∀ r ∈ rs, RowOk n r) (hl : l.length = rs.length) (hs : Ok l.length s) (h0 : ∀ x ∈ l, 0 ≤ x) (h : ∀ v : Nat, v < rs.length → rg (rs.getD v []) (j : Int) = capI (rg l (v : Int))) : ∀ v : Nat, v < rs.length + s.length → rg ((exGo rs s).getD v []) (j : Int) = capI (rg (vl s l) (v : Int)) := by
  induction s generalizing rs l with
  | nil => exact fun v hv => h v (by simpa using hv)
  | cons y ys ih =>
    have h1 := hs.1
    obtain ⟨g0, o0⟩ := getD_ok hrs h1.1 (by omega)
    obtain ⟨g1, o1⟩ := getD_ok hrs (show 0 ≤ y.f1 by omega) (by omega)
    have hso := sumC_ok o0 o1
    intro v hv
    simp only [List.length_cons] at hv
    refine ih (rs ++ [_]) (l ++ [_]) (fun r hr => ?_) (by rw [List.length_append, List.length_append, hl]; rfl) (by rw [List.length_append, List.length_singleton]; exact hs.2) ?_ ?_ v (by rw [List.length_append, List.length_singleton]; omega)
    · rcases List.mem_append.1 hr with hr | hr
      · exact hrs r hr
      · rw [List.mem_singleton.1 hr]
        exact hso
    · intro x hx
      rcases List.mem_append.1 hx with hx | hx
      · exact h0 x hx
      · rw [List.mem_singleton.1 hx]
        have := rg_le0 h0 y.f0
        have := rg_le0 h0 y.f1
        omega
    · intro u hu
      rw [List.length_append, List.length_singleton] at hu
      by_cases c : u < rs.length
      · rw [rg_app (by omega) (by omega), List.getD_eq_getElem?_getD, List.getElem?_append_left c, ← List.getD_eq_getElem?_getD]
        exact h u c
      · obtain rfl : u = rs.length := by omega
        rw [rg_new (by omega), List.getD_eq_getElem?_getD, List.getElem?_append_right (Nat.le_refl _), Nat.sub_self]
        simp only [List.getElem?_cons_zero, Option.getD_some]
        have e0 := h y.f0.toNat (by omega)
        have e1 := h y.f1.toNat (by omega)
        rw [show ((y.f0.toNat : Nat) : Int) = y.f0 by omega] at e0
        rw [show ((y.f1.toNat : Nat) : Int) = y.f1 by omega] at e1
        rw [← cap_add (rg_le0 h0 _) (rg_le0 h0 _), ← e0, ← e1]
        have q0 : j < (rs.getD y.f0.toNat []).length := by rw [o0.1]; exact hj
        have q1 : j < (rs.getD y.f1.toNat []).length := by rw [o1.1]; exact hj
        have q2 : j < (sumC (rs.getD y.f0.toNat []) (rs.getD y.f1.toNat [])).length := by rw [hso.1]; exact hj
        rw [rg_nat q2, rg_nat q0, rg_nat q1]
        simp [sumC]
theorem exps_col {I : Nat} {s : List SStep} (hs : Ok I s) {j : Nat} (hj : j < I) (v : Nat) (hv : v < I + s.length) : rg ((exps I s).getD v []) (j : Int) = capI (rg (vl s (unitR I j)) (v : Int)) := by
  have hl : (units I I).length = I := by simp [units]
  refine exGo_col hj s (units I I) (unitR I j) (units_ok I I) (by rw [unitR_len, hl]) (by rw [unitR_len]; exact hs) (unitR_ge I j) ?_ v (by rw [hl]; exact hv)
  intro u hu
  rw [hl] at hu
  have e : (units I I).getD u [] = unitR I u := by
    rw [List.getD_eq_getElem?_getD, List.getElem?_eq_getElem (by rw [hl]; exact hu)]
    simp [units]
  rw [e, unitR_rg hu (by omega) (by omega), unitR_rg hj (by omega) (by omega)]
  by_cases c : j = u
  · subst c
    rw [if_pos rfl]
    rfl
  · rw [if_neg (by omega), if_neg (by omega)]
    rfl
/-- What a plan is. -/
structure Good (I : Nat) (s : List SStep) (o : List Int) : Prop where
  inp : 1 ≤ I ∧ I ≤ 6
  stp : s.length ≤ 40
  out : o.length ≤ 6
  ok : Ok I s
  os : ∀ y ∈ o, 0 ≤ y ∧ y < ((I + s.length : Nat) : Int)
  le : ∀ j : Nat, j < I → ∀ v : Int, 0 ≤ v → v < ((I + s.length : Nat) : Int) → rg (vl s (unitR I j)) v ≤ 1000000
theorem exps_len {I : Nat} {s : List SStep} (hI : 1 ≤ I ∧ I ≤ 6) (hs : s.length ≤ 40) (h : Ok I s) : (exps I s).length = I + s.length ∧ ∀ r ∈ exps I s, RowOk I r := by
  obtain ⟨_, _, a3, a4⟩ := exps_ev I (by omega) s [] (by omega) (by have := (ok_fB (I := I) s 0 (by omega)).2 (by simpa using h); exact this)
  exact ⟨a4, a3⟩
theorem good_iff {I : Nat} {s : List SStep} {o : List Int} : good (I : Int) s o = true ↔ Good I s o := by
  unfold good
  simp only [Bool.and_eq_true, decide_eq_true_eq, Int.toNat_natCast]
  constructor
  · rintro ⟨h1, h2, h3, h4, h5, h6⟩
    have hI : 1 ≤ I ∧ I ≤ 6 := by omega
    have hok : Ok I s := by have := (ok_fB (I := I) s 0 (by omega)).1 h4; simpa using this
    obtain ⟨e1, e2⟩ := exps_len hI h2 hok
    refine ⟨hI, h2, h3, hok, ?_, ?_⟩
    · intro y hy
      have := List.all_eq_true.1 h6 y hy
      rw [zat (x := (I : Int) + (s.length : Int)) (by omega), zat (by omega)] at this
      simp only [decide_eq_true_eq] at this
      omega
    · intro j hj v v0 v1
      obtain ⟨u, rfl⟩ := Int.eq_ofNat_of_zero_le v0
      have hc := exps_col hok hj u (by omega)
      have hu : u < (exps I s).length := by omega
      have hr := List.all_eq_true.1 h5 ((exps I s).getD u []) (by rw [List.getD_eq_getElem?_getD, List.getElem?_eq_getElem hu]; exact List.getElem_mem _)
      have hrow := e2 ((exps I s).getD u []) (by rw [List.getD_eq_getElem?_getD, List.getElem?_eq_getElem hu]; exact List.getElem_mem _)
      have := List.all_eq_true.1 hr _ (rg_memL (l := (exps I s).getD u []) (v := (j : Int)) (by omega) (by rw [hrow.1]; omega))
      simp only [decide_eq_true_eq] at this
      rw [hc] at this
      unfold capI at this
      split at this <;> omega
  · rintro ⟨hI, h2, h3, hok, h6, h5⟩
    obtain ⟨e1, e2⟩ := exps_len hI h2 hok
    refine ⟨by omega, h2, h3, ?_, ?_, ?_⟩
    · have := (ok_fB (I := I) s 0 (by omega)).2 (by simpa using hok)
      exact this
    · refine List.all_eq_true.2 fun r hr => ?_
      have hrow := e2 r hr
      obtain ⟨u, hu, rfl⟩ := List.getElem_of_mem hr
      refine List.all_eq_true.2 fun x hx => ?_
      obtain ⟨j, hj, rfl⟩ := List.getElem_of_mem hx
      have hj' : j < I := by rw [← hrow.1]; exact hj
      have hc := exps_col hok hj' u (by omega)
      rw [List.getD_eq_getElem?_getD, List.getElem?_eq_getElem hu, Option.getD_some, rg_nat hj] at hc
      have := h5 j hj' (u : Int) (by omega) (by omega)
      have h0 := rg_le0 (vl_ge (s := s) (unitR_ge I j)) (u : Int)
      rw [hc]
      unfold capI
      simp only [decide_eq_true_eq]
      split <;> omega
    · refine List.all_eq_true.2 fun y hy => ?_
      have := h6 y hy
      rw [zat (x := (I : Int) + (s.length : Int)) (by omega), zat (by omega)]
      simp only [decide_eq_true_eq]
      omega
theorem Good.form {I : Nat} {s : List SStep} {o : List Int} (h : Good I s o) : Form I s o := by
  obtain ⟨J, e, hf⟩ := good_form (good_iff.2 h)
  obtain rfl : I = J := by omega
  exact hf
end Go.Proofs.Ytiaohjciddbpoaa.Pure
