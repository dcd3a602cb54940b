/- Pure: Psame, Ppw, Porder. -/
import Derived.Test.YtobaolbilllfgaaKFnRunsOfPermutationsPra
import Derived.Test.YtobaolbilllfgaaKFnRunsOfPermutationsPrb
set_option linter.unusedVariables false
set_option linter.unusedSimpArgs false
namespace Go.Proofs.Ytobaolbilllfgaa.Pure
open Go.RowKit Go.Proofs.Ytobaolbilllfgaa.E Go.Proofs.Ytobaolbilllfgaa.RP Go.Proofs.Ytobaolbilllfgaa.Frame Go.Proofs.YtobaolbilllfgaaW.PrintLast Go.Proofs.YtobaolbilllfgaaW.PrintMore
open Go.Proofs.YtobaolbilllfgaaW.PrintWords hiding mn mx
theorem drop_eq_cons {α : Type} {l : List α} {j : Nat} {y : α} {ys : List α} (hj : j < l.length) : (y :: ys = l.drop j) ↔ y = l[j] ∧ ys = l.drop (j + 1) := by
  rw [List.drop_eq_getElem_cons hj, List.cons.injEq]
theorem same_l0 (l m : List Int) (j : Nat) (h : j + l.length = m.length) : spec_l1Same.l0 m l (j : Int) = some (if l = m.drop j then .inr () else .inl false) := by
  induction l generalizing j with
  | nil =>
    rw [List.drop_eq_nil_of_le (by simp at h; omega)]
    rfl
  | cons y ys ih =>
    simp only [List.length_cons] at h
    have hj : j < m.length := by omega
    simp only [spec_l1Same.l0]
    rw [gt_nat hj, Option.bind_some]
    by_cases c : y = m[j]
    · rw [if_neg (by simpa using c), show (j : Int) + 1 = ((j + 1 : Nat) : Int) by omega, ih (j + 1) (by omega)]
      by_cases d : ys = m.drop (j + 1)
      · rw [if_pos d, if_pos ((drop_eq_cons hj).2 ⟨c, d⟩)]
      · rw [if_neg d, if_neg (fun q => d ((drop_eq_cons hj).1 q).2)]
    · rw [if_pos c, if_neg (fun q => c ((drop_eq_cons hj).1 q).1)]
theorem l1Same_eq (l m : List Int) : spec_l1Same.f l m = some (decide (l = m)) := by
  unfold spec_l1Same.f
  by_cases h : l.length = m.length
  · rw [if_neg (by omega)]
    have := same_l0 l m 0 (by omega)
    rw [List.drop_zero, show ((0 : Nat) : Int) = 0 from rfl] at this
    rw [this]
    by_cases c : l = m
    · simp [c]
    · simp [c]
  · rw [if_pos (by omega)]
    have : ¬ l = m := fun e => h (by rw [e])
    simp [this]
/-- The powers of the outputs. -/
def pw (I : Nat) (s : List SStep) (o : List Int) : List (List Int) := o.map fun v => (exps I s).getD v.toNat []
theorem impl_pw_l0 {n : Nat} (hn : n ≤ 1000) (rs : List (List Int)) (hr : ∀ r ∈ rs, RowOk n r) (ys : List Int) (a : List (List Int)) (j : Int) (h : ∀ y ∈ ys, 0 ≤ y ∧ y < (rs.length : Int)) (hb : a.length + ys.length ≤ 1000) : impl_Plan_outputExponents.l0 rs ys a j = some (a ++ ys.map fun v => rs.getD v.toNat []) := by
  induction ys generalizing a j with
  | nil => simp [impl_Plan_outputExponents.l0]
  | cons y ys ih =>
    simp only [List.length_cons] at hb
    have q := h y List.mem_cons_self
    obtain ⟨g, ok⟩ := getD_ok hr q.1 q.2
    simp only [impl_Plan_outputExponents.l0, slices_Clone_int_int.f]
    rw [g, Option.bind_some, ap_ok (by rw [List.length_nil, ok.1]; omega), Option.bind_some, Option.bind_some, List.nil_append, ap_ok (by simp; omega), Option.bind_some, ih _ _ (fun z hz => h z (List.mem_cons_of_mem _ hz)) (by rw [List.length_append, List.length_singleton]; omega)]
    simp
theorem impl_pw {I : Nat} {s : List SStep} {o : List Int} (h : Form I s o) : impl_Plan_outputExponents.f (I : Int) s o = some (pw I s o) := by
  have h1 := h.inp
  have h2 := h.stp
  have h3 := h.out
  obtain ⟨_, e, hr, hl⟩ := exps_ev I (by omega) s o (by omega) h.fs
  unfold impl_Plan_outputExponents.f
  rw [e, Option.bind_some, impl_pw_l0 (n := I) (by omega) (exps I s) hr o [] 0 (fun y hy => by have := h.os y hy; rw [hl]; omega) (by simp; omega)]
  simp [pw]
/-- Are the powers of two plans the same? -/
def sameB (I : Nat) (s : List SStep) (o : List Int) (I' : Nat) (s' : List SStep) (o' : List Int) : Bool := decide (I = I') && decide (pw I s o = pw I' s' o')
/-- The exponents of a value. -/
theorem good_row {I : Nat} {s : List SStep} {o : List Int} (h : Good I s o) {v : Int} (h0 : 0 ≤ v) (h1 : v < ((I + s.length : Nat) : Int)) : ((exps I s).getD v.toNat []).length = I ∧ ∀ j : Nat, j < I → rg ((exps I s).getD v.toNat []) (j : Int) = rg (vl s (unitR I j)) v := by
  obtain ⟨e1, e2⟩ := exps_len h.inp h.stp h.ok
  have hv : v.toNat < (exps I s).length := by omega
  constructor
  · rw [List.getD_eq_getElem?_getD, List.getElem?_eq_getElem hv]
    exact (e2 _ (List.getElem_mem hv)).1
  · intro j hj
    rw [exps_col h.ok hj v.toNat (by omega), show ((v.toNat : Nat) : Int) = v by omega]
    unfold capI
    rw [if_pos (by have := h.le j hj v h0 h1; omega)]
theorem pw_len (I : Nat) (s : List SStep) (o : List Int) : (pw I s o).length = o.length := by simp [pw]
theorem outEx_ev {I : Nat} {s : List SStep} {o : List Int} (h : Good I s o) : Ev (fun k => impl_OutputExponents.f k (I : Int) s o) (pw I s o, true) := by
  have e1 := isPlan_ev (I : Int) s o
  rw [good_iff.2 h] at e1
  unfold impl_OutputExponents.f
  exact bind e1 (pos rfl (bind0 (impl_pw h.form) (ret _)))
/-! another plan's steps behind -/
/-- Each of the first n numbers, once. -/
def IsO (n : Nat) (l : List Int) : Prop := l.length = n ∧ (∀ x ∈ l, 0 ≤ x ∧ x < (n : Int)) ∧ l.Nodup
instance (n : Nat) (l : List Int) : Decidable (IsO n l) := by unfold IsO; infer_instance
theorem iota_lt (n : Nat) : (iota n).Pairwise (· < ·) := by
  unfold iota
  rw [List.pairwise_map]
  exact List.Pairwise.imp (fun h => by omega) List.pairwise_lt_range
theorem iota_length (n : Nat) : (iota n).length = n := by simp [iota]
theorem rise_eq (L : List Int) (a : Int) (h : L.Pairwise (· < ·)) (hb : ∀ x ∈ L, a ≤ x ∧ x < a + (L.length : Int)) (M : List Int) (hM : M.Pairwise (· < ·)) (hl : L.length = M.length) (hb' : ∀ x ∈ M, a ≤ x ∧ x < a + (M.length : Int)) : L = M := by
  induction L generalizing a M with
  | nil => exact (List.length_eq_zero_iff.1 hl.symm).symm
  | cons x xs ih =>
    cases M with
    | nil => simp at hl
    | cons y ys =>
      obtain ⟨h1, h2⟩ := List.pairwise_cons.1 h
      obtain ⟨m1, m2⟩ := List.pairwise_cons.1 hM
      simp only [List.length_cons] at hl hb hb'
      have hx := hb x List.mem_cons_self
      have hy := hb' y List.mem_cons_self
      have e : xs = ys := by
        refine ih (a + 1) h2 (fun z hz => ?_) ys m2 (by omega) (fun z hz => ?_)
        · have := h1 z hz
          have := hb z (List.mem_cons_of_mem _ hz)
          omega
        · have := m1 z hz
          have := hb' z (List.mem_cons_of_mem _ hz)
          omega
      subst e
      congr 1
      cases xs with
      | nil => simp at hx hy; omega
      | cons z zs =>
        have hz : z = a + 1 := by
          -- the head of what rises through all of its room
          have key : ∀ (L : List Int) (b : Int), L.Pairwise (· < ·) → (∀ x ∈ L, b ≤ x ∧ x < b + (L.length : Int)) → ∀ w ws, L = w :: ws → w = b := by
            intro L
            induction L with
            | nil => intro b _ _ w ws e; cases e
            | cons p ps ih2 =>
              intro b hp hbb w ws e
              injection e with e1 e2
              subst e1 e2
              obtain ⟨p1, p2⟩ := List.pairwise_cons.1 hp
              simp only [List.length_cons] at hbb
              have hpb := hbb p List.mem_cons_self
              cases ps with
              | nil => simp at hpb; omega
              | cons q qs =>
                have := ih2 (b + 1) p2 (fun x hx => by
                  have := p1 x hx
                  have := hbb x (List.mem_cons_of_mem _ hx)
                  omega) q qs rfl
                have := p1 q List.mem_cons_self
                omega
          exact key (z :: zs) (a + 1) h2 (fun x hx => by
            have := h1 x hx
            have := hb x (List.mem_cons_of_mem _ hx)
            simp only [List.length_cons] at this ⊢
            omega) z zs rfl
        have := h1 z List.mem_cons_self
        have := m1 z List.mem_cons_self
        omega
theorem sorted_iff (n : Nat) (l : List Int) : (l.mergeSort fun x y => decide (x ≤ y)) = iota n ↔ IsO n l := by
  have hp := List.mergeSort_perm l (fun x y : Int => decide (x ≤ y))
  have hs := List.pairwise_mergeSort (le := fun x y : Int => decide (x ≤ y)) (fun a b c h1 h2 => by simp at *; omega) (fun a b => by simp; omega) l
  constructor
  · intro e
    rw [e] at hp
    refine ⟨by rw [← hp.length_eq, iota_length], fun x hx => iota_mem.1 (hp.mem_iff.2 hx), hp.nodup_iff.1 ?_⟩
    exact (iota_lt n).imp fun h => by omega
  · rintro ⟨h1, h2, h3⟩
    have hnd := hp.nodup_iff.2 h3
    generalize l.mergeSort (fun x y => decide (x ≤ y)) = L at hp hs hnd
    have hlen : L.length = n := by rw [hp.length_eq, h1]
    have hlt : L.Pairwise (· < ·) := by
      have := List.Pairwise.and hs hnd
      exact this.imp fun h => by
        have := of_decide_eq_true h.1
        have := h.2
        omega
    refine rise_eq L 0 hlt (fun x hx => ?_) (iota n) (iota_lt n) (by rw [hlen, iota_length]) (fun x hx => ?_)
    · have := h2 x (hp.mem_iff.1 hx)
      omega
    · have := iota_mem.1 hx
      rw [iota_length]
      omega
theorem eqInts_l0 (l m : List Int) (j : Nat) (h : j + l.length = m.length) : slices_Equal_int_int.l0 m l (j : Int) = some (if l = m.drop j then Sum.inr () else Sum.inl false) := by
  induction l generalizing j with
  | nil =>
    rw [List.drop_eq_nil_of_le (by simp at h; omega)]
    rfl
  | cons y ys ih =>
    simp only [List.length_cons] at h
    have hj : j < m.length := by omega
    simp only [slices_Equal_int_int.l0]
    rw [gt_nat hj, Option.bind_some, List.drop_eq_getElem_cons hj]
    by_cases c : y = m[j]
    · rw [if_neg (by simp [c]), show (j : Int) + 1 = ((j + 1 : Nat) : Int) by omega, ih (j + 1) (by omega)]
      by_cases d : ys = m.drop (j + 1)
      · rw [if_pos d, if_pos (by rw [c, d])]
      · rw [if_neg d, if_neg (fun e => d (List.cons.inj e).2)]
    · rw [if_pos c, if_neg (fun e => c (List.cons.inj e).1)]
theorem eqInts_eq (l m : List Int) : slices_Equal_int_int.f l m = some (decide (l = m)) := by
  unfold slices_Equal_int_int.f
  by_cases h : l.length = m.length
  · rw [if_neg (by omega)]
    have := eqInts_l0 l m 0 (by omega)
    rw [List.drop_zero, show ((0 : Nat) : Int) = 0 from rfl] at this
    rw [this]
    by_cases c : l = m
    · simp [c]
    · simp [c]
  · rw [if_pos (by omega)]
    have : ¬ l = m := fun e => h (by rw [e])
    simp [this]
theorem isOrder_eq (l : List Int) (n : Nat) (hn : n ≤ 1000) (hl : l.length ≤ 100000000) : impl_isOrder.f l (n : Int) = some (decide (IsO n l)) := by
  unfold impl_isOrder.f
  rw [if_pos hl, firsts_eq n hn, Option.bind_some, eqInts_eq, Option.bind_some]
  congr 1
  exact decide_eq_decide.2 (sorted_iff n l)
end Go.Proofs.Ytobaolbilllfgaa.Pure
