/- Pure: plans turned round, on both sides. -/
import Derived.Test.YtoegbcbdiggbjaaKFnFoldsAndCollapsesPreg2
set_option linter.unusedVariables false
set_option linter.unusedSimpArgs false
namespace Go.Proofs.Ytoegbcbdiggbjaa.Pure
open Go.RowKit Go.Proofs.Ytoegbcbdiggbjaa.E Go.Proofs.Ytoegbcbdiggbjaa.FC Go.Proofs.Ytoegbcbdiggbjaa.Frame Go.Proofs.YtoegbcbdiggbjaaW.PrintLast Go.Proofs.YtoegbcbdiggbjaaW.PrintMore
open Go.Proofs.YtoegbcbdiggbjaaW.PrintWords hiding mn mx
/-- A value multiplied by another one. -/
def tm (J : Int) (z : List SStep × Int) (f : Int) : List SStep × Int := (z.1 ++ [⟨mn z.2 f, mx z.2 f⟩], J + (z.1.length : Int))
def tmI (J : Int) (z : List SStep × Int) (f : Int) : List SStep × Int := if z.2 < 0 then (z.1, f) else tm J z f
theorem fold_tm (J : Int) (hJ : 0 ≤ J) (fs : List Int) (z : List SStep × Int) (h : 0 ≤ z.2) : fs.foldl (tmI J) z = fs.foldl (tm J) z ∧ 0 ≤ (fs.foldl (tm J) z).2 ∧ (fs.foldl (tm J) z).1.length = z.1.length + fs.length := by
  induction fs generalizing z with
  | nil => exact ⟨rfl, h, rfl⟩
  | cons f fs ih =>
    have e : tmI J z f = tm J z f := by
      unfold tmI
      rw [if_neg (by omega)]
    have := ih (tm J z f) (by show 0 ≤ J + (z.1.length : Int); omega)
    rw [List.foldl_cons, List.foldl_cons, e]
    refine ⟨this.1, this.2.1, ?_⟩
    rw [this.2.2, List.length_cons]
    show (z.1 ++ _).length + _ = _
    rw [List.length_append, List.length_singleton]
    omega
theorem fold_len (J : Int) (fs : List Int) (z : List SStep × Int) : (fs.foldl (tmI J) z).1.length ≤ z.1.length + fs.length := by
  induction fs generalizing z with
  | nil => exact Nat.le_refl _
  | cons f fs ih =>
    rw [List.foldl_cons, List.length_cons]
    refine Nat.le_trans (ih _) ?_
    unfold tmI tm
    split
    · show z.1.length + _ ≤ _
      omega
    · show (z.1 ++ _).length + _ ≤ _
      rw [List.length_append, List.length_singleton]
      omega
theorem times_eq (J : Int) (hJ : 0 ≤ J ∧ J ≤ 100) (st : List SStep) (hst : st.length ≤ 1000000) (a b : Int) : impl_maker_times.f J st [] a b = some ((tmI J (st, a) b).2, (tmI J (st, a) b).1) := by
  unfold impl_maker_times.f tmI
  by_cases c : a < 0
  · rw [if_pos c, if_pos c]
  · rw [if_neg c, if_neg c]
    unfold impl_maker_multiply.f impl_step.f impl_Plan_many_2.f
    rw [Option.bind_some, ap_ok (by simp; omega)]
    simp only [Option.bind_some, tm]
    rw [List.length_append, List.length_singleton, zb1 (x := J + ((st.length + 1 : Nat) : Int)) (by omega), zb1 (by omega)]
    congr 2
    omega
def fo (v : Int) : List Int → Int → List Int
  | [], _ => []
  | y :: ys, j => (if y = v then [j] else []) ++ fo v ys (j + 1)
def f3 (v x : Int) : List Int → List Int
  | [] => []
  | y :: ys => (if y = v then [x] else []) ++ f3 v x ys
def fst_ (I v : Int) (bl : List Int) : List SStep → Int → List Int
  | [], _ => []
  | y :: ys, j => f3 v (rg bl (I + j)) [y.f0, y.f1] ++ fst_ I v bl ys (j + 1)
theorem fo_len (v : Int) (ys : List Int) (j : Int) : (fo v ys j).length ≤ ys.length := by
  induction ys generalizing j with
  | nil => exact Nat.le_refl _
  | cons y ys ih =>
    simp only [fo, List.length_append, List.length_cons]
    have := ih (j + 1)
    split <;> simp <;> omega
theorem f3_len (v x : Int) (ys : List Int) : (f3 v x ys).length ≤ ys.length := by
  induction ys with
  | nil => exact Nat.le_refl _
  | cons y ys ih =>
    simp only [f3, List.length_append, List.length_cons]
    split <;> simp <;> omega
theorem fs_len (I v : Int) (bl : List Int) (ys : List SStep) (j : Int) : (fst_ I v bl ys j).length ≤ 2 * ys.length := by
  induction ys generalizing j with
  | nil => exact Nat.le_refl _
  | cons y ys ih =>
    simp only [fst_, List.length_append, List.length_cons]
    have := ih (j + 1)
    have := f3_len v (rg bl (I + j)) [y.f0, y.f1]
    simp only [List.length_cons, List.length_nil] at this
    omega
theorem fo_ge (v : Int) (ys : List Int) (j : Int) (hj : 0 ≤ j) : ∀ x ∈ fo v ys j, 0 ≤ x := by
  induction ys generalizing j with
  | nil => exact fun x hx => nomatch hx
  | cons y ys ih =>
    intro x hx
    simp only [fo, List.mem_append] at hx
    rcases hx with hx | hx
    · split at hx
      · rw [List.mem_singleton.1 hx]
        exact hj
      · cases hx
    · exact ih (j + 1) (by omega) x hx
theorem f3_mem (v x : Int) (ys : List Int) : ∀ z ∈ f3 v x ys, z = x := by
  induction ys with
  | nil => exact fun z hz => nomatch hz
  | cons y ys ih =>
    intro z hz
    simp only [f3, List.mem_append] at hz
    rcases hz with hz | hz
    · split at hz
      · exact List.mem_singleton.1 hz
      · cases hz
    · exact ih z hz
theorem rg_ge {bl : List Int} (h : ∀ x ∈ bl, 0 ≤ x) (r : Int) : 0 ≤ rg bl r := by
  unfold rg
  rw [List.getD_eq_getElem?_getD]
  cases c : bl[r.toNat]? with
  | none => exact Int.le_refl 0
  | some x => exact h x (List.mem_of_getElem? c)
theorem fs_ge (I v : Int) (bl : List Int) (h : ∀ x ∈ bl, 0 ≤ x) (ys : List SStep) (j : Int) : ∀ x ∈ fst_ I v bl ys j, 0 ≤ x := by
  induction ys generalizing j with
  | nil => exact fun x hx => nomatch hx
  | cons y ys ih =>
    intro x hx
    simp only [fst_, List.mem_append] at hx
    rcases hx with hx | hx
    · rw [f3_mem _ _ _ x hx]
      exact rg_ge h _
    · exact ih (j + 1) x hx
theorem fo_ne {v : Int} {ys : List Int} (h : v ∈ ys) (j : Int) : fo v ys j ≠ [] := by
  induction ys generalizing j with
  | nil => cases h
  | cons y ys ih =>
    simp only [fo]
    by_cases c : y = v
    · rw [if_pos c]
      simp
    · rw [if_neg c, List.nil_append]
      exact ih ((List.mem_cons.1 h).resolve_left (fun e => c e.symm)) (j + 1)
theorem fs_ne {I v : Int} {bl : List Int} {ys : List SStep} (h : ∃ y ∈ ys, y.f0 = v ∨ y.f1 = v) (j : Int) : fst_ I v bl ys j ≠ [] := by
  induction ys generalizing j with
  | nil => obtain ⟨y, hy, _⟩ := h; cases hy
  | cons z ys ih =>
    simp only [fst_, f3]
    by_cases c0 : z.f0 = v
    · rw [if_pos c0]
      simp
    · by_cases c1 : z.f1 = v
      · rw [if_pos c1]
        simp
      · obtain ⟨y, hy, hv⟩ := h
        rcases List.mem_cons.1 hy with e | hy
        · subst e
          rcases hv with hv | hv
          · exact absurd hv c0
          · exact absurd hv c1
        · rw [if_neg c0, if_neg c1]
          simpa using ih ⟨y, hy, hv⟩ (j + 1)
theorem turned_l1 (o : List Int) (v : Int) (ho : o.length ≤ 100) (ys : List Int) (st : List SStep) (j a : Int) (hb : st.length + ys.length ≤ 1000000) : impl_Plan_turned.l1 o v ys st j a = some (((fo v ys j).foldl (tmI (o.length : Int)) (st, a)).1, ((fo v ys j).foldl (tmI (o.length : Int)) (st, a)).2) := by
  induction ys generalizing st j a with
  | nil => rfl
  | cons y ys ih =>
    simp only [List.length_cons] at hb
    simp only [impl_Plan_turned.l1, fo]
    by_cases c : y = v
    · rw [if_pos c, if_pos c, times_eq _ (by omega) st (by omega), Option.bind_some, List.foldl_append]
      have hl := fold_len (o.length : Int) [j] (st, a)
      simp only [List.length_cons, List.length_nil] at hl
      have h9 : (tmI (o.length : Int) (st, a) j).1.length + ys.length ≤ 1000000 := by
        have : (tmI (o.length : Int) (st, a) j).1.length ≤ st.length + 1 := hl
        omega
      exact ih _ (j + 1) _ h9
    · rw [if_neg c, if_neg c, List.nil_append]
      exact ih st (j + 1) a (by omega)
theorem turned_l3 (I : Int) (o : List Int) (v : Int) (bl : List Int) (ho : o.length ≤ 100) (j : Int) (hj : 0 ≤ I + j ∧ I + j < (bl.length : Int)) (hbl : bl.length ≤ 1000) (ys : List Int) (st : List SStep) (a q : Int) (hb : st.length + ys.length ≤ 1000000) : impl_Plan_turned.l3 I o v bl j ys st a q = some (((f3 v (rg bl (I + j)) ys).foldl (tmI (o.length : Int)) (st, a)).1, ((f3 v (rg bl (I + j)) ys).foldl (tmI (o.length : Int)) (st, a)).2) := by
  induction ys generalizing st a q with
  | nil => rfl
  | cons y ys ih =>
    simp only [List.length_cons] at hb
    simp only [impl_Plan_turned.l3, f3]
    by_cases c : y = v
    · rw [if_pos c, if_pos c, zb1 (by omega), rg_gt hj.1 hj.2, Option.bind_some, times_eq _ (by omega) st (by omega), Option.bind_some, List.foldl_append]
      have hl := fold_len (o.length : Int) [rg bl (I + j)] (st, a)
      simp only [List.length_cons, List.length_nil] at hl
      have h9 : (tmI (o.length : Int) (st, a) (rg bl (I + j))).1.length + ys.length ≤ 1000000 := by
        have : (tmI (o.length : Int) (st, a) (rg bl (I + j))).1.length ≤ st.length + 1 := hl
        omega
      exact ih _ _ (q + 1) h9
    · rw [if_neg c, if_neg c, List.nil_append]
      exact ih st a (q + 1) (by omega)
theorem turned_l2 (I : Nat) (o : List Int) (v : Int) (bl : List Int) (ho : o.length ≤ 100) (hbl : bl.length ≤ 1000) (ys : List SStep) (j : Nat) (hj : I + j + ys.length ≤ bl.length) (st : List SStep) (a : Int) (hb : st.length + 2 * ys.length ≤ 100000) : impl_Plan_turned.l2 (I : Int) o v bl ys st (j : Int) a = some (((fst_ (I : Int) v bl ys (j : Int)).foldl (tmI (o.length : Int)) (st, a)).1, ((fst_ (I : Int) v bl ys (j : Int)).foldl (tmI (o.length : Int)) (st, a)).2) := by
  induction ys generalizing j st a with
  | nil => rfl
  | cons y ys ih =>
    simp only [List.length_cons] at hb hj
    simp only [impl_Plan_turned.l2, fst_]
    rw [turned_l3 (I : Int) o v bl ho (j : Int) (by omega) hbl [y.f0, y.f1] st a 0 (by simp; omega), Option.bind_some, List.foldl_append, show (j : Int) + 1 = ((j + 1 : Nat) : Int) by omega]
    have hl := fold_len (o.length : Int) (f3 v (rg bl ((I : Int) + (j : Int))) [y.f0, y.f1]) (st, a)
    have h3 := f3_len v (rg bl ((I : Int) + (j : Int))) [y.f0, y.f1]
    simp only [List.length_cons, List.length_nil] at h3
    simp only at hl
    have h9 : ((f3 v (rg bl ((I : Int) + (j : Int))) [y.f0, y.f1]).foldl (tmI (o.length : Int)) (st, a)).1.length + 2 * ys.length ≤ 100000 := by omega
    exact ih (j + 1) (by omega) _ _ h9
/-- The turned plan, from value d down. -/
def tn (J : Int) (I : Int) (s : List SStep) (o : List Int) : Nat → List Int → List SStep → List SStep × List Int
  | 0, bl, st => (st, bl)
  | d + 1, bl, st => tn J I s o d (bl.set d ((fo (d : Int) o 0 ++ fst_ I (d : Int) bl s 0).foldl (tmI J) (st, -1)).2) ((fo (d : Int) o 0 ++ fst_ I (d : Int) bl s 0).foldl (tmI J) (st, -1)).1

/-! who may be turned -/
theorem uses_l0 (M : Nat) (ys : List SStep) (l : List Int) (j : Int) (hl : l.length = M) (h : ∀ y ∈ ys, (0 ≤ y.f0 ∧ y.f0 < (M : Int)) ∧ (0 ≤ y.f1 ∧ y.f1 < (M : Int))) : ∃ l', impl_Plan_uses.l0 ys l j = some l' ∧ spec_duUses.l0 ys l j = some l' ∧ l'.length = M ∧ ∀ v : Int, 0 ≤ v → v < (M : Int) → (∀ y ∈ ys, y.f0 ≠ v ∧ y.f1 ≠ v) → rg l' v = rg l v := by
  induction ys generalizing l j with
  | nil => exact ⟨l, rfl, rfl, hl, fun _ _ _ _ => rfl⟩
  | cons y ys ih =>
    have q := h y List.mem_cons_self
    obtain ⟨l1, hl1⟩ : ∃ l1, l.set y.f0.toNat (w64 (rg l y.f0 + 1)) = l1 := ⟨_, rfl⟩
    have hl1l : l1.length = M := by rw [← hl1]; simpa using hl
    obtain ⟨l2, hl2⟩ : ∃ l2, l1.set y.f1.toNat (w64 (rg l1 y.f1 + 1)) = l2 := ⟨_, rfl⟩
    have hl2l : l2.length = M := by rw [← hl2]; simpa using hl1l
    obtain ⟨l', e1, e2, e3, e4⟩ := ih l2 (j + 1) hl2l (fun z hz => h z (List.mem_cons_of_mem _ hz))
    refine ⟨l', ?_, ?_, e3, fun v h0 h1 hv => ?_⟩
    · simp only [impl_Plan_uses.l0]
      rw [rg_gt (l := l) q.1.1 (by omega)]
      simp only [Option.bind_some]
      rw [rg_st (l := l) q.1.1 (by omega), hl1]
      simp only [Option.bind_some]
      rw [rg_gt (l := l1) q.2.1 (by omega)]
      simp only [Option.bind_some]
      rw [rg_st (l := l1) q.2.1 (by omega), hl2]
      exact e1
    · simp only [spec_duUses.l0]
      rw [rg_gt (l := l) q.1.1 (by omega)]
      simp only [Option.bind_some]
      rw [rg_st (l := l) q.1.1 (by omega), hl1]
      simp only [Option.bind_some]
      rw [rg_gt (l := l1) q.2.1 (by omega)]
      simp only [Option.bind_some]
      rw [rg_st (l := l1) q.2.1 (by omega), hl2]
      exact e2
    · have hy := hv y List.mem_cons_self
      rw [e4 v h0 h1 (fun z hz => hv z (List.mem_cons_of_mem _ hz)), ← hl2, rg_set h0 (by omega) q.2.1, if_neg hy.2, ← hl1, rg_set h0 (by omega) q.1.1, if_neg hy.1]
theorem uses_l1 (M : Nat) (ys : List Int) (l : List Int) (j : Int) (hl : l.length = M) (h : ∀ y ∈ ys, 0 ≤ y ∧ y < (M : Int)) : ∃ l', impl_Plan_uses.l1 ys l j = some l' ∧ spec_duUses.l1 ys l j = some l' ∧ l'.length = M ∧ ∀ v : Int, 0 ≤ v → v < (M : Int) → v ∉ ys → rg l' v = rg l v := by
  induction ys generalizing l j with
  | nil => exact ⟨l, rfl, rfl, hl, fun _ _ _ _ => rfl⟩
  | cons y ys ih =>
    have q := h y List.mem_cons_self
    obtain ⟨l1, hl1⟩ : ∃ l1, l.set y.toNat (w64 (rg l y + 1)) = l1 := ⟨_, rfl⟩
    have hl1l : l1.length = M := by rw [← hl1]; simpa using hl
    obtain ⟨l', e1, e2, e3, e4⟩ := ih l1 (j + 1) hl1l (fun z hz => h z (List.mem_cons_of_mem _ hz))
    refine ⟨l', ?_, ?_, e3, fun v h0 h1 hv => ?_⟩
    · simp only [impl_Plan_uses.l1]
      rw [rg_gt (l := l) q.1 (by omega)]
      simp only [Option.bind_some]
      rw [rg_st (l := l) q.1 (by omega), hl1]
      exact e1
    · simp only [spec_duUses.l1]
      rw [rg_gt (l := l) q.1 (by omega)]
      simp only [Option.bind_some]
      rw [rg_st (l := l) q.1 (by omega), hl1]
      exact e2
    · rw [e4 v h0 h1 (fun hm => hv (List.mem_cons_of_mem _ hm)), ← hl1, rg_set h0 (by omega) q.1, if_neg (fun e => hv (by rw [e]; exact List.mem_cons_self))]
/-! marks through a cut row -/
end Go.Proofs.Ytoegbcbdiggbjaa.Pure
