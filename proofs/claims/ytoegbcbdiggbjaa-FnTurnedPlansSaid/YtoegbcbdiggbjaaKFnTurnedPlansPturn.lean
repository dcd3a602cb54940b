/- Pure: plans turned round, on both sides. -/
import Derived.Test.YtoegbcbdiggbjaaKFnTurnedPlansPreg2
set_option linter.unusedVariables false
set_option linter.unusedSimpArgs false
namespace Go.Proofs.Ytoegbcbdiggbjaa.Pure
open Go.RowKit Go.Proofs.Ytoegbcbdiggbjaa.E Go.Proofs.Ytoegbcbdiggbjaa.TU Go.Proofs.Ytoegbcbdiggbjaa.Frame Go.Proofs.YtoegbcbdiggbjaaW.PrintLast Go.Proofs.YtoegbcbdiggbjaaW.PrintMore
open Go.Proofs.YtoegbcbdiggbjaaW.PrintWords hiding mn mx
/-- A value multiplied by another one. -/
def tm (J : Int) (z : List SStep × Int) (f : Int) : List SStep × Int := (z.1 ++ [⟨mn z.2 f, mx z.2 f⟩], J + (z.1.length : Int))
def tmI (J : Int) (z : List SStep × Int) (f : Int) : List SStep × Int := if z.2 < 0 then (z.1, f) else tm J z f
theorem fold_tm (J : Int) (hJ : 0 ≤ J) (fs : List Int) (z : List SStep × Int) (h : 0 ≤ z.2) : fs.foldl (tmI J) z = fs.foldl (tm J) z ∧ 0 ≤ (fs.foldl (tm J) z).2 ∧ (fs.foldl (tm J) z).1.length = z.1.length + fs.length := by
  induction fs generalizing z with
  | nil => exact ⟨rfl, h, rfl⟩
  | cons f fs ih =>
    have e : tmI J z f = tm J z f := by
      unfold tmI
      rw [if_neg (by omega)]
    have := ih (tm J z f) (by show 0 ≤ J + (z.1.length : Int); omega)
    rw [List.foldl_cons, List.foldl_cons, e]
    refine ⟨this.1, this.2.1, ?_⟩
    rw [this.2.2, List.length_cons]
    show (z.1 ++ _).length + _ = _
    rw [List.length_append, List.length_singleton]
    omega
theorem fold_len (J : Int) (fs : List Int) (z : List SStep × Int) : (fs.foldl (tmI J) z).1.length ≤ z.1.length + fs.length := by
  induction fs generalizing z with
  | nil => exact Nat.le_refl _
  | cons f fs ih =>
    rw [List.foldl_cons, List.length_cons]
    refine Nat.le_trans (ih _) ?_
    unfold tmI tm
    split
    · show z.1.length + _ ≤ _
      omega
    · show (z.1 ++ _).length + _ ≤ _
      rw [List.length_append, List.length_singleton]
      omega
theorem times_eq (J : Int) (hJ : 0 ≤ J ∧ J ≤ 100) (st : List SStep) (hst : st.length ≤ 1000000) (a b : Int) : impl_maker_times.f J st [] a b = some ((tmI J (st, a) b).2, (tmI J (st, a) b).1) := by
  unfold impl_maker_times.f tmI
  by_cases c : a < 0
  · rw [if_pos c, if_pos c]
  · rw [if_neg c, if_neg c]
    unfold impl_maker_multiply.f impl_step.f impl_Plan_many_2.f
    rw [Option.bind_some, ap_ok (by simp; omega)]
    simp only [Option.bind_some, tm]
    rw [List.length_append, List.length_singleton, zax (x := J + ((st.length + 1 : Nat) : Int)) (by omega), zax (by omega)]
    congr 2
    omega
def fo (v : Int) : List Int → Int → List Int
  | [], _ => []
  | y :: ys, j => (if y = v then [j] else []) ++ fo v ys (j + 1)
def f3 (v x : Int) : List Int → List Int
  | [] => []
  | y :: ys => (if y = v then [x] else []) ++ f3 v x ys
def fst_ (I v : Int) (bl : List Int) : List SStep → Int → List Int
  | [], _ => []
  | y :: ys, j => f3 v (rg bl (I + j)) [y.f0, y.f1] ++ fst_ I v bl ys (j + 1)
theorem fo_len (v : Int) (ys : List Int) (j : Int) : (fo v ys j).length ≤ ys.length := by
  induction ys generalizing j with
  | nil => exact Nat.le_refl _
  | cons y ys ih =>
    simp only [fo, List.length_append, List.length_cons]
    have := ih (j + 1)
    split <;> simp <;> omega
theorem f3_len (v x : Int) (ys : List Int) : (f3 v x ys).length ≤ ys.length := by
  induction ys with
  | nil => exact Nat.le_refl _
  | cons y ys ih =>
    simp only [f3, List.length_append, List.length_cons]
    split <;> simp <;> omega
theorem fs_len (I v : Int) (bl : List Int) (ys : List SStep) (j : Int) : (fst_ I v bl ys j).length ≤ 2 * ys.length := by
  induction ys generalizing j with
  | nil => exact Nat.le_refl _
  | cons y ys ih =>
    simp only [fst_, List.length_append, List.length_cons]
    have := ih (j + 1)
    have := f3_len v (rg bl (I + j)) [y.f0, y.f1]
    simp only [List.length_cons, List.length_nil] at this
    omega
theorem fo_ge (v : Int) (ys : List Int) (j : Int) (hj : 0 ≤ j) : ∀ x ∈ fo v ys j, 0 ≤ x := by
  induction ys generalizing j with
  | nil => exact fun x hx => nomatch hx
  | cons y ys ih =>
    intro x hx
    simp only [fo, List.mem_append] at hx
    rcases hx with hx | hx
    · split at hx
      · rw [List.mem_singleton.1 hx]
        exact hj
      · cases hx
    · exact ih (j + 1) (by omega) x hx
theorem f3_mem (v x : Int) (ys : List Int) : ∀ z ∈ f3 v x ys, z = x := by
  induction ys with
  | nil => exact fun z hz => nomatch hz
  | cons y ys ih =>
    intro z hz
    simp only [f3, List.mem_append] at hz
    rcases hz with hz | hz
    · split at hz
      · exact List.mem_singleton.1 hz
      · cases hz
    · exact ih z hz
theorem rg_ge {bl : List Int} (h : ∀ x ∈ bl, 0 ≤ x) (r : Int) : 0 ≤ rg bl r := by
  unfold rg
  rw [List.getD_eq_getElem?_getD]
  cases c : bl[r.toNat]? with
  | none => exact Int.le_refl 0
  | some x => exact h x (List.mem_of_getElem? c)
theorem fs_ge (I v : Int) (bl : List Int) (h : ∀ x ∈ bl, 0 ≤ x) (ys : List SStep) (j : Int) : ∀ x ∈ fst_ I v bl ys j, 0 ≤ x := by
  induction ys generalizing j with
  | nil => exact fun x hx => nomatch hx
  | cons y ys ih =>
    intro x hx
    simp only [fst_, List.mem_append] at hx
    rcases hx with hx | hx
    · rw [f3_mem _ _ _ x hx]
      exact rg_ge h _
    · exact ih (j + 1) x hx
theorem fo_ne {v : Int} {ys : List Int} (h : v ∈ ys) (j : Int) : fo v ys j ≠ [] := by
  induction ys generalizing j with
  | nil => cases h
  | cons y ys ih =>
    simp only [fo]
    by_cases c : y = v
    · rw [if_pos c]
      simp
    · rw [if_neg c, List.nil_append]
      exact ih ((List.mem_cons.1 h).resolve_left (fun e => c e.symm)) (j + 1)
theorem fs_ne {I v : Int} {bl : List Int} {ys : List SStep} (h : ∃ y ∈ ys, y.f0 = v ∨ y.f1 = v) (j : Int) : fst_ I v bl ys j ≠ [] := by
  induction ys generalizing j with
  | nil => obtain ⟨y, hy, _⟩ := h; cases hy
  | cons z ys ih =>
    simp only [fst_, f3]
    by_cases c0 : z.f0 = v
    · rw [if_pos c0]
      simp
    · by_cases c1 : z.f1 = v
      · rw [if_pos c1]
        simp
      · obtain ⟨y, hy, hv⟩ := h
        rcases List.mem_cons.1 hy with e | hy
        · subst e
          rcases hv with hv | hv
          · exact absurd hv c0
          · exact absurd hv c1
        · rw [if_neg c0, if_neg c1]
          simpa using ih ⟨y, hy, hv⟩ (j + 1)
theorem turned_l1 (o : List Int) (v : Int) (ho : o.length ≤ 100) (ys : List Int) (st : List SStep) (j a : Int) (hb : st.length + ys.length ≤ 1000000) : impl_Plan_turned.l1 o v ys st j a = some (((fo v ys j).foldl (tmI (o.length : Int)) (st, a)).1, ((fo v ys j).foldl (tmI (o.length : Int)) (st, a)).2) := by
  induction ys generalizing st j a with
  | nil => rfl
  | cons y ys ih =>
    simp only [List.length_cons] at hb
    simp only [impl_Plan_turned.l1, fo]
    by_cases c : y = v
    · rw [if_pos c, if_pos c, times_eq _ (by omega) st (by omega), Option.bind_some, List.foldl_append]
      have hl := fold_len (o.length : Int) [j] (st, a)
      simp only [List.length_cons, List.length_nil] at hl
      have h9 : (tmI (o.length : Int) (st, a) j).1.length + ys.length ≤ 1000000 := by
        have : (tmI (o.length : Int) (st, a) j).1.length ≤ st.length + 1 := hl
        omega
      exact ih _ (j + 1) _ h9
    · rw [if_neg c, if_neg c, List.nil_append]
      exact ih st (j + 1) a (by omega)
theorem turned_l3 (I : Int) (o : List Int) (v : Int) (bl : List Int) (ho : o.length ≤ 100) (j : Int) (hj : 0 ≤ I + j ∧ I + j < (bl.length : Int)) (hbl : bl.length ≤ 1000) (ys : List Int) (st : List SStep) (a q : Int) (hb : st.length + ys.length ≤ 1000000) : impl_Plan_turned.l3 I o v bl j ys st a q = some (((f3 v (rg bl (I + j)) ys).foldl (tmI (o.length : Int)) (st, a)).1, ((f3 v (rg bl (I + j)) ys).foldl (tmI (o.length : Int)) (st, a)).2) := by
  induction ys generalizing st a q with
  | nil => rfl
  | cons y ys ih =>
    simp only [List.length_cons] at hb
    simp only [impl_Plan_turned.l3, f3]
    by_cases c : y = v
    · rw [if_pos c, if_pos c, zax (by omega), rg_gt hj.1 hj.2, Option.bind_some, times_eq _ (by omega) st (by omega), Option.bind_some, List.foldl_append]
      have hl := fold_len (o.length : Int) [rg bl (I + j)] (st, a)
      simp only [List.length_cons, List.length_nil] at hl
      have h9 : (tmI (o.length : Int) (st, a) (rg bl (I + j))).1.length + ys.length ≤ 1000000 := by
        have : (tmI (o.length : Int) (st, a) (rg bl (I + j))).1.length ≤ st.length + 1 := hl
        omega
      exact ih _ _ (q + 1) h9
    · rw [if_neg c, if_neg c, List.nil_append]
      exact ih st a (q + 1) (by omega)
theorem turned_l2 (I : Nat) (o : List Int) (v : Int) (bl : List Int) (ho : o.length ≤ 100) (hbl : bl.length ≤ 1000) (ys : List SStep) (j : Nat) (hj : I + j + ys.length ≤ bl.length) (st : List SStep) (a : Int) (hb : st.length + 2 * ys.length ≤ 100000) : impl_Plan_turned.l2 (I : Int) o v bl ys st (j : Int) a = some (((fst_ (I : Int) v bl ys (j : Int)).foldl (tmI (o.length : Int)) (st, a)).1, ((fst_ (I : Int) v bl ys (j : Int)).foldl (tmI (o.length : Int)) (st, a)).2) := by
  induction ys generalizing j st a with
  | nil => rfl
  | cons y ys ih =>
    simp only [List.length_cons] at hb hj
    simp only [impl_Plan_turned.l2, fst_]
    rw [turned_l3 (I : Int) o v bl ho (j : Int) (by omega) hbl [y.f0, y.f1] st a 0 (by simp; omega), Option.bind_some, List.foldl_append, show (j : Int) + 1 = ((j + 1 : Nat) : Int) by omega]
    have hl := fold_len (o.length : Int) (f3 v (rg bl ((I : Int) + (j : Int))) [y.f0, y.f1]) (st, a)
    have h3 := f3_len v (rg bl ((I : Int) + (j : Int))) [y.f0, y.f1]
    simp only [List.length_cons, List.length_nil] at h3
    simp only at hl
    have h9 : ((f3 v (rg bl ((I : Int) + (j : Int))) [y.f0, y.f1]).foldl (tmI (o.length : Int)) (st, a)).1.length + 2 * ys.length ≤ 100000 := by omega
    exact ih (j + 1) (by omega) _ _ h9
theorem fac_l0 (v : Int) (ys acc : List Int) (j : Int) (hb : acc.length + ys.length ≤ 100000) : spec_duFactors.l0 v ys acc j = some (acc ++ fo v ys j) := by
  induction ys generalizing acc j with
  | nil => simp [spec_duFactors.l0, fo]
  | cons y ys ih =>
    simp only [List.length_cons] at hb
    simp only [spec_duFactors.l0, fo]
    by_cases c : y = v
    · rw [if_pos c, if_pos c, ap_ok (by simp; omega), Option.bind_some, ih _ _ (by rw [List.length_append, List.length_singleton]; omega), List.append_assoc]
    · rw [if_neg c, if_neg c, ih _ _ (by omega), List.nil_append]
theorem fac_l1 (I : Nat) (v : Int) (bl : List Int) (hbl : bl.length ≤ 1000) (ys : List SStep) (acc : List Int) (j : Nat) (hj : I + j + ys.length ≤ bl.length) (hb : acc.length + 2 * ys.length ≤ 100000) : spec_duFactors.l1 (I : Int) v bl ys acc (j : Int) = some (acc ++ fst_ (I : Int) v bl ys (j : Int)) := by
  induction ys generalizing acc j with
  | nil => simp [spec_duFactors.l1, fst_]
  | cons y ys ih =>
    simp only [List.length_cons] at hb hj
    simp only [spec_duFactors.l1, fst_, f3]
    have hg : gt bl (w64 ((I : Int) + (j : Int))) = some (rg bl ((I : Int) + (j : Int))) := by
      rw [zax (by omega)]
      exact rg_gt (by omega) (by omega)
    rw [hg, show (j : Int) + 1 = ((j + 1 : Nat) : Int) by omega]
    by_cases c0 : y.f0 = v
    · rw [if_pos c0, if_pos c0, Option.bind_some, ap_ok (by simp; omega), Option.bind_some, Option.bind_some]
      by_cases c1 : y.f1 = v
      · rw [if_pos c1, if_pos c1, Option.bind_some, ap_ok (by simp; omega), Option.bind_some, ih _ (j + 1) (by omega) (by simp; omega)]
        simp
      · rw [if_neg c1, if_neg c1, ih _ (j + 1) (by omega) (by simp; omega)]
        simp
    · rw [if_neg c0, if_neg c0, Option.bind_some]
      by_cases c1 : y.f1 = v
      · rw [if_pos c1, if_pos c1, Option.bind_some, ap_ok (by simp; omega), Option.bind_some, ih _ (j + 1) (by omega) (by simp; omega)]
        simp
      · rw [if_neg c1, if_neg c1, ih _ (j + 1) (by omega) (by omega)]
        simp
theorem turn_l1 (o : List Int) (ho : o.length ≤ 100) (ys : List Int) (st : List SStep) (q a : Int) (hb : st.length + ys.length ≤ 1000000) : spec_duTurn.l1 o ys st [] q a = some ((ys.foldl (tm (o.length : Int)) (st, a)).1, [], (ys.foldl (tm (o.length : Int)) (st, a)).2) := by
  induction ys generalizing st q a with
  | nil => rfl
  | cons y ys ih =>
    simp only [List.length_cons] at hb
    simp only [spec_duTurn.l1, spec_meTimes.f, plStep_eq]
    rw [ap_ok (by simp; omega)]
    simp only [Option.bind_some, List.nil_append]
    rw [ap_ok (by simp; omega)]
    simp only [Option.bind_some]
    rw [zax (by omega), List.foldl_cons]
    exact ih _ (q + 1) _ (by rw [List.length_append, List.length_singleton]; omega)
/-- The turned plan, from value d down. -/
def tn (J : Int) (I : Int) (s : List SStep) (o : List Int) : Nat → List Int → List SStep → List SStep × List Int
  | 0, bl, st => (st, bl)
  | d + 1, bl, st => tn J I s o d (bl.set d ((fo (d : Int) o 0 ++ fst_ I (d : Int) bl s 0).foldl (tmI J) (st, -1)).2) ((fo (d : Int) o 0 ++ fst_ I (d : Int) bl s 0).foldl (tmI J) (st, -1)).1

theorem turn_loop {I : Nat} {s : List SStep} {o : List Int} (h : Form I s o) (hne : ∀ v : Int, 0 ≤ v → v < (I : Int) + (s.length : Int) → v ∈ o ∨ ∃ y ∈ s, y.f0 = v ∨ y.f1 = v) (d : Nat) (hd : d ≤ I + s.length) (bl : List Int) (st : List SStep) (hbl : bl.length = I + s.length) (h0 : ∀ x ∈ bl, 0 ≤ x) (hst : st.length + 100 * d ≤ 10000) : ∃ st' bl', Ev (fun k => impl_Plan_turned.l0 (I : Int) s o k st bl ((d : Int) - 1)) (st', bl') ∧ Ev (fun k => spec_duTurn.l0 (I : Int) s o k bl st [] ((d : Int) - 1)) (bl', st', []) ∧ bl'.length = I + s.length ∧ st'.length ≤ 10000 ∧ (st', bl') = tn (o.length : Int) (I : Int) s o d bl st := by
  have hin := h.inp
  have hs := h.stp
  have ho := h.out
  induction d generalizing bl st with
  | zero =>
    refine ⟨st, bl, shift ?_, shift ?_, hbl, by omega, rfl⟩
    · simp only [impl_Plan_turned.l0]
      exact neg (by omega) (ret _)
    · simp only [spec_duTurn.l0]
      exact neg (by omega) (ret _)
  | succ d ih =>
    have ev : ((d + 1 : Nat) : Int) - 1 = (d : Int) := by omega
    have hv := hne (d : Int) (by omega) (by omega)
    have l1 := fo_len (d : Int) o 0
    have l2 := fs_len (I : Int) (d : Int) bl s 0
    obtain ⟨F, hF⟩ : ∃ F, fo (d : Int) o 0 ++ fst_ (I : Int) (d : Int) bl s 0 = F := ⟨_, rfl⟩
    have hFne : F ≠ [] := by
      rw [← hF]
      intro e
      rw [List.append_eq_nil_iff] at e
      rcases hv with hv | hv
      · exact fo_ne hv 0 e.1
      · exact fs_ne hv 0 e.2
    have hFge : ∀ x ∈ F, 0 ≤ x := by
      rw [← hF]
      intro x hx
      rcases List.mem_append.1 hx with hx | hx
      · exact fo_ge _ _ 0 (by omega) x hx
      · exact fs_ge _ _ bl h0 s 0 x hx
    have hFl : F.length ≤ 90 := by
      rw [← hF, List.length_append]
      omega
    cases F with
    | nil => exact absurd rfl hFne
    | cons f rest =>
      have hf0 := hFge f List.mem_cons_self
      obtain ⟨t1, t2, t3⟩ := fold_tm (o.length : Int) (by omega) rest (st, f) hf0
      obtain ⟨⟨S, a⟩, hz⟩ : ∃ z, rest.foldl (tm (o.length : Int)) (st, f) = z := ⟨_, rfl⟩
      rw [hz] at t1 t2 t3
      simp only at t2 t3
      simp only [List.length_cons] at hFl
      have hI : (fo (d : Int) o 0 ++ fst_ (I : Int) (d : Int) bl s 0).foldl (tmI (o.length : Int)) (st, -1) = (S, a) := by
        rw [hF, List.foldl_cons]
        have : tmI (o.length : Int) (st, -1) f = (st, f) := if_pos (by show (-1 : Int) < 0; omega)
        rw [this, t1]
      obtain ⟨st', bl', e1, e2, e3, e4, e5⟩ := ih (by omega) (bl.set d a) S (by simpa using hbl) (fun x hx => by
        rcases List.mem_or_eq_of_mem_set hx with g | g
        · exact h0 x g
        · rw [g]; exact t2) (by omega)
      have hgt : gt bl (d : Int) = some (rg bl (d : Int)) := rg_gt (by omega) (by omega)
      have hst2 : st' = st' := rfl
      have hsets : Frame.st bl (d : Int) a = some (bl.set d a) := by
        have := rg_st (l := bl) (r := (d : Int)) (v := a) (by omega) (by omega)
        rwa [Int.toNat_natCast] at this
      refine ⟨st', bl', shift ?_, shift ?_, e3, e4, by simp only [tn]; rw [hI]; exact e5⟩
      · simp only [impl_Plan_turned.l0]
        rw [ev]
        have u1 := turned_l1 o (d : Int) (by omega) o st 0 (-1) (by omega)
        have hl1 := fold_len (o.length : Int) (fo (d : Int) o 0) (st, -1)
        simp only at hl1
        have u2 := turned_l2 I o (d : Int) bl (by omega) (by omega) s 0 (by omega) ((fo (d : Int) o 0).foldl (tmI (o.length : Int)) (st, -1)).1 ((fo (d : Int) o 0).foldl (tmI (o.length : Int)) (st, -1)).2 (by omega)
        rw [show ((0 : Nat) : Int) = 0 from rfl] at u2
        have hI2 : (fst_ (I : Int) (d : Int) bl s 0).foldl (tmI (o.length : Int)) ((fo (d : Int) o 0).foldl (tmI (o.length : Int)) (st, -1)) = (S, a) := by rw [← List.foldl_append]; exact hI
        rw [show (((fo (d : Int) o 0).foldl (tmI (o.length : Int)) (st, -1)).1, ((fo (d : Int) o 0).foldl (tmI (o.length : Int)) (st, -1)).2) = (fo (d : Int) o 0).foldl (tmI (o.length : Int)) (st, -1) from rfl, hI2] at u2
        refine pos (by omega) (bind0 u1 (bind0 u2 (bind0 hgt (bind0 hsets ?_))))
        rw [zax (by omega)]
        exact e1
      · simp only [spec_duTurn.l0]
        rw [ev]
        have u1 : spec_duFactors.f (I : Int) s o (d : Int) bl = some (f :: rest) := by
          unfold spec_duFactors.f
          rw [fac_l0 _ _ _ _ (by simp; omega), Option.bind_some, List.nil_append]
          have := fac_l1 I (d : Int) bl (by omega) s (fo (d : Int) o 0) 0 (by omega) (by omega)
          rw [show ((0 : Nat) : Int) = 0 from rfl, hF] at this
          rw [this]
          rfl
        have u2 : gt (f :: rest) (0 : Int) = some f := rfl
        have u3 : ct (f :: rest) (1 : Int) (((f :: rest).length : Nat) : Int) = some rest := by
          have := ct_drop (f :: rest) 1 (by simp)
          exact this
        have u4 := turn_l1 o (by omega) rest st 0 f (by omega)
        rw [hz] at u4
        refine pos (by omega) (bind0 u1 (bind0 u2 (bind0 u3 (bind0 u4 (bind0 hgt (bind0 hsets ?_))))))
        rw [zax (by omega)]
        exact e2
/-! who may be turned -/
theorem uses_l0 (M : Nat) (ys : List SStep) (l : List Int) (j : Int) (hl : l.length = M) (h : ∀ y ∈ ys, (0 ≤ y.f0 ∧ y.f0 < (M : Int)) ∧ (0 ≤ y.f1 ∧ y.f1 < (M : Int))) : ∃ l', impl_Plan_uses.l0 ys l j = some l' ∧ spec_duUses.l0 ys l j = some l' ∧ l'.length = M ∧ ∀ v : Int, 0 ≤ v → v < (M : Int) → (∀ y ∈ ys, y.f0 ≠ v ∧ y.f1 ≠ v) → rg l' v = rg l v := by
  induction ys generalizing l j with
  | nil => exact ⟨l, rfl, rfl, hl, fun _ _ _ _ => rfl⟩
  | cons y ys ih =>
    have q := h y List.mem_cons_self
    obtain ⟨l1, hl1⟩ : ∃ l1, l.set y.f0.toNat (w64 (rg l y.f0 + 1)) = l1 := ⟨_, rfl⟩
    have hl1l : l1.length = M := by rw [← hl1]; simpa using hl
    obtain ⟨l2, hl2⟩ : ∃ l2, l1.set y.f1.toNat (w64 (rg l1 y.f1 + 1)) = l2 := ⟨_, rfl⟩
    have hl2l : l2.length = M := by rw [← hl2]; simpa using hl1l
    obtain ⟨l', e1, e2, e3, e4⟩ := ih l2 (j + 1) hl2l (fun z hz => h z (List.mem_cons_of_mem _ hz))
    refine ⟨l', ?_, ?_, e3, fun v h0 h1 hv => ?_⟩
    · simp only [impl_Plan_uses.l0]
      rw [rg_gt (l := l) q.1.1 (by omega)]
      simp only [Option.bind_some]
      rw [rg_st (l := l) q.1.1 (by omega), hl1]
      simp only [Option.bind_some]
      rw [rg_gt (l := l1) q.2.1 (by omega)]
      simp only [Option.bind_some]
      rw [rg_st (l := l1) q.2.1 (by omega), hl2]
      exact e1
    · simp only [spec_duUses.l0]
      rw [rg_gt (l := l) q.1.1 (by omega)]
      simp only [Option.bind_some]
      rw [rg_st (l := l) q.1.1 (by omega), hl1]
      simp only [Option.bind_some]
      rw [rg_gt (l := l1) q.2.1 (by omega)]
      simp only [Option.bind_some]
      rw [rg_st (l := l1) q.2.1 (by omega), hl2]
      exact e2
    · have hy := hv y List.mem_cons_self
      rw [e4 v h0 h1 (fun z hz => hv z (List.mem_cons_of_mem _ hz)), ← hl2, rg_set h0 (by omega) q.2.1, if_neg hy.2, ← hl1, rg_set h0 (by omega) q.1.1, if_neg hy.1]
theorem uses_l1 (M : Nat) (ys : List Int) (l : List Int) (j : Int) (hl : l.length = M) (h : ∀ y ∈ ys, 0 ≤ y ∧ y < (M : Int)) : ∃ l', impl_Plan_uses.l1 ys l j = some l' ∧ spec_duUses.l1 ys l j = some l' ∧ l'.length = M ∧ ∀ v : Int, 0 ≤ v → v < (M : Int) → v ∉ ys → rg l' v = rg l v := by
  induction ys generalizing l j with
  | nil => exact ⟨l, rfl, rfl, hl, fun _ _ _ _ => rfl⟩
  | cons y ys ih =>
    have q := h y List.mem_cons_self
    obtain ⟨l1, hl1⟩ : ∃ l1, l.set y.toNat (w64 (rg l y + 1)) = l1 := ⟨_, rfl⟩
    have hl1l : l1.length = M := by rw [← hl1]; simpa using hl
    obtain ⟨l', e1, e2, e3, e4⟩ := ih l1 (j + 1) hl1l (fun z hz => h z (List.mem_cons_of_mem _ hz))
    refine ⟨l', ?_, ?_, e3, fun v h0 h1 hv => ?_⟩
    · simp only [impl_Plan_uses.l1]
      rw [rg_gt (l := l) q.1 (by omega)]
      simp only [Option.bind_some]
      rw [rg_st (l := l) q.1 (by omega), hl1]
      exact e1
    · simp only [spec_duUses.l1]
      rw [rg_gt (l := l) q.1 (by omega)]
      simp only [Option.bind_some]
      rw [rg_st (l := l) q.1 (by omega), hl1]
      exact e2
    · rw [e4 v h0 h1 (fun hm => hv (List.mem_cons_of_mem _ hm)), ← hl1, rg_set h0 (by omega) q.1, if_neg (fun e => hv (by rw [e]; exact List.mem_cons_self))]
theorem can_both {I : Nat} {s : List SStep} {o : List Int} (h : Form I s o) : ∃ b, impl_Plan_canTurn.f (I : Int) s o = some b ∧ spec_duCan.f (I : Int) s o = some b ∧ (b = true → ∀ v : Int, 0 ≤ v → v < (I : Int) + (s.length : Int) → v ∈ o ∨ ∃ y ∈ s, y.f0 = v ∨ y.f1 = v) := by
  have hin := h.inp
  have hs := h.stp
  have ho := h.out
  unfold impl_Plan_canTurn.f spec_duCan.f
  by_cases c : 0 < (o.length : Int)
  · rw [if_pos c, if_pos c]
    have hm : mk0 (w64 ((I : Int) + (s.length : Int))) (0 : Int) = some (List.replicate (I + s.length) 0) := by
      rw [zax (by omega)]
      unfold mk0
      rw [if_pos (by omega), show ((I : Int) + (s.length : Int)).toNat = I + s.length by omega]
    obtain ⟨l1, a1, a2, a3, a4⟩ := uses_l0 (I + s.length) s (List.replicate (I + s.length) 0) 0 (by simp) h.mem
    obtain ⟨l2, b1, b2, b3, b4⟩ := uses_l1 (I + s.length) o l1 0 a3 (fun y hy => by have := h.os y hy; omega)
    have u1 : impl_Plan_uses.f (I : Int) s o = some l2 := by
      unfold impl_Plan_uses.f impl_Plan_many.f
      rw [Option.bind_some, hm, Option.bind_some, a1, Option.bind_some, b1]
      rfl
    have u2 : spec_duUses.f (I : Int) s o = some l2 := by
      unfold spec_duUses.f
      rw [hm, Option.bind_some, a2, Option.bind_some, b2]
      rfl
    rw [u1, u2, Option.bind_some, Option.bind_some, contains_eq, l1Has_eq]
    refine ⟨_, rfl, rfl, fun hb v h0 h1 => Classical.byContradiction fun hn => ?_⟩
    have hz : rg l2 v = 0 := by
      rw [b4 v h0 (by omega) (fun hm => hn (.inl hm)), a4 v h0 (by omega) (fun y hy => ⟨fun e => hn (.inr ⟨y, hy, .inl e⟩), fun e => hn (.inr ⟨y, hy, .inr e⟩)⟩)]
      unfold rg
      rw [List.getD_eq_getElem?_getD, List.getElem?_replicate]
      split <;> rfl
    have hmem : (0 : Int) ∈ l2 := by
      have hg := rg_gt (l := l2) (r := v) h0 (by omega)
      unfold gt at hg
      rw [if_pos h0, hz] at hg
      exact List.mem_of_getElem? hg
    rw [decide_eq_true hmem] at hb
    cases hb
  · rw [if_neg c, if_neg c]
    exact ⟨false, rfl, rfl, fun hb => nomatch hb⟩
/-! marks through a cut row -/
end Go.Proofs.Ytoegbcbdiggbjaa.Pure
