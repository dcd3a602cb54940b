/- Pure: plans turned round, the program's side alone. -/
import Derived.Test.YtoegbcbdiggbjaaKFnFoldsAndCollapsesPturn
set_option linter.unusedVariables false
set_option linter.unusedSimpArgs false
namespace Go.Proofs.Ytoegbcbdiggbjaa.Pure
open Go.RowKit Go.Proofs.Ytoegbcbdiggbjaa.E Go.Proofs.Ytoegbcbdiggbjaa.FC Go.Proofs.Ytoegbcbdiggbjaa.Frame Go.Proofs.YtoegbcbdiggbjaaW.PrintLast Go.Proofs.YtoegbcbdiggbjaaW.PrintMore
open Go.Proofs.YtoegbcbdiggbjaaW.PrintWords hiding mn mx
theorem iturn_loop {I : Nat} {s : List SStep} {o : List Int} (h : Form I s o) (hne : ∀ v : Int, 0 ≤ v → v < (I : Int) + (s.length : Int) → v ∈ o ∨ ∃ y ∈ s, y.f0 = v ∨ y.f1 = v) (d : Nat) (hd : d ≤ I + s.length) (bl : List Int) (st : List SStep) (hbl : bl.length = I + s.length) (h0 : ∀ x ∈ bl, 0 ≤ x) (hst : st.length + 100 * d ≤ 10000) : ∃ st' bl', Ev (fun k => impl_Plan_turned.l0 (I : Int) s o k st bl ((d : Int) - 1)) (st', bl') ∧ bl'.length = I + s.length ∧ st'.length ≤ 10000 ∧ (st', bl') = tn (o.length : Int) (I : Int) s o d bl st := by
  have hin := h.inp
  have hs := h.stp
  have ho := h.out
  induction d generalizing bl st with
  | zero =>
    refine ⟨st, bl, shift ?_, hbl, by omega, rfl⟩
    simp only [impl_Plan_turned.l0]
    exact neg (by omega) (ret _)
  | succ d ih =>
    have ev : ((d + 1 : Nat) : Int) - 1 = (d : Int) := by omega
    have hv := hne (d : Int) (by omega) (by omega)
    have l1 := fo_len (d : Int) o 0
    have l2 := fs_len (I : Int) (d : Int) bl s 0
    obtain ⟨F, hF⟩ : ∃ F, fo (d : Int) o 0 ++ fst_ (I : Int) (d : Int) bl s 0 = F := ⟨_, rfl⟩
    have hFne : F ≠ [] := by
      rw [← hF]
      intro e
      rw [List.append_eq_nil_iff] at e
      rcases hv with hv | hv
      · exact fo_ne hv 0 e.1
      · exact fs_ne hv 0 e.2
    have hFge : ∀ x ∈ F, 0 ≤ x := by
      rw [← hF]
      intro x hx
      rcases List.mem_append.1 hx with hx | hx
      · exact fo_ge _ _ 0 (by omega) x hx
      · exact fs_ge _ _ bl h0 s 0 x hx
    have hFl : F.length ≤ 90 := by
      rw [← hF, List.length_append]
      omega
    cases F with
    | nil => exact absurd rfl hFne
    | cons f rest =>
      have hf0 := hFge f List.mem_cons_self
      obtain ⟨t1, t2, t3⟩ := fold_tm (o.length : Int) (by omega) rest (st, f) hf0
      obtain ⟨⟨S, a⟩, hz⟩ : ∃ z, rest.foldl (tm (o.length : Int)) (st, f) = z := ⟨_, rfl⟩
      rw [hz] at t1 t2 t3
      simp only at t2 t3
      simp only [List.length_cons] at hFl
      have hI : (fo (d : Int) o 0 ++ fst_ (I : Int) (d : Int) bl s 0).foldl (tmI (o.length : Int)) (st, -1) = (S, a) := by
        rw [hF, List.foldl_cons]
        have : tmI (o.length : Int) (st, -1) f = (st, f) := if_pos (by show (-1 : Int) < 0; omega)
        rw [this, t1]
      obtain ⟨st', bl', e1, e3, e4, e5⟩ := ih (by omega) (bl.set d a) S (by simpa using hbl) (fun x hx => by
        rcases List.mem_or_eq_of_mem_set hx with g | g
        · exact h0 x g
        · rw [g]; exact t2) (by omega)
      have hgt : gt bl (d : Int) = some (rg bl (d : Int)) := rg_gt (by omega) (by omega)
      have hst2 : st' = st' := rfl
      have hsets : Frame.st bl (d : Int) a = some (bl.set d a) := by
        have := rg_st (l := bl) (r := (d : Int)) (v := a) (by omega) (by omega)
        rwa [Int.toNat_natCast] at this
      refine ⟨st', bl', shift ?_, e3, e4, by simp only [tn]; rw [hI]; exact e5⟩
      · simp only [impl_Plan_turned.l0]
        rw [ev]
        have u1 := turned_l1 o (d : Int) (by omega) o st 0 (-1) (by omega)
        have hl1 := fold_len (o.length : Int) (fo (d : Int) o 0) (st, -1)
        simp only at hl1
        have u2 := turned_l2 I o (d : Int) bl (by omega) (by omega) s 0 (by omega) ((fo (d : Int) o 0).foldl (tmI (o.length : Int)) (st, -1)).1 ((fo (d : Int) o 0).foldl (tmI (o.length : Int)) (st, -1)).2 (by omega)
        rw [show ((0 : Nat) : Int) = 0 from rfl] at u2
        have hI2 : (fst_ (I : Int) (d : Int) bl s 0).foldl (tmI (o.length : Int)) ((fo (d : Int) o 0).foldl (tmI (o.length : Int)) (st, -1)) = (S, a) := by rw [← List.foldl_append]; exact hI
        rw [show (((fo (d : Int) o 0).foldl (tmI (o.length : Int)) (st, -1)).1, ((fo (d : Int) o 0).foldl (tmI (o.length : Int)) (st, -1)).2) = (fo (d : Int) o 0).foldl (tmI (o.length : Int)) (st, -1) from rfl, hI2] at u2
        refine pos (by omega) (bind0 u1 (bind0 u2 (bind0 hgt (bind0 hsets ?_))))
        rw [zb1 (by omega)]
        exact e1
theorem ican {I : Nat} {s : List SStep} {o : List Int} (h : Form I s o) : ∃ b, impl_Plan_canTurn.f (I : Int) s o = some b ∧ (b = true → ∀ v : Int, 0 ≤ v → v < (I : Int) + (s.length : Int) → v ∈ o ∨ ∃ y ∈ s, y.f0 = v ∨ y.f1 = v) := by
  have hin := h.inp
  have hs := h.stp
  have ho := h.out
  unfold impl_Plan_canTurn.f
  by_cases c : 0 < (o.length : Int)
  · rw [if_pos c]
    have hm : mk0 (w64 ((I : Int) + (s.length : Int))) (0 : Int) = some (List.replicate (I + s.length) 0) := by
      rw [zb1 (by omega)]
      unfold mk0
      rw [if_pos (by omega), show ((I : Int) + (s.length : Int)).toNat = I + s.length by omega]
    obtain ⟨l1, a1, a2, a3, a4⟩ := uses_l0 (I + s.length) s (List.replicate (I + s.length) 0) 0 (by simp) h.mem
    obtain ⟨l2, b1, b2, b3, b4⟩ := uses_l1 (I + s.length) o l1 0 a3 (fun y hy => by have := h.os y hy; omega)
    have u1 : impl_Plan_uses.f (I : Int) s o = some l2 := by
      unfold impl_Plan_uses.f impl_Plan_many.f
      rw [Option.bind_some, hm, Option.bind_some, a1, Option.bind_some, b1]
      rfl
    rw [u1, Option.bind_some, contains_eq]
    refine ⟨_, rfl, fun hb v h0 h1 => Classical.byContradiction fun hn => ?_⟩
    have hz : rg l2 v = 0 := by
      rw [b4 v h0 (by omega) (fun hm => hn (.inl hm)), a4 v h0 (by omega) (fun y hy => ⟨fun e => hn (.inr ⟨y, hy, .inl e⟩), fun e => hn (.inr ⟨y, hy, .inr e⟩)⟩)]
      unfold rg
      rw [List.getD_eq_getElem?_getD, List.getElem?_replicate]
      split <;> rfl
    have hmem : (0 : Int) ∈ l2 := by
      have hg := rg_gt (l := l2) (r := v) h0 (by omega)
      unfold gt at hg
      rw [if_pos h0, hz] at hg
      exact List.mem_of_getElem? hg
    rw [decide_eq_true hmem] at hb
    cases hb
  · rw [if_neg c]
    exact ⟨false, rfl, fun hb => nomatch hb⟩
theorem iturn (i : Int) (s : List SStep) (o : List Int) : ∃ n s' o' z b, Ev (fun k => impl_TurnPlan.f k i s o) (n, s', o', z, b) ∧ (b = true → ∃ I : Nat, i = (I : Int) ∧ z = I ∧ n = (o.length : Int) ∧ (s', o') = tn (o.length : Int) (I : Int) s o (I + s.length) (List.replicate (I + s.length) 0) [] ∧ good i s o = true ∧ good n s' (o'.take z) = true ∧ ∀ v : Int, 0 ≤ v → v < (I : Int) + (s.length : Int) → v ∈ o ∨ ∃ y ∈ s, y.f0 = v ∨ y.f1 = v) := by
  have e2 := isPlan_ev i s o
  unfold impl_TurnPlan.f
  cases hg : good i s o with
  | false =>
    rw [hg] at e2
    exact ⟨0, [], [], 0, false, bind (a := true) (bind e2 (neg (by simp) (ret _))) (pos rfl (ret _)), by simp⟩
  | true =>
    rw [hg] at e2
    obtain ⟨I, rfl, hf⟩ := good_form hg
    have hin := hf.inp
    have hs := hf.stp
    have ho := hf.out
    obtain ⟨b, c1, c3⟩ := ican hf
    cases b with
    | false => exact ⟨0, [], [], 0, false, bind (a := true) (bind e2 (pos rfl (bind0 c1 (ret _)))) (pos rfl (ret _)), by simp⟩
    | true =>
      have hm : mk0 (w64 ((I : Int) + (s.length : Int))) (0 : Int) = some (List.replicate (I + s.length) 0) := by
        rw [zb1 (by omega)]
        unfold mk0
        rw [if_pos (by omega), show ((I : Int) + (s.length : Int)).toNat = I + s.length by omega]
      obtain ⟨st', bl', f1, f3, f4, f5⟩ := iturn_loop hf (c3 rfl) (I + s.length) (Nat.le_refl _) (List.replicate (I + s.length) 0) [] (by simp) (fun x hx => by rw [List.eq_of_mem_replicate hx]; exact Int.le_refl 0) (by simp; omega)
      have hctk : ctk bl' (I : Int) = some () := by
        unfold ctk
        rw [if_pos (by omega)]
      have g1 : Ev (fun k => impl_Plan_turned.f k (I : Int) s o) (st', bl') := by
        unfold impl_Plan_turned.f
        refine bind0 rfl (bind0 rfl (bind0 hm (bind0 rfl (bind (a := (st', bl')) ?_ (bind0 hctk (bind0 rfl (ret _)))))))
        rw [zb1 (x := (I : Int) + (s.length : Int)) (by omega), zb1 (by omega), show (I : Int) + (s.length : Int) = ((I + s.length : Nat) : Int) by omega]
        exact f1
      have hg1 := isPlan_ev (o.length : Int) st' (bl'.take I)
      have hz : ((I : Int)).toNat = I := by omega
      cases hgg : good (o.length : Int) st' (bl'.take I) with
      | true =>
        rw [hgg] at hg1
        refine ⟨(o.length : Int), st', bl', I, true, bind (a := false) (bind e2 (pos rfl (bind0 c1 (ret _)))) (neg (by simp) (bind g1 (bind (a := ((o.length : Int), st', bl', I, true)) ?_ (ret _)))), fun _ => ⟨I, rfl, rfl, rfl, f5, rfl, hgg, c3 rfl⟩⟩
        unfold impl_told_2.f
        rw [hz]
        exact bind hg1 (pos rfl (ret _))
      | false =>
        rw [hgg] at hg1
        refine ⟨0, [], [], 0, false, bind (a := false) (bind e2 (pos rfl (bind0 c1 (ret _)))) (neg (by simp) (bind g1 (bind (a := (0, [], [], 0, false)) ?_ (ret _)))), by simp⟩
        unfold impl_told_2.f
        rw [hz]
        exact bind hg1 (neg (by simp) (ret _))
end Go.Proofs.Ytoegbcbdiggbjaa.Pure
