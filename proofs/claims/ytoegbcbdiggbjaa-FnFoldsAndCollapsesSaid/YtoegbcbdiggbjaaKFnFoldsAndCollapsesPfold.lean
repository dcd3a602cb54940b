/- Pure: plans folded, collapsed, turned; the law. -/
import Derived.Test.YtoegbcbdiggbjaaKFnFoldsAndCollapsesPpw
import Derived.Test.YtoegbcbdiggbjaaKFnFoldsAndCollapsesPtps
import Derived.Test.YtoegbcbdiggbjaaKFnFoldsAndCollapsesPkeep
set_option linter.unusedVariables false
set_option linter.unusedSimpArgs false
namespace Go.Proofs.Ytoegbcbdiggbjaa.Pure
open Go.RowKit Go.Proofs.Ytoegbcbdiggbjaa.E Go.Proofs.Ytoegbcbdiggbjaa.FC Go.Proofs.Ytoegbcbdiggbjaa.Frame Go.Proofs.YtoegbcbdiggbjaaW.PrintLast Go.Proofs.YtoegbcbdiggbjaaW.PrintMore
open Go.Proofs.YtoegbcbdiggbjaaW.PrintWords hiding mn mx
theorem times_eq2 (J : Int) (hJ : 0 ≤ J ∧ J ≤ 100) (st : List SStep) (ol : List Int) (hst : st.length ≤ 1000000) (a b : Int) : impl_maker_times.f J st ol a b = some ((tmI J (st, a) b).2, (tmI J (st, a) b).1) := by
  unfold impl_maker_times.f tmI
  by_cases c : a < 0
  · rw [if_pos c, if_pos c]
  · rw [if_neg c, if_neg c]
    unfold impl_maker_multiply.f impl_step.f impl_Plan_many_2.f
    rw [Option.bind_some, ap_ok (by simp; omega)]
    simp only [Option.bind_some, tm]
    rw [List.length_append, List.length_singleton, zb1 (x := J + ((st.length + 1 : Nat) : Int)) (by omega), zb1 (by omega)]
    congr 2
    omega
theorem meTimes_eq (J : Int) (st : List SStep) (ol : List Int) (hst : st.length ≤ 1000000) (a b : Int) : spec_meTimes.f J st ol a b = some (st ++ [⟨mn a b, mx a b⟩]) := by
  unfold spec_meTimes.f
  rw [ap_ok (by simp; omega), Option.bind_some, plStep_eq, Option.bind_some, List.nil_append, ap_ok (by simp; omega)]
  rfl
theorem ifold_l0 (J : Int) (hJ : 0 ≤ J ∧ J ≤ 100) (ol ys : List Int) (st : List SStep) (j a : Int) (hb : st.length + ys.length ≤ 1000000) : impl_FoldOutputs.l0 J ol ys st j a = some ((ys.foldl (tmI J) (st, a)).1, (ys.foldl (tmI J) (st, a)).2) := by
  induction ys generalizing st j a with
  | nil => rfl
  | cons y ys ih =>
    simp only [List.length_cons] at hb
    simp only [impl_FoldOutputs.l0, List.foldl_cons]
    rw [times_eq2 J hJ st ol (by omega), Option.bind_some]
    have hlen : (tmI J (st, a) y).1.length ≤ st.length + 1 := fold_len J [y] (st, a)
    exact ih (tmI J (st, a) y).1 (j + 1) (tmI J (st, a) y).2 (by omega)
theorem sfold_l0 (J : Int) (hJ : 0 ≤ J ∧ J ≤ 100) (ys : List Int) (st : List SStep) (ol : List Int) (j a : Int) (hb : st.length + ys.length ≤ 1000000) : ∃ ol', spec_FoldOutputs.l0 J ys st ol j a = some ((ys.foldl (tm J) (st, a)).1, ol', (ys.foldl (tm J) (st, a)).2) := by
  induction ys generalizing st ol j a with
  | nil => exact ⟨ol, rfl⟩
  | cons y ys ih =>
    simp only [List.length_cons] at hb
    simp only [spec_FoldOutputs.l0, List.foldl_cons]
    rw [meTimes_eq J st ol (by omega), Option.bind_some, zb1 (by omega)]
    exact ih _ _ _ _ (by rw [List.length_append, List.length_singleton]; omega)
/-- The outputs of a plan multiplied. -/
def fS (I : Nat) (s : List SStep) (o : List Int) : List SStep := (o.foldl (tmI (I : Int)) (s, -1)).1
def fA (I : Nat) (s : List SStep) (o : List Int) : Int := (o.foldl (tmI (I : Int)) (s, -1)).2
theorem fold_ev {I : Nat} {s : List SStep} {o : List Int} (h : Good I s o) (hne : o ≠ []) : Ev (fun k => impl_FoldOutputs.f k (I : Int) s o) (toldP (I : Int) (fS I s o) [fA I s o]) ∧ Ev (fun k => spec_FoldOutputs.f k (I : Int) s o) (toldP (I : Int) (fS I s o) [fA I s o]) := by
  have h1 := h.inp
  have h2 := h.stp
  have h3 := h.out
  have p1 := plGood_ev (I : Int) s o
  have p2 := isPlan_ev (I : Int) s o
  rw [good_iff.2 h] at p1 p2
  cases o with
  | nil => exact absurd rfl hne
  | cons f rest =>
    simp only [List.length_cons] at h3
    have hz : decide (((f :: rest).length : Int) = 0) = false := decide_eq_false (by simp only [List.length_cons]; omega)
    have hf0 := (h.os f List.mem_cons_self).1
    obtain ⟨t1, t2, t3⟩ := fold_tm (I : Int) (by omega) rest (s, f) hf0
    have e0 : tmI (I : Int) (s, -1) f = (s, f) := if_pos (by show (-1 : Int) < 0; omega)
    have eS : fS I s (f :: rest) = (rest.foldl (tm (I : Int)) (s, f)).1 := by unfold fS; rw [List.foldl_cons, e0, t1]
    have eA : fA I s (f :: rest) = (rest.foldl (tm (I : Int)) (s, f)).2 := by unfold fA; rw [List.foldl_cons, e0, t1]
    constructor
    · unfold impl_FoldOutputs.f impl_clonePlan.f
      have u := ifold_l0 (I : Int) (by omega) (f :: rest) (f :: rest) s 0 (-1) (by simp only [List.length_cons]; omega)
      refine bind (a := false) (bind p2 (pos rfl (now (by rw [hz])))) (neg (by simp) ?_)
      rw [cloneS_eq _ (by omega), cloneI_eq _ (by simp only [List.length_cons]; omega)]
      refine bind0 rfl (bind0 u (bind0 rfl (bind (told_ev _ _ _) (ret _))))
    · unfold spec_FoldOutputs.f spec_plOwn.f
      obtain ⟨ol', u⟩ := sfold_l0 (I : Int) (by omega) rest s (f :: rest) 0 f (by omega)
      have hct : ct (f :: rest) (1 : Int) (((f :: rest).length : Nat) : Int) = some rest := ct_drop (f :: rest) 1 (by simp)
      refine bind (a := false) (bind p1 (pos rfl (now (by rw [hz])))) (neg (by simp) ?_)
      rw [ap_ok (by simp; omega), l1Own_eq _ (by simp only [List.length_cons]; omega), List.nil_append]
      refine bind0 rfl (bind0 (a := f) rfl (bind0 hct (bind0 u (bind0 rfl (bind ?_ (ret _))))))
      rw [eS, eA]
      exact plIf_ev _ _ _
theorem fold_no {i : Int} {s : List SStep} {o : List Int} (h : good i s o = false ∨ o = []) : Ev (fun k => impl_FoldOutputs.f k i s o) (0, [], [], false) ∧ Ev (fun k => spec_FoldOutputs.f k i s o) (0, [], [], false) := by
  have p1 := plGood_ev i s o
  have p2 := isPlan_ev i s o
  unfold impl_FoldOutputs.f spec_FoldOutputs.f
  cases hg : good i s o with
  | false =>
    rw [hg] at p1 p2
    exact ⟨bind (a := true) (bind p2 (neg (by simp) (ret _))) (pos rfl (ret _)), bind (a := true) (bind p1 (neg (by simp) (ret _))) (pos rfl (ret _))⟩
  | true =>
    rw [hg] at p1 p2 h
    obtain rfl := h.resolve_left (by simp)
    exact ⟨bind (a := true) (bind p2 (pos rfl (ret _))) (pos rfl (ret _)), bind (a := true) (bind p1 (pos rfl (ret _))) (pos rfl (ret _))⟩
/-- All inputs made one. -/
def cS (I : Nat) (s : List SStep) : List SStep := (bh 1 s (List.replicate I 0) []).2
def cP (I : Nat) (s : List SStep) : List Int := (bh 1 s (List.replicate I 0) []).1
theorem coll_ev {I : Nat} {s : List SStep} {o : List Int} (h : Good I s o) : Ev (fun k => impl_CollapseInputs.f k (I : Int) s o) (toldP 1 (cS I s) (o.map (rg (cP I s)))) ∧ Ev (fun k => spec_CollapseInputs.f k (I : Int) s o) (toldP 1 (cS I s) (o.map (rg (cP I s)))) := by
  have h1 := h.inp
  have h2 := h.stp
  have h3 := h.out
  have p1 := plGood_ev (I : Int) s o
  have p2 := isPlan_ev (I : Int) s o
  rw [good_iff.2 h] at p1 p2
  have hm : mk0 (I : Int) (0 : Int) = some (List.replicate I 0) := by
    unfold mk0
    rw [if_pos (by omega), Int.toNat_natCast]
  have hok : Ok (List.replicate I (0 : Int)).length s := by rw [List.length_replicate]; exact h.ok
  have hlen := bh_len 1 s (List.replicate I 0) []
  rw [List.length_replicate] at hlen
  unfold impl_CollapseInputs.f spec_CollapseInputs.f
  constructor
  · refine bind p2 (pos rfl (bind0 hm (bind0 (behind_eq 1 (by omega) [] [] (I : Int) s o (List.replicate I 0) hok (by simp; omega)) (bind0 (ren_eq _ _ (fun y hy => ?_) (by omega)) (bind (told_ev _ _ _) (ret _))))))
    rw [hlen.1]
    exact h.os y hy
  · refine bind p1 (pos rfl (bind0 hm (bind0 (then_eq 1 (by omega) [] (I : Int) s o (List.replicate I 0) hok (by simp; omega) (fun y hy => ?_) (by omega)) (bind (plIf_ev _ _ _) (ret _)))))
    rw [List.length_replicate]
    exact h.os y hy
theorem coll_no {i : Int} {s : List SStep} {o : List Int} (h : good i s o = false) : Ev (fun k => impl_CollapseInputs.f k i s o) (0, [], [], false) ∧ Ev (fun k => spec_CollapseInputs.f k i s o) (0, [], [], false) := by
  have p1 := plGood_ev i s o
  have p2 := isPlan_ev i s o
  rw [h] at p1 p2
  unfold impl_CollapseInputs.f spec_CollapseInputs.f
  exact ⟨bind p2 (neg (by simp) (ret _)), bind p1 (neg (by simp) (ret _))⟩
theorem rg_rep {n : Nat} {x v : Int} (h0 : 0 ≤ v) (h1 : v < (n : Int)) : rg (List.replicate n x) v = x := by
  obtain ⟨j, rfl⟩ := Int.eq_ofNat_of_zero_le h0
  rw [rg_nat (by rw [List.length_replicate]; omega)]
  simp
/-- The values of the collapsed plan are those with the same number at all inputs. -/
theorem coll_vl {I : Nat} {s : List SStep} (hs : Ok I s) (x : Int) : Ok 1 (cS I s) ∧ ∀ v : Int, 0 ≤ v → v < ((I + s.length : Nat) : Int) → (0 ≤ rg (cP I s) v ∧ rg (cP I s) v < ((1 + (cS I s).length : Nat) : Int)) ∧ rg (vl (cS I s) [x]) (rg (cP I s) v) = rg (vl s (List.replicate I x)) v := by
  have := bh_vl (J := 1) [x] rfl s (List.replicate I 0) [] (List.replicate I x) (by simp) (by rw [List.length_replicate]; exact hs) trivial (fun v h0 h1 => by
    rw [List.length_replicate] at h1
    rw [rg_rep h0 h1, rg_rep h0 h1]
    exact ⟨by simp, rfl⟩)
  rw [List.length_replicate] at this
  exact this
theorem sm_sN (f : Int → Int) (o : List Int) : sm f o = sN (fun i => f (rg o (i : Int))) o.length := by
  induction o with
  | nil => rfl
  | cons a l ih =>
    simp only [sm, List.length_cons]
    rw [Nat.add_comm l.length 1, sN_split, ih]
    simp only [sN, Int.zero_add]
    congr 1
    refine sN_congr fun i hi => ?_
    congr 1
    rw [rg_nat hi, Nat.add_comm 1 i, rg_nat (show i + 1 < (a :: l).length by simp; omega), List.getElem_cons_succ]
/-- A sum of whole numbers that doesn't wrap. -/
theorem pSum_l0 (l : List Int) (a j : Int) (ha : 0 ≤ a ∧ a ≤ 1000000000) (h : ∀ x ∈ l, 0 ≤ x ∧ x ≤ 1000000) (hl : l.length ≤ 1000) : laws_pSum.l0 l a j = some (a + sm (fun x => x) l) ∧ True := by
  refine ⟨?_, trivial⟩
  have key : ∀ (l : List Int) (a j : Int), 0 ≤ a → a + 1000000 * (l.length : Int) ≤ 4000000000 → (∀ x ∈ l, 0 ≤ x ∧ x ≤ 1000000) → laws_pSum.l0 l a j = some (a + sm (fun x => x) l) := by
    intro l
    induction l with
    | nil => intro a j _ _ _; simp [laws_pSum.l0, sm]
    | cons x xs ih =>
      intro a j h0 hb h
      have hx := h x List.mem_cons_self
      simp only [List.length_cons] at hb
      simp only [laws_pSum.l0, sm]
      rw [zb1 (by omega), ih _ _ (by omega) (by omega) (fun z hz => h z (List.mem_cons_of_mem _ hz))]
      congr 1
      omega
  exact key l a j ha.1 (by omega) h
theorem pSum_eq (l : List Int) (h : ∀ x ∈ l, 0 ≤ x ∧ x ≤ 1000000) (hl : l.length ≤ 1000) : laws_pSum.f l = some (sm (fun x => x) l) := by
  unfold laws_pSum.f
  rw [(pSum_l0 l 0 0 (by omega) h hl).1, Option.bind_some, Int.zero_add]
end Go.Proofs.Ytoegbcbdiggbjaa.Pure
