/- Pure: what laws about plans ask: the same numbers, steps, plans; values renamed; copies. -/
import Derived.Test.YtoegbcbdiggbjaaKFnJoinedPlansPval
set_option linter.unusedVariables false
set_option linter.unusedSimpArgs false
namespace Go.Proofs.Ytoegbcbdiggbjaa.Pure
open Go.RowKit Go.Proofs.Ytoegbcbdiggbjaa.E Go.Proofs.Ytoegbcbdiggbjaa.JP Go.Proofs.Ytoegbcbdiggbjaa.Frame Go.Proofs.YtoegbcbdiggbjaaW.PrintLast Go.Proofs.YtoegbcbdiggbjaaW.PrintMore
open Go.Proofs.YtoegbcbdiggbjaaW.PrintWords hiding mn mx
theorem pSameInts_refl (l : List Int) : laws_pSameInts.f l l = some true := by
  have key : ∀ (d j : Nat), j + d = l.length → laws_pSameInts.l0 l (l.drop j) (j : Int) = some (.inr ()) := by
    intro d
    induction d with
    | zero =>
      intro j hj
      rw [List.drop_eq_nil_of_le (by omega)]
      rfl
    | succ d ih =>
      intro j hj
      rw [List.drop_eq_getElem_cons (show j < l.length by omega)]
      simp only [laws_pSameInts.l0]
      rw [gt_nat (show j < l.length by omega), Option.bind_some, if_neg (by simp), show (j : Int) + 1 = ((j + 1 : Nat) : Int) by omega]
      exact ih (j + 1) (by omega)
  unfold laws_pSameInts.f
  rw [if_neg (by simp)]
  have := key l.length 0 (by omega)
  rw [List.drop_zero] at this
  rw [show (0 : Int) = ((0 : Nat) : Int) from rfl, this]
  rfl
theorem pSameSteps_refl (l : List SStep) : laws_pSameSteps.f l l = some true := by
  have key : ∀ (d j : Nat), j + d = l.length → laws_pSameSteps.l0 l (l.drop j) (j : Int) = some (.inr ()) := by
    intro d
    induction d with
    | zero =>
      intro j hj
      rw [List.drop_eq_nil_of_le (by omega)]
      rfl
    | succ d ih =>
      intro j hj
      rw [List.drop_eq_getElem_cons (show j < l.length by omega)]
      simp only [laws_pSameSteps.l0]
      rw [gt_nat (show j < l.length by omega), Option.bind_some, if_pos (by simp), show (j : Int) + 1 = ((j + 1 : Nat) : Int) by omega]
      exact ih (j + 1) (by omega)
  unfold laws_pSameSteps.f
  rw [if_neg (by simp)]
  have := key l.length 0 (by omega)
  rw [List.drop_zero] at this
  rw [show (0 : Int) = ((0 : Nat) : Int) from rfl, this]
  rfl
theorem pSamePlan_refl (i : Int) (s : List SStep) (o : List Int) : laws_pSamePlan.f i s o i s o = some true := by
  unfold laws_pSamePlan.f
  rw [if_pos rfl, pSameSteps_refl, Option.bind_some, if_pos rfl, pSameInts_refl]
  rfl
theorem cloneS_eq (l : List SStep) (h : l.length ≤ 1000000) : slices_Clone_impl_Step_impl_Step.f l = some l := by
  unfold slices_Clone_impl_Step_impl_Step.f
  rw [ap_ok (by simp; omega)]
  rfl
theorem cloneI_eq (l : List Int) (h : l.length ≤ 1000000) : slices_Clone_int_int.f l = some l := by
  unfold slices_Clone_int_int.f
  rw [ap_ok (by simp; omega)]
  rfl
theorem ren_l0 (v ys o : List Int) (j : Int) (h : ∀ y ∈ ys, 0 ≤ y ∧ y < (v.length : Int)) (hb : o.length + ys.length ≤ 1000) : impl_renamed.l0 v ys o j = some (o ++ ys.map (rg v)) := by
  induction ys generalizing o j with
  | nil => simp [impl_renamed.l0]
  | cons y ys ih =>
    simp only [List.length_cons] at hb
    have hy := h y List.mem_cons_self
    simp only [impl_renamed.l0]
    rw [rg_gt hy.1 hy.2, Option.bind_some, ap_ok (by simp; omega), Option.bind_some, ih _ _ (fun z hz => h z (List.mem_cons_of_mem _ hz)) (by rw [List.length_append, List.length_singleton]; omega)]
    simp
theorem ren_eq (v ys : List Int) (h : ∀ y ∈ ys, 0 ≤ y ∧ y < (v.length : Int)) (hb : ys.length ≤ 1000) : impl_renamed.f ys v = some (ys.map (rg v)) := by
  unfold impl_renamed.f
  rw [ren_l0 v ys [] 0 h (by simpa using hb)]
  rfl
def toldP (i : Int) (s : List SStep) (o : List Int) : Int × List SStep × List Int × Bool := if good i s o = true then (i, s, o, true) else (0, [], [], false)
theorem plIf_ev (i : Int) (s : List SStep) (o : List Int) : Ev (fun k => spec_plIf.f k i s o) (toldP i s o) := by
  have e1 := plGood_ev i s o
  unfold spec_plIf.f toldP
  cases hg : good i s o with
  | true => rw [hg] at e1; exact bind e1 (pos rfl (ret _))
  | false => rw [hg] at e1; exact bind e1 (neg (by simp) (ret _))
theorem told_ev (i : Int) (s : List SStep) (o : List Int) : Ev (fun k => impl_told.f k i s o) (toldP i s o) := by
  have e1 := isPlan_ev i s o
  unfold impl_told.f toldP
  cases hg : good i s o with
  | true => rw [hg] at e1; exact bind e1 (pos rfl (ret _))
  | false => rw [hg] at e1; exact bind e1 (neg (by simp) (ret _))
/-- The places of another plan's values when its steps are put behind. -/
def bh (i : Int) : List SStep → List Int → List SStep → List Int × List SStep
  | [], p, s => (p, s)
  | y :: ys, p, s => bh i ys (p ++ [i + (s.length : Int)]) (s ++ [⟨mn (rg (p ++ [i + (s.length : Int)]) y.f0) (rg (p ++ [i + (s.length : Int)]) y.f1), mx (rg (p ++ [i + (s.length : Int)]) y.f0) (rg (p ++ [i + (s.length : Int)]) y.f1)⟩])
theorem bh_len (i : Int) (ys : List SStep) (p : List Int) (s : List SStep) : (bh i ys p s).1.length = p.length + ys.length ∧ (bh i ys p s).2.length = s.length + ys.length := by
  induction ys generalizing p s with
  | nil => exact ⟨rfl, rfl⟩
  | cons y ys ih =>
    have := ih (p ++ [i + (s.length : Int)]) (s ++ [⟨mn (rg (p ++ [i + (s.length : Int)]) y.f0) (rg (p ++ [i + (s.length : Int)]) y.f1), mx (rg (p ++ [i + (s.length : Int)]) y.f0) (rg (p ++ [i + (s.length : Int)]) y.f1)⟩])
    simp only [bh, List.length_cons]
    rw [List.length_append, List.length_append, List.length_singleton, List.length_singleton] at this
    omega
theorem behind_l0 (i : Int) (hi : 0 ≤ i ∧ i ≤ 1000) (o : List Int) (ys : List SStep) (p : List Int) (s : List SStep) (j : Int) (h : Ok p.length ys) (hb : p.length + s.length + 2 * ys.length ≤ 100000) : impl_Plan_behind.l0 i o ys p s j = some (bh i ys p s) := by
  induction ys generalizing p s j with
  | nil => rfl
  | cons y ys ih =>
    have h1 := h.1
    simp only [List.length_cons] at hb
    have hlen : (p ++ [i + (s.length : Int)]).length = p.length + 1 := by rw [List.length_append, List.length_singleton]
    simp only [impl_Plan_behind.l0, bh, impl_Plan_many.f, impl_step.f, Option.bind_some]
    rw [w64_id (by omega), ap_ok (by simp; omega), Option.bind_some, rg_gt (by omega) (by omega), Option.bind_some, rg_gt (by omega) (by omega), Option.bind_some, ap_ok (by simp; omega), Option.bind_some]
    exact ih _ _ _ (by rw [hlen]; exact h.2) (by rw [hlen, List.length_append, List.length_singleton]; omega)
theorem behind_eq (i : Int) (hi : 0 ≤ i ∧ i ≤ 1000) (s : List SStep) (o : List Int) (i' : Int) (ys : List SStep) (o' p : List Int) (h : Ok p.length ys) (hb : p.length + s.length + 2 * ys.length ≤ 100000) : impl_Plan_behind.f i s o i' ys o' p = some (bh i ys p s) := by
  unfold impl_Plan_behind.f
  rw [cloneI_eq _ (by omega), Option.bind_some, behind_l0 i hi o ys p s 0 h hb]
  rfl
end Go.Proofs.Ytoegbcbdiggbjaa.Pure
