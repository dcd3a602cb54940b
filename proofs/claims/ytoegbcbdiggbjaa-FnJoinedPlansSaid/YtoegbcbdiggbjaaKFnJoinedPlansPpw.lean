/- Pure: the powers of a plan told by values; another plan's steps behind; sums of rows. -/
import Derived.Test.YtoegbcbdiggbjaaKFnJoinedPlansPlaws
import Derived.Test.YtoegbcbdiggbjaaKFnJoinedPlansPsame
import Derived.Test.YtoegbcbdiggbjaaKFnJoinedPlansPtrim
set_option linter.unusedVariables false
set_option linter.unusedSimpArgs false
namespace Go.Proofs.Ytoegbcbdiggbjaa.Pure
open Go.RowKit Go.Proofs.Ytoegbcbdiggbjaa.E Go.Proofs.Ytoegbcbdiggbjaa.JP Go.Proofs.Ytoegbcbdiggbjaa.Frame Go.Proofs.YtoegbcbdiggbjaaW.PrintLast Go.Proofs.YtoegbcbdiggbjaaW.PrintMore
open Go.Proofs.YtoegbcbdiggbjaaW.PrintWords hiding mn mx
/-- The exponents of a value. -/
theorem good_row {I : Nat} {s : List SStep} {o : List Int} (h : Good I s o) {v : Int} (h0 : 0 ≤ v) (h1 : v < ((I + s.length : Nat) : Int)) : ((exps I s).getD v.toNat []).length = I ∧ ∀ j : Nat, j < I → rg ((exps I s).getD v.toNat []) (j : Int) = rg (vl s (unitR I j)) v := by
  obtain ⟨e1, e2⟩ := exps_len h.inp h.stp h.ok
  have hv : v.toNat < (exps I s).length := by omega
  constructor
  · rw [List.getD_eq_getElem?_getD, List.getElem?_eq_getElem hv]
    exact (e2 _ (List.getElem_mem hv)).1
  · intro j hj
    rw [exps_col h.ok hj v.toNat (by omega), show ((v.toNat : Nat) : Int) = v by omega]
    unfold capI
    rw [if_pos (by have := h.le j hj v h0 h1; omega)]
theorem row_ext {l m : List Int} {n : Nat} (hl : l.length = n) (hm : m.length = n) (h : ∀ j : Nat, j < n → rg l (j : Int) = rg m (j : Int)) : l = m := by
  refine ext_rgL (by omega) fun v h0 h1 => ?_
  obtain ⟨j, rfl⟩ := Int.eq_ofNat_of_zero_le h0
  exact h j (by omega)
theorem pw_eq {I : Nat} {s : List SStep} {o : List Int} (h : Good I s o) {s' : List SStep} {o' : List Int} (h' : Good I s' o') (hl : o.length = o'.length) (he : ∀ i : Nat, i < o.length → ∀ j : Nat, j < I → rg (vl s (unitR I j)) (rg o (i : Int)) = rg (vl s' (unitR I j)) (rg o' (i : Int))) : pw I s o = pw I s' o' := by
  unfold pw
  refine List.ext_getElem (by simpa using hl) fun i h1 h2 => ?_
  rw [List.length_map] at h1 h2
  rw [List.getElem_map, List.getElem_map]
  have q := h.os o[i] (List.getElem_mem h1)
  have q' := h'.os o'[i] (List.getElem_mem h2)
  obtain ⟨r1, r2⟩ := good_row h q.1 q.2
  obtain ⟨r1', r2'⟩ := good_row h' q'.1 q'.2
  refine row_ext r1 r1' fun j hj => ?_
  rw [r2 j hj, r2' j hj]
  have := he i h1 j hj
  rwa [rg_nat h1, rg_nat h2] at this
theorem same_ev {I : Nat} {s : List SStep} {o : List Int} (h : Good I s o) {I' : Nat} {s' : List SStep} {o' : List Int} (h' : Good I' s' o') : Ev (fun k => impl_SamePowers.f k (I : Int) s o (I' : Int) s' o') (sameB I s o I' s' o', true) := by
  have e1 := isPlan_ev (I : Int) s o
  have e2 := isPlan_ev (I' : Int) s' o'
  rw [good_iff.2 h] at e1
  rw [good_iff.2 h'] at e2
  unfold impl_SamePowers.f
  exact bind e1 (pos rfl (bind e2 (pos rfl (bind0 (impl_same h.form h'.form) (ret _)))))
theorem same_yes {I : Nat} {s : List SStep} {o : List Int} (h : Good I s o) {s' : List SStep} {o' : List Int} (h' : Good I s' o') (hl : o.length = o'.length) (he : ∀ i : Nat, i < o.length → ∀ j : Nat, j < I → rg (vl s (unitR I j)) (rg o (i : Int)) = rg (vl s' (unitR I j)) (rg o' (i : Int))) : Ev (fun k => impl_SamePowers.f k (I : Int) s o (I : Int) s' o') (true, true) := by
  have e := same_ev h h'
  have : sameB I s o I s' o' = true := by
    unfold sameB
    rw [pw_eq h h' hl he]
    simp
  rwa [this] at e
/-! another plan's steps behind -/
theorem bh_pre (i : Int) (ys : List SStep) (p : List Int) (s : List SStep) : ∃ t, (bh i ys p s).2 = s ++ t := by
  induction ys generalizing p s with
  | nil => exact ⟨[], by simp [bh]⟩
  | cons y ys ih =>
    simp only [bh]
    obtain ⟨t, e⟩ := ih (p ++ [i + (s.length : Int)]) (s ++ [⟨mn (rg (p ++ [i + (s.length : Int)]) y.f0) (rg (p ++ [i + (s.length : Int)]) y.f1), mx (rg (p ++ [i + (s.length : Int)]) y.f0) (rg (p ++ [i + (s.length : Int)]) y.f1)⟩])
    exact ⟨_, by rw [e, List.append_assoc]⟩
theorem bh_vl {J : Nat} (x : List Int) (hx : x.length = J) (ys : List SStep) (p : List Int) (s : List SStep) (l : List Int) (hl : l.length = p.length) (hok : Ok p.length ys) (hs : Ok J s) (hp : ∀ v : Int, 0 ≤ v → v < (p.length : Int) → (0 ≤ rg p v ∧ rg p v < ((J + s.length : Nat) : Int)) ∧ rg (vl s x) (rg p v) = rg l v) :
    Ok J (bh (J : Int) ys p s).2 ∧ ∀ v : Int, 0 ≤ v → v < ((p.length + ys.length : Nat) : Int) → (0 ≤ rg (bh (J : Int) ys p s).1 v ∧ rg (bh (J : Int) ys p s).1 v < ((J + (bh (J : Int) ys p s).2.length : Nat) : Int)) ∧ rg (vl (bh (J : Int) ys p s).2 x) (rg (bh (J : Int) ys p s).1 v) = rg (vl ys l) v := by
  induction ys generalizing p s l with
  | nil => exact ⟨hs, fun v h0 h1 => hp v h0 (by simpa using h1)⟩
  | cons y ys ih =>
    have q := hok.1
    have h0 := hp y.f0 q.1 (by omega)
    have h1 := hp y.f1 (by omega) (by omega)
    have e0 : rg (p ++ [(J : Int) + (s.length : Int)]) y.f0 = rg p y.f0 := rg_app q.1 (by omega)
    have e1 : rg (p ++ [(J : Int) + (s.length : Int)]) y.f1 = rg p y.f1 := rg_app (by omega) (by omega)
    simp only [bh]
    rw [e0, e1]
    have hst : Ok J (s ++ [⟨mn (rg p y.f0) (rg p y.f1), mx (rg p y.f0) (rg p y.f1)⟩]) := by
      refine Ok.append.2 ⟨hs, ⟨?_, trivial⟩⟩
      show 0 ≤ mn _ _ ∧ mn _ _ ≤ mx _ _ ∧ mx _ _ < _
      unfold mn mx
      split <;> split <;> omega
    have hn := vl_len s x
    have hvl : vl (s ++ [⟨mn (rg p y.f0) (rg p y.f1), mx (rg p y.f0) (rg p y.f1)⟩]) x = vl s x ++ [rg l y.f0 + rg l y.f1] := by
      rw [vl_append]
      show _ ++ [_] = _
      have := add_mnmx (f := rg (vl s x)) (rg p y.f0) (rg p y.f1)
      rw [h0.2, h1.2] at this
      rw [this]
    have := ih (p ++ [(J : Int) + (s.length : Int)]) (s ++ [⟨mn (rg p y.f0) (rg p y.f1), mx (rg p y.f0) (rg p y.f1)⟩]) (l ++ [rg l y.f0 + rg l y.f1]) (by simp [hl]) (by rw [List.length_append, List.length_singleton]; exact hok.2) hst (fun v v0 v1 => by
      rw [List.length_append, List.length_singleton] at v1
      rw [hvl, List.length_append, List.length_singleton]
      by_cases c : v < (p.length : Int)
      · rw [rg_app v0 c, rg_app (l := l) v0 (by omega)]
        have := hp v v0 c
        rw [rg_app this.1.1 (by omega)]
        exact ⟨by omega, this.2⟩
      · rw [rg_new (l := p) (by omega), rg_new (l := l) (by omega), rg_new (by omega)]
        exact ⟨by omega, rfl⟩)
    refine ⟨this.1, fun v v0 v1 => ?_⟩
    simp only [List.length_cons] at v1
    exact this.2 v v0 (by rw [List.length_append, List.length_singleton]; omega)
theorem then_l0 (i : Int) (hi : 0 ≤ i ∧ i ≤ 1000) (ys : List SStep) (p : List Int) (s : List SStep) (j : Int) (h : Ok p.length ys) (hb : p.length + s.length + 2 * ys.length ≤ 100000) : spec_plThen.l0 i ys p s j = some (bh i ys p s) := by
  induction ys generalizing p s j with
  | nil => rfl
  | cons y ys ih =>
    have h1 := h.1
    simp only [List.length_cons] at hb
    simp only [spec_plThen.l0, bh]
    rw [rg_gt (l := p) (by omega) (by omega), Option.bind_some, rg_gt (l := p) (by omega) (by omega), Option.bind_some, plStep_eq, Option.bind_some, ap_ok (by simp; omega), Option.bind_some, ap_ok (by simp; omega), Option.bind_some, rg_app (l := p) (by omega) (by omega), rg_app (l := p) (by omega) (by omega)]
    have e : w64 (w64 (i + ((s ++ [(⟨mn (rg p y.f0) (rg p y.f1), mx (rg p y.f0) (rg p y.f1)⟩ : SStep)]).length : Int)) - 1) = i + (s.length : Int) := by
      rw [List.length_append, List.length_singleton, w64_id (x := i + ((s.length + 1 : Nat) : Int)) (by omega), w64_id (by omega)]
      omega
    rw [e]
    exact ih _ _ _ (by rw [List.length_append, List.length_singleton]; exact h.2) (by rw [List.length_append, List.length_append, List.length_singleton, List.length_singleton]; omega)
theorem then_l1 (v ys o : List Int) (j : Int) (h : ∀ y ∈ ys, 0 ≤ y ∧ y < (v.length : Int)) (hb : o.length + ys.length ≤ 1000) : spec_plThen.l1 v ys o j = some (o ++ ys.map (rg v)) := by
  induction ys generalizing o j with
  | nil => simp [spec_plThen.l1]
  | cons y ys ih =>
    simp only [List.length_cons] at hb
    have hy := h y List.mem_cons_self
    simp only [spec_plThen.l1]
    rw [rg_gt hy.1 hy.2, Option.bind_some, ap_ok (by simp; omega), Option.bind_some, ih _ _ (fun z hz => h z (List.mem_cons_of_mem _ hz)) (by rw [List.length_append, List.length_singleton]; omega)]
    simp
theorem then_eq (i : Int) (hi : 0 ≤ i ∧ i ≤ 1000) (st : List SStep) (i' : Int) (ys : List SStep) (o p : List Int) (h : Ok p.length ys) (hb : p.length + st.length + 2 * ys.length ≤ 100000) (ho : ∀ y ∈ o, 0 ≤ y ∧ y < ((p.length + ys.length : Nat) : Int)) (hob : o.length ≤ 1000) : spec_plThen.f st i i' ys o p = some ((bh i ys p st).2, o.map (rg (bh i ys p st).1)) := by
  unfold spec_plThen.f
  rw [l1Own_eq _ (by omega), Option.bind_some, ap_ok (by simp; omega), Option.bind_some, List.nil_append, then_l0 i hi ys p st 0 h hb, Option.bind_some]
  have := bh_len i ys p st
  obtain ⟨⟨P, S⟩, hz⟩ : ∃ z, bh i ys p st = z := ⟨_, rfl⟩
  rw [hz] at this ⊢
  simp only at this ⊢
  rw [then_l1 P o [] 0 (fun y hy => by rw [this.1]; exact ho y hy) (by simpa using hob)]
  rfl
end Go.Proofs.Ytoegbcbdiggbjaa.Pure
