/- Pure: the powers of a plan told by values; another plan's steps behind; sums of rows. -/
import Derived.Test.YtoegbcbdiggbjaaKFnReorderedPlansPlaws
import Derived.Test.YtoegbcbdiggbjaaKFnReorderedPlansPsame
import Derived.Test.YtoegbcbdiggbjaaKFnReorderedPlansPtrim
set_option linter.unusedVariables false
set_option linter.unusedSimpArgs false
namespace Go.Proofs.Ytoegbcbdiggbjaa.Pure
open Go.RowKit Go.Proofs.Ytoegbcbdiggbjaa.E Go.Proofs.Ytoegbcbdiggbjaa.RO Go.Proofs.Ytoegbcbdiggbjaa.Frame Go.Proofs.YtoegbcbdiggbjaaW.PrintLast Go.Proofs.YtoegbcbdiggbjaaW.PrintMore
open Go.Proofs.YtoegbcbdiggbjaaW.PrintWords hiding mn mx
/-- The exponents of a value. -/
theorem good_row {I : Nat} {s : List SStep} {o : List Int} (h : Good I s o) {v : Int} (h0 : 0 ≤ v) (h1 : v < ((I + s.length : Nat) : Int)) : ((exps I s).getD v.toNat []).length = I ∧ ∀ j : Nat, j < I → rg ((exps I s).getD v.toNat []) (j : Int) = rg (vl s (unitR I j)) v := by
  obtain ⟨e1, e2⟩ := exps_len h.inp h.stp h.ok
  have hv : v.toNat < (exps I s).length := by omega
  constructor
  · rw [List.getD_eq_getElem?_getD, List.getElem?_eq_getElem hv]
    exact (e2 _ (List.getElem_mem hv)).1
  · intro j hj
    rw [exps_col h.ok hj v.toNat (by omega), show ((v.toNat : Nat) : Int) = v by omega]
    unfold capI
    rw [if_pos (by have := h.le j hj v h0 h1; omega)]
theorem row_ext {l m : List Int} {n : Nat} (hl : l.length = n) (hm : m.length = n) (h : ∀ j : Nat, j < n → rg l (j : Int) = rg m (j : Int)) : l = m := by
  refine ext_rgL (by omega) fun v h0 h1 => ?_
  obtain ⟨j, rfl⟩ := Int.eq_ofNat_of_zero_le h0
  exact h j (by omega)
theorem pw_eq {I : Nat} {s : List SStep} {o : List Int} (h : Good I s o) {s' : List SStep} {o' : List Int} (h' : Good I s' o') (hl : o.length = o'.length) (he : ∀ i : Nat, i < o.length → ∀ j : Nat, j < I → rg (vl s (unitR I j)) (rg o (i : Int)) = rg (vl s' (unitR I j)) (rg o' (i : Int))) : pw I s o = pw I s' o' := by
  unfold pw
  refine List.ext_getElem (by simpa using hl) fun i h1 h2 => ?_
  rw [List.length_map] at h1 h2
  rw [List.getElem_map, List.getElem_map]
  have q := h.os o[i] (List.getElem_mem h1)
  have q' := h'.os o'[i] (List.getElem_mem h2)
  obtain ⟨r1, r2⟩ := good_row h q.1 q.2
  obtain ⟨r1', r2'⟩ := good_row h' q'.1 q'.2
  refine row_ext r1 r1' fun j hj => ?_
  rw [r2 j hj, r2' j hj]
  have := he i h1 j hj
  rwa [rg_nat h1, rg_nat h2] at this
theorem same_ev {I : Nat} {s : List SStep} {o : List Int} (h : Good I s o) {I' : Nat} {s' : List SStep} {o' : List Int} (h' : Good I' s' o') : Ev (fun k => impl_SamePowers.f k (I : Int) s o (I' : Int) s' o') (sameB I s o I' s' o', true) := by
  have e1 := isPlan_ev (I : Int) s o
  have e2 := isPlan_ev (I' : Int) s' o'
  rw [good_iff.2 h] at e1
  rw [good_iff.2 h'] at e2
  unfold impl_SamePowers.f
  exact bind e1 (pos rfl (bind e2 (pos rfl (bind0 (impl_same h.form h'.form) (ret _)))))
theorem same_yes {I : Nat} {s : List SStep} {o : List Int} (h : Good I s o) {s' : List SStep} {o' : List Int} (h' : Good I s' o') (hl : o.length = o'.length) (he : ∀ i : Nat, i < o.length → ∀ j : Nat, j < I → rg (vl s (unitR I j)) (rg o (i : Int)) = rg (vl s' (unitR I j)) (rg o' (i : Int))) : Ev (fun k => impl_SamePowers.f k (I : Int) s o (I : Int) s' o') (true, true) := by
  have e := same_ev h h'
  have : sameB I s o I s' o' = true := by
    unfold sameB
    rw [pw_eq h h' hl he]
    simp
  rwa [this] at e
/-! another plan's steps behind -/
end Go.Proofs.Ytoegbcbdiggbjaa.Pure
