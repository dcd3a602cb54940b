/- Pure: the powers of a plan told by values; another plan's steps behind; sums of rows. -/
import Derived.Test.YtoegbcbdiggbjaaKFnRunsOfWordsPlaws
import Derived.Test.YtoegbcbdiggbjaaKFnRunsOfWordsPsame
import Derived.Test.YtoegbcbdiggbjaaKFnRunsOfWordsPtrim
set_option linter.unusedVariables false
set_option linter.unusedSimpArgs false
namespace Go.Proofs.Ytoegbcbdiggbjaa.Pure
open Go.RowKit Go.Proofs.Ytoegbcbdiggbjaa.E Go.Proofs.Ytoegbcbdiggbjaa.RW Go.Proofs.Ytoegbcbdiggbjaa.Frame Go.Proofs.YtoegbcbdiggbjaaW.PrintLast Go.Proofs.YtoegbcbdiggbjaaW.PrintMore
open Go.Proofs.YtoegbcbdiggbjaaW.PrintWords hiding mn mx
/-- The exponents of a value. -/
theorem good_row {I : Nat} {s : List SStep} {o : List Int} (h : Good I s o) {v : Int} (h0 : 0 ≤ v) (h1 : v < ((I + s.length : Nat) : Int)) : ((exps I s).getD v.toNat []).length = I ∧ ∀ j : Nat, j < I → rg ((exps I s).getD v.toNat []) (j : Int) = rg (vl s (unitR I j)) v := by
  obtain ⟨e1, e2⟩ := exps_len h.inp h.stp h.ok
  have hv : v.toNat < (exps I s).length := by omega
  constructor
  · rw [List.getD_eq_getElem?_getD, List.getElem?_eq_getElem hv]
    exact (e2 _ (List.getElem_mem hv)).1
  · intro j hj
    rw [exps_col h.ok hj v.toNat (by omega), show ((v.toNat : Nat) : Int) = v by omega]
    unfold capI
    rw [if_pos (by have := h.le j hj v h0 h1; omega)]
theorem pw_len (I : Nat) (s : List SStep) (o : List Int) : (pw I s o).length = o.length := by simp [pw]
theorem outEx_ev {I : Nat} {s : List SStep} {o : List Int} (h : Good I s o) : Ev (fun k => impl_OutputExponents.f k (I : Int) s o) (pw I s o, true) := by
  have e1 := isPlan_ev (I : Int) s o
  rw [good_iff.2 h] at e1
  unfold impl_OutputExponents.f
  exact bind e1 (pos rfl (bind0 (impl_pw h.form) (ret _)))
/-! another plan's steps behind -/
end Go.Proofs.Ytoegbcbdiggbjaa.Pure
