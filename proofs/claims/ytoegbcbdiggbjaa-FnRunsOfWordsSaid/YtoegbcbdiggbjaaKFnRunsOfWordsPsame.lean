/- Pure: powers of outputs compared, on both sides. -/
import Derived.Test.YtoegbcbdiggbjaaKFnRunsOfWordsPord
set_option linter.unusedVariables false
set_option linter.unusedSimpArgs false
namespace Go.Proofs.Ytoegbcbdiggbjaa.Pure
open Go.RowKit Go.Proofs.Ytoegbcbdiggbjaa.E Go.Proofs.Ytoegbcbdiggbjaa.RW Go.Proofs.Ytoegbcbdiggbjaa.Frame Go.Proofs.YtoegbcbdiggbjaaW.PrintLast Go.Proofs.YtoegbcbdiggbjaaW.PrintMore
open Go.Proofs.YtoegbcbdiggbjaaW.PrintWords hiding mn mx
/-- The powers of the outputs. -/
def pw (I : Nat) (s : List SStep) (o : List Int) : List (List Int) := o.map fun v => (exps I s).getD v.toNat []
theorem impl_pw_l0 {n : Nat} (hn : n ≤ 1000) (rs : List (List Int)) (hr : ∀ r ∈ rs, RowOk n r) (ys : List Int) (a : List (List Int)) (j : Int) (h : ∀ y ∈ ys, 0 ≤ y ∧ y < (rs.length : Int)) (hb : a.length + ys.length ≤ 1000) : impl_Plan_outputExponents.l0 rs ys a j = some (a ++ ys.map fun v => rs.getD v.toNat []) := by
  induction ys generalizing a j with
  | nil => simp [impl_Plan_outputExponents.l0]
  | cons y ys ih =>
    simp only [List.length_cons] at hb
    have q := h y List.mem_cons_self
    obtain ⟨g, ok⟩ := getD_ok hr q.1 q.2
    simp only [impl_Plan_outputExponents.l0, slices_Clone_int_int.f]
    rw [g, Option.bind_some, ap_ok (by rw [List.length_nil, ok.1]; omega), Option.bind_some, Option.bind_some, List.nil_append, ap_ok (by simp; omega), Option.bind_some, ih _ _ (fun z hz => h z (List.mem_cons_of_mem _ hz)) (by rw [List.length_append, List.length_singleton]; omega)]
    simp
theorem impl_pw {I : Nat} {s : List SStep} {o : List Int} (h : Form I s o) : impl_Plan_outputExponents.f (I : Int) s o = some (pw I s o) := by
  have h1 := h.inp
  have h2 := h.stp
  have h3 := h.out
  obtain ⟨_, e, hr, hl⟩ := exps_ev I (by omega) s o (by omega) h.fs
  unfold impl_Plan_outputExponents.f
  rw [e, Option.bind_some, impl_pw_l0 (n := I) (by omega) (exps I s) hr o [] 0 (fun y hy => by have := h.os y hy; rw [hl]; omega) (by simp; omega)]
  simp [pw]
/-- Are the powers of two plans the same? -/
def sameB (I : Nat) (s : List SStep) (o : List Int) (I' : Nat) (s' : List SStep) (o' : List Int) : Bool := decide (I = I') && decide (pw I s o = pw I' s' o')
end Go.Proofs.Ytoegbcbdiggbjaa.Pure
