/- Pure: code run on residues, and its plan. -/
import Derived.Test.YtdicngjloiphkaaKFnAllocatedCodePreg2
import Derived.Test.YtdicngjloiphkaaKFnAllocatedCodePcode
set_option linter.unusedVariables false
set_option linter.unusedSimpArgs false
namespace Go.Proofs.Ytdicngjloiphkaa.Pure
open Go.RowKit Go.Proofs.Ytdicngjloiphkaa.E Go.Proofs.Ytdicngjloiphkaa.L7 Go.Proofs.Ytdicngjloiphkaa.Frame Go.Proofs.YtdicngjloiphkaaW.PrintLast Go.Proofs.YtdicngjloiphkaaW.PrintMore
open Go.Proofs.YtdicngjloiphkaaW.PrintWords hiding mn mx
def mulM (m x y : Int) : Int := (w64 (x * y)).tmod m
def runP (m : Int) : List SStep → List Int → List Int
  | [], v => v
  | y :: ys, v => runP m ys (v ++ [mulM m (rg v y.f0) (rg v y.f1)])
def runR (m : Int) : List SRegOp → List Int → List Int
  | [], v => v
  | y :: ys, v => runR m ys (v.set y.f0.toNat (mulM m (rg v y.f1) (rg v y.f2)))
theorem runP_len (m : Int) (ys : List SStep) (v : List Int) : (runP m ys v).length = v.length + ys.length := by
  induction ys generalizing v with
  | nil => rfl
  | cons y ys ih => rw [runP, ih, List.length_append, List.length_singleton, List.length_cons]; omega
/-- Registers hold the values that the code tells. -/
structure Rel (n : Nat) (l reg v : List Int) : Prop where
  len : l.length = n
  len2 : reg.length = n
  at_ : ∀ r, hs n r = true → rg l r ≠ -1 → (0 ≤ rg l r ∧ rg l r < (v.length : Int)) ∧ rg reg r = rg v (rg l r)
def insR : List Int → List Int → List Int → List Int
  | [], _, reg => reg
  | y :: ys, v, reg => insR ys (v.drop 1) (reg.set y.toNat (v.getD 0 0))
/-! the programs run -/
theorem impl_runP (m : Int) (hm : m ≠ 0) (ys : List SStep) (v : List Int) (i : Int) (I : Nat) (s : List SStep) (o : List Int) (hf : Form I s o) (j : Nat) (hs : s.drop j = ys) (hv : v.length = I + j) : impl_run_int.l0 m ys v i = some (runP m ys v) := by
  have hi := hf.inp
  have hn := hf.stp
  induction ys generalizing v i j with
  | nil => rfl
  | cons y ys ih =>
    have hy : s[j]? = some y := by
      have : (s.drop j)[0]? = some y := by rw [hs]; rfl
      rw [List.getElem?_drop] at this
      simpa using this
    have hj := (List.getElem?_eq_some_iff.1 hy).1
    have hst := hf.step hy
    have hd : s.drop (j + 1) = ys := by
      rw [← List.drop_drop, hs]
      rfl
    simp only [impl_run_int.l0, impl_RunResidues_1.f, runP]
    have hnz : nz m = some () := by
      unfold nz
      rw [if_neg hm]
    rw [rg_gt (by omega) (by omega), rg_gt (by omega) (by omega), hnz]
    simp only [Option.bind_some]
    rw [ap_ok (by simp; omega), Option.bind_some]
    exact ih _ _ (j + 1) hd (by rw [List.length_append, List.length_singleton]; omega)
theorem outputsOf_l0 (v ys o : List Int) (j : Int) (h : ∀ y ∈ ys, 0 ≤ y ∧ y < (v.length : Int)) (hb : o.length + ys.length ≤ 1000) : impl_outputsOf_int.l0 v ys o j = some (o ++ ys.map (rg v)) := by
  induction ys generalizing o j with
  | nil => simp [impl_outputsOf_int.l0]
  | cons y ys ih =>
    simp only [List.length_cons] at hb
    have q := h y List.mem_cons_self
    simp only [impl_outputsOf_int.l0]
    rw [rg_gt q.1 q.2, Option.bind_some, ap_ok (by simp; omega), Option.bind_some, ih _ _ (fun z hz => h z (List.mem_cons_of_mem _ hz)) (by rw [List.length_append, List.length_singleton]; omega)]
    simp
theorem res_l0 (m : Int) (l : List Int) (j : Int) (hj : 0 ≤ j) : ∃ r, slices_IndexFunc_int_int_3.l0 m l j = some r ∧ (aB 0 (w64 (m - 1)) l = true → r = .inr ()) ∧ (aB 0 (w64 (m - 1)) l = false → ∃ q, r = .inl q ∧ 0 ≤ q) := by
  induction l generalizing j with
  | nil => exact ⟨_, rfl, fun _ => rfl, fun h => by simp [aB] at h⟩
  | cons y ys ih =>
    simp only [slices_IndexFunc_int_int_3.l0, impl_residuesOk_1.f, in_eq, Option.bind_some]
    by_cases h : 0 ≤ y ∧ y ≤ w64 (m - 1)
    · obtain ⟨r, h1, h2, h3⟩ := ih (j + 1) (by omega)
      refine ⟨r, by simpa [h] using h1, fun ha => h2 ?_, fun ha => h3 ?_⟩
      · simpa [aB, h] using ha
      · simpa [aB, h] using ha
    · refine ⟨.inl j, by simp [decide_eq_false h], fun ha => ?_, fun _ => ⟨j, rfl, hj⟩⟩
      have : decide (0 ≤ y ∧ y ≤ w64 (m - 1)) = false := decide_eq_false h
      simp only [aB, List.all_cons, this, Bool.false_and] at ha
      cases ha
theorem residuesOk_eq (m : Int) (l : List Int) : impl_residuesOk.f l m = some (decide (2 ≤ m ∧ m ≤ 10000) && aB 0 (w64 (m - 1)) l) := by
  unfold impl_residuesOk.f impl_modulusOk.f slices_ContainsFunc_int_int_3.f slices_IndexFunc_int_int_3.f
  rw [in_eq]
  obtain ⟨r, h1, h2, h3⟩ := res_l0 m l 0 (by omega)
  rw [h1]
  by_cases c : 2 ≤ m ∧ m ≤ 10000
  · rw [decide_eq_true c]
    cases hb : aB 0 (w64 (m - 1)) l with
    | true =>
      obtain rfl := h2 hb
      rfl
    | false =>
      obtain ⟨q, rfl, hq⟩ := h3 hb
      simp [hq]
  · rw [decide_eq_false c]
    rfl
end Go.Proofs.Ytdicngjloiphkaa.Pure
