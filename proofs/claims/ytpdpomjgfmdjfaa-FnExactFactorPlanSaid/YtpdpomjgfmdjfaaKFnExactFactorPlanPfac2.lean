/- Pure: plans of one input put behind one another. -/
import Derived.Test.YtpdpomjgfmdjfaaKFnExactFactorPlanPfac1
set_option linter.unusedVariables false
set_option linter.unusedSimpArgs false
namespace Go.Proofs.Ytpdpomjgfmdjfaa.Pure
open Go.RowKit Go.Proofs.Ytpdpomjgfmdjfaa.E Go.Proofs.Ytpdpomjgfmdjfaa.E2 Go.Proofs.Ytpdpomjgfmdjfaa.Frame Go.Proofs.YtpdpomjgfmdjfaaW.PrintLast Go.Proofs.YtpdpomjgfmdjfaaW.PrintMore
open Go.Proofs.YtpdpomjgfmdjfaaW.PrintWords hiding mn mx
def at1 (l : List Int) (i : Int) : Int := l.getD i.toNat 0
theorem at1_gt {l : List Int} {i : Int} (h0 : 0 ≤ i) (h1 : i < l.length) : gt l i = some (at1 l i) := by
  have hi : i.toNat < l.length := by omega
  refine gt_some h0 ?_
  simp [at1, List.getD_eq_getElem?_getD, hi]
theorem at1_left {l m : List Int} {i : Int} (h0 : 0 ≤ i) (h1 : i < l.length) : at1 (l ++ m) i = at1 l i := by
  have hi : i.toNat < l.length := by omega
  simp [at1, List.getD_eq_getElem?_getD, List.getElem?_append_left hi]
theorem at1_last {l : List Int} {v : Int} : at1 (l ++ [v]) (l.length : Int) = v := by
  simp [at1, List.getD_eq_getElem?_getD]
theorem at1_mem {l : List Int} {i : Int} (h0 : 0 ≤ i) (h1 : i < l.length) : at1 l i ∈ l := by
  have hi : i.toNat < l.length := by omega
  simp only [at1, List.getD_eq_getElem?_getD, List.getElem?_eq_getElem hi, Option.getD_some]
  exact List.getElem_mem hi
/-- Exponents of a plan of one input. -/
def g1 (rs : List Int) : List SStep → List Int
  | [] => rs
  | y :: ys => g1 (rs ++ [addC (at1 rs y.f0) (at1 rs y.f1)]) ys
theorem g1_len (rs : List Int) (ys : List SStep) : (g1 rs ys).length = rs.length + ys.length := by
  induction ys generalizing rs with
  | nil => rfl
  | cons y ys ih => rw [g1, ih, List.length_append, List.length_singleton, List.length_cons]; omega
theorem g1_append (rs : List Int) (ys zs : List SStep) : g1 rs (ys ++ zs) = g1 (g1 rs ys) zs := by
  induction ys generalizing rs with
  | nil => rfl
  | cons y ys ih => rw [List.cons_append, g1, ih, g1]
theorem fB_append (i : Int) (ys zs : List SStep) (j : Int) : fB i (ys ++ zs) j = (fB i ys j && fB i zs (j + ys.length)) := by
  induction ys generalizing j with
  | nil => simp [fB]
  | cons y ys ih =>
    rw [List.cons_append, fB, ih, fB, Bool.and_assoc, List.length_cons]
    congr 3
    omega
theorem exGo_g1 (ys : List SStep) (rs : List Int) (j : Int) (hj : 0 ≤ j) (hl : (rs.length : Int) = 1 + j) (hb : rs.length + ys.length ≤ 100000) (hf : fB 1 ys j = true) : exGo (rs.map fun e => [e]) ys = (g1 rs ys).map fun e => [e] := by
  induction ys generalizing rs j with
  | nil => rfl
  | cons y ys ih =>
    simp only [fB, Bool.and_eq_true, decide_eq_true_eq] at hf
    obtain ⟨⟨k0, k1, k2⟩, k3⟩ := hf
    simp only [List.length_cons] at hb
    rw [w64_id (by omega)] at k2
    have key : ∀ i : Int, 0 ≤ i → i < rs.length → (rs.map fun e => [e]).getD i.toNat [] = [at1 rs i] := fun i h0 h1 => by
      have hi : i.toNat < rs.length := by omega
      simp [at1, List.getD_eq_getElem?_getD, hi]
    rw [exGo, g1, key _ k0 (by omega), key _ (by omega) (by omega)]
    have := ih (rs ++ [addC (at1 rs y.f0) (at1 rs y.f1)]) (j + 1) (by omega) (by rw [List.length_append, List.length_singleton]; omega) (by rw [List.length_append, List.length_singleton]; omega) k3
    rw [← this, List.map_append]
    rfl
theorem exps_g1 (s : List SStep) (hs : s.length ≤ 1000) (hf : fB 1 s 0 = true) : exps 1 s = (g1 [1] s).map fun e => [e] :=
  exGo_g1 s [1] 0 (by omega) rfl (by simp; omega) hf
/-- A good plan of one input and one output. -/
theorem good1 {s : List SStep} {v : Int} (hs : s.length ≤ 40) (hf : fB 1 s 0 = true) (hv : 0 ≤ v ∧ v ≤ s.length) (he : ∀ e ∈ g1 [1] s, 0 ≤ e ∧ e ≤ 1000000) : good 1 s [v] = true := by
  have h1 : (exps (1 : Int).toNat s).all (aB 0 1000000) = true := by
    rw [show (1 : Int).toNat = 1 from rfl, exps_g1 s (by omega) hf, List.all_eq_true]
    intro r hr
    obtain ⟨e, he', rfl⟩ := List.mem_map.1 hr
    simp [aB, he e he']
  have h2 : aB 0 (w64 (w64 (1 + (s.length : Int)) - 1)) [v] = true := by
    rw [w64_id (x := 1 + (s.length : Int)) (by omega), w64_id (by omega)]
    simp [aB]
    omega
  unfold good
  rw [h1, h2, hf, decide_eq_true hs]
  rfl
end Go.Proofs.Ytpdpomjgfmdjfaa.Pure
