/- Pure: laws' arguments: their sizes, their copies; lists searched. -/
import Derived.Test.YtoegbcbdiggbjaaKFnJoinedPlansPgood2
set_option linter.unusedVariables false
set_option linter.unusedSimpArgs false
namespace Go.Proofs.Ytoegbcbdiggbjaa.Pure
open Go.RowKit Go.Proofs.Ytoegbcbdiggbjaa.E Go.Proofs.Ytoegbcbdiggbjaa.JP Go.Proofs.Ytoegbcbdiggbjaa.Frame Go.Proofs.YtoegbcbdiggbjaaW.PrintLast Go.Proofs.YtoegbcbdiggbjaaW.PrintMore
open Go.Proofs.YtoegbcbdiggbjaaW.PrintWords hiding mn mx
/-! lists searched -/
theorem l1Own_eq (l : List Int) (h : l.length ≤ 1000000000) : spec_l1Own.f l = some l := by
  unfold spec_l1Own.f
  rw [ap_ok (by simpa using h)]
  rfl
/-- A number put into a rising list, as the code does it. -/
def put : List Int → Int → List Int
  | [], a => [a]
  | y :: ys, a => if y < a then y :: put ys a else if y = a then y :: ys else a :: y :: ys
def pre : List Int → Int → Nat
  | [], _ => 0
  | y :: ys, a => if y < a then pre ys a + 1 else 0
/-! rows of bools as functions -/
def tb (M : Nat) (f : Int → Bool) : List Bool := (List.range M).map fun (j : Nat) => f (j : Int)
theorem tb_len (M : Nat) (f : Int → Bool) : (tb M f).length = M := by simp [tb]
theorem tb_ext {M : Nat} {f g : Int → Bool} (h : ∀ u : Int, 0 ≤ u → u < M → f u = g u) : tb M f = tb M g := by
  unfold tb
  refine List.map_congr_left fun j hj => h _ (by omega) ?_
  have := List.mem_range.1 hj
  omega
theorem tb_gt {M : Nat} {f : Int → Bool} {v : Int} (h0 : 0 ≤ v) (h1 : v < M) : gt (tb M f) v = some (f v) := by
  obtain ⟨j, rfl⟩ := Int.eq_ofNat_of_zero_le h0
  rw [gt_nat (by rw [tb_len]; omega)]
  simp [tb]
theorem tb_st {M : Nat} {f : Int → Bool} {v : Int} {b : Bool} (h0 : 0 ≤ v) (h1 : v < M) : st (tb M f) v b = some (tb M (fun u => if u = v then b else f u)) := by
  obtain ⟨j, rfl⟩ := Int.eq_ofNat_of_zero_le h0
  rw [st_nat (by rw [tb_len]; omega)]
  congr 1
  apply List.ext_getElem
  · simp [tb]
  · intro n k1 k2
    rw [List.getElem_set]
    simp only [tb, List.getElem_map, List.getElem_range]
    by_cases h : j = n
    · subst h
      simp
    · rw [if_neg h, if_neg (by omega)]
theorem tb_mk {M : Nat} {n : Int} (h : n = (M : Int)) (hM : M ≤ 1000000) : mk0 n false = some (tb M fun _ => false) := by
  subst h
  unfold mk0
  rw [if_pos (by omega), Int.toNat_natCast]
  congr 1
  apply List.ext_getElem
  · simp [tb]
  · intro n k1 k2
    simp [tb]
end Go.Proofs.Ytoegbcbdiggbjaa.Pure
