/- Pure: the law of orders within registers. -/
import Derived.Test.YtdicngjloiphkaaKFnFewestRegistersPordB
import Derived.Test.YtdicngjloiphkaaKFnFewestRegistersPdraw
set_option linter.unusedVariables false
set_option linter.unusedSimpArgs false
namespace Go.Proofs.Ytdicngjloiphkaa.Pure
open Go.RowKit Go.Proofs.Ytdicngjloiphkaa.E Go.Proofs.Ytdicngjloiphkaa.FW Go.Proofs.Ytdicngjloiphkaa.Frame Go.Proofs.YtdicngjloiphkaaW.PrintLast Go.Proofs.YtdicngjloiphkaaW.PrintMore
open Go.Proofs.YtdicngjloiphkaaW.PrintWords hiding mn mx
def fewB (i : Int) (s : List SStep) (o : List Int) : Bool := good i s o && decide (s.length ≤ 8)
/-- How many orders are within r registers. -/
def cnt (I : Nat) (s : List SStep) (o : List Int) (r : Int) : Nat := ((ords (I : Int) s s.length []).filter fun l => decide (press I s o l ≤ r)).length
theorem fold_cnt (I : Nat) (s : List SStep) (o : List Int) (r : Int) (ls : List (List Int)) (acc : Nat) (h : acc + ls.length ≤ 1000000000) : ls.foldl (stepW I s o r) (acc : Int) = ((acc + (ls.filter fun l => decide (press I s o l ≤ r)).length : Nat) : Int) := by
  induction ls generalizing acc with
  | nil => rfl
  | cons l ls ih =>
    simp only [List.length_cons] at h
    rw [List.foldl_cons, stepW]
    by_cases c : press I s o l ≤ r
    · rw [if_pos c, w64_id (by omega), show (acc : Int) + 1 = ((acc + 1 : Nat) : Int) by omega, ih _ (by omega), List.filter_cons_of_pos (by simpa using c), List.length_cons]
      congr 1
      omega
    · rw [if_neg c, ih _ (by omega), List.filter_cons_of_neg (by simpa using c)]
/-! what is needed after some steps -/
theorem drawInputs {c : List Int} (hc : Bytes c) (hl : c.length ≤ 1048576) {a : Int} {m : Nat} (ha : Bud a (m + 1)) (sd : Int) : ∃ y a' sd', spec_l1Cur_inputs.f c a sd = some (y, a', sd') ∧ (1 ≤ y ∧ y ≤ 4) ∧ Bud a' m := by
  obtain ⟨y, a', sd', e, hy, hb⟩ := among_ev hc hl ha sd [1, 1, 2, 2, 3, 4] (by simp)
  unfold spec_l1Cur_inputs.f
  rw [e]
  refine ⟨_, _, _, rfl, ?_, hb⟩
  simp only [List.mem_cons, List.not_mem_nil, or_false] at hy
  omega
end Go.Proofs.Ytdicngjloiphkaa.Pure
