/- Pure: what laws about plans ask: the same numbers, steps, plans; values renamed; copies. -/
import Derived.Test.YtnnlfipcoahcnaaGreatDoorKFnTextsOfPlansPval
set_option linter.unusedVariables false
set_option linter.unusedSimpArgs false
namespace Go.Proofs.YtnnlfipcoahcnaaGreatDoor.Pure
open Go.RowKit Go.Proofs.YtnnlfipcoahcnaaGreatDoor.E Go.Proofs.YtnnlfipcoahcnaaGreatDoor.G2 Go.Proofs.YtnnlfipcoahcnaaGreatDoor.Frame Go.Proofs.YtnnlfipcoahcnaaGreatDoorW.PrintLast Go.Proofs.YtnnlfipcoahcnaaGreatDoorW.PrintMore
open Go.Proofs.YtnnlfipcoahcnaaGreatDoorW.PrintWords hiding mn mx
theorem pSameInts_refl (l : List Int) : laws_pSameInts.f l l = some true := by
  have key : ∀ (d j : Nat), j + d = l.length → laws_pSameInts.l0 l (l.drop j) (j : Int) = some (.inr ()) := by
    intro d
    induction d with
    | zero =>
      intro j hj
      rw [List.drop_eq_nil_of_le (by omega)]
      rfl
    | succ d ih =>
      intro j hj
      rw [List.drop_eq_getElem_cons (show j < l.length by omega)]
      simp only [laws_pSameInts.l0]
      rw [gt_nat (show j < l.length by omega), Option.bind_some, if_neg (by simp), show (j : Int) + 1 = ((j + 1 : Nat) : Int) by omega]
      exact ih (j + 1) (by omega)
  unfold laws_pSameInts.f
  rw [if_neg (by simp)]
  have := key l.length 0 (by omega)
  rw [List.drop_zero] at this
  rw [show (0 : Int) = ((0 : Nat) : Int) from rfl, this]
  rfl
theorem pSameSteps_refl (l : List SStep) : laws_pSameSteps.f l l = some true := by
  have key : ∀ (d j : Nat), j + d = l.length → laws_pSameSteps.l0 l (l.drop j) (j : Int) = some (.inr ()) := by
    intro d
    induction d with
    | zero =>
      intro j hj
      rw [List.drop_eq_nil_of_le (by omega)]
      rfl
    | succ d ih =>
      intro j hj
      rw [List.drop_eq_getElem_cons (show j < l.length by omega)]
      simp only [laws_pSameSteps.l0]
      rw [gt_nat (show j < l.length by omega), Option.bind_some, if_pos (by simp), show (j : Int) + 1 = ((j + 1 : Nat) : Int) by omega]
      exact ih (j + 1) (by omega)
  unfold laws_pSameSteps.f
  rw [if_neg (by simp)]
  have := key l.length 0 (by omega)
  rw [List.drop_zero] at this
  rw [show (0 : Int) = ((0 : Nat) : Int) from rfl, this]
  rfl
theorem pSamePlan_refl (i : Int) (s : List SStep) (o : List Int) : laws_pSamePlan.f i s o i s o = some true := by
  unfold laws_pSamePlan.f
  rw [if_pos rfl, pSameSteps_refl, Option.bind_some, if_pos rfl, pSameInts_refl]
  rfl
def toldP (i : Int) (s : List SStep) (o : List Int) : Int × List SStep × List Int × Bool := if good i s o = true then (i, s, o, true) else (0, [], [], false)
/-- The places of another plan's values when its steps are put behind. -/
def bh (i : Int) : List SStep → List Int → List SStep → List Int × List SStep
  | [], p, s => (p, s)
  | y :: ys, p, s => bh i ys (p ++ [i + (s.length : Int)]) (s ++ [⟨mn (rg (p ++ [i + (s.length : Int)]) y.f0) (rg (p ++ [i + (s.length : Int)]) y.f1), mx (rg (p ++ [i + (s.length : Int)]) y.f0) (rg (p ++ [i + (s.length : Int)]) y.f1)⟩])
end Go.Proofs.YtnnlfipcoahcnaaGreatDoor.Pure
