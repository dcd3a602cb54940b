/- The laws' comparison of plans. -/
import Derived.Test.YtpdpomjgfmdjfaaKFnExactCheckRegCodeZPl
import Derived.Test.YtpdpomjgfmdjfaaKFnExactCheckRegCodeZEqIntS
import Derived.Test.YtpdpomjgfmdjfaaKFnExactCheckRegCodeQ0
import Derived.Test.YtpdpomjgfmdjfaaKFnExactCheckRegCodeQ5
namespace Go.Proofs.Ytpdpomjgfmdjfaa.Pure
open Go.RowKit Go.Proofs.Ytpdpomjgfmdjfaa.Z Go.Proofs.Ytpdpomjgfmdjfaa.E Go.Proofs.YtpdpomjgfmdjfaaW.PrintWords Go.Proofs.YtpdpomjgfmdjfaaW.PrintLast Go.Proofs.YtpdpomjgfmdjfaaW.PrintMore
theorem eqStepS_refl (l : List St) (hm : l.length ≤ 1048576) : Ev (fun k => laws_eqStepS.f k l l) true := by
 have key : ∀ (d j : Nat), j + d = l.length → Ev (fun k => laws_eqStepS.l0 k l l j) true := by
  intro d
  induction d with
  | zero =>
   intro j hj
   refine shift ?_
   simp only [laws_eqStepS.l0]
   exact neg (by omega) (ret _)
  | succ d ih =>
   intro j hj
   refine shift ?_
   simp only [laws_eqStepS.l0]
   refine pos (by omega) (pos (by omega) (pos (by omega) (bind0 (a := true) (by unfold laws_eqStep.f; simp) (pos rfl ?_))))
   rw [zb8 (by omega)]
   exact ih (j + 1) (by omega)
 unfold laws_eqStepS.f
 exact pos rfl (key l.length 0 (by omega))
theorem eqPlan_refl (n : Int) (l : List St) (o : List Int) (hl : l.length ≤ 1048576) (ho : o.length ≤ 1048576) : Ev (fun k => laws_eqPlan.f k n l o n l o) true := by
 have e1 := eqIntS_ev o o (by omega)
 rw [decide_eq_true rfl] at e1
 unfold laws_eqPlan.f
 exact pos rfl (bind (eqStepS_refl l hl) (pos rfl (bind e1 (pos rfl (ret _)))))
end Go.Proofs.Ytpdpomjgfmdjfaa.Pure
