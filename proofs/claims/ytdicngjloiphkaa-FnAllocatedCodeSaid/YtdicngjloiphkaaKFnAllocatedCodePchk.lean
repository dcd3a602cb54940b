/- Pure: code's plan told, run and checked. -/
import Derived.Test.YtdicngjloiphkaaKFnAllocatedCodePsame
import Derived.Test.YtdicngjloiphkaaKFnAllocatedCodePcf
import Derived.Test.YtdicngjloiphkaaKFnAllocatedCodePdraw
set_option linter.unusedVariables false
set_option linter.unusedSimpArgs false
namespace Go.Proofs.Ytdicngjloiphkaa.Pure
open Go.RowKit Go.Proofs.Ytdicngjloiphkaa.E Go.Proofs.Ytdicngjloiphkaa.L7 Go.Proofs.Ytdicngjloiphkaa.Frame Go.Proofs.YtdicngjloiphkaaW.PrintLast Go.Proofs.YtdicngjloiphkaaW.PrintMore
open Go.Proofs.YtdicngjloiphkaaW.PrintWords hiding mn mx
/-- What RegCodePlan hands back. -/
def rcp (a : Int) (l1 : List Int) (l2 : List SRegOp) (l3 : List Int) : Int × List SStep × List Int × Bool := match codeP a l1 l2 l3 with | none => nul | some (s, o) => ((l1.length : Int), s, o, true)
theorem rcp_impl (a : Int) (l1 : List Int) (l2 : List SRegOp) (l3 : List Int) : Ev (fun k => impl_RegCodePlan.f k a l1 l2 l3) (rcp a l1 l2 l3) := by
  unfold impl_RegCodePlan.f
  exact bind (plan_ev a l1 l2 l3) (ret _)
theorem rSamePlan_refl (i : Int) (s : List SStep) (o : List Int) : laws_rSamePlan.f i s o i s o = some true := by
  have key : ∀ (d j : Nat), j + d = s.length → laws_rSamePlan.l0 s (s.drop j) (j : Int) = some (.inr ()) := by
    intro d
    induction d with
    | zero =>
      intro j hj
      rw [List.drop_eq_nil_of_le (by omega)]
      rfl
    | succ d ih =>
      intro j hj
      rw [List.drop_eq_getElem_cons (show j < s.length by omega)]
      simp only [laws_rSamePlan.l0]
      rw [gt_nat (show j < s.length by omega), Option.bind_some, if_pos (by simp), show (j : Int) + 1 = ((j + 1 : Nat) : Int) by omega]
      exact ih (j + 1) (by omega)
  unfold laws_rSamePlan.f
  rw [if_neg (by simp), if_neg (by simp), rSame_refl, Option.bind_some, if_pos rfl]
  have := key s.length 0 (by omega)
  rw [List.drop_zero] at this
  rw [show (0 : Int) = ((0 : Nat) : Int) from rfl, this]
  rfl
end Go.Proofs.Ytdicngjloiphkaa.Pure
