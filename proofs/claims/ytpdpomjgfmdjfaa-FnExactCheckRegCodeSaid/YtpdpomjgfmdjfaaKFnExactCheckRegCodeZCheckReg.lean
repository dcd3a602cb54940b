/- Code checked by its powers: the reference's answer and the program's. -/
import Derived.Test.YtpdpomjgfmdjfaaKFnExactCheckRegCodeZReg
import Derived.Test.YtpdpomjgfmdjfaaKFnExactCheckRegCodeZSame
import Derived.Test.YtpdpomjgfmdjfaaKFnExactCheckRegCodeQ0
import Derived.Test.YtpdpomjgfmdjfaaKFnExactCheckRegCodeQ6
namespace Go.Proofs.Ytpdpomjgfmdjfaa.Pure
open Go.RowKit Go.Proofs.Ytpdpomjgfmdjfaa.Z Go.Proofs.Ytpdpomjgfmdjfaa.E Go.Proofs.YtpdpomjgfmdjfaaW.PrintWords Go.Proofs.YtpdpomjgfmdjfaaW.PrintLast Go.Proofs.YtpdpomjgfmdjfaaW.PrintMore
theorem check_both (a0 : Int) (l1 : List Int) (l2 : List Rop) (l3 : List Int) (n : Int) (l : List St) (o : List Int) : ∃ b1 b2 : Bool, Ev (fun k => spec_CheckRegCode.f k a0 l1 l2 l3 n l o) (b1, b2) ∧ Ev (fun k => impl_CheckRegCode.f k a0 l1 l2 l3 n l o) (b1, b2) := by
 obtain ⟨p1, p2, p3, b, g1, g2, g3⟩ := plan_both a0 l1 l2 l3
 unfold spec_CheckRegCode.f impl_CheckRegCode.f
 cases b with
 | false => exact ⟨false, false, bind g1 (neg (by simp) (ret _)), bind g2 (neg (by simp) (ret _))⟩
 | true =>
  have h1 := (g3 rfl).2.2
  rw [if_pos rfl] at g2
  have e1 := plGood_ev n l o
  have e2 := IsPlan_ev n l o
  cases h2 : goodB n l o with
  | false =>
   rw [h2] at e1 e2
   exact ⟨false, false, bind g1 (pos rfl (bind e1 (neg (by simp) (ret _)))), bind g2 (pos rfl (bind e2 (neg (by simp) (ret _))))⟩
  | true =>
   rw [h2] at e1 e2
   obtain ⟨b1, q1, q2⟩ := same_both h1 h2
   exact ⟨b1, true, bind g1 (pos rfl (bind e1 (pos rfl (bindr q1 rfl)))), bind g2 (pos rfl (bind e2 (pos rfl (bindr q2 rfl))))⟩
end Go.Proofs.Ytpdpomjgfmdjfaa.Pure
