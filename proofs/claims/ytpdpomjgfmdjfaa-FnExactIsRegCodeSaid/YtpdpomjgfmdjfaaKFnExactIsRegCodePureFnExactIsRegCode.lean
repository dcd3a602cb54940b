/- The law of IsRegCode in plain Lean: the program's answer is the reference's, for all code. -/
import Derived.Test.YtpdpomjgfmdjfaaKFnExactIsRegCodeZRegArg
import Derived.Test.YtpdpomjgfmdjfaaKFnExactIsRegCodeQ0
import Derived.Test.YtpdpomjgfmdjfaaKFnExactIsRegCodeQ2
import Derived.Test.YtpdpomjgfmdjfaaKFnExactIsRegCodeQ4
import Derived.Test.YtpdpomjgfmdjfaaKFnExactIsRegCodeQ5
namespace Go.Proofs.Ytpdpomjgfmdjfaa.Pure
open Go.RowKit Go.Proofs.Ytpdpomjgfmdjfaa.Z Go.Proofs.Ytpdpomjgfmdjfaa.E Go.Proofs.YtpdpomjgfmdjfaaW.PrintWords Go.Proofs.YtpdpomjgfmdjfaaW.PrintLast Go.Proofs.YtpdpomjgfmdjfaaW.PrintMore
theorem FnExactIsRegCode : laws_FnExactIsRegCode.Pure := by
  intro a0 l1 l2 l3 _ h1 _ h2 _ h3 _
  refine some_of ?_
  unfold laws_FnExactIsRegCode.f
  refine bind0 (szRegCode_eq a0 l1 l2 l3 1048576 (Nat.le_refl _) h1 h2 h3) ?_
  by_cases h : l1.length + l2.length + l3.length ≤ 1048576
  · rw [if_pos h]
    obtain ⟨r1, r2, r3, b, g1, g2, _⟩ := plan_both a0 l1 (l2.map toRop) l3
    have hc := toRegCode_ev a0 l1 l2 l3 (by omega) (by omega) (by omega)
    have he := eqRegCode_refl a0 l1 (l2.map toRop) l3 (by omega) (by simp; omega) (by omega)
    have hsp : Ev (fun k => spec_IsRegCode.f k a0 l1 (l2.map toRop) l3) b := by
      unfold spec_IsRegCode.f spec_reCode.f
      exact bindr (bindr g1 rfl) rfl
    have him : Ev (fun k => impl_IsRegCode.f k a0 l1 (l2.map toRop) l3) b := by
      unfold impl_IsRegCode.f
      refine bindr g2 ?_
      cases b <;> rfl
    exact neg (by omega) (bind hc (bind hsp (bind hc (bind him (neg (by simp) (bind hc (bind he (pos rfl (ret _)))))))))
  · rw [if_neg h]
    exact pos (by omega) (ret _)
end Go.Proofs.Ytpdpomjgfmdjfaa.Pure
