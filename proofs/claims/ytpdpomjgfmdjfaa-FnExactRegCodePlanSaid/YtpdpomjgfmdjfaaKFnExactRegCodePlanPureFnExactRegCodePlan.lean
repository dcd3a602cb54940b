/- The law of RegCodePlan in plain Lean: the program's answer is the reference's, for all code. -/
import Derived.Test.YtpdpomjgfmdjfaaKFnExactRegCodePlanZMarkPl
import Derived.Test.YtpdpomjgfmdjfaaKFnExactRegCodePlanZMarkReg
import Derived.Test.YtpdpomjgfmdjfaaKFnExactRegCodePlanQ0
import Derived.Test.YtpdpomjgfmdjfaaKFnExactRegCodePlanQ5
import Derived.Test.YtpdpomjgfmdjfaaKFnExactRegCodePlanQ6
namespace Go.Proofs.Ytpdpomjgfmdjfaa.Pure
open Go.RowKit Go.Proofs.Ytpdpomjgfmdjfaa.Z Go.Proofs.Ytpdpomjgfmdjfaa.E Go.Proofs.YtpdpomjgfmdjfaaW.PrintWords Go.Proofs.YtpdpomjgfmdjfaaW.PrintLast Go.Proofs.YtpdpomjgfmdjfaaW.PrintMore
theorem FnExactRegCodePlan : laws_FnExactRegCodePlan.Pure := by
 intro a0 l1 l2 l3 _ h1 _ h2 _ h3 _
 have hsz := szRegCode_eq a0 l1 l2 l3 1048576 (Nat.le_refl _) h1 h2 h3
 by_cases h : l1.length + l2.length + l3.length ≤ 1048576
 ·rw [if_pos h] at hsz
  obtain ⟨p1, p2, p3, b, g1, g2, g3⟩ := plan_both a0 l1 (l2.map toRop) l3
  obtain ⟨r1, r2, r3, e1, e2, q2, q3⟩ : ∃ (r1 : Int) (r2 : List St) (r3 : List Int), Ev (fun k => spec_RegCodePlan.f k a0 l1 (l2.map toRop) l3) (r1, r2, r3, b) ∧ Ev (fun k => impl_RegCodePlan.f k a0 l1 (l2.map toRop) l3) (r1, r2, r3, b) ∧ r2.length ≤ 40 ∧ r3.length ≤ 6 := by
   unfold spec_RegCodePlan.f impl_RegCodePlan.f
   cases b with
   | true => exact ⟨p1, p2, p3, bind g1 (pos rfl (ret _)), bindr g2 rfl, (g3 rfl).1, (g3 rfl).2⟩
   | false => exact ⟨0, [], [], bind g1 (neg (by simp) (ret _)), bindr g2 rfl, by simp, by simp⟩
  obtain ⟨mp, s2, s3, f1, f2⟩ := markPlan_ev r1 r2 r3 (by omega) (by omega)
  obtain ⟨mr, n1, n2, n3, f3⟩ := markRegCode_ev a0 l1 (l2.map toRop) l3 (by omega) (by simp; omega) (by omega)
  obtain ⟨K1, c1⟩ := toRegCode_ev a0 l1 l2 l3 (by omega) (by omega) (by omega)
  obtain ⟨K2, c2⟩ := e1
  obtain ⟨K3, c3⟩ := e2
  obtain ⟨K4, c4⟩ := eqPlan_refl r1 r2 r3 (by omega) (by omega)
  obtain ⟨K5, c5⟩ := eqRegCode_refl a0 l1 (l2.map toRop) l3 (by omega) (by simp; omega) (by omega)
  obtain ⟨K6, c6⟩ := f1
  obtain ⟨K7, c7⟩ := f2
  obtain ⟨K8, c8⟩ := f3
  obtain ⟨K, hK⟩ : ∃ K, K = K1 + K2 + K3 + K4 + K5 + K6 + K7 + K8 := ⟨_, rfl⟩
  exact .inr ⟨_, mr, mp, r1, l1, l2.map toRop, l3, n1, n2, n3, r2, s2, r3, s3, b, K, by omega, by omega, by omega, hsz, c1 K (by omega), c2 K (by omega), c3 K (by omega), c4 K (by omega), c5 K (by omega), c8 K (by omega), c6 K (by omega), c7 K (by omega)⟩
 ·rw [if_neg h] at hsz
  exact .inl hsz
end Go.Proofs.Ytpdpomjgfmdjfaa.Pure
