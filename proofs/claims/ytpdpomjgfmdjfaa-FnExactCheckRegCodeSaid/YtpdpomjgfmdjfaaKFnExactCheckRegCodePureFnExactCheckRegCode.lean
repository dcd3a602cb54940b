/- The law of CheckRegCode in plain Lean: the program's answer is the reference's, for all code and plans. -/
import Derived.Test.YtpdpomjgfmdjfaaKFnExactCheckRegCodeZCheckReg
import Derived.Test.YtpdpomjgfmdjfaaKFnExactCheckRegCodeZRegArg
import Derived.Test.YtpdpomjgfmdjfaaKFnExactCheckRegCodeZPlArg
import Derived.Test.YtpdpomjgfmdjfaaKFnExactCheckRegCodeZEqPl
import Derived.Test.YtpdpomjgfmdjfaaKFnExactCheckRegCodeQ0
import Derived.Test.YtpdpomjgfmdjfaaKFnExactCheckRegCodeQ6
namespace Go.Proofs.Ytpdpomjgfmdjfaa.Pure
open Go.RowKit Go.Proofs.Ytpdpomjgfmdjfaa.Z Go.Proofs.Ytpdpomjgfmdjfaa.E Go.Proofs.YtpdpomjgfmdjfaaW.PrintWords Go.Proofs.YtpdpomjgfmdjfaaW.PrintLast Go.Proofs.YtpdpomjgfmdjfaaW.PrintMore
theorem FnExactCheckRegCode : laws_FnExactCheckRegCode.Pure := by
 intro a0 l1 l2 l3 n l o _ h1 _ h2 _ h3 _ _ h4 _ h5 _
 have hsz := szRegCode_eq a0 l1 l2 l3 1048576 (Nat.le_refl _) h1 h2 h3
 by_cases h : l1.length + l2.length + l3.length ≤ 1048576
 ·rw [if_pos h] at hsz
  have hsp := szPlan_eq n l o (1048576 - (l1.length + l2.length + l3.length)) (by omega) h4 h5
  by_cases h6 : l.length + o.length ≤ 1048576 - (l1.length + l2.length + l3.length)
  ·rw [if_pos h6] at hsp
   obtain ⟨b1, b2, ⟨K1, e1⟩, ⟨K2, e2⟩⟩ := check_both a0 l1 (l2.map toRop) l3 n (l.map toSt) o
   obtain ⟨K3, c1⟩ := toRegCode_ev a0 l1 l2 l3 (by omega) (by omega) (by omega)
   obtain ⟨K4, c2⟩ := toPlan_ev n l o (by omega) (by omega)
   obtain ⟨K5, c3⟩ := eqRegCode_refl a0 l1 (l2.map toRop) l3 (by omega) (by simp; omega) (by omega)
   obtain ⟨K6, c4⟩ := eqPlan_refl n (l.map toSt) o (by simp; omega) (by omega)
   obtain ⟨K, hK⟩ : ∃ K, K = K1 + K2 + K3 + K4 + K5 + K6 := ⟨_, rfl⟩
   exact .inr (.inr ⟨_, _, l1, l2.map toRop, l3, l.map toSt, o, b1, b2, K, by omega, by omega, hsz, hsp, c1 K (by omega), c2 K (by omega), e1 K (by omega), e2 K (by omega), c3 K (by omega), c4 K (by omega)⟩)
  ·rw [if_neg h6] at hsp
   exact .inr (.inl ⟨_, by omega, hsz, hsp⟩)
 ·rw [if_neg h] at hsz
  exact .inl hsz
end Go.Proofs.Ytpdpomjgfmdjfaa.Pure
