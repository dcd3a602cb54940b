/- The law of SquaresPlan in plain Lean: the program's answer is the reference's, for all targets. -/
import Derived.Test.YtpdpomjgfmdjfaaKFnExactSquaresPlanZMarkPl
import Derived.Test.YtpdpomjgfmdjfaaKFnExactSquaresPlanZToIntS
import Derived.Test.YtpdpomjgfmdjfaaKFnExactSquaresPlanZEqIntS
import Derived.Test.YtpdpomjgfmdjfaaKFnExactSquaresPlanZMarkIntS
import Derived.Test.YtpdpomjgfmdjfaaKFnExactSquaresPlanZSquares
import Derived.Test.YtpdpomjgfmdjfaaKFnExactSquaresPlanQ0
import Derived.Test.YtpdpomjgfmdjfaaKFnExactSquaresPlanQ4
namespace Go.Proofs.Ytpdpomjgfmdjfaa.Pure
open Go.RowKit Go.Proofs.Ytpdpomjgfmdjfaa.Z Go.Proofs.Ytpdpomjgfmdjfaa.E Go.Proofs.YtpdpomjgfmdjfaaW.PrintWords Go.Proofs.YtpdpomjgfmdjfaaW.PrintLast Go.Proofs.YtpdpomjgfmdjfaaW.PrintMore
theorem FnExactSquaresPlan : laws_FnExactSquaresPlan.Pure := by
  intro l0 _ _ _
  refine some_of ?_
  unfold laws_FnExactSquaresPlan.f
  by_cases h : (l0.length : Int) > 1048576
  · exact pos h (ret _)
  · refine neg h ?_
    obtain ⟨r1, r2, r3, b, e1, e2, q2, q3⟩ := squares_both l0 (by omega)
    obtain ⟨mp, s2, s3, f1, f2⟩ := markPlan_ev r1 r2 r3 (by omega) (by omega)
    have ht := toIntS_ev l0 (by omega)
    have he := eqPlan_refl r1 r2 r3 (by omega) (by omega)
    have hq := eqIntS_ev l0 l0 (by omega)
    rw [decide_eq_true rfl] at hq
    have hm := markIntS_ev l0 1 (by omega)
    have hb : (b != b) = false := by cases b <;> rfl
    refine bind ht (bind e1 (bind ht (bind e2 (bind he (pos rfl ?_)))))
    simp only [hb]
    refine shift ?_
    simp only [laws_FnExactSquaresPlan.j0]
    refine neg (by simp) (bind ht (bind hq (pos rfl (bind hm (neg (by omega) (bind he (pos rfl ?_)))))))
    simp only [hb]
    refine shift ?_
    simp only [laws_FnExactSquaresPlan.j1]
    refine neg (by simp) (bind f1 (bind f2 (neg (by omega) (pos rfl (bind ht (bind e2 (bind he (pos rfl ?_))))))))
    simp only [hb]
    refine shift ?_
    simp only [laws_FnExactSquaresPlan.j2]
    exact neg (by simp) (bind f2 (neg (by omega) (pos rfl (ret _))))
end Go.Proofs.Ytpdpomjgfmdjfaa.Pure
