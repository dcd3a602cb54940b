/- The law of PolynomialOf in plain Lean: the program's answer is the reference's, for every code. -/
import Derived.Test.YtgglemlhombgkaaKFnExactPolynomialOfPolyOf8
import Derived.Test.YtgglemlhombgkaaKFnExactPolynomialOfEqIntS
import Derived.Test.YtgglemlhombgkaaKFnExactPolynomialOfMarkIntS
import Derived.Test.YtgglemlhombgkaaKFnExactPolynomialOfMark8
import Derived.Test.YtgglemlhombgkaaKFnExactPolynomialOfQ0
import Derived.Test.YtgglemlhombgkaaKFnExactPolynomialOfQ4
namespace Go.Proofs.Ytgglemlhombgkaa.Pure
open Go.RowKit Go.Proofs.Ytgglemlhombgkaa.Q Go.Proofs.Ytgglemlhombgkaa.E Go.Proofs.YtgglemlhombgkaaW.PrintWords Go.Proofs.YtgglemlhombgkaaW.PrintLast Go.Proofs.YtgglemlhombgkaaW.PrintMore
theorem law_PolynomialOf : laws_FnExactPolynomialOf.Pure := by
  intro l o hl _ _
  refine some_of ?_
  unfold laws_FnExactPolynomialOf.f
  by_cases h : l.length ≤ 1048576
  · refine bind0 (szCode_small l o 1048576 (Nat.le_refl _) h) (neg (by omega) ?_)
    have hc := toCode_ev l o h
    obtain ⟨r, b, h1, h2, hr⟩ := poly_both (l.map toOp) o (by simpa using h)
    have he := eqIntS_ev r r (by omega)
    have hk := markIntS_ev r 1 (by omega)
    have hq := heldIntS_ev 1 r.length (by omega)
    refine bind hc (bind h1 (bind hc (bind h2 (bind he (pos (by simp) (shift ?_))))))
    simp only [laws_FnExactPolynomialOf.j0]
    refine neg (by simp) (bind hc (bind (eqCode_refl _ _ (by simp; omega)) (pos rfl (bind (markCode_ev _ o 1 (by simp; omega)) (neg (by omega) (bind he (pos (by simp) (shift ?_))))))))
    simp only [laws_FnExactPolynomialOf.j1]
    refine neg (by simp) (bind hk (bind hq (neg (by omega) (pos rfl (bind hc (bind h2 (bind he (pos (by simp) (shift ?_)))))))))
    simp only [laws_FnExactPolynomialOf.j2]
    exact neg (by simp) (bind hq (neg (by omega) (pos rfl (ret _))))
  · exact bind0 (szCode_large l o 1048576 (Nat.le_refl _) (by omega) hl) (pos (by omega) (ret _))

theorem FnExactPolynomialOf : laws_FnExactPolynomialOf.Pure := law_PolynomialOf
end Go.Proofs.Ytgglemlhombgkaa.Pure
