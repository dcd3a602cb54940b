/- The law of IsCode in plain Lean: the program's answer is the reference's, for every code. -/
import Derived.Test.YtgglemlhombgkaaKFnExactIsCodeCode8
import Derived.Test.YtgglemlhombgkaaKFnExactIsCodeQ0
import Derived.Test.YtgglemlhombgkaaKFnExactIsCodeQ2
import Derived.Test.YtgglemlhombgkaaKFnExactIsCodeQ3
import Derived.Test.YtgglemlhombgkaaKFnExactIsCodeQ4
namespace Go.Proofs.Ytgglemlhombgkaa.Pure
open Go.RowKit Go.Proofs.Ytgglemlhombgkaa.Q Go.Proofs.Ytgglemlhombgkaa.E Go.Proofs.YtgglemlhombgkaaW.PrintWords Go.Proofs.YtgglemlhombgkaaW.PrintLast Go.Proofs.YtgglemlhombgkaaW.PrintMore
theorem isCode_both (l : List Op) (o : Int) (hl : l.length ≤ 1048576) : ∃ b : Bool, Ev (fun k => spec_IsCode.f k l o) b ∧ Ev (fun k => impl_IsCode.f k l o) b := by
  obtain ⟨b, h1, h2, _⟩ := good_both l o hl
  refine ⟨b, ?_, h2⟩
  unfold spec_IsCode.f
  exact bind h1 (ret _)
theorem law_IsCode : laws_FnExactIsCode.Pure := by
  intro l o hl _ _
  refine some_of ?_
  unfold laws_FnExactIsCode.f
  by_cases h : l.length ≤ 1048576
  · refine bind0 (szCode_small l o 1048576 (Nat.le_refl _) h) (neg (by omega) ?_)
    have hc := toCode_ev l o h
    obtain ⟨b, h1, h2⟩ := isCode_both (l.map toOp) o (by simpa using h)
    refine bind hc (bind h1 (bind hc (bind h2 (neg (by simp) (bind hc (bind (eqCode_refl _ _ (by simp; omega)) (pos rfl (ret _))))))))
  · exact bind0 (szCode_large l o 1048576 (Nat.le_refl _) (by omega) hl) (pos (by omega) (ret _))

theorem FnExactIsCode : laws_FnExactIsCode.Pure := law_IsCode
end Go.Proofs.Ytgglemlhombgkaa.Pure
