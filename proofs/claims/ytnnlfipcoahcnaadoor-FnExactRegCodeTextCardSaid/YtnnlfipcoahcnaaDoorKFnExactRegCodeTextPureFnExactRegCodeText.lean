/- Pure: the program's text of register code is the documentation's. -/
import Derived.Test.YtnnlfipcoahcnaaDoorKFnExactRegCodeTextPtc
import Derived.Test.YtnnlfipcoahcnaaDoorKFnExactRegCodeTextPcode
set_option linter.unusedVariables false
set_option linter.unusedSimpArgs false
namespace Go.Proofs.YtnnlfipcoahcnaaDoor.Pure
open Go.RowKit Go.Proofs.YtnnlfipcoahcnaaDoor.E Go.Proofs.YtnnlfipcoahcnaaDoor.P3 Go.Proofs.YtnnlfipcoahcnaaDoor.Hand Go.Proofs.YtnnlfipcoahcnaaDoor.Frame Go.Proofs.YtnnlfipcoahcnaaDoorW.PrintLast Go.Proofs.YtnnlfipcoahcnaaDoorW.PrintMore
open Go.Proofs.YtnnlfipcoahcnaaDoorW.PrintWords hiding mn mx
theorem FnExactRegCodeText : laws_FnExactRegCodeText.Pure := by
  intro a l1 l2 l3 ha h1 w1 h2 w2 h3 w3
  obtain ⟨v, e1, e2⟩ := szCode_eq a l1 l2 l3 h1 h2 h3
  refine some_of ?_
  unfold laws_FnExactRegCodeText.f
  refine bind0 e1 ?_
  by_cases c : v < 0
  · exact pos c (ret _)
  · have hq := e2 (by omega)
    have ht := toCode_ev a l1 l2 l3 (by omega) (by omega) (by omega)
    have he := eqCode_refl a l1 l2 l3 (by omega) (by omega) (by omega)
    obtain ⟨p, hp⟩ : ∃ p, ctP a l1 l2 l3 = p := ⟨_, rfl⟩
    have a1 := iCodeText_ev a l1 l2 l3
    have a2 := sCodeText_ev a l1 l2 l3
    rw [hp] at a1 a2
    obtain ⟨t, b⟩ := p
    exact neg c (bind ht (bind a2 (bind ht (bind a1 (neg (by simp) (neg (by simp) (bind ht (bind he (pos rfl (ret _))))))))))
end Go.Proofs.YtnnlfipcoahcnaaDoor.Pure
