/- Coefficients, and codes that are handed back, in plain Lean. -/
import Derived.Test.YtgglemlhombgkaaKFnExactThenCodeTCode8
import Derived.Test.YtgglemlhombgkaaKFnExactThenCodeQ0
import Derived.Test.YtgglemlhombgkaaKFnExactThenCodeQ1
import Derived.Test.YtgglemlhombgkaaKFnExactThenCodeQ2
import Derived.Test.YtgglemlhombgkaaKFnExactThenCodeQ3
import Derived.Test.YtgglemlhombgkaaKFnExactThenCodeQ4
namespace Go.Proofs.Ytgglemlhombgkaa.Pure
open Go.RowKit Go.Proofs.Ytgglemlhombgkaa.T Go.Proofs.Ytgglemlhombgkaa.E Go.Proofs.YtgglemlhombgkaaW.PrintWords Go.Proofs.YtgglemlhombgkaaW.PrintLast Go.Proofs.YtgglemlhombgkaaW.PrintMore
def coefsB (l : List Int) : Bool := decide (0 < l.length) && smallB l
/-- A code handed back: both hand back the same. -/
theorem told_both (l : List Op) (o : Int) (hl : l.length ≤ 1048576) : ∃ (r : List Op) (p : Int) (b : Bool), Ev (fun k => spec_poIf.f k l o) (r, p, b) ∧ Ev (fun k => impl_toldCode.f k l o) (r, p, b) ∧ r.length ≤ l.length := by
 obtain ⟨b, h1, h2, _⟩ := good_both l o hl
 unfold spec_poIf.f impl_toldCode.f
 cases b with
 | false => exact ⟨[], 0, false, bind h1 (neg (by simp) (ret _)), bind h2 (neg (by simp) (ret _)), by simp⟩
 | true => exact ⟨l, o, true, bind h1 (pos rfl (ret _)), bind h2 (pos rfl (ret _)), Nat.le_refl _⟩
end Go.Proofs.Ytgglemlhombgkaa.Pure
