/- Codes: what is a code for the reference is one for the program, and its values have the same polynomials. -/
import Derived.Test.YtgglemlhombgkaaKFnExactBestGiantZPoly8
import Derived.Test.YtgglemlhombgkaaKFnExactBestGiantZSmall8
import Derived.Test.YtgglemlhombgkaaKFnExactBestGiantQ0
import Derived.Test.YtgglemlhombgkaaKFnExactBestGiantQ1
import Derived.Test.YtgglemlhombgkaaKFnExactBestGiantQ2
import Derived.Test.YtgglemlhombgkaaKFnExactBestGiantQ3
import Derived.Test.YtgglemlhombgkaaKFnExactBestGiantQ4
namespace Go.Proofs.Ytgglemlhombgkaa.Pure
open Go.RowKit Go.Proofs.Ytgglemlhombgkaa.Z Go.Proofs.Ytgglemlhombgkaa.E Go.Proofs.YtgglemlhombgkaaW.PrintWords Go.Proofs.YtgglemlhombgkaaW.PrintLast Go.Proofs.YtgglemlhombgkaaW.PrintMore

/-- An op that may stand at place i. -/
def OpOk (i : Nat) (o : Op) : Prop :=
  (o.f0 = 0 ∧ (-1000000 ≤ o.f1 ∧ o.f1 ≤ 1000000) ∧ o.f2 = 0) ∨ ((o.f0 = 1 ∨ o.f0 = 3) ∧ (0 ≤ o.f1 ∧ o.f1 ≤ i) ∧ (0 ≤ o.f2 ∧ o.f2 ≤ i)) ∨ (o.f0 = 2 ∧ (0 ≤ o.f1 ∧ o.f1 ≤ i) ∧ (-1000000 ≤ o.f2 ∧ o.f2 ≤ 1000000))
instance (i : Nat) (o : Op) : Decidable (OpOk i o) := by unfold OpOk; infer_instance

/-- All that is known of a code. -/
structure Good (l : List Op) (o : Int) (v : List (List Int)) : Prop where
  len : v.length = l.length + 1
  few : l.length ≤ 120
  lo : 0 ≤ o
  hi : o ≤ l.length
  small : ∀ p ∈ v, p.length ≤ 17
  ops : ∀ (j : Nat) (h : j < l.length), OpOk j l[j]

end Go.Proofs.Ytgglemlhombgkaa.Pure
