/- The polynomial of a code: both return the same. -/
import Derived.Test.YtgglemlhombgkaaKFnExactSameCodeCode8
import Derived.Test.YtgglemlhombgkaaKFnExactSameCodeQ0
import Derived.Test.YtgglemlhombgkaaKFnExactSameCodeQ4
namespace Go.Proofs.Ytgglemlhombgkaa.Pure
open Go.RowKit Go.Proofs.Ytgglemlhombgkaa.Q Go.Proofs.Ytgglemlhombgkaa.E Go.Proofs.YtgglemlhombgkaaW.PrintWords Go.Proofs.YtgglemlhombgkaaW.PrintLast Go.Proofs.YtgglemlhombgkaaW.PrintMore
theorem clone_eq (l : List Int) (h : l.length < 17592186044416) : slices_Clone_int_int.f l = some l := by
  unfold slices_Clone_int_int.f
  rw [if_pos h]
theorem poly_both (l : List Op) (o : Int) (hl : l.length ≤ 1048576) : ∃ (r : List Int) (b : Bool), Ev (fun k => spec_PolynomialOf.f k l o) (r, b) ∧ Ev (fun k => impl_PolynomialOf.f k l o) (r, b) ∧ r.length ≤ 17 := by
  obtain ⟨b, v, v', h1, h2, h3⟩ := values_both l o hl
  unfold spec_PolynomialOf.f impl_PolynomialOf.f
  cases b with
  | false => exact ⟨[], false, bind h1 (neg (by simp) (ret _)), bind h2 (neg (by simp) (ret _)), by simp⟩
  | true =>
    obtain ⟨rfl, g⟩ := h3 rfl
    have := g.lo
    have := g.hi
    have := g.len
    have hm := g.small _ (rdL_mem v' o (by omega) (by omega))
    exact ⟨rd_L3 v' o, true, bind h1 (pos rfl (pos (by omega) (pos (show o < (v'.length : Int) by omega) (bind0 (l1Own_eq (rd_L3 v' o) (by omega)) (ret _))))), bind h2 (pos rfl (pos (by omega) (pos (show o < (v'.length : Int) by omega) (bind0 (clone_eq (rd_L3 v' o) (by omega)) (ret _))))), hm⟩
end Go.Proofs.Ytgglemlhombgkaa.Pure
