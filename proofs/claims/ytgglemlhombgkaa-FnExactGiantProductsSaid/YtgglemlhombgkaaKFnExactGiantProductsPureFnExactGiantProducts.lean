/- The law of GiantProducts in plain Lean: the program's answer is the reference's, for all arguments. -/
import Derived.Test.YtgglemlhombgkaaKFnExactGiantProductsZGiantP8
import Derived.Test.YtgglemlhombgkaaKFnExactGiantProductsQ0
import Derived.Test.YtgglemlhombgkaaKFnExactGiantProductsQ5
namespace Go.Proofs.Ytgglemlhombgkaa.Pure
open Go.RowKit Go.Proofs.Ytgglemlhombgkaa.Z Go.Proofs.Ytgglemlhombgkaa.E Go.Proofs.YtgglemlhombgkaaW.PrintWords Go.Proofs.YtgglemlhombgkaaW.PrintLast Go.Proofs.YtgglemlhombgkaaW.PrintMore
theorem gp_eq (D K : Nat) (hD : D ≤ 16) (hK : 1 ≤ K) (hK2 : K ≤ 17) : impl_giantProducts.f (D : Int) (K : Int) = some (gpN D K) := by
  unfold impl_giantProducts.f
  rw [if_pos (by omega), Int.toNat_natCast, Int.toNat_natCast]
theorem gp_both (a b : Int) : ∃ (r : Int) (c : Bool), Ev (fun k => spec_GiantProducts.f k a b) (r, c) ∧ impl_GiantProducts.f a b = some (r, c) := by
  unfold spec_GiantProducts.f impl_GiantProducts.f impl_degreeOk.f impl_giantOk.f
  rw [in_eq, in_eq]
  simp only [Option.bind_some]
  by_cases h1 : 0 ≤ a ∧ a ≤ 16
  · by_cases h2 : 1 ≤ b ∧ b ≤ 17
    · obtain ⟨D, rfl⟩ := Int.eq_ofNat_of_zero_le h1.1
      obtain ⟨K, rfl⟩ := Int.eq_ofNat_of_zero_le (a := b) (by omega)
      refine ⟨gpN D K, true, bind0 (l1In_eq _ _ _) (pos (by simpa using h1) (bind0 (l1In_eq _ _ _) (pos (by simpa using h2) (bind (poProducts_ev D K (by omega) (by omega) (by omega)) (ret _))))), ?_⟩
      rw [if_pos (by simpa using h1), if_pos (by simpa using h2), gp_eq D K (by omega) (by omega) (by omega)]
      rfl
    · refine ⟨0, false, bind0 (l1In_eq _ _ _) (pos (by simpa using h1) (bind0 (l1In_eq _ _ _) (neg (by simpa using h2) (ret _)))), ?_⟩
      rw [if_pos (by simpa using h1), if_neg (by simpa using h2)]
  · refine ⟨0, false, bind0 (l1In_eq _ _ _) (neg (by simpa using h1) (ret _)), ?_⟩
    rw [if_neg (by simpa using h1)]
theorem law_GiantProducts : laws_FnExactGiantProducts.Pure := by
  intro a b _ _
  refine some_of ?_
  obtain ⟨r, c, h1, h2⟩ := gp_both a b
  unfold laws_FnExactGiantProducts.f
  exact bind h1 (bind0 h2 (pos rfl (neg (by simp) (ret _))))

theorem FnExactGiantProducts : laws_FnExactGiantProducts.Pure := law_GiantProducts
end Go.Proofs.Ytgglemlhombgkaa.Pure
