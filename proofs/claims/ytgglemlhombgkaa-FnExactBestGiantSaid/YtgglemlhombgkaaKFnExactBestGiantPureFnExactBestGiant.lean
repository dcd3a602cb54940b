/- The law of BestGiant in plain Lean: the program's answer is the reference's, for all arguments. -/
import Derived.Test.YtgglemlhombgkaaKFnExactBestGiantZGiantP8
import Derived.Test.YtgglemlhombgkaaKFnExactBestGiantQ0
import Derived.Test.YtgglemlhombgkaaKFnExactBestGiantQ5
namespace Go.Proofs.Ytgglemlhombgkaa.Pure
open Go.RowKit Go.Proofs.Ytgglemlhombgkaa.Z Go.Proofs.Ytgglemlhombgkaa.E Go.Proofs.YtgglemlhombgkaaW.PrintWords Go.Proofs.YtgglemlhombgkaaW.PrintLast Go.Proofs.YtgglemlhombgkaaW.PrintMore
theorem gp_eq (D K : Nat) (hD : D ≤ 16) (hK : 1 ≤ K) (hK2 : K ≤ 17) : impl_giantProducts.f (D : Int) (K : Int) = some (gpN D K) := by
  unfold impl_giantProducts.f
  rw [if_pos (by omega), Int.toNat_natCast, Int.toNat_natCast]
theorem best_loop (D : Nat) (hD : D ≤ 16) : ∀ (d K B : Nat), K + d = 18 → 1 ≤ K → 1 ≤ B → B ≤ 17 → ∃ r, Ev (fun k => spec_BestGiant.l0 k (D : Int) (B : Int) (K : Int)) (r, true) ∧ Ev (fun k => impl_BestGiant.l0 k (D : Int) (B : Int) (K : Int)) (r, true)
  | 0, K, B, hK, h1, h2, h3 => by
    refine ⟨B, shift ?_, shift ?_⟩
    · simp only [spec_BestGiant.l0]
      exact neg (by omega) (ret _)
    · simp only [impl_BestGiant.l0]
      exact neg (by omega) (ret _)
  | d + 1, K, B, hK, h1, h2, h3 => by
    have p1 := poProducts_ev D K hD h1 (by omega)
    have p2 := poProducts_ev D B hD h2 h3
    have g1 := gp_eq D K hD h1 (by omega)
    have g2 := gp_eq D B hD h2 h3
    by_cases h : gpN D K < gpN D B
    · obtain ⟨r, e1, e2⟩ := best_loop D hD d (K + 1) K (by omega) (by omega) h1 (by omega)
      refine ⟨r, shift ?_, shift ?_⟩
      · simp only [spec_BestGiant.l0]
        rw [wrap_succ (by omega)]
        exact pos (by omega) (bind p1 (bind p2 (pos h e1)))
      · simp only [impl_BestGiant.l0]
        rw [wrap_succ (by omega)]
        exact pos (by omega) (bind0 g1 (bind0 g2 (pos h e2)))
    · obtain ⟨r, e1, e2⟩ := best_loop D hD d (K + 1) B (by omega) (by omega) h2 h3
      refine ⟨r, shift ?_, shift ?_⟩
      · simp only [spec_BestGiant.l0]
        rw [wrap_succ (by omega)]
        exact pos (by omega) (bind p1 (bind p2 (neg h e1)))
      · simp only [impl_BestGiant.l0]
        rw [wrap_succ (by omega)]
        exact pos (by omega) (bind0 g1 (bind0 g2 (neg h e2)))
theorem best_both (a : Int) : ∃ (r : Int) (c : Bool), Ev (fun k => spec_BestGiant.f k a) (r, c) ∧ Ev (fun k => impl_BestGiant.f k a) (r, c) := by
  unfold spec_BestGiant.f impl_BestGiant.f impl_degreeOk.f
  rw [in_eq]
  simp only [Option.bind_some]
  by_cases h1 : 0 ≤ a ∧ a ≤ 16
  · obtain ⟨D, rfl⟩ := Int.eq_ofNat_of_zero_le h1.1
    obtain ⟨r, e1, e2⟩ := best_loop D (by omega) 16 2 1 (by omega) (by omega) (by omega) (by omega)
    exact ⟨r, true, bind0 (l1In_eq _ _ _) (pos (by simpa using h1) e1), pos (by simpa using h1) e2⟩
  · exact ⟨0, false, bind0 (l1In_eq _ _ _) (neg (by simpa using h1) (ret _)), neg (by simpa using h1) (ret _)⟩
theorem law_BestGiant : laws_FnExactBestGiant.Pure := by
  intro a _
  refine some_of ?_
  obtain ⟨r, c, h1, h2⟩ := best_both a
  unfold laws_FnExactBestGiant.f
  exact bind h1 (bind h2 (pos rfl (neg (by simp) (ret _))))

theorem FnExactBestGiant : laws_FnExactBestGiant.Pure := law_BestGiant
end Go.Proofs.Ytgglemlhombgkaa.Pure
