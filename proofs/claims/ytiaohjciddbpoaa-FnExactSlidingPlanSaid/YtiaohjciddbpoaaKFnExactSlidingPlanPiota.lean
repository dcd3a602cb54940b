/- Pure: the first numbers. -/
import Derived.Test.YtiaohjciddbpoaaKFnExactSlidingPlanPord
set_option linter.unusedVariables false
set_option linter.unusedSimpArgs false
namespace Go.Proofs.Ytiaohjciddbpoaa.Pure
open Go.RowKit Go.Proofs.Ytiaohjciddbpoaa.E Go.Proofs.Ytiaohjciddbpoaa.H2 Go.Proofs.Ytiaohjciddbpoaa.Frame Go.Proofs.YtiaohjciddbpoaaW.PrintLast Go.Proofs.YtiaohjciddbpoaaW.PrintMore
open Go.Proofs.YtiaohjciddbpoaaW.PrintWords hiding mn mx
def iota (j : Nat) : List Int := (List.range j).map fun (m : Nat) => (m : Int)
theorem iota_succ (j : Nat) : iota (j + 1) = iota j ++ [(j : Int)] := by simp [iota, List.range_succ]
theorem firsts_eq (n : Nat) (hn : n ≤ 1000) : impl_firsts.f (n : Int) = some (iota n) := by
  have key : ∀ (e j : Nat), j + e = n → impl_firsts.l0 e (iota j) (j : Int) = some (iota n) := by
    intro e
    induction e with
    | zero =>
      intro j hj
      obtain rfl : j = n := by omega
      rfl
    | succ e ih =>
      intro j hj
      have := ih (j + 1) (by omega)
      rw [iota_succ] at this
      simp only [impl_firsts.l0]
      rw [ap_ok (by simp [iota]; omega), Option.bind_some, show (j : Int) + 1 = ((j + 1 : Nat) : Int) by omega]
      exact this
  unfold impl_firsts.f
  have hb : bd (n : Int) = some () := by
    unfold bd
    rw [if_pos (by omega)]
  rw [hb, Option.bind_some, Int.toNat_natCast]
  have := key n 0 (by omega)
  rw [show iota 0 = [] from rfl] at this
  rw [show (0 : Int) = ((0 : Nat) : Int) from rfl, this]
  rfl
end Go.Proofs.Ytiaohjciddbpoaa.Pure
