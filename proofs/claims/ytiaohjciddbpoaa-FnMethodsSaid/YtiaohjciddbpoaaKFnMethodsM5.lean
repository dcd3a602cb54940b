import Derived.Test.YtiaohjciddbpoaaKFnMethodsM5p7
namespace Go.Proofs.Ytiaohjciddbpoaa.M5
open Go.RowKit Go.Proofs.Ytiaohjciddbpoaa.Frame Go.Proofs.YtiaohjciddbpoaaW.PrintLast Go.Proofs.Ytiaohjciddbpoaa.Hand
open Go.Proofs.YtiaohjciddbpoaaW.PrintWords hiding mn mx
set_option linter.unusedVariables false
/-- THE ONE PURE STATEMENT of laws_FnMethods. -/
def laws_FnMethods.Pure : Prop := ∀ (l0 : List Int) (l1 : List Int), l0.length ≤ maxLen → (∀ y ∈ l0, (Lit.int .u8 y).wf = true) → l1.length ≤ maxLen → (∀ y ∈ l1, (Lit.int .u8 y).wf = true) → ∃ k, laws_FnMethods.f k l0 l1 = some true
theorem laws_FnMethods.walk (P : laws_FnMethods.Pure) (A0 : Option Addr) (c0 : Nat) (l0 : List Int) (A1 : Option Addr) (c1 : Nat) (l1 : List Int) (w : World) (hr0 : Kd.C (Kd.int .u8) w A0 l0.length l0) (hc0 : l0.length ≤ c0) (hr1 : Kd.C (Kd.int .u8) w A1 l1.length l1) (hc1 : l1.length ≤ c1) (q0 : l0.length ≤ maxLen) (q1 : (∀ y ∈ l0, (Lit.int .u8 y).wf = true)) (q2 : l1.length ≤ maxLen) (q3 : (∀ y ∈ l1, (Lit.int .u8 y).wf = true)) :
  Calls Try.prog 7 #[.slice A0 l0.length c0, .slice A1 l1.length c1] w fun e w' => e = .returned (.bool true) ∧ Below w.heap.size w w' := by
 obtain ⟨k, h⟩ := P l0 l1 q0 q1 q2 q3
 refine (laws_FnMethods.calls k A0 c0 l0.length l0 A1 c1 l1.length l1 (Below.refl _ _) (Fr.start w) (fun W hW => Kd.C_below hr0 hW.below) hc0 (fun W hW => Kd.C_below hr1 hW.below) hc1 true h).mono ?_
 rintro e w' ⟨s, rfl, hF⟩
 exact ⟨rfl, hF.bel⟩
end Go.Proofs.Ytiaohjciddbpoaa.M5
