/- Pure: what laws about plans ask: the same numbers, steps, plans; values renamed; copies. -/
import Derived.Test.YtiaohjciddbpoaaKFnExactSlidingPlanPval
set_option linter.unusedVariables false
set_option linter.unusedSimpArgs false
namespace Go.Proofs.Ytiaohjciddbpoaa.Pure
open Go.RowKit Go.Proofs.Ytiaohjciddbpoaa.E Go.Proofs.Ytiaohjciddbpoaa.H2 Go.Proofs.Ytiaohjciddbpoaa.Frame Go.Proofs.YtiaohjciddbpoaaW.PrintLast Go.Proofs.YtiaohjciddbpoaaW.PrintMore
open Go.Proofs.YtiaohjciddbpoaaW.PrintWords hiding mn mx
theorem ren_l0 (v ys o : List Int) (j : Int) (h : ∀ y ∈ ys, 0 ≤ y ∧ y < (v.length : Int)) (hb : o.length + ys.length ≤ 1000) : impl_renamed.l0 v ys o j = some (o ++ ys.map (rg v)) := by
  induction ys generalizing o j with
  | nil => simp [impl_renamed.l0]
  | cons y ys ih =>
    simp only [List.length_cons] at hb
    have hy := h y List.mem_cons_self
    simp only [impl_renamed.l0]
    rw [rg_gt hy.1 hy.2, Option.bind_some, ap_ok (by simp; omega), Option.bind_some, ih _ _ (fun z hz => h z (List.mem_cons_of_mem _ hz)) (by rw [List.length_append, List.length_singleton]; omega)]
    simp
theorem ren_eq (v ys : List Int) (h : ∀ y ∈ ys, 0 ≤ y ∧ y < (v.length : Int)) (hb : ys.length ≤ 1000) : impl_renamed.f ys v = some (ys.map (rg v)) := by
  unfold impl_renamed.f
  rw [ren_l0 v ys [] 0 h (by simpa using hb)]
  rfl
def toldP (i : Int) (s : List SStep) (o : List Int) : Int × List SStep × List Int × Bool := if good i s o = true then (i, s, o, true) else (0, [], [], false)
theorem plIf_ev (i : Int) (s : List SStep) (o : List Int) : Ev (fun k => spec_plIf.f k i s o) (toldP i s o) := by
  have e1 := plGood_ev i s o
  unfold spec_plIf.f toldP
  cases hg : good i s o with
  | true => rw [hg] at e1; exact bind e1 (pos rfl (ret _))
  | false => rw [hg] at e1; exact bind e1 (neg (by simp) (ret _))
theorem told_ev (i : Int) (s : List SStep) (o : List Int) : Ev (fun k => impl_told.f k i s o) (toldP i s o) := by
  have e1 := isPlan_ev i s o
  unfold impl_told.f toldP
  cases hg : good i s o with
  | true => rw [hg] at e1; exact bind e1 (pos rfl (ret _))
  | false => rw [hg] at e1; exact bind e1 (neg (by simp) (ret _))
/-- The places of another plan's values when its steps are put behind. -/
def bh (i : Int) : List SStep → List Int → List SStep → List Int × List SStep
  | [], p, s => (p, s)
  | y :: ys, p, s => bh i ys (p ++ [i + (s.length : Int)]) (s ++ [⟨mn (rg (p ++ [i + (s.length : Int)]) y.f0) (rg (p ++ [i + (s.length : Int)]) y.f1), mx (rg (p ++ [i + (s.length : Int)]) y.f0) (rg (p ++ [i + (s.length : Int)]) y.f1)⟩])
end Go.Proofs.Ytiaohjciddbpoaa.Pure
