/- Pure: the program reads plans from texts as the documentation does. -/
import Derived.Test.YtnnlfipcoahcnaaDoorKFnExactParsePlanPtp
set_option linter.unusedVariables false
set_option linter.unusedSimpArgs false
namespace Go.Proofs.YtnnlfipcoahcnaaDoor.Pure
open Go.RowKit Go.Proofs.YtnnlfipcoahcnaaDoor.E Go.Proofs.YtnnlfipcoahcnaaDoor.P2 Go.Proofs.YtnnlfipcoahcnaaDoor.Hand Go.Proofs.YtnnlfipcoahcnaaDoor.Frame Go.Proofs.YtnnlfipcoahcnaaDoorW.PrintLast Go.Proofs.YtnnlfipcoahcnaaDoorW.PrintMore Go.Lib Go.Proofs.YtnnlfipcoahcnaaDoor.Txl
open Go.Proofs.YtnnlfipcoahcnaaDoorW.PrintWords hiding mn mx
theorem FnExactParsePlan : laws_FnExactParsePlan.Pure := by
  intro a ha
  obtain ⟨s, rfl⟩ : ∃ s, a = bs s := ⟨_, (bs_of a).symm⟩
  refine some_of ?_
  unfold laws_FnExactParsePlan.f
  rw [bs_size]
  by_cases c : 1048576 < (s.length : Int)
  · exact pos c (ret _)
  · have h1 := sparse_ev (s := s) (by omega)
    have h2 := iparse_ev (s := s) (by omega)
    rw [ip_sp] at h2
    have hl := spR_len s
    obtain ⟨r, hr⟩ : ∃ r, spR s = r := ⟨_, rfl⟩
    rw [hr] at h1 h2 hl
    obtain ⟨i, t, o, b⟩ := r
    have hq := eqPlan_refl i t o (by have := hl.1; simp at this; omega) (by have := hl.2; simp at this; omega)
    have hm := markPlan_ev i t o 1 (by omega) (by have h3 := hl.1; have h4 := hl.2; simp at h3 h4; omega)
    have hh := heldPlan_ev i t.length o.length 1 (by omega) (by have h3 := hl.1; have h4 := hl.2; simp at h3 h4; omega)
    refine neg c (bind h1 (bind h2 (bind hq (pos rfl (neg (by simp) (bind hm (bind hh (neg (by omega) (neg (by simp) (bind h2 (bind hq (pos rfl (neg (by simp) (bind hh (neg (by omega) (neg (by simp) (ret _)))))))))))))))))
end Go.Proofs.YtnnlfipcoahcnaaDoor.Pure
