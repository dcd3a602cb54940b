/- The law of PowersCode in plain Lean: the program's answer is the reference's, for all coefficients. -/
import Derived.Test.YtgglemlhombgkaaKFnExactPowersCodeZScheme8
import Derived.Test.YtgglemlhombgkaaKFnExactPowersCodeZToIntS
import Derived.Test.YtgglemlhombgkaaKFnExactPowersCodeZEqIntS
import Derived.Test.YtgglemlhombgkaaKFnExactPowersCodeZMarkI8
import Derived.Test.YtgglemlhombgkaaKFnExactPowersCodeZHeld8
import Derived.Test.YtgglemlhombgkaaKFnExactPowersCodeQ0
import Derived.Test.YtgglemlhombgkaaKFnExactPowersCodeQ3
import Derived.Test.YtgglemlhombgkaaKFnExactPowersCodeQ4
import Derived.Test.YtgglemlhombgkaaKFnExactPowersCodeQ5
namespace Go.Proofs.Ytgglemlhombgkaa.Pure
open Go.RowKit Go.Proofs.Ytgglemlhombgkaa.Z Go.Proofs.Ytgglemlhombgkaa.E Go.Proofs.YtgglemlhombgkaaW.PrintWords Go.Proofs.YtgglemlhombgkaaW.PrintLast Go.Proofs.YtgglemlhombgkaaW.PrintMore
theorem PowersCode_both (l : List Int) (hl : l.length ≤ 1048576) : ∃ (r : List Op) (o : Int) (b : Bool), Ev (fun k => spec_PowersCode.f k l) (r, o, b) ∧ Ev (fun k => impl_PowersCode.f k l) (r, o, b) ∧ r.length ≤ 1000000 := by
  have h0 := poCoefs_ev l (by omega)
  unfold impl_PowersCode.f
  rw [coefsOk_eq]
  simp only [Option.bind_some]
  cases hb : coefsB l with
  | false =>
    rw [hb] at h0
    unfold spec_PowersCode.f
    exact ⟨[], 0, false, bind h0 (neg (by simp) (ret _)), neg (by simp) (ret _), by simp⟩
  | true =>
    rw [hb] at h0
    have hlen := coefsB_len hb
    obtain ⟨qs, q1, q2⟩ := poPowers_loop ((l.length : Int) - 1) (by omega) (l.length - 2) [0] [] 0 2 (by simp) (by simp [rd]) (by omega) (by omega) (by simp; omega) (by simp; omega)
    have hql : qs.length = l.length - 2 + 1 := by
      have := (pwGo_len (l.length - 2) [-1, 0] []).1
      rw [q1] at this
      simp at this
      omega
    have hl2 := (pwGo_len (l.length - 2) [-1, 0] []).2
    have hpc : powersCodeIn l = grGo l (-1 :: qs) (l.length - 1) 0 (((pwGo (l.length - 2) [-1, 0] []).2.length : Int) + 1) ((pwGo (l.length - 2) [-1, 0] []).2 ++ [⟨0, rd l 0, 0⟩]) := by unfold powersCodeIn; rw [q1]
    have hg := poGroup_ev l qs (pwGo (l.length - 2) [-1, 0] []).2 0 (by omega) (by omega) (by omega) (by simp at hl2; omega)
    rw [← hpc] at hg
    have hgl : (powersCodeIn l).2.length ≤ 1000 := by
      rw [hpc, grGo_len]
      simp at hl2 ⊢
      omega
    obtain ⟨r, p, b, t1, t2, t3⟩ := told_both (powersCodeIn l).2 (powersCodeIn l).1 (by omega)
    refine ⟨r, p, b, ?_, pos rfl t2, by omega⟩
    unfold spec_PowersCode.f
    refine bind h0 (pos rfl ?_)
    rw [wrap_id (by omega) (by omega)]
    unfold spec_poPowers.f
    exact bind q2 (bind hg (bind t1 (ret _)))
theorem law_PowersCode : laws_FnExactPowersCode.Pure := by
  intro l _ hl _
  refine some_of ?_
  unfold laws_FnExactPowersCode.f
  by_cases h : l.length ≤ 1048576
  · refine neg (by omega) ?_
    have hc := toIntS_ev l (by omega)
    obtain ⟨r, o, b, h1, h2, hr⟩ := PowersCode_both l (by omega)
    have he := eqIntS_ev l l (by omega)
    have hq := eqCode_refl r o (by omega)
    have hk := markIntS_ev l 1 (by omega)
    have hm := markCode_ev r o 1 (by omega)
    have hh := heldCode_ev r.length 1 o (by omega)
    refine bind hc (bind h1 (bind hc (bind h2 (bind hq (pos rfl (shift ?_))))))
    simp only [laws_FnExactPowersCode.j0]
    refine neg (by simp) (bind hc (bind he (pos (by simp) (bind hk (neg (by omega) (bind hq (pos rfl (shift ?_))))))))
    simp only [laws_FnExactPowersCode.j1]
    refine neg (by simp) (bind hm (bind hh (neg (by omega) (pos rfl (bind hc (bind h2 (bind hq (pos rfl (shift ?_)))))))))
    simp only [laws_FnExactPowersCode.j2]
    exact neg (by simp) (bind hh (neg (by omega) (pos rfl (ret _))))
  · exact pos (by omega) (ret _)

theorem FnExactPowersCode : laws_FnExactPowersCode.Pure := law_PowersCode
end Go.Proofs.Ytgglemlhombgkaa.Pure
