/- The law of CountOps in plain Lean: the program's answer is the reference's, for every code. -/
import Derived.Test.YtgglemlhombgkaaKFnExactCountOpsCode8
import Derived.Test.YtgglemlhombgkaaKFnExactCountOpsEqIntS
import Derived.Test.YtgglemlhombgkaaKFnExactCountOpsMarkIntS
import Derived.Test.YtgglemlhombgkaaKFnExactCountOpsMark8
import Derived.Test.YtgglemlhombgkaaKFnExactCountOpsQ0
import Derived.Test.YtgglemlhombgkaaKFnExactCountOpsQ4
namespace Go.Proofs.Ytgglemlhombgkaa.Pure
open Go.RowKit Go.Proofs.Ytgglemlhombgkaa.Q Go.Proofs.Ytgglemlhombgkaa.E Go.Proofs.YtgglemlhombgkaaW.PrintWords Go.Proofs.YtgglemlhombgkaaW.PrintLast Go.Proofs.YtgglemlhombgkaaW.PrintMore
theorem count_loop (l : List Op) (hl : l.length ≤ 120) (hok : ∀ (j : Nat) (h : j < l.length), OpOk j l[j]) (d : Nat) : ∀ (i : Nat) (vs : List Int), vs.length = 4 → i + d = l.length →
    ∃ r : List Int, Ev (fun k => spec_CountOps.l0 k vs l (l.length : Int) i) (r, true) ∧ Ev (fun k => impl_CountOps.l0 k vs l (l.length : Int) i) (r, true) ∧ r.length = 4 := by
  induction d with
  | zero =>
    intro i vs hv hi
    refine ⟨vs, ?_, ?_, hv⟩
    · refine shift ?_
      simp only [spec_CountOps.l0]
      exact neg (by omega) (ret _)
    · refine shift ?_
      simp only [impl_CountOps.l0]
      exact neg (by omega) (ret _)
  | succ d ih =>
    intro i vs hv hi
    have hlt : i < l.length := by omega
    have hr : rd_T69 l (i : Int) = l[i] := rdOp_nat l i hlt
    have hop := hok i hlt
    unfold OpOk at hop
    obtain ⟨r, g1, g2, g3⟩ := ih (i + 1) (vs.set (l[i].f0).toNat (wrap64 (rd vs l[i].f0 + 1))) (by simpa using hv) (by omega)
    refine ⟨r, ?_, ?_, g3⟩
    · refine shift ?_
      simp only [spec_CountOps.l0]
      rw [hr, wrap_succ (j := i) (by omega)]
      exact pos (by omega) (pos (by omega) (pos (by omega) (pos (by omega) (pos (by omega) g1))))
    · refine shift ?_
      simp only [impl_CountOps.l0]
      rw [hr, wrap_succ (j := i) (by omega)]
      exact pos (by omega) (pos (by omega) (pos (by omega) (pos (by omega) (pos (by omega) g2))))
theorem count_both (l : List Op) (o : Int) (hl : l.length ≤ 1048576) : ∃ (r : List Int) (b : Bool), Ev (fun k => spec_CountOps.f k l o) (r, b) ∧ Ev (fun k => impl_CountOps.f k l o) (r, b) ∧ r.length ≤ 4 := by
  obtain ⟨b, h1, h2, h3⟩ := good_both l o hl
  unfold spec_CountOps.f impl_CountOps.f
  cases b with
  | false => exact ⟨[], false, bind h1 (neg (by simp) (ret _)), bind h2 (neg (by simp) (ret _)), by simp⟩
  | true =>
    obtain ⟨v, g⟩ := h3 rfl
    obtain ⟨r, g1, g2, g3⟩ := count_loop l g.few g.ops l.length 0 (List.replicate 4 0) rfl (by omega)
    exact ⟨r, true, bind h1 (pos rfl (pos (by omega) g1)), bind h2 (pos rfl (pos (by omega) g2)), by omega⟩
theorem law_CountOps : laws_FnExactCountOps.Pure := by
  intro l o hl _ _
  refine some_of ?_
  unfold laws_FnExactCountOps.f
  by_cases h : l.length ≤ 1048576
  · refine bind0 (szCode_small l o 1048576 (Nat.le_refl _) h) (neg (by omega) ?_)
    have hc := toCode_ev l o h
    obtain ⟨r, b, h1, h2, hr⟩ := count_both (l.map toOp) o (by simpa using h)
    have he := eqIntS_ev r r (by omega)
    have hk := markIntS_ev r 1 (by omega)
    have hq := heldIntS_ev 1 r.length (by omega)
    refine bind hc (bind h1 (bind hc (bind h2 (bind he (pos (by simp) (shift ?_))))))
    simp only [laws_FnExactCountOps.j0]
    refine neg (by simp) (bind hc (bind (eqCode_refl _ _ (by simp; omega)) (pos rfl (bind (markCode_ev _ o 1 (by simp; omega)) (neg (by omega) (bind he (pos (by simp) (shift ?_))))))))
    simp only [laws_FnExactCountOps.j1]
    refine neg (by simp) (bind hk (bind hq (neg (by omega) (pos rfl (bind hc (bind h2 (bind he (pos (by simp) (shift ?_)))))))))
    simp only [laws_FnExactCountOps.j2]
    exact neg (by simp) (bind hq (neg (by omega) (pos rfl (ret _))))
  · exact bind0 (szCode_large l o 1048576 (Nat.le_refl _) (by omega) hl) (pos (by omega) (ret _))

theorem FnExactCountOps : laws_FnExactCountOps.Pure := law_CountOps
end Go.Proofs.Ytgglemlhombgkaa.Pure
