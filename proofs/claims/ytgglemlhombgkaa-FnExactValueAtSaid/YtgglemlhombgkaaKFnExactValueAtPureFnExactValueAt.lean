/- The law of ValueAt in plain Lean: the program's answer is the reference's, for all coefficients, arguments and moduli. -/
import Derived.Test.YtgglemlhombgkaaKFnExactValueAtVMod8
import Derived.Test.YtgglemlhombgkaaKFnExactValueAtVToIntS
import Derived.Test.YtgglemlhombgkaaKFnExactValueAtVEqIntS
import Derived.Test.YtgglemlhombgkaaKFnExactValueAtQ0
import Derived.Test.YtgglemlhombgkaaKFnExactValueAtQ1
namespace Go.Proofs.Ytgglemlhombgkaa.Pure
open Go.RowKit Go.Proofs.Ytgglemlhombgkaa.V Go.Proofs.Ytgglemlhombgkaa.E Go.Proofs.YtgglemlhombgkaaW.PrintWords Go.Proofs.YtgglemlhombgkaaW.PrintLast Go.Proofs.YtgglemlhombgkaaW.PrintMore
theorem valueAt_loop (l : List Int) (x m : Int) (hm : 1 ≤ m) (hl : l.length < 9223372036854775807) (d : Nat) : ∀ n : Nat, n + d = l.length → Ev (fun k => spec_ValueAt.l0 k l x m (vaF x m (bwd l n)) ((l.length : Int) - 1 - n)) (vaF x m (bwd l l.length), true) := by
  have hr : ∀ y, spec_poMod.f y m = some (restV y m) := fun y => by unfold spec_poMod.f restV; rw [if_neg (by omega)]
  induction d with
  | zero =>
    intro n hn
    obtain rfl : n = l.length := by omega
    refine shift ?_
    simp only [spec_ValueAt.l0]
    exact neg (by omega) (ret _)
  | succ d ih =>
    intro n hn
    have e1 : ((l.length : Int) - 1 - n) = ((l.length - 1 - n : Nat) : Int) := by omega
    have e2 : wrap64 ((l.length : Int) - 1 - n - 1) = (l.length : Int) - 1 - ((n + 1 : Nat) : Int) := by rw [wrap_id (by omega) (by omega)]; omega
    have h := ih (n + 1) (by omega)
    rw [bwd_succ, vaF_snoc] at h
    refine shift ?_
    simp only [spec_ValueAt.l0]
    rw [e2]
    rw [e1] at *
    exact pos (by omega) (bind0 (hr x) (pos (by omega) (pos (by omega) (bind0 (hr _) h))))
def coefsB (l : List Int) : Bool := decide (0 < l.length) && smallB l
theorem poCoefs_ev (l : List Int) (hl : l.length < 9223372036854775807) : Ev (fun k => spec_poCoefs.f k l) (coefsB l) := by
  unfold spec_poCoefs.f coefsB
  by_cases h : 0 < l.length
  · simp only [h, decide_true, Bool.true_and]
    exact pos (by omega) (bind (poSmall_ev l hl) (ret _))
  · simp only [h, decide_false, Bool.false_and]
    exact neg (by omega) (ret _)
theorem coefsOk_eq (l : List Int) : impl_coefsOk.f l = some (coefsB l) := by
  unfold impl_coefsOk.f coefsB
  rw [polynomialOk_eq]
  by_cases h : 0 < l.length
  · simp [h]
  · simp [h]
theorem valueAt_both (l : List Int) (x m : Int) (hl : l.length < 9223372036854775807) : ∃ (r : Int) (b : Bool), Ev (fun k => spec_ValueAt.f k l x m) (r, b) ∧ impl_ValueAt.f l x m = some (r, b) := by
  have no1 : Ev (fun k => spec_ValueAt.j0 k l x m true) (0, false) := by
    refine shift ?_
    simp only [spec_ValueAt.j0]
    exact pos trivial (ret _)
  unfold spec_ValueAt.f impl_ValueAt.f
  rw [coefsOk_eq, coefOk_eq, polyModulusOk_eq]
  simp only [Option.bind_some]
  cases hb : coefsB l with
  | false =>
    have h1 := poCoefs_ev l hl
    rw [hb] at h1
    exact ⟨0, false, bind h1 (neg (by simp) no1), by simp⟩
  | true =>
    have h1 := poCoefs_ev l hl
    rw [hb] at h1
    by_cases hx : -1000000 ≤ x ∧ x ≤ 1000000
    · by_cases hm : 1 ≤ m ∧ m ≤ 1000000
      · refine ⟨vaF x m (bwd l l.length), true, bind h1 (pos rfl (bind0 (poModulus_eq x m) (shift ?_))), by simp [hx, hm]⟩
        simp only [spec_ValueAt.j0]
        refine neg (by simp only [hx, hm, and_self, decide_true, Bool.not_true]; simp) ?_
        have h := valueAt_loop l x m hm.1 hl l.length 0 (by omega)
        rw [wrap_id (by omega) (by omega)]
        have e : ((l.length : Int) - 1 - ((0 : Nat) : Int)) = (l.length : Int) - 1 := by omega
        rw [e] at h
        exact h
      · refine ⟨0, false, bind h1 (pos rfl (bind0 (poModulus_eq x m) ?_)), by simp [hx, hm]⟩
        simp only [hm, and_false, decide_false, Bool.not_false]
        exact no1
    · refine ⟨0, false, bind h1 (pos rfl (bind0 (poModulus_eq x m) ?_)), by simp [hx]⟩
      simp only [hx, false_and, decide_false, Bool.not_false]
      exact no1
theorem law_ValueAt : laws_FnExactValueAt.Pure := by
  intro l x m hl _ _ _ _
  refine some_of ?_
  unfold laws_FnExactValueAt.f
  by_cases h : l.length ≤ 1048576
  · refine neg (by omega) ?_
    have hc := toIntS_ev l (by omega)
    obtain ⟨r, b, h1, h2⟩ := valueAt_both l x m (by omega)
    refine bind hc (bind h1 (bind hc (bind0 h2 (pos rfl (shift ?_)))))
    simp only [laws_FnExactValueAt.j0]
    exact neg (by simp) (bind hc (bind (eqIntS_ev l l (by omega)) (pos (by simp) (ret _))))
  · exact pos (by omega) (ret _)

theorem FnExactValueAt : laws_FnExactValueAt.Pure := law_ValueAt
end Go.Proofs.Ytgglemlhombgkaa.Pure
