/- Coefficients, and codes that are handed back, in plain Lean. -/
import Derived.Test.YtgglemlhombgkaaKFnExactEstrinCodeZCode8
import Derived.Test.YtgglemlhombgkaaKFnExactEstrinCodeQ0
import Derived.Test.YtgglemlhombgkaaKFnExactEstrinCodeQ1
import Derived.Test.YtgglemlhombgkaaKFnExactEstrinCodeQ2
import Derived.Test.YtgglemlhombgkaaKFnExactEstrinCodeQ3
import Derived.Test.YtgglemlhombgkaaKFnExactEstrinCodeQ4
namespace Go.Proofs.Ytgglemlhombgkaa.Pure
open Go.RowKit Go.Proofs.Ytgglemlhombgkaa.Z Go.Proofs.Ytgglemlhombgkaa.E Go.Proofs.YtgglemlhombgkaaW.PrintWords Go.Proofs.YtgglemlhombgkaaW.PrintLast Go.Proofs.YtgglemlhombgkaaW.PrintMore
def coefsB (l : List Int) : Bool := decide (0 < l.length) && smallB l
theorem poCoefs_ev (l : List Int) (hl : l.length < 9223372036854775807) : Ev (fun k => spec_poCoefs.f k l) (coefsB l) := by
 unfold spec_poCoefs.f coefsB
 by_cases h : 0 < l.length
 ·simp only [h, decide_true, Bool.true_and]
  exact pos (by omega) (bind (poSmall_ev l hl) (ret _))
 ·simp only [h, decide_false, Bool.false_and]
  exact neg (by omega) (ret _)
theorem coefsOk_eq (l : List Int) : impl_coefsOk.f l = some (coefsB l) := by
 unfold impl_coefsOk.f coefsB
 rw [polynomialOk_eq]
 by_cases h : 0 < l.length
 ·simp [h]
 ·simp [h]
theorem coefsB_len {l : List Int} (h : coefsB l = true) : 1 ≤ l.length ∧ l.length ≤ 17 := by
 unfold coefsB at h
 simp only [Bool.and_eq_true, decide_eq_true_eq] at h
 exact ⟨h.1, small_len h.2⟩
/-- A code handed back: both hand back the same. -/
theorem told_both (l : List Op) (o : Int) (hl : l.length ≤ 1048576) : ∃ (r : List Op) (p : Int) (b : Bool), Ev (fun k => spec_poIf.f k l o) (r, p, b) ∧ Ev (fun k => impl_toldCode.f k l o) (r, p, b) ∧ r.length ≤ l.length := by
 obtain ⟨b, h1, h2, _⟩ := good_both l o hl
 unfold spec_poIf.f impl_toldCode.f
 cases b with
 | false => exact ⟨[], 0, false, bind h1 (neg (by simp) (ret _)), bind h2 (neg (by simp) (ret _)), by simp⟩
 | true => exact ⟨l, o, true, bind h1 (pos rfl (ret _)), bind h2 (pos rfl (ret _)), Nat.le_refl _⟩
theorem poAdd_eq (l : List Op) (o a b c : Int) (hl : l.length ≤ 1000000) : spec_poAdd.f l o a b c = some (l ++ [⟨a, b, c⟩], 0, (l.length : Int) + 1) := by
 unfold spec_poAdd.f
 simp only [Option.bind_some, List.length_nil, List.nil_append]
 rw [if_pos (by omega), if_pos (by omega)]
 simp
end Go.Proofs.Ytgglemlhombgkaa.Pure
