/- Small coefficients, small arguments: what the reference asks is what the program asks. -/
import Derived.Test.YtgglemlhombgkaaKFnExactThenCodeEv
import Derived.Test.YtgglemlhombgkaaKFnExactThenCodeQ0
import Derived.Test.YtgglemlhombgkaaKFnExactThenCodeQ1
import Derived.Test.YtgglemlhombgkaaKFnExactThenCodeQ2
namespace Go.Proofs.Ytgglemlhombgkaa.Pure
open Go.RowKit Go.Proofs.Ytgglemlhombgkaa.T Go.Proofs.Ytgglemlhombgkaa.E Go.Proofs.YtgglemlhombgkaaW.PrintWords Go.Proofs.YtgglemlhombgkaaW.PrintLast Go.Proofs.YtgglemlhombgkaaW.PrintMore
theorem l1In_eq (x lo hi : Int) : spec_l1In.f x lo hi = some (decide (lo ≤ x ∧ x ≤ hi)) := by
 unfold spec_l1In.f
 by_cases h : lo ≤ x <;> simp [h]
theorem in_eq (x lo hi : Int) : impl_in.f x lo hi = some (decide (lo ≤ x ∧ x ≤ hi)) := by
 unfold impl_in.f
 by_cases h : lo ≤ x <;> simp [h]
theorem coefOk_eq (x : Int) : impl_coefOk.f x = some (decide (-1000000 ≤ x ∧ x ≤ 1000000)) := by
 unfold impl_coefOk.f
 rw [in_eq]
 rfl
theorem l1All_ev (l : List Int) (lo hi : Int) (hl : l.length < 9223372036854775807) : Ev (fun k => spec_l1All.f k l lo hi) (l.all fun x => decide (lo ≤ x ∧ x ≤ hi)) := by
 have key : ∀ d j : Nat, j + d = l.length → Ev (fun k => spec_l1All.l0 k lo hi l (l.length : Int) j) ((l.drop j).all fun x => decide (lo ≤ x ∧ x ≤ hi)) := by
  intro d
  induction d with
  | zero =>
   intro j hj
   refine shift ?_
   simp only [spec_l1All.l0]
   rw [List.drop_eq_nil_of_le (by omega)]
   exact neg (by omega) (ret _)
  | succ d ih =>
   intro j hj
   have hlt : j < l.length := by omega
   refine shift ?_
   simp only [spec_l1All.l0]
   refine pos (by omega) (pos (by omega) (pos (by omega) (bind0 (l1In_eq _ _ _) ?_)))
   rw [List.drop_eq_getElem_cons hlt, List.all_cons, rd_nat l j hlt, wrap_succ (by omega)]
   by_cases h : lo ≤ l[j] ∧ l[j] ≤ hi
   ·simp only [h, and_self, decide_true, Bool.true_and]
    exact pos trivial (ih (j + 1) (by omega))
   ·simp only [h, decide_false, Bool.false_and]
    exact neg (by simp) (ret _)
 unfold spec_l1All.f
 have := key l.length 0 (by omega)
 rwa [List.drop_zero] at this
def smallB (l : List Int) : Bool := decide (l.length ≤ 17) && l.all fun x => decide (-1000000 ≤ x ∧ x ≤ 1000000)
theorem poSmall_ev (l : List Int) (hl : l.length < 9223372036854775807) : Ev (fun k => spec_poSmall.f k l) (smallB l) := by
 unfold spec_poSmall.f smallB
 by_cases h : l.length ≤ 17
 ·simp only [h, decide_true, Bool.true_and]
  exact pos (by omega) (bind (l1All_ev l _ _ hl) (ret _))
 ·simp only [h, decide_false, Bool.false_and]
  exact neg (by omega) (ret _)
theorem polynomialOk_eq (l : List Int) : impl_polynomialOk.f l = some (smallB l) := by
 unfold impl_polynomialOk.f smallB
 congr 2
 rw [List.not_any_eq_all_not]
 congr 1
 funext x
 unfold polyOkB
 by_cases h1 : -1000000 ≤ x <;> by_cases h2 : x ≤ 1000000 <;> simp [h1, h2]
theorem small_len {l : List Int} (h : smallB l = true) : l.length ≤ 17 := by
 unfold smallB at h
 simp at h
 exact h.1

end Go.Proofs.Ytgglemlhombgkaa.Pure
