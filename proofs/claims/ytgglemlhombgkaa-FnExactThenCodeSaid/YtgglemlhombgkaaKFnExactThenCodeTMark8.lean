/- The laws' marks in codes. -/
import Derived.Test.YtgglemlhombgkaaKFnExactThenCodeTOps8
import Derived.Test.YtgglemlhombgkaaKFnExactThenCodeQ0
import Derived.Test.YtgglemlhombgkaaKFnExactThenCodeQ1
namespace Go.Proofs.Ytgglemlhombgkaa.Pure
open Go.RowKit Go.Proofs.Ytgglemlhombgkaa.T Go.Proofs.Ytgglemlhombgkaa.E Go.Proofs.YtgglemlhombgkaaW.PrintWords Go.Proofs.YtgglemlhombgkaaW.PrintLast Go.Proofs.YtgglemlhombgkaaW.PrintMore
theorem rdOp_set (o : List Op) (j : Nat) (v : Op) (h : j < o.length) : za9 (o.set j v) (j : Int) = v := by
 rw [rdOp_nat _ j (by simpa using h), List.getElem_set_self]
/-- What marking writes into ops. -/
def marksOp (a : Nat) : Nat → List Op
 | 0 => []
 | n + 1 => ⟨(a : Int), ((a + 1 : Nat) : Int), ((a + 2 : Nat) : Int)⟩ :: marksOp (a + 3) n
theorem marksOp_length (n : Nat) : ∀ a, (marksOp a n).length = n := by
 induction n with
 | zero => intro a; rfl
 | succ n ih => intro a; simp [marksOp, ih]
theorem marksOp_get (n : Nat) : ∀ a j (h : j < (marksOp a n).length), (marksOp a n)[j] = ⟨((a + 3 * j : Nat) : Int), ((a + 3 * j + 1 : Nat) : Int), ((a + 3 * j + 2 : Nat) : Int)⟩ := by
 induction n with
 | zero => intro a j h; simp [marksOp] at h
 | succ n ih =>
  intro a j h
  cases j with
  | zero => simp [marksOp]
  | succ j =>
   simp only [marksOp, List.getElem_cons_succ]
   rw [ih (a + 3) j]
   have : a + 3 + 3 * j = a + 3 * (j + 1) := by omega
   rw [this]
theorem markOpS_loop (n a : Nat) (hb : a + 3 * n < 9223372036854775000) (d : Nat) : ∀ (j : Nat) (o : List Op), o.length = n → j + d = n → o.take j = (marksOp a n).take j → Ev (fun k => laws_markOpS.l0 k o ((a + 3 * j : Nat) : Int) j) (((a + 3 * n : Nat) : Int), marksOp a n) := by
 induction d with
 | zero =>
  intro j o ho hj ht
  refine shift ?_
  simp only [laws_markOpS.l0]
  refine neg (by omega) (now ?_)
  rw [List.take_of_length_le (by omega), List.take_of_length_le (by rw [marksOp_length]; omega)] at ht
  have : j = n := by omega
  rw [ht, this]
 | succ d ih =>
  intro j o ho hj ht
  have hlt : j < o.length := by omega
  have w1 : wrap64 (((a + 3 * j : Nat) : Int) + 1) = ((a + 3 * j + 1 : Nat) : Int) := wrap_succ (by omega)
  have w2 : wrap64 (((a + 3 * j + 1 : Nat) : Int) + 1) = ((a + 3 * j + 2 : Nat) : Int) := wrap_succ (by omega)
  have w3 : wrap64 (((a + 3 * j + 2 : Nat) : Int) + 1) = ((a + 3 * (j + 1) : Nat) : Int) := by rw [wrap_succ (by omega)]; congr 1
  refine shift ?_
  simp only [laws_markOpS.l0, Option.bind_some]
  rw [w1, w2, w3, wrap_succ (j := j) (by omega), toNat_cast]
  refine pos (by omega) (pos (by omega) ?_)
  rw [rdOp_set o j _ hlt, List.set_set]
  simp only [rdOp_set o j _ hlt, List.set_set]
  refine ih (j + 1) _ (by simpa using ho) (by omega) ?_
  rw [List.take_succ_eq_append_getElem (by simpa using hlt), List.take_succ_eq_append_getElem (by rw [marksOp_length]; omega), marksOp_get]
  simp [List.take_set_of_le, ht]
theorem markOpS_ev (l : List Op) (a : Nat) (hb : a + 3 * l.length < 9223372036854775000) : Ev (fun k => laws_markOpS.f k l (a : Int)) (((a + 3 * l.length : Nat) : Int), marksOp a l.length) := by
 unfold laws_markOpS.f
 exact markOpS_loop l.length a hb l.length 0 l rfl (by omega) (by simp)
theorem markCode_ev (l : List Op) (o : Int) (a : Nat) (hb : a + 3 * l.length < 9223372036854775000) : Ev (fun k => laws_markCode.f k l o (a : Int)) (((a + 3 * l.length : Nat) : Int), marksOp a l.length) := by
 unfold laws_markCode.f
 exact bind (markOpS_ev l a hb) (ret _)
end Go.Proofs.Ytgglemlhombgkaa.Pure
