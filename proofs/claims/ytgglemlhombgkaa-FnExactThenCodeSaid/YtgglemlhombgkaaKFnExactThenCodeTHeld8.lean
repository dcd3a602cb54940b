/- The laws' marks in codes, read back. -/
import Derived.Test.YtgglemlhombgkaaKFnExactThenCodeTMark8
import Derived.Test.YtgglemlhombgkaaKFnExactThenCodeQ0
import Derived.Test.YtgglemlhombgkaaKFnExactThenCodeQ1
namespace Go.Proofs.Ytgglemlhombgkaa.Pure
open Go.RowKit Go.Proofs.Ytgglemlhombgkaa.T Go.Proofs.Ytgglemlhombgkaa.E Go.Proofs.YtgglemlhombgkaaW.PrintWords Go.Proofs.YtgglemlhombgkaaW.PrintLast Go.Proofs.YtgglemlhombgkaaW.PrintMore
theorem heldOpS_ev (n a : Nat) (hb : a + 3 * n < 9223372036854775000) : Ev (fun k => laws_heldOpS.f k (marksOp a n) (a : Int)) ((a + 3 * n : Nat) : Int) := by
 have key : ∀ (d j : Nat), j + d = n → Ev (fun k => laws_heldOpS.l0 k (marksOp a n) ((a + 3 * j : Nat) : Int) j) ((a + 3 * n : Nat) : Int) := by
  intro d
  induction d with
  | zero =>
   intro j hj
   obtain rfl : j = n := by omega
   refine shift ?_
   simp only [laws_heldOpS.l0]
   exact neg (by rw [marksOp_length]; omega) (ret _)
  | succ d ih =>
   intro j hj
   have hlt : j < (marksOp a n).length := by rw [marksOp_length]; omega
   have hr : za9 (marksOp a n) (j : Int) = ⟨((a + 3 * j : Nat) : Int), ((a + 3 * j + 1 : Nat) : Int), ((a + 3 * j + 2 : Nat) : Int)⟩ := by rw [rdOp_nat _ j hlt, marksOp_get n a j hlt]
   have w1 : wrap64 (((a + 3 * j : Nat) : Int) + 1) = ((a + 3 * j + 1 : Nat) : Int) := wrap_succ (by omega)
   have w2 : wrap64 (((a + 3 * j + 1 : Nat) : Int) + 1) = ((a + 3 * j + 2 : Nat) : Int) := wrap_succ (by omega)
   have w3 : wrap64 (((a + 3 * j + 2 : Nat) : Int) + 1) = ((a + 3 * (j + 1) : Nat) : Int) := by rw [wrap_succ (by omega)]; congr 1
   refine shift ?_
   simp only [laws_heldOpS.l0]
   rw [hr]
   dsimp only
   rw [w1, w2, w3, wrap_succ (by omega)]
   exact pos (by omega) (pos (by omega) (pos rfl (pos rfl (pos rfl (ih (j + 1) (by omega))))))
 have := key n 0 (by omega)
 unfold laws_heldOpS.f
 simpa using this
theorem heldCode_ev (n a : Nat) (o : Int) (hb : a + 3 * n < 9223372036854775000) : Ev (fun k => laws_heldCode.f k (marksOp a n) o (a : Int)) ((a + 3 * n : Nat) : Int) := by
 unfold laws_heldCode.f
 exact bind (heldOpS_ev n a hb) (neg (by omega) (ret _))
end Go.Proofs.Ytgglemlhombgkaa.Pure
