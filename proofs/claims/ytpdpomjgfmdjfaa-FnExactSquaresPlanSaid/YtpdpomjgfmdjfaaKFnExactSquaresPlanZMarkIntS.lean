/- The law's marks in whole numbers. -/
import Derived.Test.YtpdpomjgfmdjfaaKFnExactSquaresPlanEv
import Derived.Test.YtpdpomjgfmdjfaaKFnExactSquaresPlanQ0
import Derived.Test.YtpdpomjgfmdjfaaKFnExactSquaresPlanQ2
namespace Go.Proofs.Ytpdpomjgfmdjfaa.Pure
open Go.RowKit Go.Proofs.Ytpdpomjgfmdjfaa.Z Go.Proofs.Ytpdpomjgfmdjfaa.E Go.Proofs.YtpdpomjgfmdjfaaW.PrintWords Go.Proofs.YtpdpomjgfmdjfaaW.PrintLast Go.Proofs.YtpdpomjgfmdjfaaW.PrintMore
/-- What marking writes: whole numbers from one on. -/
def marksFrom (a : Nat) : Nat → List Int
  | 0 => []
  | n + 1 => (a : Int) :: marksFrom (a + 1) n
theorem marksFrom_length (n : Nat) : ∀ a, (marksFrom a n).length = n := by
  induction n with
  | zero => intro a; rfl
  | succ n ih => intro a; simp [marksFrom, ih]
theorem marksFrom_get (n : Nat) : ∀ a j (h : j < (marksFrom a n).length), (marksFrom a n)[j] = ((a + j : Nat) : Int) := by
  induction n with
  | zero => intro a j h; simp [marksFrom] at h
  | succ n ih =>
    intro a j h
    cases j with
    | zero => simp [marksFrom]
    | succ j =>
      simp only [marksFrom, List.getElem_cons_succ]
      rw [ih (a + 1) j]
      omega
theorem markIntS_loop (n a : Nat) (hb : a + n < 9223372036854775807) (d : Nat) : ∀ (j : Nat) (o : List Int), o.length = n → j + d = n → o.take j = (marksFrom a n).take j → Ev (fun k => laws_markIntS.l0 k o ((a + j : Nat) : Int) j) (((a + n : Nat) : Int), marksFrom a n) := by
  induction d with
  | zero =>
    intro j o ho hj ht
    refine shift ?_
    simp only [laws_markIntS.l0]
    refine neg (by omega) (now ?_)
    rw [List.take_of_length_le (by omega), List.take_of_length_le (by rw [marksFrom_length]; omega)] at ht
    have : j = n := by omega
    rw [ht, this]
  | succ d ih =>
    intro j o ho hj ht
    have hlt : j < o.length := by omega
    refine shift ?_
    simp only [laws_markIntS.l0]
    refine pos (by omega) (pos (by omega) ?_)
    rw [zaz (by omega), zaz (by omega), toNat_cast]
    refine ih (j + 1) _ (by simpa using ho) (by omega) ?_
    rw [List.take_succ_eq_append_getElem (by simpa using hlt), List.take_succ_eq_append_getElem (by rw [marksFrom_length]; omega), marksFrom_get]
    simp [List.take_set_of_le, ht]
theorem markIntS_ev (l : List Int) (a : Nat) (hb : a + l.length < 9223372036854775807) : Ev (fun k => laws_markIntS.f k l (a : Int)) (((a + l.length : Nat) : Int), marksFrom a l.length) := by
  unfold laws_markIntS.f
  exact markIntS_loop l.length a hb l.length 0 l rfl (by omega) (by simp)
theorem heldIntS_loop (n a : Nat) (hb : a + n < 9223372036854775807) (d : Nat) : ∀ (j : Nat), j + d = n → Ev (fun k => laws_heldIntS.l0 k (marksFrom a n) ((a + j : Nat) : Int) j) ((a + n : Nat) : Int) := by
  induction d with
  | zero =>
    intro j hj
    refine shift ?_
    simp only [laws_heldIntS.l0]
    refine neg (by rw [marksFrom_length]; omega) (now ?_)
    have : j = n := by omega
    rw [this]
  | succ d ih =>
    intro j hj
    have hlt : j < (marksFrom a n).length := by rw [marksFrom_length]; omega
    refine shift ?_
    simp only [laws_heldIntS.l0]
    refine pos (by omega) (pos (by omega) (pos (by rw [rd_nat _ j hlt, marksFrom_get]) ?_))
    rw [zaz (by omega), zaz (by omega)]
    exact ih (j + 1) (by omega)
theorem heldIntS_ev (a n : Nat) (hb : a + n < 9223372036854775807) : Ev (fun k => laws_heldIntS.f k (marksFrom a n) (a : Int)) ((a + n : Nat) : Int) := by
  unfold laws_heldIntS.f
  exact heldIntS_loop n a hb n 0 (by omega)

end Go.Proofs.Ytpdpomjgfmdjfaa.Pure
