/- The law's copy of whole numbers. -/
import Derived.Test.YtpdpomjgfmdjfaaKFnExactCheckRegCodeEv
import Derived.Test.YtpdpomjgfmdjfaaKFnExactCheckRegCodeQ0
import Derived.Test.YtpdpomjgfmdjfaaKFnExactCheckRegCodeQ2
namespace Go.Proofs.Ytpdpomjgfmdjfaa.Pure
open Go.RowKit Go.Proofs.Ytpdpomjgfmdjfaa.Z Go.Proofs.Ytpdpomjgfmdjfaa.E Go.Proofs.YtpdpomjgfmdjfaaW.PrintWords Go.Proofs.YtpdpomjgfmdjfaaW.PrintLast Go.Proofs.YtpdpomjgfmdjfaaW.PrintMore
/-! ### whole numbers -/
theorem toIntS_loop (l : List Int) (hl : l.length < 9223372036854775807) (d : Nat) : ∀ (j : Nat) (o : List Int), o.length = l.length → j + d = l.length → o.take j = l.take j → Ev (fun k => laws_toIntS.l0 k l o j) l := by
 induction d with
 | zero =>
  intro j o ho hj ht
  refine shift ?_
  simp only [laws_toIntS.l0]
  refine neg (by omega) (now ?_)
  rw [← List.take_of_length_le (l := o) (i := j) (by omega), ht, List.take_of_length_le (by omega)]
 | succ d ih =>
  intro j o ho hj ht
  have hlt : j < l.length := by omega
  refine shift ?_
  simp only [laws_toIntS.l0]
  refine pos (by omega) (pos (by omega) (pos (by omega) ?_))
  rw [zb8 (by omega), toNat_cast, rd_nat l j hlt]
  refine ih (j + 1) _ (by simpa using ho) (by omega) ?_
  rw [List.take_succ_eq_append_getElem (by simpa [ho] using hlt), List.take_succ_eq_append_getElem hlt]
  simp [List.take_set_of_le, ht]
theorem toIntS_ev (l : List Int) (hl : l.length ≤ 35184372088832) : Ev (fun k => laws_toIntS.f k l) l := by
 unfold laws_toIntS.f
 refine pos (by omega) (pos (by omega) ?_)
 exact toIntS_loop l (by omega) l.length 0 _ (by simp) (by omega) (by simp)

end Go.Proofs.Ytpdpomjgfmdjfaa.Pure
