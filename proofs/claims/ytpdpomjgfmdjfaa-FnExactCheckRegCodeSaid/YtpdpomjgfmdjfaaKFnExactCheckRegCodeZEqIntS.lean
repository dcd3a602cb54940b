/- The law's comparison of whole numbers. -/
import Derived.Test.YtpdpomjgfmdjfaaKFnExactCheckRegCodeEv
import Derived.Test.YtpdpomjgfmdjfaaKFnExactCheckRegCodeQ0
import Derived.Test.YtpdpomjgfmdjfaaKFnExactCheckRegCodeQ4
namespace Go.Proofs.Ytpdpomjgfmdjfaa.Pure
open Go.RowKit Go.Proofs.Ytpdpomjgfmdjfaa.Z Go.Proofs.Ytpdpomjgfmdjfaa.E Go.Proofs.YtpdpomjgfmdjfaaW.PrintWords Go.Proofs.YtpdpomjgfmdjfaaW.PrintLast Go.Proofs.YtpdpomjgfmdjfaaW.PrintMore
theorem eqIntS_loop (l m : List Int) (hl : l.length = m.length) (hm : l.length < 9223372036854775807) (d : Nat) : ∀ (j : Nat), j + d = l.length → l.take j = m.take j → Ev (fun k => laws_eqIntS.l0 k l m j) (decide (l = m)) := by
 induction d with
 | zero =>
  intro j hj ht
  refine shift ?_
  simp only [laws_eqIntS.l0]
  refine neg (by omega) (now ?_)
  rw [List.take_of_length_le (by omega), List.take_of_length_le (by omega)] at ht
  simp [ht]
 | succ d ih =>
  intro j hj ht
  have hlt : j < l.length := by omega
  refine shift ?_
  simp only [laws_eqIntS.l0]
  refine pos (by omega) (pos (by omega) (pos (by omega) ?_))
  rw [rd_nat l j hlt, rd_nat m j (by omega)]
  by_cases h : l[j] = m[j]
  ·refine pos h ?_
   rw [zb8 (by omega)]
   refine ih (j + 1) (by omega) ?_
   rw [List.take_succ_eq_append_getElem hlt, List.take_succ_eq_append_getElem (by omega), ht, h]
  ·refine neg h (now ?_)
   have : l ≠ m := fun e => h (by simp [e])
   simp [this]
theorem eqIntS_ev (l m : List Int) (hl : l.length < 9223372036854775807) : Ev (fun k => laws_eqIntS.f k l m) (decide (l = m)) := by
 unfold laws_eqIntS.f
 by_cases h : l.length = m.length
 ·refine pos (by omega) ?_
  exact eqIntS_loop l m h hl l.length 0 (by omega) (by simp)
 ·refine neg (by omega) (now ?_)
  have : l ≠ m := fun e => h (by rw [e])
  simp [this]

end Go.Proofs.Ytpdpomjgfmdjfaa.Pure
