/- The laws' helpers over code of registers: copies, sizes, comparison. -/
import Derived.Test.YtpdpomjgfmdjfaaKFnExactCheckRegCodeZReg
import Derived.Test.YtpdpomjgfmdjfaaKFnExactCheckRegCodeZToIntS
import Derived.Test.YtpdpomjgfmdjfaaKFnExactCheckRegCodeZEqIntS
import Derived.Test.YtpdpomjgfmdjfaaKFnExactCheckRegCodeQ0
import Derived.Test.YtpdpomjgfmdjfaaKFnExactCheckRegCodeQ1
import Derived.Test.YtpdpomjgfmdjfaaKFnExactCheckRegCodeQ2
import Derived.Test.YtpdpomjgfmdjfaaKFnExactCheckRegCodeQ3
import Derived.Test.YtpdpomjgfmdjfaaKFnExactCheckRegCodeQ4
import Derived.Test.YtpdpomjgfmdjfaaKFnExactCheckRegCodeQ5
namespace Go.Proofs.Ytpdpomjgfmdjfaa.Pure
open Go.RowKit Go.Proofs.Ytpdpomjgfmdjfaa.Z Go.Proofs.Ytpdpomjgfmdjfaa.E Go.Proofs.YtpdpomjgfmdjfaaW.PrintWords Go.Proofs.YtpdpomjgfmdjfaaW.PrintLast Go.Proofs.YtpdpomjgfmdjfaaW.PrintMore
abbrev LRop := S126
def toRop (x : LRop) : Rop := ⟨x.f0, x.f1, x.f2⟩
theorem rdLRop_nat (xs : List LRop) (j : Nat) (h : j < xs.length) : rd_T126 xs (j : Int) = xs[j] := by
 simp [rd_T126, List.getD_eq_getElem?_getD, h]
theorem toRegOpS_ev (l : List LRop) (hl : l.length ≤ 1048576) : Ev (fun k => laws_toRegOpS.f k l) (l.map toRop) := by
 have key : ∀ (d j : Nat) (o : List Rop), o.length = l.length → j + d = l.length → o.take j = (l.map toRop).take j → Ev (fun k => laws_toRegOpS.l0 k l o j) (l.map toRop) := by
  intro d
  induction d with
  | zero =>
   intro j o ho hj ht
   refine shift ?_
   simp only [laws_toRegOpS.l0]
   refine neg (by omega) (now ?_)
   rw [List.take_of_length_le (by omega), List.take_of_length_le (by simp; omega)] at ht
   rw [ht]
  | succ d ih =>
   intro j o ho hj ht
   have hlt : j < l.length := by omega
   refine shift ?_
   simp only [laws_toRegOpS.l0]
   refine pos (by omega) (pos (by omega) (bind0 (by unfold laws_toRegOp.f; rfl) (pos (by omega) ?_)))
   rw [zb8 (by omega), toNat_cast, rdLRop_nat l j hlt]
   refine ih (j + 1) _ (by simpa using ho) (by omega) ?_
   rw [List.take_succ_eq_append_getElem (by simpa [ho] using hlt), List.take_succ_eq_append_getElem (by simpa using hlt)]
   simp [List.take_set_of_le, ht, toRop]
 unfold laws_toRegOpS.f
 refine pos (by omega) (pos (by omega) ?_)
 exact key l.length 0 _ (by simp) (by omega) (by simp)
theorem eqRegOpS_refl (l : List Rop) (hm : l.length ≤ 1048576) : Ev (fun k => laws_eqRegOpS.f k l l) true := by
 have key : ∀ (d j : Nat), j + d = l.length → Ev (fun k => laws_eqRegOpS.l0 k l l j) true := by
  intro d
  induction d with
  | zero =>
   intro j hj
   refine shift ?_
   simp only [laws_eqRegOpS.l0]
   exact neg (by omega) (ret _)
  | succ d ih =>
   intro j hj
   refine shift ?_
   simp only [laws_eqRegOpS.l0]
   refine pos (by omega) (pos (by omega) (pos (by omega) (bind0 (a := true) (by unfold laws_eqRegOp.f; simp) (pos rfl ?_))))
   rw [zb8 (by omega)]
   exact ih (j + 1) (by omega)
 unfold laws_eqRegOpS.f
 exact pos rfl (key l.length 0 (by omega))
theorem toRegCode_ev (a0 : Int) (l1 : List Int) (l2 : List LRop) (l3 : List Int) (h1 : l1.length ≤ 1048576) (h2 : l2.length ≤ 1048576) (h3 : l3.length ≤ 1048576) : Ev (fun k => laws_toRegCode.f k a0 l1 l2 l3) (a0, l1, l2.map toRop, l3) := by
 unfold laws_toRegCode.f
 exact bind (toIntS_ev l1 (by omega)) (bind (toRegOpS_ev l2 h2) (bind (toIntS_ev l3 (by omega)) (ret _)))
theorem eqRegCode_refl (a0 : Int) (l1 : List Int) (l2 : List Rop) (l3 : List Int) (h1 : l1.length ≤ 1048576) (h2 : l2.length ≤ 1048576) (h3 : l3.length ≤ 1048576) : Ev (fun k => laws_eqRegCode.f k a0 l1 l2 l3 a0 l1 l2 l3) true := by
 have e1 := eqIntS_ev l1 l1 (by omega)
 have e3 := eqIntS_ev l3 l3 (by omega)
 rw [decide_eq_true rfl] at e1 e3
 unfold laws_eqRegCode.f
 exact pos rfl (bind e1 (pos rfl (bind (eqRegOpS_refl l2 h2) (pos rfl (bind e3 (pos rfl (ret _)))))))
/-- A size that is left is told, or it is too great. -/
theorem szRegCode_eq (a0 : Int) (l1 : List Int) (l2 : List LRop) (l3 : List Int) (left : Nat) (hl : left ≤ 1048576) (h1 : l1.length ≤ maxLen) (h2 : l2.length ≤ maxLen) (h3 : l3.length ≤ maxLen) :
  laws_szRegCode.f a0 l1 l2 l3 (left : Int) = some (if l1.length + l2.length + l3.length ≤ left then ((left - (l1.length + l2.length + l3.length) : Nat) : Int) else -1) := by
 unfold maxLen at h1 h2 h3
 unfold laws_szRegCode.f laws_szIntS.f laws_szRegOpS.f
 rw [wrap_id (x := (left : Int) - (l1.length : Int)) (by omega) (by omega)]
 by_cases g1 : l1.length ≤ left
 ·rw [if_neg (by omega)]
  simp only [Option.bind_some]
  rw [if_neg (by omega), wrap_id (x := (left : Int) - (l1.length : Int) - (l2.length : Int)) (by omega) (by omega)]
  by_cases g2 : l1.length + l2.length ≤ left
  ·rw [if_neg (by omega)]
   simp only [Option.bind_some]
   rw [if_neg (by omega), wrap_id (x := (left : Int) - (l1.length : Int) - (l2.length : Int) - (l3.length : Int)) (by omega) (by omega)]
   by_cases g3 : l1.length + l2.length + l3.length ≤ left
   ·rw [if_neg (by omega)]
    simp only [Option.bind_some]
    rw [if_neg (by omega), if_pos g3]
    congr 1
    omega
   ·rw [if_pos (by omega)]
    simp only [Option.bind_some]
    rw [if_pos (by omega), if_neg g3]
  ·rw [if_pos (by omega)]
   simp only [Option.bind_some]
   rw [if_pos (by omega), if_neg (by omega)]
 ·rw [if_pos (by omega)]
  simp only [Option.bind_some]
  rw [if_pos (by omega), if_neg (by omega)]
end Go.Proofs.Ytpdpomjgfmdjfaa.Pure
