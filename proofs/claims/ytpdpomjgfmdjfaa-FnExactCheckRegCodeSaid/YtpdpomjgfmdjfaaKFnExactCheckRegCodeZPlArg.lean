/- The law's plan handed over: its copy, and its size. -/
import Derived.Test.YtpdpomjgfmdjfaaKFnExactCheckRegCodeZToIntS
import Derived.Test.YtpdpomjgfmdjfaaKFnExactCheckRegCodeZPl
import Derived.Test.YtpdpomjgfmdjfaaKFnExactCheckRegCodeQ0
import Derived.Test.YtpdpomjgfmdjfaaKFnExactCheckRegCodeQ1
import Derived.Test.YtpdpomjgfmdjfaaKFnExactCheckRegCodeQ5
import Derived.Test.YtpdpomjgfmdjfaaKFnExactCheckRegCodeQ6
namespace Go.Proofs.Ytpdpomjgfmdjfaa.Pure
open Go.RowKit Go.Proofs.Ytpdpomjgfmdjfaa.Z Go.Proofs.Ytpdpomjgfmdjfaa.E Go.Proofs.YtpdpomjgfmdjfaaW.PrintWords Go.Proofs.YtpdpomjgfmdjfaaW.PrintLast Go.Proofs.YtpdpomjgfmdjfaaW.PrintMore
abbrev LSt := S137
def toSt (x : LSt) : St := ⟨x.f0, x.f1⟩
theorem rdLSt_nat (xs : List LSt) (j : Nat) (h : j < xs.length) : rd_T137 xs (j : Int) = xs[j] := by
 simp [rd_T137, List.getD_eq_getElem?_getD, h]
theorem toStepS_ev (l : List LSt) (hl : l.length ≤ 1048576) : Ev (fun k => laws_toStepS.f k l) (l.map toSt) := by
 have key : ∀ (d j : Nat) (o : List St), o.length = l.length → j + d = l.length → o.take j = (l.map toSt).take j → Ev (fun k => laws_toStepS.l0 k l o j) (l.map toSt) := by
  intro d
  induction d with
  | zero =>
   intro j o ho hj ht
   refine shift ?_
   simp only [laws_toStepS.l0]
   refine neg (by omega) (now ?_)
   rw [List.take_of_length_le (by omega), List.take_of_length_le (by simp; omega)] at ht
   rw [ht]
  | succ d ih =>
   intro j o ho hj ht
   have hlt : j < l.length := by omega
   refine shift ?_
   simp only [laws_toStepS.l0]
   refine pos (by omega) (pos (by omega) (bind0 (by unfold laws_toStep.f; rfl) (pos (by omega) ?_)))
   rw [zb8 (by omega), toNat_cast, rdLSt_nat l j hlt]
   refine ih (j + 1) _ (by simpa using ho) (by omega) ?_
   rw [List.take_succ_eq_append_getElem (by simpa [ho] using hlt), List.take_succ_eq_append_getElem (by simpa using hlt)]
   simp [List.take_set_of_le, ht, toSt]
 unfold laws_toStepS.f
 refine pos (by omega) (pos (by omega) ?_)
 exact key l.length 0 _ (by simp) (by omega) (by simp)
theorem toPlan_ev (n : Int) (l : List LSt) (o : List Int) (hl : l.length ≤ 1048576) (ho : o.length ≤ 1048576) : Ev (fun k => laws_toPlan.f k n l o) (n, l.map toSt, o) := by
 unfold laws_toPlan.f
 exact bind (toStepS_ev l hl) (bind (toIntS_ev o (by omega)) (ret _))
theorem szPlan_eq (n : Int) (l : List LSt) (o : List Int) (left : Nat) (hl : left ≤ 1048576) (h1 : l.length ≤ maxLen) (h2 : o.length ≤ maxLen) :
  laws_szPlan.f n l o (left : Int) = some (if l.length + o.length ≤ left then ((left - (l.length + o.length) : Nat) : Int) else -1) := by
 unfold maxLen at h1 h2
 unfold laws_szPlan.f laws_szStepS.f laws_szIntS.f
 rw [wrap_id (x := (left : Int) - (l.length : Int)) (by omega) (by omega)]
 by_cases g1 : l.length ≤ left
 ·rw [if_neg (by omega)]
  simp only [Option.bind_some]
  rw [if_neg (by omega), wrap_id (x := (left : Int) - (l.length : Int) - (o.length : Int)) (by omega) (by omega)]
  by_cases g2 : l.length + o.length ≤ left
  ·rw [if_neg (by omega)]
   simp only [Option.bind_some]
   rw [if_neg (by omega), if_pos g2]
   congr 1
   omega
  ·rw [if_pos (by omega)]
   simp only [Option.bind_some]
   rw [if_pos (by omega), if_neg g2]
 ·rw [if_pos (by omega)]
  simp only [Option.bind_some]
  rw [if_pos (by omega), if_neg (by omega)]
end Go.Proofs.Ytpdpomjgfmdjfaa.Pure
