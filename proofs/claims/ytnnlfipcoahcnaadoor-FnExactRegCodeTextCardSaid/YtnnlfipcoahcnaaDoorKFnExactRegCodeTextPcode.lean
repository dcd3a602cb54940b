/- Pure: code of registers as a law's argument or result: its size, copies, equality, marks. -/
import Derived.Test.YtnnlfipcoahcnaaDoorKFnExactRegCodeTextParg
set_option linter.unusedVariables false
set_option linter.unusedSimpArgs false
namespace Go.Proofs.YtnnlfipcoahcnaaDoor.Pure
open Go.RowKit Go.Proofs.YtnnlfipcoahcnaaDoor.E Go.Proofs.YtnnlfipcoahcnaaDoor.P3 Go.Proofs.YtnnlfipcoahcnaaDoor.Frame Go.Proofs.YtnnlfipcoahcnaaDoorW.PrintLast Go.Proofs.YtnnlfipcoahcnaaDoorW.PrintMore
open Go.Proofs.YtnnlfipcoahcnaaDoorW.PrintWords hiding mn mx
theorem szCode_eq (i : Int) (l1 : List Int) (l2 : List SRegOp) (l3 : List Int) (h1 : l1.length ≤ maxLen) (h2 : l2.length ≤ maxLen) (h3 : l3.length ≤ maxLen) : ∃ v, laws_szRegCode.f i l1 l2 l3 1048576 = some v ∧ (0 ≤ v → l1.length ≤ 1048576 ∧ l2.length ≤ 1048576 ∧ l3.length ≤ 1048576) := by
  have h1 : l1.length ≤ 9223372036854775807 := h1
  have h2 : l2.length ≤ 9223372036854775807 := h2
  have h3 : l3.length ≤ 9223372036854775807 := h3
  unfold laws_szRegCode.f laws_szRegOpS.f laws_szIntS.f
  rw [w64_id (x := 1048576 - (l1.length : Int)) (by omega)]
  by_cases c1 : (1048576 - (l1.length : Int)) < 0
  · rw [if_pos c1]
    exact ⟨-1, rfl, fun h => by omega⟩
  · rw [if_neg c1, Option.bind_some, if_neg c1, w64_id (x := 1048576 - (l1.length : Int) - (l2.length : Int)) (by omega)]
    by_cases c2 : (1048576 - (l1.length : Int) - (l2.length : Int)) < 0
    · rw [if_pos c2]
      exact ⟨-1, rfl, fun h => by omega⟩
    · rw [if_neg c2, Option.bind_some, if_neg c2, w64_id (by omega)]
      by_cases c3 : (1048576 - (l1.length : Int) - (l2.length : Int) - (l3.length : Int)) < 0
      · rw [if_pos c3]
        exact ⟨-1, rfl, fun h => by omega⟩
      · rw [if_neg c3, Option.bind_some, if_neg c3]
        exact ⟨_, rfl, fun h => by omega⟩
theorem toRegOpS_ev (l : List SRegOp) (hl : l.length < 1000000000) : Ev (fun k => laws_toRegOpS.f k l) l := by
  have hm : (List.replicate l.length (⟨0, 0, 0⟩ : SRegOp)).length = l.length := by simp
  have key : ∀ (d j : Nat), j + d = l.length → Ev (fun k => laws_toRegOpS.l0 l k (l.take j ++ (List.replicate l.length (⟨0, 0, 0⟩ : SRegOp)).drop j) (j : Int)) l := by
    intro d
    induction d with
    | zero =>
      intro j hj
      obtain rfl : j = l.length := by omega
      refine shift ?_
      simp only [laws_toRegOpS.l0]
      rw [List.drop_eq_nil_of_le (by simp), List.append_nil, List.take_of_length_le (Nat.le_refl _)]
      exact neg (by omega) (ret _)
    | succ d ih =>
      intro j hj
      refine shift ?_
      simp only [laws_toRegOpS.l0, laws_toRegOp.f]
      refine pos (by omega) ?_
      have hx : j < (l.take j ++ (List.replicate l.length (⟨0, 0, 0⟩ : SRegOp)).drop j).length := by rw [List.length_append, List.length_take, List.length_drop, hm]; omega
      rw [gt_nat (show j < l.length by omega), gt_nat hx, w64_succ (by omega)]
      simp only [Option.bind_some]
      rw [st_nat hx, set_take (v := l[j]) (by omega) hm.symm (List.getElem?_eq_getElem (by omega))]
      exact ih (j + 1) (by omega)
  unfold laws_toRegOpS.f
  have := key l.length 0 (by omega)
  simp only [List.take_zero, List.drop_zero, List.nil_append, Int.natCast_zero] at this
  have hk : mk0 (l.length : Int) (⟨0, 0, 0⟩ : SRegOp) = some (List.replicate l.length ⟨0, 0, 0⟩) := by
    unfold mk0
    rw [if_pos (by omega), Int.toNat_natCast]
  exact bind0 hk (bind this (ret _))
theorem toCode_ev (i : Int) (l1 : List Int) (l2 : List SRegOp) (l3 : List Int) (h1 : l1.length < 1000000000) (h2 : l2.length < 1000000000) (h3 : l3.length < 1000000000) : Ev (fun k => laws_toRegCode.f k i l1 l2 l3) (l1, l2, l3) := by
  unfold laws_toRegCode.f
  exact bind (toIntS_ev l1 h1) (bind (toRegOpS_ev l2 h2) (bind (toIntS_ev l3 h3) (ret _)))
theorem eqRegOpS_refl (l : List SRegOp) (hl : l.length < 1000000000) : Ev (fun k => laws_eqRegOpS.f k l l) true := by
  have key : ∀ (d j : Nat), j + d = l.length → Ev (fun k => laws_eqRegOpS.l0 l l k (j : Int)) (.inr ()) := by
    intro d
    induction d with
    | zero =>
      intro j hj
      refine shift ?_
      simp only [laws_eqRegOpS.l0]
      exact neg (by omega) (ret _)
    | succ d ih =>
      intro j hj
      refine shift ?_
      simp only [laws_eqRegOpS.l0]
      refine pos (by omega) ?_
      rw [gt_nat (show j < l.length by omega), w64_succ (by omega)]
      simp only [Option.bind_some, laws_eqRegOp.f, ne_eq, not_true_eq_false, if_false]
      exact pos trivial (ih (j + 1) (by omega))
  unfold laws_eqRegOpS.f
  refine neg (by simp) (bind (key l.length 0 (by omega)) ?_)
  exact ret _
theorem eqCode_refl (i : Int) (l1 : List Int) (l2 : List SRegOp) (l3 : List Int) (h1 : l1.length < 1000000000) (h2 : l2.length < 1000000000) (h3 : l3.length < 1000000000) : Ev (fun k => laws_eqRegCode.f k i l1 l2 l3 i l1 l2 l3) true := by
  unfold laws_eqRegCode.f
  exact neg (by simp) (bind (eqIntS_refl l1 h1) (pos rfl (bind (eqRegOpS_refl l2 h2) (pos rfl (bind (eqIntS_refl l3 h3) (pos rfl (ret _)))))))
def mkOps (a : Int) (n : Nat) : List SRegOp := (List.range n).map fun (j : Nat) => ⟨a + 3 * (j : Int), a + 3 * (j : Int) + 1, a + 3 * (j : Int) + 2⟩
end Go.Proofs.YtnnlfipcoahcnaaDoor.Pure
