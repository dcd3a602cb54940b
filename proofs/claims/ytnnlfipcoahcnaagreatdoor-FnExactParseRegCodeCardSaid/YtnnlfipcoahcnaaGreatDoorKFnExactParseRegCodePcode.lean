/- Pure: code of registers as a law's argument or result: its size, copies, equality, marks. -/
import Derived.Test.YtnnlfipcoahcnaaGreatDoorKFnExactParseRegCodeParg
set_option linter.unusedVariables false
set_option linter.unusedSimpArgs false
namespace Go.Proofs.YtnnlfipcoahcnaaGreatDoor.Pure
open Go.RowKit Go.Proofs.YtnnlfipcoahcnaaGreatDoor.E Go.Proofs.YtnnlfipcoahcnaaGreatDoor.G1 Go.Proofs.YtnnlfipcoahcnaaGreatDoor.Frame Go.Proofs.YtnnlfipcoahcnaaGreatDoorW.PrintLast Go.Proofs.YtnnlfipcoahcnaaGreatDoorW.PrintMore
open Go.Proofs.YtnnlfipcoahcnaaGreatDoorW.PrintWords hiding mn mx
theorem eqRegOpS_refl (l : List SRegOp) (hl : l.length < 1000000000) : Ev (fun k => laws_eqRegOpS.f k l l) true := by
  have key : ∀ (d j : Nat), j + d = l.length → Ev (fun k => laws_eqRegOpS.l0 l l k (j : Int)) (.inr ()) := by
    intro d
    induction d with
    | zero =>
      intro j hj
      refine shift ?_
      simp only [laws_eqRegOpS.l0]
      exact neg (by omega) (ret _)
    | succ d ih =>
      intro j hj
      refine shift ?_
      simp only [laws_eqRegOpS.l0]
      refine pos (by omega) ?_
      rw [gt_nat (show j < l.length by omega), w64_succ (by omega)]
      simp only [Option.bind_some, laws_eqRegOp.f, ne_eq, not_true_eq_false, if_false]
      exact pos trivial (ih (j + 1) (by omega))
  unfold laws_eqRegOpS.f
  refine neg (by simp) (bind (key l.length 0 (by omega)) ?_)
  exact ret _
theorem eqCode_refl (i : Int) (l1 : List Int) (l2 : List SRegOp) (l3 : List Int) (h1 : l1.length < 1000000000) (h2 : l2.length < 1000000000) (h3 : l3.length < 1000000000) : Ev (fun k => laws_eqRegCode.f k i l1 l2 l3 i l1 l2 l3) true := by
  unfold laws_eqRegCode.f
  exact neg (by simp) (bind (eqIntS_refl l1 h1) (pos rfl (bind (eqRegOpS_refl l2 h2) (pos rfl (bind (eqIntS_refl l3 h3) (pos rfl (ret _)))))))
def mkOps (a : Int) (n : Nat) : List SRegOp := (List.range n).map fun (j : Nat) => ⟨a + 3 * (j : Int), a + 3 * (j : Int) + 1, a + 3 * (j : Int) + 2⟩
theorem markRegOpS_ev (l : List SRegOp) (a : Int) (h0 : 0 ≤ a) (ha : a + 3 * l.length < 1000000000) : Ev (fun k => laws_markRegOpS.f k l a) (a + 3 * l.length, mkOps a l.length) := by
  have hm : (mkOps a l.length).length = l.length := by simp [mkOps]
  have key : ∀ (d j : Nat), j + d = l.length → Ev (fun k => laws_markRegOpS.l0 l k ((mkOps a l.length).take j ++ l.drop j) (a + 3 * j) (j : Int)) (mkOps a l.length, a + 3 * l.length) := by
    intro d
    induction d with
    | zero =>
      intro j hj
      obtain rfl : j = l.length := by omega
      refine shift ?_
      simp only [laws_markRegOpS.l0]
      rw [List.drop_eq_nil_of_le (Nat.le_refl _), List.append_nil, List.take_of_length_le (by omega)]
      exact neg (by omega) (ret _)
    | succ d ih =>
      intro j hj
      refine shift ?_
      simp only [laws_markRegOpS.l0]
      refine pos (by omega) ?_
      have hl : j < ((mkOps a l.length).take j ++ l.drop j).length := by rw [List.length_append, List.length_take, List.length_drop]; omega
      rw [gt_nat hl]
      simp only [Option.bind_some]
      rw [st_nat hl]
      simp only [Option.bind_some]
      rw [gt_nat (by rw [List.length_set]; exact hl)]
      simp only [Option.bind_some, List.getElem_set_self]
      rw [st_nat (by rw [List.length_set]; exact hl), List.set_set]
      simp only [Option.bind_some]
      rw [gt_nat (by rw [List.length_set]; exact hl)]
      simp only [Option.bind_some, List.getElem_set_self]
      rw [st_nat (by rw [List.length_set]; exact hl), List.set_set, w64_id (x := a + 3 * (j : Int) + 1) (by omega), w64_id (x := a + 3 * (j : Int) + 1 + 1) (by omega), set_take (v := ⟨a + 3 * j, a + 3 * j + 1, a + 3 * j + 1 + 1⟩) (by omega) hm (by simp [mkOps, show j < l.length by omega]; omega), w64_succ (by omega), w64_id (by omega)]
      have := ih (j + 1) (by omega)
      rw [show a + 3 * ((j + 1 : Nat) : Int) = a + 3 * j + 1 + 1 + 1 by omega] at this
      exact this
  unfold laws_markRegOpS.f
  have := key l.length 0 (by omega)
  simp only [List.take_zero, List.drop_zero, List.nil_append, Int.natCast_zero, Int.mul_zero, Int.add_zero] at this
  exact bind this (ret _)
theorem markCode_ev (i : Int) (l1 : List Int) (l2 : List SRegOp) (l3 : List Int) (a : Int) (h0 : 0 ≤ a) (h : a + l1.length + 3 * l2.length + l3.length < 1000000000) : Ev (fun k => laws_markRegCode.f k i l1 l2 l3 a) (a + l1.length + 3 * l2.length + l3.length, mkInts a l1.length, mkOps (a + l1.length) l2.length, mkInts (a + l1.length + 3 * l2.length) l3.length) := by
  unfold laws_markRegCode.f
  exact bind (markIntS_ev l1 a h0 (by omega)) (bind (markRegOpS_ev l2 _ (by omega) (by omega)) (bind (markIntS_ev l3 _ (by omega) (by omega)) (ret _)))
theorem heldRegOpS_ev (n : Nat) (a : Int) (h0 : 0 ≤ a) (ha : a + 3 * n < 1000000000) : Ev (fun k => laws_heldRegOpS.f k (mkOps a n) a) (a + 3 * n) := by
  have hm : (mkOps a n).length = n := by simp [mkOps]
  have key : ∀ (d j : Nat), j + d = n → Ev (fun k => laws_heldRegOpS.l0 (mkOps a n) k (a + 3 * j) (j : Int)) (.inr (a + 3 * n)) := by
    intro d
    induction d with
    | zero =>
      intro j hj
      obtain rfl : j = n := by omega
      refine shift ?_
      simp only [laws_heldRegOpS.l0]
      exact neg (by omega) (ret _)
    | succ d ih =>
      intro j hj
      refine shift ?_
      simp only [laws_heldRegOpS.l0]
      refine pos (by omega) ?_
      rw [gt_nat (show j < (mkOps a n).length by omega), w64_id (x := a + 3 * (j : Int) + 1) (by omega), w64_id (x := a + 3 * (j : Int) + 1 + 1) (by omega), w64_succ (by omega), w64_id (by omega)]
      simp only [Option.bind_some, mkOps, List.getElem_map, List.getElem_range, ne_eq, not_true_eq_false, if_false]
      have := ih (j + 1) (by omega)
      rw [show a + 3 * ((j + 1 : Nat) : Int) = a + 3 * j + 1 + 1 + 1 by omega] at this
      exact neg (by omega) this
  unfold laws_heldRegOpS.f
  have := key n 0 (by omega)
  simp only [Int.natCast_zero, Int.mul_zero, Int.add_zero] at this
  exact bind this (ret _)
theorem heldCode_ev (i : Int) (n1 n2 n3 : Nat) (a : Int) (h0 : 0 ≤ a) (h : a + n1 + 3 * n2 + n3 < 1000000000) : Ev (fun k => laws_heldRegCode.f k i (mkInts a n1) (mkOps (a + n1) n2) (mkInts (a + n1 + 3 * n2) n3) a) (a + n1 + 3 * n2 + n3) := by
  unfold laws_heldRegCode.f
  exact bind (heldIntS_ev n1 a h0 (by omega)) (neg (by omega) (bind (heldRegOpS_ev n2 _ (by omega) (by omega)) (neg (by omega) (bind (heldIntS_ev n3 _ (by omega) (by omega)) (neg (by omega) (ret _))))))
end Go.Proofs.YtnnlfipcoahcnaaGreatDoor.Pure
