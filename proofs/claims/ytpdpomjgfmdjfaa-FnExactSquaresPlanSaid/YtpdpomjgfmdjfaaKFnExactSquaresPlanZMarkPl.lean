/- The laws' comparison of plans, their marks, and the marks read back. -/
import Derived.Test.YtpdpomjgfmdjfaaKFnExactSquaresPlanZPl
import Derived.Test.YtpdpomjgfmdjfaaKFnExactSquaresPlanZEqIntS
import Derived.Test.YtpdpomjgfmdjfaaKFnExactSquaresPlanZMarkIntS
import Derived.Test.YtpdpomjgfmdjfaaKFnExactSquaresPlanQ0
import Derived.Test.YtpdpomjgfmdjfaaKFnExactSquaresPlanQ2
import Derived.Test.YtpdpomjgfmdjfaaKFnExactSquaresPlanQ3
namespace Go.Proofs.Ytpdpomjgfmdjfaa.Pure
open Go.RowKit Go.Proofs.Ytpdpomjgfmdjfaa.Z Go.Proofs.Ytpdpomjgfmdjfaa.E Go.Proofs.YtpdpomjgfmdjfaaW.PrintWords Go.Proofs.YtpdpomjgfmdjfaaW.PrintLast Go.Proofs.YtpdpomjgfmdjfaaW.PrintMore
theorem eqStepS_refl (l : List St) (hm : l.length ≤ 1048576) : Ev (fun k => laws_eqStepS.f k l l) true := by
  have key : ∀ (d j : Nat), j + d = l.length → Ev (fun k => laws_eqStepS.l0 k l l j) true := by
    intro d
    induction d with
    | zero =>
      intro j hj
      refine shift ?_
      simp only [laws_eqStepS.l0]
      exact neg (by omega) (ret _)
    | succ d ih =>
      intro j hj
      refine shift ?_
      simp only [laws_eqStepS.l0]
      refine pos (by omega) (pos (by omega) (pos (by omega) (bind0 (a := true) (by unfold laws_eqStep.f; simp) (pos rfl ?_))))
      rw [zaz (by omega)]
      exact ih (j + 1) (by omega)
  unfold laws_eqStepS.f
  exact pos rfl (key l.length 0 (by omega))
theorem eqPlan_refl (n : Int) (l : List St) (o : List Int) (hl : l.length ≤ 1048576) (ho : o.length ≤ 1048576) : Ev (fun k => laws_eqPlan.f k n l o n l o) true := by
  have e1 := eqIntS_ev o o (by omega)
  rw [decide_eq_true rfl] at e1
  unfold laws_eqPlan.f
  exact pos rfl (bind (eqStepS_refl l hl) (pos rfl (bind e1 (pos rfl (ret _)))))
theorem rdSt_set (o : List St) (j : Nat) (v : St) (h : j < o.length) : zab (o.set j v) (j : Int) = v := by
  rw [rdSt_nat _ j (by simpa using h), List.getElem_set_self]
def marksSt (a : Nat) : Nat → List St
  | 0 => []
  | n + 1 => ⟨(a : Int), ((a + 1 : Nat) : Int)⟩ :: marksSt (a + 2) n
theorem marksSt_length (n : Nat) : ∀ a, (marksSt a n).length = n := by
  induction n with
  | zero => intro a; rfl
  | succ n ih => intro a; simp [marksSt, ih]
theorem marksSt_get (n : Nat) : ∀ a j (h : j < (marksSt a n).length), (marksSt a n)[j] = ⟨((a + 2 * j : Nat) : Int), ((a + 2 * j + 1 : Nat) : Int)⟩ := by
  induction n with
  | zero => intro a j h; simp [marksSt] at h
  | succ n ih =>
    intro a j h
    cases j with
    | zero => simp [marksSt]
    | succ j =>
      simp only [marksSt, List.getElem_cons_succ]
      rw [ih (a + 2) j]
      have : a + 2 + 2 * j = a + 2 * (j + 1) := by omega
      rw [this]
theorem markStepS_ev (l : List St) (a : Nat) (hb : a + 2 * l.length < 9223372036854775000) : Ev (fun k => laws_markStepS.f k l (a : Int)) (((a + 2 * l.length : Nat) : Int), marksSt a l.length) := by
  have key : ∀ (d j : Nat) (o : List St), o.length = l.length → j + d = l.length → o.take j = (marksSt a l.length).take j → Ev (fun k => laws_markStepS.l0 k o ((a + 2 * j : Nat) : Int) j) (((a + 2 * l.length : Nat) : Int), marksSt a l.length) := by
    intro d
    induction d with
    | zero =>
      intro j o ho hj ht
      refine shift ?_
      simp only [laws_markStepS.l0]
      refine neg (by omega) (now ?_)
      rw [List.take_of_length_le (by omega), List.take_of_length_le (by rw [marksSt_length]; omega)] at ht
      have : j = l.length := by omega
      rw [ht, this]
    | succ d ih =>
      intro j o ho hj ht
      have hlt : j < o.length := by omega
      have w1 : wrap64 (((a + 2 * j : Nat) : Int) + 1) = ((a + 2 * j + 1 : Nat) : Int) := zaz (by omega)
      have w2 : wrap64 (((a + 2 * j + 1 : Nat) : Int) + 1) = ((a + 2 * (j + 1) : Nat) : Int) := by rw [zaz (by omega)]; congr 1
      refine shift ?_
      simp only [laws_markStepS.l0, Option.bind_some]
      rw [w1, w2, zaz (j := j) (by omega), toNat_cast]
      refine pos (by omega) (pos (by omega) ?_)
      simp only [rdSt_set o j _ hlt, List.set_set]
      refine ih (j + 1) _ (by simpa using ho) (by omega) ?_
      rw [List.take_succ_eq_append_getElem (by simpa using hlt), List.take_succ_eq_append_getElem (by rw [marksSt_length]; omega), marksSt_get]
      simp [List.take_set_of_le, ht]
  unfold laws_markStepS.f
  exact key l.length 0 l rfl (by omega) (by simp)
theorem heldStepS_ev (n a : Nat) (hb : a + 2 * n < 9223372036854775000) : Ev (fun k => laws_heldStepS.f k (marksSt a n) (a : Int)) ((a + 2 * n : Nat) : Int) := by
  have key : ∀ (d j : Nat), j + d = n → Ev (fun k => laws_heldStepS.l0 k (marksSt a n) ((a + 2 * j : Nat) : Int) j) ((a + 2 * n : Nat) : Int) := by
    intro d
    induction d with
    | zero =>
      intro j hj
      obtain rfl : j = n := by omega
      refine shift ?_
      simp only [laws_heldStepS.l0]
      exact neg (by rw [marksSt_length]; omega) (ret _)
    | succ d ih =>
      intro j hj
      have hlt : j < (marksSt a n).length := by rw [marksSt_length]; omega
      have hr : zab (marksSt a n) (j : Int) = ⟨((a + 2 * j : Nat) : Int), ((a + 2 * j + 1 : Nat) : Int)⟩ := by rw [rdSt_nat _ j hlt, marksSt_get n a j hlt]
      have w1 : wrap64 (((a + 2 * j : Nat) : Int) + 1) = ((a + 2 * j + 1 : Nat) : Int) := zaz (by omega)
      have w2 : wrap64 (((a + 2 * j + 1 : Nat) : Int) + 1) = ((a + 2 * (j + 1) : Nat) : Int) := by rw [zaz (by omega)]; congr 1
      refine shift ?_
      simp only [laws_heldStepS.l0]
      rw [hr]
      dsimp only
      rw [w1, w2, zaz (by omega)]
      exact pos (by omega) (pos (by omega) (pos rfl (pos rfl (ih (j + 1) (by omega)))))
  have := key n 0 (by omega)
  unfold laws_heldStepS.f
  simpa using this
theorem markPlan_ev (n : Int) (l : List St) (o : List Int) (hl : l.length ≤ 1048576) (ho : o.length ≤ 1048576) : ∃ (m : Nat) (s2 : List St) (s3 : List Int), Ev (fun k => laws_markPlan.f k n l o 1) ((m : Int), s2, s3) ∧ Ev (fun k => laws_heldPlan.f k n s2 s3 1) (m : Int) := by
  have h1 := markStepS_ev l 1 (by omega)
  have h2 := markIntS_ev o (1 + 2 * l.length) (by omega)
  have h3 := heldStepS_ev l.length 1 (by omega)
  have h4 := heldIntS_ev (1 + 2 * l.length) o.length (by omega)
  refine ⟨1 + 2 * l.length + o.length, marksSt 1 l.length, marksFrom (1 + 2 * l.length) o.length, ?_, ?_⟩
  · unfold laws_markPlan.f
    exact bind h1 (bind h2 (ret _))
  · unfold laws_heldPlan.f
    exact bind h3 (neg (by omega) (bind h4 (neg (by omega) (ret _))))
end Go.Proofs.Ytpdpomjgfmdjfaa.Pure
