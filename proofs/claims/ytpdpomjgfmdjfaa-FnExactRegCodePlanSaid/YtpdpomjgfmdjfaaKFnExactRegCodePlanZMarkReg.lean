/- The laws' marks in code of registers. -/
import Derived.Test.YtpdpomjgfmdjfaaKFnExactRegCodePlanZRegArg
import Derived.Test.YtpdpomjgfmdjfaaKFnExactRegCodePlanZMarkIntS
import Derived.Test.YtpdpomjgfmdjfaaKFnExactRegCodePlanQ0
import Derived.Test.YtpdpomjgfmdjfaaKFnExactRegCodePlanQ5
namespace Go.Proofs.Ytpdpomjgfmdjfaa.Pure
open Go.RowKit Go.Proofs.Ytpdpomjgfmdjfaa.Z Go.Proofs.Ytpdpomjgfmdjfaa.E Go.Proofs.YtpdpomjgfmdjfaaW.PrintWords Go.Proofs.YtpdpomjgfmdjfaaW.PrintLast Go.Proofs.YtpdpomjgfmdjfaaW.PrintMore
theorem rdRop_set (o : List Rop) (j : Nat) (v : Rop) (h : j < o.length) : zah (o.set j v) (j : Int) = v := by
 rw [rdRop_nat _ j (by simpa using h), List.getElem_set_self]
theorem markRegOpS_ev (n : Nat) (a : Nat) (hb : a + 3 * n < 9223372036854775000) (l : List Rop) (hn : l.length = n) : ∃ o, Ev (fun k => laws_markRegOpS.f k l (a : Int)) (((a + 3 * n : Nat) : Int), o) := by
 have key : ∀ (d j : Nat) (o : List Rop), o.length = n → j + d = n → ∃ o', Ev (fun k => laws_markRegOpS.l0 k o ((a + 3 * j : Nat) : Int) j) (((a + 3 * n : Nat) : Int), o') := by
  intro d
  induction d with
  | zero =>
   intro j o ho hj
   refine ⟨o, shift ?_⟩
   simp only [laws_markRegOpS.l0]
   refine neg (by omega) (now ?_)
   have : j = n := by omega
   rw [this]
  | succ d ih =>
   intro j o ho hj
   have hlt : j < o.length := by omega
   have w1 : wrap64 (((a + 3 * j : Nat) : Int) + 1) = ((a + 3 * j + 1 : Nat) : Int) := zb2 (by omega)
   have w2 : wrap64 (((a + 3 * j + 1 : Nat) : Int) + 1) = ((a + 3 * j + 2 : Nat) : Int) := zb2 (by omega)
   have w3 : wrap64 (((a + 3 * j + 2 : Nat) : Int) + 1) = ((a + 3 * (j + 1) : Nat) : Int) := by rw [zb2 (by omega)]; congr 1
   obtain ⟨o', h⟩ := ih (j + 1) (o.set j ⟨((a + 3 * j : Nat) : Int), ((a + 3 * j + 1 : Nat) : Int), ((a + 3 * j + 2 : Nat) : Int)⟩) (by simpa using ho) (by omega)
   refine ⟨o', shift ?_⟩
   simp only [laws_markRegOpS.l0, Option.bind_some]
   rw [w1, w2, w3, zb2 (j := j) (by omega), toNat_cast]
   refine pos (by omega) (pos (by omega) ?_)
   rw [rdRop_set o j _ hlt, List.set_set]
   simp only [rdRop_set o j _ hlt, List.set_set]
   exact h
 unfold laws_markRegOpS.f
 exact key n 0 l hn (by omega)
theorem markRegCode_ev (a0 : Int) (l1 : List Int) (l2 : List Rop) (l3 : List Int) (h1 : l1.length ≤ 1048576) (h2 : l2.length ≤ 1048576) (h3 : l3.length ≤ 1048576) : ∃ (m : Nat) (n1 : List Int) (n2 : List Rop) (n3 : List Int), Ev (fun k => laws_markRegCode.f k a0 l1 l2 l3 1) ((m : Int), n1, n2, n3) := by
 obtain ⟨o, h⟩ := markRegOpS_ev l2.length (1 + l1.length) (by omega) l2 rfl
 have g1 := markIntS_ev l1 1 (by omega)
 have g3 := markIntS_ev l3 (1 + l1.length + 3 * l2.length) (by omega)
 refine ⟨1 + l1.length + 3 * l2.length + l3.length, marksFrom 1 l1.length, o, marksFrom (1 + l1.length + 3 * l2.length) l3.length, ?_⟩
 unfold laws_markRegCode.f
 exact bind g1 (bind h (bind g3 (ret _)))
end Go.Proofs.Ytpdpomjgfmdjfaa.Pure
