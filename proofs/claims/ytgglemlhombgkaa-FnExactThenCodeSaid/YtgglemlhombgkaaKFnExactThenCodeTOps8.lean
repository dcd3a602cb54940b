/- The laws' helpers over ops and codes: what they come to. -/
import Derived.Test.YtgglemlhombgkaaKFnExactThenCodeEv
import Derived.Test.YtgglemlhombgkaaKFnExactThenCodeQ0
import Derived.Test.YtgglemlhombgkaaKFnExactThenCodeQ1
import Derived.Test.YtgglemlhombgkaaKFnExactThenCodeQ4
import Derived.Test.YtgglemlhombgkaaKFnExactThenCodeQ5
namespace Go.Proofs.Ytgglemlhombgkaa.Pure
open Go.RowKit Go.Proofs.Ytgglemlhombgkaa.T Go.Proofs.Ytgglemlhombgkaa.E Go.Proofs.YtgglemlhombgkaaW.PrintWords Go.Proofs.YtgglemlhombgkaaW.PrintLast Go.Proofs.YtgglemlhombgkaaW.PrintMore
abbrev Op := S69
abbrev LOp := S93
def toOp (x : LOp) : Op := ⟨x.f0, x.f1, x.f2⟩
theorem rdOp_nat (xs : List Op) (j : Nat) (h : j < xs.length) : za9 xs (j : Int) = xs[j] := by
 simp [za9, List.getD_eq_getElem?_getD, h]
theorem rdLOp_nat (xs : List LOp) (j : Nat) (h : j < xs.length) : rd_T93 xs (j : Int) = xs[j] := by
 simp [rd_T93, List.getD_eq_getElem?_getD, h]

/-! ### codes -/
theorem szCode_small (l : List LOp) (o : Int) (left : Nat) (hl : left ≤ 1048576) (h : l.length ≤ left) : laws_szCode.f l o (left : Int) = some (((left - l.length : Nat)) : Int) := by
 unfold laws_szCode.f laws_szOpS.f
 rw [wrap_id (by omega) (by omega), if_neg (by omega)]
 simp only [Option.bind_some]
 rw [if_neg (by omega)]
 congr 1
 omega
theorem szCode_large (l : List LOp) (o : Int) (left : Nat) (hl : left ≤ 1048576) (h : left < l.length) (hm : l.length ≤ 9223372036854775807) : laws_szCode.f l o (left : Int) = some (-1) := by
 unfold laws_szCode.f laws_szOpS.f
 rw [wrap_id (by omega) (by omega), if_pos (by omega)]
 simp only [Option.bind_some]
 rw [if_pos (by omega)]
theorem toOpS_loop (l : List LOp) (hl : l.length < 9223372036854775807) (d : Nat) : ∀ (j : Nat) (o : List Op), o.length = l.length → j + d = l.length → o.take j = (l.map toOp).take j → Ev (fun k => laws_toOpS.l0 k l o j) (l.map toOp) := by
 induction d with
 | zero =>
  intro j o ho hj ht
  refine shift ?_
  simp only [laws_toOpS.l0]
  refine neg (by omega) (now ?_)
  rw [List.take_of_length_le (by omega), List.take_of_length_le (by simp; omega)] at ht
  rw [ht]
 | succ d ih =>
  intro j o ho hj ht
  have hlt : j < l.length := by omega
  refine shift ?_
  simp only [laws_toOpS.l0]
  refine pos (by omega) (pos (by omega) (bind0 (by unfold laws_toOp.f; rfl) (pos (by omega) ?_)))
  rw [wrap_succ (by omega), toNat_cast, rdLOp_nat l j hlt]
  refine ih (j + 1) _ (by simpa using ho) (by omega) ?_
  rw [List.take_succ_eq_append_getElem (by simpa [ho] using hlt), List.take_succ_eq_append_getElem (by simpa using hlt)]
  simp [List.take_set_of_le, ht, toOp]
theorem toCode_ev (l : List LOp) (o : Int) (hl : l.length ≤ 1048576) : Ev (fun k => laws_toCode.f k l o) (l.map toOp, o) := by
 unfold laws_toCode.f laws_toOpS.f
 refine bindr (a := l.map toOp) (pos (by omega) (pos (by omega) ?_)) rfl
 exact toOpS_loop l (by omega) l.length 0 _ (by simp) (by omega) (by simp)
theorem eqOpS_loop (l : List Op) (hm : l.length < 9223372036854775807) (d : Nat) : ∀ (j : Nat), j + d = l.length → Ev (fun k => laws_eqOpS.l0 k l l j) true := by
 induction d with
 | zero =>
  intro j hj
  refine shift ?_
  simp only [laws_eqOpS.l0]
  exact neg (by omega) (ret _)
 | succ d ih =>
  intro j hj
  refine shift ?_
  simp only [laws_eqOpS.l0]
  refine pos (by omega) (pos (by omega) (pos (by omega) (bind0 (a := true) (by unfold laws_eqOp.f; simp) (pos rfl ?_))))
  rw [wrap_succ (by omega)]
  exact ih (j + 1) (by omega)
theorem eqCode_refl (l : List Op) (o : Int) (hm : l.length < 9223372036854775807) : Ev (fun k => laws_eqCode.f k l o l o) true := by
 unfold laws_eqCode.f laws_eqOpS.f
 refine bindr (a := true) (pos rfl ?_) (by simp)
 exact eqOpS_loop l hm l.length 0 (by omega)

end Go.Proofs.Ytgglemlhombgkaa.Pure
