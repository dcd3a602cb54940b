/- The laws' helpers over ops and codes: what they come to. -/
import Derived.Test.YtgglemlhombgkaaKFnExactEstrinCodeEv
import Derived.Test.YtgglemlhombgkaaKFnExactEstrinCodeQ0
import Derived.Test.YtgglemlhombgkaaKFnExactEstrinCodeQ1
import Derived.Test.YtgglemlhombgkaaKFnExactEstrinCodeQ6
namespace Go.Proofs.Ytgglemlhombgkaa.Pure
open Go.RowKit Go.Proofs.Ytgglemlhombgkaa.Z Go.Proofs.Ytgglemlhombgkaa.E Go.Proofs.YtgglemlhombgkaaW.PrintWords Go.Proofs.YtgglemlhombgkaaW.PrintLast Go.Proofs.YtgglemlhombgkaaW.PrintMore
abbrev Op := S69
abbrev LOp := S93
def toOp (x : LOp) : Op := ⟨x.f0, x.f1, x.f2⟩
theorem rdOp_nat (xs : List Op) (j : Nat) (h : j < xs.length) : zaa xs (j : Int) = xs[j] := by
 simp [zaa, List.getD_eq_getElem?_getD, h]
/-! ### codes -/
theorem eqOpS_loop (l : List Op) (hm : l.length < 9223372036854775807) (d : Nat) : ∀ (j : Nat), j + d = l.length → Ev (fun k => laws_eqOpS.l0 k l l j) true := by
 induction d with
 | zero =>
  intro j hj
  refine shift ?_
  simp only [laws_eqOpS.l0]
  exact neg (by omega) (ret _)
 | succ d ih =>
  intro j hj
  refine shift ?_
  simp only [laws_eqOpS.l0]
  refine pos (by omega) (pos (by omega) (pos (by omega) (bind0 (a := true) (by unfold laws_eqOp.f; simp) (pos rfl ?_))))
  rw [zb3 (by omega)]
  exact ih (j + 1) (by omega)
theorem eqCode_refl (l : List Op) (o : Int) (hm : l.length < 9223372036854775807) : Ev (fun k => laws_eqCode.f k l o l o) true := by
 unfold laws_eqCode.f laws_eqOpS.f
 refine bindr (a := true) (pos rfl ?_) (by simp)
 exact eqOpS_loop l hm l.length 0 (by omega)

end Go.Proofs.Ytgglemlhombgkaa.Pure
