/- Pure: what code bears that has a plan. -/
import Derived.Test.YtdicngjloiphkaaKFnAllocatedCodePrun
set_option linter.unusedVariables false
set_option linter.unusedSimpArgs false
namespace Go.Proofs.Ytdicngjloiphkaa.Pure
open Go.RowKit Go.Proofs.Ytdicngjloiphkaa.E Go.Proofs.Ytdicngjloiphkaa.L7 Go.Proofs.Ytdicngjloiphkaa.Frame Go.Proofs.YtdicngjloiphkaaW.PrintLast Go.Proofs.YtdicngjloiphkaaW.PrintMore
open Go.Proofs.YtdicngjloiphkaaW.PrintWords hiding mn mx
structure CodeOk (n : Nat) (l1 : List Int) (l2 : List SRegOp) (l3 : List Int) : Prop where
  reg : 1 ≤ n ∧ n ≤ 46
  len1 : 1 ≤ l1.length ∧ l1.length ≤ 6
  len2 : l2.length ≤ 40
  len3 : l3.length ≤ 6
  dist : dst [] l1 = true
  ins : ∀ y ∈ l1, hs n y = true
  ops : ∀ y ∈ l2, hs n y.f0 = true ∧ hs n y.f1 = true ∧ hs n y.f2 = true
  outs : ∀ y ∈ l3, hs n y = true
  full : ∀ y ∈ l3, y ∈ l1 ∨ ∃ q ∈ l2, q.f0 = y
theorem isRegCode_ev (a : Int) (l1 : List Int) (l2 : List SRegOp) (l3 : List Int) : Ev (fun k => impl_IsRegCode.f k a l1 l2 l3) (codeP a l1 l2 l3).isSome := by
  unfold impl_IsRegCode.f
  refine bind (plan_ev a l1 l2 l3) (now ?_)
  cases codeP a l1 l2 l3 <;> rfl
def opMap (v : List Int) (y : SRegOp) : SRegOp := ⟨rg v y.f0, rg v y.f1, rg v y.f2⟩
end Go.Proofs.Ytdicngjloiphkaa.Pure
