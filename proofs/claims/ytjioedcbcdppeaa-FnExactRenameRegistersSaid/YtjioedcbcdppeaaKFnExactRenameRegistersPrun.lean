/- Pure: code run on residues, and its plan. -/
import Derived.Test.YtjioedcbcdppeaaKFnExactRenameRegistersPreg2
import Derived.Test.YtjioedcbcdppeaaKFnExactRenameRegistersPcode
set_option linter.unusedVariables false
set_option linter.unusedSimpArgs false
namespace Go.Proofs.Ytjioedcbcdppeaa.Pure
open Go.RowKit Go.Proofs.Ytjioedcbcdppeaa.E Go.Proofs.Ytjioedcbcdppeaa.RS Go.Proofs.Ytjioedcbcdppeaa.Frame Go.Proofs.YtjioedcbcdppeaaW.PrintLast Go.Proofs.YtjioedcbcdppeaaW.PrintMore
open Go.Proofs.YtjioedcbcdppeaaW.PrintWords hiding mn mx
def mulM (m x y : Int) : Int := (w64 (x * y)).tmod m
def runP (m : Int) : List SStep → List Int → List Int
  | [], v => v
  | y :: ys, v => runP m ys (v ++ [mulM m (rg v y.f0) (rg v y.f1)])
def runR (m : Int) : List SRegOp → List Int → List Int
  | [], v => v
  | y :: ys, v => runR m ys (v.set y.f0.toNat (mulM m (rg v y.f1) (rg v y.f2)))
/-- Registers hold the values that the code tells. -/
structure Rel (n : Nat) (l reg v : List Int) : Prop where
  len : l.length = n
  len2 : reg.length = n
  at_ : ∀ r, hs n r = true → rg l r ≠ -1 → (0 ≤ rg l r ∧ rg l r < (v.length : Int)) ∧ rg reg r = rg v (rg l r)
def insR : List Int → List Int → List Int → List Int
  | [], _, reg => reg
  | y :: ys, v, reg => insR ys (v.drop 1) (reg.set y.toNat (v.getD 0 0))
/-! the programs run -/
theorem pick_l0 (v ys o : List Int) (j : Int) (h : ∀ y ∈ ys, 0 ≤ y ∧ y < (v.length : Int)) (hb : o.length + ys.length ≤ 1000) : spec_moPick.l0 v ys o j = some (o ++ ys.map (rg v)) := by
  induction ys generalizing o j with
  | nil => simp [spec_moPick.l0]
  | cons y ys ih =>
    simp only [List.length_cons] at hb
    have q := h y List.mem_cons_self
    simp only [spec_moPick.l0]
    rw [rg_gt q.1 q.2, Option.bind_some, ap_ok (by simp; omega), Option.bind_some, ih _ _ (fun z hz => h z (List.mem_cons_of_mem _ hz)) (by rw [List.length_append, List.length_singleton]; omega)]
    simp
end Go.Proofs.Ytjioedcbcdppeaa.Pure
