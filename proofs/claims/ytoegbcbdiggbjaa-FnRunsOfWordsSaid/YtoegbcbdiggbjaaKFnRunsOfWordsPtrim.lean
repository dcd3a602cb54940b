/- Pure: which values of a plan are used, the used steps alone, values that are shared, another plan's steps behind. -/
import Derived.Test.YtoegbcbdiggbjaaKFnRunsOfWordsPsplit
set_option linter.unusedVariables false
set_option linter.unusedSimpArgs false
namespace Go.Proofs.Ytoegbcbdiggbjaa.Pure
open Go.RowKit Go.Proofs.Ytoegbcbdiggbjaa.E Go.Proofs.Ytoegbcbdiggbjaa.RW Go.Proofs.Ytoegbcbdiggbjaa.Frame Go.Proofs.YtoegbcbdiggbjaaW.PrintLast Go.Proofs.YtoegbcbdiggbjaaW.PrintMore
open Go.Proofs.YtoegbcbdiggbjaaW.PrintWords hiding mn mx
/-! ### which values are used -/
/-- What is used, of the steps that make the values from n on. -/
def us (n : Nat) : List SStep → List Int → Int → Bool
  | [], o, v => decide (v ∈ o)
  | y :: ys, o, v => us (n + 1) ys o v || (us (n + 1) ys o (n : Int) && (decide (v = y.f0) || decide (v = y.f1)))
/-! ### the used steps alone -/
/-- The places of all values, and the steps that stay. -/
def tr (U : Int → Bool) (i : Int) : Nat → List SStep → List Int → List SStep → List Int × List SStep
  | _, [], p, q => (p, q)
  | n, y :: ys, p, q => tr U i (n + 1) ys (p ++ [i + (q.length : Int)]) (if U (n : Int) = true then q ++ [⟨mn (rg (p ++ [i + (q.length : Int)]) y.f0) (rg (p ++ [i + (q.length : Int)]) y.f1), mx (rg (p ++ [i + (q.length : Int)]) y.f0) (rg (p ++ [i + (q.length : Int)]) y.f1)⟩] else q)
/-- What is used or comes in. -/
def Lv (I : Nat) (U : Int → Bool) (v : Int) : Prop := v < (I : Int) ∨ U v = true
/-- The place of a value is I and how many used ones lie before it. -/
def pl (I : Nat) (U : Int → Bool) (v : Int) : Int := if v < (I : Int) then v else (I : Int) + ((vals (v - (I : Int)).toNat fun j => U ((I : Int) + j)).length : Int)
structure Tr (I : Nat) (U : Int → Bool) (s : List SStep) (p : List Int) (q : List SStep) : Prop where
  pn : p.length = I + s.length
  qn : q.length = (vals s.length fun j => U ((I : Int) + j)).length
  pv : ∀ v : Int, 0 ≤ v → v < ((I + s.length : Nat) : Int) → rg p v = pl I U v
/-- The steps that stay. -/
def ts (I : Nat) (U : Int → Bool) (s : List SStep) : List SStep := (tr U (I : Int) I s ((List.range I).map fun (j : Nat) => (j : Int)) []).2
def tp (I : Nat) (U : Int → Bool) (s : List SStep) : List Int := (tr U (I : Int) I s ((List.range I).map fun (j : Nat) => (j : Int)) []).1
/-- What a rule for what stays must keep. -/
def Cl (I : Nat) (U : Int → Bool) (s : List SStep) : Prop := ∀ (j : Nat) (y : SStep), s[j]? = some y → U ((I + j : Nat) : Int) = true → Lv I U y.f0 ∧ Lv I U y.f1
/-! ### values that are shared -/
def shs (fi : Int → Int) (y : SStep) : SStep := ⟨mn (fi y.f0) (fi y.f1), mx (fi y.f0) (fi y.f1)⟩
/-! ### another plan's steps behind -/
def sf (I d : Nat) (v : Int) : Int := if v < (I : Int) then v else v + (d : Int)
def sfs (I d : Nat) (y : SStep) : SStep := ⟨sf I d y.f0, sf I d y.f1⟩
end Go.Proofs.Ytoegbcbdiggbjaa.Pure
