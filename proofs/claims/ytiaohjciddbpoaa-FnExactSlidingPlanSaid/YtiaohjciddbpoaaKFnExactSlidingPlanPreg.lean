/- Pure: code of registers: its plan, on both sides. -/
import Derived.Test.YtiaohjciddbpoaaKFnExactSlidingPlanPord
set_option linter.unusedVariables false
set_option linter.unusedSimpArgs false
namespace Go.Proofs.Ytiaohjciddbpoaa.Pure
open Go.RowKit Go.Proofs.Ytiaohjciddbpoaa.E Go.Proofs.Ytiaohjciddbpoaa.H2 Go.Proofs.Ytiaohjciddbpoaa.Frame Go.Proofs.YtiaohjciddbpoaaW.PrintLast Go.Proofs.YtiaohjciddbpoaaW.PrintMore
open Go.Proofs.YtiaohjciddbpoaaW.PrintWords hiding mn mx
open Go.Proofs.Ytiaohjciddbpoaa.Hand
def rg (l : List Int) (r : Int) : Int := l.getD r.toNat 0
theorem rg_gt {l : List Int} {r : Int} (h0 : 0 ≤ r) (h1 : r < (l.length : Int)) : gt l r = some (rg l r) := by
  unfold gt rg
  rw [if_pos h0, List.getD_eq_getElem?_getD, List.getElem?_eq_getElem (by omega)]
  rfl
def Low (l : List Int) : Prop := ∀ x ∈ l, -1 ≤ x
theorem Low.at {l : List Int} (h : Low l) {r : Int} (h0 : 0 ≤ r) (h1 : r < (l.length : Int)) : -1 ≤ rg l r := by
  unfold rg
  rw [List.getD_eq_getElem?_getD, List.getElem?_eq_getElem (by omega)]
  exact h _ (List.getElem_mem _)
theorem Low.set {l : List Int} (h : Low l) {x : Nat} {v : Int} (hv : -1 ≤ v) : Low (l.set x v) := fun y hy => by
  rcases List.mem_or_eq_of_mem_set hy with g | g
  · exact h y g
  · rw [g]
    exact hv
/-- Is a register there? -/
def hs (n : Nat) (r : Int) : Bool := decide (0 ≤ r ∧ r < (n : Int))
def insGo (n : Nat) : List Int → List Int → Int → Option (List Int)
  | [], l, _ => some l
  | y :: ys, l, i => if hs n y = true ∧ rg l y = -1 then insGo n ys (l.set y.toNat i) (i + 1) else none
def outsGo (n : Nat) (l : List Int) : List Int → List Int → Option (List Int)
  | [], o => some o
  | y :: ys, o => if hs n y = true ∧ rg l y ≠ -1 then outsGo n l ys (o ++ [rg l y]) else none
def nul : Int × List SStep × List Int × Bool := (0, [], [], false)
def regs (a : Int) : Nat := (mx (mn a 46) 0).toNat
def no : Nat → List Int := fun n => List.replicate n (-1)
end Go.Proofs.Ytiaohjciddbpoaa.Pure
