/- Pure: plans by windows, on both sides. -/
import Derived.Test.YtiaohjciddbpoaaKFnExactSlidingPlanPgd
set_option linter.unusedVariables false
set_option linter.unusedSimpArgs false
namespace Go.Proofs.Ytiaohjciddbpoaa.Pure
open Go.RowKit Go.Proofs.Ytiaohjciddbpoaa.E Go.Proofs.Ytiaohjciddbpoaa.H2 Go.Proofs.Ytiaohjciddbpoaa.Frame Go.Proofs.YtiaohjciddbpoaaW.PrintLast Go.Proofs.YtiaohjciddbpoaaW.PrintMore
open Go.Proofs.YtiaohjciddbpoaaW.PrintWords hiding mn mx
/-! digits -/
def dgs (b : Nat) : Nat → Nat → List Int
  | 0, _ => []
  | f + 1, y => if y = 0 then [] else ((y % b : Nat) : Int) :: dgs b f (y / b)
/-! a maker's steps -/
def mulS (p : List SStep × Int) (b : Int) : List SStep × Int := (p.1 ++ [⟨mn p.2 b, mx p.2 b⟩], 1 + (p.1.length : Int))
theorem mul_impl (l : List SStep) (a b : Int) (hl : l.length ≤ 100000) : impl_maker_multiply.f 1 l [] a b = some ((mulS (l, a) b).2, (mulS (l, a) b).1) := by
  unfold impl_maker_multiply.f impl_step.f impl_Plan_many_2.f
  rw [Option.bind_some, ap_ok (by simp; omega)]
  simp only [Option.bind_some]
  rw [List.length_append, List.length_singleton, zat (x := 1 + ((l.length + 1 : Nat) : Int)) (by omega), zat (by omega)]
  show some (1 + ((l.length + 1 : Nat) : Int) - 1, _) = some (1 + (l.length : Int), _)
  congr 2
  omega
def sqn : Nat → List SStep × Int → List SStep × Int
  | 0, p => p
  | n + 1, p => sqn n (mulS p p.2)
def wr (n : Nat) (p : List SStep × Int) (d : Int) : List SStep × Int := if 0 < d then mulS (sqn n p) (d - 1) else sqn n p
theorem mulS_len (p : List SStep × Int) (b : Int) : (mulS p b).1.length = p.1.length + 1 := by simp [mulS]
theorem sqn_len (n : Nat) (p : List SStep × Int) : (sqn n p).1.length = p.1.length + n := by
  induction n generalizing p with
  | zero => rfl
  | succ n ih => rw [sqn, ih, mulS_len]; omega
theorem wr_len (n : Nat) (p : List SStep × Int) (d : Int) : (wr n p d).1.length ≤ p.1.length + (n + 1) := by
  have := sqn_len n p
  unfold wr
  split
  · rw [mulS_len]; omega
  · omega
theorem sqn_impl (n : Nat) (l : List SStep) (a j : Int) (h : l.length + n ≤ 100000) : impl_maker_squared.l0 1 [] n l a j = some (sqn n (l, a)) := by
  induction n generalizing l a j with
  | zero => rfl
  | succ n ih =>
    simp only [impl_maker_squared.l0, sqn]
    rw [mul_impl _ _ _ (by omega)]
    simp only [Option.bind_some]
    exact ih _ _ _ (by rw [mulS_len]; show l.length + 1 + n ≤ _; omega)
/-! the powers -/
def pwS (t : Nat) : List SStep := (List.range t).map fun (j : Nat) => (⟨0, (j : Int)⟩ : SStep)
def pwL (t : Nat) : List Int := (List.range (t + 2)).map fun (j : Nat) => (j : Int) - 1
/-! the rounds -/
theorem bwL_len {α : Type} (zs : List α) : (bwL zs).length = zs.length := by simp [bwL]
/-! what a maker makes may be trimmed -/
def Mk (T : Nat) (p : List SStep × Int) : Prop := Ok 1 p.1 ∧ T ≤ p.1.length ∧ 0 ≤ p.2 ∧ p.2 ≤ (p.1.length : Int)
theorem Mk.mul {T : Nat} {p : List SStep × Int} (h : Mk T p) {b : Int} (hb : 0 ≤ b ∧ b ≤ (p.1.length : Int)) : Mk T (mulS p b) := by
  obtain ⟨h1, h2, h3, h4⟩ := h
  have hl := mulS_len p b
  refine ⟨Ok.append.2 ⟨h1, ?_, trivial⟩, by omega, by show 0 ≤ 1 + (p.1.length : Int); omega, by show 1 + (p.1.length : Int) ≤ _; omega⟩
  show 0 ≤ mn p.2 b ∧ mn p.2 b ≤ mx p.2 b ∧ mx p.2 b < _
  unfold mn mx
  split <;> split <;> omega
theorem Mk.sq {T : Nat} {p : List SStep × Int} (h : Mk T p) (n : Nat) : Mk T (sqn n p) := by
  induction n generalizing p with
  | zero => exact h
  | succ n ih => exact ih (h.mul ⟨h.2.2.1, h.2.2.2⟩)
theorem Mk.wr {T : Nat} {p : List SStep × Int} (h : Mk T p) (n : Nat) {d : Int} (hd : d ≤ (T : Int) + 1) : Mk T (wr n p d) := by
  have hs := h.sq n
  unfold Pure.wr
  split
  · exact hs.mul ⟨by omega, by have := hs.2.1; omega⟩
  · exact hs
theorem Mk.all {T : Nat} (n : Nat) (xs : List Int) (hx : ∀ x ∈ xs, x ≤ (T : Int) + 1) {p : List SStep × Int} (h : Mk T p) : Mk T (xs.foldl (Pure.wr n) p) ∧ (xs.foldl (Pure.wr n) p).1.length ≤ p.1.length + (n + 1) * xs.length := by
  induction xs generalizing p with
  | nil => exact ⟨h, by simp⟩
  | cons x xs ih =>
    obtain ⟨h1, h2⟩ := ih (fun y hy => hx y (List.mem_cons_of_mem _ hy)) (h.wr n (hx x List.mem_cons_self))
    have := wr_len n p x
    refine ⟨h1, ?_⟩
    rw [List.length_cons, Nat.mul_succ]
    rw [List.foldl_cons]
    omega
/-! both plans -/
theorem wide_ok (n : Nat) (h : 1 ≤ n ∧ n ≤ 5) : IntKind.i64.wrap (1 * 2 ^ min ((n : Nat) : Int).toNat IntKind.i64.bits) = ((2 ^ n : Nat) : Int) ∧ ∃ L, 1000000 < (2 ^ n) ^ L ∧ L ≤ 20 ∧ 2 ^ n + n * L + L ≤ 100 := by
  obtain ⟨h1, h2⟩ := h
  obtain rfl | rfl | rfl | rfl | rfl : n = 1 ∨ n = 2 ∨ n = 3 ∨ n = 4 ∨ n = 5 := by omega
  · exact ⟨by decide, 20, by decide, by decide, by decide⟩
  · exact ⟨by decide, 10, by decide, by decide, by decide⟩
  · exact ⟨by decide, 7, by decide, by decide, by decide⟩
  · exact ⟨by decide, 5, by decide, by decide, by decide⟩
  · exact ⟨by decide, 4, by decide, by decide, by decide⟩
end Go.Proofs.Ytiaohjciddbpoaa.Pure
