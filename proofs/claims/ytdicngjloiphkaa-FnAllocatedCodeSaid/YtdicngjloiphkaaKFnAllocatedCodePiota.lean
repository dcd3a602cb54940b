/- Pure: the first numbers. -/
import Derived.Test.YtdicngjloiphkaaKFnAllocatedCodePord
set_option linter.unusedVariables false
set_option linter.unusedSimpArgs false
namespace Go.Proofs.Ytdicngjloiphkaa.Pure
open Go.RowKit Go.Proofs.Ytdicngjloiphkaa.E Go.Proofs.Ytdicngjloiphkaa.L7 Go.Proofs.Ytdicngjloiphkaa.Frame Go.Proofs.YtdicngjloiphkaaW.PrintLast Go.Proofs.YtdicngjloiphkaaW.PrintMore
open Go.Proofs.YtdicngjloiphkaaW.PrintWords hiding mn mx
def iota (j : Nat) : List Int := (List.range j).map fun (m : Nat) => (m : Int)
theorem iota_succ (j : Nat) : iota (j + 1) = iota j ++ [(j : Int)] := by simp [iota, List.range_succ]
theorem iota_mem {j : Nat} {v : Int} : v ∈ iota j ↔ 0 ≤ v ∧ v < (j : Int) := by
  unfold iota
  rw [List.mem_map]
  constructor
  · rintro ⟨m, hm, rfl⟩
    have := List.mem_range.1 hm
    omega
  · rintro ⟨h0, h1⟩
    exact ⟨v.toNat, List.mem_range.2 (by omega), by omega⟩
theorem upTo_ev (d : Nat) (hd : d ≤ 1000) : Ev (fun k => spec_plUpTo.f k (d : Int)) (iota d) := by
  have key : ∀ (e j : Nat), j + e = d → Ev (fun k => spec_plUpTo.l0 (d : Int) k (iota j) (j : Int)) (iota d) := by
    intro e
    induction e with
    | zero =>
      intro j hj
      obtain rfl : j = d := by omega
      refine shift ?_
      simp only [spec_plUpTo.l0]
      exact neg (by omega) (ret _)
    | succ e ih =>
      intro j hj
      refine shift ?_
      simp only [spec_plUpTo.l0]
      rw [w64_succ (by omega)]
      have := ih (j + 1) (by omega)
      rw [iota_succ] at this
      exact pos (by omega) (bind0 (ap_ok (by simp [iota]; omega)) this)
  unfold spec_plUpTo.f
  exact bind (key d 0 (by omega)) (ret _)
theorem doneFirst_eq (i : Int) (s : List SStep) (o : List Int) (d : Nat) (hd : d ≤ s.length) (hs : s.length ≤ 1000) : impl_Plan_doneFirst.f i s o (d : Int) = some (tb s.length fun u => decide (u ∈ iota d)) := by
  have key : ∀ (e j : Nat), j + e = d → impl_Plan_doneFirst.l0 e (tb s.length fun u => decide (u ∈ iota j)) (j : Int) = some (tb s.length fun u => decide (u ∈ iota d)) := by
    intro e
    induction e with
    | zero =>
      intro j hj
      obtain rfl : j = d := by omega
      rfl
    | succ e ih =>
      intro j hj
      simp only [impl_Plan_doneFirst.l0]
      rw [tb_gt (by omega) (by omega), Option.bind_some, tb_st (by omega) (by omega), Option.bind_some, show (j : Int) + 1 = ((j + 1 : Nat) : Int) by omega, ← ih (j + 1) (by omega)]
      congr 1
      refine tb_ext fun u h0 h1 => ?_
      by_cases c : u = (j : Int)
      · rw [if_pos c, decide_eq_true (iota_mem.2 (by omega))]
      · rw [if_neg c]
        have : (u ∈ iota (j + 1)) ↔ u ∈ iota j := by
          rw [iota_mem, iota_mem]
          omega
        simp only [this]
  unfold impl_Plan_doneFirst.f
  have hb : bd (d : Int) = some () := by
    unfold bd
    rw [if_pos (by omega)]
  have h0 : (tb s.length fun _ => false) = tb s.length fun u => decide (u ∈ iota 0) := tb_ext fun u _ _ => by simp [iota]
  rw [tb_mk rfl (by omega), hb, Option.bind_some, Option.bind_some, Int.toNat_natCast, h0, show (0 : Int) = ((0 : Nat) : Int) from rfl, key d 0 (by omega)]
  rfl
theorem firsts_eq (n : Nat) (hn : n ≤ 1000) : impl_firsts.f (n : Int) = some (iota n) := by
  have key : ∀ (e j : Nat), j + e = n → impl_firsts.l0 e (iota j) (j : Int) = some (iota n) := by
    intro e
    induction e with
    | zero =>
      intro j hj
      obtain rfl : j = n := by omega
      rfl
    | succ e ih =>
      intro j hj
      have := ih (j + 1) (by omega)
      rw [iota_succ] at this
      simp only [impl_firsts.l0]
      rw [ap_ok (by simp [iota]; omega), Option.bind_some, show (j : Int) + 1 = ((j + 1 : Nat) : Int) by omega]
      exact this
  unfold impl_firsts.f
  have hb : bd (n : Int) = some () := by
    unfold bd
    rw [if_pos (by omega)]
  rw [hb, Option.bind_some, Int.toNat_natCast]
  have := key n 0 (by omega)
  rw [show iota 0 = [] from rfl] at this
  rw [show (0 : Int) = ((0 : Nat) : Int) from rfl, this]
  rfl
end Go.Proofs.Ytdicngjloiphkaa.Pure
