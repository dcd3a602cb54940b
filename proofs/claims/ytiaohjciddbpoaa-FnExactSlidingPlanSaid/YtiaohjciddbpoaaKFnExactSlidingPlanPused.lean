/- Pure: the program's used values, and its plan of these alone. -/
import Derived.Test.YtiaohjciddbpoaaKFnExactSlidingPlanPkeep
import Derived.Test.YtiaohjciddbpoaaKFnExactSlidingPlanPiota
set_option linter.unusedVariables false
set_option linter.unusedSimpArgs false
namespace Go.Proofs.Ytiaohjciddbpoaa.Pure
open Go.RowKit Go.Proofs.Ytiaohjciddbpoaa.E Go.Proofs.Ytiaohjciddbpoaa.H2 Go.Proofs.Ytiaohjciddbpoaa.Frame Go.Proofs.YtiaohjciddbpoaaW.PrintLast Go.Proofs.YtiaohjciddbpoaaW.PrintMore
open Go.Proofs.YtiaohjciddbpoaaW.PrintWords hiding mn mx
theorem tb_getD {M : Nat} {f : Int → Bool} {v : Int} (h0 : 0 ≤ v) (h1 : v < (M : Int)) : (tb M f).getD v.toNat false = f v := by
  have := tb_gt (f := f) h0 h1
  unfold gt at this
  rw [if_pos h0] at this
  rw [List.getD_eq_getElem?_getD, this]
  rfl
theorem tb_set {M : Nat} {f : Int → Bool} {v : Int} (h0 : 0 ≤ v) (h1 : v < (M : Int)) : (tb M f).set v.toNat true = tb M (fun u => if u = v then true else f u) := by
  have := tb_st (f := f) (b := true) h0 h1
  unfold st at this
  rw [if_pos ⟨h0, by rw [tb_len]; exact h1⟩] at this
  exact Option.some.inj this
theorem used_l0b (M : Nat) (ys : List Int) (f : Int → Bool) (j : Int) (h : ∀ y ∈ ys, 0 ≤ y ∧ y < (M : Int)) : impl_Plan_used.l0 ys (tb M f) j = some (tb M fun u => f u || decide (u ∈ ys)) := by
  induction ys generalizing f j with
  | nil => simp [impl_Plan_used.l0]
  | cons y ys ih =>
    have hy := h y List.mem_cons_self
    simp only [impl_Plan_used.l0]
    rw [tb_gt hy.1 hy.2, Option.bind_some, tb_st hy.1 hy.2, Option.bind_some, ih _ _ (fun z hz => h z (List.mem_cons_of_mem _ hz))]
    congr 1
    refine tb_ext fun u _ _ => ?_
    by_cases e : u = y <;> simp [e]
theorem used_back (I M : Nat) (o : List Int) (s : List SStep) (k : Nat) (hs : Ok (I + k) s) (hM : I + k + s.length ≤ M) : ((s.zipIdx k).map fun p => ((p.2 : Int), p.1)).foldr (fun x a => impl_Plan_used.b (I : Int) a x) (tb M fun v => decide (v ∈ o)) = tb M (us (I + k) s o) := by
  induction s generalizing k with
  | nil => rfl
  | cons y ys ih =>
    simp only [List.length_cons] at hM
    have q := hs.1
    have := ih (k + 1) (by rw [← Nat.add_assoc]; exact hs.2) (by omega)
    simp only [List.zipIdx_cons, List.map_cons, List.foldr_cons]
    rw [this, show I + (k + 1) = I + k + 1 by omega]
    have hg := tb_getD (M := M) (f := us (I + k + 1) ys o) (v := (I : Int) + (k : Int)) (by omega) (by omega)
    unfold impl_Plan_used.b
    simp only
    rw [hg, show (I : Int) + (k : Int) = ((I + k : Nat) : Int) by omega]
    cases c : us (I + k + 1) ys o ((I + k : Nat) : Int) with
    | true =>
      rw [if_pos rfl, tb_set q.1 (by omega), tb_set (by omega) (by omega)]
      refine tb_ext fun u _ _ => ?_
      simp only [us, c, Bool.true_and]
      by_cases e0 : u = y.f0
      · simp [e0]
      · by_cases e1 : u = y.f1
        · simp [e1]
        · simp [e0, e1]
    | false =>
      rw [if_neg (by simp)]
      refine tb_ext fun u _ _ => ?_
      simp only [us, c, Bool.false_and, Bool.or_false]
theorem bwL_fold {α β : Type} (f : β → Int × α → β) (a : β) (zs : List α) : (bwL zs).foldl f a = (zs.zipIdx.map fun p => ((p.2 : Int), p.1)).foldr (fun x a => f a x) a := by
  unfold bwL
  rw [List.foldl_reverse]
theorem trim_l0 (I : Nat) (U : Int → Bool) (M : Nat) (hM : M ≤ 1000) (ys : List SStep) (m : Nat) (p : List Int) (q : List SStep) (hp : p.length = I + m) (hs : Ok (I + m) ys) (hm : I + m + ys.length ≤ M) (hq : q.length ≤ m) : impl_Plan_trimmed.l0 (I : Int) (tb M U) ys p q (m : Int) = some (tr U (I : Int) (I + m) ys p q) := by
  induction ys generalizing m p q with
  | nil => rfl
  | cons y ys ih =>
    have c := hs.1
    simp only [List.length_cons] at hm
    have hlen : (p ++ [(I : Int) + (q.length : Int)]).length = I + (m + 1) := by rw [List.length_append, List.length_singleton]; omega
    simp only [impl_Plan_trimmed.l0, tr, impl_Plan_many.f, impl_step.f, Option.bind_some]
    rw [zat (x := (I : Int) + (q.length : Int)) (by omega), ap_ok (by simp; omega), Option.bind_some, zat (x := (I : Int) + (m : Int)) (by omega), tb_gt (by omega) (by omega), Option.bind_some, show (I : Int) + (m : Int) = ((I + m : Nat) : Int) by omega, show (m : Int) + 1 = ((m + 1 : Nat) : Int) by omega]
    cases cu : U ((I + m : Nat) : Int) with
    | true =>
      rw [if_pos rfl, if_pos rfl, rg_gt (by omega) (by omega), Option.bind_some, rg_gt (by omega) (by omega), Option.bind_some, ap_ok (by simp; omega), Option.bind_some]
      have := ih (m + 1) (p ++ [(I : Int) + (q.length : Int)]) (q ++ [⟨mn (rg (p ++ [(I : Int) + (q.length : Int)]) y.f0) (rg (p ++ [(I : Int) + (q.length : Int)]) y.f1), mx (rg (p ++ [(I : Int) + (q.length : Int)]) y.f0) (rg (p ++ [(I : Int) + (q.length : Int)]) y.f1)⟩]) hlen (by rw [← Nat.add_assoc]; exact hs.2) (by omega) (by simp; omega)
      rw [← Nat.add_assoc] at this
      exact this
    | false =>
      rw [if_neg (by simp), if_neg (by simp)]
      have := ih (m + 1) (p ++ [(I : Int) + (q.length : Int)]) q hlen (by rw [← Nat.add_assoc]; exact hs.2) (by omega) (by omega)
      rw [← Nat.add_assoc] at this
      exact this
/-! which steps -/
/-! how often -/
/-! the plan of the used steps uses all of its own -/
end Go.Proofs.Ytiaohjciddbpoaa.Pure
