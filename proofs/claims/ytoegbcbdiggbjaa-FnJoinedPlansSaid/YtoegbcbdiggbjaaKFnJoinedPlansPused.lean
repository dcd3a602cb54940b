/- Pure: the program's used values, and its plan of these alone. -/
import Derived.Test.YtoegbcbdiggbjaaKFnJoinedPlansPkeep
import Derived.Test.YtoegbcbdiggbjaaKFnJoinedPlansPiota
set_option linter.unusedVariables false
set_option linter.unusedSimpArgs false
namespace Go.Proofs.Ytoegbcbdiggbjaa.Pure
open Go.RowKit Go.Proofs.Ytoegbcbdiggbjaa.E Go.Proofs.Ytoegbcbdiggbjaa.JP Go.Proofs.Ytoegbcbdiggbjaa.Frame Go.Proofs.YtoegbcbdiggbjaaW.PrintLast Go.Proofs.YtoegbcbdiggbjaaW.PrintMore
open Go.Proofs.YtoegbcbdiggbjaaW.PrintWords hiding mn mx
theorem tb_getD {M : Nat} {f : Int → Bool} {v : Int} (h0 : 0 ≤ v) (h1 : v < (M : Int)) : (tb M f).getD v.toNat false = f v := by
  have := tb_gt (f := f) h0 h1
  unfold gt at this
  rw [if_pos h0] at this
  rw [List.getD_eq_getElem?_getD, this]
  rfl
theorem tb_set {M : Nat} {f : Int → Bool} {v : Int} (h0 : 0 ≤ v) (h1 : v < (M : Int)) : (tb M f).set v.toNat true = tb M (fun u => if u = v then true else f u) := by
  have := tb_st (f := f) (b := true) h0 h1
  unfold st at this
  rw [if_pos ⟨h0, by rw [tb_len]; exact h1⟩] at this
  exact Option.some.inj this
theorem used_l0b (M : Nat) (ys : List Int) (f : Int → Bool) (j : Int) (h : ∀ y ∈ ys, 0 ≤ y ∧ y < (M : Int)) : impl_Plan_used.l0 ys (tb M f) j = some (tb M fun u => f u || decide (u ∈ ys)) := by
  induction ys generalizing f j with
  | nil => simp [impl_Plan_used.l0]
  | cons y ys ih =>
    have hy := h y List.mem_cons_self
    simp only [impl_Plan_used.l0]
    rw [tb_gt hy.1 hy.2, Option.bind_some, tb_st hy.1 hy.2, Option.bind_some, ih _ _ (fun z hz => h z (List.mem_cons_of_mem _ hz))]
    congr 1
    refine tb_ext fun u _ _ => ?_
    by_cases e : u = y <;> simp [e]
theorem used_back (I M : Nat) (o : List Int) (s : List SStep) (k : Nat) (hs : Ok (I + k) s) (hM : I + k + s.length ≤ M) : ((s.zipIdx k).map fun p => ((p.2 : Int), p.1)).foldr (fun x a => impl_Plan_used.b (I : Int) a x) (tb M fun v => decide (v ∈ o)) = tb M (us (I + k) s o) := by
  induction s generalizing k with
  | nil => rfl
  | cons y ys ih =>
    simp only [List.length_cons] at hM
    have q := hs.1
    have := ih (k + 1) (by rw [← Nat.add_assoc]; exact hs.2) (by omega)
    simp only [List.zipIdx_cons, List.map_cons, List.foldr_cons]
    rw [this, show I + (k + 1) = I + k + 1 by omega]
    have hg := tb_getD (M := M) (f := us (I + k + 1) ys o) (v := (I : Int) + (k : Int)) (by omega) (by omega)
    unfold impl_Plan_used.b
    simp only
    rw [hg, show (I : Int) + (k : Int) = ((I + k : Nat) : Int) by omega]
    cases c : us (I + k + 1) ys o ((I + k : Nat) : Int) with
    | true =>
      rw [if_pos rfl, tb_set q.1 (by omega), tb_set (by omega) (by omega)]
      refine tb_ext fun u _ _ => ?_
      simp only [us, c, Bool.true_and]
      by_cases e0 : u = y.f0
      · simp [e0]
      · by_cases e1 : u = y.f1
        · simp [e1]
        · simp [e0, e1]
    | false =>
      rw [if_neg (by simp)]
      refine tb_ext fun u _ _ => ?_
      simp only [us, c, Bool.false_and, Bool.or_false]
theorem bwL_fold {α β : Type} (f : β → Int × α → β) (a : β) (zs : List α) : (bwL zs).foldl f a = (zs.zipIdx.map fun p => ((p.2 : Int), p.1)).foldr (fun x a => f a x) a := by
  unfold bwL
  rw [List.foldl_reverse]
theorem used_eq {I : Nat} {s : List SStep} {o : List Int} (h : Good I s o) : impl_Plan_used.f (I : Int) s o = some (tb (I + s.length) (us I s o)) := by
  have h1 := h.inp
  have h2 := h.stp
  unfold impl_Plan_used.f impl_Plan_many.f
  rw [Option.bind_some, w64_id (by omega), tb_mk (M := I + s.length) (by omega) (by omega), Option.bind_some, used_l0b _ _ _ _ (fun y hy => by have := h.os y hy; omega), Option.bind_some]
  rw [if_pos]
  · rw [bwL_fold]
    have e : (tb (I + s.length) fun u => false || decide (u ∈ o)) = tb (I + s.length) fun v => decide (v ∈ o) := tb_ext fun u _ _ => by simp
    rw [e]
    have := used_back I (I + s.length) o s 0 h.ok (by omega)
    rw [show I + 0 = I by omega] at this
    rw [this]
  · refine ⟨⟨by omega, by omega, by omega, by rw [tb_len]; omega, by rw [tb_len]; omega⟩, fun y hy => ?_⟩
    have := h.form.mem y hy
    omega
theorem trim_l0 (I : Nat) (U : Int → Bool) (M : Nat) (hM : M ≤ 1000) (ys : List SStep) (m : Nat) (p : List Int) (q : List SStep) (hp : p.length = I + m) (hs : Ok (I + m) ys) (hm : I + m + ys.length ≤ M) (hq : q.length ≤ m) : impl_Plan_trimmed.l0 (I : Int) (tb M U) ys p q (m : Int) = some (tr U (I : Int) (I + m) ys p q) := by
  induction ys generalizing m p q with
  | nil => rfl
  | cons y ys ih =>
    have c := hs.1
    simp only [List.length_cons] at hm
    have hlen : (p ++ [(I : Int) + (q.length : Int)]).length = I + (m + 1) := by rw [List.length_append, List.length_singleton]; omega
    simp only [impl_Plan_trimmed.l0, tr, impl_Plan_many.f, impl_step.f, Option.bind_some]
    rw [w64_id (x := (I : Int) + (q.length : Int)) (by omega), ap_ok (by simp; omega), Option.bind_some, w64_id (x := (I : Int) + (m : Int)) (by omega), tb_gt (by omega) (by omega), Option.bind_some, show (I : Int) + (m : Int) = ((I + m : Nat) : Int) by omega, show (m : Int) + 1 = ((m + 1 : Nat) : Int) by omega]
    cases cu : U ((I + m : Nat) : Int) with
    | true =>
      rw [if_pos rfl, if_pos rfl, rg_gt (by omega) (by omega), Option.bind_some, rg_gt (by omega) (by omega), Option.bind_some, ap_ok (by simp; omega), Option.bind_some]
      have := ih (m + 1) (p ++ [(I : Int) + (q.length : Int)]) (q ++ [⟨mn (rg (p ++ [(I : Int) + (q.length : Int)]) y.f0) (rg (p ++ [(I : Int) + (q.length : Int)]) y.f1), mx (rg (p ++ [(I : Int) + (q.length : Int)]) y.f0) (rg (p ++ [(I : Int) + (q.length : Int)]) y.f1)⟩]) hlen (by rw [← Nat.add_assoc]; exact hs.2) (by omega) (by simp; omega)
      rw [← Nat.add_assoc] at this
      exact this
    | false =>
      rw [if_neg (by simp), if_neg (by simp)]
      have := ih (m + 1) (p ++ [(I : Int) + (q.length : Int)]) q hlen (by rw [← Nat.add_assoc]; exact hs.2) (by omega) (by omega)
      rw [← Nat.add_assoc] at this
      exact this
theorem trimmed_eq {I : Nat} {s : List SStep} {o : List Int} (h : Good I s o) : impl_Plan_trimmed.f (I : Int) s o = some (kS I s o, kO I s o) := by
  have h1 := h.inp
  have h2 := h.stp
  have h3 := h.out
  have hT := tr_Tr I (us I s o) s
  unfold impl_Plan_trimmed.f
  rw [used_eq h, Option.bind_some, firsts_eq I (by omega), Option.bind_some]
  simp only [Option.bind_some]
  have e := trim_l0 I (us I s o) (I + s.length) (by omega) s 0 (iota I) [] (by simp [iota]) h.ok (by omega) (by simp)
  rw [show ((0 : Nat) : Int) = 0 from rfl, show I + 0 = I by omega] at e
  rw [e, Option.bind_some]
  have e2 : tr (us I s o) (I : Int) I s (iota I) [] = (tp I (us I s o) s, ts I (us I s o) s) := rfl
  rw [e2]
  simp only
  rw [ren_eq _ _ (fun y hy => by rw [hT.pn]; have := h.os y hy; omega) (by omega), Option.bind_some]
  congr 2
  unfold kO
  exact List.map_congr_left fun y hy => hT.pv y (h.os y hy).1 (h.os y hy).2
theorem trim_ev {I : Nat} {s : List SStep} {o : List Int} (h : Good I s o) : Ev (fun k => impl_TrimPlan.f k (I : Int) s o) ((I : Int), kS I s o, kO I s o, true) := by
  have e1 := isPlan_ev (I : Int) s o
  rw [good_iff.2 h] at e1
  unfold impl_TrimPlan.f
  exact bind e1 (pos rfl (bind0 (trimmed_eq h) (ret _)))
/-! which steps -/
/-! how often -/
/-! the plan of the used steps uses all of its own -/
end Go.Proofs.Ytoegbcbdiggbjaa.Pure
