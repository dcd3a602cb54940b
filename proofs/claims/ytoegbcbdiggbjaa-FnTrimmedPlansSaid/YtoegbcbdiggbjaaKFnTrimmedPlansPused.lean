/- Pure: the program's used values, and its plan of these alone. -/
import Derived.Test.YtoegbcbdiggbjaaKFnTrimmedPlansPkeep
import Derived.Test.YtoegbcbdiggbjaaKFnTrimmedPlansPiota
set_option linter.unusedVariables false
set_option linter.unusedSimpArgs false
namespace Go.Proofs.Ytoegbcbdiggbjaa.Pure
open Go.RowKit Go.Proofs.Ytoegbcbdiggbjaa.E Go.Proofs.Ytoegbcbdiggbjaa.TP Go.Proofs.Ytoegbcbdiggbjaa.Frame Go.Proofs.YtoegbcbdiggbjaaW.PrintLast Go.Proofs.YtoegbcbdiggbjaaW.PrintMore
open Go.Proofs.YtoegbcbdiggbjaaW.PrintWords hiding mn mx
theorem tb_getD {M : Nat} {f : Int → Bool} {v : Int} (h0 : 0 ≤ v) (h1 : v < (M : Int)) : (tb M f).getD v.toNat false = f v := by
  have := tb_gt (f := f) h0 h1
  unfold gt at this
  rw [if_pos h0] at this
  rw [List.getD_eq_getElem?_getD, this]
  rfl
theorem tb_set {M : Nat} {f : Int → Bool} {v : Int} (h0 : 0 ≤ v) (h1 : v < (M : Int)) : (tb M f).set v.toNat true = tb M (fun u => if u = v then true else f u) := by
  have := tb_st (f := f) (b := true) h0 h1
  unfold st at this
  rw [if_pos ⟨h0, by rw [tb_len]; exact h1⟩] at this
  exact Option.some.inj this
theorem used_l0b (M : Nat) (ys : List Int) (f : Int → Bool) (j : Int) (h : ∀ y ∈ ys, 0 ≤ y ∧ y < (M : Int)) : impl_Plan_used.l0 ys (tb M f) j = some (tb M fun u => f u || decide (u ∈ ys)) := by
  induction ys generalizing f j with
  | nil => simp [impl_Plan_used.l0]
  | cons y ys ih =>
    have hy := h y List.mem_cons_self
    simp only [impl_Plan_used.l0]
    rw [tb_gt hy.1 hy.2, Option.bind_some, tb_st hy.1 hy.2, Option.bind_some, ih _ _ (fun z hz => h z (List.mem_cons_of_mem _ hz))]
    congr 1
    refine tb_ext fun u _ _ => ?_
    by_cases e : u = y <;> simp [e]
theorem used_back (I M : Nat) (o : List Int) (s : List SStep) (k : Nat) (hs : Ok (I + k) s) (hM : I + k + s.length ≤ M) : ((s.zipIdx k).map fun p => ((p.2 : Int), p.1)).foldr (fun x a => impl_Plan_used.b (I : Int) a x) (tb M fun v => decide (v ∈ o)) = tb M (us (I + k) s o) := by
  induction s generalizing k with
  | nil => rfl
  | cons y ys ih =>
    simp only [List.length_cons] at hM
    have q := hs.1
    have := ih (k + 1) (by rw [← Nat.add_assoc]; exact hs.2) (by omega)
    simp only [List.zipIdx_cons, List.map_cons, List.foldr_cons]
    rw [this, show I + (k + 1) = I + k + 1 by omega]
    have hg := tb_getD (M := M) (f := us (I + k + 1) ys o) (v := (I : Int) + (k : Int)) (by omega) (by omega)
    unfold impl_Plan_used.b
    simp only
    rw [hg, show (I : Int) + (k : Int) = ((I + k : Nat) : Int) by omega]
    cases c : us (I + k + 1) ys o ((I + k : Nat) : Int) with
    | true =>
      rw [if_pos rfl, tb_set q.1 (by omega), tb_set (by omega) (by omega)]
      refine tb_ext fun u _ _ => ?_
      simp only [us, c, Bool.true_and]
      by_cases e0 : u = y.f0
      · simp [e0]
      · by_cases e1 : u = y.f1
        · simp [e1]
        · simp [e0, e1]
    | false =>
      rw [if_neg (by simp)]
      refine tb_ext fun u _ _ => ?_
      simp only [us, c, Bool.false_and, Bool.or_false]
theorem bwL_fold {α β : Type} (f : β → Int × α → β) (a : β) (zs : List α) : (bwL zs).foldl f a = (zs.zipIdx.map fun p => ((p.2 : Int), p.1)).foldr (fun x a => f a x) a := by
  unfold bwL
  rw [List.foldl_reverse]
theorem used_eq {I : Nat} {s : List SStep} {o : List Int} (h : Good I s o) : impl_Plan_used.f (I : Int) s o = some (tb (I + s.length) (us I s o)) := by
  have h1 := h.inp
  have h2 := h.stp
  unfold impl_Plan_used.f impl_Plan_many.f
  rw [Option.bind_some, zax (by omega), tb_mk (M := I + s.length) (by omega) (by omega), Option.bind_some, used_l0b _ _ _ _ (fun y hy => by have := h.os y hy; omega), Option.bind_some]
  rw [if_pos]
  · rw [bwL_fold]
    have e : (tb (I + s.length) fun u => false || decide (u ∈ o)) = tb (I + s.length) fun v => decide (v ∈ o) := tb_ext fun u _ _ => by simp
    rw [e]
    have := used_back I (I + s.length) o s 0 h.ok (by omega)
    rw [show I + 0 = I by omega] at this
    rw [this]
  · refine ⟨⟨by omega, by omega, by omega, by rw [tb_len]; omega, by rw [tb_len]; omega⟩, fun y hy => ?_⟩
    have := h.form.mem y hy
    omega
theorem trim_l0 (I : Nat) (U : Int → Bool) (M : Nat) (hM : M ≤ 1000) (ys : List SStep) (m : Nat) (p : List Int) (q : List SStep) (hp : p.length = I + m) (hs : Ok (I + m) ys) (hm : I + m + ys.length ≤ M) (hq : q.length ≤ m) : impl_Plan_trimmed.l0 (I : Int) (tb M U) ys p q (m : Int) = some (tr U (I : Int) (I + m) ys p q) := by
  induction ys generalizing m p q with
  | nil => rfl
  | cons y ys ih =>
    have c := hs.1
    simp only [List.length_cons] at hm
    have hlen : (p ++ [(I : Int) + (q.length : Int)]).length = I + (m + 1) := by rw [List.length_append, List.length_singleton]; omega
    simp only [impl_Plan_trimmed.l0, tr, impl_Plan_many.f, impl_step.f, Option.bind_some]
    rw [zax (x := (I : Int) + (q.length : Int)) (by omega), ap_ok (by simp; omega), Option.bind_some, zax (x := (I : Int) + (m : Int)) (by omega), tb_gt (by omega) (by omega), Option.bind_some, show (I : Int) + (m : Int) = ((I + m : Nat) : Int) by omega, show (m : Int) + 1 = ((m + 1 : Nat) : Int) by omega]
    cases cu : U ((I + m : Nat) : Int) with
    | true =>
      rw [if_pos rfl, if_pos rfl, rg_gt (by omega) (by omega), Option.bind_some, rg_gt (by omega) (by omega), Option.bind_some, ap_ok (by simp; omega), Option.bind_some]
      have := ih (m + 1) (p ++ [(I : Int) + (q.length : Int)]) (q ++ [⟨mn (rg (p ++ [(I : Int) + (q.length : Int)]) y.f0) (rg (p ++ [(I : Int) + (q.length : Int)]) y.f1), mx (rg (p ++ [(I : Int) + (q.length : Int)]) y.f0) (rg (p ++ [(I : Int) + (q.length : Int)]) y.f1)⟩]) hlen (by rw [← Nat.add_assoc]; exact hs.2) (by omega) (by simp; omega)
      rw [← Nat.add_assoc] at this
      exact this
    | false =>
      rw [if_neg (by simp), if_neg (by simp)]
      have := ih (m + 1) (p ++ [(I : Int) + (q.length : Int)]) q hlen (by rw [← Nat.add_assoc]; exact hs.2) (by omega) (by omega)
      rw [← Nat.add_assoc] at this
      exact this
theorem trimmed_eq {I : Nat} {s : List SStep} {o : List Int} (h : Good I s o) : impl_Plan_trimmed.f (I : Int) s o = some (kS I s o, kO I s o) := by
  have h1 := h.inp
  have h2 := h.stp
  have h3 := h.out
  have hT := tr_Tr I (us I s o) s
  unfold impl_Plan_trimmed.f
  rw [used_eq h, Option.bind_some, firsts_eq I (by omega), Option.bind_some]
  simp only [Option.bind_some]
  have e := trim_l0 I (us I s o) (I + s.length) (by omega) s 0 (iota I) [] (by simp [iota]) h.ok (by omega) (by simp)
  rw [show ((0 : Nat) : Int) = 0 from rfl, show I + 0 = I by omega] at e
  rw [e, Option.bind_some]
  have e2 : tr (us I s o) (I : Int) I s (iota I) [] = (tp I (us I s o) s, ts I (us I s o) s) := rfl
  rw [e2]
  simp only
  rw [ren_eq _ _ (fun y hy => by rw [hT.pn]; have := h.os y hy; omega) (by omega), Option.bind_some]
  congr 2
  unfold kO
  exact List.map_congr_left fun y hy => hT.pv y (h.os y hy).1 (h.os y hy).2
theorem trim_ev {I : Nat} {s : List SStep} {o : List Int} (h : Good I s o) : Ev (fun k => impl_TrimPlan.f k (I : Int) s o) ((I : Int), kS I s o, kO I s o, true) := by
  have e1 := isPlan_ev (I : Int) s o
  rw [good_iff.2 h] at e1
  unfold impl_TrimPlan.f
  exact bind e1 (pos rfl (bind0 (trimmed_eq h) (ret _)))
theorem strim_ev {I : Nat} {s : List SStep} {o : List Int} (h : Good I s o) : Ev (fun k => spec_TrimPlan.f k (I : Int) s o) ((I : Int), kS I s o, kO I s o, true) := by
  have e1 := plGood_ev (I : Int) s o
  rw [good_iff.2 h] at e1
  unfold spec_TrimPlan.f
  exact bind e1 (pos rfl (bind (plUsed_ev h) (bind0 (plKeep_eq h) (ret _))))
/-! which steps -/
theorem steps_l0 (M : Nat) (hM : M ≤ 1000) (f : Int → Bool) : ∀ (d j : Nat), j + d = M → impl_UsedSteps.l0 ((tb M f).drop j) (vals j f) (j : Int) = some (vals M f) := by
  intro d
  induction d with
  | zero =>
    intro j hj
    obtain rfl : j = M := by omega
    rw [List.drop_eq_nil_of_le (by rw [tb_len]; omega)]
    rfl
  | succ d ih =>
    intro j hj
    have hn := ih (j + 1) (by omega)
    have hl := vals_len j f
    rw [vals_succ] at hn
    rw [tb_drop (by omega)]
    simp only [impl_UsedSteps.l0]
    rw [show (j : Int) + 1 = ((j + 1 : Nat) : Int) by omega]
    by_cases c : f (j : Int) = true
    · rw [if_pos c] at hn
      rw [if_pos c, ap_ok (by simp; omega), Option.bind_some]
      exact hn
    · rw [if_neg c, List.append_nil] at hn
      rw [if_neg c]
      exact hn
theorem tb_from (I n : Nat) (f : Int → Bool) : (tb (I + n) f).drop I = tb n fun j => f ((I : Int) + j) := by
  unfold tb
  refine List.ext_getElem (by simp) fun i h1 h2 => ?_
  simp
theorem steps_ev {I : Nat} {s : List SStep} {o : List Int} (h : Good I s o) : Ev (fun k => impl_UsedSteps.f k (I : Int) s o) (kp I s o, true) := by
  have h1 := h.inp
  have h2 := h.stp
  have e1 := isPlan_ev (I : Int) s o
  rw [good_iff.2 h] at e1
  unfold impl_UsedSteps.f
  have hc := ct_drop (tb (I + s.length) (us I s o)) I (by rw [tb_len]; omega)
  rw [tb_from] at hc
  have e := steps_l0 s.length (by omega) (fun j => us I s o ((I : Int) + j)) s.length 0 (by omega)
  rw [List.drop_zero, show vals 0 (fun j => us I s o ((I : Int) + j)) = [] from rfl, show ((0 : Nat) : Int) = 0 from rfl] at e
  exact bind e1 (pos rfl (bind0 (used_eq h) (bind0 hc (bind0 e (ret _)))))
theorem isTrim_ev {I : Nat} {s : List SStep} {o : List Int} (h : Good I s o) : Ev (fun k => impl_IsTrim.f k (I : Int) s o) (decide (((kp I s o).length : Int) = (s.length : Int)), true) := by
  unfold impl_IsTrim.f
  exact bind (steps_ev h) (pos rfl (ret _))
/-! how often -/
theorem uses_ge0 (M : Nat) (ys : List SStep) (l : List Int) (j : Int) (c : Nat) (hl : l.length = M) (h : ∀ y ∈ ys, (0 ≤ y.f0 ∧ y.f0 < (M : Int)) ∧ (0 ≤ y.f1 ∧ y.f1 < (M : Int))) (hb : ∀ v : Int, 0 ≤ v → v < (M : Int) → 0 ≤ rg l v ∧ rg l v ≤ (c : Int)) (hc : c + 2 * ys.length ≤ 1000) : ∃ l', impl_Plan_uses.l0 ys l j = some l' ∧ l'.length = M ∧ ∀ v : Int, 0 ≤ v → v < (M : Int) → (rg l v ≤ rg l' v ∧ rg l' v ≤ ((c + 2 * ys.length : Nat) : Int)) ∧ ((∃ y ∈ ys, y.f0 = v ∨ y.f1 = v) → 1 ≤ rg l' v) := by
  induction ys generalizing l j c with
  | nil => exact ⟨l, rfl, hl, fun v h0 h1 => ⟨⟨Int.le_refl _, (hb v h0 h1).2⟩, fun ⟨y, hy, _⟩ => nomatch hy⟩⟩
  | cons y ys ih =>
    have q := h y List.mem_cons_self
    simp only [List.length_cons] at hc
    have b0 := hb y.f0 q.1.1 q.1.2
    obtain ⟨l1, hl1⟩ : ∃ l1, l.set y.f0.toNat (rg l y.f0 + 1) = l1 := ⟨_, rfl⟩
    have hl1l : l1.length = M := by rw [← hl1]; simpa using hl
    have g1 : ∀ v : Int, 0 ≤ v → v < (M : Int) → rg l1 v = if y.f0 = v then rg l y.f0 + 1 else rg l v := fun v h0 h1 => by rw [← hl1, rg_set h0 (by omega) q.1.1]
    have b1 := hb y.f1 q.2.1 q.2.2
    have e1 := g1 y.f1 q.2.1 q.2.2
    obtain ⟨l2, hl2⟩ : ∃ l2, l1.set y.f1.toNat (rg l1 y.f1 + 1) = l2 := ⟨_, rfl⟩
    have hl2l : l2.length = M := by rw [← hl2]; simpa using hl1l
    have g2 : ∀ v : Int, 0 ≤ v → v < (M : Int) → rg l2 v = if y.f1 = v then rg l1 y.f1 + 1 else rg l1 v := fun v h0 h1 => by rw [← hl2, rg_set h0 (by omega) q.2.1]
    have hb2 : ∀ v : Int, 0 ≤ v → v < (M : Int) → (rg l v ≤ rg l2 v ∧ rg l2 v ≤ ((c + 2 : Nat) : Int)) ∧ ((y.f0 = v ∨ y.f1 = v) → 1 ≤ rg l2 v) := fun v h0 h1 => by
      have a := hb v h0 h1
      have k1 := g1 v h0 h1
      rw [g2 v h0 h1]
      by_cases c1 : y.f1 = v
      · rw [if_pos c1]
        by_cases c0 : y.f0 = v
        · rw [if_pos c0] at k1
          rw [c1, k1, c0]
          omega
        · rw [if_neg c0] at k1
          rw [c1, k1]
          omega
      · rw [if_neg c1]
        by_cases c0 : y.f0 = v
        · rw [if_pos c0] at k1
          rw [k1, c0]
          omega
        · rw [if_neg c0] at k1
          rw [k1]
          exact ⟨by omega, fun q => by rcases q with q | q <;> contradiction⟩
    obtain ⟨l', u1, u2, u3⟩ := ih l2 (j + 1) (c + 2) hl2l (fun z hz => h z (List.mem_cons_of_mem _ hz)) (fun v h0 h1 => by
      have := hb2 v h0 h1
      have := hb v h0 h1
      omega) (by omega)
    refine ⟨l', ?_, u2, fun v h0 h1 => ?_⟩
    · simp only [impl_Plan_uses.l0]
      rw [rg_gt (l := l) q.1.1 (by omega)]
      simp only [Option.bind_some]
      rw [zax (x := rg l y.f0 + 1) (by omega), rg_st (l := l) q.1.1 (by omega), hl1]
      simp only [Option.bind_some]
      rw [rg_gt (l := l1) q.2.1 (by omega)]
      simp only [Option.bind_some]
      have hw : rg l1 y.f1 ≤ (c : Int) + 1 ∧ 0 ≤ rg l1 y.f1 := by
        rw [e1]
        split <;> omega
      rw [zax (x := rg l1 y.f1 + 1) (by omega), rg_st (l := l1) q.2.1 (by omega), hl2]
      exact u1
    · have a := hb2 v h0 h1
      have b := u3 v h0 h1
      refine ⟨⟨by omega, by simp only [List.length_cons]; omega⟩, ?_⟩
      rintro ⟨z, hz, hv⟩
      rcases List.mem_cons.1 hz with rfl | hz
      · have := a.2 hv
        omega
      · exact b.2 ⟨z, hz, hv⟩
theorem uses_ge1 (M : Nat) (ys : List Int) (l : List Int) (j : Int) (c : Nat) (hl : l.length = M) (h : ∀ y ∈ ys, 0 ≤ y ∧ y < (M : Int)) (hb : ∀ v : Int, 0 ≤ v → v < (M : Int) → 0 ≤ rg l v ∧ rg l v ≤ (c : Int)) (hc : c + ys.length ≤ 1000) : ∃ l', impl_Plan_uses.l1 ys l j = some l' ∧ l'.length = M ∧ ∀ v : Int, 0 ≤ v → v < (M : Int) → rg l v ≤ rg l' v ∧ (v ∈ ys → 1 ≤ rg l' v) := by
  induction ys generalizing l j c with
  | nil => exact ⟨l, rfl, hl, fun v h0 h1 => ⟨Int.le_refl _, fun hy => nomatch hy⟩⟩
  | cons y ys ih =>
    have q := h y List.mem_cons_self
    simp only [List.length_cons] at hc
    have b0 := hb y q.1 q.2
    obtain ⟨l1, hl1⟩ : ∃ l1, l.set y.toNat (rg l y + 1) = l1 := ⟨_, rfl⟩
    have hl1l : l1.length = M := by rw [← hl1]; simpa using hl
    have g1 : ∀ v : Int, 0 ≤ v → v < (M : Int) → rg l1 v = if y = v then rg l y + 1 else rg l v := fun v h0 h1 => by rw [← hl1, rg_set h0 (by omega) q.1]
    obtain ⟨l', u1, u2, u3⟩ := ih l1 (j + 1) (c + 1) hl1l (fun z hz => h z (List.mem_cons_of_mem _ hz)) (fun v h0 h1 => by
      have := hb v h0 h1
      rw [g1 v h0 h1]
      split <;> omega) (by omega)
    refine ⟨l', ?_, u2, fun v h0 h1 => ?_⟩
    · simp only [impl_Plan_uses.l1]
      rw [rg_gt (l := l) q.1 (by omega)]
      simp only [Option.bind_some]
      rw [zax (x := rg l y + 1) (by omega), rg_st (l := l) q.1 (by omega), hl1]
      exact u1
    · have a := g1 v h0 h1
      have b := u3 v h0 h1
      have c1 := hb v h0 h1
      refine ⟨by by_cases d : y = v <;> simp [d] at a <;> omega, fun hv => ?_⟩
      rcases List.mem_cons.1 hv with rfl | hv
      · rw [if_pos rfl] at a
        omega
      · exact b.2 hv
/-- Values that are used are counted. -/
theorem usesOf_ev {I : Nat} {s : List SStep} {o : List Int} (h : Good I s o) : ∃ l, Ev (fun k => impl_UsesOf.f k (I : Int) s o) (l, true) ∧ l.length = I + s.length ∧ ∀ v : Int, 0 ≤ v → v < ((I + s.length : Nat) : Int) → us I s o v = true → 1 ≤ rg l v := by
  have h1 := h.inp
  have h2 := h.stp
  have h3 := h.out
  have e1 := isPlan_ev (I : Int) s o
  rw [good_iff.2 h] at e1
  have hm : mk0 (w64 ((I : Int) + (s.length : Int))) (0 : Int) = some (List.replicate (I + s.length) 0) := by
    rw [zax (by omega)]
    unfold mk0
    rw [if_pos (by omega), show ((I : Int) + (s.length : Int)).toNat = I + s.length by omega]
  have hz : ∀ v : Int, 0 ≤ v → v < ((I + s.length : Nat) : Int) → rg (List.replicate (I + s.length) 0) v = 0 := fun v v0 v1 => by
    unfold rg
    rw [List.getD_eq_getElem?_getD, List.getElem?_replicate]
    split <;> rfl
  obtain ⟨l1, a1, a2, a3⟩ := uses_ge0 (I + s.length) s (List.replicate (I + s.length) 0) 0 0 (by simp) h.form.mem (fun v v0 v1 => by rw [hz v v0 v1]; omega) (by omega)
  obtain ⟨l2, b1, b2, b3⟩ := uses_ge1 (I + s.length) o l1 0 (0 + 2 * s.length) a2 (fun y hy => h.os y hy) (fun v v0 v1 => by
    have := (a3 v v0 v1).1
    rw [hz v v0 v1] at this
    omega) (by omega)
  refine ⟨l2, ?_, b2, fun v v0 v1 hu => ?_⟩
  · unfold impl_UsesOf.f
    refine bind e1 (pos rfl (bind0 (a := l2) ?_ (ret _)))
    unfold impl_Plan_uses.f impl_Plan_many.f
    rw [Option.bind_some, hm, Option.bind_some, a1, Option.bind_some, b1]
    rfl
  · rcases (us_iff h.ok).1 hu with hu | ⟨j, y, hy, _, hv⟩
    · exact (b3 v v0 v1).2 hu
    · have := (a3 v v0 v1).2 ⟨y, List.mem_of_getElem? hy, by rcases hv with rfl | rfl <;> simp⟩
      have := (b3 v v0 v1).1
      omega
/-! the plan of the used steps uses all of its own -/
theorem kept_all {I : Nat} {s : List SStep} {o : List Int} (h : Good I s o) : ∀ w : Int, (I : Int) ≤ w → w < ((I + (kS I s o).length : Nat) : Int) → us I (kS I s o) (kO I s o) w = true := by
  intro w w0 w1
  unfold kS at w1
  rw [ts_len] at w1
  obtain ⟨v, v0, v1, v2, rfl⟩ := ts_onto s w (by omega) w1
  rcases v2 with v2 | v2
  · exfalso
    unfold pl at w0
    rw [if_pos v2] at w0
    omega
  · exact ts_used h.ok s.length v v0 (by unfold pl at w0; split at w0 <;> omega) v2
theorem kept_kp {I : Nat} {s : List SStep} {o : List Int} (h : Good I s o) : (kp I (kS I s o) (kO I s o)).length = (kS I s o).length := by
  unfold kp
  rw [vals_all (fun v v0 v1 => kept_all h _ (by omega) (by omega))]
  simp
theorem kept_same {I : Nat} {s : List SStep} {o : List Int} (h : Good I s o) (hu : ∀ w : Int, (I : Int) ≤ w → w < ((I + s.length : Nat) : Int) → us I s o w = true) : kS I s o = s ∧ kO I s o = o := by
  refine ⟨ts_all s h.ok hu, ?_⟩
  unfold kO
  have : o.map (pl I (us I s o)) = o.map (fun x => x) := List.map_congr_left fun y hy => pl_all hu (h.os y hy).1 (h.os y hy).2
  rw [this]
  simp
theorem kept_twice {I : Nat} {s : List SStep} {o : List Int} (h : Good I s o) : kS I (kS I s o) (kO I s o) = kS I s o ∧ kO I (kS I s o) (kO I s o) = kO I s o := kept_same (kept_good h) (kept_all h)
theorem kp_full {I : Nat} {s : List SStep} {o : List Int} (hl : (kp I s o).length = s.length) : ∀ w : Int, (I : Int) ≤ w → w < ((I + s.length : Nat) : Int) → us I s o w = true := fun w w0 w1 => by
  have := vals_full hl (w - (I : Int)) (by omega) (by omega)
  rwa [show (I : Int) + (w - (I : Int)) = w by omega] at this
theorem kS_kp (I : Nat) (s : List SStep) (o : List Int) : (kS I s o).length = (kp I s o).length := by
  unfold kS kp
  exact ts_len I _ s
end Go.Proofs.Ytoegbcbdiggbjaa.Pure
