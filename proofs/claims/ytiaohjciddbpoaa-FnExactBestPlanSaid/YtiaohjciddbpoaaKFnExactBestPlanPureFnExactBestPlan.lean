/- Pure: Pms, Pbp. -/
import Derived.Test.YtiaohjciddbpoaaKFnExactBestPlanPnd
import Derived.Test.YtiaohjciddbpoaaKFnExactBestPlanPfq
set_option linter.unusedVariables false
set_option linter.unusedSimpArgs false
namespace Go.Proofs.Ytiaohjciddbpoaa.Pure
open Go.RowKit Go.Proofs.Ytiaohjciddbpoaa.E Go.Proofs.Ytiaohjciddbpoaa.H9 Go.Proofs.Ytiaohjciddbpoaa.Frame Go.Proofs.Ytiaohjciddbpoaa.Hand Go.Proofs.YtiaohjciddbpoaaW.PrintLast Go.Proofs.YtiaohjciddbpoaaW.PrintMore
open Go.Proofs.YtiaohjciddbpoaaW.PrintWords hiding mn mx
theorem win_good (x n : Nat) (h0 : 1 ≤ (x : Int) ∧ (x : Int) ≤ 1000000) (hn : 2 ≤ n ∧ n ≤ 3) : ∃ s v, Good 1 s [v] ∧ ex s v = (x : Int) ∧ Ev (fun k => impl_WindowPlan.f k (x : Int) (n : Int)) (1, s, [v], true) ∧ Ev (fun k => spec_meWindow.f k (x : Int) (n : Int)) (s, [v]) := by
  obtain ⟨l, v, hg, hx, _, h40, e1, e3⟩ := window_res x n h0 (by omega)
  have hl := kS_len 1 l [v]
  have hG := kept_goodW hg (by rw [hx]; exact h0) (Nat.le_trans hl (h40 hn))
  rw [toldP_good hG] at e1
  exact ⟨kS 1 l [v], pl 1 (us 1 l [v]) v, hG, by rw [ex_kept hg, hx], e1, e3⟩
theorem sli_good (x n : Nat) (h0 : 1 ≤ (x : Int) ∧ (x : Int) ≤ 1000000) (hn : 2 ≤ n ∧ n ≤ 3) : ∃ s v, Good 1 s [v] ∧ ex s v = (x : Int) ∧ Ev (fun k => impl_SlidingPlan.f k (x : Int) (n : Int)) (1, s, [v], true) ∧ Ev (fun k => spec_meSliding.f k (x : Int) (n : Int)) (s, [v]) := by
  obtain ⟨l, v, hg, hx, _, h40, e1, e3⟩ := sliding_res x n h0 (by omega)
  have hl := kS_len 1 l [v]
  have hG := kept_goodW hg (by rw [hx]; exact h0) (Nat.le_trans hl (h40 hn))
  rw [toldP_good hG] at e1
  exact ⟨kS 1 l [v], pl 1 (us 1 l [v]) v, hG, by rw [ex_kept hg, hx], e1, e3⟩
theorem bin_all (x : Nat) (h0 : 1 ≤ (x : Int) ∧ (x : Int) ≤ 1000000) : Good 1 (bin x).1 [(bin x).2] ∧ ex (bin x).1 (bin x).2 = (x : Int) ∧ (bin x).1.length + 2 = Lib.bitLen x + ds (Lib.bitLen x) x ∧ Ev (fun k => impl_BinaryPlan.f k (x : Int)) (1, (bin x).1, [(bin x).2], true) ∧ Ev (fun k => spec_meBinary.f k (x : Int)) ((bin x).1, [(bin x).2]) := by
  obtain ⟨l, v, hg, hx, hb, _⟩ := window_res x 1 h0 ⟨by decide, by decide⟩
  have e := hb rfl
  have hch := bin_ch x
  have hL2 : Lib.bitLen x ≤ 20 := Lib.bitLen_le x 20 (by omega) (by omega)
  have hlen := bin_len x hL2
  have hbr := binary_res x h0
  have hbs := meBinary_ev x h0
  have hbc := bin_cost x (by omega)
  rw [← e] at hch hlen hbr hbs hbc ⊢
  have hk := ch_kept hg hch
  have hG := kept_goodW hg (by rw [hx]; exact h0) (by rw [hk.1]; simp only at hlen; omega)
  rw [hk.1, hk.2] at hG
  rw [toldP_good hG] at hbr
  exact ⟨hG, hx, hbc, hbr, hbs⟩
theorem fac_good (x : Nat) (h0 : 1 ≤ x ∧ x ≤ 1000000) : ∃ s v, Good 1 s [v] ∧ ex s v = (x : Int) ∧ Ev (fun k => impl_FactorPlan.f k (x : Int)) (1, s, [v], true) ∧ Ev (fun k => spec_meFactors.f k (x : Int)) (s, [v]) := by
  obtain ⟨s, v, f⟩ := Fc.fac x h0.1 h0.2
  have hl := Fc.len40 h0.2 f.size
  have hG : Good 1 s [v] := good_iff.1 (f.good h0.2)
  refine ⟨s, v, hG, ?_, f.implE, f.specE⟩
  have h1 := pw_one hG
  have h2 : pw 1 s [v] = [[Fc.at1 (Fc.g1 [1] s) v]] := by
    have hin := f.inb
    have hgl := Fc.g1_len [1] s
    unfold pw
    rw [Fc.exps_g1 s (by omega) f.form, List.map_cons, List.map_nil]
    congr 1
    unfold Fc.at1
    rw [List.getD_eq_getElem?_getD, List.getElem?_map, List.getD_eq_getElem?_getD, List.getElem?_eq_getElem (by rw [hgl]; simp; omega)]
    rfl
  rw [h1, f.top] at h2
  injection h2 with h3 _
  injection h3
/-! so many steps at least -/
theorem plans_no (a : Int) (h : ¬ (1 ≤ a ∧ a ≤ 1000000)) : Ev (fun k => impl_methodPlans.f k a) (0, [], [], 0, [], [], 0, [], [], 0, [], [], 0, [], [], 0, [], [], 0, [], [], false) := by
  have hn : impl_isNumber.f a = some false := by
    unfold impl_isNumber.f
    rw [in_eq]
    simp only [Option.bind_some]
    rw [decide_eq_false h]
  have hw : ∀ w : Int, impl_windowOk.f a w = some false := fun w => by
    unfold impl_windowOk.f
    rw [hn]
    rfl
  have e1 : Ev (fun k => impl_BinaryPlan.f k a) (0, [], [], false) := by
    unfold impl_BinaryPlan.f
    exact bind0 hn (neg (by simp) (ret _))
  have e2 : Ev (fun k => impl_RightPlan.f k a) (0, [], [], false) := by
    unfold impl_RightPlan.f
    exact bind0 hn (neg (by simp) (ret _))
  have e3 : ∀ w : Int, Ev (fun k => impl_WindowPlan.f k a w) (0, [], [], false) := fun w => by
    unfold impl_WindowPlan.f
    exact bind0 (hw w) (neg (by simp) (ret _))
  have e4 : ∀ w : Int, Ev (fun k => impl_SlidingPlan.f k a w) (0, [], [], false) := fun w => by
    unfold impl_SlidingPlan.f impl_WindowsOf.f
    exact bind (a := (([] : List Int), false)) (bind0 (hw w) (neg (by simp) (ret _))) (neg (by simp) (ret _))
  have e5 : Ev (fun k => impl_FactorPlan.f k a) (0, [], [], false) := by
    refine shift ?_
    simp only [impl_FactorPlan.f]
    exact bind0 hn (neg (by simp) (ret _))
  unfold impl_methodPlans.f
  exact bind e1 (bind e2 (bind (e3 2) (bind (e3 3) (bind (e4 2) (bind (e4 3) (bind e5 (neg (by simp) (ret _))))))))
/-- The shorter one of two plans, the first one if they are as long. -/
def bt (p q : List SStep × List Int) : List SStep × List Int := if q.1.length < p.1.length then q else p
theorem bt_or (p q : List SStep × List Int) : bt p q = p ∨ bt p q = q := by
  unfold bt
  split
  · exact .inr rfl
  · exact .inl rfl
theorem stepS {β : Type} (p q : List SStep × List Int) (K : List SStep × List Int → Option β) : ((if (q.1.length : Int) < (p.1.length : Int) then some (q.1, q.2) else some (p.1, p.2)).bind K) = K (bt p q) := by
  unfold bt
  by_cases c : q.1.length < p.1.length
  · rw [if_pos (by omega), if_pos c]
    rfl
  · rw [if_neg (by omega), if_neg c]
    rfl
theorem stepE {r : Int × List SStep × List Int × Bool} {K : List SStep × List Int → Nat → Option (Int × List SStep × List Int × Bool)} {a c : List SStep} {b d : List Int} (h : Ev (fun k => K ((bt (a, b) (c, d)).1, (bt (a, b) (c, d)).2) k) r) : Ev (fun k => (if (c.length : Int) < (a.length : Int) then some (c, d) else some (a, b)).bind fun z => K z k) r := by
  have e : ∀ k, ((if (c.length : Int) < (a.length : Int) then some (c, d) else some (a, b)).bind fun z => K z k) = K ((bt (a, b) (c, d)).1, (bt (a, b) (c, d)).2) k := fun k => stepS (a, b) (c, d) (fun z => K z k)
  simp only [e]
  exact h
theorem stepI {β : Type} (p q : List SStep × List Int) (hp : p.1.length ≤ 100000) (hq : q.1.length ≤ 100000) (K : Int × List SStep × List Int → Option β) : (((impl_BestPlan_1.f 1 q.1 q.2 1 p.1 p.2).bind fun _ => if w64 ((q.1.length : Int) - (p.1.length : Int)) < 0 then some ((1 : Int), q.1, q.2) else some (1, p.1, p.2)).bind K) = K (1, (bt p q).1, (bt p q).2) := by
  unfold impl_BestPlan_1.f bt
  rw [Option.bind_some, zas (by omega)]
  by_cases c : q.1.length < p.1.length
  · rw [if_pos (by omega), if_pos c]
    rfl
  · rw [if_neg (by omega), if_neg c]
    rfl
/-- The first one of the shortest of seven plans. -/
def best (p0 p1 p2 p3 p4 p5 p6 : List SStep × List Int) : List SStep × List Int := bt (bt (bt (bt (bt (bt p0 p1) p2) p3) p4) p5) p6
theorem best_all {p0 p1 p2 p3 p4 p5 p6 : List SStep × List Int} {Q : List SStep × List Int → Prop} (h0 : Q p0) (h1 : Q p1) (h2 : Q p2) (h3 : Q p3) (h4 : Q p4) (h5 : Q p5) (h6 : Q p6) : Q (best p0 p1 p2 p3 p4 p5 p6) := by
  have key : ∀ p q, Q p → Q q → Q (bt p q) := fun p q hp hq => by
    rcases bt_or p q with e | e <;> rw [e] <;> assumption
  exact key _ _ (key _ _ (key _ _ (key _ _ (key _ _ (key _ _ h0 h1) h2) h3) h4) h5) h6
set_option maxHeartbeats 2000000 in
theorem minFunc_eq (p0 p1 p2 p3 p4 p5 p6 : List SStep × List Int) (h0 : p0.1.length ≤ 100000) (h1 : p1.1.length ≤ 100000) (h2 : p2.1.length ≤ 100000) (h3 : p3.1.length ≤ 100000) (h4 : p4.1.length ≤ 100000) (h5 : p5.1.length ≤ 100000) (h6 : p6.1.length ≤ 100000) :
    slices_MinFunc_impl_Plan_impl_Plan.f 1 p0.1 p0.2 1 p1.1 p1.2 1 p2.1 p2.2 1 p3.1 p3.2 1 p4.1 p4.2 1 p5.1 p5.2 1 p6.1 p6.2 = some (1, (best p0 p1 p2 p3 p4 p5 p6).1, (best p0 p1 p2 p3 p4 p5 p6).2) := by
  have key : ∀ p q : List SStep × List Int, p.1.length ≤ 100000 → q.1.length ≤ 100000 → (bt p q).1.length ≤ 100000 := fun p q hp hq => by
    rcases bt_or p q with e | e <;> rw [e] <;> assumption
  have k1 := key _ _ h0 h1
  have k2 := key _ _ k1 h2
  have k3 := key _ _ k2 h3
  have k4 := key _ _ k3 h4
  have k5 := key _ _ k4 h5
  unfold slices_MinFunc_impl_Plan_impl_Plan.f
  refine (stepI p0 p1 h0 h1 _).trans ?_
  refine (stepI _ p2 k1 h2 _).trans ?_
  refine (stepI _ p3 k2 h3 _).trans ?_
  refine (stepI _ p4 k3 h4 _).trans ?_
  refine (stepI _ p5 k4 h5 _).trans ?_
  exact stepI _ p6 k5 h6 _
set_option maxHeartbeats 4000000 in
theorem best_both (a : Int) : ∃ (s : List SStep) (o : List Int) (b : Bool), Ev (fun k => impl_BestPlan.f k a) (if b then (1, s, o, true) else (0, [], [], false)) ∧ Ev (fun k => spec_BestPlan.f k a) (if b then (1, s, o, true) else (0, [], [], false)) ∧ s.length ≤ 100 ∧ o.length ≤ 100 := by
  have hch : spec_chNumber.f a = some (decide (1 ≤ a ∧ a ≤ 1000000)) := by
    unfold spec_chNumber.f
    rw [l1In_eq]
    rfl
  by_cases h0 : 1 ≤ a ∧ a ≤ 1000000
  · obtain ⟨x, rfl⟩ := Int.eq_ofNat_of_zero_le (show 0 ≤ a by omega)
    rw [decide_eq_true h0] at hch
    obtain ⟨bG, _, _, b1, b2⟩ := bin_all x h0
    obtain ⟨rl, rr, rG, _, _, r1, r2⟩ := right_res x h0
    obtain ⟨s2, v2, w2G, _, w21, w22⟩ := win_good x 2 h0 (by omega)
    obtain ⟨s3, v3, w3G, _, w31, w32⟩ := win_good x 3 h0 (by omega)
    obtain ⟨t2, u2, x2G, _, x21, x22⟩ := sli_good x 2 h0 (by omega)
    obtain ⟨t3, u3, x3G, _, x31, x32⟩ := sli_good x 3 h0 (by omega)
    obtain ⟨fs, fv, fG, _, f1, f2⟩ := fac_good x (by omega)
    have m1 : Ev (fun k => impl_methodPlans.f k (x : Int)) (1, (bin x).1, [(bin x).2], 1, rl, [rr], 1, s2, [v2], 1, s3, [v3], 1, t2, [u2], 1, t3, [u3], 1, fs, [fv], true) := by
      unfold impl_methodPlans.f
      exact bind b1 (bind r1 (bind w21 (bind w31 (bind x21 (bind x31 (bind f1 (pos rfl (pos rfl (pos rfl (pos rfl (pos rfl (pos rfl (ret _)))))))))))))
    have m2 : Ev (fun k => spec_mePlans.f k (x : Int)) ((bin x).1, [(bin x).2], rl, [rr], s2, [v2], s3, [v3], t2, [u2], t3, [u3], fs, [fv]) := by
      unfold spec_mePlans.f
      exact bind b2 (bind r2 (bind w22 (bind w32 (bind x22 (bind x32 (bind f2 (ret _)))))))
    generalize hp0 : (bin x).1 = q0 at *
    generalize hp1 : [(bin x).2] = q1 at *
    have hG : Good 1 (best (q0, q1) (rl, [rr]) (s2, [v2]) (s3, [v3]) (t2, [u2]) (t3, [u3]) (fs, [fv])).1 (best (q0, q1) (rl, [rr]) (s2, [v2]) (s3, [v3]) (t2, [u2]) (t3, [u3]) (fs, [fv])).2 := best_all (Q := fun p => Good 1 p.1 p.2) bG rG w2G w3G x2G x3G fG
    have hm := minFunc_eq (q0, q1) (rl, [rr]) (s2, [v2]) (s3, [v3]) (t2, [u2]) (t3, [u3]) (fs, [fv]) (Nat.le_trans bG.stp (by omega)) (Nat.le_trans rG.stp (by omega)) (Nat.le_trans w2G.stp (by omega)) (Nat.le_trans w3G.stp (by omega)) (Nat.le_trans x2G.stp (by omega)) (Nat.le_trans x3G.stp (by omega)) (Nat.le_trans fG.stp (by omega))
    have hP := plIf_ev 1 (best (q0, q1) (rl, [rr]) (s2, [v2]) (s3, [v3]) (t2, [u2]) (t3, [u3]) (fs, [fv])).1 (best (q0, q1) (rl, [rr]) (s2, [v2]) (s3, [v3]) (t2, [u2]) (t3, [u3]) (fs, [fv])).2
    rw [toldP_good hG] at hP
    refine ⟨(best (q0, q1) (rl, [rr]) (s2, [v2]) (s3, [v3]) (t2, [u2]) (t3, [u3]) (fs, [fv])).1, (best (q0, q1) (rl, [rr]) (s2, [v2]) (s3, [v3]) (t2, [u2]) (t3, [u3]) (fs, [fv])).2, true, ?_, ?_, Nat.le_trans hG.stp (by omega), Nat.le_trans hG.out (by omega)⟩
    · unfold impl_BestPlan.f
      exact bind m1 (pos rfl (bind0 hm (ret _)))
    · unfold spec_BestPlan.f
      refine bind0 hch (pos rfl (bind b2 (bind m2 (bind (a := (q0, q1)) (neg (by omega) (ret _)) ?_))))
      exact stepE (stepE (stepE (stepE (stepE (stepE (bind hP (ret _)))))))
  · rw [decide_eq_false h0] at hch
    refine ⟨[], [], false, ?_, ?_, by simp, by simp⟩
    · unfold impl_BestPlan.f
      exact bind (plans_no a h0) (neg (by simp) (ret _))
    · unfold spec_BestPlan.f
      exact bind0 hch (neg (by simp) (ret _))
theorem FnExactBestPlan : laws_FnExactBestPlan.Pure := by
  intro a _
  refine some_of ?_
  unfold laws_FnExactBestPlan.f
  obtain ⟨s, o, b, h1, h2, hl1, hl2⟩ := best_both a
  cases b with
  | true =>
    have hq := eqPlan_refl 1 s o (by omega) (by omega)
    have hm := markPlan_ev 1 s o 1 (by omega) (by omega)
    have hh := heldPlan_ev 1 s.length o.length 1 (by omega) (by omega)
    exact bind h2 (bind h1 (bind hq (pos rfl (neg (by simp) (bind hm (bind hh (neg (by omega) (neg (by simp) (bind h1 (bind hq (pos rfl (neg (by simp) (bind hh (neg (by omega) (neg (by simp) (ret _))))))))))))))))
  | false =>
    have hq := eqPlan_refl 0 [] [] (by simp) (by simp)
    have hm := markPlan_ev 0 [] [] 1 (by simp) (by simp)
    have hh := heldPlan_ev 0 0 0 1 (by omega) (by omega)
    exact bind h2 (bind h1 (bind hq (pos rfl (neg (by simp) (bind hm (bind hh (neg (by omega) (neg (by simp) (bind h1 (bind hq (pos rfl (neg (by simp) (bind hh (neg (by omega) (neg (by simp) (ret _))))))))))))))))
end Go.Proofs.Ytiaohjciddbpoaa.Pure
