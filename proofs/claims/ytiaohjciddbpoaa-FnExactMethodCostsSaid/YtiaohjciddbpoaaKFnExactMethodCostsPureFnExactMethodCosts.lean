/- Pure: Pms, Pmc. -/
import Derived.Test.YtiaohjciddbpoaaKFnExactMethodCostsPnd
import Derived.Test.YtiaohjciddbpoaaKFnExactMethodCostsPfq
set_option linter.unusedVariables false
set_option linter.unusedSimpArgs false
namespace Go.Proofs.Ytiaohjciddbpoaa.Pure
open Go.RowKit Go.Proofs.Ytiaohjciddbpoaa.E Go.Proofs.Ytiaohjciddbpoaa.H8 Go.Proofs.Ytiaohjciddbpoaa.Frame Go.Proofs.Ytiaohjciddbpoaa.Hand Go.Proofs.YtiaohjciddbpoaaW.PrintLast Go.Proofs.YtiaohjciddbpoaaW.PrintMore
open Go.Proofs.YtiaohjciddbpoaaW.PrintWords hiding mn mx
theorem win_good (x n : Nat) (h0 : 1 ≤ (x : Int) ∧ (x : Int) ≤ 1000000) (hn : 2 ≤ n ∧ n ≤ 3) : ∃ s v, Good 1 s [v] ∧ ex s v = (x : Int) ∧ Ev (fun k => impl_WindowPlan.f k (x : Int) (n : Int)) (1, s, [v], true) ∧ Ev (fun k => spec_meWindow.f k (x : Int) (n : Int)) (s, [v]) := by
 obtain ⟨l, v, hg, hx, _, h40, e1, e3⟩ := window_res x n h0 (by omega)
 have hl := kS_len 1 l [v]
 have hG := kept_goodW hg (by rw [hx]; exact h0) (Nat.le_trans hl (h40 hn))
 rw [toldP_good hG] at e1
 exact ⟨kS 1 l [v], pl 1 (us 1 l [v]) v, hG, by rw [ex_kept hg, hx], e1, e3⟩
theorem sli_good (x n : Nat) (h0 : 1 ≤ (x : Int) ∧ (x : Int) ≤ 1000000) (hn : 2 ≤ n ∧ n ≤ 3) : ∃ s v, Good 1 s [v] ∧ ex s v = (x : Int) ∧ Ev (fun k => impl_SlidingPlan.f k (x : Int) (n : Int)) (1, s, [v], true) ∧ Ev (fun k => spec_meSliding.f k (x : Int) (n : Int)) (s, [v]) := by
 obtain ⟨l, v, hg, hx, _, h40, e1, e3⟩ := sliding_res x n h0 (by omega)
 have hl := kS_len 1 l [v]
 have hG := kept_goodW hg (by rw [hx]; exact h0) (Nat.le_trans hl (h40 hn))
 rw [toldP_good hG] at e1
 exact ⟨kS 1 l [v], pl 1 (us 1 l [v]) v, hG, by rw [ex_kept hg, hx], e1, e3⟩
theorem bin_all (x : Nat) (h0 : 1 ≤ (x : Int) ∧ (x : Int) ≤ 1000000) : Good 1 (bin x).1 [(bin x).2] ∧ ex (bin x).1 (bin x).2 = (x : Int) ∧ (bin x).1.length + 2 = Lib.bitLen x + ds (Lib.bitLen x) x ∧ Ev (fun k => impl_BinaryPlan.f k (x : Int)) (1, (bin x).1, [(bin x).2], true) ∧ Ev (fun k => spec_meBinary.f k (x : Int)) ((bin x).1, [(bin x).2]) := by
 obtain ⟨l, v, hg, hx, hb, _⟩ := window_res x 1 h0 ⟨by decide, by decide⟩
 have e := hb rfl
 have hch := bin_ch x
 have hL2 : Lib.bitLen x ≤ 20 := Lib.bitLen_le x 20 (by omega) (by omega)
 have hlen := bin_len x hL2
 have hbr := binary_res x h0
 have hbs := meBinary_ev x h0
 have hbc := bin_cost x (by omega)
 rw [← e] at hch hlen hbr hbs hbc ⊢
 have hk := ch_kept hg hch
 have hG := kept_goodW hg (by rw [hx]; exact h0) (by rw [hk.1]; simp only at hlen; omega)
 rw [hk.1, hk.2] at hG
 rw [toldP_good hG] at hbr
 exact ⟨hG, hx, hbc, hbr, hbs⟩
theorem fac_good (x : Nat) (h0 : 1 ≤ x ∧ x ≤ 1000000) : ∃ s v, Good 1 s [v] ∧ ex s v = (x : Int) ∧ Ev (fun k => impl_FactorPlan.f k (x : Int)) (1, s, [v], true) ∧ Ev (fun k => spec_meFactors.f k (x : Int)) (s, [v]) := by
 obtain ⟨s, v, f⟩ := Fc.fac x h0.1 h0.2
 have hl := Fc.len40 h0.2 f.size
 have hG : Good 1 s [v] := good_iff.1 (f.good h0.2)
 refine ⟨s, v, hG, ?_, f.implE, f.specE⟩
 have h1 := pw_one hG
 have h2 : pw 1 s [v] = [[Fc.at1 (Fc.g1 [1] s) v]] := by
  have hin := f.inb
  have hgl := Fc.g1_len [1] s
  unfold pw
  rw [Fc.exps_g1 s (by omega) f.form, List.map_cons, List.map_nil]
  congr 1
  unfold Fc.at1
  rw [List.getD_eq_getElem?_getD, List.getElem?_map, List.getD_eq_getElem?_getD, List.getElem?_eq_getElem (by rw [hgl]; simp; omega)]
  rfl
 rw [h1, f.top] at h2
 injection h2 with h3 _
 injection h3
/-! so many steps at least -/
theorem plans_no (a : Int) (h : ¬ (1 ≤ a ∧ a ≤ 1000000)) : Ev (fun k => impl_methodPlans.f k a) (0, [], [], 0, [], [], 0, [], [], 0, [], [], 0, [], [], 0, [], [], 0, [], [], false) := by
 have hn : impl_isNumber.f a = some false := by
  unfold impl_isNumber.f
  rw [in_eq]
  simp only [Option.bind_some]
  rw [decide_eq_false h]
 have hw : ∀ w : Int, impl_windowOk.f a w = some false := fun w => by
  unfold impl_windowOk.f
  rw [hn]
  rfl
 have e1 : Ev (fun k => impl_BinaryPlan.f k a) (0, [], [], false) := by
  unfold impl_BinaryPlan.f
  exact bind0 hn (neg (by simp) (ret _))
 have e2 : Ev (fun k => impl_RightPlan.f k a) (0, [], [], false) := by
  unfold impl_RightPlan.f
  exact bind0 hn (neg (by simp) (ret _))
 have e3 : ∀ w : Int, Ev (fun k => impl_WindowPlan.f k a w) (0, [], [], false) := fun w => by
  unfold impl_WindowPlan.f
  exact bind0 (hw w) (neg (by simp) (ret _))
 have e4 : ∀ w : Int, Ev (fun k => impl_SlidingPlan.f k a w) (0, [], [], false) := fun w => by
  unfold impl_SlidingPlan.f impl_WindowsOf.f
  exact bind (a := (([] : List Int), false)) (bind0 (hw w) (neg (by simp) (ret _))) (neg (by simp) (ret _))
 have e5 : Ev (fun k => impl_FactorPlan.f k a) (0, [], [], false) := by
  refine shift ?_
  simp only [impl_FactorPlan.f]
  exact bind0 hn (neg (by simp) (ret _))
 unfold impl_methodPlans.f
 exact bind e1 (bind e2 (bind (e3 2) (bind (e3 3) (bind (e4 2) (bind (e4 3) (bind e5 (neg (by simp) (ret _))))))))
theorem costs_both (a : Int) : ∃ l b, Ev (fun k => impl_MethodCosts.f k a) (l, b) ∧ Ev (fun k => spec_MethodCosts.f k a) (l, b) ∧ l.length ≤ 10 := by
 have hch : spec_chNumber.f a = some (decide (1 ≤ a ∧ a ≤ 1000000)) := by
  unfold spec_chNumber.f
  rw [l1In_eq]
  rfl
 unfold impl_MethodCosts.f spec_MethodCosts.f
 by_cases h0 : 1 ≤ a ∧ a ≤ 1000000
 ·obtain ⟨x, rfl⟩ := Int.eq_ofNat_of_zero_le (show 0 ≤ a by omega)
  rw [decide_eq_true h0] at hch
  obtain ⟨_, _, _, b1, b2⟩ := bin_all x h0
  obtain ⟨rl, rr, _, _, _, r1, r2⟩ := right_res x h0
  obtain ⟨s2, v2, _, _, w21, w22⟩ := win_good x 2 h0 (by omega)
  obtain ⟨s3, v3, _, _, w31, w32⟩ := win_good x 3 h0 (by omega)
  obtain ⟨t2, u2, _, _, x21, x22⟩ := sli_good x 2 h0 (by omega)
  obtain ⟨t3, u3, _, _, x31, x32⟩ := sli_good x 3 h0 (by omega)
  obtain ⟨fs, fv, _, _, f1, f2⟩ := fac_good x (by omega)
  have m1 : Ev (fun k => impl_methodPlans.f k (x : Int)) (1, (bin x).1, [(bin x).2], 1, rl, [rr], 1, s2, [v2], 1, s3, [v3], 1, t2, [u2], 1, t3, [u3], 1, fs, [fv], true) := by
   unfold impl_methodPlans.f
   exact bind b1 (bind r1 (bind w21 (bind w31 (bind x21 (bind x31 (bind f1 (pos rfl (pos rfl (pos rfl (pos rfl (pos rfl (pos rfl (ret _)))))))))))))
  have m2 : Ev (fun k => spec_mePlans.f k (x : Int)) ((bin x).1, [(bin x).2], rl, [rr], s2, [v2], s3, [v3], t2, [u2], t3, [u3], fs, [fv]) := by
   unfold spec_mePlans.f
   exact bind b2 (bind r2 (bind w22 (bind w32 (bind x22 (bind x32 (bind f2 (ret _)))))))
  refine ⟨[((bin x).1.length : Int), (rl.length : Int), (s2.length : Int), (s3.length : Int), (t2.length : Int), (t3.length : Int), (fs.length : Int)], true, bind m1 (pos rfl ?_), bind0 hch (pos rfl (bind m2 ?_)), by simp⟩
  ·exact bind0 (ap_ok (by simp)) (bind0 (ap_ok (by simp)) (bind0 (ap_ok (by simp)) (bind0 (ap_ok (by simp)) (bind0 (ap_ok (by simp)) (bind0 (ap_ok (by simp)) (bind0 (ap_ok (by simp)) (ret _)))))))
  ·exact bind0 (ap_ok (by simp)) (bind0 (ap_ok (by simp)) (bind0 (ap_ok (by simp)) (bind0 (ap_ok (by simp)) (bind0 (ap_ok (by simp)) (bind0 (ap_ok (by simp)) (bind0 (ap_ok (by simp)) (ret _)))))))
 ·rw [decide_eq_false h0] at hch
  exact ⟨[], false, bind (plans_no a h0) (neg (by simp) (ret _)), bind0 hch (neg (by simp) (ret _)), by simp⟩
theorem FnExactMethodCosts : laws_FnExactMethodCosts.Pure := by
 intro a _
 refine some_of ?_
 unfold laws_FnExactMethodCosts.f
 obtain ⟨l, b, e1, e2, hl⟩ := costs_both a
 have hq := eqIntS_refl l (by omega)
 have hm := markIntS_ev l 1 (by omega) (by omega)
 have hh := heldIntS_ev l.length 1 (by omega) (by omega)
 exact bind e2 (bind e1 (bind hq (pos rfl (neg (by simp) (bind hm (bind hh (neg (by omega) (neg (by simp) (bind e1 (bind hq (pos rfl (neg (by simp) (bind hh (neg (by omega) (neg (by simp) (ret _))))))))))))))))
end Go.Proofs.Ytiaohjciddbpoaa.Pure
