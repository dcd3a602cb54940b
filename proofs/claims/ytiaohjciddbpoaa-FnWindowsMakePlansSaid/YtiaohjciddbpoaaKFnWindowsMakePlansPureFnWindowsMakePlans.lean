/- Pure: Pwmlaw. -/
import Derived.Test.YtiaohjciddbpoaaKFnWindowsMakePlansPnd
set_option linter.unusedVariables false
set_option linter.unusedSimpArgs false
namespace Go.Proofs.Ytiaohjciddbpoaa.Pure
open Go.RowKit Go.Proofs.Ytiaohjciddbpoaa.E Go.Proofs.Ytiaohjciddbpoaa.H3 Go.Proofs.Ytiaohjciddbpoaa.Frame Go.Proofs.Ytiaohjciddbpoaa.Hand Go.Proofs.YtiaohjciddbpoaaW.PrintLast Go.Proofs.YtiaohjciddbpoaaW.PrintMore
open Go.Proofs.YtiaohjciddbpoaaW.PrintWords hiding mn mx
theorem bin_good (x : Nat) (h0 : 1 ≤ (x : Int) ∧ (x : Int) ≤ 1000000) : Gd 1 (bin x).1 [(bin x).2] ∧ ex (bin x).1 (bin x).2 = (x : Int) ∧ Good 1 (bin x).1 [(bin x).2] := by
  obtain ⟨l, v, hg, hx, hb, _⟩ := window_res x 1 h0 ⟨by decide, by decide⟩
  have e := hb rfl
  have hch := bin_ch x
  have hL2 : Lib.bitLen x ≤ 20 := Lib.bitLen_le x 20 (by omega) (by omega)
  have hlen := bin_len x hL2
  rw [← e] at hch hlen ⊢
  have hk := ch_kept hg hch
  have hG := kept_goodW hg (by rw [hx]; exact h0) (by rw [hk.1]; simp only at hlen; omega)
  rw [hk.1, hk.2] at hG
  exact ⟨hg, hx, hG⟩
def sumI (ys : List Int) : Int := (ys.map fun y => ((ds 20 y.toNat : Nat) : Int)).sum
theorem loop_l0 (n : Nat) (hn : 1 ≤ n ∧ n ≤ 5) (ys : List Int) (hy : ∀ y ∈ ys, (∃ j : Nat, y = 2 * (j : Int) + 1 ∧ j ≤ 15) ∧ y < ((2 ^ n : Nat) : Int)) (j s : Int) (hs : 0 ≤ s ∧ s + 20 * (ys.length : Int) ≤ 100000) : laws_FnWindowsMakePlans.l0 (n : Int) ys j s = some (.inr (s + sumI ys)) := by
  induction ys generalizing j s with
  | nil => simp [laws_FnWindowsMakePlans.l0, sumI]
  | cons y ys ih =>
    obtain ⟨⟨q, hq, hq2⟩, hlt⟩ := hy y List.mem_cons_self
    have hd := ds_le 20 y.toNat
    simp only [List.length_cons] at hs
    have hmod : y.tmod 2 = 1 := by
      rw [Int.tmod_eq_emod_of_nonneg (by omega)]
      omega
    simp only [laws_FnWindowsMakePlans.l0]
    rw [digitSum_eq (by omega), Option.bind_some]
    simp only [if_true]
    rw [hmod, if_neg (by decide), nn_nat, Option.bind_some, wide_of n hn, if_neg (by omega), zay (by omega), ih (fun z hz => hy z (List.mem_cons_of_mem _ hz)) _ _ (by omega)]
    unfold sumI
    rw [List.map_cons, List.sum_cons]
    congr 2
    omega
theorem sum_vals : ∀ W : List Swindow, (∀ w ∈ W, WOk w) → sumI (vals0 W) = ((sumW 20 W : Nat) : Int)
  | [], _ => rfl
  | w :: W, h => by
    have ih := sum_vals W (fun u hu => h u (List.mem_cons_of_mem _ hu))
    have e : sumW 20 (w :: W) = ds 20 w.f0.toNat + sumW 20 W := by unfold sumW; rw [List.map_cons, List.sum_cons]
    by_cases c : 0 < w.f0
    · have e2 : vals0 (w :: W) = w.f0 :: vals0 W := by
        unfold vals0
        rw [List.map_cons, List.filter_cons_of_pos (by simpa using c)]
      have e3 : sumI (w.f0 :: vals0 W) = ((ds 20 w.f0.toNat : Nat) : Int) + sumI (vals0 W) := by unfold sumI; rw [List.map_cons, List.sum_cons]
      rw [e2, e3, ih, e, Int.natCast_add]
    · have e2 : vals0 (w :: W) = vals0 W := by
        unfold vals0
        rw [List.map_cons, List.filter_cons_of_neg (by simpa using c)]
      have e4 : w.f0.toNat = 0 := by omega
      rw [e2, ih, e, e4, ds_zero]
      simp
set_option maxHeartbeats 4000000 in
theorem FnWindowsMakePlans : laws_FnWindowsMakePlans.Pure := by
  intro c1 c2 l1_ w1 l2_ w2
  refine some_of ?_
  unfold laws_FnWindowsMakePlans.f
  obtain ⟨b, hb1, hb2⟩ := big_eq c1 c2 l1_ l2_
  refine bind0 hb1 ?_
  cases b with
  | true => exact pos rfl (ret _)
  | false =>
    refine neg (by simp) ?_
    obtain ⟨i, n, e1⟩ := drawNum (byte_in w1) (hb2 rfl).1
    refine bind0 e1 ?_
    by_cases hok : (1 ≤ i ∧ i ≤ 1000000) ∧ (1 ≤ n ∧ n ≤ 5)
    · obtain ⟨h0, h1⟩ := hok
      obtain ⟨x, rfl⟩ := Int.eq_ofNat_of_zero_le (show 0 ≤ i by omega)
      obtain ⟨n, rfl⟩ := Int.eq_ofNat_of_zero_le (show 0 ≤ n by omega)
      obtain ⟨l, v, sg, sx, sb, si, ss⟩ := sliding_res x n h0 h1
      obtain ⟨l', v', wg, wx, wb, wi, ws⟩ := window_res x n h0 h1
      obtain ⟨W, oi, os, wok, wsum, wlen⟩ := windows_both x n h0 h1
      obtain ⟨bg, bx, bG⟩ := bin_good x h0
      have hbt : toldP 1 (bin x).1 [(bin x).2] = (1, (bin x).1, [(bin x).2], true) := by
        have gg : good 1 (bin x).1 [(bin x).2] = true := good_iff.2 bG
        unfold toldP
        rw [if_pos gg]
      have hbp := binary_res x h0
      rw [hbt] at hbp
      have hbc : Ev (fun k => impl_BinaryCost.f k (x : Int)) (((bin x).1.length : Int), true) := by
        unfold impl_BinaryCost.f
        exact bind hbp (ret _)
      have hvlen : (vals0 W).length ≤ W.length := by
        unfold vals0
        refine Nat.le_trans (List.length_filter_le _ _) ?_
        simp
      have hloop := loop_l0 n (by omega) (vals0 W) (fun y hy => by
        obtain ⟨hy1, hy2⟩ := List.mem_filter.1 hy
        obtain ⟨u, hu, rfl⟩ := List.mem_map.1 hy1
        have hp : 0 < u.f0 := of_decide_eq_true hy2
        exact ⟨(wok u hu).1.1.resolve_left (by omega), (wok u hu).2⟩) 0 0 (by omega)
      have hsum := sum_vals W (fun w hw => (wok w hw).1)
      rw [wsum] at hsum
      rw [hsum, Int.zero_add] at hloop
      have hds := digitSum_eq (y := (x : Int)) h0
      rw [Int.toNat_natCast] at hds
      have same := pSameInts_refl (vals0 W)
      -- how it ends
      have tail : ∀ (s s' : List SStep) (b b' : Bool), (n = 1 → b = true ∧ b' = true ∧ s.length = (bin x).1.length ∧ s'.length = (bin x).1.length) → Ev (fun k => (impl_WindowsOf.f k (x : Int) (n : Int)).bind fun (l93, b94) => (spec_WindowsOf.f k (x : Int) (n : Int)).bind fun (l98, b99) => if (b94 != b99) = true then (some false) else ((laws_pSameInts.f l93 l98).bind fun b104 => if b104 = true then (if b94 = true then ((laws_FnWindowsMakePlans.l0 (n : Int) l93 0 0).bind fun o_ => match o_ with | .inl r_ => some r_ | .inr i109 => (impl_DigitSum.f (x : Int)).bind fun (i121, b122) => (impl_BinaryCost.f k (x : Int)).bind fun (i124, b125) => if b122 = true then (if b125 = true then (if i109 = i121 then (if 1 < (n : Int) then (some true) else (if b = true then (if b' = true then (if (s.length : Int) = i124 then (some (decide ((s'.length : Int) = i124))) else (some false)) else (some false)) else (some false))) else (some false)) else (some false)) else (some false)) else (if b = true then (some false) else (some (!b')))) else (some false))) true := by
        intro s s' b b' hn1
        refine bind oi (bind os (neg (by simp) (bind0 same (pos rfl (pos rfl (bind0 hloop (bind0 hds (bind hbc (pos rfl (pos rfl (pos rfl ?_)))))))))))
        by_cases c : 1 < (n : Int)
        · exact pos c (ret _)
        · obtain ⟨q1, q2, q3, q4⟩ := hn1 (by omega)
          refine neg c (pos q1 (pos q2 (pos (by omega) ?_)))
          rw [decide_eq_true (by omega)]
          exact ret _
      -- windows of one digit
      have one : ∀ {l : List SStep} {v : Int}, Gd 1 l [v] → (n = 1 → (l, v) = bin x) → n = 1 → (kS 1 l [v]).length = (bin x).1.length ∧ (kS 1 l [v]).length ≤ 40 := fun {l v} hg hb hn => by
        have e := hb hn
        have hch := bin_ch x
        have hL2 : Lib.bitLen x ≤ 20 := Lib.bitLen_le x 20 (by omega) (by omega)
        have hlen := bin_len x hL2
        rw [← e] at hch hlen
        have hk := ch_kept hg hch
        rw [hk.1, ← e]
        simp only at hlen
        exact ⟨rfl, by omega⟩
      have so := one sg sb
      have wo := one wg wb
      rcases told_ends sg sx h0 with ⟨t1, k1⟩ | ⟨t1, p1⟩
      · rw [t1] at si ss
        rcases told_ends wg wx h0 with ⟨t2, k2⟩ | ⟨t2, p2⟩
        · rw [t2] at wi ws
          exact bind si (bind ss (neg (by simp) (bind0 (pSamePlan_refl 0 [] []) (pos rfl (bind wi (bind ws (bind (a := (Sum.inr () : Bool ⊕ Unit)) (neg (by simp) (bind0 (pSamePlan_refl 0 [] []) (pos rfl (neg (by simp) (neg (by simp) (ret _)))))) (tail _ _ _ _ (fun hn => absurd (so hn).2 (by omega))))))))))
        · rw [t2] at wi ws
          exact bind si (bind ss (neg (by simp) (bind0 (pSamePlan_refl 0 [] []) (pos rfl (bind wi (bind ws (bind (a := (Sum.inr () : Bool ⊕ Unit)) (neg (by simp) (bind0 (pSamePlan_refl _ _ _) (pos rfl (neg (by simp) (pos rfl (bind p2 (pos rfl (ret _)))))))) (tail _ _ _ _ (fun hn => absurd (so hn).2 (by omega))))))))))
      · rw [t1] at si ss
        rcases told_ends wg wx h0 with ⟨t2, k2⟩ | ⟨t2, p2⟩
        · rw [t2] at wi ws
          exact bind si (bind ss (neg (by simp) (bind0 (pSamePlan_refl _ _ _) (pos rfl (bind wi (bind ws (bind (a := (Sum.inr () : Bool ⊕ Unit)) (neg (by simp) (bind0 (pSamePlan_refl 0 [] []) (pos rfl (pos rfl (bind p1 (pos rfl (neg (by simp) (ret _)))))))) (tail _ _ _ _ (fun hn => absurd (wo hn).2 (by omega))))))))))
        · rw [t2] at wi ws
          exact bind si (bind ss (neg (by simp) (bind0 (pSamePlan_refl _ _ _) (pos rfl (bind wi (bind ws (bind (a := (Sum.inr () : Bool ⊕ Unit)) (neg (by simp) (bind0 (pSamePlan_refl _ _ _) (pos rfl (pos rfl (bind p1 (pos rfl (pos rfl (bind p2 (pos rfl (ret _)))))))))) (tail _ _ _ _ (fun hn => ⟨rfl, rfl, (so hn).1, (wo hn).1⟩)))))))))
    · obtain ⟨o1, o2, s1, s2, v1, v2⟩ := windows_no i n (by
        by_cases c : 1 ≤ i ∧ i ≤ 1000000
        · exact .inr fun d => hok ⟨c, d⟩
        · exact .inl c)
      exact bind s1 (bind s2 (neg (by simp) (bind0 (pSamePlan_refl 0 [] []) (pos rfl (bind v1 (bind v2 (bind (a := (Sum.inr () : Bool ⊕ Unit)) (neg (by simp) (bind0 (pSamePlan_refl 0 [] []) (pos rfl (neg (by simp) (neg (by simp) (ret _)))))) (bind o1 (bind o2 (neg (by simp) (bind0 (pSameInts_refl []) (pos rfl (neg (by simp) (neg (by simp) (ret _)))))))))))))))
end Go.Proofs.Ytiaohjciddbpoaa.Pure
