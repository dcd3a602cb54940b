/- Pure: ReorderSteps on both sides; counts and depths of a plan. -/
import Derived.Test.YtoegbcbdiggbjaaKFnReorderedPlansPreord
import Derived.Test.YtoegbcbdiggbjaaKFnReorderedPlansPpw
set_option linter.unusedVariables false
set_option linter.unusedSimpArgs false
namespace Go.Proofs.Ytoegbcbdiggbjaa.Pure
open Go.RowKit Go.Proofs.Ytoegbcbdiggbjaa.E Go.Proofs.Ytoegbcbdiggbjaa.RO Go.Proofs.Ytoegbcbdiggbjaa.Frame Go.Proofs.YtoegbcbdiggbjaaW.PrintLast Go.Proofs.YtoegbcbdiggbjaaW.PrintMore
open Go.Proofs.YtoegbcbdiggbjaaW.PrintWords hiding mn mx
theorem apm_ok {xs : List Int} {n : Nat} (h : xs.length + n ≤ 1000000) : apm xs (n : Int) = some (xs ++ List.replicate n 0) := by
  unfold apm
  rw [if_pos (by omega), Int.toNat_natCast]
theorem reo_l0 {I n : Nat} {l : List Int} (h : IsO n l) (hI : I ≤ 1000) (hn : n ≤ 1000) : ∀ (d j : Nat) (L : List Int), j + d = n → L.length = I + n → (∀ v : Int, 0 ≤ v → v < (I : Int) → rg L v = v) → (∀ (m : Nat) (x : Int), m < j → l[m]? = some x → rg L ((I : Int) + x) = (I : Int) + (m : Int)) → ∃ L', impl_ReorderSteps.l0 (I : Int) (l.drop j) L (j : Int) = some L' ∧ L'.length = I + n ∧ ∀ v : Int, 0 ≤ v → v < ((I + n : Nat) : Int) → rg L' v = og I l v := by
  intro d
  induction d with
  | zero =>
    intro j L hj hL h1 h2
    refine ⟨L, ?_, hL, fun v v0 v1 => ?_⟩
    · rw [List.drop_of_length_le (by rw [h.1]; omega)]
      rfl
    · by_cases c : v < (I : Int)
      · rw [og_low c, h1 v v0 c]
      · obtain ⟨k, hk, p, e⟩ := og_high h I (by omega) v1
        have := h2 k _ (by omega) p
        rw [show (I : Int) + (v - (I : Int)) = v by omega] at this
        rw [e, this]
  | succ d ih =>
    intro j L hj hL h1 h2
    have hjl : j < l.length := by rw [h.1]; omega
    obtain ⟨x, hx, e⟩ := h.at (k := j) (by omega)
    have ex : l[j] = (x : Int) := by
      rw [List.getElem?_eq_getElem hjl] at e
      exact Option.some.inj e
    rw [List.drop_eq_getElem_cons hjl, ex]
    simp only [impl_ReorderSteps.l0]
    rw [zaz (x := (I : Int) + (x : Int)) (by omega), rg_gt (by omega) (by omega), Option.bind_some, zaz (by omega), rg_st (by omega) (by omega), Option.bind_some, show (j : Int) + 1 = ((j + 1 : Nat) : Int) by omega]
    refine ih (j + 1) _ (by omega) (by rw [List.length_set]; exact hL) ?_ ?_
    · intro v v0 v1
      rw [rg_set v0 (by omega) (by omega), if_neg (by omega)]
      exact h1 v v0 v1
    · intro m z hm hz
      have hzr := h.2.1 z (List.mem_of_getElem? hz)
      rw [rg_set (by omega) (by omega) (by omega)]
      by_cases c : m = j
      · subst c
        rw [e] at hz
        obtain rfl := Option.some.inj hz
        rw [if_pos rfl]
      · have a1 := idx_nd h.2.2 e 0
        have a2 := idx_nd h.2.2 hz 0
        rw [if_neg (fun q => by
          have : (x : Int) = z := by omega
          subst this
          omega)]
        exact h2 m z (by omega) hz
theorem reo_l1 {I : Nat} {s : List SStep} {l L : List Int} (hs : Ok I s) (hL : L.length = I + s.length) (hg : ∀ v : Int, 0 ≤ v → v < ((I + s.length : Nat) : Int) → rg L v = og I l v) (ys : List Int) (acc : List SStep) (j : Int) (hy : ∀ y ∈ ys, 0 ≤ y ∧ y < (s.length : Int)) (hb : acc.length + ys.length ≤ 100000) : impl_ReorderSteps.l1 s L ys acc j = some (acc ++ ys.map fun i => rSt I l (s.getD i.toNat ⟨0, 0⟩)) := by
  induction ys generalizing acc j with
  | nil => simp [impl_ReorderSteps.l1]
  | cons y ys ih =>
    obtain ⟨y0, y1⟩ := hy y List.mem_cons_self
    obtain ⟨m, rfl⟩ := Int.eq_ofNat_of_zero_le y0
    have hm : m < s.length := by omega
    simp only [List.length_cons] at hb
    have q := hs.at (List.getElem?_eq_getElem hm)
    simp only [impl_ReorderSteps.l1]
    rw [gt_nat hm, Option.bind_some, rg_gt q.1 (by omega), Option.bind_some, Option.bind_some, rg_gt (by omega) (by omega), Option.bind_some]
    unfold impl_step.f
    rw [Option.bind_some, ap_ok (by simp; omega), Option.bind_some, ih _ _ (fun z hz => hy z (List.mem_cons_of_mem _ hz)) (by rw [List.length_append, List.length_singleton]; omega), hg _ q.1 (by omega), hg _ (by omega) (by omega)]
    simp [rSt, hm]
theorem onum_eq {I n : Nat} {s : List SStep} {o l : List Int} (h : IsO n l) (hI : I ≤ 1000) (hn : n ≤ 1000) {v : Int} (h0 : 0 ≤ v) (h1 : v < ((I + n : Nat) : Int)) : spec_plNumber.f (I : Int) s o l v = some (og I l v) := by
  unfold spec_plNumber.f
  by_cases c : v < (I : Int)
  · rw [if_pos c, og_low c]
  · obtain ⟨k, hk, p, e⟩ := og_high h I (by omega) h1
    rw [if_neg c, zaz (x := v - (I : Int)) (by omega), place_eq, Option.bind_some, idx_nd h.2.2 p, zaz (by omega), e]
    congr 1
    omega
theorem okeep_l0 {I : Nat} {s : List SStep} {o l : List Int} (h : IsO s.length l) (hI : I ≤ 1000) (hn : s.length ≤ 1000) (hs : Ok I s) (ys : List Int) (acc : List SStep) (j : Int) (hy : ∀ y ∈ ys, 0 ≤ y ∧ y < (s.length : Int)) (hb : acc.length + ys.length ≤ 100000) : spec_plKeep.l0 (I : Int) s o l ys acc j = some (acc ++ ys.map fun i => rSt I l (s.getD i.toNat ⟨0, 0⟩)) := by
  induction ys generalizing acc j with
  | nil => simp [spec_plKeep.l0]
  | cons y ys ih =>
    obtain ⟨y0, y1⟩ := hy y List.mem_cons_self
    obtain ⟨m, rfl⟩ := Int.eq_ofNat_of_zero_le y0
    have hm : m < s.length := by omega
    simp only [List.length_cons] at hb
    have q := hs.at (List.getElem?_eq_getElem hm)
    simp only [spec_plKeep.l0]
    rw [gt_nat hm, Option.bind_some, onum_eq h hI hn q.1 (by omega), Option.bind_some, onum_eq h hI hn (by omega) (by omega), Option.bind_some, plStep_eq, Option.bind_some, ap_ok (by simp; omega), Option.bind_some, ih _ _ (fun z hz => hy z (List.mem_cons_of_mem _ hz)) (by rw [List.length_append, List.length_singleton]; omega)]
    simp [rSt, hm]
theorem okeep_l1 {I n : Nat} {s : List SStep} {o l : List Int} (h : IsO n l) (hI : I ≤ 1000) (hn : n ≤ 1000) (ys acc : List Int) (j : Int) (hy : ∀ y ∈ ys, 0 ≤ y ∧ y < ((I + n : Nat) : Int)) (hb : acc.length + ys.length ≤ 100000) : spec_plKeep.l1 (I : Int) s o l ys acc j = some (acc ++ ys.map (og I l)) := by
  induction ys generalizing acc j with
  | nil => simp [spec_plKeep.l1]
  | cons x xs ih =>
    obtain ⟨x0, x1⟩ := hy x List.mem_cons_self
    simp only [List.length_cons] at hb
    simp only [spec_plKeep.l1]
    rw [onum_eq h hI hn x0 x1, Option.bind_some, ap_ok (by simp; omega), Option.bind_some, ih _ _ (fun z hz => hy z (List.mem_cons_of_mem _ hz)) (by rw [List.length_append, List.length_singleton]; omega)]
    simp
/-! is it an order? -/
def gd1 (I : Nat) (s : List SStep) (p : List Int) (y : Int) : Bool :=
  decide (0 ≤ y ∧ y < (s.length : Int)) && (!decide (y ∈ p) && ((decide ((s.getD y.toNat ⟨0, 0⟩).f0 < (I : Int)) || decide ((s.getD y.toNat ⟨0, 0⟩).f0 - (I : Int) ∈ p)) && (decide ((s.getD y.toNat ⟨0, 0⟩).f1 < (I : Int)) || decide ((s.getD y.toNat ⟨0, 0⟩).f1 - (I : Int) ∈ p))))
def chk (I : Nat) (s : List SStep) : List Int → List Int → Bool
  | _, [] => true
  | p, y :: ys => gd1 I s p y && chk I s (p ++ [y]) ys
theorem chk_iff (I : Nat) (s : List SStep) (l : List Int) (ys p : List Int) (hl : l = p ++ ys) : chk I s p ys = true ↔ ∀ (k : Nat) (y : Int), p.length ≤ k → l[k]? = some y → gd1 I s (l.take k) y = true := by
  induction ys generalizing p with
  | nil =>
    refine ⟨fun _ k y hk hy => ?_, fun _ => rfl⟩
    have := (List.getElem?_eq_some_iff.1 hy).1
    rw [hl, List.append_nil] at this
    omega
  | cons y ys ih =>
    have hl' : l = (p ++ [y]) ++ ys := by rw [hl]; simp
    have e0 : l[p.length]? = some y := by rw [hl, List.getElem?_append_right (Nat.le_refl _), Nat.sub_self]; rfl
    have t0 : l.take p.length = p := by rw [hl, List.take_left]
    simp only [chk, Bool.and_eq_true]
    rw [ih (p ++ [y]) hl']
    constructor
    · rintro ⟨h1, h2⟩ k z hk hz
      by_cases c : k = p.length
      · subst c
        rw [e0] at hz
        obtain rfl := Option.some.inj hz
        rw [t0]
        exact h1
      · exact h2 k z (by rw [List.length_append, List.length_singleton]; omega) hz
    · intro h
      refine ⟨?_, fun k z hk hz => h k z (by rw [List.length_append] at hk; omega) hz⟩
      have := h p.length y (Nat.le_refl _) e0
      rwa [t0] at this
theorem chk_order {I : Nat} {s : List SStep} {l : List Int} (hs : Ok I s) (hl : l.length = s.length) : chk I s [] l = true ↔ IsO s.length l ∧ Nd I s l := by
  rw [chk_iff I s l l [] rfl]
  constructor
  · intro h
    have h' : ∀ (k : Nat) (y : Int), l[k]? = some y → gd1 I s (l.take k) y = true := fun k y hy => h k y (Nat.zero_le _) hy
    simp only [gd1, Bool.and_eq_true, Bool.or_eq_true, Bool.not_eq_true', decide_eq_true_eq, decide_eq_false_iff_not] at h'
    refine ⟨⟨hl, fun x hx => ?_, ?_⟩, ?_⟩
    · obtain ⟨k, hk⟩ := List.mem_iff_getElem?.1 hx
      exact (h' k x hk).1
    · refine List.pairwise_iff_getElem.2 fun i j hi hj hij e => ?_
      have := (h' j l[j] (List.getElem?_eq_getElem hj)).2.1
      refine this (List.mem_iff_getElem?.2 ⟨i, ?_⟩)
      rw [List.getElem?_take, if_pos hij, List.getElem?_eq_getElem hi, e]
    · intro k x y hk hy
      have := (h' k _ hk).2.2
      rw [Int.toNat_natCast, List.getD_eq_getElem?_getD, hy] at this
      exact this
  · rintro ⟨hO, hn⟩ k y _ hy
    have hr := hO.2.1 y (List.mem_of_getElem? hy)
    obtain ⟨x, rfl⟩ := Int.eq_ofNat_of_zero_le hr.1
    have hx := List.getElem?_eq_getElem (show x < s.length by omega)
    have hd := hn k x _ hy hx
    simp only [gd1, Bool.and_eq_true, Bool.or_eq_true, Bool.not_eq_true', decide_eq_true_eq, decide_eq_false_iff_not]
    refine ⟨hr, ?_, ?_⟩
    · intro hm
      obtain ⟨m, hm⟩ := List.mem_iff_getElem?.1 hm
      rw [List.getElem?_take] at hm
      split at hm
      · rename_i q
        have := idx_nd hO.2.2 hy 0
        have := idx_nd hO.2.2 hm 0
        omega
      · cases hm
    · rw [Int.toNat_natCast, List.getD_eq_getElem?_getD, hx]
      exact hd
theorem ord_l0 {I : Nat} (hI : I ≤ 1000) {s : List SStep} (hn : s.length ≤ 1000) (hs : Ok I s) (l : List Int) (hl : l.length ≤ 1000000) (ys p : List Int) (h : l = p ++ ys) : spec_plOrder.l0 (I : Int) s l ys (p.length : Int) = some (cond (chk I s p ys) (Sum.inr ()) (Sum.inl false)) := by
  induction ys generalizing p with
  | nil => rfl
  | cons y ys ih =>
    have ht : ct l 0 (p.length : Int) = some p := by rw [ct_take l p.length (by rw [h, List.length_append]; omega), h, List.take_left]
    have ih' := ih (p ++ [y]) (by rw [h]; simp)
    rw [List.length_append, List.length_singleton, show ((p.length + 1 : Nat) : Int) = (p.length : Int) + 1 by omega] at ih'
    simp only [spec_plOrder.l0, chk, gd1]
    rw [l1In_eq, Option.bind_some, zaz (by omega)]
    by_cases c1 : 0 ≤ y ∧ y < (s.length : Int)
    · obtain ⟨m, rfl⟩ := Int.eq_ofNat_of_zero_le c1.1
      have hm : m < s.length := by omega
      have q := hs.at (List.getElem?_eq_getElem hm)
      have hd : s.getD (m : Int).toNat ⟨0, 0⟩ = s[m] := by rw [Int.toNat_natCast, List.getD_eq_getElem?_getD, List.getElem?_eq_getElem hm]; rfl
      rw [if_pos (decide_eq_true (by omega)), ht, Option.bind_some, l1Has_eq, Option.bind_some, hd, decide_eq_true c1]
      by_cases c2 : (m : Int) ∈ p
      · rw [if_pos (decide_eq_true c2), decide_eq_true c2]
        rfl
      · rw [if_neg (by simp [c2]), gt_nat hm, Option.bind_some, decide_eq_false c2]
        by_cases c3 : (I : Int) ≤ s[m].f0
        · rw [if_pos c3, Option.bind_some, l1Has_eq, Option.bind_some, zaz (by omega), decide_eq_false (show ¬ s[m].f0 < (I : Int) by omega)]
          by_cases c4 : s[m].f0 - (I : Int) ∈ p
          · rw [if_pos (decide_eq_true c4), decide_eq_true c4]
            by_cases c5 : (I : Int) ≤ s[m].f1
            · rw [if_pos c5, Option.bind_some, l1Has_eq, Option.bind_some, zaz (by omega), decide_eq_false (show ¬ s[m].f1 < (I : Int) by omega)]
              by_cases c6 : s[m].f1 - (I : Int) ∈ p
              · rw [if_pos (decide_eq_true c6), decide_eq_true c6, ih']
                simp
              · rw [if_neg (by simp [c6]), decide_eq_false c6]
                rfl
            · rw [if_neg c5, decide_eq_true (show s[m].f1 < (I : Int) by omega), ih']
              simp
          · rw [if_neg (by simp [c4]), decide_eq_false c4]
            rfl
        · rw [if_neg c3, decide_eq_true (show s[m].f0 < (I : Int) by omega)]
          by_cases c5 : (I : Int) ≤ s[m].f1
          · rw [if_pos c5, Option.bind_some, l1Has_eq, Option.bind_some, zaz (by omega), decide_eq_false (show ¬ s[m].f1 < (I : Int) by omega)]
            by_cases c6 : s[m].f1 - (I : Int) ∈ p
            · rw [if_pos (decide_eq_true c6), decide_eq_true c6, ih']
              simp
            · rw [if_neg (by simp [c6]), decide_eq_false c6]
              rfl
          · rw [if_neg c5, decide_eq_true (show s[m].f1 < (I : Int) by omega), ih']
            simp
    · rw [if_neg (by simp only [decide_eq_true_eq]; omega), decide_eq_false c1]
      rfl
theorem plOrder_eq {I : Nat} (hI : I ≤ 1000) {s : List SStep} (hn : s.length ≤ 1000) (hs : Ok I s) (o l : List Int) (hl : l.length ≤ 1000000) : ∃ b, spec_plOrder.f (I : Int) s o l = some b ∧ (b = true ↔ IsO s.length l ∧ Nd I s l) := by
  unfold spec_plOrder.f
  by_cases c : (l.length : Int) = (s.length : Int)
  · rw [if_neg (by omega)]
    have e := ord_l0 hI hn hs l hl l [] rfl
    rw [show ((([] : List Int).length : Nat) : Int) = 0 from rfl] at e
    rw [e, Option.bind_some]
    refine ⟨chk I s [] l, ?_, chk_order hs (by omega)⟩
    cases chk I s [] l <;> rfl
  · rw [if_pos c]
    exact ⟨false, rfl, ⟨fun h => absurd h (by simp), fun h => absurd h.1.1 (by omega)⟩⟩
/-! ReorderSteps -/
theorem reo_no {i : Int} {s : List SStep} {o : List Int} (h : good i s o = false) (l : List Int) : Ev (fun k => impl_ReorderSteps.f k i s o l) (0, [], [], false) ∧ Ev (fun k => spec_ReorderSteps.f k i s o l) (0, [], [], false) := by
  have p1 := plGood_ev i s o
  have p2 := isPlan_ev i s o
  rw [h] at p1 p2
  unfold impl_ReorderSteps.f spec_ReorderSteps.f
  exact ⟨bind (bind p2 (neg (by simp) (ret _))) (pos rfl (ret _)), bind (bind p1 (neg (by simp) (ret _))) (pos rfl (ret _))⟩
theorem reo_any {I : Nat} {s : List SStep} {o l : List Int} (h : Good I s o) (hl : l.length ≤ 1000000) : ∃ b, (b = true ↔ IsO s.length l ∧ Nd I s l) ∧ Ev (fun k => impl_ReorderSteps.f k (I : Int) s o l) (if b = true then ((I : Int), rS I s l, rO I l o, true) else (0, [], [], false)) ∧ Ev (fun k => spec_ReorderSteps.f k (I : Int) s o l) (if b = true then ((I : Int), rS I s l, rO I l o, true) else (0, [], [], false)) := by
  have h1 := h.inp
  have h2 := h.stp
  have h3 := h.out
  have p1 := plGood_ev (I : Int) s o
  have p2 := isPlan_ev (I : Int) s o
  rw [good_iff.2 h] at p1 p2
  obtain ⟨b, hb, hbi⟩ := plOrder_eq (I := I) (by omega) (s := s) (by omega) h.ok o l hl
  refine ⟨b, hbi, ?_, ?_⟩
  · unfold impl_ReorderSteps.f
    refine bind (bind p2 (pos rfl (bind0 (isOrder_eq l s.length (by omega) (by omega)) (ret _)))) ?_
    by_cases hO : IsO s.length l
    · rw [decide_eq_true hO]
      refine neg (by simp) ?_
      obtain ⟨L, e1, e2, e3⟩ := reo_l0 (I := I) hO (by omega) (by omega) s.length 0 (iota I ++ List.replicate s.length 0) (by omega) (by simp [iota_length]) (fun v v0 v1 => by
        have hi : ((iota I).length : Int) = (I : Int) := by rw [iota_length]
        rw [rg_app v0 (by omega)]
        obtain ⟨u, rfl⟩ := Int.eq_ofNat_of_zero_le v0
        rw [rg_nat (by rw [iota_length]; omega)]
        simp [iota]) (fun m x hm => absurd hm (Nat.not_lt_zero _))
      rw [List.drop_zero, show ((0 : Nat) : Int) = 0 from rfl] at e1
      have hren : impl_renamed.f o L = some (rO I l o) := by
        rw [ren_eq L o (fun y hy => by have := h.os y hy; omega) (by omega)]
        congr 1
        unfold rO
        exact List.map_congr_left fun y hy => by have := h.os y hy; exact e3 y (by omega) (by omega)
      have hst := reo_l1 (l := l) h.ok e2 e3 l [] 0 (fun y hy => hO.2.1 y hy) (by have := hO.1; simp; omega)
      rw [List.nil_append] at hst
      refine bind0 (firsts_eq I (by omega)) (bind0 (apm_ok (by rw [iota_length]; omega)) (bind0 e1 (bind (bind0 hren (ret _)) (bind0 hst (bind (told_ev _ _ _) ?_)))))
      have e : toldP (I : Int) (rS I s l) (rO I l o) = if b = true then ((I : Int), rS I s l, rO I l o, true) else (0, [], [], false) := by
        unfold toldP
        have hg : good (I : Int) (rS I s l) (rO I l o) = true ↔ b = true := by rw [good_iff, rS_good h hO, hbi]; exact ⟨fun q => ⟨hO, q⟩, fun q => q.2⟩
        by_cases c : b = true
        · rw [if_pos c, if_pos (hg.2 c)]
        · rw [if_neg c, if_neg (fun q => c (hg.1 q))]
      show Ev (fun _ => some (toldP (I : Int) (rS I s l) (rO I l o))) _
      rw [e]
      exact ret _
    · rw [decide_eq_false hO, if_neg (fun q => hO (hbi.1 q).1)]
      exact pos rfl (ret _)
  · unfold spec_ReorderSteps.f
    refine bind (bind p1 (pos rfl (bind0 hb (ret _)))) ?_
    cases b with
    | false => exact pos rfl (ret _)
    | true =>
      have hO := (hbi.1 rfl).1
      refine neg (by simp) ?_
      have hk : spec_plKeep.f (I : Int) s o l = some (rS I s l, rO I l o) := by
        unfold spec_plKeep.f
        rw [okeep_l0 hO (by omega) (by omega) h.ok l [] 0 (fun y hy => hO.2.1 y hy) (by have := hO.1; simp; omega), Option.bind_some, okeep_l1 hO (by omega) (by omega) o [] 0 (fun y hy => h.os y hy) (by simp; omega), Option.bind_some, List.nil_append, List.nil_append]
        rfl
      exact bind0 hk (ret _)
/-! counts and depths -/
def sqs (s : List SStep) : Int := ((s.countP fun y => decide (y.f0 = y.f1) : Nat) : Int)
theorem cnt_l0 (ys : List SStep) (j : Int) (c : Nat) (hb : c + ys.length ≤ 100000) : impl_CountsOf.l0 ys j (c : Int) = some ((c : Int) + sqs ys) := by
  induction ys generalizing j c with
  | nil => simp [impl_CountsOf.l0, sqs]
  | cons y ys ih =>
    simp only [List.length_cons] at hb
    simp only [impl_CountsOf.l0, sqs, List.countP_cons]
    by_cases e : y.f0 = y.f1
    · rw [if_pos e, zaz (by omega), show (c : Int) + 1 = ((c + 1 : Nat) : Int) by omega, ih _ (c + 1) (by omega), decide_eq_true e, if_pos rfl]
      unfold sqs
      congr 1
      omega
    · rw [if_neg e, ih _ c (by omega), decide_eq_false e, if_neg (by simp)]
      rfl
theorem sqs_le (s : List SStep) : 0 ≤ sqs s ∧ sqs s ≤ (s.length : Int) := by
  unfold sqs
  have := List.countP_le_length (p := fun y : SStep => decide (y.f0 = y.f1)) (l := s)
  omega
theorem counts_ev {I : Nat} {s : List SStep} {o : List Int} (h : Good I s o) : Ev (fun k => impl_CountsOf.f k (I : Int) s o) (sqs s, (s.length : Int) - sqs s, true) := by
  have e1 := isPlan_ev (I : Int) s o
  have h2 := h.stp
  have h3 := sqs_le s
  rw [good_iff.2 h] at e1
  unfold impl_CountsOf.f
  have e2 := cnt_l0 s 0 0 (by omega)
  rw [show ((0 : Nat) : Int) = 0 from rfl, Int.zero_add] at e2
  refine bind e1 (pos rfl (bind0 e2 ?_))
  rw [zaz (by omega)]
  exact ret _
theorem rS_sqs {I : Nat} {s : List SStep} {l : List Int} (hs : Ok I s) (h : IsO s.length l) : sqs (rS I s l) = sqs s := by
  unfold sqs rS
  congr 1
  rw [List.countP_map, h.perm.countP_eq]
  have e : s = (iota s.length).map fun i => s.getD i.toNat ⟨0, 0⟩ := by
    refine List.ext_getElem (by simp [iota_length]) fun m h1 h2 => ?_
    simp [iota, h1]
  conv => rhs; rw [e]
  rw [List.countP_map]
  refine List.countP_congr fun i hi => ?_
  have hr := iota_mem.1 hi
  obtain ⟨x, rfl⟩ := Int.eq_ofNat_of_zero_le hr.1
  have hx : x < s.length := by omega
  have q := hs.at (List.getElem?_eq_getElem hx)
  have hd : s.getD (x : Int).toNat ⟨0, 0⟩ = s[x] := by rw [Int.toNat_natCast, List.getD_eq_getElem?_getD, List.getElem?_eq_getElem hx]; rfl
  simp only [Function.comp_apply, hd, rSt, decide_eq_true_eq]
  have m := mnmx (og I l s[x].f0) (og I l s[x].f1)
  constructor
  · intro he
    exact og_inj h I (by omega) (by omega) (by omega)
  · intro he
    rw [he] at m ⊢
    omega
def dmx (a b : Int) : Int := mx a b + 1
def dps (I : Nat) (s : List SStep) : List Int := vf dmx s (List.replicate I 0)
theorem dep_l0 (ys : List SStep) (L : List Int) (j : Int) (B : Nat) (h : Ok L.length ys) (hL : ∀ x ∈ L, 0 ≤ x ∧ x ≤ (B : Int)) (hb : B + ys.length ≤ 100000) (hl : L.length + ys.length ≤ 100000) : impl_DepthOf.l0 ys L j = some (vf dmx ys L) := by
  induction ys generalizing L j B with
  | nil => rfl
  | cons y ys ih =>
    have h1 := h.1
    simp only [List.length_cons] at hb hl
    have a0 := hL _ (rg_memL h1.1 (show y.f0 < (L.length : Int) by omega))
    have a1 := hL _ (rg_memL (show 0 ≤ y.f1 by omega) (show y.f1 < (L.length : Int) by omega))
    have m := mnmx (rg L y.f0) (rg L y.f1)
    simp only [impl_DepthOf.l0]
    rw [rg_gt h1.1 (by omega), Option.bind_some, rg_gt (by omega) (by omega), Option.bind_some, zaz (by omega), ap_ok (by simp; omega), Option.bind_some]
    refine ih _ _ (B + 1) (by rw [List.length_append, List.length_singleton]; exact h.2) (fun x hx => ?_) (by omega) (by rw [List.length_append, List.length_singleton]; omega)
    rcases List.mem_append.1 hx with hx | hx
    · have := hL x hx
      omega
    · rw [List.mem_singleton.1 hx]
      omega
def mxo (L : List Int) (ys : List Int) (m : Int) : Int := ys.foldl (fun m y => mx m (rg L y)) m
theorem dep_l1 (L ys : List Int) (j m : Int) (h : ∀ y ∈ ys, 0 ≤ y ∧ y < (L.length : Int)) : impl_DepthOf.l1 L ys j m = some (mxo L ys m) := by
  induction ys generalizing j m with
  | nil => rfl
  | cons y ys ih =>
    have := h y List.mem_cons_self
    simp only [impl_DepthOf.l1]
    rw [rg_gt this.1 this.2, Option.bind_some, ih _ _ fun z hz => h z (List.mem_cons_of_mem _ hz)]
    rfl
theorem depth_ev {I : Nat} {s : List SStep} {o : List Int} (h : Good I s o) : Ev (fun k => impl_DepthOf.f k (I : Int) s o) (mxo (dps I s) o 0, true) := by
  have e1 := isPlan_ev (I : Int) s o
  have h1 := h.inp
  have h2 := h.stp
  rw [good_iff.2 h] at e1
  unfold impl_DepthOf.f
  have e2 : mk0 (I : Int) (0 : Int) = some (List.replicate I 0) := by
    unfold mk0
    rw [if_pos (by omega), Int.toNat_natCast]
  have e3 := dep_l0 s (List.replicate I 0) 0 0 (by rw [List.length_replicate]; exact h.ok) (fun x hx => by rw [List.eq_of_mem_replicate hx]; omega) (by omega) (by rw [List.length_replicate]; omega)
  refine bind e1 (pos rfl (bind0 e2 (bind0 e3 (bind0 (dep_l1 _ _ _ _ fun y hy => ?_) (ret _)))))
  rw [vf_len, List.length_replicate]
  exact h.os y hy
theorem rS_depth {I : Nat} {s : List SStep} {l : List Int} (hs : Ok I s) (h : IsO s.length l) (hr : Ok I (rS I s l)) (o : List Int) (ho : ∀ y ∈ o, 0 ≤ y ∧ y < ((I + s.length : Nat) : Int)) (m : Int) : mxo (dps I (rS I s l)) (rO I l o) m = mxo (dps I s) o m := by
  induction o generalizing m with
  | nil => rfl
  | cons y ys ih =>
    have q := ho y List.mem_cons_self
    have e := rS_vf dmx (fun a b => by unfold dmx mx; split <;> split <;> omega) (u := List.replicate I 0) List.length_replicate hs h hr y q.1 q.2
    have := ih (fun z hz => ho z (List.mem_cons_of_mem _ hz)) (mx m (rg (dps I s) y))
    unfold mxo rO dps at this ⊢
    rw [List.map_cons, List.foldl_cons, List.foldl_cons, e]
    exact this
theorem vex_ev {I : Nat} {s : List SStep} {o : List Int} (h : Good I s o) {v : Int} (h0 : 0 ≤ v) (h1 : v < ((I + s.length : Nat) : Int)) : Ev (fun k => impl_ValueExponents.f k (I : Int) s o v) ((exps I s).getD v.toNat [], true) := by
  have e1 := isPlan_ev (I : Int) s o
  have g1 := h.inp
  have g2 := h.stp
  rw [good_iff.2 h] at e1
  obtain ⟨_, e, hr, hl⟩ := exps_ev I (by omega) s o (by omega) h.form.fs
  unfold impl_ValueExponents.f
  refine bind e1 (pos rfl (bind0 (a := ()) ?_ (bind0 (in_eq _ _ _) ?_)))
  · rfl
  rw [zaz (x := (I : Int) + (s.length : Int)) (by omega), zaz (by omega)]
  refine pos (decide_eq_true (by omega)) (bind0 e (bind0 (a := (exps I s).getD v.toNat []) ?_ (ret _)))
  obtain ⟨u, rfl⟩ := Int.eq_ofNat_of_zero_le h0
  have hu : u < (exps I s).length := by rw [hl]; omega
  rw [gt_nat hu, Int.toNat_natCast, List.getD_eq_getElem?_getD, List.getElem?_eq_getElem hu]
  rfl
end Go.Proofs.Ytoegbcbdiggbjaa.Pure
