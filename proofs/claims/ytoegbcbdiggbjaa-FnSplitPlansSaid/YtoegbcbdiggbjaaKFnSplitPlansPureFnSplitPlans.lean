/- Pure: both parts of a plan cut in two, and the law. -/
import Derived.Test.YtoegbcbdiggbjaaKFnSplitPlansPsplit
set_option linter.unusedVariables false
set_option linter.unusedSimpArgs false
namespace Go.Proofs.Ytoegbcbdiggbjaa.Pure
open Go.RowKit Go.Proofs.Ytoegbcbdiggbjaa.E Go.Proofs.Ytoegbcbdiggbjaa.SP Go.Proofs.Ytoegbcbdiggbjaa.Frame Go.Proofs.YtoegbcbdiggbjaaW.PrintLast Go.Proofs.YtoegbcbdiggbjaaW.PrintMore
open Go.Proofs.YtoegbcbdiggbjaaW.PrintWords hiding mn mx
def lvs (I : Nat) (s : List SStep) (o : List Int) (k : Nat) : List Int := vals (I + k) (lv s o k)
theorem lvs_in {I : Nat} {s : List SStep} {o : List Int} {k : Nat} {u : Int} : u ∈ lvs I s o k ↔ (0 ≤ u ∧ u < ((I + k : Nat) : Int)) ∧ lv s o k u = true := vals_mem
theorem kn_steps {I : Nat} {s : List SStep} {o : List Int} (h : Good I s o) {k : Nat} (hk : k ≤ s.length) : ∀ (q : Nat) (y : SStep), (s.drop k)[q]? = some y → (0 ≤ y.f0 ∧ Kn I k (lvs I s o k) (I + k + 0 + q) y.f0) ∧ (0 ≤ y.f1 ∧ Kn I k (lvs I s o k) (I + k + 0 + q) y.f1) := by
  intro q y hq
  have hm : y ∈ s.drop k := List.mem_of_getElem? hq
  rw [List.getElem?_drop] at hq
  have := h.ok.at hq
  have m0 : lv s o k y.f0 = true := by
    unfold lv usd
    rw [Bool.or_eq_true]
    exact .inr (List.any_eq_true.2 ⟨y, hm, by simp⟩)
  have m1 : lv s o k y.f1 = true := by
    unfold lv usd
    rw [Bool.or_eq_true]
    exact .inr (List.any_eq_true.2 ⟨y, hm, by simp⟩)
  refine ⟨⟨this.1, ?_⟩, ⟨by omega, ?_⟩⟩
  · by_cases c : y.f0 < ((I + k : Nat) : Int)
    · exact .inl ⟨c, lvs_in.2 ⟨⟨this.1, c⟩, m0⟩⟩
    · exact .inr (by omega)
  · by_cases c : y.f1 < ((I + k : Nat) : Int)
    · exact .inl ⟨c, lvs_in.2 ⟨⟨by omega, c⟩, m1⟩⟩
    · exact .inr (by omega)
theorem kn_outs {I : Nat} {s : List SStep} {o : List Int} (h : Good I s o) {k : Nat} (hk : k ≤ s.length) : ∀ u ∈ o, 0 ≤ u ∧ Kn I k (lvs I s o k) (I + s.length) u := by
  intro u hu
  have := h.os u hu
  refine ⟨this.1, ?_⟩
  by_cases c : u < ((I + k : Nat) : Int)
  · refine .inl ⟨c, lvs_in.2 ⟨⟨this.1, c⟩, ?_⟩⟩
    unfold lv
    rw [decide_eq_true hu]
    rfl
  · exact .inr (by omega)
theorem first_good {I : Nat} {s : List SStep} {o : List Int} (h : Good I s o) {k : Nat} (hk : k ≤ s.length) : Good I (s.take k) (lvs I s o k) ↔ (lvs I s o k).length ≤ 6 := by
  constructor
  · exact fun g => g.out
  · intro hl
    have hts : (s.take k).length = k := by rw [List.length_take]; omega
    have hs : s.take k ++ s.drop k = s := List.take_append_drop k s
    refine ⟨h.inp, by rw [hts]; have := h.stp; omega, hl, ?_, ?_, ?_⟩
    · have := h.ok
      rw [← hs] at this
      exact (Ok.append.1 this).1
    · intro y hy
      have := lvs_in.1 hy
      rw [hts]
      exact this.1
    · intro j hj v v0 v1
      rw [hts] at v1
      have e : rg (vl s (unitR I j)) v = rg (vl (s.take k) (unitR I j)) v := by
        rw [← vl_pre (s.drop k) (vl (s.take k) (unitR I j)) v0 (by rw [vl_len, unitR_len, hts]; exact v1), ← vl_append, hs]
      rw [← e]
      exact h.le j hj v v0 (by omega)
theorem second_ok {I k : Nat} {L : List Int} (ys : List SStep) (m : Nat) (hy : ∀ (q : Nat) (y : SStep), ys[q]? = some y → (0 ≤ y.f0 ∧ Kn I k L (I + k + m + q) y.f0) ∧ (0 ≤ y.f1 ∧ Kn I k L (I + k + m + q) y.f1)) : Ok (L.length + m) (ys.map (lt_ I k L)) := by
  induction ys generalizing m with
  | nil => trivial
  | cons y ys ih =>
    have h0 := hy 0 y rfl
    rw [Nat.add_zero] at h0
    have a0 := later_in (by omega) h0.1.2
    have a1 := later_in (by omega) h0.2.2
    refine ⟨?_, ih (m + 1) (fun q z hz => by
      have := hy (q + 1) z (by simpa using hz)
      rw [show I + k + m + (q + 1) = I + k + (m + 1) + q by omega] at this
      exact this)⟩
    show 0 ≤ mn _ _ ∧ mn _ _ ≤ mx _ _ ∧ mx _ _ < _
    unfold mn mx
    split <;> split <;> omega
theorem second_good {I : Nat} {s : List SStep} {o : List Int} (h : Good I s o) {k : Nat} (hk : k ≤ s.length) : Good (lvs I s o k).length ((s.drop k).map (lt_ I k (lvs I s o k))) (o.map (later I k (lvs I s o k))) ↔ 1 ≤ (lvs I s o k).length ∧ (lvs I s o k).length ≤ 6 := by
  constructor
  · exact fun g => g.inp
  · intro hl
    have hsrt : (lvs I s o k).Pairwise (· < ·) := vals_sorted _ _
    have hmem := @lvs_in I s o k
    have hks := kn_steps h hk
    have hko := kn_outs h hk
    generalize lvs I s o k = L at hl hsrt hmem hks hko
    have hdl : (s.drop k).length = s.length - k := List.length_drop
    have hs : s.take k ++ s.drop k = s := List.take_append_drop k s
    have hts : (s.take k).length = k := by rw [List.length_take]; omega
    refine ⟨hl, by rw [List.length_map, hdl]; have := h.stp; omega, by rw [List.length_map]; exact h.out, ?_, ?_, ?_⟩
    · have := second_ok (s.drop k) 0 hks
      exact this
    · intro y hy
      obtain ⟨u, hu, rfl⟩ := List.mem_map.1 hy
      have := later_in (by omega) (hko u hu).2
      rw [List.length_map, hdl]
      omega
    · intro j hj w w0 w1
      rw [List.length_map, hdl] at w1
      -- the value that the input stands for
      have hLj := List.getElem?_eq_getElem hj
      have huj := (hmem (u := L[j])).1 (List.getElem_mem hj)
      obtain ⟨i, hi, hp⟩ := ex_pos h.ok L[j] huj.1.1 (by have := huj.1.2; omega)
      have hlen1 : (vl (s.take k) (unitR I i)).length = I + k + 0 := by rw [vl_len, unitR_len, hts]; rfl
      have hle := later_le I k L (s.drop k) (vl (s.take k) (unitR I i)) (unitR L.length j) 0 hlen1 (by rw [unitR_len]; rfl) (fun u u0 hu => by
        have hr := later_in (by omega) hu
        rw [show L.length + (I + k + 0 - (I + k)) = L.length by omega] at hr
        rw [unitR_rg hj hr.1 hr.2]
        have huL : u ∈ L := by
          rcases hu with hu | hu
          · exact hu.2
          · omega
        have hub := ((hmem (u := u)).1 huL).1
        by_cases c : later I k L u = (j : Int)
        · rw [if_pos c]
          unfold later at c
          rw [if_pos hub.2] at c
          obtain ⟨m, e1, e2⟩ := idx_in huL 0
          obtain rfl : m = j := by omega
          rw [hLj] at e2
          obtain rfl := Option.some.inj e2
          have e : rg (vl s (unitR I i)) L[m] = rg (vl (s.take k) (unitR I i)) L[m] := by
            rw [← vl_pre (s.drop k) (vl (s.take k) (unitR I i)) hub.1 (by rw [hlen1]; exact hub.2), ← vl_append, hs]
          rw [← e]
          exact hp
        · rw [if_neg c]
          exact rg_le0 (vl_ge (unitR_ge I i)) _) hks
      -- which value is it?
      obtain ⟨u, u0, hu, e⟩ : ∃ u, 0 ≤ u ∧ Kn I k L (I + k + 0 + (s.drop k).length) u ∧ later I k L u = w := by
        by_cases c : w < (L.length : Int)
        · obtain ⟨m, rfl⟩ := Int.eq_ofNat_of_zero_le w0
          have hmL : m < L.length := by omega
          have hum := (hmem (u := L[m])).1 (List.getElem_mem hmL)
          refine ⟨L[m], hum.1.1, .inl ⟨hum.1.2, List.getElem_mem hmL⟩, ?_⟩
          unfold later
          rw [if_pos hum.1.2, idx_at hsrt (List.getElem?_eq_getElem hmL)]
          omega
        · refine ⟨w - (L.length : Int) + ((I + k : Nat) : Int), by omega, .inr ⟨by omega, by rw [hdl]; omega⟩, ?_⟩
          unfold later
          rw [if_neg (by omega)]
          omega
      have := hle u u0 hu
      rw [e, ← vl_append, hs] at this
      have hub : u < ((I + s.length : Nat) : Int) := by
        rcases hu with hu | hu
        · have := hu.1; omega
        · rw [hdl] at hu; omega
      have := h.le i hi u u0 hub
      omega
/-! the whole again -/
theorem back_step {l : List Int} {a b a' b' : Int} (ha : rg l a = a') (hb : rg l b = b') (h : a' ≤ b') : mn (rg l (mn a b)) (rg l (mx a b)) = a' ∧ mx (rg l (mn a b)) (rg l (mx a b)) = b' := by
  by_cases c : a < b
  · have e1 : mn a b = a := by unfold mn; rw [if_neg (by omega)]
    have e2 : mx a b = b := by unfold mx; rw [if_pos c]
    rw [e1, e2, ha, hb]
    unfold mn mx
    split <;> split <;> omega
  · have e1 : mn a b = b := by unfold mn; split <;> omega
    have e2 : mx a b = a := by unfold mx; rw [if_neg c]
    rw [e1, e2, ha, hb]
    unfold mn mx
    split <;> split <;> omega
theorem comp_bh (I k : Nat) (L : List Int) (ys : List SStep) (p : List Int) (st : List SStep) (m : Nat) (hp : p.length = L.length + m) (hst : st.length = k + m) (hk : ∀ u : Int, 0 ≤ u → Kn I k L (I + k + m) u → rg p (later I k L u) = u) (hy : ∀ (q : Nat) (y : SStep), ys[q]? = some y → (0 ≤ y.f0 ∧ Kn I k L (I + k + m + q) y.f0) ∧ (0 ≤ y.f1 ∧ Kn I k L (I + k + m + q) y.f1)) (hle : ∀ y ∈ ys, y.f0 ≤ y.f1) : (bh (I : Int) (ys.map (lt_ I k L)) p st).2 = st ++ ys ∧ ∀ u : Int, 0 ≤ u → Kn I k L (I + k + m + ys.length) u → rg (bh (I : Int) (ys.map (lt_ I k L)) p st).1 (later I k L u) = u := by
  induction ys generalizing p st m with
  | nil => exact ⟨by simp [bh], hk⟩
  | cons y ys ih =>
    have h0 := hy 0 y rfl
    rw [Nat.add_zero] at h0
    have hset : ∀ u : Int, 0 ≤ u → Kn I k L (I + k + (m + 1)) u → rg (p ++ [(I : Int) + (st.length : Int)]) (later I k L u) = u := by
      intro u u0 hu
      by_cases c : u = ((I + k + m : Nat) : Int)
      · have e : later I k L u = (p.length : Int) := by
          unfold later
          rw [if_neg (by omega)]
          omega
        rw [e, rg_new rfl]
        omega
      · have hu' : Kn I k L (I + k + m) u := by
          rcases hu with hu | hu
          · exact .inl hu
          · exact .inr (by omega)
        have := later_in (by omega) hu'
        rw [rg_app this.1 (by omega)]
        exact hk u u0 hu'
    have k0 : Kn I k L (I + k + (m + 1)) y.f0 := by
      rcases h0.1.2 with hu | hu
      · exact .inl hu
      · exact .inr (by omega)
    have k1 : Kn I k L (I + k + (m + 1)) y.f1 := by
      rcases h0.2.2 with hu | hu
      · exact .inl hu
      · exact .inr (by omega)
    obtain ⟨b0, b1⟩ := back_step (hset _ h0.1.1 k0) (hset _ h0.2.1 k1) (hle y List.mem_cons_self)
    have hstep : (⟨mn (rg (p ++ [(I : Int) + (st.length : Int)]) (lt_ I k L y).f0) (rg (p ++ [(I : Int) + (st.length : Int)]) (lt_ I k L y).f1), mx (rg (p ++ [(I : Int) + (st.length : Int)]) (lt_ I k L y).f0) (rg (p ++ [(I : Int) + (st.length : Int)]) (lt_ I k L y).f1)⟩ : SStep) = y := by
      show (⟨mn (rg _ (mn _ _)) (rg _ (mx _ _)), mx (rg _ (mn _ _)) (rg _ (mx _ _))⟩ : SStep) = y
      rw [b0, b1]
    have := ih (p ++ [(I : Int) + (st.length : Int)]) (st ++ [y]) (m + 1) (by rw [List.length_append, List.length_singleton]; omega) (by rw [List.length_append, List.length_singleton]; omega) hset (fun q z hz => by
      have := hy (q + 1) z (by simpa using hz)
      rw [show I + k + m + (q + 1) = I + k + (m + 1) + q by omega] at this
      exact this) (fun z hz => hle z (List.mem_cons_of_mem _ hz))
    simp only [List.map_cons, bh, hstep]
    refine ⟨by rw [this.1]; simp, ?_⟩
    rw [show I + k + m + (y :: ys).length = I + k + (m + 1) + ys.length by rw [List.length_cons]; omega]
    exact this.2
theorem clone_ok (i : Int) (s : List SStep) (o : List Int) (hs : s.length ≤ 1000) (ho : o.length ≤ 1000) : impl_clonePlan.f i s o = some (s, o) := by
  unfold impl_clonePlan.f
  rw [cloneS_eq _ (by omega), Option.bind_some, cloneI_eq _ (by omega)]
  rfl
theorem whole_ev {I : Nat} {s : List SStep} {o : List Int} (h : Good I s o) {k : Nat} (hk : k ≤ s.length) (hl : 1 ≤ (lvs I s o k).length ∧ (lvs I s o k).length ≤ 6) : Ev (fun n => impl_ComposePlans.f n (I : Int) (s.take k) (lvs I s o k) ((lvs I s o k).length : Int) ((s.drop k).map (lt_ I k (lvs I s o k))) (o.map (later I k (lvs I s o k)))) ((I : Int), s, o, true) := by
  have g1 := (first_good h hk).2 hl.2
  have g2 := (second_good h hk).2 hl
  have e1 := isPlan_ev (I : Int) (s.take k) (lvs I s o k)
  have e2 := isPlan_ev ((lvs I s o k).length : Int) ((s.drop k).map (lt_ I k (lvs I s o k))) (o.map (later I k (lvs I s o k)))
  rw [good_iff.2 g1] at e1
  rw [good_iff.2 g2] at e2
  have hks := kn_steps h hk
  have hko := kn_outs h hk
  have hmem := @lvs_in I s o k
  have hsrt : (lvs I s o k).Pairwise (· < ·) := vals_sorted _ _
  generalize lvs I s o k = L at hl g1 g2 e1 e2 hks hko hmem hsrt
  have hi := h.inp
  have hst := h.stp
  have hts : (s.take k).length = k := by rw [List.length_take]; omega
  have hdl : (s.drop k).length = s.length - k := List.length_drop
  have hs : s.take k ++ s.drop k = s := List.take_append_drop k s
  obtain ⟨c1, c2⟩ := comp_bh I k L (s.drop k) L (s.take k) 0 rfl hts (fun u u0 hu => by
    have huL : u ∈ L := by
      rcases hu with hu | hu
      · exact hu.2
      · omega
    unfold later
    rw [if_pos ((hmem (u := u)).1 huL).1.2]
    obtain ⟨m, x1, x2⟩ := idx_in huL 0
    have hm := (List.getElem?_eq_some_iff.1 x2).1
    rw [x1, show (0 : Int) + (m : Int) = (m : Int) by omega, rg_nat hm]
    rw [List.getElem?_eq_getElem hm] at x2
    exact Option.some.inj x2) hks (fun y hy => by
    obtain ⟨q, hq, rfl⟩ := List.getElem_of_mem (List.mem_of_mem_drop hy)
    exact (h.ok.at (List.getElem?_eq_getElem hq)).2.1)
  rw [hs] at c1
  have hbl := bh_len (I : Int) ((s.drop k).map (lt_ I k L)) L (s.take k)
  obtain ⟨⟨p, st⟩, hbh⟩ : ∃ z, bh (I : Int) ((s.drop k).map (lt_ I k L)) L (s.take k) = z := ⟨_, rfl⟩
  have hb := behind_eq (I : Int) (by omega) (s.take k) L (L.length : Int) ((s.drop k).map (lt_ I k L)) (o.map (later I k L)) L g2.ok (by rw [List.length_map, hts, hdl]; omega)
  rw [hbh] at c1 c2 hbl hb
  simp only at c1 c2 hbl
  subst c1
  rw [List.length_map, hdl] at hbl
  have hin : ∀ y ∈ o.map (later I k L), 0 ≤ y ∧ y < (p.length : Int) := by
    intro y hy
    obtain ⟨u, hu, rfl⟩ := List.mem_map.1 hy
    have := later_in (by omega) (hko u hu).2
    omega
  have hren := ren_eq p (o.map (later I k L)) hin (by rw [List.length_map]; have := h.out; omega)
  have ho : (o.map (later I k L)).map (rg p) = o := by
    rw [List.map_map]
    refine (List.map_congr_left fun u hu => ?_).trans (List.map_id o)
    have := hko u hu
    exact c2 u this.1 (by rw [hdl, show I + k + 0 + (st.length - k) = I + st.length by omega]; exact this.2)
  rw [ho] at hren
  have ht := told_ev (I : Int) st o
  unfold toldP at ht
  rw [if_pos (good_iff.2 h)] at ht
  have hd : decide ((L.length : Int) ≠ (L.length : Int)) = false := decide_eq_false (by simp)
  unfold impl_ComposePlans.f
  exact bind (a := false) (bind e1 (pos rfl (bind e2 (pos rfl (now (by rw [hd])))))) (neg (by simp) (bind0 (clone_ok _ _ _ (by rw [hts]; omega) (by omega)) (bind0 hb (bind0 hren (bind ht (ret _))))))
/-! both sides -/
theorem split_in {I : Nat} {s : List SStep} {o : List Int} (h : Good I s o) {k : Nat} (hk : k ≤ s.length) : ∃ b r, Ev (fun n => impl_SplitPlan.f n (I : Int) s o (k : Int)) r ∧ Ev (fun n => spec_SplitPlan.f n (I : Int) s o (k : Int)) r ∧ b = decide (1 ≤ (lvs I s o k).length ∧ (lvs I s o k).length ≤ 6) ∧ r = if b = true then ((I : Int), s.take k, lvs I s o k, ((lvs I s o k).length : Int), (s.drop k).map (lt_ I k (lvs I s o k)), o.map (later I k (lvs I s o k)), true) else (0, [], [], 0, [], [], false) := by
  have hf := h.form
  have hi := h.inp
  have hst := h.stp
  have hot := h.out
  have e1 := plGood_ev (I : Int) s o
  have e2 := isPlan_ev (I : Int) s o
  rw [good_iff.2 h] at e1 e2
  have l1 := l1In_eq (k : Int) 0 (s.length : Int)
  have l2 := in_eq (k : Int) 0 (s.length : Int)
  rw [decide_eq_true (by omega)] at l1 l2
  have hlv : impl_Plan_liveAt.f (I : Int) s o (k : Int) = some (lvs I s o k) := live_eq hf hk
  have hdu : Ev (fun n => spec_duLive.f n (I : Int) s o (k : Int)) (lvs I s o k) := duLive_ev hf hk
  have hll : (lvs I s o k).length ≤ I + k := vals_len _ _
  have f1 := first_good h hk
  have f2 := second_good h hk
  have hks := kn_steps h hk
  have hko := kn_outs h hk
  have hmem := @lvs_in I s o k
  have hsrt : (lvs I s o k).Pairwise (· < ·) := vals_sorted _ _
  generalize lvs I s o k = L at hlv hdu hll f1 f2 hks hko hmem hsrt
  have hts : (s.take k).length = k := by rw [List.length_take]; omega
  have hdl : (s.drop k).length = s.length - k := List.length_drop
  have hsb : ∀ y ∈ s.drop k, (0 ≤ y.f0 ∧ y.f0 ≤ 1000) ∧ (0 ≤ y.f1 ∧ y.f1 ≤ 1000) := fun y hy => by
    have := hf.mem y (List.mem_of_mem_drop hy)
    omega
  have hob : ∀ y ∈ o, 0 ≤ y ∧ y ≤ 1000 := fun y hy => by
    have := h.os y hy
    omega
  have s0 := sps_l0 I k (by omega) s o L (by omega) (s.drop k) [] 0 hsb (by simp; omega)
  have s1 := sps_l1 I k (by omega) s o L (by omega) o [] 0 hob (by simp; omega)
  rw [List.nil_append] at s0 s1
  have hmk : mk0 (w64 ((I : Int) + (s.length : Int))) (0 : Int) = some (List.replicate (I + s.length) 0) := by
    rw [w64_id (by omega)]
    unfold mk0
    rw [if_pos (by omega), show ((I : Int) + (s.length : Int)).toNat = I + s.length by omega]
  obtain ⟨P, p1, p2, p3⟩ := spi_l0 (I + s.length) L hsrt (List.replicate (I + s.length) 0) (by simp) 0 (fun y hy => by have := ((hmem (u := y)).1 hy).1; omega)
  obtain ⟨P', q1, q2, q3⟩ := spi_l1 I k L (by omega) (I + s.length) (by omega) (by omega) (s.drop k) P p2 [] 0 (by rw [hdl]; omega) rfl (fun u u0 hu => by
    have huL : u ∈ L := by
      rcases hu with hu | hu
      · exact hu.2
      · omega
    have hub := ((hmem (u := u)).1 huL).1
    rw [p3 u u0 (by omega), if_pos huL]
    unfold later
    rw [if_pos hub.2]) hks
  rw [List.nil_append] at q1
  have hren := ren_eq P' o (fun y hy => by have := h.os y hy; omega) (by omega)
  have hmap : o.map (rg P') = o.map (later I k L) := List.map_congr_left fun u hu => q3 u (hko u hu).1 (hko u hu).2
  rw [hmap] at hren
  have g1 := isPlan_ev (I : Int) (s.take k) L
  have g2 := isPlan_ev (L.length : Int) ((s.drop k).map (lt_ I k L)) (o.map (later I k L))
  have g3 := plGood_ev (I : Int) (s.take k) L
  have g4 := plGood_ev (L.length : Int) ((s.drop k).map (lt_ I k L)) (o.map (later I k L))
  have hcl := cloneS_eq (s.take k) (by rw [hts]; omega)
  have hct := ct_take s k hk
  have hcd := ct_drop s k hk
  have hap : ap ([] : List SStep) (s.take k) = some (s.take k) := ap_ok (by simp; omega)
  have hown := l1Own_eq L (by omega)
  refine ⟨_, _, ?_, ?_, rfl, rfl⟩
  · unfold impl_SplitPlan.f
    refine bind (a := false) (bind e2 (pos rfl (bind0 l2 (ret _)))) (neg (by simp) (bind0 hlv (bind0 (a := s.take k) ?_ (bind0 (a := List.replicate (I + s.length) 0) ?_ (bind0 p1 (bind0 hcd (bind0 q1 (bind0 hren ?_))))))))
    · rw [hct, Option.bind_some, hcl]
      rfl
    · unfold impl_Plan_many.f
      rw [Option.bind_some, hmk]
      rfl
    · by_cases c1 : L.length ≤ 6
      · rw [good_iff.2 (f1.2 c1)] at g1
        by_cases c2 : 1 ≤ L.length
        · rw [good_iff.2 (f2.2 ⟨c2, c1⟩)] at g2
          rw [decide_eq_true ⟨c2, c1⟩, if_pos rfl]
          exact bind (a := false) (bind g1 (pos rfl (bind g2 (ret _)))) (neg (by simp) (ret _))
        · rw [good_not (fun g => c2 (f2.1 g).1)] at g2
          rw [decide_eq_false (fun g => c2 g.1), if_neg (by simp)]
          exact bind (a := true) (bind g1 (pos rfl (bind g2 (ret _)))) (pos rfl (ret _))
      · rw [good_not (fun g => c1 (f1.1 g))] at g1
        rw [decide_eq_false (fun g => c1 g.2), if_neg (by simp)]
        exact bind (a := true) (bind g1 (neg (by simp) (ret _))) (pos rfl (ret _))
  · unfold spec_SplitPlan.f
    refine bind (a := false) (bind e1 (pos rfl (bind0 l1 (ret _)))) (neg (by simp) (bind hdu (bind0 (a := (s.take k, L)) ?_ (bind0 hcd (bind0 s0 (bind0 s1 ?_))))))
    · rw [hct, Option.bind_some, hap, Option.bind_some, hown]
      rfl
    · by_cases c1 : L.length ≤ 6
      · rw [good_iff.2 (f1.2 c1)] at g3
        by_cases c2 : 1 ≤ L.length
        · rw [good_iff.2 (f2.2 ⟨c2, c1⟩)] at g4
          rw [decide_eq_true ⟨c2, c1⟩, if_pos rfl]
          exact bind (a := false) (bind g3 (pos rfl (bind g4 (ret _)))) (neg (by simp) (ret _))
        · rw [good_not (fun g => c2 (f2.1 g).1)] at g4
          rw [decide_eq_false (fun g => c2 g.1), if_neg (by simp)]
          exact bind (a := true) (bind g3 (pos rfl (bind g4 (ret _)))) (pos rfl (ret _))
      · rw [good_not (fun g => c1 (f1.1 g))] at g3
        rw [decide_eq_false (fun g => c1 g.2), if_neg (by simp)]
        exact bind (a := true) (bind g3 (neg (by simp) (ret _))) (pos rfl (ret _))
theorem width_l0 {I : Nat} {s : List SStep} {o : List Int} (h : Form I s o) : ∀ (d j : Nat) (m : Int), j + d = s.length + 1 → ∃ w, impl_WidthOf.l0 (I : Int) s o d (j : Int) m = some w ∧ m ≤ w ∧ ∀ k : Nat, j ≤ k → k ≤ s.length → ((lvs I s o k).length : Int) ≤ w := by
  intro d
  induction d with
  | zero =>
    intro j m hj
    exact ⟨m, rfl, Int.le_refl _, fun k h1 h2 => by omega⟩
  | succ d ih =>
    intro j m hj
    obtain ⟨w, e1, e2, e3⟩ := ih (j + 1) (mx m ((lvs I s o j).length : Int)) (by omega)
    have hmx : m ≤ mx m ((lvs I s o j).length : Int) ∧ ((lvs I s o j).length : Int) ≤ mx m ((lvs I s o j).length : Int) := by
      unfold mx
      split <;> omega
    refine ⟨w, ?_, by omega, fun k h1 h2 => ?_⟩
    · simp only [impl_WidthOf.l0]
      rw [show impl_Plan_liveAt.f (I : Int) s o (j : Int) = some (lvs I s o j) from live_eq h (by omega), Option.bind_some, show (j : Int) + 1 = ((j + 1 : Nat) : Int) by omega]
      exact e1
    · by_cases c : k = j
      · subst c
        omega
      · exact e3 k (by omega) h2
theorem width_ev (i : Int) (s : List SStep) (o : List Int) : ∃ w b, Ev (fun n => impl_WidthOf.f n i s o) (w, b) ∧ ∀ I : Nat, i = (I : Int) → Good I s o → b = true ∧ ∀ k : Nat, k ≤ s.length → ((lvs I s o k).length : Int) ≤ w := by
  have e2 := isPlan_ev i s o
  unfold impl_WidthOf.f
  cases hg : good i s o with
  | false =>
    rw [hg] at e2
    refine ⟨0, false, bind e2 (neg (by simp) (ret _)), fun I hi h => ?_⟩
    subst hi
    rw [good_iff.2 h] at hg
    cases hg
  | true =>
    rw [hg] at e2
    obtain ⟨I, rfl, h⟩ := good_Good hg
    have hst := h.stp
    obtain ⟨w, e1, _, e3⟩ := width_l0 h.form (s.length + 1) 0 0 (by omega)
    have hb : bd (w64 ((s.length : Int) + 1)) = some () := by
      rw [w64_id (by omega)]
      unfold bd
      rw [if_pos (by omega)]
    refine ⟨w, true, bind e2 (pos rfl (bind0 hb (bind0 (a := w) ?_ (ret _)))), fun J hJ _ => ?_⟩
    · rw [w64_id (by omega), show ((s.length : Int) + 1).toNat = s.length + 1 by omega]
      exact e1
    · obtain rfl : I = J := by omega
      exact ⟨rfl, fun k hk => e3 k (by omega) hk⟩
theorem drawSplit {c : List Int} (hc : Bytes c) (hl : c.length ≤ 1048576) : ∃ i s o d, Ev (fun k => spec_DrawSplitPlan.f k c) (i, s, o, d) := by
  obtain ⟨i, s, o, a, sd, e1, ls, lo, b1⟩ := drawAny hc hl 0 0 3 8 (by omega) 1000 ⟨by omega, by omega⟩
  obtain ⟨x, a2, sd2, e2, _, _, _⟩ := pick_ev hc hl (m := 999) b1 sd (w64 ((s.length : Int) + 3))
  unfold spec_DrawSplitPlan.f
  exact ⟨i, s, o, _, bind e1 (bind0 e2 (ret _))⟩
theorem FnSplitPlans : laws_FnSplitPlans.Pure := by
  intro l0 l1 hl0 hb0 hl1 hb1
  refine some_of ?_
  unfold laws_FnSplitPlans.f
  obtain ⟨b, e0, hb⟩ := big_eq l0 l1 hl0 hl1
  refine bind0 e0 ?_
  cases b with
  | true => exact pos rfl (ret _)
  | false =>
    refine neg (by simp) ?_
    obtain ⟨i, s, o, c, e1⟩ := drawSplit (byte_in hb0) (hb rfl).1
    refine bind e1 ?_
    obtain ⟨w, wb, ew, hw⟩ := width_ev i s o
    have p1 := plGood_ev i s o
    have p2 := isPlan_ev i s o
    by_cases hin : good i s o = true ∧ 0 ≤ c ∧ c ≤ (s.length : Int)
    · obtain ⟨hg, c0, c1⟩ := hin
      obtain ⟨I, rfl, h⟩ := good_Good hg
      obtain ⟨k, rfl⟩ := Int.eq_ofNat_of_zero_le c0
      have hk : k ≤ s.length := by omega
      obtain ⟨b, r, x1, x2, x3, x4⟩ := split_in h hk
      obtain ⟨rfl, hwk⟩ := hw I rfl h
      have hwk := hwk k hk
      have l1' := l1In_eq (k : Int) 0 (s.length : Int)
      have l2' := in_eq (k : Int) 0 (s.length : Int)
      rw [decide_eq_true (by omega)] at l1' l2'
      rw [hg] at p1 p2
      have hlive : Ev (fun n => impl_LiveAt.f n (I : Int) s o (k : Int)) (lvs I s o k, true) := by
        unfold impl_LiveAt.f
        exact bind p2 (pos rfl (bind0 l2' (pos rfl (bind0 (live_eq h.form hk) (ret _)))))
      have hlive2 : Ev (fun n => spec_LiveAt.f n (I : Int) s o (k : Int)) (lvs I s o k, true) := by
        unfold spec_LiveAt.f
        exact bind p1 (pos rfl (bind0 l1' (pos rfl (bind (duLive_ev h.form hk) (ret _)))))
      have hwhole := whole_ev h hk
      generalize lvs I s o k = L at x3 x4 hwk hlive hlive2 hwhole
      have hts : (s.take k).length = k := by rw [List.length_take]; omega
      have hbb : ∀ b : Bool, (b != b) = false := fun b => by cases b <;> rfl
      cases b with
      | true =>
        rw [if_pos rfl] at x4
        subst x4
        have hJ := of_decide_eq_true x3.symm
        refine bind x1 (bind x2 (neg (by simp) (bind0 (pSamePlan_refl _ _ _) (pos rfl (bind0 (pSamePlan_refl _ _ _) (pos rfl ?_))))))
        refine bind hlive (bind ew (bind hlive2 (neg (by simp) (bind0 (pSameInts_refl _) (pos rfl (pos rfl ?_))))))
        refine bind (a := Sum.inr ()) ?_ ?_
        · exact pos rfl (neg (by omega) (pos (by omega) (neg (by rw [decide_eq_true (by omega)]; simp) (ret _))))
        · exact pos rfl (bind (hwhole hJ) (pos rfl (bind0 (pSamePlan_refl _ _ _) (pos rfl (pos (by rw [hts]) (bind0 (pSameInts_refl _) (ret _)))))))
      | false =>
        rw [if_neg (by simp)] at x4
        subst x4
        have hJ := of_decide_eq_false x3.symm
        refine bind x1 (bind x2 (neg (by simp) (bind0 (pSamePlan_refl _ _ _) (pos rfl (bind0 (pSamePlan_refl _ _ _) (pos rfl ?_))))))
        refine bind hlive (bind ew (bind hlive2 (neg (by simp) (bind0 (pSameInts_refl _) (pos rfl (pos rfl ?_))))))
        refine bind (a := Sum.inr ()) (pos rfl (neg (by omega) ?_)) (neg (by simp) (ret _))
        by_cases cz : 0 < (L.length : Int)
        · exact pos cz (neg (by rw [decide_eq_false (by omega)]; simp) (ret _))
        · exact neg cz (neg (by simp) (ret _))
    · have hout : Ev (fun n => impl_SplitPlan.f n i s o c) (0, [], [], 0, [], [], false) ∧ Ev (fun n => spec_SplitPlan.f n i s o c) (0, [], [], 0, [], [], false) ∧ Ev (fun n => impl_LiveAt.f n i s o c) ([], false) ∧ Ev (fun n => spec_LiveAt.f n i s o c) ([], false) := by
        unfold impl_SplitPlan.f spec_SplitPlan.f impl_LiveAt.f spec_LiveAt.f
        cases hg : good i s o with
        | false =>
          rw [hg] at p1 p2
          exact ⟨bind (a := true) (bind p2 (neg (by simp) (ret _))) (pos rfl (ret _)), bind (a := true) (bind p1 (neg (by simp) (ret _))) (pos rfl (ret _)), bind p2 (neg (by simp) (ret _)), bind p1 (neg (by simp) (ret _))⟩
        | true =>
          rw [hg] at p1 p2
          have l1' := l1In_eq c 0 (s.length : Int)
          have l2' := in_eq c 0 (s.length : Int)
          rw [decide_eq_false (fun q => hin ⟨hg, q⟩)] at l1' l2'
          exact ⟨bind (a := true) (bind p2 (pos rfl (bind0 l2' (ret _)))) (pos rfl (ret _)), bind (a := true) (bind p1 (pos rfl (bind0 l1' (ret _)))) (pos rfl (ret _)), bind p2 (pos rfl (bind0 l2' (neg (by simp) (ret _)))), bind p1 (pos rfl (bind0 l1' (neg (by simp) (ret _))))⟩
      obtain ⟨x1, x2, x3, x4⟩ := hout
      exact bind x1 (bind x2 (neg (by simp) (bind0 (pSamePlan_refl _ _ _) (pos rfl (bind0 (pSamePlan_refl _ _ _) (pos rfl (bind x3 (bind ew (bind x4 (neg (by simp) (bind0 (pSameInts_refl _) (pos rfl (neg (by simp) (ret _))))))))))))))
end Go.Proofs.Ytoegbcbdiggbjaa.Pure
