/- Pure: values with the same exponents shared; the law. -/
import Derived.Test.YtoegbcbdiggbjaaKFnSharedPlansPused
import Derived.Test.YtoegbcbdiggbjaaKFnSharedPlansPpw
import Derived.Test.YtoegbcbdiggbjaaKFnSharedPlansPdraw
set_option linter.unusedVariables false
set_option linter.unusedSimpArgs false
namespace Go.Proofs.Ytoegbcbdiggbjaa.Pure
open Go.RowKit Go.Proofs.Ytoegbcbdiggbjaa.E Go.Proofs.Ytoegbcbdiggbjaa.HP Go.Proofs.Ytoegbcbdiggbjaa.Frame Go.Proofs.YtoegbcbdiggbjaaW.PrintLast Go.Proofs.YtoegbcbdiggbjaaW.PrintMore
open Go.Proofs.YtoegbcbdiggbjaaW.PrintWords hiding mn mx
/-- The first place of a row. -/
def fr_ : List (List Int) → List Int → Nat
  | [], _ => 0
  | y :: ys, v => if y = v then 0 else fr_ ys v + 1
theorem fr_le {R : List (List Int)} {m : Nat} (hm : m < R.length) : fr_ R R[m] ≤ m := by
  induction R generalizing m with
  | nil => simp at hm
  | cons y ys ih =>
    simp only [fr_]
    cases m with
    | zero => simp
    | succ m =>
      split
      · omega
      · have := ih (m := m) (by simpa using hm)
        simp only [List.getElem_cons_succ]
        omega
theorem fr_at {R : List (List Int)} {v : List Int} (h : v ∈ R) : R[fr_ R v]? = some v := by
  induction R with
  | nil => cases h
  | cons y ys ih =>
    simp only [fr_]
    by_cases c : y = v
    · rw [if_pos c]
      simp [c]
    · rw [if_neg c]
      simpa using ih ((List.mem_cons.1 h).resolve_left (fun e => c e.symm))
theorem index_l0 (v : List Int) (ys : List (List Int)) (j : Int) (h : v ∈ ys) : slices_IndexFunc_int_int_3.l0 v ys j = some (Sum.inl (j + (fr_ ys v : Int))) := by
  induction ys generalizing j with
  | nil => cases h
  | cons y ys ih =>
    simp only [slices_IndexFunc_int_int_3.l0, impl_Plan_firstSame_1.f, fr_]
    rw [equal_eq, Option.bind_some, Option.bind_some]
    by_cases c : y = v
    · rw [if_pos (decide_eq_true c.symm), if_pos c]
      simp
    · rw [if_neg (by simpa using fun e => c e.symm), if_neg c, ih _ ((List.mem_cons.1 h).resolve_left (fun e => c e.symm))]
      congr 2
      omega
/-- The first places of all rows. -/
def fl (R : List (List Int)) : List Int := R.map fun r => (fr_ R r : Int)
theorem first_l0 (R : List (List Int)) (ys : List (List Int)) (acc : List Int) (j : Int) (h : ∀ y ∈ ys, y ∈ R) (hb : acc.length + ys.length ≤ 1000) : impl_Plan_firstSame.l0 R ys acc j = some (acc ++ ys.map fun r => (fr_ R r : Int)) := by
  induction ys generalizing acc j with
  | nil => simp [impl_Plan_firstSame.l0]
  | cons y ys ih =>
    simp only [List.length_cons] at hb
    simp only [impl_Plan_firstSame.l0, slices_IndexFunc_int_int_3.f]
    rw [index_l0 y R 0 (h y List.mem_cons_self), Option.bind_some]
    simp only [Option.bind_some, Int.zero_add]
    rw [ap_ok (by simp; omega), Option.bind_some, ih _ _ (fun z hz => h z (List.mem_cons_of_mem _ hz)) (by rw [List.length_append, List.length_singleton]; omega)]
    simp
theorem firstSame_eq {I : Nat} {s : List SStep} {o : List Int} (h : Good I s o) : impl_Plan_firstSame.f (I : Int) s o = some (fl (exps I s)) := by
  have h1 := h.inp
  have h2 := h.stp
  obtain ⟨_, e, hr, hl⟩ := exps_ev I (by omega) s o (by omega) h.form.fs
  unfold impl_Plan_firstSame.f
  rw [e, Option.bind_some, first_l0 _ _ [] 0 (fun y hy => hy) (by simp; omega)]
  rfl
theorem pfirst_l1 (R : List (List Int)) (v : List Int) (hv : v ∈ R) (hR : R.length ≤ 1000) : ∀ (d j : Nat), j + d = fr_ R v → Ev (fun k => spec_plFirst.l1 R v k (j : Int)) (fr_ R v : Int) := by
  have hat := fr_at hv
  have hlt := (List.getElem?_eq_some_iff.1 hat).1
  have hne : ∀ (R : List (List Int)) (j : Nat) (hj : j < R.length), j < fr_ R v → R[j] ≠ v := by
    intro R
    induction R with
    | nil => intro j hj; simp at hj
    | cons y ys ih =>
      intro j hj hf
      simp only [fr_] at hf
      by_cases c : y = v
      · rw [if_pos c] at hf; omega
      · rw [if_neg c] at hf
        cases j with
        | zero => exact c
        | succ j => exact ih j (by simpa using hj) (by omega)
  intro d
  induction d with
  | zero =>
    intro j hj
    refine shift ?_
    simp only [spec_plFirst.l1]
    have hjl : j < R.length := by omega
    have e : R[j] = v := by
      have : R[j]? = some v := by rw [show j = fr_ R v by omega]; exact hat
      rw [List.getElem?_eq_getElem hjl] at this
      exact Option.some.inj this
    refine bind0 (gt_nat hjl) (bind0 (l1Same_eq _ _) (pos (decide_eq_true e) ?_))
    rw [show j = fr_ R v by omega]
    exact ret _
  | succ d ih =>
    intro j hj
    refine shift ?_
    simp only [spec_plFirst.l1]
    have hjl : j < R.length := by omega
    refine bind0 (gt_nat hjl) (bind0 (l1Same_eq _ _) (neg (by simpa using hne R j hjl (by omega)) ?_))
    rw [w64_id (by omega), show (j : Int) + 1 = ((j + 1 : Nat) : Int) by omega]
    exact ih (j + 1) (by omega)
theorem pfirst_l0 (R : List (List Int)) (hR : R.length ≤ 1000) : ∀ (d j : Nat) (acc : List Int), j + d = R.length → acc.length ≤ j → Ev (fun k => spec_plFirst.l0 k R (R.drop j) acc (j : Int)) (acc ++ (R.drop j).map fun r => (fr_ R r : Int)) := by
  intro d
  induction d with
  | zero =>
    intro j acc hj ha
    rw [List.drop_eq_nil_of_le (by omega)]
    simp only [spec_plFirst.l0, List.map_nil, List.append_nil]
    exact ret _
  | succ d ih =>
    intro j acc hj ha
    have hjl : j < R.length := by omega
    rw [List.drop_eq_getElem_cons hjl]
    simp only [spec_plFirst.l0]
    have hle := fr_le hjl
    have e1 := pfirst_l1 R R[j] (List.getElem_mem hjl) hR (fr_ R R[j]) 0 (by omega)
    have e2 : spec_l1Least.f (fr_ R R[j] : Int) (j : Int) = some (fr_ R R[j] : Int) := by
      unfold spec_l1Least.f
      by_cases c : (fr_ R R[j] : Int) < (j : Int)
      · rw [if_pos c]
      · rw [if_neg c]
        congr 1
        omega
    have := ih (j + 1) (acc ++ [(fr_ R R[j] : Int)]) (by omega) (by simp; omega)
    refine bind e1 (bind0 e2 (bind0 (ap_ok (by simp; omega)) ?_))
    rw [show (j : Int) + 1 = ((j + 1 : Nat) : Int) by omega]
    rw [List.append_assoc] at this
    rw [List.map_cons]
    exact this
theorem plFirst_ev {I : Nat} {s : List SStep} {o : List Int} (h : Good I s o) : Ev (fun k => spec_plFirst.f k (I : Int) s o) (fl (exps I s)) := by
  have h1 := h.inp
  have h2 := h.stp
  obtain ⟨e, _, hr, hl⟩ := exps_ev I (by omega) s o (by omega) h.form.fs
  unfold spec_plFirst.f
  have := pfirst_l0 (exps I s) (by omega) (exps I s).length 0 [] (by omega) (by simp)
  rw [List.drop_zero, List.nil_append] at this
  exact bind e (bind this (ret _))
/-- The first value with the same exponents. -/
def fi (I : Nat) (s : List SStep) : Int → Int := rg (fl (exps I s))
section
variable {I : Nat} {s : List SStep} {o : List Int}
theorem fl_len (h : Good I s o) : (fl (exps I s)).length = I + s.length := by
  obtain ⟨e1, _⟩ := exps_len h.inp h.stp h.ok
  simp [fl, e1]
theorem fi_in (h : Good I s o) {v : Int} (h0 : 0 ≤ v) (h1 : v < ((I + s.length : Nat) : Int)) : (0 ≤ fi I s v ∧ fi I s v ≤ v) ∧ (exps I s).getD (fi I s v).toNat [] = (exps I s).getD v.toNat [] ∧ fi I s v = (fr_ (exps I s) ((exps I s).getD v.toNat []) : Int) := by
  obtain ⟨e1, _⟩ := exps_len h.inp h.stp h.ok
  obtain ⟨m, rfl⟩ := Int.eq_ofNat_of_zero_le h0
  have hm : m < (exps I s).length := by omega
  have e : fi I s (m : Int) = (fr_ (exps I s) (exps I s)[m] : Int) := by
    unfold fi fl
    rw [rg_nat (by simpa using hm), List.getElem_map]
  have hg : (exps I s).getD m [] = (exps I s)[m] := by rw [List.getD_eq_getElem?_getD, List.getElem?_eq_getElem hm]; rfl
  have hle := fr_le hm
  have hat := fr_at (List.getElem_mem hm)
  rw [e, Int.toNat_natCast, Int.toNat_natCast, hg]
  refine ⟨by omega, ?_, rfl⟩
  rw [List.getD_eq_getElem?_getD, hat]
  rfl
theorem fi_row (h : Good I s o) {v : Int} (h0 : 0 ≤ v) (h1 : v < ((I + s.length : Nat) : Int)) (j : Nat) (hj : j < I) : rg (vl s (unitR I j)) (fi I s v) = rg (vl s (unitR I j)) v := by
  obtain ⟨a, b, _⟩ := fi_in h h0 h1
  rw [← (good_row h a.1 (by omega)).2 j hj, ← (good_row h h0 h1).2 j hj, b]
theorem fi_same (h : Good I s o) {u v : Int} (h0 : 0 ≤ u) (h1 : u < ((I + s.length : Nat) : Int)) (g0 : 0 ≤ v) (g1 : v < ((I + s.length : Nat) : Int)) (hr : ∀ j : Nat, j < I → rg (vl s (unitR I j)) u = rg (vl s (unitR I j)) v) : fi I s u = fi I s v := by
  rw [(fi_in h h0 h1).2.2, (fi_in h g0 g1).2.2]
  have r1 := good_row h h0 h1
  have r2 := good_row h g0 g1
  rw [row_ext r1.1 r2.1 fun j hj => by rw [r1.2 j hj, r2.2 j hj, hr j hj]]
theorem fi_fi (h : Good I s o) {v : Int} (h0 : 0 ≤ v) (h1 : v < ((I + s.length : Nat) : Int)) : fi I s (fi I s v) = fi I s v := by
  obtain ⟨a, _, _⟩ := fi_in h h0 h1
  exact fi_same h a.1 (by omega) h0 h1 fun j hj => fi_row h h0 h1 j hj
theorem fi_input (h : Good I s o) {v : Int} (h0 : 0 ≤ v) (h1 : v < (I : Int)) : fi I s v = v := by
  obtain ⟨a, _, _⟩ := fi_in h h0 (by omega)
  have := fi_row h h0 (by omega) v.toNat (by omega)
  rw [vl_pre _ _ a.1 (by rw [unitR_len]; omega), vl_pre _ _ h0 (by rw [unitR_len]; exact h1), unitR_rg (by omega) a.1 (by omega), unitR_rg (by omega) h0 h1, if_pos (show v = ((v.toNat : Nat) : Int) by omega)] at this
  by_cases c : fi I s v = ((v.toNat : Nat) : Int)
  · omega
  · rw [if_neg c] at this
    omega
/-- The shared plan. -/
def hS (I : Nat) (s : List SStep) : List SStep := s.map (shs (fi I s))
def hO (I : Nat) (s : List SStep) (o : List Int) : List Int := o.map (fi I s)
theorem hS_ok (h : Good I s o) : Ok I (hS I s) := shs_ok h.ok fun v h0 h1 => (fi_in h h0 h1).1
theorem hS_vl (h : Good I s o) (j : Nat) (hj : j < I) {v : Int} (h0 : 0 ≤ v) (h1 : v < ((I + s.length : Nat) : Int)) : rg (vl (hS I s) (unitR I j)) v = rg (vl s (unitR I j)) v := by
  have hl := unitR_len I j
  exact shs_vl (l := unitR I j) (by rw [hl]; exact h.ok) (fun v v0 v1 => (fi_in h v0 (by rw [hl] at v1; exact v1)).1) (fun v v0 v1 => fi_row h v0 (by rw [hl] at v1; exact v1) j hj) v h0 (by rw [hl]; exact h1)
theorem hS_len : (hS I s).length = s.length := by simp [hS]
theorem shared_good (h : Good I s o) : Good I (hS I s) (hO I s o) := by
  refine ⟨h.inp, by rw [hS_len]; exact h.stp, by simpa [hO] using h.out, hS_ok h, ?_, ?_⟩
  · intro y hy
    obtain ⟨v, hv, rfl⟩ := List.mem_map.1 hy
    have q := h.os v hv
    have := (fi_in h q.1 q.2).1
    rw [hS_len]
    omega
  · intro j hj v h0 h1
    rw [hS_len] at h1
    rw [hS_vl h j hj h0 h1]
    exact h.le j hj v h0 h1
/-- What stays is the first with its exponents. -/
theorem live_first (h : Good I s o) {v : Int} (h0 : 0 ≤ v) (h1 : v < ((I + s.length : Nat) : Int)) (hv : Lv I (us I (hS I s) (hO I s o)) v) : fi I s v = v := by
  rcases hv with hv | hv
  · exact fi_input h h0 hv
  · rcases (us_iff (hS_ok h)).1 hv with hv | ⟨j, y, hj, _, hy⟩
    · obtain ⟨u, hu, rfl⟩ := List.mem_map.1 hv
      have q := h.os u hu
      exact fi_fi h q.1 q.2
    · unfold hS at hj
      rw [List.getElem?_map] at hj
      obtain ⟨z, hz, rfl⟩ := Option.map_eq_some_iff.1 hj
      have q := h.ok.at hz
      have hm := (List.getElem?_eq_some_iff.1 hz).1
      have a0 := fi_fi h q.1 (by omega)
      have a1 := fi_fi h (v := z.f1) (by omega) (by omega)
      have : v = fi I s z.f0 ∨ v = fi I s z.f1 := by
        unfold shs mn mx at hy
        simp only at hy
        rcases hy with hy | hy <;> split at hy
        · exact .inr hy
        · exact .inl hy
        · exact .inr hy
        · exact .inl hy
      rcases this with e | e
      · rw [e]; exact a0
      · rw [e]; exact a1
end
theorem share_l0 (L : List Int) (ys acc : List SStep) (j : Int) (h : ∀ y ∈ ys, (0 ≤ y.f0 ∧ y.f0 < (L.length : Int)) ∧ (0 ≤ y.f1 ∧ y.f1 < (L.length : Int))) (hb : acc.length + ys.length ≤ 1000) : impl_SharePlan.l0 L ys acc j = some (acc ++ ys.map (shs (rg L))) := by
  induction ys generalizing acc j with
  | nil => simp [impl_SharePlan.l0]
  | cons y ys ih =>
    have q := h y List.mem_cons_self
    simp only [List.length_cons] at hb
    simp only [impl_SharePlan.l0, impl_step.f]
    rw [rg_gt q.1.1 q.1.2, Option.bind_some, rg_gt q.2.1 q.2.2, Option.bind_some, Option.bind_some, ap_ok (by simp; omega), Option.bind_some, ih _ _ (fun z hz => h z (List.mem_cons_of_mem _ hz)) (by rw [List.length_append, List.length_singleton]; omega)]
    simp [shs]
theorem sshare_l0 (L : List Int) (ys acc : List SStep) (j : Int) (h : ∀ y ∈ ys, (0 ≤ y.f0 ∧ y.f0 < (L.length : Int)) ∧ (0 ≤ y.f1 ∧ y.f1 < (L.length : Int))) (hb : acc.length + ys.length ≤ 1000) : spec_SharePlan.l0 L ys acc j = some (acc ++ ys.map (shs (rg L))) := by
  induction ys generalizing acc j with
  | nil => simp [spec_SharePlan.l0]
  | cons y ys ih =>
    have q := h y List.mem_cons_self
    simp only [List.length_cons] at hb
    simp only [spec_SharePlan.l0]
    rw [rg_gt q.1.1 q.1.2, Option.bind_some, rg_gt q.2.1 q.2.2, Option.bind_some, plStep_eq, Option.bind_some, ap_ok (by simp; omega), Option.bind_some, ih _ _ (fun z hz => h z (List.mem_cons_of_mem _ hz)) (by rw [List.length_append, List.length_singleton]; omega)]
    simp [shs]
theorem sshare_l1 (L ys acc : List Int) (j : Int) (h : ∀ y ∈ ys, 0 ≤ y ∧ y < (L.length : Int)) (hb : acc.length + ys.length ≤ 1000) : spec_SharePlan.l1 L ys acc j = some (acc ++ ys.map (rg L)) := by
  induction ys generalizing acc j with
  | nil => simp [spec_SharePlan.l1]
  | cons y ys ih =>
    have q := h y List.mem_cons_self
    simp only [List.length_cons] at hb
    simp only [spec_SharePlan.l1]
    rw [rg_gt q.1 q.2, Option.bind_some, ap_ok (by simp; omega), Option.bind_some, ih _ _ (fun z hz => h z (List.mem_cons_of_mem _ hz)) (by rw [List.length_append, List.length_singleton]; omega)]
    simp
theorem share_ev {I : Nat} {s : List SStep} {o : List Int} (h : Good I s o) : Ev (fun k => impl_SharePlan.f k (I : Int) s o) ((I : Int), kS I (hS I s) (hO I s o), kO I (hS I s) (hO I s o), true) ∧ Ev (fun k => spec_SharePlan.f k (I : Int) s o) ((I : Int), kS I (hS I s) (hO I s o), kO I (hS I s) (hO I s o), true) := by
  have h1 := h.inp
  have h2 := h.stp
  have h3 := h.out
  have p1 := plGood_ev (I : Int) s o
  have p2 := isPlan_ev (I : Int) s o
  rw [good_iff.2 h] at p1 p2
  have hl := fl_len h
  have hm : ∀ y ∈ s, (0 ≤ y.f0 ∧ y.f0 < ((fl (exps I s)).length : Int)) ∧ (0 ≤ y.f1 ∧ y.f1 < ((fl (exps I s)).length : Int)) := by rw [hl]; exact h.form.mem
  have ho : ∀ y ∈ o, 0 ≤ y ∧ y < ((fl (exps I s)).length : Int) := by rw [hl]; exact h.os
  have hg := shared_good h
  unfold impl_SharePlan.f spec_SharePlan.f
  constructor
  · exact bind p2 (pos rfl (bind0 (firstSame_eq h) (bind0 (a := hO I s o) (by rw [ren_eq _ _ ho (by omega)]; rfl) (bind0 (share_l0 _ _ [] 0 hm (by simp; omega)) (bind0 (trimmed_eq hg) (ret _))))))
  · exact bind p1 (pos rfl (bind (plFirst_ev h) (bind0 (sshare_l0 _ _ [] 0 hm (by simp; omega)) (bind0 (sshare_l1 _ _ [] 0 ho (by simp; omega)) (bind (plUsed_ev hg) (bind0 (plKeep_eq hg) (ret _)))))))
theorem share_no {i : Int} {s : List SStep} {o : List Int} (h : good i s o = false) : Ev (fun k => impl_SharePlan.f k i s o) (0, [], [], false) ∧ Ev (fun k => spec_SharePlan.f k i s o) (0, [], [], false) := by
  have p1 := plGood_ev i s o
  have p2 := isPlan_ev i s o
  rw [h] at p1 p2
  unfold impl_SharePlan.f spec_SharePlan.f
  exact ⟨bind p2 (neg (by simp) (ret _)), bind p1 (neg (by simp) (ret _))⟩
theorem iota_l0 (n : Nat) (f : Nat → Int) (hf : ∀ i, i < n → f i = (i : Int)) : ∀ (d j : Nat), j + d = n → laws_FnSharedPlans.l0 (((List.range n).map f).drop j) (j : Int) = some (Sum.inr ()) := by
  intro d
  induction d with
  | zero =>
    intro j hj
    rw [List.drop_eq_nil_of_le (by simp; omega)]
    rfl
  | succ d ih =>
    intro j hj
    rw [List.drop_eq_getElem_cons (show j < ((List.range n).map f).length by simp; omega)]
    simp only [laws_FnSharedPlans.l0, List.getElem_map, List.getElem_range]
    rw [hf j (by omega), if_neg (by simp), show (j : Int) + 1 = ((j + 1 : Nat) : Int) by omega]
    exact ih (j + 1) (by omega)
theorem FnSharedPlans : laws_FnSharedPlans.Pure := by
  intro l0 l1 hl0 hb0 hl1 hb1
  refine some_of ?_
  unfold laws_FnSharedPlans.f
  obtain ⟨b, e0, hb⟩ := big_eq l0 l1 hl0 hl1
  refine bind0 e0 ?_
  cases b with
  | true => exact pos rfl (ret _)
  | false =>
    refine neg (by simp) ?_
    obtain ⟨i, s, o, a, sd, e1, ls, lo, b1⟩ := drawAny (byte_in hb0) (hb rfl).1 0 0 2 9 (by omega) 1000 ⟨by omega, by omega⟩
    refine bind (a := (i, s, o)) ?_ ?_
    · unfold spec_DrawSharePlan.f
      exact bind e1 (ret _)
    cases hg : good i s o with
    | false =>
      obtain ⟨f1, f2⟩ := share_no hg
      exact bind f1 (bind f2 (neg (by simp) (bind0 (pSamePlan_refl _ _ _) (pos rfl (neg (by simp) (ret _))))))
    | true =>
      obtain ⟨I, rfl, h⟩ := good_Good hg
      have h1 := h.inp
      have h2 := h.stp
      have hH := shared_good h
      have hK := kept_good hH
      obtain ⟨f1, f2⟩ := share_ev h
      have it := isTrim_ev hK
      rw [kept_kp hH, decide_eq_true rfl] at it
      have hsame : Ev (fun k => impl_SamePowers.f k (I : Int) s o (I : Int) (kS I (hS I s) (hO I s o)) (kO I (hS I s) (hO I s o))) (true, true) := by
        refine same_yes h hK (by simp [kO, hO]) fun i hi j hj => ?_
        have q := h.os o[i] (List.getElem_mem hi)
        have f := (fi_in h q.1 q.2).1
        have e : rg (kO I (hS I s) (hO I s o)) (i : Int) = pl I (us I (hS I s) (hO I s o)) (fi I s o[i]) := by
          unfold kO
          rw [rg_nat (by simpa [hO] using hi), List.getElem_map]
          simp [hO]
        have hu : us I (hS I s) (hO I s o) (fi I s o[i]) = true := us_out (List.mem_map_of_mem (List.getElem_mem hi))
        have ht := ts_vl (unitR I j) (unitR_len I j) (hS I s) (hS_ok h) (us_cl (o := hO I s o) (hS_ok h)) (fi I s o[i]) f.1 (by rw [hS_len]; omega) (.inr hu)
        rw [e, rg_nat hi]
        unfold kS
        rw [ht, hS_vl h j hj f.1 (by omega), fi_row h q.1 q.2 j hj]
      have hfirst : Ev (fun k => impl_FirstExponents.f k (I : Int) (kS I (hS I s) (hO I s o)) (kO I (hS I s) (hO I s o))) (fl (exps I (kS I (hS I s) (hO I s o))), true) := by
        have e := isPlan_ev (I : Int) (kS I (hS I s) (hO I s o)) (kO I (hS I s) (hO I s o))
        rw [good_iff.2 hK] at e
        unfold impl_FirstExponents.f
        exact bind e (pos rfl (bind0 (firstSame_eq hK) (ret _)))
      have hlk := kS_len I (hS I s) (hO I s o)
      rw [hS_len] at hlk
      have hll := fl_len hK
      -- no two have the same exponents
      have hid : ∀ w : Int, 0 ≤ w → w < ((I + (kS I (hS I s) (hO I s o)).length : Nat) : Int) → fi I (kS I (hS I s) (hO I s o)) w = w := by
        intro w w0 w1
        obtain ⟨fa, _, _⟩ := fi_in hK w0 w1
        have fr := fi_row hK w0 w1
        have w1' := w1
        unfold kS at w1'
        rw [ts_len] at w1'
        obtain ⟨u, hu⟩ : ∃ u, fi I (kS I (hS I s) (hO I s o)) w = u := ⟨_, rfl⟩
        rw [hu] at fa fr ⊢
        have u1 : u < ((I + (vals (hS I s).length fun j => us I (hS I s) (hO I s o) ((I : Int) + j)).length : Nat) : Int) := by omega
        obtain ⟨x, x0, x1, x2, rfl⟩ := ts_onto (hS I s) w w0 w1'
        obtain ⟨y, y0, y1, y2, rfl⟩ := ts_onto (hS I s) u fa.1 u1
        rw [hS_len] at x1 y1
        have key : fi I s x = fi I s y := fi_same h x0 x1 y0 y1 fun j hj => by
          have a := ts_vl (unitR I j) (unitR_len I j) (hS I s) (hS_ok h) (us_cl (o := hO I s o) (hS_ok h))
          have ax := a x x0 (by rw [hS_len]; exact x1) x2
          have ay := a y y0 (by rw [hS_len]; exact y1) y2
          have r := fr j hj
          unfold kS at r
          rw [ax, ay, hS_vl h j hj x0 x1, hS_vl h j hj y0 y1] at r
          exact r.symm
        rw [live_first h x0 x1 x2, live_first h y0 y1 y2] at key
        rw [key]
      have hfl : fl (exps I (kS I (hS I s) (hO I s o))) = (List.range (I + (kS I (hS I s) (hO I s o)).length)).map fun (i : Nat) => fi I (kS I (hS I s) (hO I s o)) (i : Int) := by
        refine List.ext_getElem (by simp [hll]) fun i a1 a2 => ?_
        simp only [List.getElem_map, List.getElem_range]
        unfold fi
        rw [rg_nat a1]
      have hloop := iota_l0 (I + (kS I (hS I s) (hO I s o)).length) (fun (i : Nat) => fi I (kS I (hS I s) (hO I s o)) (i : Int)) (fun i hi => hid (i : Int) (by omega) (by omega)) (I + (kS I (hS I s) (hO I s o)).length) 0 (by omega)
      rw [List.drop_zero, ← hfl, show ((0 : Nat) : Int) = 0 from rfl] at hloop
      refine bind f1 (bind f2 (neg (by simp) (bind0 (pSamePlan_refl _ _ _) (pos rfl (pos rfl ?_)))))
      refine bind hsame (bind it (bind hfirst (pos rfl (pos rfl (pos rfl (pos rfl (pos rfl (neg (by omega) (neg ?_ (bind0 hloop (ret _)))))))))))
      rw [hll, w64_id (by omega)]
      omega
end Go.Proofs.Ytoegbcbdiggbjaa.Pure
