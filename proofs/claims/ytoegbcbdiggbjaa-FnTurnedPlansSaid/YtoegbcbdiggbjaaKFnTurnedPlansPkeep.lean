/- Pure: the used steps of a plan, and the plan of these alone, as the documentation has them. -/
import Derived.Test.YtoegbcbdiggbjaaKFnTurnedPlansPtrim
set_option linter.unusedVariables false
set_option linter.unusedSimpArgs false
namespace Go.Proofs.Ytoegbcbdiggbjaa.Pure
open Go.RowKit Go.Proofs.Ytoegbcbdiggbjaa.E Go.Proofs.Ytoegbcbdiggbjaa.TU Go.Proofs.Ytoegbcbdiggbjaa.Frame Go.Proofs.YtoegbcbdiggbjaaW.PrintLast Go.Proofs.YtoegbcbdiggbjaaW.PrintMore
open Go.Proofs.YtoegbcbdiggbjaaW.PrintWords hiding mn mx
theorem upK {α : Type} {g : Nat → Option α} {r : α} (c : Nat) (h : Ev g r) : Ev (fun k => g (k + c)) r := by
  obtain ⟨K, h⟩ := h
  exact ⟨K, fun n hn => h (n + c) (by omega)⟩
/-- The numbers of the used steps. -/
def kp (I : Nat) (s : List SStep) (o : List Int) : List Int := vals s.length fun j => us I s o ((I : Int) + j)
theorem used_l0 {I : Nat} {s : List SStep} {o : List Int} (h : Good I s o) : ∀ (m : Nat), m ≤ s.length → ∀ (c : Nat) (L : List Int), (∀ v, v ∈ L ↔ us (I + m) (s.drop m) o v = true) → L.length + 2 * m ≤ 1000 → ∃ L', Ev (fun k => spec_plUsed.l0 (k + c) (I : Int) s k L (vals s.length fun j => decide ((m : Int) ≤ j) && us I s o ((I : Int) + j)) ((m : Int) - 1)) (L', kp I s o) := by
  have h1 := h.inp
  have h2 := h.stp
  intro m
  induction m with
  | zero =>
    intro _ c L hL hb
    refine ⟨L, shift ?_⟩
    simp only [spec_plUsed.l0]
    refine neg (by omega) ?_
    have e : (vals s.length fun j => decide (((0 : Nat) : Int) ≤ j) && us I s o ((I : Int) + j)) = kp I s o := vals_congr fun v v0 _ => by
      rw [decide_eq_true (by omega)]
      rfl
    rw [e]
    exact ret _
  | succ m ih =>
    intro hm c L hL hb
    have hml : m < s.length := by omega
    have q := h.ok.at (List.getElem?_eq_getElem hml)
    have ei : ((m + 1 : Nat) : Int) - 1 = (m : Int) := by omega
    have ek : ∀ k, k + 1 + c = k + (c + 1) := by omega
    have hb1 : decide ((I : Int) + (m : Int) ∈ L) = us I s o ((I : Int) + (m : Int)) := by
      have := hL ((I : Int) + (m : Int))
      rw [← us_drop h.ok (m + 1) hm (by omega)] at this
      cases c : us I s o ((I : Int) + (m : Int)) with
      | true => exact decide_eq_true (this.2 c)
      | false => exact decide_eq_false fun hx => by rw [this.1 hx] at c; cases c
    have hdrop : s.drop m = s[m] :: s.drop (m + 1) := List.drop_eq_getElem_cons hml
    have hnow : us (I + m + 1) (s.drop (m + 1)) o ((I + m : Nat) : Int) = us I s o ((I : Int) + (m : Int)) := by
      have := us_drop (o := o) h.ok (m + 1) hm (v := ((I + m : Nat) : Int)) (by omega)
      rw [show (I : Int) + (m : Int) = ((I + m : Nat) : Int) by omega, this]
      rfl
    cases cu : us I s o ((I : Int) + (m : Int)) with
    | true =>
      rw [cu] at hb1 hnow
      obtain ⟨L', e'⟩ := ih (by omega) (c + 1) (L ++ [s[m].f0, s[m].f1]) (fun v => by
        rw [List.mem_append, hL v, hdrop]
        simp only [us, Bool.or_eq_true, Bool.and_eq_true, decide_eq_true_eq, hnow, List.mem_cons, List.not_mem_nil, or_false, true_and]
        rfl) (by simp; omega)
      refine ⟨L', shift ?_⟩
      simp only [spec_plUsed.l0, ei, ek]
      refine pos (by omega) (bind0 (l1Has_eq _ _) ?_)
      rw [zax (x := (I : Int) + (m : Int)) (by omega), hb1]
      refine pos rfl (bind0 (gt_nat hml) (bind0 (gt_nat hml) (bind0 (ap_ok (by simp; omega)) ?_)))
      have hv := vals_len s.length (fun j => decide (((m + 1 : Nat) : Int) ≤ j) && us I s o ((I : Int) + j))
      have hp := put_ev (vals s.length fun j => decide (((m + 1 : Nat) : Int) ≤ j) && us I s o ((I : Int) + j)) (m : Int) (by omega)
      rw [put_vals (by omega) (by omega)] at hp
      refine bind (upK (c + 1) hp) ?_
      rw [zax (by omega)]
      have ev : (vals s.length fun u => (decide (((m + 1 : Nat) : Int) ≤ u) && us I s o ((I : Int) + u)) || decide (u = (m : Int))) = (vals s.length fun j => decide ((m : Int) ≤ j) && us I s o ((I : Int) + j)) := vals_congr fun v v0 v1 => by
        by_cases e : v = (m : Int)
        · subst e
          rw [cu]
          simp
        · rw [decide_eq_false e, Bool.or_false]
          congr 1
          exact decide_eq_decide.2 (by omega)
      rw [ev]
      exact e'
    | false =>
      rw [cu] at hb1 hnow
      obtain ⟨L', e'⟩ := ih (by omega) (c + 1) L (fun v => by
        rw [hL v, hdrop]
        simp only [us, hnow, Bool.false_and, Bool.or_false]
        rfl) (by omega)
      refine ⟨L', shift ?_⟩
      simp only [spec_plUsed.l0, ei, ek]
      refine pos (by omega) (bind0 (l1Has_eq _ _) ?_)
      rw [zax (x := (I : Int) + (m : Int)) (by omega), hb1]
      refine neg (by simp) ?_
      rw [zax (by omega)]
      have ev : (vals s.length fun j => decide (((m + 1 : Nat) : Int) ≤ j) && us I s o ((I : Int) + j)) = (vals s.length fun j => decide ((m : Int) ≤ j) && us I s o ((I : Int) + j)) := vals_congr fun v v0 v1 => by
        by_cases e : v = (m : Int)
        · subst e
          rw [cu]
          simp
        · congr 1
          exact decide_eq_decide.2 (by omega)
      rw [ev]
      exact e'
theorem plUsed_ev {I : Nat} {s : List SStep} {o : List Int} (h : Good I s o) : Ev (fun k => spec_plUsed.f k (I : Int) s o) (kp I s o) := by
  have h2 := h.stp
  have h3 := h.out
  obtain ⟨L', e⟩ := used_l0 h s.length (Nat.le_refl _) 0 o (fun v => by
    rw [List.drop_length]
    simp [us]) (by omega)
  have ev : (vals s.length fun j => decide ((s.length : Int) ≤ j) && us I s o ((I : Int) + j)) = [] := by
    unfold vals
    refine List.filter_eq_nil_iff.2 fun x hx => ?_
    obtain ⟨j, hj, rfl⟩ := List.mem_map.1 hx
    have := List.mem_range.1 hj
    rw [decide_eq_false (by omega)]
    simp
  rw [ev] at e
  unfold spec_plUsed.f
  refine bind0 (l1Own_eq _ (by omega)) (bind (a := (L', kp I s o)) ?_ (ret _))
  rw [zax (by omega)]
  exact e
/-! the plan of some steps -/
theorem idx_vals {M : Nat} {p : Int → Bool} {x : Nat} (hx : x < M) (hp : p (x : Int) = true) : idx (vals M p) (x : Int) 0 = ((vals x p).length : Int) := by
  have key : ∀ d, ∃ t, vals (x + 1 + d) p = vals x p ++ ((x : Int) :: t) := by
    intro d
    induction d with
    | zero => exact ⟨[], by rw [Nat.add_zero, vals_succ, if_pos hp]⟩
    | succ d ih =>
      obtain ⟨t, e⟩ := ih
      rw [← Nat.add_assoc, vals_succ, e]
      exact ⟨t ++ (if p ((x + 1 + d : Nat) : Int) = true then [((x + 1 + d : Nat) : Int)] else []), by rw [List.append_assoc]; rfl⟩
  obtain ⟨t, e⟩ := key (M - (x + 1))
  rw [show x + 1 + (M - (x + 1)) = M by omega] at e
  have := idx_at (vals_sorted M p) (m := (vals x p).length) (v := (x : Int)) (by rw [e]; simp) 0
  omega
theorem number_eq {I : Nat} {s : List SStep} {o : List Int} {U : Int → Bool} (hI : I ≤ 1000) (hs : s.length ≤ 1000) {v : Int} (h0 : 0 ≤ v) (h1 : v < ((I + s.length : Nat) : Int)) (hv : Lv I U v) : spec_plNumber.f (I : Int) s o (vals s.length fun j => U ((I : Int) + j)) v = some (pl I U v) := by
  unfold spec_plNumber.f pl
  by_cases c : v < (I : Int)
  · rw [if_pos c, if_pos c]
  · rw [if_neg c, if_neg c, zax (x := v - (I : Int)) (by omega), place_eq, Option.bind_some]
    obtain ⟨x, hx⟩ : ∃ x : Nat, v - (I : Int) = (x : Int) := ⟨(v - (I : Int)).toNat, by omega⟩
    have hp : U ((I : Int) + (x : Int)) = true := by
      rw [← hx, show (I : Int) + (v - (I : Int)) = v by omega]
      exact hv.resolve_left c
    rw [hx, idx_vals (p := fun j => U ((I : Int) + j)) (by omega) hp, Int.toNat_natCast]
    have := vals_len x (fun j => U ((I : Int) + j))
    rw [zax (by omega)]
def sp (I : Nat) (U : Int → Bool) (s : List SStep) (i : Int) : SStep := ⟨pl I U (s.getD i.toNat ⟨0, 0⟩).f0, pl I U (s.getD i.toNat ⟨0, 0⟩).f1⟩
theorem ts_map {I : Nat} {U : Int → Bool} : ∀ s : List SStep, Ok I s → Cl I U s → ts I U s = (vals s.length fun j => U ((I : Int) + j)).map (sp I U s) := by
  refine ind_snoc (fun _ _ => rfl) fun s y ih hs hc => ?_
  obtain ⟨o1, o2⟩ := Ok.append.1 hs
  have q := o2.1
  obtain ⟨c1, c2⟩ := hc.init
  rw [ts_snoc I U s y q.1 q.2.1 q.2.2 c2, List.length_append, List.length_singleton, vals_succ, List.map_append, ih o1 c1]
  have e : (vals s.length fun j => U ((I : Int) + j)).map (sp I U s) = (vals s.length fun j => U ((I : Int) + j)).map (sp I U (s ++ [y])) := List.map_congr_left fun x hx => by
    have := (vals_mem.1 hx).1
    unfold sp
    rw [List.getD_eq_getElem?_getD, List.getD_eq_getElem?_getD, List.getElem?_append_left (by omega)]
  rw [e, show ((I + s.length : Nat) : Int) = (I : Int) + (s.length : Int) by omega]
  by_cases c : U ((I : Int) + (s.length : Int)) = true
  · rw [if_pos c, if_pos c]
    simp [sp]
  · rw [if_neg c, if_neg c]
    simp
theorem keep_l0 {I : Nat} {s : List SStep} {o : List Int} {U : Int → Bool} (hI : I ≤ 1000) (hsl : s.length ≤ 1000) (hs : Ok I s) (hc : Cl I U s) (ks : List Int) (acc : List SStep) (j : Int) (hk : ∀ x ∈ ks, (0 ≤ x ∧ x < (s.length : Int)) ∧ U ((I : Int) + x) = true) (hb : acc.length + ks.length ≤ 100000) : spec_plKeep.l0 (I : Int) s o (vals s.length fun j => U ((I : Int) + j)) ks acc j = some (acc ++ ks.map (sp I U s)) := by
  induction ks generalizing acc j with
  | nil => simp [spec_plKeep.l0]
  | cons x xs ih =>
    obtain ⟨⟨x0, x1⟩, hu⟩ := hk x List.mem_cons_self
    obtain ⟨m, rfl⟩ := Int.eq_ofNat_of_zero_le x0
    have hm : m < s.length := by omega
    simp only [List.length_cons] at hb
    have q := hs.at (List.getElem?_eq_getElem hm)
    have hcl := hc m s[m] (List.getElem?_eq_getElem hm) (by rw [← hu]; congr 1)
    simp only [spec_plKeep.l0]
    rw [gt_nat hm, Option.bind_some, number_eq hI hsl q.1 (by omega) hcl.1, Option.bind_some, number_eq hI hsl (by omega) (by omega) hcl.2, Option.bind_some, plStep_eq, Option.bind_some, ap_ok (by simp; omega), Option.bind_some, ih _ _ (fun z hz => hk z (List.mem_cons_of_mem _ hz)) (by rw [List.length_append, List.length_singleton]; omega)]
    have hle := pl_le (U := U) q.1 q.2.1 hcl.1
    rw [mn_of_le hle, mx_of_le hle]
    simp [sp, hm]
theorem keep_l1 {I : Nat} {s : List SStep} {o : List Int} {U : Int → Bool} (hI : I ≤ 1000) (hsl : s.length ≤ 1000) (ys acc : List Int) (j : Int) (hk : ∀ x ∈ ys, (0 ≤ x ∧ x < ((I + s.length : Nat) : Int)) ∧ Lv I U x) (hb : acc.length + ys.length ≤ 100000) : spec_plKeep.l1 (I : Int) s o (vals s.length fun j => U ((I : Int) + j)) ys acc j = some (acc ++ ys.map (pl I U)) := by
  induction ys generalizing acc j with
  | nil => simp [spec_plKeep.l1]
  | cons x xs ih =>
    obtain ⟨⟨x0, x1⟩, hu⟩ := hk x List.mem_cons_self
    simp only [List.length_cons] at hb
    simp only [spec_plKeep.l1]
    rw [number_eq hI hsl x0 x1 hu, Option.bind_some, ap_ok (by simp; omega), Option.bind_some, ih _ _ (fun z hz => hk z (List.mem_cons_of_mem _ hz)) (by rw [List.length_append, List.length_singleton]; omega)]
    simp
/-- The used steps alone. -/
def kS (I : Nat) (s : List SStep) (o : List Int) : List SStep := ts I (us I s o) s
def kO (I : Nat) (s : List SStep) (o : List Int) : List Int := o.map (pl I (us I s o))
theorem us_cl {I : Nat} {s : List SStep} {o : List Int} (hs : Ok I s) : Cl I (us I s o) s := fun j y hj hu => ⟨.inr (us_fac hs hj hu).1, .inr (us_fac hs hj hu).2⟩
theorem plKeep_eq {I : Nat} {s : List SStep} {o : List Int} (h : Good I s o) : spec_plKeep.f (I : Int) s o (kp I s o) = some (kS I s o, kO I s o) := by
  have h1 := h.inp
  have h2 := h.stp
  have h3 := h.out
  have hv := vals_len s.length (fun j => us I s o ((I : Int) + j))
  unfold spec_plKeep.f kp
  rw [keep_l0 (by omega) (by omega) h.ok (us_cl h.ok) _ [] 0 (fun x hx => vals_mem.1 hx) (by simp; omega), Option.bind_some, keep_l1 (by omega) (by omega) o [] 0 (fun x hx => ⟨h.os x hx, .inr (us_out hx)⟩) (by simp; omega), Option.bind_some, List.nil_append, List.nil_append]
  unfold kS kO
  rw [ts_map s h.ok (us_cl h.ok)]
theorem kS_len (I : Nat) (s : List SStep) (o : List Int) : (kS I s o).length ≤ s.length := by
  unfold kS
  rw [ts_len]
  exact vals_len _ _
theorem kept_good {I : Nat} {s : List SStep} {o : List Int} (h : Good I s o) : Good I (kS I s o) (kO I s o) := by
  have hc := us_cl (o := o) h.ok
  refine ⟨h.inp, Nat.le_trans (kS_len I s o) h.stp, by unfold kO; rw [List.length_map]; exact h.out, ts_ok s h.ok hc, ?_, ?_⟩
  · intro y hy
    obtain ⟨v, hv, rfl⟩ := List.mem_map.1 hy
    have q := h.os v hv
    exact ⟨pl_ge q.1, pl_in q.1 q.2 (.inr (us_out hv))⟩
  · intro j hj w w0 w1
    unfold kS at w1
    rw [ts_len] at w1
    obtain ⟨v, v0, v1, v2, rfl⟩ := ts_onto s w w0 w1
    have := ts_vl (unitR I j) (unitR_len I j) s h.ok hc v v0 v1 v2
    unfold kS
    rw [this]
    exact h.le j hj v v0 v1
end Go.Proofs.Ytoegbcbdiggbjaa.Pure
