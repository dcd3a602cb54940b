/- Pure: the used values of steps that are not yet a plan; the greatest of a list. -/
import Derived.Test.YtiaohjciddbpoaaKFnExactSlidingPlanPused
import Derived.Test.YtiaohjciddbpoaaKFnExactSlidingPlanPlaws
set_option linter.unusedVariables false
set_option linter.unusedSimpArgs false
namespace Go.Proofs.Ytiaohjciddbpoaa.Pure
open Go.RowKit Go.Proofs.Ytiaohjciddbpoaa.E Go.Proofs.Ytiaohjciddbpoaa.H2 Go.Proofs.Ytiaohjciddbpoaa.Frame Go.Proofs.YtiaohjciddbpoaaW.PrintLast Go.Proofs.YtiaohjciddbpoaaW.PrintMore
open Go.Proofs.YtiaohjciddbpoaaW.PrintWords hiding mn mx
/-- Steps that a maker may have made. -/
structure Gd (I : Nat) (s : List SStep) (o : List Int) : Prop where
  inp : 1 ≤ I ∧ I ≤ 6
  stp : s.length ≤ 200
  out : o.length ≤ 6
  ok : Ok I s
  os : ∀ y ∈ o, 0 ≤ y ∧ y < ((I + s.length : Nat) : Int)
theorem used_l0W {I : Nat} {s : List SStep} {o : List Int} (h : Gd I s o) : ∀ (m : Nat), m ≤ s.length → ∀ (c : Nat) (L : List Int), (∀ v, v ∈ L ↔ us (I + m) (s.drop m) o v = true) → L.length + 2 * m ≤ 1000 → ∃ L', Ev (fun k => spec_plUsed.l0 (k + c) (I : Int) s k L (vals s.length fun j => decide ((m : Int) ≤ j) && us I s o ((I : Int) + j)) ((m : Int) - 1)) (L', kp I s o) := by
  have h1 := h.inp
  have h2 := h.stp
  intro m
  induction m with
  | zero =>
    intro _ c L hL hb
    refine ⟨L, shift ?_⟩
    simp only [spec_plUsed.l0]
    refine neg (by omega) ?_
    have e : (vals s.length fun j => decide (((0 : Nat) : Int) ≤ j) && us I s o ((I : Int) + j)) = kp I s o := vals_congr fun v v0 _ => by
      rw [decide_eq_true (by omega)]
      rfl
    rw [e]
    exact ret _
  | succ m ih =>
    intro hm c L hL hb
    have hml : m < s.length := by omega
    have q := h.ok.at (List.getElem?_eq_getElem hml)
    have ei : ((m + 1 : Nat) : Int) - 1 = (m : Int) := by omega
    have ek : ∀ k, k + 1 + c = k + (c + 1) := by omega
    have hb1 : decide ((I : Int) + (m : Int) ∈ L) = us I s o ((I : Int) + (m : Int)) := by
      have := hL ((I : Int) + (m : Int))
      rw [← us_drop h.ok (m + 1) hm (by omega)] at this
      cases c : us I s o ((I : Int) + (m : Int)) with
      | true => exact decide_eq_true (this.2 c)
      | false => exact decide_eq_false fun hx => by rw [this.1 hx] at c; cases c
    have hdrop : s.drop m = s[m] :: s.drop (m + 1) := List.drop_eq_getElem_cons hml
    have hnow : us (I + m + 1) (s.drop (m + 1)) o ((I + m : Nat) : Int) = us I s o ((I : Int) + (m : Int)) := by
      have := us_drop (o := o) h.ok (m + 1) hm (v := ((I + m : Nat) : Int)) (by omega)
      rw [show (I : Int) + (m : Int) = ((I + m : Nat) : Int) by omega, this]
      rfl
    cases cu : us I s o ((I : Int) + (m : Int)) with
    | true =>
      rw [cu] at hb1 hnow
      obtain ⟨L', e'⟩ := ih (by omega) (c + 1) (L ++ [s[m].f0, s[m].f1]) (fun v => by
        rw [List.mem_append, hL v, hdrop]
        simp only [us, Bool.or_eq_true, Bool.and_eq_true, decide_eq_true_eq, hnow, List.mem_cons, List.not_mem_nil, or_false, true_and]
        rfl) (by simp; omega)
      refine ⟨L', shift ?_⟩
      simp only [spec_plUsed.l0, ei, ek]
      refine pos (by omega) (bind0 (l1Has_eq _ _) ?_)
      rw [zat (x := (I : Int) + (m : Int)) (by omega), hb1]
      refine pos rfl (bind0 (gt_nat hml) (bind0 (gt_nat hml) (bind0 (ap_ok (by simp; omega)) ?_)))
      have hv := vals_len s.length (fun j => decide (((m + 1 : Nat) : Int) ≤ j) && us I s o ((I : Int) + j))
      have hp := put_ev (vals s.length fun j => decide (((m + 1 : Nat) : Int) ≤ j) && us I s o ((I : Int) + j)) (m : Int) (by omega)
      rw [put_vals (by omega) (by omega)] at hp
      refine bind (upK (c + 1) hp) ?_
      rw [zat (by omega)]
      have ev : (vals s.length fun u => (decide (((m + 1 : Nat) : Int) ≤ u) && us I s o ((I : Int) + u)) || decide (u = (m : Int))) = (vals s.length fun j => decide ((m : Int) ≤ j) && us I s o ((I : Int) + j)) := vals_congr fun v v0 v1 => by
        by_cases e : v = (m : Int)
        · subst e
          rw [cu]
          simp
        · rw [decide_eq_false e, Bool.or_false]
          congr 1
          exact decide_eq_decide.2 (by omega)
      rw [ev]
      exact e'
    | false =>
      rw [cu] at hb1 hnow
      obtain ⟨L', e'⟩ := ih (by omega) (c + 1) L (fun v => by
        rw [hL v, hdrop]
        simp only [us, hnow, Bool.false_and, Bool.or_false]
        rfl) (by omega)
      refine ⟨L', shift ?_⟩
      simp only [spec_plUsed.l0, ei, ek]
      refine pos (by omega) (bind0 (l1Has_eq _ _) ?_)
      rw [zat (x := (I : Int) + (m : Int)) (by omega), hb1]
      refine neg (by simp) ?_
      rw [zat (by omega)]
      have ev : (vals s.length fun j => decide (((m + 1 : Nat) : Int) ≤ j) && us I s o ((I : Int) + j)) = (vals s.length fun j => decide ((m : Int) ≤ j) && us I s o ((I : Int) + j)) := vals_congr fun v v0 v1 => by
        by_cases e : v = (m : Int)
        · subst e
          rw [cu]
          simp
        · congr 1
          exact decide_eq_decide.2 (by omega)
      rw [ev]
      exact e'
theorem plUsed_evW {I : Nat} {s : List SStep} {o : List Int} (h : Gd I s o) : Ev (fun k => spec_plUsed.f k (I : Int) s o) (kp I s o) := by
  have h2 := h.stp
  have h3 := h.out
  obtain ⟨L', e⟩ := used_l0W h s.length (Nat.le_refl _) 0 o (fun v => by
    rw [List.drop_length]
    simp [us]) (by omega)
  have ev : (vals s.length fun j => decide ((s.length : Int) ≤ j) && us I s o ((I : Int) + j)) = [] := by
    unfold vals
    refine List.filter_eq_nil_iff.2 fun x hx => ?_
    obtain ⟨j, hj, rfl⟩ := List.mem_map.1 hx
    have := List.mem_range.1 hj
    rw [decide_eq_false (by omega)]
    simp
  rw [ev] at e
  unfold spec_plUsed.f
  refine bind0 (l1Own_eq _ (by omega)) (bind (a := (L', kp I s o)) ?_ (ret _))
  rw [zat (by omega)]
  exact e
theorem plKeep_eqW {I : Nat} {s : List SStep} {o : List Int} (h : Gd I s o) : spec_plKeep.f (I : Int) s o (kp I s o) = some (kS I s o, kO I s o) := by
  have h1 := h.inp
  have h2 := h.stp
  have h3 := h.out
  have hv := vals_len s.length (fun j => us I s o ((I : Int) + j))
  unfold spec_plKeep.f kp
  rw [keep_l0 (by omega) (by omega) h.ok (us_cl h.ok) _ [] 0 (fun x hx => vals_mem.1 hx) (by simp; omega), Option.bind_some, keep_l1 (by omega) (by omega) o [] 0 (fun x hx => ⟨h.os x hx, .inr (us_out hx)⟩) (by simp; omega), Option.bind_some, List.nil_append, List.nil_append]
  unfold kS kO
  rw [ts_map s h.ok (us_cl h.ok)]
theorem used_eqW {I : Nat} {s : List SStep} {o : List Int} (h : Gd I s o) : impl_Plan_used.f (I : Int) s o = some (tb (I + s.length) (us I s o)) := by
  have h1 := h.inp
  have h2 := h.stp
  unfold impl_Plan_used.f impl_Plan_many.f
  rw [Option.bind_some, zat (by omega), tb_mk (M := I + s.length) (by omega) (by omega), Option.bind_some, used_l0b _ _ _ _ (fun y hy => by have := h.os y hy; omega), Option.bind_some]
  rw [if_pos]
  · rw [bwL_fold]
    have e : (tb (I + s.length) fun u => false || decide (u ∈ o)) = tb (I + s.length) fun v => decide (v ∈ o) := tb_ext fun u _ _ => by simp
    rw [e]
    have := used_back I (I + s.length) o s 0 h.ok (by omega)
    rw [show I + 0 = I by omega] at this
    rw [this]
  · refine ⟨⟨by omega, by omega, by omega, by rw [tb_len]; omega, by rw [tb_len]; omega⟩, fun y hy => ?_⟩
    obtain ⟨j, hj, e⟩ := List.getElem_of_mem hy
    have := h.ok.at (m := j) (y := y) (by rw [List.getElem?_eq_getElem hj, e])
    omega
theorem trimmed_eqW {I : Nat} {s : List SStep} {o : List Int} (h : Gd I s o) : impl_Plan_trimmed.f (I : Int) s o = some (kS I s o, kO I s o) := by
  have h1 := h.inp
  have h2 := h.stp
  have h3 := h.out
  have hT := tr_Tr I (us I s o) s
  unfold impl_Plan_trimmed.f
  rw [used_eqW h, Option.bind_some, firsts_eq I (by omega), Option.bind_some]
  simp only [Option.bind_some]
  have e := trim_l0 I (us I s o) (I + s.length) (by omega) s 0 (iota I) [] (by simp [iota]) h.ok (by omega) (by simp)
  rw [show ((0 : Nat) : Int) = 0 from rfl, show I + 0 = I by omega] at e
  rw [e, Option.bind_some]
  have e2 : tr (us I s o) (I : Int) I s (iota I) [] = (tp I (us I s o) s, ts I (us I s o) s) := rfl
  rw [e2]
  simp only
  rw [ren_eq _ _ (fun y hy => by rw [hT.pn]; have := h.os y hy; omega) (by omega), Option.bind_some]
  congr 2
  unfold kO
  exact List.map_congr_left fun y hy => hT.pv y (h.os y hy).1 (h.os y hy).2
/-! the greatest of a list -/
theorem mx_le {a b c : Int} : mx a b ≤ c ↔ a ≤ c ∧ b ≤ c := by
  unfold mx
  split <;> omega
theorem mx_ge (a b : Int) : a ≤ mx a b ∧ b ≤ mx a b := by
  unfold mx
  split <;> omega
theorem great_l0 (l : List Int) (m j : Int) : spec_meGreatest.l0 l m j = some (l.foldl mx m) := by
  induction l generalizing m j with
  | nil => rfl
  | cons y ys ih =>
    simp only [spec_meGreatest.l0, most_eq, Option.bind_some]
    exact ih _ _
theorem great_eq (l : List Int) : spec_meGreatest.f l = some (l.foldl mx 0) := by
  unfold spec_meGreatest.f
  rw [great_l0]
  rfl
theorem smax_l0 (l : List Int) (hl : l.length ≤ 1000000) : ∀ (d j : Nat) (m : Int), j + d = l.length → Ev (fun k => slices_Max_int_int.l0 l k m (j : Int)) ((l.drop j).foldl mx m) := by
  intro d
  induction d with
  | zero =>
    intro j m hj
    rw [List.drop_eq_nil_of_le (by omega)]
    refine shift ?_
    simp only [slices_Max_int_int.l0]
    exact neg (by omega) (ret _)
  | succ d ih =>
    intro j m hj
    have h1 : j < l.length := by omega
    rw [List.drop_eq_getElem_cons h1, List.foldl_cons]
    refine shift ?_
    simp only [slices_Max_int_int.l0]
    refine pos (by omega) ?_
    simp only [gt_nat h1, Option.bind_some]
    rw [w64_succ (by omega)]
    exact ih (j + 1) _ (by omega)
theorem smax_ev (l : List Int) (hl : 1 ≤ l.length ∧ l.length ≤ 1000000) (h : ∀ x ∈ l, 0 ≤ x) : Ev (fun k => slices_Max_int_int.f k l) (l.foldl mx 0) := by
  cases l with
  | nil => simp at hl
  | cons a r =>
    have ha := h a List.mem_cons_self
    have e : mx 0 a = a := by
      unfold mx
      split <;> omega
    have := smax_l0 (a :: r) hl.2 r.length 1 a (by simp; omega)
    unfold slices_Max_int_int.f
    rw [List.foldl_cons, e]
    refine neg (by simp; omega) (bind0 (a := a) rfl (bind ?_ (ret _)))
    simpa using this
theorem fmx_ge (l : List Int) (m : Int) : m ≤ l.foldl mx m ∧ ∀ x ∈ l, x ≤ l.foldl mx m := by
  induction l generalizing m with
  | nil => exact ⟨Int.le_refl _, fun x hx => nomatch hx⟩
  | cons y ys ih =>
    obtain ⟨h1, h2⟩ := ih (mx m y)
    have := mx_ge m y
    refine ⟨Int.le_trans this.1 h1, fun x hx => ?_⟩
    rcases List.mem_cons.1 hx with e | hx
    · subst e
      exact Int.le_trans this.2 h1
    · exact h2 x hx
theorem fmx_le {c : Int} (l : List Int) (m : Int) (hm : m ≤ c) (h : ∀ x ∈ l, x ≤ c) : l.foldl mx m ≤ c := by
  induction l generalizing m with
  | nil => exact hm
  | cons y ys ih => exact ih _ (mx_le.2 ⟨hm, h y List.mem_cons_self⟩) (fun x hx => h x (List.mem_cons_of_mem _ hx))
theorem meTimes_eq (n : Int) (l : List SStep) (o : List Int) (a b : Int) (hl : l.length ≤ 100000) : spec_meTimes.f n l o a b = some (l ++ [⟨mn a b, mx a b⟩]) := by
  unfold spec_meTimes.f
  rw [ap_ok (by simp; omega), Option.bind_some, List.nil_append, plStep_eq, Option.bind_some, ap_ok (by simp; omega)]
  rfl
end Go.Proofs.Ytiaohjciddbpoaa.Pure
