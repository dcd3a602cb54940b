/- Pure: plGood and IsPlan say the same. -/
import Derived.Test.YtiaohjciddbpoaaKFnExactSlidingPlanPgood
set_option linter.unusedVariables false
set_option linter.unusedSimpArgs false
namespace Go.Proofs.Ytiaohjciddbpoaa.Pure
open Go.RowKit Go.Proofs.Ytiaohjciddbpoaa.E Go.Proofs.Ytiaohjciddbpoaa.H2 Go.Proofs.Ytiaohjciddbpoaa.Frame Go.Proofs.YtiaohjciddbpoaaW.PrintLast Go.Proofs.YtiaohjciddbpoaaW.PrintMore
open Go.Proofs.YtiaohjciddbpoaaW.PrintWords hiding mn mx
def big (r : List Int) : Bool := r.any fun e => decide (1000000 < e)
theorem mx_big (a b : Int) : decide (1000000 < mx a b) = (decide (1000000 < a) || decide (1000000 < b)) := by
  unfold mx
  by_cases h1 : 1000000 < a <;> by_cases h2 : 1000000 < b <;> split <;> simp [h1, h2] <;> omega
theorem max_ev (r : List Int) (hl : r.length ≤ 1000) : ∀ (d j : Nat) (m : Int), j + d = r.length → ∃ v, Ev (fun k => slices_Max_int_int.l0 r k m (j : Int)) v ∧ decide (1000000 < v) = (decide (1000000 < m) || big (r.drop j)) := by
  intro d
  induction d with
  | zero =>
    intro j m hj
    refine ⟨m, shift ?_, ?_⟩
    · simp only [slices_Max_int_int.l0]
      exact neg (by omega) (ret _)
    · rw [List.drop_eq_nil_of_le (by omega)]
      simp [big]
  | succ d ih =>
    intro j m hj
    have h1 : j < r.length := by omega
    obtain ⟨v, e, he⟩ := ih (j + 1) (mx m r[j]) (by omega)
    refine ⟨v, shift ?_, ?_⟩
    · simp only [slices_Max_int_int.l0]
      refine pos (by omega) ?_
      simp only [gt_nat h1, Option.bind_some]
      rw [w64_succ (by omega)]
      exact e
    · have hd : big (r.drop j) = (decide (1000000 < r[j]) || big (r.drop (j + 1))) := by
        rw [List.drop_eq_getElem_cons h1]
        rfl
      rw [he, mx_big, hd, Bool.or_assoc]
theorem isPlan1_ev {n : Nat} (hn : 1 ≤ n ∧ n ≤ 1000) {r : List Int} (hr : RowOk n r) : Ev (fun k => impl_IsPlan_1.f k r) (big r) := by
  have h0 : 0 < r.length := by rw [hr.1]; omega
  obtain ⟨v, e, he⟩ := max_ev r (by rw [hr.1]; omega) (r.length - 1) 1 r[0] (by omega)
  have hb : decide (1000000 < v) = big r := by
    rw [he]
    cases r with
    | nil => simp at h0
    | cons a l => simp [big]
  unfold impl_IsPlan_1.f slices_Max_int_int.f
  rw [← hb]
  refine bind (neg (by omega) ?_) (ret _)
  have hg : gt r 0 = some r[0] := gt_nat h0
  simp only [hg, Option.bind_some]
  exact bind e (ret _)
theorem big_aB {n : Nat} {r : List Int} (hr : RowOk n r) : big r = !aB 0 1000000 r := by
  have h := hr.2
  clear hr
  induction r with
  | nil => rfl
  | cons a l ih =>
    have ha := h a (by simp)
    have := ih (fun e he => h e (by simp [he]))
    simp only [big, aB, List.any_cons, List.all_cons] at this ⊢
    rw [this, Bool.not_and]
    congr 1
    by_cases h1 : 1000000 < a
    · rw [decide_eq_true h1, decide_eq_false (by omega)]
      rfl
    · rw [decide_eq_false h1, decide_eq_true (by omega)]
      rfl
theorem rows_l0 {n : Nat} (hn : 1 ≤ n ∧ n ≤ 1000) (rs : List (List Int)) (h : ∀ r ∈ rs, RowOk n r) (j : Int) (hj : 0 ≤ j) : ∃ r, Ev (fun k => slices_IndexFunc_int_int_2.l0 k rs j) r ∧ (rs.all (aB 0 1000000) = true → r = .inr ()) ∧ (rs.all (aB 0 1000000) = false → ∃ m, r = .inl m ∧ 0 ≤ m) := by
  induction rs generalizing j with
  | nil => exact ⟨.inr (), ret _, fun _ => rfl, fun h => by simp at h⟩
  | cons y ys ih =>
    have hy := h y (by simp)
    have e := isPlan1_ev hn hy
    rw [big_aB hy] at e
    cases hb : aB 0 1000000 y with
    | true =>
      obtain ⟨r, h1, h2, h3⟩ := ih (fun r hr => h r (by simp [hr])) (j + 1) (by omega)
      rw [hb] at e
      refine ⟨r, ?_, fun ha => h2 (by simpa [hb] using ha), fun ha => h3 (by simpa [hb] using ha)⟩
      exact bind e (neg (by simp) h1)
    | false =>
      rw [hb] at e
      refine ⟨.inl j, bind e (pos rfl (ret _)), fun ha => by simp [hb] at ha, fun _ => ⟨j, rfl, hj⟩⟩
theorem rows_ev {n : Nat} (hn : 1 ≤ n ∧ n ≤ 1000) (rs : List (List Int)) (h : ∀ r ∈ rs, RowOk n r) : Ev (fun k => slices_ContainsFunc_int_int_2.f k rs) (!rs.all (aB 0 1000000)) := by
  obtain ⟨r, h1, h2, h3⟩ := rows_l0 hn rs h 0 (by omega)
  unfold slices_ContainsFunc_int_int_2.f slices_IndexFunc_int_int_2.f
  cases hb : rs.all (aB 0 1000000) with
  | true =>
    obtain rfl := h2 hb
    exact bind (bind h1 (ret (-1))) (ret _)
  | false =>
    obtain ⟨m, rfl, hm⟩ := h3 hb
    have : (!false) = decide (0 ≤ m) := by simp [hm]
    rw [this]
    exact bind (bind h1 (ret m)) (ret _)
theorem spec_rows (rs : List (List Int)) (j : Int) : spec_plGood.l1 rs j = some (bif rs.all (aB 0 1000000) then .inr () else .inl false) := by
  induction rs generalizing j with
  | nil => rfl
  | cons y ys ih =>
    simp only [spec_plGood.l1, l1All_eq, Option.bind_some, ih, List.all_cons]
    cases aB 0 1000000 y <;> rfl
/-- What a plan is. -/
def good (i : Int) (s : List SStep) (o : List Int) : Bool := decide (1 ≤ i ∧ i ≤ 6) && (decide (s.length ≤ 40) && (decide (o.length ≤ 6) && (fB i s 0 && ((exps i.toNat s).all (aB 0 1000000) && aB 0 (w64 (w64 (i + (s.length : Int)) - 1)) o))))
theorem isPlan_ev (i : Int) (s : List SStep) (o : List Int) : Ev (fun k => impl_IsPlan.f k i s o) (good i s o) := by
  unfold impl_IsPlan.f good
  simp only [formed_eq, Option.bind_some]
  cases h1 : decide (1 ≤ i ∧ i ≤ 6) with
  | false => exact neg (by simp) (ret _)
  | true =>
    cases h2 : decide (s.length ≤ 40) with
    | false => exact neg (by simp) (ret _)
    | true =>
      cases h3 : decide (o.length ≤ 6) with
      | false => exact neg (by simp) (ret _)
      | true =>
        cases h4 : fB i s 0 with
        | false => exact neg (by simp) (ret _)
        | true =>
          cases h5 : aB 0 (w64 (w64 (i + (s.length : Int)) - 1)) o with
          | false =>
            simp only [Bool.and_false]
            exact neg (by simp) (ret _)
          | true =>
            have h1' := of_decide_eq_true h1
            have h2' := of_decide_eq_true h2
            obtain ⟨n, rfl⟩ := Int.eq_ofNat_of_zero_le (show 0 ≤ i by omega)
            obtain ⟨_, e2, e3, _⟩ := exps_ev n (by omega) s o (by omega) h4
            refine pos rfl ?_
            simp only [e2, Option.bind_some]
            have := rows_ev (by omega) (exps n s) e3
            simp only [Bool.true_and, Bool.and_true, Int.toNat_natCast]
            have hh := bind (f := fun _ (b12 : Bool) => some (!b12)) this (ret _)
            rw [Bool.not_not] at hh
            exact hh
theorem plGood_ev (i : Int) (s : List SStep) (o : List Int) : Ev (fun k => spec_plGood.f k i s o) (good i s o) := by
  unfold spec_plGood.f good
  simp only [l1In_eq, Option.bind_some, spec_formed, l1All_eq]
  cases h1 : decide (1 ≤ i ∧ i ≤ 6) with
  | false => exact neg (by simp) (ret _)
  | true =>
    refine pos rfl ?_
    by_cases h2 : 40 < (s.length : Int)
    · rw [decide_eq_false (show ¬ s.length ≤ 40 by omega)]
      exact pos h2 (ret _)
    · rw [decide_eq_true (show s.length ≤ 40 by omega)]
      refine neg h2 ?_
      by_cases h3 : 6 < (o.length : Int)
      · rw [decide_eq_false (show ¬ o.length ≤ 6 by omega)]
        exact pos h3 (ret _)
      · rw [decide_eq_true (show o.length ≤ 6 by omega)]
        refine neg h3 ?_
        cases h4 : fB i s 0 with
        | false => exact ret _
        | true =>
          have h1' := of_decide_eq_true h1
          obtain ⟨n, rfl⟩ := Int.eq_ofNat_of_zero_le (show 0 ≤ i by omega)
          obtain ⟨e1, _, e3, _⟩ := exps_ev n (by omega) s o (by omega) h4
          simp only [cond_true, Option.bind_some, Bool.true_and, Int.toNat_natCast]
          refine bind e1 ?_
          simp only [spec_rows, Option.bind_some]
          cases (exps n s).all (aB 0 1000000) with
          | false => exact ret _
          | true => exact ret _
end Go.Proofs.Ytiaohjciddbpoaa.Pure
