/- Pure: plans of powers taken together, on both sides, and the law of costs. -/
import Derived.Test.YtpdpomjgfmdjfaaKFnExactVectorCostsPvec
set_option linter.unusedVariables false
set_option linter.unusedSimpArgs false
namespace Go.Proofs.Ytpdpomjgfmdjfaa.Pure
open Go.RowKit Go.Proofs.Ytpdpomjgfmdjfaa.E Go.Proofs.Ytpdpomjgfmdjfaa.V3 Go.Proofs.Ytpdpomjgfmdjfaa.Frame Go.Proofs.Ytpdpomjgfmdjfaa.Hand Go.Proofs.YtpdpomjgfmdjfaaW.PrintLast Go.Proofs.YtpdpomjgfmdjfaaW.PrintMore
open Go.Proofs.YtpdpomjgfmdjfaaW.PrintWords hiding mn mx
/-- The places of the numbers that have a digit. -/
def tg (i : Nat) : List Int → Nat → List Int
  | [], _ => []
  | y :: ys, j => (if y.toNat / 2 ^ i % 2 = 1 then [(j : Int)] else []) ++ tg i ys (j + 1)
theorem tg_len (i : Nat) (ys : List Int) (j : Nat) : (tg i ys j).length ≤ ys.length := by
  induction ys generalizing j with
  | nil => exact Nat.le_refl _
  | cons y ys ih =>
    have := ih (j + 1)
    simp only [tg, List.length_append, List.length_cons]
    split <;> simp <;> omega
theorem tog_l1 (l0 : List Int) (hl0 : l0.length ≤ 6) (i : Nat) (hi : i ≤ 60) (ys : List Int) (hy : ∀ y ∈ ys, 0 ≤ y ∧ y ≤ 1000000) (l : List SStep) (j : Nat) (a : Int) (hl : l.length + ys.length ≤ 10000) : spec_TogetherPlan.l1 l0 (i : Int) ys l [] (j : Int) a = some (((tg i ys j).foldl (tmI (l0.length : Int)) (l, a)).1, [], ((tg i ys j).foldl (tmI (l0.length : Int)) (l, a)).2) := by
  induction ys generalizing l j a with
  | nil => rfl
  | cons y ys ih =>
    have h0 := hy y List.mem_cons_self
    have hy' : ∀ y ∈ ys, 0 ≤ y ∧ y ≤ 1000000 := fun z hz => hy z (List.mem_cons_of_mem _ hz)
    obtain ⟨x, rfl⟩ := Int.eq_ofNat_of_zero_le h0.1
    simp only [List.length_cons] at hl
    simp only [tg, spec_TogetherPlan.l1, Int.toNat_natCast]
    have hd : Int.tmod ((x : Int) / 2 ^ min i IntKind.i64.bits) 2 = ((x / 2 ^ i % 2 : Nat) : Int) := by
      have := shr_nat x i (by omega)
      rw [Int.toNat_natCast] at this
      rw [this]
      rfl
    simp only [hd, nn_nat, Option.bind_some]
    rw [show (j : Int) + 1 = ((j + 1 : Nat) : Int) by omega]
    by_cases c : x / 2 ^ i % 2 = 1
    · rw [if_neg (by omega), if_pos c, List.foldl_append]
      by_cases ha : a < 0
      · have e : [(j : Int)].foldl (tmI (l0.length : Int)) (l, a) = (l, (j : Int)) := by
          simp only [List.foldl_cons, List.foldl_nil, tmI]
          rw [if_pos ha]
        rw [if_pos ha, e]
        exact ih hy' l (j + 1) _ (by omega)
      · have e : [(j : Int)].foldl (tmI (l0.length : Int)) (l, a) = (l ++ [⟨mn a j, mx a j⟩], (l0.length : Int) + (l.length : Int)) := by
          simp only [List.foldl_cons, List.foldl_nil, tmI, tm]
          rw [if_neg ha]
        rw [if_neg ha, e, meTimes_eq _ l [] a j (by omega), Option.bind_some, w64_id (by omega)]
        exact ih hy' _ (j + 1) _ (by simp; omega)
    · rw [if_pos (by omega), if_neg c, List.nil_append]
      exact ih hy' l (j + 1) a (by omega)
theorem itog_l1 (l0 : List Int) (hl0 : l0.length ≤ 6) (i : Nat) (hi : i ≤ 60) (ys : List Int) (hy : ∀ y ∈ ys, 0 ≤ y ∧ y ≤ 1000000) (l : List SStep) (j : Nat) (a : Int) (hl : l.length + ys.length ≤ 10000) : impl_TogetherPlan.l1 l0 (i : Int) ys l (j : Int) a = some (((tg i ys j).foldl (tmI (l0.length : Int)) (l, a)).1, ((tg i ys j).foldl (tmI (l0.length : Int)) (l, a)).2) := by
  induction ys generalizing l j a with
  | nil => rfl
  | cons y ys ih =>
    have h0 := hy y List.mem_cons_self
    have hy' : ∀ y ∈ ys, 0 ≤ y ∧ y ≤ 1000000 := fun z hz => hy z (List.mem_cons_of_mem _ hz)
    obtain ⟨x, rfl⟩ := Int.eq_ofNat_of_zero_le h0.1
    simp only [List.length_cons] at hl
    simp only [tg, impl_TogetherPlan.l1, Int.toNat_natCast]
    have hd : Go.bits .and .i64 ((x : Int) / 2 ^ min i IntKind.i64.bits) 1 = ((x / 2 ^ i % 2 : Nat) : Int) := by
      have := shr_nat x i (by omega)
      rw [Int.toNat_natCast] at this
      rw [this]
      exact and_one _ (Nat.lt_of_le_of_lt (Nat.div_le_self _ _) (by omega))
    simp only [hd, nn_nat, Option.bind_some]
    rw [show (j : Int) + 1 = ((j + 1 : Nat) : Int) by omega]
    by_cases c : x / 2 ^ i % 2 = 1
    · rw [if_pos (by omega), if_pos c, times_eq (l0.length : Int) (by omega) l (by omega), Option.bind_some, List.foldl_append]
      have hl1 := fold_len (l0.length : Int) [(j : Int)] (l, a)
      simp only [List.length_cons, List.length_nil] at hl1
      have h9 : (tmI (l0.length : Int) (l, a) (j : Int)).1.length + ys.length ≤ 10000 := by
        have : (tmI (l0.length : Int) (l, a) (j : Int)).1.length ≤ l.length + 1 := hl1
        omega
      exact ih hy' _ (j + 1) _ h9
    · rw [if_neg (by omega), if_neg c, List.nil_append]
      exact ih hy' l (j + 1) a (by omega)
def tgS (J : Int) (z : List SStep × Int) : List SStep × Int := if 0 ≤ z.2 then tm J z z.2 else z
/-- From the highest digit down. -/
def tgL (l0 : List Int) : Nat → List SStep × Int → List SStep × Int
  | 0, z => z
  | d + 1, z => tgL l0 d ((tg d l0 0).foldl (tmI (l0.length : Int)) (tgS (l0.length : Int) z))
theorem tgS_len (J : Int) (z : List SStep × Int) : (tgS J z).1.length ≤ z.1.length + 1 := by
  unfold tgS tm
  split
  · simp
  · omega
theorem tog_l0 (l0 : List Int) (hl0 : l0.length ≤ 6) (hy : ∀ y ∈ l0, 0 ≤ y ∧ y ≤ 1000000) (d : Nat) (hd : d ≤ 60) (l : List SStep) (a : Int) (hl : l.length + 7 * d ≤ 5000) : Ev (fun k => spec_TogetherPlan.l0 l0 k l [] a ((d : Int) - 1)) ((tgL l0 d (l, a)).1, [], (tgL l0 d (l, a)).2) ∧ Ev (fun k => impl_TogetherPlan.l0 l0 k l a ((d : Int) - 1)) (tgL l0 d (l, a)) := by
  induction d generalizing l a with
  | zero =>
    refine ⟨shift ?_, shift ?_⟩
    · simp only [spec_TogetherPlan.l0]
      exact neg (by omega) (ret _)
    · simp only [impl_TogetherPlan.l0]
      exact neg (by omega) (ret _)
  | succ d ih =>
    have h1 := tgS_len (l0.length : Int) (l, a)
    obtain ⟨⟨l1, a1⟩, hz⟩ : ∃ z, tgS (l0.length : Int) (l, a) = z := ⟨_, rfl⟩
    have hlen := fold_len (l0.length : Int) (tg d l0 0) (l1, a1)
    have htl := tg_len d l0 0
    rw [hz] at h1
    simp only at h1 hlen
    obtain ⟨⟨l2, a2⟩, hz2⟩ : ∃ z, (tg d l0 0).foldl (tmI (l0.length : Int)) (l1, a1) = z := ⟨_, rfl⟩
    rw [hz2] at hlen
    simp only at hlen
    have e : tgL l0 (d + 1) (l, a) = tgL l0 d (l2, a2) := by
      simp only [tgL]
      rw [hz, hz2]
    obtain ⟨g1, g2⟩ := ih (by omega) l2 a2 (by omega)
    have s1 := tog_l1 l0 hl0 d (by omega) l0 hy l1 0 a1 (by omega)
    have s2 := itog_l1 l0 hl0 d (by omega) l0 hy l1 0 a1 (by omega)
    rw [hz2, show ((0 : Nat) : Int) = 0 from rfl] at s1 s2
    have ev : ((d + 1 : Nat) : Int) - 1 = (d : Int) := by omega
    rw [e]
    refine ⟨shift ?_, shift ?_⟩
    · simp only [spec_TogetherPlan.l0]
      rw [ev, w64_id (x := (d : Int) - 1) (by omega)]
      refine pos (by omega) (bind0 (a := (l1, [], a1)) ?_ (bind0 s1 g1))
      by_cases c : 0 ≤ a
      · have : tgS (l0.length : Int) (l, a) = (l ++ [⟨mn a a, mx a a⟩], (l0.length : Int) + (l.length : Int)) := if_pos c
        rw [this] at hz
        injection hz with hz1 hz3
        rw [if_pos c, meTimes_eq _ l [] a a (by omega), Option.bind_some, w64_id (by omega), hz1, hz3]
      · have : tgS (l0.length : Int) (l, a) = (l, a) := if_neg c
        rw [this] at hz
        injection hz with hz1 hz3
        rw [if_neg c, hz1, hz3]
    · simp only [impl_TogetherPlan.l0]
      rw [ev, w64_id (x := (d : Int) - 1) (by omega)]
      refine pos (by omega) (bind0 (a := (l1, a1)) ?_ (bind0 s2 g2))
      by_cases c : 0 ≤ a
      · have : tgS (l0.length : Int) (l, a) = (l ++ [⟨mn a a, mx a a⟩], (l0.length : Int) + (l.length : Int)) := if_pos c
        rw [this] at hz
        injection hz with hz1 hz3
        rw [if_pos c]
        unfold impl_maker_multiply.f impl_step.f impl_Plan_many_2.f
        rw [Option.bind_some, ap_ok (by simp; omega)]
        simp only [Option.bind_some]
        rw [hz1, w64_id (x := (l0.length : Int) + (l1.length : Int)) (by omega), w64_id (by omega), ← hz3, ← hz1, List.length_append, List.length_singleton]
        congr 2
        omega
      · have : tgS (l0.length : Int) (l, a) = (l, a) := if_neg c
        rw [this] at hz
        injection hz with hz1 hz3
        rw [if_neg c, hz1, hz3]
theorem idx4_l0 (l : List Int) (j : Int) (hj : 0 ≤ j) : ∃ r, slices_IndexFunc_int_int_4.l0 l j = some r ∧ (aB 0 1000000 l = true → r = .inr ()) ∧ (aB 0 1000000 l = false → ∃ m, r = .inl m ∧ 0 ≤ m) := by
  induction l generalizing j with
  | nil => exact ⟨_, rfl, fun _ => rfl, fun h => by simp [aB] at h⟩
  | cons y ys ih =>
    simp only [slices_IndexFunc_int_int_4.l0, impl_TogetherPlan_1.f, in_eq, Option.bind_some]
    obtain ⟨r, h1, h2, h3⟩ := ih (j + 1) (by omega)
    by_cases c : 0 ≤ y ∧ y ≤ 1000000
    · rw [decide_eq_true c]
      refine ⟨r, by simpa using h1, ?_, ?_⟩
      · intro h
        refine h2 ?_
        simp only [aB, List.all_cons, Bool.and_eq_true] at h ⊢
        exact h.2
      · intro h
        refine h3 ?_
        simp only [aB, List.all_cons, Bool.and_eq_false_iff] at h ⊢
        rcases h with h | h
        · simp [c.1, c.2] at h
        · exact h
    · rw [decide_eq_false c]
      refine ⟨.inl j, by simp, ?_, fun _ => ⟨j, rfl, hj⟩⟩
      intro h
      simp only [aB, List.all_cons, Bool.and_eq_true] at h
      refine absurd ?_ c
      simpa using h.1
theorem cf4_eq (l : List Int) : slices_ContainsFunc_int_int_4.f l = some (!aB 0 1000000 l) := by
  unfold slices_ContainsFunc_int_int_4.f slices_IndexFunc_int_int_4.f
  obtain ⟨r, h1, h2, h3⟩ := idx4_l0 l 0 (by omega)
  rw [h1]
  cases c : aB 0 1000000 l with
  | true =>
    rw [h2 c]
    rfl
  | false =>
    obtain ⟨m, rfl, hm⟩ := h3 c
    simp [hm]
theorem together_both (l0 : List Int) : ∃ r, Ev (fun k => impl_TogetherPlan.f k l0) r ∧ Ev (fun k => spec_TogetherPlan.f k l0) r := by
  unfold spec_TogetherPlan.f impl_TogetherPlan.f
  rw [l1In_eq, in_eq, l1All_eq, cf4_eq]
  by_cases hn : 1 ≤ (l0.length : Int) ∧ (l0.length : Int) ≤ 6
  · rw [decide_eq_true hn]
    cases hx : aB 0 1000000 l0 with
    | false => exact ⟨(0, [], [], false), bind (a := true) (bind0 rfl (pos rfl (bind0 rfl (pos rfl (ret _))))) (pos rfl (ret _)), bind (a := true) (bind0 rfl (pos rfl (bind0 rfl (neg (by simp) (ret _))))) (pos rfl (ret _))⟩
    | true =>
      have hin := aB_in hx
      obtain ⟨h0, hge⟩ := fmx_ge l0 0
      have hle := fmx_le (c := 1000000) l0 0 (by omega) (fun x hx => (hin x hx).2)
      have hg := great_eq l0
      have hm := smax_ev l0 (by omega) (fun x hx => (hin x hx).1)
      obtain ⟨M, hM⟩ := Int.eq_ofNat_of_zero_le h0
      rw [hM] at hg hm hge hle
      by_cases hM0 : (M : Int) = 0
      · exact ⟨(0, [], [], false), bind (a := true) (bind0 rfl (pos rfl (bind0 rfl (neg (by simp) (bind hm (now (by rw [decide_eq_true hM0]))))))) (pos rfl (ret _)), bind (a := true) (bind0 rfl (pos rfl (bind0 rfl (pos rfl (bind0 hg (now (by rw [decide_eq_true hM0]))))))) (pos rfl (ret _))⟩
      · obtain ⟨N, hN⟩ : ∃ N, Lib.bitLen M = N := ⟨_, rfl⟩
        have hN2 : N ≤ 20 := by rw [← hN]; exact Lib.bitLen_le M 20 (by omega) (by omega)
        have hc := chLen_ev M (by omega)
        have hc2 := len_eq M (by omega)
        rw [hN] at hc hc2
        obtain ⟨g1, g2⟩ := tog_l0 l0 (by omega) hin N (by omega) [] (-1) (by simp; omega)
        obtain ⟨⟨S, a⟩, hS⟩ : ∃ S, tgL l0 N ([], -1) = S := ⟨_, rfl⟩
        rw [hS] at g1 g2
        have c1 := plIf_ev (l0.length : Int) S [a]
        have c2 := told_ev (l0.length : Int) S [a]
        have hw : w64 ((N : Int) - 1) = (N : Int) - 1 := w64_id (by omega)
        refine ⟨toldP (l0.length : Int) S [a], bind (a := false) (bind0 rfl (pos rfl (bind0 rfl (neg (by simp) (bind hm (now (by rw [decide_eq_false hM0]))))))) (neg (by simp) (bind0 rfl (bind hm (bind0 hc2 (bind (a := (S, a)) ?_ (bind0 rfl (bind c2 (ret _)))))))), bind (a := false) (bind0 rfl (pos rfl (bind0 rfl (pos rfl (bind0 hg (now (by rw [decide_eq_false hM0]))))))) (neg (by simp) (bind0 hg (bind hc (bind (a := (S, [], a)) ?_ (bind0 rfl (bind c1 (ret _)))))))⟩
        · rw [hw]
          exact g2
        · rw [hw]
          exact g1
  · rw [decide_eq_false hn]
    exact ⟨(0, [], [], false), bind (a := true) (bind0 rfl (neg (by simp) (ret _))) (pos rfl (ret _)), bind (a := true) (bind0 rfl (neg (by simp) (ret _))) (pos rfl (ret _))⟩
theorem costs_both (l0 : List Int) : ∃ r, Ev (fun k => impl_VectorCosts.f k l0) r ∧ Ev (fun k => spec_VectorCosts.f k l0) r := by
  obtain ⟨⟨i, s, o, b⟩, e1, e2⟩ := together_both l0
  obtain ⟨n, s', o', z, b', f1, f2, _, _⟩ := vector_both l0
  unfold impl_VectorCosts.f spec_VectorCosts.f
  cases b with
  | false => exact ⟨(0, 0, false), bind e1 (bind f1 (bind0 rfl (pos rfl (ret _)))), bind e2 (bind f2 (bind0 rfl (pos rfl (ret _))))⟩
  | true =>
    cases b' with
    | false => exact ⟨(0, 0, false), bind e1 (bind f1 (bind0 rfl (pos rfl (ret _)))), bind e2 (bind f2 (bind0 rfl (pos rfl (ret _))))⟩
    | true => exact ⟨(s.length, s'.length, true), bind e1 (bind f1 (bind0 rfl (neg (by simp) (ret _)))), bind e2 (bind f2 (bind0 rfl (neg (by simp) (ret _))))⟩
theorem FnExactVectorCosts : laws_FnExactVectorCosts.Pure := by
  intro l0 _ _
  refine some_of ?_
  unfold laws_FnExactVectorCosts.f
  by_cases c : 1048576 < (l0.length : Int)
  · exact pos c (ret _)
  · refine neg c ?_
    have ht := toIntS_ev l0 (by omega)
    have hq := eqIntS_refl l0 (by omega)
    obtain ⟨⟨x, y, b⟩, e1, e2⟩ := costs_both l0
    have hb : (b != b) = false := by cases b <;> rfl
    refine bind ht (bind e2 (bind ht (bind e1 (neg (by simp) (neg (by simp) ?_)))))
    simp only [hb]
    exact neg (by simp) (bind ht (bind hq (pos rfl (ret _))))
end Go.Proofs.Ytpdpomjgfmdjfaa.Pure
