/- Pure: plans cut in two: what lives at a cut, both parts, the whole again; the law. -/
import Derived.Test.YtoegbcbdiggbjaaKFnSplitPlansPlaws
import Derived.Test.YtoegbcbdiggbjaaKFnSplitPlansPdraw
set_option linter.unusedVariables false
set_option linter.unusedSimpArgs false
namespace Go.Proofs.Ytoegbcbdiggbjaa.Pure
open Go.RowKit Go.Proofs.Ytoegbcbdiggbjaa.E Go.Proofs.Ytoegbcbdiggbjaa.SP Go.Proofs.Ytoegbcbdiggbjaa.Frame Go.Proofs.YtoegbcbdiggbjaaW.PrintLast Go.Proofs.YtoegbcbdiggbjaaW.PrintMore
open Go.Proofs.YtoegbcbdiggbjaaW.PrintWords hiding mn mx
/-! lists that rise -/
theorem sorted_eq {l m : List Int} (hl : l.Pairwise (· < ·)) (hm : m.Pairwise (· < ·)) (h : ∀ x, x ∈ l ↔ x ∈ m) : l = m := by
  induction l generalizing m with
  | nil =>
    cases m with
    | nil => rfl
    | cons b m => exact absurd ((h b).2 List.mem_cons_self) (by simp)
  | cons a l ih =>
    cases m with
    | nil => exact absurd ((h a).1 List.mem_cons_self) (by simp)
    | cons b m =>
      obtain ⟨l1, l2⟩ := List.pairwise_cons.1 hl
      obtain ⟨m1, m2⟩ := List.pairwise_cons.1 hm
      have hab : a = b := by
        rcases List.mem_cons.1 ((h a).1 List.mem_cons_self) with e | e
        · exact e
        · rcases List.mem_cons.1 ((h b).2 List.mem_cons_self) with e' | e'
          · exact e'.symm
          · have := m1 a e
            have := l1 b e'
            omega
      subst hab
      congr 1
      refine ih l2 m2 fun x => ⟨fun hx => ?_, fun hx => ?_⟩
      · have := l1 x hx
        exact (List.mem_cons.1 ((h x).1 (List.mem_cons_of_mem _ hx))).resolve_left (by omega)
      · have := m1 x hx
        exact (List.mem_cons.1 ((h x).2 (List.mem_cons_of_mem _ hx))).resolve_left (by omega)
theorem mem_put (l : List Int) (a x : Int) : x ∈ put l a ↔ x = a ∨ x ∈ l := by
  induction l with
  | nil => simp [put]
  | cons y ys ih =>
    simp only [put]
    by_cases c : y < a
    · rw [if_pos c, List.mem_cons, ih, List.mem_cons]
      constructor
      · rintro (h | h | h)
        · exact .inr (.inl h)
        · exact .inl h
        · exact .inr (.inr h)
      · rintro (h | h | h)
        · exact .inr (.inl h)
        · exact .inl h
        · exact .inr (.inr h)
    · rw [if_neg c]
      by_cases e : y = a
      · rw [if_pos e, List.mem_cons]
        constructor
        · exact .inr
        · rintro (h | h)
          · exact .inl (h.trans e.symm)
          · exact h
      · rw [if_neg e]
        exact List.mem_cons
theorem sorted_put {l : List Int} (h : l.Pairwise (· < ·)) (a : Int) : (put l a).Pairwise (· < ·) := by
  induction l with
  | nil => simp [put]
  | cons y ys ih =>
    obtain ⟨h1, h2⟩ := List.pairwise_cons.1 h
    simp only [put]
    by_cases c : y < a
    · rw [if_pos c]
      refine List.pairwise_cons.2 ⟨fun x hx => ?_, ih h2⟩
      rcases (mem_put _ _ _).1 hx with e | hx
      · omega
      · exact h1 x hx
    · rw [if_neg c]
      by_cases e : y = a
      · rw [if_pos e]
        exact h
      · rw [if_neg e]
        refine List.pairwise_cons.2 ⟨fun x hx => ?_, h⟩
        rcases List.mem_cons.1 hx with e | hx
        · omega
        · have := h1 x hx
          omega
theorem put_vals {M : Nat} {p : Int → Bool} {y : Int} (h0 : 0 ≤ y) (h1 : y < (M : Int)) : put (vals M p) y = vals M (fun u => p u || decide (u = y)) := by
  refine sorted_eq (sorted_put (vals_sorted _ _) _) (vals_sorted _ _) fun x => ?_
  rw [mem_put, vals_mem, vals_mem]
  simp only [Bool.or_eq_true, decide_eq_true_eq]
  constructor
  · rintro (h | ⟨h, h'⟩)
    · exact ⟨by omega, .inr h⟩
    · exact ⟨h, .inl h'⟩
  · rintro ⟨h, h' | h'⟩
    · exact .inr ⟨h, h'⟩
    · exact .inl h'
theorem vals_ext {M : Nat} {p q : Int → Bool} (h : ∀ u, p u = q u) : vals M p = vals M q := by
  have : p = q := funext h
  rw [this]
/-! what lives at a cut -/
def usd (ys : List SStep) (u : Int) : Bool := ys.any fun y => decide (u = y.f0) || decide (u = y.f1)
def lv (s : List SStep) (o : List Int) (k : Nat) (u : Int) : Bool := decide (u ∈ o) || usd (s.drop k) u
theorem live_l0 (M : Nat) (ys : List Int) (f : Int → Bool) (j : Int) (h : ∀ y ∈ ys, 0 ≤ y ∧ y < (M : Int)) : impl_Plan_liveAt.l0 ys (tb M f) j = some (tb M fun u => f u || decide (u ∈ ys)) := by
  induction ys generalizing f j with
  | nil => simp [impl_Plan_liveAt.l0]
  | cons y ys ih =>
    have hy := h y List.mem_cons_self
    simp only [impl_Plan_liveAt.l0]
    rw [tb_gt hy.1 hy.2, Option.bind_some, tb_st hy.1 hy.2, Option.bind_some, ih _ _ (fun z hz => h z (List.mem_cons_of_mem _ hz))]
    congr 1
    refine tb_ext fun u _ _ => ?_
    by_cases e : u = y <;> simp [e]
theorem live_l1 (M : Nat) (ys : List SStep) (f : Int → Bool) (j : Int) (h : ∀ y ∈ ys, (0 ≤ y.f0 ∧ y.f0 < (M : Int)) ∧ (0 ≤ y.f1 ∧ y.f1 < (M : Int))) : impl_Plan_liveAt.l1 ys (tb M f) j = some (tb M fun u => f u || usd ys u) := by
  induction ys generalizing f j with
  | nil => simp [impl_Plan_liveAt.l1, usd]
  | cons y ys ih =>
    have hy := h y List.mem_cons_self
    simp only [impl_Plan_liveAt.l1]
    rw [tb_gt hy.1.1 hy.1.2, Option.bind_some, tb_st hy.1.1 hy.1.2, Option.bind_some, tb_gt hy.2.1 hy.2.2, Option.bind_some, tb_st hy.2.1 hy.2.2, Option.bind_some, ih _ _ (fun z hz => h z (List.mem_cons_of_mem _ hz))]
    congr 1
    refine tb_ext fun u _ _ => ?_
    simp only [usd, List.any_cons]
    by_cases e0 : u = y.f0
    · simp [e0]
    · by_cases e1 : u = y.f1
      · simp [e1]
      · simp [e0, e1]
theorem live_l2 (M : Nat) (hM : M ≤ 1000) (f : Int → Bool) : ∀ (d j : Nat), j + d = M → impl_Plan_liveAt.l2 ((tb M f).drop j) (vals j f) (j : Int) = some (vals M f) := by
  intro d
  induction d with
  | zero =>
    intro j hj
    obtain rfl : j = M := by omega
    rw [List.drop_eq_nil_of_le (by rw [tb_len]; omega)]
    rfl
  | succ d ih =>
    intro j hj
    have hn := ih (j + 1) (by omega)
    have hl := vals_len j f
    rw [vals_succ] at hn
    rw [tb_drop (by omega)]
    simp only [impl_Plan_liveAt.l2]
    rw [show (j : Int) + 1 = ((j + 1 : Nat) : Int) by omega]
    by_cases c : f (j : Int) = true
    · rw [if_pos c] at hn
      rw [if_pos c, ap_ok (by simp; omega), Option.bind_some]
      exact hn
    · rw [if_neg c, List.append_nil] at hn
      rw [if_neg c]
      exact hn
theorem tb_take {M K : Nat} {f : Int → Bool} (h : K ≤ M) : (tb M f).take K = tb K f := by
  unfold tb
  rw [← List.map_take, List.take_range, Nat.min_eq_left h]
theorem live_eq {I : Nat} {s : List SStep} {o : List Int} (h : Form I s o) {k : Nat} (hk : k ≤ s.length) : impl_Plan_liveAt.f (I : Int) s o (k : Int) = some (vals (I + k) (lv s o k)) := by
  have h1 := h.inp
  have h2 := h.stp
  unfold impl_Plan_liveAt.f impl_Plan_many.f
  rw [Option.bind_some, w64_id (by omega), tb_mk (M := I + s.length) (by omega) (by omega), Option.bind_some, live_l0 _ _ _ _ (fun y hy => by have := h.os y hy; omega), Option.bind_some, ct_drop s k hk, Option.bind_some, live_l1 _ _ _ _ (fun y hy => h.mem y (List.mem_of_mem_drop hy)), Option.bind_some, w64_id (by omega), show (I : Int) + (k : Int) = ((I + k : Nat) : Int) by omega, ct_take _ _ (by rw [tb_len]; omega), Option.bind_some, tb_take (by omega)]
  have e := live_l2 (I + k) (by omega) (lv s o k) (I + k) 0 (by omega)
  rw [List.drop_zero, show vals 0 (lv s o k) = [] from rfl, show ((0 : Nat) : Int) = 0 from rfl] at e
  have e2 : (tb (I + k) fun u => (false || decide (u ∈ o)) || usd (s.drop k) u) = tb (I + k) (lv s o k) := tb_ext fun u _ _ => by
    rw [Bool.false_or]
    rfl
  rw [e2, e]
  rfl
theorem dul_l0 (M : Nat) (hM : M ≤ 1000) (ys : List SStep) (p : Int → Bool) (j : Int) (h : ∀ y ∈ ys, (0 ≤ y.f0 ∧ y.f0 < (M : Int)) ∧ (0 ≤ y.f1 ∧ y.f1 < (M : Int))) : Ev (fun k => spec_duLive.l0 k ys (vals M p) j) (vals M fun u => p u || usd ys u) := by
  induction ys generalizing p j with
  | nil =>
    have : vals M (fun u => p u || usd [] u) = vals M p := vals_ext fun u => by simp [usd]
    rw [this]
    exact ret _
  | cons y ys ih =>
    have hy := h y List.mem_cons_self
    have h1 := put_ev (vals M p) y.f0 (by have := vals_len M p; omega)
    rw [put_vals hy.1.1 hy.1.2] at h1
    have h2 := put_ev (vals M (fun u => p u || decide (u = y.f0))) y.f1 (by have := vals_len M (fun u => p u || decide (u = y.f0)); omega)
    rw [put_vals hy.2.1 hy.2.2] at h2
    simp only [spec_duLive.l0]
    refine bind h1 (bind h2 ?_)
    have := ih (fun u => (p u || decide (u = y.f0)) || decide (u = y.f1)) (j + 1) (fun z hz => h z (List.mem_cons_of_mem _ hz))
    have e : vals M (fun u => p u || usd (y :: ys) u) = vals M (fun u => ((p u || decide (u = y.f0)) || decide (u = y.f1)) || usd ys u) := vals_ext fun u => by
      simp only [usd, List.any_cons, Bool.or_assoc]
    rw [e]
    exact this
theorem dul_l1 (M : Nat) (hM : M ≤ 1000) (ys : List Int) (p : Int → Bool) (j : Int) (h : ∀ y ∈ ys, 0 ≤ y ∧ y < (M : Int)) : Ev (fun k => spec_duLive.l1 k ys (vals M p) j) (vals M fun u => p u || decide (u ∈ ys)) := by
  induction ys generalizing p j with
  | nil =>
    have : vals M (fun u => p u || decide (u ∈ ([] : List Int))) = vals M p := vals_ext fun u => by simp
    rw [this]
    exact ret _
  | cons y ys ih =>
    have hy := h y List.mem_cons_self
    have h1 := put_ev (vals M p) y (by have := vals_len M p; omega)
    rw [put_vals hy.1 hy.2] at h1
    simp only [spec_duLive.l1]
    refine bind h1 ?_
    have := ih (fun u => p u || decide (u = y)) (j + 1) (fun z hz => h z (List.mem_cons_of_mem _ hz))
    have e : vals M (fun u => p u || decide (u ∈ y :: ys)) = vals M (fun u => (p u || decide (u = y)) || decide (u ∈ ys)) := vals_ext fun u => by
      by_cases c : u = y
      · simp [c]
      · simp [c]
    rw [e]
    exact this
theorem dul_l2 (i k : Int) (hw : w64 (i + k) = i + k) (ys acc : List Int) (j : Int) (hb : acc.length + ys.length ≤ 1000000) : spec_duLive.l2 i k ys acc j = some (acc ++ ys.filter fun y => decide (y < i + k)) := by
  induction ys generalizing acc j with
  | nil => simp [spec_duLive.l2]
  | cons y ys ih =>
    simp only [List.length_cons] at hb
    simp only [spec_duLive.l2]
    rw [hw]
    by_cases c : y < i + k
    · rw [if_pos c, ap_ok (by simp; omega), Option.bind_some, ih _ _ (by rw [List.length_append, List.length_singleton]; omega)]
      simp [c]
    · rw [if_neg c, ih _ _ (by omega)]
      simp [c]
theorem duLive_ev {I : Nat} {s : List SStep} {o : List Int} (h : Form I s o) {k : Nat} (hk : k ≤ s.length) : Ev (fun n => spec_duLive.f n (I : Int) s o (k : Int)) (vals (I + k) (lv s o k)) := by
  have h1 := h.inp
  have h2 := h.stp
  have e0 := dul_l0 (I + s.length) (by omega) (s.drop k) (fun _ => false) 0 (fun y hy => h.mem y (List.mem_of_mem_drop hy))
  have e1 := dul_l1 (I + s.length) (by omega) o (fun u => false || usd (s.drop k) u) 0 (fun y hy => by have := h.os y hy; omega)
  have hv0 : vals (I + s.length) (fun _ => false) = [] := by
    unfold vals
    exact List.filter_eq_nil_iff.2 (fun a _ => by simp)
  rw [hv0] at e0
  have hlen := vals_len (I + s.length) (fun u => (false || usd (s.drop k) u) || decide (u ∈ o))
  have e2 := dul_l2 (I : Int) (k : Int) (w64_id (by omega)) (vals (I + s.length) (fun u => (false || usd (s.drop k) u) || decide (u ∈ o))) [] 0 (by rw [List.length_nil]; omega)
  rw [List.nil_append] at e2
  have e3 : (vals (I + s.length) (fun u => (false || usd (s.drop k) u) || decide (u ∈ o))).filter (fun y => decide (y < (I : Int) + (k : Int))) = vals (I + k) (lv s o k) := by
    refine sorted_eq (List.Pairwise.filter _ (vals_sorted _ _)) (vals_sorted _ _) fun x => ?_
    rw [List.mem_filter, vals_mem, vals_mem]
    unfold lv
    simp only [Bool.or_eq_true, decide_eq_true_eq, Bool.false_eq_true, false_or]
    constructor
    · rintro ⟨⟨a, b⟩, c⟩
      exact ⟨by omega, b.symm⟩
    · rintro ⟨a, b⟩
      exact ⟨⟨by omega, b.symm⟩, by omega⟩
  rw [e3] at e2
  unfold spec_duLive.f
  exact bind0 (ct_drop s k hk) (bind e0 (bind e1 (bind0 e2 (ret _))))
/-! where values go -/
def idx : List Int → Int → Int → Int
  | [], _, _ => -1
  | y :: ys, v, j => if y = v then j else idx ys v (j + 1)
theorem idx_l0 (v : Int) (l : List Int) (j : Int) (hj : 0 ≤ j) : ∃ r, spec_plPlace.l0 v l j = some r ∧ (match r with | .inl x => x | .inr _ => -1) = idx l v j := by
  induction l generalizing j with
  | nil => exact ⟨_, rfl, rfl⟩
  | cons y ys ih =>
    simp only [spec_plPlace.l0, idx]
    by_cases c : y = v
    · rw [if_pos c, if_pos c]
      exact ⟨_, rfl, rfl⟩
    · rw [if_neg c, if_neg c]
      exact ih (j + 1) (by omega)
theorem place_eq (l : List Int) (v : Int) : spec_plPlace.f l v = some (idx l v 0) := by
  obtain ⟨r, h1, h2⟩ := idx_l0 v l 0 (by omega)
  unfold spec_plPlace.f
  rw [h1]
  cases r with
  | inl x => exact congrArg some h2
  | inr x => exact congrArg some h2
theorem idx_in {l : List Int} {v : Int} (h : v ∈ l) (j : Int) : ∃ m : Nat, idx l v j = j + (m : Int) ∧ l[m]? = some v := by
  induction l generalizing j with
  | nil => cases h
  | cons y ys ih =>
    simp only [idx]
    by_cases c : y = v
    · rw [if_pos c]
      exact ⟨0, by omega, by simp [c]⟩
    · rw [if_neg c]
      obtain ⟨m, e1, e2⟩ := ih ((List.mem_cons.1 h).resolve_left (fun e => c e.symm)) (j + 1)
      exact ⟨m + 1, by omega, by simpa using e2⟩
theorem idx_at {l : List Int} (h : l.Pairwise (· < ·)) {m : Nat} {v : Int} (hm : l[m]? = some v) (j : Int) : idx l v j = j + (m : Int) := by
  induction l generalizing m j with
  | nil => simp at hm
  | cons y ys ih =>
    obtain ⟨h1, h2⟩ := List.pairwise_cons.1 h
    cases m with
    | zero =>
      obtain rfl : y = v := by simpa using hm
      simp [idx]
    | succ m =>
      have hm' : ys[m]? = some v := by simpa using hm
      have := h1 v (List.mem_of_getElem? hm')
      simp only [idx]
      rw [if_neg (by omega), ih h2 hm']
      omega
/-- The number of a value in the second part. -/
def later (I k : Nat) (L : List Int) (u : Int) : Int := if u < ((I + k : Nat) : Int) then idx L u 0 else (L.length : Int) + u - (I : Int) - (k : Int)
def lt_ (I k : Nat) (L : List Int) (y : SStep) : SStep := ⟨mn (later I k L y.f0) (later I k L y.f1), mx (later I k L y.f0) (later I k L y.f1)⟩
/-- A value that the second part may use. -/
def Kn (I k : Nat) (L : List Int) (n : Nat) (u : Int) : Prop := (u < ((I + k : Nat) : Int) ∧ u ∈ L) ∨ (((I + k : Nat) : Int) ≤ u ∧ u < ((n : Nat) : Int))
theorem later_in {I k : Nat} {L : List Int} {n : Nat} (hn : I + k ≤ n) {u : Int} (h : Kn I k L n u) : 0 ≤ later I k L u ∧ later I k L u < ((L.length + (n - (I + k)) : Nat) : Int) := by
  unfold later
  rcases h with ⟨h1, h2⟩ | ⟨h1, h2⟩
  · rw [if_pos h1]
    obtain ⟨m, e1, e2⟩ := idx_in h2 0
    have := (List.getElem?_eq_some_iff.1 e2).1
    omega
  · rw [if_neg (by omega)]
    omega
theorem duLater_eq (I k : Nat) (hk : I + k ≤ 1000) (s : List SStep) (o L : List Int) (hL : L.length ≤ 1000) (u : Int) (hu : 0 ≤ u ∧ u ≤ 1000) : spec_duLater.f (I : Int) s o (k : Int) L u = some (later I k L u) := by
  unfold spec_duLater.f later
  rw [w64_id (x := (I : Int) + (k : Int)) (by omega)]
  by_cases c : u < (I : Int) + (k : Int)
  · rw [if_pos c, if_pos (by omega), place_eq]
    rfl
  · rw [if_neg c, if_neg (by omega), w64_id (x := (L.length : Int) + u) (by omega), w64_id (x := (L.length : Int) + u - (I : Int)) (by omega), w64_id (by omega)]
theorem sps_l0 (I k : Nat) (hk : I + k ≤ 1000) (s : List SStep) (o L : List Int) (hL : L.length ≤ 1000) (ys acc : List SStep) (j : Int) (h : ∀ y ∈ ys, (0 ≤ y.f0 ∧ y.f0 ≤ 1000) ∧ (0 ≤ y.f1 ∧ y.f1 ≤ 1000)) (hb : acc.length + ys.length ≤ 1000) : spec_SplitPlan.l0 (I : Int) s o (k : Int) L ys acc j = some (acc ++ ys.map (lt_ I k L)) := by
  induction ys generalizing acc j with
  | nil => simp [spec_SplitPlan.l0]
  | cons y ys ih =>
    have hy := h y List.mem_cons_self
    simp only [List.length_cons] at hb
    simp only [spec_SplitPlan.l0]
    rw [duLater_eq I k hk s o L hL _ hy.1, Option.bind_some, duLater_eq I k hk s o L hL _ hy.2, Option.bind_some, plStep_eq, Option.bind_some, ap_ok (by simp; omega), Option.bind_some, ih _ _ (fun z hz => h z (List.mem_cons_of_mem _ hz)) (by rw [List.length_append, List.length_singleton]; omega)]
    simp [lt_]
theorem sps_l1 (I k : Nat) (hk : I + k ≤ 1000) (s : List SStep) (o L : List Int) (hL : L.length ≤ 1000) (ys acc : List Int) (j : Int) (h : ∀ y ∈ ys, 0 ≤ y ∧ y ≤ 1000) (hb : acc.length + ys.length ≤ 1000) : spec_SplitPlan.l1 (I : Int) s o (k : Int) L ys acc j = some (acc ++ ys.map (later I k L)) := by
  induction ys generalizing acc j with
  | nil => simp [spec_SplitPlan.l1]
  | cons y ys ih =>
    have hy := h y List.mem_cons_self
    simp only [List.length_cons] at hb
    simp only [spec_SplitPlan.l1]
    rw [duLater_eq I k hk s o L hL _ hy, Option.bind_some, ap_ok (by simp; omega), Option.bind_some, ih _ _ (fun z hz => h z (List.mem_cons_of_mem _ hz)) (by rw [List.length_append, List.length_singleton]; omega)]
    simp
/-! the program's places -/
theorem spi_l0 (M : Nat) (ys : List Int) (hs : ys.Pairwise (· < ·)) (P : List Int) (hP : P.length = M) (j : Int) (h : ∀ y ∈ ys, 0 ≤ y ∧ y < (M : Int)) : ∃ P', impl_SplitPlan.l0 ys P j = some P' ∧ P'.length = M ∧ ∀ v : Int, 0 ≤ v → v < (M : Int) → rg P' v = if v ∈ ys then idx ys v j else rg P v := by
  induction ys generalizing P j with
  | nil => exact ⟨P, rfl, hP, fun v _ _ => by simp⟩
  | cons y ys ih =>
    have hy := h y List.mem_cons_self
    obtain ⟨h1, h2⟩ := List.pairwise_cons.1 hs
    obtain ⟨P', e1, e2, e3⟩ := ih h2 (P.set y.toNat j) (by simpa using hP) (j + 1) (fun z hz => h z (List.mem_cons_of_mem _ hz))
    refine ⟨P', ?_, e2, fun v v0 v1 => ?_⟩
    · simp only [impl_SplitPlan.l0]
      rw [rg_gt hy.1 (by omega), Option.bind_some, rg_st hy.1 (by omega), Option.bind_some]
      exact e1
    · rw [e3 v v0 v1]
      by_cases c : y = v
      · subst c
        have hn : y ∉ ys := fun hm => by have := h1 y hm; omega
        rw [if_neg hn, if_pos List.mem_cons_self, rg_set hy.1 (by omega) hy.1, if_pos rfl]
        simp [idx]
      · have hm : v ∈ y :: ys ↔ v ∈ ys := by
          rw [List.mem_cons]
          exact ⟨fun q => q.resolve_left (fun e => c e.symm), .inr⟩
        simp only [hm, idx]
        rw [if_neg c, rg_set v0 (by omega) hy.1, if_neg c]
theorem spi_l1 (I k : Nat) (L : List Int) (hL : L.length ≤ 1000) (M : Nat) (hM : M ≤ 1000) (hIM : I + k ≤ M) (ys : List SStep) (P : List Int) (hP : P.length = M) (acc : List SStep) (m : Nat) (hm : I + k + m + ys.length = M) (hacc : acc.length = m) (hk : ∀ u : Int, 0 ≤ u → Kn I k L (I + k + m) u → rg P u = later I k L u) (hy : ∀ (q : Nat) (y : SStep), ys[q]? = some y → (0 ≤ y.f0 ∧ Kn I k L (I + k + m + q) y.f0) ∧ (0 ≤ y.f1 ∧ Kn I k L (I + k + m + q) y.f1)) : ∃ P', impl_SplitPlan.l1 (I : Int) (k : Int) L ys P acc (m : Int) = some (P', acc ++ ys.map (lt_ I k L)) ∧ P'.length = M ∧ ∀ u : Int, 0 ≤ u → Kn I k L M u → rg P' u = later I k L u := by
  induction ys generalizing P acc m with
  | nil =>
    obtain rfl : I + k + m = M := by simpa using hm
    exact ⟨P, by simp [impl_SplitPlan.l1], hP, hk⟩
  | cons y ys ih =>
    simp only [List.length_cons] at hm
    have h0 := hy 0 y rfl
    rw [Nat.add_zero] at h0
    have hlt : (I : Int) + (k : Int) + (m : Int) < (M : Int) := by omega
    have hset : ∀ u : Int, 0 ≤ u → Kn I k L (I + k + (m + 1)) u → rg (P.set ((I : Int) + (k : Int) + (m : Int)).toNat ((L.length : Int) + (acc.length : Int))) u = later I k L u := by
      intro u u0 hu
      have hub : u < (M : Int) := by rcases hu with hu | hu <;> omega
      rw [rg_set u0 (by omega) (by omega)]
      by_cases c : (I : Int) + (k : Int) + (m : Int) = u
      · rw [if_pos c]
        unfold later
        rw [if_neg (by omega)]
        omega
      · rw [if_neg c]
        refine hk u u0 ?_
        rcases hu with hu | hu
        · exact .inl hu
        · exact .inr (by omega)
    have k0 : Kn I k L (I + k + (m + 1)) y.f0 := by
      rcases h0.1.2 with hu | hu
      · exact .inl hu
      · exact .inr (by omega)
    have k1 : Kn I k L (I + k + (m + 1)) y.f1 := by
      rcases h0.2.2 with hu | hu
      · exact .inl hu
      · exact .inr (by omega)
    have b0 : y.f0 < (M : Int) := by rcases k0 with hu | hu <;> omega
    have b1 : y.f1 < (M : Int) := by rcases k1 with hu | hu <;> omega
    obtain ⟨P', e1, e2, e3⟩ := ih (P.set ((I : Int) + (k : Int) + (m : Int)).toNat ((L.length : Int) + (acc.length : Int))) (by simpa using hP) (acc ++ [lt_ I k L y]) (m + 1) (by omega) (by rw [List.length_append, List.length_singleton]; omega) hset (fun q z hz => by
      have := hy (q + 1) z (by simpa using hz)
      rw [show I + k + m + (q + 1) = I + k + (m + 1) + q by omega] at this
      exact this)
    refine ⟨P', ?_, e2, e3⟩
    simp only [impl_SplitPlan.l1, impl_Plan_many.f, impl_step.f, Option.bind_some]
    rw [w64_id (x := (I : Int) + (k : Int)) (by omega), w64_id (x := (I : Int) + (k : Int) + (m : Int)) (by omega), w64_id (x := (L.length : Int) + (acc.length : Int)) (by omega)]
    rw [rg_gt (by omega) (by omega), Option.bind_some, rg_st (by omega) (by omega), Option.bind_some, rg_gt h0.1.1 (by simpa [hP] using b0), Option.bind_some, rg_gt h0.2.1 (by simpa [hP] using b1), Option.bind_some, ap_ok (by simp; omega), Option.bind_some, hset _ h0.1.1 k0, hset _ h0.2.1 k1]
    rw [show (m : Int) + 1 = ((m + 1 : Nat) : Int) by omega]
    have : acc ++ List.map (lt_ I k L) (y :: ys) = (acc ++ [lt_ I k L y]) ++ List.map (lt_ I k L) ys := by simp
    rw [this]
    exact e1
/-! the second part's values -/
theorem mnmx_add (l : List Int) (a b : Int) : rg l (mn a b) + rg l (mx a b) = rg l a + rg l b := by
  unfold mn mx
  by_cases c : a < b
  · rw [if_neg (by omega), if_pos c]
  · by_cases c2 : b < a
    · rw [if_pos c2, if_neg c]
      exact Int.add_comm _ _
    · obtain rfl : a = b := by omega
      simp
theorem later_le (I k : Nat) (L : List Int) (ys : List SStep) (l1 l2 : List Int) (m : Nat) (h1 : l1.length = I + k + m) (h2 : l2.length = L.length + m) (hk : ∀ u : Int, 0 ≤ u → Kn I k L (I + k + m) u → rg l2 (later I k L u) ≤ rg l1 u) (hy : ∀ (q : Nat) (y : SStep), ys[q]? = some y → (0 ≤ y.f0 ∧ Kn I k L (I + k + m + q) y.f0) ∧ (0 ≤ y.f1 ∧ Kn I k L (I + k + m + q) y.f1)) : ∀ u : Int, 0 ≤ u → Kn I k L (I + k + m + ys.length) u → rg (vl (ys.map (lt_ I k L)) l2) (later I k L u) ≤ rg (vl ys l1) u := by
  induction ys generalizing l1 l2 m with
  | nil => exact hk
  | cons y ys ih =>
    have h0 := hy 0 y rfl
    rw [Nat.add_zero] at h0
    have q0 := hk _ h0.1.1 h0.1.2
    have q1 := hk _ h0.2.1 h0.2.2
    intro u u0 hu
    simp only [List.map_cons, vl]
    refine ih _ _ (m + 1) (by rw [List.length_append, List.length_singleton]; omega) (by rw [List.length_append, List.length_singleton]; omega) ?_ (fun q z hz => by
      have := hy (q + 1) z (by simpa using hz)
      rw [show I + k + m + (q + 1) = I + k + (m + 1) + q by omega] at this
      exact this) u u0 (by
      rw [show I + k + (m + 1) + ys.length = I + k + m + (y :: ys).length by rw [List.length_cons]; omega]
      exact hu)
    intro w w0 hw
    by_cases c : w = ((I + k + m : Nat) : Int)
    · have e : later I k L w = (l2.length : Int) := by
        unfold later
        rw [if_neg (by omega)]
        omega
      rw [e, rg_new rfl, c, rg_new (by omega)]
      show rg l2 (mn _ _) + rg l2 (mx _ _) ≤ _
      rw [mnmx_add]
      omega
    · have hw' : Kn I k L (I + k + m) w := by
        rcases hw with hw | hw
        · exact .inl hw
        · exact .inr (by omega)
      have hi := later_in (by omega) hw'
      have hwb : w < ((I + k + m : Nat) : Int) := by rcases hw' with hw | hw <;> omega
      rw [rg_app hi.1 (by omega), rg_app w0 (by omega)]
      exact hk w w0 hw'
end Go.Proofs.Ytoegbcbdiggbjaa.Pure
