/- Pure: the best order and its pressure, on both sides. -/
import Derived.Test.YtdicngjloiphkaaKFnFewestRegistersPord2
import Derived.Test.YtdicngjloiphkaaKFnFewestRegistersPiota
set_option linter.unusedVariables false
set_option linter.unusedSimpArgs false
namespace Go.Proofs.Ytdicngjloiphkaa.Pure
open Go.RowKit Go.Proofs.Ytdicngjloiphkaa.E Go.Proofs.Ytdicngjloiphkaa.FW Go.Proofs.Ytdicngjloiphkaa.Frame Go.Proofs.YtdicngjloiphkaaW.PrintLast Go.Proofs.YtdicngjloiphkaaW.PrintMore
open Go.Proofs.YtdicngjloiphkaaW.PrintWords hiding mn mx
def stepB (I : Nat) (s : List SStep) (o : List Int) (z : List Int × Int) (l : List Int) : List Int × Int := if press I s o l < z.2 then (l, press I s o l) else z
def stepI (I : Nat) (s : List SStep) (o : List Int) (z : Int × List Int) (l : List Int) : Int × List Int := if z.1 < 0 ∨ press I s o l < z.1 then (press I s o l, l) else z
theorem fold_same (I : Nat) (s : List SStep) (o : List Int) (ls : List (List Int)) (hp : ∀ l ∈ ls, 0 ≤ press I s o l) (b : List Int) (n : Int) (hn : 0 ≤ n) : ls.foldl (stepI I s o) (n, b) = ((ls.foldl (stepB I s o) (b, n)).2, (ls.foldl (stepB I s o) (b, n)).1) := by
  induction ls generalizing b n with
  | nil => rfl
  | cons l ls ih =>
    have h0 := hp l List.mem_cons_self
    have hr := fun z hz => hp z (List.mem_cons_of_mem _ hz)
    simp only [List.foldl_cons, stepI, stepB]
    by_cases c : press I s o l < n
    · rw [if_pos (.inr c), if_pos c]
      exact ih hr l _ h0
    · rw [if_neg (by omega), if_neg c]
      exact ih hr b n hn
theorem fold_first (I : Nat) (s : List SStep) (o : List Int) (ls : List (List Int)) (hne : ls ≠ []) (hp : ∀ l ∈ ls, 0 ≤ press I s o l ∧ press I s o l ≤ 46) : ls.foldl (stepI I s o) (-1, []) = ((ls.foldl (stepB I s o) ([], 47)).2, (ls.foldl (stepB I s o) ([], 47)).1) := by
  cases ls with
  | nil => exact absurd rfl hne
  | cons l ls =>
    have h0 := hp l List.mem_cons_self
    simp only [List.foldl_cons]
    have e1 : stepI I s o (-1, []) l = (press I s o l, l) := if_pos (.inl (by show (-1 : Int) < 0; omega))
    have e2 : stepB I s o ([], 47) l = (l, press I s o l) := if_pos (by show press I s o l < 47; omega)
    rw [e1, e2]
    exact fold_same I s o ls (fun z hz => (hp z (List.mem_cons_of_mem _ hz)).1) _ _ h0.1
theorem ordsGo_at {i : Int} {f : List Int → List (List Int)} {ds l : List Int} (ys : List SStep) (j m : Nat) (y : SStep) (hy : ys[m]? = some y) (ok : okB i ds y ((j + m : Nat) : Int) = true) (hl : l ∈ f (ds ++ [((j + m : Nat) : Int)])) : l ∈ ordsGo i f ds ys (j : Int) := by
  induction ys generalizing j m with
  | nil => simp at hy
  | cons z ys ih =>
    simp only [ordsGo, List.mem_append]
    cases m with
    | zero =>
      obtain rfl : z = y := by simpa using hy
      rw [Nat.add_zero] at ok hl
      rw [if_pos ok]
      exact .inl hl
    | succ m =>
      refine .inr ?_
      rw [show (j : Int) + 1 = ((j + 1 : Nat) : Int) by omega]
      refine ih (j + 1) m (by simpa using hy) ?_ ?_
      · rwa [show j + 1 + m = j + (m + 1) by omega]
      · rwa [show j + 1 + m = j + (m + 1) by omega]
theorem spec_foldB {I : Nat} {s : List SStep} {o : List Int} (h : Form I s o) (ls : List (List Int)) (hm : ∀ l ∈ ls, l.length ≤ 1000 ∧ ∀ y ∈ l, 0 ≤ y ∧ y < (s.length : Int)) (b : List Int) (j n : Int) : Ev (fun k => spec_reBest.l0 k (I : Int) s o ls b j n) (ls.foldl (stepB I s o) (b, n)) := by
  induction ls generalizing b j n with
  | nil =>
    simp only [spec_reBest.l0, List.foldl_nil]
    exact ret _
  | cons l ls ih =>
    have hl := hm l List.mem_cons_self
    have hr := fun z hz => hm z (List.mem_cons_of_mem _ hz)
    simp only [spec_reBest.l0, List.foldl_cons]
    refine bind (rePressure_ev h l hl.1 hl.2) ?_
    by_cases c : press I s o l < n
    · refine pos c ?_
      have := ih hr l (j + 1) (press I s o l)
      simp only [stepB, if_pos c]
      exact this
    · refine neg c ?_
      have := ih hr b (j + 1) n
      simp only [stepB, if_neg c]
      exact this
theorem best1_eq {I : Nat} {s : List SStep} {o : List Int} (h : Form I s o) (ds : List Int) (hlen : ds.length ≤ 1000) (hy : ∀ y ∈ ds, 0 ≤ y ∧ y < (s.length : Int)) (n : Int) (b : List Int) : impl_Plan_best_1.f ds (I : Int) s o n b = some (stepI I s o (n, b) ds) := by
  unfold impl_Plan_best_1.f slices_Clone_int_int.f
  rw [pressure_eq h ds hy, Option.bind_some, ap_ok (by simp; omega)]
  unfold stepI
  by_cases c1 : n < 0
  · simp [c1]
  · by_cases c2 : press I s o ds < n
    · simp [c1, c2]
    · simp [c1, c2]
theorem impl_goB {I : Nat} {s : List SStep} {o : List Int} (h : Form I s o) (d : Nat) (ds : List Int) (hl : ds.length ≤ 1000)
    (ih : ∀ (x n : Int) (b : List Int), 0 ≤ x → x < (s.length : Int) → Ev (fun k => impl_Plan_orders_2.f k (I : Int) s o (ds ++ [x]) (I : Int) s o n b) ((ords (I : Int) s d (ds ++ [x])).foldl (stepI I s o) (n, b))) (ys : List SStep) (b : List Int) (n : Int) (j : Nat) (hs : s.drop j = ys) :
    Ev (fun k => impl_Plan_orders_2.l0 (impl_Plan_orders_2.f k) (I : Int) s o ds (I : Int) s o ys b n (j : Int)) (((ordsGo (I : Int) (ords (I : Int) s d) ds ys (j : Int)).foldl (stepI I s o) (n, b)).2, ((ordsGo (I : Int) (ords (I : Int) s d) ds ys (j : Int)).foldl (stepI I s o) (n, b)).1) := by
  induction ys generalizing b n j with
  | nil =>
    simp only [impl_Plan_orders_2.l0, ordsGo, List.foldl_nil]
    exact ret _
  | cons y ys ih2 =>
    have hy : s[j]? = some y := by
      have : (s.drop j)[0]? = some y := by rw [hs]; rfl
      rw [List.getElem?_drop] at this
      simpa using this
    have hjl := (List.getElem?_eq_some_iff.1 hy).1
    have hd : s.drop (j + 1) = ys := by
      rw [← List.drop_drop, hs]
      rfl
    have ec : (j : Int) + 1 = ((j + 1 : Nat) : Int) := by omega
    simp only [impl_Plan_orders_2.l0, ordsGo, test_eq h ds j y hy, List.foldl_append]
    refine bind0 rfl ?_
    cases c : okB (I : Int) ds y (j : Int) with
    | true =>
      refine pos rfl (bind0 rfl (bind0 (ap_ok (by simp; omega)) (bind (ih _ _ _ (by omega) (by omega)) ?_)))
      rw [if_pos rfl, ec]
      exact ih2 _ _ (j + 1) hd
    | false =>
      refine neg (by simp) ?_
      rw [if_neg (by simp), ec]
      exact ih2 _ _ (j + 1) hd
theorem ordersB_ev {I : Nat} {s : List SStep} {o : List Int} (h : Form I s o) (d : Nat) (ds : List Int) (n : Int) (b : List Int) (hd : ds.length + d = s.length) (hy : ∀ y ∈ ds, 0 ≤ y ∧ y < (s.length : Int)) : Ev (fun k => impl_Plan_orders_2.f k (I : Int) s o ds (I : Int) s o n b) ((ords (I : Int) s d ds).foldl (stepI I s o) (n, b)) := by
  have hn := h.stp
  induction d generalizing ds n b with
  | zero =>
    refine shift ?_
    simp only [impl_Plan_orders_2.f, ords, List.foldl_cons, List.foldl_nil]
    exact pos (by omega) (bind0 (best1_eq h ds (by omega) hy n b) (ret _))
  | succ d ih =>
    refine shift ?_
    simp only [impl_Plan_orders_2.f, ords]
    refine neg (by omega) (bind (impl_goB h d ds (by omega) (fun x n b h0 h1 => ih (ds ++ [x]) n b (by rw [List.length_append, List.length_singleton]; omega) (fun y hm => by
      rcases List.mem_append.1 hm with hm | hm
      · exact hy y hm
      · rw [List.mem_singleton.1 hm]; omega)) s b n 0 rfl) (ret _))
end Go.Proofs.Ytdicngjloiphkaa.Pure
