/- Pure: all orders, on both sides. -/
import Derived.Test.YtdicngjloiphkaaKFnFewestRegistersPord
set_option linter.unusedVariables false
set_option linter.unusedSimpArgs false
namespace Go.Proofs.Ytdicngjloiphkaa.Pure
open Go.RowKit Go.Proofs.Ytdicngjloiphkaa.E Go.Proofs.Ytdicngjloiphkaa.FW Go.Proofs.Ytdicngjloiphkaa.Frame Go.Proofs.YtdicngjloiphkaaW.PrintLast Go.Proofs.YtdicngjloiphkaaW.PrintMore
open Go.Proofs.YtdicngjloiphkaaW.PrintWords hiding mn mx
/-- May step y, with number j, be done behind ds? -/
def okB (i : Int) (ds : List Int) (y : SStep) (j : Int) : Bool := !decide (j ∈ ds) && ((decide (y.f0 < i) || decide (y.f0 - i ∈ ds)) && (decide (y.f1 < i) || decide (y.f1 - i ∈ ds)))
def ordsGo (i : Int) (f : List Int → List (List Int)) (ds : List Int) : List SStep → Int → List (List Int)
  | [], _ => []
  | y :: ys, j => (if okB i ds y j = true then f (ds ++ [j]) else []) ++ ordsGo i f ds ys (j + 1)
/-- All orders that go on ds with d steps more. -/
def ords (i : Int) (s : List SStep) : Nat → List Int → List (List Int)
  | 0, ds => [ds]
  | d + 1, ds => ordsGo i (ords i s d) ds s 0
theorem ordsGo_len {i : Int} {f : List Int → List (List Int)} {m : Nat} (hf : ∀ l, (f l).length ≤ m) (ds : List Int) (ys : List SStep) (j : Int) : (ordsGo i f ds ys j).length ≤ ys.length * m := by
  induction ys generalizing j with
  | nil => simp [ordsGo]
  | cons y ys ih =>
    simp only [ordsGo, List.length_append, List.length_cons, Nat.succ_mul]
    have := ih (j + 1)
    have h2 : (if okB i ds y j = true then f (ds ++ [j]) else []).length ≤ m := by
      split
      · exact hf _
      · simp
    omega
theorem ords_len (i : Int) (s : List SStep) (d : Nat) (ds : List Int) : (ords i s d ds).length ≤ s.length ^ d := by
  induction d generalizing ds with
  | zero => simp [ords]
  | succ d ih =>
    rw [Nat.pow_succ, Nat.mul_comm]
    exact ordsGo_len ih ds s 0
theorem ordsGo_mem {i : Int} {f : List Int → List (List Int)} {ds l : List Int} {ys : List SStep} {j : Int} (h : l ∈ ordsGo i f ds ys j) : ∃ x, (j ≤ x ∧ x < j + (ys.length : Int)) ∧ l ∈ f (ds ++ [x]) := by
  induction ys generalizing j with
  | nil => simp [ordsGo] at h
  | cons y ys ih =>
    simp only [ordsGo, List.mem_append] at h
    rcases h with h | h
    · split at h
      · exact ⟨j, by simp; omega, h⟩
      · cases h
    · obtain ⟨x, hx, hl⟩ := ih h
      exact ⟨x, by simp; omega, hl⟩
theorem ords_mem {i : Int} {s : List SStep} {d : Nat} {ds l : List Int} (hd : ∀ y ∈ ds, 0 ≤ y ∧ y < (s.length : Int)) (h : l ∈ ords i s d ds) : l.length = ds.length + d ∧ ∀ y ∈ l, 0 ≤ y ∧ y < (s.length : Int) := by
  induction d generalizing ds with
  | zero =>
    obtain rfl : l = ds := by simpa [ords] using h
    exact ⟨rfl, hd⟩
  | succ d ih =>
    obtain ⟨x, hx, hl⟩ := ordsGo_mem (show l ∈ ordsGo i (ords i s d) ds s 0 from h)
    have := ih (ds := ds ++ [x]) (fun y hy => by
      rcases List.mem_append.1 hy with hy | hy
      · exact hd y hy
      · rw [List.mem_singleton.1 hy]; omega) hl
    rw [List.length_append, List.length_singleton] at this
    exact ⟨by omega, this.2⟩
theorem spec_go {I : Nat} {s : List SStep} {o : List Int} (h : Form I s o) (d : Nat) (ds : List Int) (hl : ds.length ≤ 1000) (hb : s.length ^ d * s.length ≤ 100000000)
    (ih : ∀ x : Int, 0 ≤ x → x < (s.length : Int) → Ev (fun k => spec_reOrders.f k (I : Int) s o (ds ++ [x])) (ords (I : Int) s d (ds ++ [x]))) (ys : List SStep) (acc : List (List Int)) (j : Nat) (hs : s.drop j = ys) (hj : j ≤ s.length) (hacc : acc.length ≤ j * s.length ^ d) :
    Ev (fun k => spec_reOrders.l0 (spec_reOrders.f k) (I : Int) s o ds ys acc (j : Int)) (acc ++ ordsGo (I : Int) (ords (I : Int) s d) ds ys (j : Int)) := by
  have hi := h.inp
  have hn := h.stp
  induction ys generalizing acc j with
  | nil =>
    simp only [spec_reOrders.l0, ordsGo, List.append_nil]
    exact ret _
  | cons y ys ih2 =>
    have hjl : j < s.length := by
      rcases Nat.lt_or_ge j s.length with c | c
      · exact c
      · rw [List.drop_eq_nil_of_le c] at hs
        cases hs
    have hy : s[j]? = some y := by
      have : (s.drop j)[0]? = some y := by rw [hs]; rfl
      rw [List.getElem?_drop] at this
      simpa using this
    have hd : s.drop (j + 1) = ys := by
      rw [← List.drop_drop, hs]
      rfl
    have hst := h.step hy
    have ec : (j : Int) + 1 = ((j + 1 : Nat) : Int) := by omega
    have hpow : 0 < s.length ^ d := Nat.pow_pos (by omega)
    have hmul : j * s.length ^ d + s.length ^ d ≤ s.length * s.length ^ d := by
      have := Nat.mul_le_mul_right (s.length ^ d) (show j + 1 ≤ s.length by omega)
      rw [Nat.succ_mul] at this
      exact this
    have hol := ords_len (I : Int) s d (ds ++ [(j : Int)])
    have hcomm : s.length ^ d * s.length = s.length * s.length ^ d := Nat.mul_comm _ _
    simp only [ordsGo]
    have skip (c : okB (I : Int) ds y (j : Int) = false) : Ev (fun k => spec_reOrders.l0 (spec_reOrders.f k) (I : Int) s o ds ys acc ((j : Int) + 1)) (acc ++ ((if okB (I : Int) ds y (j : Int) = true then ords (I : Int) s d (ds ++ [(j : Int)]) else []) ++ ordsGo (I : Int) (ords (I : Int) s d) ds ys ((j : Int) + 1))) := by
      rw [c, if_neg (by simp), List.nil_append, ec]
      exact ih2 acc (j + 1) hd (by omega) (by rw [Nat.succ_mul]; omega)
    have take (c : okB (I : Int) ds y (j : Int) = true) : Ev (fun k => (spec_l1Own.f ds).bind fun l224 => (ap l224 ([(j : Int)] : List Int)).bind fun l403 => (spec_reOrders.f k (I : Int) s o l403).bind fun l464 => (ap acc l464).bind fun l523 => spec_reOrders.l0 (spec_reOrders.f k) (I : Int) s o ds ys l523 ((j : Int) + 1)) (acc ++ ((if okB (I : Int) ds y (j : Int) = true then ords (I : Int) s d (ds ++ [(j : Int)]) else []) ++ ordsGo (I : Int) (ords (I : Int) s d) ds ys ((j : Int) + 1))) := by
      refine bind0 (l1Own_eq ds (by omega)) (bind0 (ap_ok (by simp; omega)) (bind (ih _ (by omega) (by omega)) (bind0 (ap_ok (by omega)) ?_)))
      rw [c, if_pos rfl, ← List.append_assoc, ec]
      exact ih2 _ (j + 1) hd (by omega) (by rw [List.length_append, Nat.succ_mul]; omega)
    simp only [spec_reOrders.l0, l1Has_eq, Option.bind_some]
    rw [w64_id (x := y.f0 - (I : Int)) (by omega), w64_id (x := y.f1 - (I : Int)) (by omega)]
    by_cases c1 : (j : Int) ∈ ds
    · exact pos (decide_eq_true c1) (skip (by simp [okB, c1]))
    · refine neg (by simpa using c1) ?_
      by_cases c2 : (I : Int) ≤ y.f0
      · refine pos c2 ?_
        by_cases c3 : y.f0 - (I : Int) ∈ ds
        · refine pos (decide_eq_true c3) ?_
          by_cases c4 : (I : Int) ≤ y.f1
          · refine pos c4 ?_
            by_cases c5 : y.f1 - (I : Int) ∈ ds
            · exact pos (decide_eq_true c5) (take (by simp [okB, c1, c3, c5]))
            · exact neg (by simpa using c5) (skip (by have : ¬ y.f1 < (I : Int) := by omega
                                                      simp [okB, c5, this]))
          · exact neg c4 (take (by have : y.f1 < (I : Int) := by omega
                                   simp [okB, c1, c3, this]))
        · exact neg (by simpa using c3) (skip (by have : ¬ y.f0 < (I : Int) := by omega
                                                  simp [okB, c3, this]))
      · refine neg c2 ?_
        have c2' : y.f0 < (I : Int) := by omega
        by_cases c4 : (I : Int) ≤ y.f1
        · refine pos c4 ?_
          by_cases c5 : y.f1 - (I : Int) ∈ ds
          · exact pos (decide_eq_true c5) (take (by simp [okB, c1, c2', c5]))
          · exact neg (by simpa using c5) (skip (by have : ¬ y.f1 < (I : Int) := by omega
                                                    simp [okB, c5, this]))
        · exact neg c4 (take (by have : y.f1 < (I : Int) := by omega
                                 simp [okB, c1, c2', this]))
theorem pow_small {n d : Nat} (hn : n ≤ 8) (hd : d ≤ 8) : n ^ d ≤ 16777216 := by
  refine Nat.le_trans (Nat.pow_le_pow_left hn d) ?_
  exact Nat.le_trans (Nat.pow_le_pow_right (by omega) hd) (by decide)
theorem reOrders_ev {I : Nat} {s : List SStep} {o : List Int} (h : Form I s o) (h8 : s.length ≤ 8) (d : Nat) (ds : List Int) (hd : ds.length + d = s.length) : Ev (fun k => spec_reOrders.f k (I : Int) s o ds) (ords (I : Int) s d ds) := by
  induction d generalizing ds with
  | zero =>
    refine shift ?_
    simp only [spec_reOrders.f, ords]
    exact pos (by omega) (bind0 (l1Own_eq ds (by omega)) (ret _))
  | succ d ih =>
    refine shift ?_
    simp only [spec_reOrders.f, ords]
    refine neg (by omega) (bind ?_ (ret _))
    have hp := pow_small h8 (show d ≤ 8 by omega)
    have hb : s.length ^ d * s.length ≤ 16777216 * 8 := Nat.mul_le_mul hp h8
    have hb2 : s.length ^ d * s.length ≤ 16777216 := by
      have := pow_small h8 (show d + 1 ≤ 8 by omega)
      rwa [Nat.pow_succ] at this
    have := spec_go h d ds (by omega) (by omega) (fun x _ _ => ih (ds ++ [x]) (by rw [List.length_append, List.length_singleton]; omega)) s [] 0 rfl (by omega) (by simp)
    rw [List.nil_append] at this
    exact this
/-! the program hands each order to a function -/
theorem orders1_eq (v : Int) (I : Nat) (hv : 0 ≤ v ∧ v ≤ 1000) (hI : I ≤ 1000) (s : List SStep) (o ds : List Int) : impl_Plan_orders_1.f v (I : Int) s o ds = some (decide (v < (I : Int)) || decide (v - (I : Int) ∈ ds)) := by
  unfold impl_Plan_orders_1.f
  rw [contains_eq, w64_id (by omega)]
  by_cases c : v < (I : Int) <;> simp [c]
theorem test_eq {I : Nat} {s : List SStep} {o : List Int} (h : Form I s o) (ds : List Int) (j : Nat) (y : SStep) (hy : s[j]? = some y) : ((slices_Contains_int_int.f ds (j : Int)).bind fun b38 => if b38 = true then (some false) else ((impl_Plan_orders_1.f y.f0 (I : Int) s o ds).bind fun b41 => if b41 = true then ((impl_Plan_orders_1.f y.f1 (I : Int) s o ds).bind fun b44 => some b44) else (some false))) = some (okB (I : Int) ds y (j : Int)) := by
  have h1 := h.inp
  have h2 := h.stp
  have h3 := h.step hy
  have h4 := (List.getElem?_eq_some_iff.1 hy).1
  rw [contains_eq, orders1_eq _ _ (by omega) (by omega), orders1_eq _ _ (by omega) (by omega)]
  unfold okB
  by_cases c : (j : Int) ∈ ds
  · simp [c]
  · cases (decide (y.f0 < (I : Int)) || decide (y.f0 - (I : Int) ∈ ds)) <;> simp [c]
theorem within1_eq {I : Nat} {s : List SStep} {o : List Int} (h : Form I s o) (ds : List Int) (hy : ∀ y ∈ ds, 0 ≤ y ∧ y < (s.length : Int)) (r acc : Int) : impl_Plan_within_1.f ds (I : Int) s o r acc = some (if press I s o ds ≤ r then w64 (acc + 1) else acc) := by
  unfold impl_Plan_within_1.f
  rw [pressure_eq h ds hy, Option.bind_some]
  split <;> rfl
def stepW (I : Nat) (s : List SStep) (o : List Int) (r : Int) (acc : Int) (l : List Int) : Int := if press I s o l ≤ r then w64 (acc + 1) else acc
theorem impl_goW {I : Nat} {s : List SStep} {o : List Int} (h : Form I s o) (r : Int) (d : Nat) (ds : List Int) (hl : ds.length ≤ 1000)
    (ih : ∀ (x acc : Int), 0 ≤ x → x < (s.length : Int) → Ev (fun k => impl_Plan_orders.f k (I : Int) s o (ds ++ [x]) (I : Int) s o r acc) ((ords (I : Int) s d (ds ++ [x])).foldl (stepW I s o r) acc)) (ys : List SStep) (acc : Int) (j : Nat) (hs : s.drop j = ys) :
    Ev (fun k => impl_Plan_orders.l0 (impl_Plan_orders.f k) (I : Int) s o ds (I : Int) s o r ys acc (j : Int)) ((ordsGo (I : Int) (ords (I : Int) s d) ds ys (j : Int)).foldl (stepW I s o r) acc) := by
  induction ys generalizing acc j with
  | nil =>
    simp only [impl_Plan_orders.l0, ordsGo, List.foldl_nil]
    exact ret _
  | cons y ys ih2 =>
    have hy : s[j]? = some y := by
      have : (s.drop j)[0]? = some y := by rw [hs]; rfl
      rw [List.getElem?_drop] at this
      simpa using this
    have hjl := (List.getElem?_eq_some_iff.1 hy).1
    have hd : s.drop (j + 1) = ys := by
      rw [← List.drop_drop, hs]
      rfl
    have ec : (j : Int) + 1 = ((j + 1 : Nat) : Int) := by omega
    simp only [impl_Plan_orders.l0, ordsGo, test_eq h ds j y hy, List.foldl_append]
    refine bind0 rfl ?_
    cases c : okB (I : Int) ds y (j : Int) with
    | true =>
      refine pos rfl (bind0 rfl (bind0 (ap_ok (by simp; omega)) (bind (ih _ _ (by omega) (by omega)) ?_)))
      rw [if_pos rfl, ec]
      exact ih2 _ (j + 1) hd
    | false =>
      refine neg (by simp) ?_
      rw [if_neg (by simp), ec]
      exact ih2 _ (j + 1) hd
theorem ordersW_ev {I : Nat} {s : List SStep} {o : List Int} (h : Form I s o) (r : Int) (d : Nat) (ds : List Int) (acc : Int) (hd : ds.length + d = s.length) (hy : ∀ y ∈ ds, 0 ≤ y ∧ y < (s.length : Int)) : Ev (fun k => impl_Plan_orders.f k (I : Int) s o ds (I : Int) s o r acc) ((ords (I : Int) s d ds).foldl (stepW I s o r) acc) := by
  have hn := h.stp
  induction d generalizing ds acc with
  | zero =>
    refine shift ?_
    simp only [impl_Plan_orders.f, ords, List.foldl_cons, List.foldl_nil]
    exact pos (by omega) (bind0 (within1_eq h ds hy r acc) (ret _))
  | succ d ih =>
    refine shift ?_
    simp only [impl_Plan_orders.f, ords]
    refine neg (by omega) (bind ?_ (ret _))
    exact impl_goW h r d ds (by omega) (fun x acc h0 h1 => ih (ds ++ [x]) acc (by rw [List.length_append, List.length_singleton]; omega) (fun y hm => by
      rcases List.mem_append.1 hm with hm | hm
      · exact hy y hm
      · rw [List.mem_singleton.1 hm]; omega)) s acc 0 rfl
theorem few_ev (i : Int) (s : List SStep) (o : List Int) : Ev (fun k => spec_reFew.f k i s o) (good i s o && decide (s.length ≤ 8)) := by
  unfold spec_reFew.f
  refine bind (plGood_ev i s o) ?_
  cases good i s o with
  | false => exact neg (by simp) (ret _)
  | true =>
    refine pos rfl (now ?_)
    congr 1
    rw [Bool.true_and]
    by_cases c : s.length ≤ 8
    · rw [decide_eq_true c, decide_eq_true (by omega)]
    · rw [decide_eq_false c, decide_eq_false (by omega)]
theorem orderable_ev (i : Int) (s : List SStep) (o : List Int) : Ev (fun k => impl_orderable.f k i s o) (good i s o && decide (s.length ≤ 8)) := by
  unfold impl_orderable.f
  refine bind (isPlan_ev i s o) ?_
  cases good i s o with
  | false => exact neg (by simp) (ret _)
  | true =>
    refine pos rfl (now ?_)
    congr 1
    rw [Bool.true_and]
    by_cases c : s.length ≤ 8
    · rw [decide_eq_true c, decide_eq_true (by omega)]
    · rw [decide_eq_false c, decide_eq_false (by omega)]
theorem few_form {i : Int} {s : List SStep} {o : List Int} (h : (good i s o && decide (s.length ≤ 8)) = true) : ∃ I : Nat, i = (I : Int) ∧ Form I s o ∧ s.length ≤ 8 := by
  simp only [Bool.and_eq_true, decide_eq_true_eq] at h
  obtain ⟨I, rfl, hf⟩ := good_form h.1
  exact ⟨I, rfl, hf, h.2⟩
end Go.Proofs.Ytdicngjloiphkaa.Pure
