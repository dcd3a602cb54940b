/- The polynomials of a code's values: the program and the reference come to the same. -/
import Derived.Test.YtgglemlhombgkaaKFnExactThenCodeTOps8
import Derived.Test.YtgglemlhombgkaaKFnExactThenCodeQ0
import Derived.Test.YtgglemlhombgkaaKFnExactThenCodeQ1
import Derived.Test.YtgglemlhombgkaaKFnExactThenCodeQ3
namespace Go.Proofs.Ytgglemlhombgkaa.Pure
open Go.RowKit Go.Proofs.Ytgglemlhombgkaa.T Go.Proofs.Ytgglemlhombgkaa.E Go.Proofs.YtgglemlhombgkaaW.PrintWords Go.Proofs.YtgglemlhombgkaaW.PrintLast Go.Proofs.YtgglemlhombgkaaW.PrintMore

/-- A list's first n elements without zeros at the end. -/
def trimN (l : List Int) : Nat → List Int
 | 0 => []
 | n + 1 => if rd l (n : Int) = 0 then trimN l n else l.take (n + 1)
theorem trimN_length (l : List Int) : ∀ n, (trimN l n).length ≤ n
 | 0 => by simp [trimN]
 | n + 1 => by
  have := trimN_length l n
  simp only [trimN]
  split
  ·omega
  ·rw [List.length_take]; omega
theorem trimN_append (l ys : List Int) : ∀ n, n ≤ l.length → trimN (l ++ ys) n = trimN l n
 | 0, _ => rfl
 | n + 1, h => by
  simp only [trimN]
  rw [trimN_append l ys n (by omega), rd_append_left l ys n (by omega) (by omega), List.take_append_of_le_length h]
theorem trimN_zero (l : List Int) (h : ∀ x ∈ l, x = 0) : ∀ n, n ≤ l.length → trimN l n = []
 | 0, _ => rfl
 | n + 1, hn => by
  simp only [trimN]
  rw [if_pos (h _ (rd_mem l n (by omega) (by omega))), trimN_zero l h n (by omega)]
theorem l1Own_eq (l : List Int) (h : l.length < 17592186044416) : spec_l1Own.f l = some l := by
 unfold spec_l1Own.f
 simp only [Option.bind_some, List.length_nil, Nat.zero_add, List.nil_append]
 rw [if_pos h]
theorem poTrim_ev (l : List Int) (h : l.length < 17592186044416) : Ev (fun k => spec_poTrim.f k l) (trimN l l.length) := by
 have key : ∀ n, n ≤ l.length → Ev (fun k => spec_poTrim.l0 k l (n : Int)) (trimN l n) := by
  intro n
  induction n with
  | zero =>
   intro _
   refine shift ?_
   simp only [spec_poTrim.l0]
   refine neg (by omega) (pos (by omega) (pos (by omega) (bind0 (l1Own_eq _ (by simp)) (ret _))))
  | succ n ih =>
   intro hn
   refine shift ?_
   simp only [spec_poTrim.l0]
   rw [wrap_pred (by omega)]
   refine pos (by omega) (pos (by omega) (pos (by omega) ?_))
   by_cases hz : rd l (n : Int) = 0
   ·refine pos hz ?_
    simp only [trimN]
    rw [if_pos hz]
    exact ih (by omega)
   ·refine neg hz (pos (by omega) (pos (by omega) ?_))
    simp only [trimN]
    rw [if_neg hz, toNat_cast]
    exact bind0 (l1Own_eq _ (by rw [List.length_take]; omega)) (ret _)
 unfold spec_poTrim.f
 exact key l.length (Nat.le_refl _)
theorem cut_ev (l : List Int) (h : l.length < 17592186044416) : Ev (fun k => impl_cut.f k l) (trimN l l.length) := by
 have key : ∀ n, n ≤ l.length → Ev (fun k => impl_cut.l0 k (l.take n)) (trimN l n) := by
  intro n
  induction n with
  | zero =>
   intro _
   refine shift ?_
   simp only [impl_cut.l0]
   exact neg (by simp) (now (by simp [trimN]))
  | succ n ih =>
   intro hn
   have hl : (l.take (n + 1)).length = n + 1 := by rw [List.length_take]; omega
   refine shift ?_
   simp only [impl_cut.l0]
   rw [hl, wrap_pred (by omega)]
   refine pos (by omega) (pos (by omega) (pos (by omega) ?_))
   have hr : rd (l.take (n + 1)) (n : Int) = rd l (n : Int) := by
    rw [rd_nat _ n (by omega), rd_nat l n (by omega), List.getElem_take]
   rw [hr]
   by_cases hz : rd l (n : Int) = 0
   ·refine pos hz (pos (by omega) ?_)
    simp only [trimN]
    rw [if_pos hz, toNat_cast, List.take_take, Nat.min_eq_left (by omega)]
    exact ih (by omega)
   ·refine neg hz (now ?_)
    simp only [trimN]
    rw [if_neg hz]
 unfold impl_cut.f
 have := key l.length (Nat.le_refl _)
 rwa [List.take_length] at this

/-! ### sums -/
theorem sum_l1 (x : List Int) (m : Nat) (hm : m < 1000000000) (d : Nat) : ∀ (j : Nat) (o : List Int), o.length = m → x.length ≤ m → j + d = x.length →
  ∃ r, Ev (fun k => spec_poSum.l1 k o x (x.length : Int) j) r ∧ Ev (fun k => impl_sumOf.l1 k o x (x.length : Int) j) r ∧ r.length ≤ m := by
 induction d with
 | zero =>
  intro j o ho hx hj
  refine ⟨trimN o o.length, ?_, ?_, by rw [ho]; exact trimN_length _ _⟩
  ·refine shift ?_
   simp only [spec_poSum.l1]
   exact neg (by omega) (bind (poTrim_ev o (by omega)) (ret _))
  ·refine shift ?_
   simp only [impl_sumOf.l1]
   exact neg (by omega) (bind (cut_ev o (by omega)) (ret _))
 | succ d ih =>
  intro j o ho hx hj
  obtain ⟨r, h1, h2, h3⟩ := ih (j + 1) (o.set j (wrap64 (rd o j + rd x j))) (by simpa using ho) hx (by omega)
  refine ⟨r, ?_, ?_, h3⟩
  ·refine shift ?_
   simp only [spec_poSum.l1]
   rw [wrap_succ (by omega), toNat_cast]
   exact pos (by omega) (pos (by omega) (pos (by omega) (pos (by omega) h1)))
  ·refine shift ?_
   simp only [impl_sumOf.l1]
   rw [wrap_succ (by omega), toNat_cast]
   exact pos (by omega) (pos (by omega) (pos (by omega) (pos (by omega) h2)))
theorem sum_l0 (x y : List Int) (m : Nat) (hm : m < 1000000000) (hy : y.length ≤ m) (d : Nat) : ∀ (j : Nat) (o : List Int), o.length = m → x.length ≤ m → j + d = x.length →
  ∃ r, Ev (fun k => spec_poSum.l0 k y o x (x.length : Int) j) r ∧ Ev (fun k => impl_sumOf.l0 k y o x (x.length : Int) j) r ∧ r.length ≤ m := by
 induction d with
 | zero =>
  intro j o ho hx hj
  obtain ⟨r, h1, h2, h3⟩ := sum_l1 y m hm y.length 0 o ho hy (by omega)
  refine ⟨r, ?_, ?_, h3⟩
  ·refine shift ?_
   simp only [spec_poSum.l0]
   exact neg (by omega) h1
  ·refine shift ?_
   simp only [impl_sumOf.l0]
   exact neg (by omega) h2
 | succ d ih =>
  intro j o ho hx hj
  obtain ⟨r, h1, h2, h3⟩ := ih (j + 1) (o.set j (wrap64 (rd o j + rd x j))) (by simpa using ho) hx (by omega)
  refine ⟨r, ?_, ?_, h3⟩
  ·refine shift ?_
   simp only [spec_poSum.l0]
   rw [wrap_succ (by omega), toNat_cast]
   exact pos (by omega) (pos (by omega) (pos (by omega) (pos (by omega) h1)))
  ·refine shift ?_
   simp only [impl_sumOf.l0]
   rw [wrap_succ (by omega), toNat_cast]
   exact pos (by omega) (pos (by omega) (pos (by omega) (pos (by omega) h2)))
theorem sum_both (x y : List Int) (hx : x.length ≤ 17) (hy : y.length ≤ 17) :
  ∃ r, Ev (fun k => spec_poSum.f k x y) r ∧ Ev (fun k => impl_sumOf.f k x y) r ∧ r.length ≤ 17 := by
 obtain ⟨m, hm⟩ : ∃ m : Nat, m = max x.length y.length := ⟨_, rfl⟩
 have hmx : mx (x.length : Int) (y.length : Int) = (m : Int) := by unfold mx; split <;> omega
 have hmo : spec_l1Most.f (x.length : Int) (y.length : Int) = some (m : Int) := by
  unfold spec_l1Most.f
  split
  ·congr 1; omega
  ·congr 1; omega
 obtain ⟨r, h1, h2, h3⟩ := sum_l0 x y m (by omega) (by omega) x.length 0 (List.replicate m 0) (by simp) (by omega) (by omega)
 refine ⟨r, ?_, ?_, by omega⟩
 ·unfold spec_poSum.f
  refine bind0 hmo (pos (by omega) (pos (by omega) ?_))
  rw [toNat_cast]
  exact h1
 ·unfold impl_sumOf.f
  rw [hmx]
  refine pos (by omega) (pos (by omega) ?_)
  rw [toNat_cast]
  exact h2

/-! ### products -/
theorem prod_inner (x y : List Int) (m i : Nat) (hx : x.length ≤ 1000) (hy : y.length ≤ 1000) (hi : i < x.length) (hm : m + 1 = x.length + y.length) (d : Nat) (c : Int)
  (H : ∀ o : List Int, o.length = m → ∃ r, Ev (fun k => spec_poProduct.l0 k y o x (x.length : Int) ((i + 1 : Nat) : Int)) r ∧ Ev (fun k => impl_productOf.l0 k y (o ++ [0]) x (x.length : Int) ((i + 1 : Nat) : Int)) r ∧ r.length ≤ m) :
  ∀ (j : Nat) (o : List Int), o.length = m → j + d = y.length →
  ∃ r, Ev (fun k => spec_poProduct.l1 k y o i c x (x.length : Int) i y (y.length : Int) j) r ∧ Ev (fun k => impl_productOf.l1 k y (o ++ [0]) i c x (x.length : Int) i y (y.length : Int) j) r ∧ r.length ≤ m := by
 induction d with
 | zero =>
  intro j o ho hj
  obtain ⟨r, h1, h2, h3⟩ := H o ho
  refine ⟨r, ?_, ?_, h3⟩
  ·refine shift ?_
   simp only [spec_poProduct.l1]
   rw [wrap_succ (j := i) (by omega)]
   exact neg (by omega) h1
  ·refine shift ?_
   simp only [impl_productOf.l1]
   rw [wrap_succ (j := i) (by omega)]
   exact neg (by omega) h2
 | succ d ih =>
  intro j o ho hj
  have hw : wrap64 ((i : Int) + (j : Int)) = ((i + j : Nat) : Int) := by rw [wrap_id (by omega) (by omega)]; omega
  obtain ⟨r, h1, h2, h3⟩ := ih (j + 1) (o.set (i + j) (wrap64 (rd o ((i + j : Nat) : Int) + wrap64 (c * rd y (j : Int))))) (by simpa using ho) (by omega)
  refine ⟨r, ?_, ?_, h3⟩
  ·refine shift ?_
   simp only [spec_poProduct.l1]
   rw [wrap_succ (by omega), hw, toNat_cast]
   exact pos (by omega) (pos (by omega) (pos (by omega) (pos (by omega) (pos (by omega) h1))))
  ·refine shift ?_
   simp only [impl_productOf.l1]
   rw [wrap_succ (by omega), hw, toNat_cast, rd_append_left o [0] _ (by omega) (by omega), List.set_append_left _ _ (by omega)]
   exact pos (by omega) (pos (by omega) (pos (by omega) (pos (by omega) (pos (by simp; omega) h2))))
theorem prod_outer (x y : List Int) (m : Nat) (hx : x.length ≤ 1000) (hy : y.length ≤ 1000) (hm : m + 1 = x.length + y.length) (d : Nat) :
  ∀ (i : Nat) (o : List Int), o.length = m → i + d = x.length →
  ∃ r, Ev (fun k => spec_poProduct.l0 k y o x (x.length : Int) i) r ∧ Ev (fun k => impl_productOf.l0 k y (o ++ [0]) x (x.length : Int) i) r ∧ r.length ≤ m := by
 induction d with
 | zero =>
  intro i o ho hi
  refine ⟨trimN o o.length, ?_, ?_, by rw [ho]; exact trimN_length _ _⟩
  ·refine shift ?_
   simp only [spec_poProduct.l0]
   exact neg (by omega) (bind (poTrim_ev o (by omega)) (ret _))
  ·refine shift ?_
   simp only [impl_productOf.l0]
   have hc := cut_ev (o ++ [0]) (by simp; omega)
   have e : trimN (o ++ [0]) (o ++ [0]).length = trimN o o.length := by
    rw [List.length_append, List.length_singleton]
    simp only [trimN]
    rw [rd_nat _ o.length (by simp)]
    simp only [List.getElem_concat_length, if_true]
    exact trimN_append o [0] o.length (Nat.le_refl _)
   rw [e] at hc
   exact neg (by omega) (bind hc (ret _))
 | succ d ih =>
  intro i o ho hi
  obtain ⟨r, h1, h2, h3⟩ := prod_inner x y m i hx hy (by omega) hm y.length (rd x (i : Int)) (fun o ho => ih (i + 1) o ho (by omega)) 0 o ho (by omega)
  refine ⟨r, ?_, ?_, h3⟩
  ·refine shift ?_
   simp only [spec_poProduct.l0]
   exact pos (by omega) (pos (by omega) (pos (by omega) h1))
  ·refine shift ?_
   simp only [impl_productOf.l0]
   exact pos (by omega) (pos (by omega) (pos (by omega) h2))
/-- A product with nothing: the program multiplies on, and cuts. -/
theorem prod_none (x y : List Int) (hx : x.length ≤ 1000) (hy : y.length ≤ 1000) (h0 : x = [] ∨ y = []) : Ev (fun k => impl_productOf.f k x y) [] := by
 have hw : wrap64 ((x.length : Int) + (y.length : Int)) = ((x.length + y.length : Nat) : Int) := by rw [wrap_id (by omega) (by omega)]; omega
 have fin : ∀ n, n ≤ 2000 → Ev (fun k => impl_cut.f k (List.replicate n 0)) [] := by
  intro n hn
  have := cut_ev (List.replicate n 0) (by simp; omega)
  rwa [trimN_zero _ (fun x hx => (List.mem_replicate.1 hx).2) _ (Nat.le_refl _)] at this
 unfold impl_productOf.f
 rw [hw]
 refine pos (by omega) (pos (by omega) ?_)
 rw [toNat_cast]
 rcases h0 with rfl | rfl
 ·refine shift ?_
  simp only [impl_productOf.l0]
  exact neg (by simp) (bind (fin _ (by simp at hy ⊢; omega)) (ret _))
 ·have key : ∀ d i : Nat, i + d = x.length → Ev (fun k => impl_productOf.l0 k [] (List.replicate (x.length + ([] : List Int).length) 0) x (x.length : Int) i) [] := by
   intro d
   induction d with
   | zero =>
    intro i hi
    refine shift ?_
    simp only [impl_productOf.l0]
    exact neg (by omega) (bind (fin _ (by simp; omega)) (ret _))
   | succ d ih =>
    intro i hi
    refine shift ?_
    simp only [impl_productOf.l0]
    refine pos (by omega) (pos (by omega) (pos (by omega) (shift ?_)))
    simp only [impl_productOf.l1]
    rw [wrap_succ (by omega)]
    exact neg (by simp) (ih (i + 1) (by omega))
  exact key x.length 0 (by omega)
theorem prod_both (x y : List Int) (hx : x.length ≤ 17) (hy : y.length ≤ 17) :
  ∃ r, Ev (fun k => spec_poProduct.f k x y) r ∧ Ev (fun k => impl_productOf.f k x y) r ∧ r.length ≤ 40 := by
 by_cases h0 : x = [] ∨ y = []
 ·refine ⟨[], ?_, prod_none x y (by omega) (by omega) h0, by simp⟩
  unfold spec_poProduct.f
  rcases h0 with rfl | rfl
  ·refine pos (by simp) (shift ?_)
   simp only [spec_poProduct.j0]
   exact pos trivial (ret _)
  ·by_cases hx0 : (x.length : Int) = 0
   ·refine pos hx0 (shift ?_)
    simp only [spec_poProduct.j0]
    exact pos trivial (ret _)
   ·refine neg hx0 (shift ?_)
    simp only [spec_poProduct.j0]
    exact pos (by simp) (ret _)
 ·have hx0 : 0 < x.length := by
   rcases Nat.eq_zero_or_pos x.length with h | h
   ·exact absurd (.inl (List.eq_nil_of_length_eq_zero h)) h0
   ·exact h
  have hy0 : 0 < y.length := by
   rcases Nat.eq_zero_or_pos y.length with h | h
   ·exact absurd (.inr (List.eq_nil_of_length_eq_zero h)) h0
   ·exact h
  obtain ⟨m, hm⟩ : ∃ m, m + 1 = x.length + y.length := ⟨x.length + y.length - 1, by omega⟩
  have hw : wrap64 ((x.length : Int) + (y.length : Int)) = ((m + 1 : Nat) : Int) := by rw [wrap_id (by omega) (by omega)]; omega
  have hw2 : wrap64 (((m + 1 : Nat) : Int) - 1) = (m : Int) := wrap_pred (by omega)
  obtain ⟨r, h1, h2, h3⟩ := prod_outer x y m (by omega) (by omega) hm x.length 0 (List.replicate m 0) (by simp) (by omega)
  refine ⟨r, ?_, ?_, by omega⟩
  ·unfold spec_poProduct.f
   refine neg (by omega) (shift ?_)
   simp only [spec_poProduct.j0]
   rw [hw, hw2, toNat_cast]
   exact neg (by simp only [beq_iff_eq]; omega) (pos (by omega) (pos (by omega) h1))
  ·unfold impl_productOf.f
   rw [hw, toNat_cast, List.replicate_succ']
   exact pos (by omega) (pos (by omega) h2)
/-- A product with the number zero. -/
theorem prod_zero (x : List Int) (c : Int) (hx : x.length ≤ 1000) (hc : c = 0) : Ev (fun k => impl_productOf.f k x [c]) [] := by
 have hw : wrap64 ((x.length : Int) + (([c] : List Int).length : Int)) = ((x.length + 1 : Nat) : Int) := by rw [wrap_id (by simp; omega) (by simp; omega)]; simp
 have key : ∀ (d i : Nat) (o : List Int), o.length = x.length + 1 → (∀ y ∈ o, y = 0) → i + d = x.length → Ev (fun k => impl_productOf.l0 k [c] o x (x.length : Int) i) [] := by
  intro d
  induction d with
  | zero =>
   intro i o ho hz hi
   have := cut_ev o (by omega)
   rw [trimN_zero o hz _ (Nat.le_refl _)] at this
   refine shift ?_
   simp only [impl_productOf.l0]
   exact neg (by omega) (bind this (ret _))
  | succ d ih =>
   intro i o ho hz hi
   have hw1 : wrap64 ((i : Int) + 0) = (i : Int) := by rw [wrap_id (by omega) (by omega)]; omega
   refine shift ?_
   simp only [impl_productOf.l0]
   refine pos (by omega) (pos (by omega) (pos (by omega) (shift ?_)))
   simp only [impl_productOf.l1]
   rw [hw1]
   refine pos (by simp) (pos (by omega) (pos (by simp) (pos (by omega) (pos (by omega) (shift ?_)))))
   simp only [impl_productOf.l1]
   rw [wrap_succ (j := i) (by omega)]
   refine neg (by simp [wrap64]) ?_
   refine ih (i + 1) _ (by simpa using ho) ?_ (by omega)
   intro y hy
   rcases List.mem_or_eq_of_mem_set hy with h | h
   ·exact hz y h
   ·rw [h, hz _ (rd_mem o (i : Int) (by omega) (by omega)), hc]
    simp [rd, wrap64]
 unfold impl_productOf.f
 rw [hw]
 refine pos (by omega) (pos (by omega) ?_)
 rw [toNat_cast]
 exact key x.length 0 _ (by simp) (fun y hy => (List.mem_replicate.1 hy).2) (by omega)
end Go.Proofs.Ytgglemlhombgkaa.Pure
