/- Pure: plans of squares, on both sides. -/
import Derived.Test.YtpdpomjgfmdjfaaKFnExactVectorCostsPturn
set_option linter.unusedVariables false
set_option linter.unusedSimpArgs false
namespace Go.Proofs.Ytpdpomjgfmdjfaa.Pure
open Go.RowKit Go.Proofs.Ytpdpomjgfmdjfaa.E Go.Proofs.Ytpdpomjgfmdjfaa.V3 Go.Proofs.Ytpdpomjgfmdjfaa.Frame Go.Proofs.Ytpdpomjgfmdjfaa.Hand Go.Proofs.YtpdpomjgfmdjfaaW.PrintLast Go.Proofs.YtpdpomjgfmdjfaaW.PrintMore
open Go.Proofs.YtpdpomjgfmdjfaaW.PrintWords hiding mn mx
/-! the greatest of a list -/
theorem mx_le {a b c : Int} : mx a b ≤ c ↔ a ≤ c ∧ b ≤ c := by
  unfold mx
  split <;> omega
theorem mx_ge (a b : Int) : a ≤ mx a b ∧ b ≤ mx a b := by
  unfold mx
  split <;> omega
theorem great_l0 (l : List Int) (m j : Int) : spec_meGreatest.l0 l m j = some (l.foldl mx m) := by
  induction l generalizing m j with
  | nil => rfl
  | cons y ys ih =>
    simp only [spec_meGreatest.l0, most_eq, Option.bind_some]
    exact ih _ _
theorem great_eq (l : List Int) : spec_meGreatest.f l = some (l.foldl mx 0) := by
  unfold spec_meGreatest.f
  rw [great_l0]
  rfl
theorem smax_l0 (l : List Int) (hl : l.length ≤ 1000000) : ∀ (d j : Nat) (m : Int), j + d = l.length → Ev (fun k => slices_Max_int_int.l0 l k m (j : Int)) ((l.drop j).foldl mx m) := by
  intro d
  induction d with
  | zero =>
    intro j m hj
    rw [List.drop_eq_nil_of_le (by omega)]
    refine shift ?_
    simp only [slices_Max_int_int.l0]
    exact neg (by omega) (ret _)
  | succ d ih =>
    intro j m hj
    have h1 : j < l.length := by omega
    rw [List.drop_eq_getElem_cons h1, List.foldl_cons]
    refine shift ?_
    simp only [slices_Max_int_int.l0]
    refine pos (by omega) ?_
    simp only [gt_nat h1, Option.bind_some]
    rw [w64_succ (by omega)]
    exact ih (j + 1) _ (by omega)
theorem smax_ev (l : List Int) (hl : 1 ≤ l.length ∧ l.length ≤ 1000000) (h : ∀ x ∈ l, 0 ≤ x) : Ev (fun k => slices_Max_int_int.f k l) (l.foldl mx 0) := by
  cases l with
  | nil => simp at hl
  | cons a r =>
    have ha := h a List.mem_cons_self
    have e : mx 0 a = a := by
      unfold mx
      split <;> omega
    have := smax_l0 (a :: r) hl.2 r.length 1 a (by simp; omega)
    unfold slices_Max_int_int.f
    rw [List.foldl_cons, e]
    refine neg (by simp; omega) (bind0 (a := a) rfl (bind ?_ (ret _)))
    simpa using this
theorem fmx_ge (l : List Int) (m : Int) : m ≤ l.foldl mx m ∧ ∀ x ∈ l, x ≤ l.foldl mx m := by
  induction l generalizing m with
  | nil => exact ⟨Int.le_refl _, fun x hx => nomatch hx⟩
  | cons y ys ih =>
    obtain ⟨h1, h2⟩ := ih (mx m y)
    have := mx_ge m y
    refine ⟨Int.le_trans this.1 h1, fun x hx => ?_⟩
    rcases List.mem_cons.1 hx with e | hx
    · subst e
      exact Int.le_trans this.2 h1
    · exact h2 x hx
theorem fmx_le {c : Int} (l : List Int) (m : Int) (hm : m ≤ c) (h : ∀ x ∈ l, x ≤ c) : l.foldl mx m ≤ c := by
  induction l generalizing m with
  | nil => exact hm
  | cons y ys ih => exact ih _ (mx_le.2 ⟨hm, h y List.mem_cons_self⟩) (fun x hx => h x (List.mem_cons_of_mem _ hx))
/-! how long a number is -/
theorem bitLen_zero : Lib.bitLen 0 = 0 := by decide
theorem bitLen_pos {y : Nat} (h : y ≠ 0) (hy : y < 2 ^ 64) : Lib.bitLen y = Lib.bitLen (y / 2) + 1 := by
  rw [Lib.bitLen_half y h hy]
  omega
theorem bitLen_mono : ∀ (n x y : Nat), x ≤ y → y < 2 ^ n → n ≤ 64 → Lib.bitLen x ≤ Lib.bitLen y := by
  intro n
  induction n with
  | zero =>
    intro x y h hy _
    obtain rfl : x = y := by simp at hy; omega
    exact Nat.le_refl _
  | succ n ih =>
    intro x y h hy hn
    have h64 : (2 : Nat) ^ (n + 1) ≤ 2 ^ 64 := Nat.pow_le_pow_right (by omega) hn
    by_cases hx : x = 0
    · subst hx; rw [bitLen_zero]; omega
    · rw [bitLen_pos hx (by omega), bitLen_pos (y := y) (by omega) (by omega)]
      have := ih (x / 2) (y / 2) (Nat.div_le_div_right h) (by rw [Nat.pow_succ] at hy; omega) (by omega)
      omega
theorem lt_bitLen : ∀ (d y : Nat), Lib.bitLen y = d → y < 2 ^ 62 → y < 2 ^ d := by
  intro d
  induction d with
  | zero =>
    intro y h hy
    by_cases c : y = 0
    · subst c; decide
    · have := bitLen_pos c (by omega)
      omega
  | succ d ih =>
    intro y h hy
    by_cases c : y = 0
    · subst c
      exact Nat.two_pow_pos _
    · have := ih (y / 2) (by have := bitLen_pos c (by omega); omega) (by omega)
      rw [Nat.pow_succ]
      omega
theorem nn_nat (j : Nat) : nn (j : Int) = some () := by
  unfold nn
  rw [if_pos (by omega)]
theorem shr_nat (x j : Nat) (hj : j ≤ 64) : (x : Int) / 2 ^ min (j : Int).toNat IntKind.i64.bits = ((x / 2 ^ j : Nat) : Int) := by
  rw [Int.toNat_natCast, Nat.min_eq_left (by simpa [IntKind.bits] using hj)]
  push_cast
  rfl
theorem and_one (x : Nat) (h : x < 2 ^ 62) : Go.bits .and .i64 (x : Int) 1 = ((x % 2 : Nat) : Int) := by
  have := bits_mask .i64 62 (by decide) (fun n h0 h1 => w64_id (by omega)) 1 (by omega) (x : Int) (by omega) (by omega)
  simpa using this
theorem chLen_l0 (x : Nat) (hx : x < 2 ^ 62) : ∀ (d j : Nat), Lib.bitLen (x / 2 ^ j) = d → j + d ≤ 62 → Ev (fun k => spec_chLength.l0 (x : Int) k (j : Int)) ((j + d : Nat) : Int) := by
  intro d
  induction d with
  | zero =>
    intro j h hj
    have h0 : x / 2 ^ j = 0 := by
      by_cases c : x / 2 ^ j = 0
      · exact c
      · have := bitLen_pos c (Nat.lt_of_le_of_lt (Nat.div_le_self _ _) (by omega))
        omega
    refine shift ?_
    simp only [spec_chLength.l0]
    rw [shr_nat x j (by omega), h0]
    exact bind0 (nn_nat j) (neg (by simp) (ret _))
  | succ d ih =>
    intro j h hj
    have h0 : x / 2 ^ j ≠ 0 := by
      intro c
      rw [c, bitLen_zero] at h
      omega
    have h1 := bitLen_pos h0 (Nat.lt_of_le_of_lt (Nat.div_le_self _ _) (by omega))
    have h2 : x / 2 ^ j / 2 = x / 2 ^ (j + 1) := by rw [Nat.div_div_eq_div_mul, Nat.pow_succ]
    rw [h2] at h1
    have h3 := ih (j + 1) (by omega) (by omega)
    rw [show j + 1 + d = j + (d + 1) by omega] at h3
    refine shift ?_
    simp only [spec_chLength.l0]
    rw [shr_nat x j (by omega), w64_succ (by omega)]
    exact bind0 (nn_nat j) (pos (Int.natCast_pos.2 (Nat.pos_of_ne_zero h0)) h3)
theorem chLen_ev (x : Nat) (hx : x < 2 ^ 62) : Ev (fun k => spec_chLength.f k (x : Int)) ((Lib.bitLen x : Nat) : Int) := by
  have hb := Lib.bitLen_le x 62 (by omega) hx
  have := chLen_l0 x hx (Lib.bitLen x) 0 (by simp) (by omega)
  rw [Nat.zero_add] at this
  exact bind this (ret _)
theorem len_eq (x : Nat) (hx : x ≤ 16777215) : math_bits_Len.f (IntKind.u64.wrap (x : Int)) = some ((Lib.bitLen x : Nat) : Int) := by
  have e : IntKind.u64.wrap (x : Int) = (x : Int) := by
    simp only [IntKind.wrap, IntKind.bits, IntKind.signed]
    simp
    omega
  unfold math_bits_Len.f math_bits_Len64.f
  rw [e, if_pos (by omega), Int.toNat_natCast]
  rfl
/-! places of binary digits -/
def ones : Nat → Nat → Nat → List Int
  | 0, _, _ => []
  | d + 1, y, j => (if y % 2 = 1 then [(j : Int)] else []) ++ ones d (y / 2) (j + 1)
theorem ones_len (d y j : Nat) : (ones d y j).length ≤ d := by
  induction d generalizing y j with
  | zero => exact Nat.le_refl _
  | succ d ih =>
    have := ih (y / 2) (j + 1)
    simp only [ones, List.length_append]
    split <;> simp <;> omega
theorem ones_zero (d j : Nat) : ones d 0 j = [] := by
  induction d generalizing j with
  | zero => rfl
  | succ d ih =>
    simp only [ones]
    rw [if_neg (by omega), ih]
    rfl
theorem ones_cut (d n y j : Nat) (h : d ≤ n) (hy : y < 2 ^ d) : ones n y j = ones d y j := by
  induction d generalizing n y j with
  | zero =>
    obtain rfl : y = 0 := by simpa using hy
    rw [ones_zero]
    rfl
  | succ d ih =>
    obtain ⟨m, rfl⟩ : ∃ m, n = m + 1 := ⟨n - 1, by omega⟩
    simp only [ones]
    rw [ih m (y / 2) (j + 1) (by omega) (by rw [Nat.pow_succ] at hy; omega)]
def digs : Nat → Nat → List Int
  | 0, _ => []
  | d + 1, y => ((y % 2 : Nat) : Int) :: digs d (y / 2)
theorem digits_ev : ∀ (d y : Nat) (pre : List Int), Lib.bitLen y = d → y < 2 ^ 62 → pre.length + d ≤ 1000 → Ev (fun k => spec_meDigits.l0 2 k pre (y : Int)) (pre ++ digs d y) := by
  intro d
  induction d with
  | zero =>
    intro y pre h hy hp
    have h0 : y = 0 := by
      by_cases c : y = 0
      · exact c
      · have := bitLen_pos c (by omega)
        omega
    subst h0
    refine shift ?_
    simp only [spec_meDigits.l0, digs, List.append_nil]
    exact neg (by simp) (ret _)
  | succ d ih =>
    intro y pre h hy hp
    have h0 : y ≠ 0 := by
      intro c
      rw [c, bitLen_zero] at h
      omega
    have h1 := bitLen_pos h0 (by omega)
    have h2 := ih (y / 2) (pre ++ [((y % 2 : Nat) : Int)]) (by omega) (by omega) (by simp; omega)
    have hz : nz 2 = some () := rfl
    refine shift ?_
    simp only [spec_meDigits.l0, digs]
    rw [show Int.tdiv (y : Int) 2 = ((y / 2 : Nat) : Int) from rfl, show Int.tmod (y : Int) 2 = ((y % 2 : Nat) : Int) from rfl, w64_id (by omega)]
    refine pos (by omega) (bind0 hz (bind0 (ap_ok (by simp; omega)) (bind0 hz ?_)))
    simpa using h2
theorem meTimes_eq (n : Int) (l : List SStep) (o : List Int) (a b : Int) (hl : l.length ≤ 100000) : spec_meTimes.f n l o a b = some (l ++ [⟨mn a b, mx a b⟩]) := by
  unfold spec_meTimes.f
  rw [ap_ok (by simp; omega), Option.bind_some, List.nil_append, plStep_eq, Option.bind_some, ap_ok (by simp; omega)]
  rfl
/-! a number's squares taken together -/
theorem sq_l2 (d y : Nat) (l : List SStep) (j : Nat) (a : Int) (hl : l.length + d ≤ 100000) : spec_SquaresPlan.l2 (digs d y) l [] (j : Int) a = some (((ones d y j).foldl (tmI 1) (l, a)).1, [], ((ones d y j).foldl (tmI 1) (l, a)).2) := by
  induction d generalizing y l j a with
  | zero => rfl
  | succ d ih =>
    simp only [digs, ones, spec_SquaresPlan.l2]
    rw [show (j : Int) + 1 = ((j + 1 : Nat) : Int) by omega]
    by_cases c : y % 2 = 1
    · have c' : ((y % 2 : Nat) : Int) = 1 := by omega
      rw [if_pos c', if_pos c, Option.bind_some, List.foldl_append]
      by_cases ha : 0 ≤ a
      · rw [if_pos (by simpa using ha), meTimes_eq 1 l [] a j (by omega), Option.bind_some, w64_id (by omega)]
        have e : [(j : Int)].foldl (tmI 1) (l, a) = (l ++ [⟨mn a j, mx a j⟩], 1 + (l.length : Int)) := by
          simp only [List.foldl_cons, List.foldl_nil, tmI, tm]
          rw [if_neg (by omega)]
        rw [e]
        exact ih (y / 2) _ (j + 1) _ (by simp; omega)
      · rw [if_neg (by simpa using ha), if_pos c']
        have e : [(j : Int)].foldl (tmI 1) (l, a) = (l, (j : Int)) := by
          simp only [List.foldl_cons, List.foldl_nil, tmI]
          rw [if_pos (by omega)]
        rw [e]
        exact ih (y / 2) _ (j + 1) _ (by omega)
    · have c' : ¬ ((y % 2 : Nat) : Int) = 1 := by omega
      rw [if_neg c', if_neg c, Option.bind_some, if_neg (by simp), if_neg c', List.nil_append]
      exact ih (y / 2) l (j + 1) a (by omega)
def upF : Nat → Nat → List Int
  | 0, _ => []
  | d + 1, j => (j : Int) :: upF d (j + 1)
theorem upF_len (d j : Nat) : (upF d j).length = d := by
  induction d generalizing j with
  | zero => rfl
  | succ d ih => simp [upF, ih]
theorem upF_snoc (d j : Nat) : upF (d + 1) j = upF d j ++ [((j + d : Nat) : Int)] := by
  induction d generalizing j with
  | zero => rfl
  | succ d ih =>
    rw [upF, ih, upF]
    simp only [List.cons_append, Nat.add_assoc, Nat.add_comm 1 d]
theorem isq_l2 (x : Nat) (hx : x < 2 ^ 62) (d : Nat) (l : List SStep) (j : Nat) (a : Int) (hj : j + d ≤ 60) (hl : l.length + d ≤ 100000) : impl_SquaresPlan.l2 (x : Int) (upF d j) l a (j : Int) = some (((ones d (x / 2 ^ j) j).foldl (tmI 1) (l, a)).1, ((ones d (x / 2 ^ j) j).foldl (tmI 1) (l, a)).2) := by
  induction d generalizing l j a with
  | zero => rfl
  | succ d ih =>
    have h2 : x / 2 ^ j / 2 = x / 2 ^ (j + 1) := by rw [Nat.div_div_eq_div_mul, Nat.pow_succ]
    simp only [upF, ones, impl_SquaresPlan.l2]
    rw [nn_nat, Option.bind_some, shr_nat x j (by omega), and_one _ (Nat.lt_of_le_of_lt (Nat.div_le_self _ _) hx), h2, show (j : Int) + 1 = ((j + 1 : Nat) : Int) by omega]
    by_cases c : x / 2 ^ j % 2 = 1
    · rw [if_pos (by omega), if_pos c, times_eq 1 (by omega) l (by omega), Option.bind_some, List.foldl_append]
      have hl1 := fold_len 1 [(j : Int)] (l, a)
      simp only [List.length_cons, List.length_nil] at hl1
      have h9 : (tmI 1 (l, a) (j : Int)).1.length + d ≤ 100000 := by
        have : (tmI 1 (l, a) (j : Int)).1.length ≤ l.length + 1 := hl1
        omega
      exact ih _ (j + 1) _ (by omega) h9
    · rw [if_neg (by omega), if_neg c, List.nil_append]
      exact ih l (j + 1) a (by omega) (by omega)
/-- All numbers of a list, one after another. -/
def sqO (n : Nat) : List Int → List SStep → List Int → List SStep × List Int
  | [], l, o => (l, o)
  | y :: ys, l, o => sqO n ys ((ones n y.toNat 0).foldl (tmI 1) (l, -1)).1 (o ++ [((ones n y.toNat 0).foldl (tmI 1) (l, -1)).2])
theorem isq_l1 (n : Nat) (hn : n ≤ 60) (ys : List Int) (hy : ∀ y ∈ ys, 0 ≤ y ∧ y ≤ 1000000) (l : List SStep) (o : List Int) (q : Int) (hl : l.length + n * ys.length ≤ 10000) (ho : o.length + ys.length ≤ 1000) : impl_SquaresPlan.l1 (upF n 0) ys l o q = some (sqO n ys l o) := by
  induction ys generalizing l o q with
  | nil => rfl
  | cons y ys ih =>
    have h0 := hy y List.mem_cons_self
    obtain ⟨x, rfl⟩ := Int.eq_ofNat_of_zero_le h0.1
    simp only [List.length_cons, Nat.mul_succ] at hl ho
    have h1 := isq_l2 x (by omega) n l 0 (-1) (by omega) (by omega)
    rw [Nat.pow_zero, Nat.div_one, show ((0 : Nat) : Int) = 0 from rfl] at h1
    have h2 := ones_len n x 0
    have h3 := fold_len 1 (ones n x 0) (l, -1)
    simp only at h3
    simp only [impl_SquaresPlan.l1, sqO, Int.toNat_natCast]
    rw [h1]
    simp only [Option.bind_some]
    rw [ap_ok (by simp; omega), Option.bind_some]
    exact ih (fun z hz => hy z (List.mem_cons_of_mem _ hz)) _ _ _ (by omega) (by simp; omega)
theorem sq_l1 (n : Nat) (hn : n ≤ 60) (ys : List Int) (hy : ∀ y ∈ ys, 0 ≤ y ∧ y ≤ 1000000 ∧ Lib.bitLen y.toNat ≤ n) (l : List SStep) (o : List Int) (q : Int) (hl : l.length + n * ys.length ≤ 10000) (ho : o.length + ys.length ≤ 1000) : Ev (fun k => spec_SquaresPlan.l1 k ys l [] o q) ((sqO n ys l o).1, [], (sqO n ys l o).2) := by
  induction ys generalizing l o q with
  | nil => exact ret _
  | cons y ys ih =>
    have h0 := hy y List.mem_cons_self
    obtain ⟨x, rfl⟩ := Int.eq_ofNat_of_zero_le h0.1
    rw [Int.toNat_natCast] at h0
    simp only [List.length_cons, Nat.mul_succ] at hl ho
    have h1 := digits_ev (Lib.bitLen x) x [] rfl (by omega) (by simp; omega)
    have h2 := sq_l2 (Lib.bitLen x) x l 0 (-1) (by omega)
    rw [← ones_cut (Lib.bitLen x) n x 0 h0.2.2 (lt_bitLen _ x rfl (by omega)), show ((0 : Nat) : Int) = 0 from rfl] at h2
    have h4 := ones_len n x 0
    have h3 := fold_len 1 (ones n x 0) (l, -1)
    simp only at h3
    simp only [spec_SquaresPlan.l1, sqO, Int.toNat_natCast]
    refine bind (a := digs (Lib.bitLen x) x) ?_ (bind0 h2 (bind0 (ap_ok (by simp; omega)) ?_))
    · unfold spec_meDigits.f
      exact bind h1 (ret _)
    · have h9 : ((ones n x 0).foldl (tmI 1) (l, -1)).1.length + n * ys.length ≤ 10000 := by omega
      exact ih (fun z hz => hy z (List.mem_cons_of_mem _ hz)) _ _ _ h9 (by simp; omega)
theorem sqO_len (n : Nat) (ys : List Int) (l : List SStep) (o : List Int) : (sqO n ys l o).1.length ≤ l.length + n * ys.length ∧ (sqO n ys l o).2.length = o.length + ys.length := by
  induction ys generalizing l o with
  | nil => exact ⟨Nat.le_refl _, rfl⟩
  | cons y ys ih =>
    have h2 := ones_len n y.toNat 0
    have h3 := fold_len 1 (ones n y.toNat 0) (l, -1)
    simp only at h3
    have := ih ((ones n y.toNat 0).foldl (tmI 1) (l, -1)).1 (o ++ [((ones n y.toNat 0).foldl (tmI 1) (l, -1)).2])
    simp only [sqO, List.length_cons, Nat.mul_succ]
    rw [List.length_append, List.length_singleton] at this
    omega
/-! the squares themselves -/
def sqS (t : Nat) : List SStep := (List.range t).map (fun (j : Nat) => (⟨(j : Int), (j : Int)⟩ : SStep))
theorem sqS_len (t : Nat) : (sqS t).length = t := by simp [sqS]
theorem sqS_succ (t : Nat) : sqS t ++ [⟨mn (t : Int) t, mx (t : Int) t⟩] = sqS (t + 1) := by
  unfold sqS mn mx
  rw [List.range_succ, List.map_append]
  simp
theorem up {α : Type} {g : Nat → Option α} {r : α} (c : Nat) (h : Ev g r) : Ev (fun k => g (k + c)) r := by
  obtain ⟨K, h⟩ := h
  exact ⟨K, fun n hn => h (n + c) (by omega)⟩
theorem sq_l0 (l0 : List Int) (n : Nat) (q : Int) (hg : spec_meGreatest.f l0 = some q) (hc : Ev (fun k => spec_chLength.f k q) (n : Int)) (hn : 1 ≤ n ∧ n ≤ 60) : ∀ (d t c : Nat), t + 1 + d = n → Ev (fun k => spec_SquaresPlan.l0 (k + c) l0 k (sqS t) [] ((t + 1 : Nat) : Int)) (sqS (n - 1), []) := by
  intro d
  induction d with
  | zero =>
    intro t c ht
    have e : ∀ k, k + 1 + c = k + (c + 1) := by omega
    obtain rfl : t = n - 1 := by omega
    refine shift ?_
    simp only [spec_SquaresPlan.l0, e]
    exact bind0 hg (bind (up (c + 1) hc) (neg (by omega) (ret _)))
  | succ d ih =>
    intro t c ht
    have e : ∀ k, k + 1 + c = k + (c + 1) := by omega
    have h := ih (t + 1) (c + 1) (by omega)
    refine shift ?_
    simp only [spec_SquaresPlan.l0, e]
    refine bind0 hg (bind (up (c + 1) hc) (pos (by omega) (bind0 (meTimes_eq 1 (sqS t) [] _ _ (by rw [sqS_len]; omega)) ?_)))
    rw [w64_id (by omega), show ((t + 1 : Nat) : Int) - 1 = (t : Int) by omega, sqS_succ, w64_id (by omega)]
    exact h
theorem isq_l0 (l0 : List Int) (n : Nat) (q : Int) (hg : Ev (fun k => slices_Max_int_int.f k l0) q) (hc : math_bits_Len.f (IntKind.u64.wrap q) = some (n : Int)) (hn : 1 ≤ n ∧ n ≤ 60) : ∀ (d t c : Nat), t + 1 + d = n → Ev (fun k => impl_SquaresPlan.l0 (k + c) l0 k (sqS t) (upF (t + 1) 0)) (sqS (n - 1), upF n 0) := by
  intro d
  induction d with
  | zero =>
    intro t c ht
    have e : ∀ k, k + 1 + c = k + (c + 1) := by omega
    obtain rfl : t = n - 1 := by omega
    rw [show n - 1 + 1 = n by omega]
    refine shift ?_
    simp only [impl_SquaresPlan.l0, e]
    exact bind (up (c + 1) hg) (bind0 hc (neg (by rw [upF_len]; omega) (ret _)))
  | succ d ih =>
    intro t c ht
    have e : ∀ k, k + 1 + c = k + (c + 1) := by omega
    have h := ih (t + 1) (c + 1) (by omega)
    refine shift ?_
    simp only [impl_SquaresPlan.l0, e]
    have g1 : gt (upF (t + 1) 0) (w64 (((upF (t + 1) 0).length : Int) - 1)) = some (t : Int) := by
      rw [upF_len, w64_id (by omega), show ((t + 1 : Nat) : Int) - 1 = (t : Int) by omega, upF_snoc]
      have hx : t < (upF t 0 ++ [((0 + t : Nat) : Int)]).length := by rw [List.length_append, upF_len]; simp
      rw [gt_nat hx]
      congr 1
      rw [List.getElem_append_right (by rw [upF_len]; omega)]
      simp
    have g2 : impl_maker_multiply.f 1 (sqS t) [] (t : Int) (t : Int) = some (((t + 1 : Nat) : Int), sqS (t + 1)) := by
      unfold impl_maker_multiply.f impl_step.f impl_Plan_many_2.f
      rw [Option.bind_some, ap_ok (by simp [sqS_len]; omega)]
      simp only [Option.bind_some]
      rw [sqS_succ, sqS_len, w64_id (x := 1 + ((t + 1 : Nat) : Int)) (by omega), w64_id (by omega)]
      congr 2
      omega
    refine bind (up (c + 1) hg) (bind0 hc (pos (by rw [upF_len]; omega) (bind0 g1 (bind0 g2 (bind0 (ap_ok (by rw [upF_len]; simp; omega)) ?_)))))
    have e2 := upF_snoc (t + 1) 0
    rw [Nat.zero_add] at e2
    rw [e2] at h
    exact h
/-! a plan that is told, or none -/
def toldP (i : Int) (s : List SStep) (o : List Int) : Int × List SStep × List Int × Bool := if good i s o = true then (i, s, o, true) else (0, [], [], false)
theorem plIf_ev (i : Int) (s : List SStep) (o : List Int) : Ev (fun k => spec_plIf.f k i s o) (toldP i s o) := by
  have e1 := plGood_ev i s o
  unfold spec_plIf.f toldP
  cases hg : good i s o with
  | true => rw [hg] at e1; exact bind e1 (pos rfl (ret _))
  | false => rw [hg] at e1; exact bind e1 (neg (by simp) (ret _))
theorem told_ev (i : Int) (s : List SStep) (o : List Int) : Ev (fun k => impl_told.f k i s o) (toldP i s o) := by
  have e1 := isPlan_ev i s o
  unfold impl_told.f toldP
  cases hg : good i s o with
  | true => rw [hg] at e1; exact bind e1 (pos rfl (ret _))
  | false => rw [hg] at e1; exact bind e1 (neg (by simp) (ret _))
theorem idx3_l0 (l : List Int) (j : Int) (hj : 0 ≤ j) : ∃ r, slices_IndexFunc_int_int_3.l0 l j = some r ∧ (aB 1 1000000 l = true → r = .inr ()) ∧ (aB 1 1000000 l = false → ∃ m, r = .inl m ∧ 0 ≤ m) := by
  induction l generalizing j with
  | nil => exact ⟨_, rfl, fun _ => rfl, fun h => by simp [aB] at h⟩
  | cons y ys ih =>
    simp only [slices_IndexFunc_int_int_3.l0, impl_SquaresPlan_1.f, impl_isNumber.f, in_eq, Option.bind_some]
    obtain ⟨r, h1, h2, h3⟩ := ih (j + 1) (by omega)
    by_cases c : 1 ≤ y ∧ y ≤ 1000000
    · rw [decide_eq_true c]
      refine ⟨r, by simpa using h1, ?_, ?_⟩
      · intro h
        refine h2 ?_
        simp only [aB, List.all_cons, Bool.and_eq_true] at h ⊢
        exact h.2
      · intro h
        refine h3 ?_
        simp only [aB, List.all_cons, Bool.and_eq_false_iff] at h ⊢
        rcases h with h | h
        · simp [c.1, c.2] at h
        · exact h
    · rw [decide_eq_false c]
      refine ⟨.inl j, by simp, ?_, fun _ => ⟨j, rfl, hj⟩⟩
      intro h
      simp only [aB, List.all_cons, Bool.and_eq_true] at h
      refine absurd ?_ c
      simpa using h.1
theorem cf3_eq (l : List Int) : slices_ContainsFunc_int_int_3.f l = some (!aB 1 1000000 l) := by
  unfold slices_ContainsFunc_int_int_3.f slices_IndexFunc_int_int_3.f
  obtain ⟨r, h1, h2, h3⟩ := idx3_l0 l 0 (by omega)
  rw [h1]
  cases c : aB 1 1000000 l with
  | true =>
    rw [h2 c]
    rfl
  | false =>
    obtain ⟨m, rfl, hm⟩ := h3 c
    simp [hm]
theorem aB_in {lo hi : Int} {l : List Int} (h : aB lo hi l = true) : ∀ x ∈ l, lo ≤ x ∧ x ≤ hi := by
  intro x hx
  unfold aB at h
  have := List.all_eq_true.1 h x hx
  simpa using this
theorem squares_both (l0 : List Int) : ∃ n s o b, Ev (fun k => impl_SquaresPlan.f k l0) (n, s, o, b) ∧ Ev (fun k => spec_SquaresPlan.f k l0) (n, s, o, b) ∧ s.length ≤ 10000 ∧ o.length ≤ 1000 := by
  unfold spec_SquaresPlan.f impl_SquaresPlan.f
  rw [l1In_eq, in_eq, l1All_eq, cf3_eq]
  by_cases hn : 1 ≤ (l0.length : Int) ∧ (l0.length : Int) ≤ 6
  · rw [decide_eq_true hn]
    cases hx : aB 1 1000000 l0 with
    | false => exact ⟨0, [], [], false, bind0 rfl (pos rfl (ret _)), bind0 rfl (pos rfl (ret _)), by simp, by simp⟩
    | true =>
      have hin := aB_in hx
      obtain ⟨h0, hge⟩ := fmx_ge l0 0
      have hle := fmx_le (c := 1000000) l0 0 (by omega) (fun x hx => (hin x hx).2)
      have hg := great_eq l0
      have hm := smax_ev l0 (by omega) (fun x hx => by have := hin x hx; omega)
      obtain ⟨M, hM⟩ := Int.eq_ofNat_of_zero_le h0
      rw [hM] at hg hm hge hle
      obtain ⟨N, hN⟩ : ∃ N, Lib.bitLen M = N := ⟨_, rfl⟩
      have hM1 : 1 ≤ M := by
        cases l0 with
        | nil => simp at hn
        | cons a r =>
          have := hge a List.mem_cons_self
          have := hin a List.mem_cons_self
          omega
      have hN1 : 1 ≤ N := by rw [← hN, bitLen_pos (by omega) (by omega)]; omega
      have hN2 : N ≤ 20 := by rw [← hN]; exact Lib.bitLen_le M 20 (by omega) (by omega)
      have hc := chLen_ev M (by omega)
      have hc2 := len_eq M (by omega)
      rw [hN] at hc hc2
      have a1 := sq_l0 l0 N (M : Int) hg hc (by omega) (N - 1) 0 0 (by omega)
      have a2 := isq_l0 l0 N (M : Int) hm hc2 (by omega) (N - 1) 0 0 (by omega)
      have hlen : (sqS (N - 1)).length + N * l0.length ≤ 10000 := by
        rw [sqS_len]
        have : N * l0.length ≤ 20 * 6 := Nat.mul_le_mul hN2 (by omega)
        omega
      have hy : ∀ y ∈ l0, 0 ≤ y ∧ y ≤ 1000000 ∧ Lib.bitLen y.toNat ≤ N := by
        intro y hy
        have h1 := hin y hy
        have h2 := hge y hy
        refine ⟨by omega, h1.2, ?_⟩
        rw [← hN]
        exact bitLen_mono 62 _ _ (by omega) (by omega) (by omega)
      have b1 := sq_l1 N (by omega) l0 hy (sqS (N - 1)) [] 0 hlen (by simp; omega)
      have b2 := isq_l1 N (by omega) l0 (fun y h => ⟨(hy y h).1, (hy y h).2.1⟩) (sqS (N - 1)) [] 0 hlen (by simp; omega)
      obtain ⟨z1, z2⟩ := sqO_len N l0 (sqS (N - 1)) []
      obtain ⟨S, hS⟩ : ∃ S, sqO N l0 (sqS (N - 1)) [] = S := ⟨_, rfl⟩
      rw [hS] at b1 b2 z1 z2
      have c1 := plIf_ev 1 S.1 S.2
      have c2 := told_ev 1 S.1 S.2
      obtain ⟨r, hr⟩ : ∃ r, toldP 1 S.1 S.2 = r := ⟨_, rfl⟩
      have hrl : r.2.1.length ≤ 10000 ∧ r.2.2.1.length ≤ 1000 := by
        rw [← hr]
        unfold toldP
        split
        · show S.1.length ≤ _ ∧ S.2.length ≤ _
          simp at z2
          omega
        · simp
      rw [hr] at c1 c2
      obtain ⟨r1, r2, r3, b⟩ := r
      refine ⟨r1, r2, r3, b, bind0 rfl (neg (by simp) (bind0 rfl (bind a2 (bind0 b2 (bind0 rfl (bind c2 (ret _))))))), bind0 rfl (neg (by simp) (bind a1 (bind b1 (bind c1 (ret _))))), hrl.1, hrl.2⟩
  · rw [decide_eq_false hn]
    exact ⟨0, [], [], false, bind0 rfl (pos rfl (ret _)), bind0 rfl (pos rfl (ret _)), by simp, by simp⟩
end Go.Proofs.Ytpdpomjgfmdjfaa.Pure
