/- Plans of squares: the reference's and the program's are one. -/
import Derived.Test.YtpdpomjgfmdjfaaKFnExactSquaresPlanZPlIf
import Derived.Test.YtpdpomjgfmdjfaaKFnExactSquaresPlanZTold
import Derived.Test.YtpdpomjgfmdjfaaKFnExactSquaresPlanQ0
import Derived.Test.YtpdpomjgfmdjfaaKFnExactSquaresPlanQ1
import Derived.Test.YtpdpomjgfmdjfaaKFnExactSquaresPlanQ2
import Derived.Test.YtpdpomjgfmdjfaaKFnExactSquaresPlanQ3
import Derived.Test.YtpdpomjgfmdjfaaKFnExactSquaresPlanQ4
namespace Go.Proofs.Ytpdpomjgfmdjfaa.Pure
open Go.RowKit Go.Proofs.Ytpdpomjgfmdjfaa.Z Go.Proofs.Ytpdpomjgfmdjfaa.E Go.Proofs.YtpdpomjgfmdjfaaW.PrintWords Go.Proofs.YtpdpomjgfmdjfaaW.PrintLast Go.Proofs.YtpdpomjgfmdjfaaW.PrintMore
theorem plStepS_eq (a b : Int) : spec_plStep.f a b = some (mn a b, mx a b) := by
  unfold spec_plStep.f spec_l1Least.f spec_l1Most.f mn mx
  by_cases h : a < b
  · rw [if_pos (by omega), if_neg (by omega), if_neg (by omega), if_pos h]; rfl
  · by_cases h2 : a = b
    · subst h2; simp
    · rw [if_neg (by omega), if_pos (by omega), if_pos (by omega), if_neg (by omega)]; rfl
theorem meTimes_eq (n : Int) (l : List St) (o : List Int) (a b : Int) (hl : l.length ≤ 1000) (hn : 0 ≤ n ∧ n ≤ 1000) : spec_meTimes.f n l o a b = some (n, l ++ [⟨mn a b, mx a b⟩], [], n + (l.length : Int)) := by
  unfold spec_meTimes.f
  rw [if_pos (by omega), plStepS_eq, wrap_id (by omega) (by omega)]
  rfl
theorem meGreatest_ev (l : List Int) (hl : l.length ≤ 1000) : ∀ (d j : Nat) (m : Int), j + d = l.length → Ev (fun k => spec_meGreatest.l0 k m l (l.length : Int) j) (maxFrom l d j m) := by
  intro d
  induction d with
  | zero =>
    intro j m hj
    refine shift ?_
    simp only [spec_meGreatest.l0, maxFrom]
    exact neg (by omega) (ret _)
  | succ d ih =>
    intro j m hj
    have h := ih (j + 1) (if m < rd l (j : Int) then rd l (j : Int) else m) (by omega)
    refine shift ?_
    simp only [spec_meGreatest.l0, maxFrom]
    rw [zaz (by omega)]
    refine pos (by omega) (pos (by omega) (pos (by omega) (bind0 (a := if m < rd l (j : Int) then rd l (j : Int) else m) ?_ h)))
    unfold spec_l1Most.f
    by_cases c : m < rd l (j : Int)
    · rw [if_pos c, if_neg (by omega)]
    · rw [if_neg c]
      by_cases c2 : m > rd l (j : Int)
      · rw [if_pos c2]
      · rw [if_neg c2]
        congr 1
        omega
theorem bitLen_zero : Lib.bitLen 0 = 0 := by decide
theorem bitLen_pos {y : Nat} (h : y ≠ 0) (hy : y < 2 ^ 64) : Lib.bitLen y = Lib.bitLen (y / 2) + 1 := by
  rw [Lib.bitLen_half y h hy]
  omega
theorem bitLen_mono : ∀ (n x y : Nat), x ≤ y → y < 2 ^ n → n ≤ 64 → Lib.bitLen x ≤ Lib.bitLen y := by
  intro n
  induction n with
  | zero =>
    intro x y h hy _
    obtain rfl : x = y := by simp at hy; omega
    exact Nat.le_refl _
  | succ n ih =>
    intro x y h hy hn
    have h64 : (2 : Nat) ^ (n + 1) ≤ 2 ^ 64 := Nat.pow_le_pow_right (by omega) hn
    by_cases hx : x = 0
    · subst hx; rw [bitLen_zero]; omega
    · rw [bitLen_pos hx (by omega), bitLen_pos (y := y) (by omega) (by omega)]
      have := ih (x / 2) (y / 2) (Nat.div_le_div_right h) (by rw [Nat.pow_succ] at hy; omega) (by omega)
      omega
theorem shr_nat (x j : Nat) (hj : j ≤ 64) : shr .i64 (x : Int) (j : Int) = ((x / 2 ^ j : Nat) : Int) := by
  unfold shr
  rw [toNat_cast, Nat.min_eq_left (by simpa [IntKind.bits] using hj)]
  push_cast
  rfl
theorem chLength_ev (x : Nat) (hx : x < 2 ^ 64) : ∀ (d j : Nat), Lib.bitLen (x / 2 ^ j) = d → j + d ≤ 64 → Ev (fun k => spec_chLength.l0 k (x : Int) j) ((j + d : Nat) : Int) := by
  intro d
  induction d with
  | zero =>
    intro j h hj
    have h0 : x / 2 ^ j = 0 := by
      by_cases c : x / 2 ^ j = 0
      · exact c
      · have := bitLen_pos c (Nat.lt_of_le_of_lt (Nat.div_le_self _ _) hx)
        omega
    refine shift ?_
    simp only [spec_chLength.l0]
    rw [shr_nat x j (by omega), h0]
    exact pos (by omega) (neg (by simp) (ret _))
  | succ d ih =>
    intro j h hj
    have h0 : x / 2 ^ j ≠ 0 := by
      intro c
      rw [c, bitLen_zero] at h
      omega
    have h1 := bitLen_pos h0 (Nat.lt_of_le_of_lt (Nat.div_le_self _ _) hx)
    have h2 : x / 2 ^ j / 2 = x / 2 ^ (j + 1) := by rw [Nat.div_div_eq_div_mul, Nat.pow_succ]
    rw [h2] at h1
    have h3 := ih (j + 1) (by omega) (by omega)
    rw [show j + 1 + d = j + (d + 1) by omega] at h3
    refine shift ?_
    simp only [spec_chLength.l0]
    rw [shr_nat x j (by omega), zaz (by omega)]
    exact pos (by omega) (pos (Int.natCast_pos.2 (Nat.pos_of_ne_zero h0)) h3)
/-- A number's binary digits, the lowest first. -/
def digs : Nat → Nat → List Int
  | 0, _ => []
  | d + 1, y => ((y % 2 : Nat) : Int) :: digs d (y / 2)
theorem digs_length : ∀ (d y : Nat), (digs d y).length = d
  | 0, _ => rfl
  | d + 1, y => by simp [digs, digs_length d]
theorem digs_get : ∀ (d y i : Nat) (h : i < (digs d y).length), (digs d y)[i] = ((y / 2 ^ i % 2 : Nat) : Int)
  | 0, y, i, h => by simp [digs] at h
  | d + 1, y, 0, h => by simp [digs]
  | d + 1, y, i + 1, h => by
    simp only [digs, List.getElem_cons_succ]
    rw [digs_get d (y / 2) i, Nat.div_div_eq_div_mul, ← Nat.pow_succ']
theorem meDigits_ev : ∀ (d y : Nat) (pre : List Int), Lib.bitLen y = d → y < 2 ^ 62 → pre.length + d ≤ 1000 → Ev (fun k => spec_meDigits.l0 k (y : Int) 2 pre) (pre ++ digs d y) := by
  intro d
  induction d with
  | zero =>
    intro y pre h hy hp
    have h0 : y = 0 := by
      by_cases c : y = 0
      · exact c
      · have := bitLen_pos c (by omega)
        omega
    subst h0
    refine shift ?_
    simp only [spec_meDigits.l0, digs, List.append_nil]
    exact neg (by simp) (ret _)
  | succ d ih =>
    intro y pre h hy hp
    have h0 : y ≠ 0 := by
      intro c
      rw [c, bitLen_zero] at h
      omega
    have h1 := bitLen_pos h0 (by omega)
    have h2 := ih (y / 2) (pre ++ [((y % 2 : Nat) : Int)]) (by omega) (by omega) (by simp; omega)
    refine shift ?_
    simp only [spec_meDigits.l0, digs]
    rw [show Int.tdiv (y : Int) 2 = ((y / 2 : Nat) : Int) from rfl, show Int.tmod (y : Int) 2 = ((y % 2 : Nat) : Int) from rfl, wrap_id (by omega) (by omega)]
    refine pos (by omega) (neg (by omega) (pos (by omega) ?_))
    simpa using h2
theorem sqIn_high (x : Int) (l : List St) : ∀ (d i : Nat) (at_ : Int), (∀ j, i ≤ j → x / 2 ^ j % 2 ≠ 1) → sqIn x d i at_ l = (at_, l) := by
  intro d
  induction d with
  | zero => intro i at_ h; rfl
  | succ d ih =>
    intro i at_ h
    unfold sqIn
    rw [if_neg (h i (Nat.le_refl _))]
    exact ih (i + 1) at_ (fun j hj => h j (by omega))
theorem sqIn_add (x : Int) : ∀ (d e i : Nat) (at_ : Int) (l : List St), sqIn x (d + e) i at_ l = sqIn x e (i + d) (sqIn x d i at_ l).1 (sqIn x d i at_ l).2 := by
  intro d
  induction d with
  | zero => intro e i at_ l; simp [sqIn]
  | succ d ih =>
    intro e i at_ l
    rw [show d + 1 + e = (d + e) + 1 by omega]
    have e1 : sqIn x (d + e + 1) i at_ l = if x / 2 ^ i % 2 = 1 then sqIn x (d + e) (i + 1) (timesV 1 l at_ i) (timesL l at_ i) else sqIn x (d + e) (i + 1) at_ l := rfl
    have e2 : sqIn x (d + 1) i at_ l = if x / 2 ^ i % 2 = 1 then sqIn x d (i + 1) (timesV 1 l at_ i) (timesL l at_ i) else sqIn x d (i + 1) at_ l := rfl
    rw [e1, e2, show i + (d + 1) = i + 1 + d by omega]
    by_cases c : x / 2 ^ i % 2 = 1
    · rw [if_pos c, if_pos c, ih]
    · rw [if_neg c, if_neg c, ih]
theorem bit_int (x i : Nat) : ((x : Int) / 2 ^ i % 2 = 1) ↔ ((x / 2 ^ i % 2 : Nat) : Int) = 1 := by
  push_cast
  exact Iff.rfl
theorem sqIn_cut (x N K : Nat) (hN : Lib.bitLen x = N) (hx : x < 2 ^ 64) (hNK : N ≤ K) (at_ : Int) (l : List St) : sqIn (x : Int) K 0 at_ l = sqIn (x : Int) N 0 at_ l := by
  obtain ⟨e, rfl⟩ := Nat.exists_eq_add_of_le hNK
  rw [sqIn_add, Nat.zero_add, sqIn_high]
  intro j hj
  have h0 : x / 2 ^ N = 0 := by
    by_cases c : x / 2 ^ N = 0
    · exact c
    · have h1 := Lib.bitLen_shift N x (by
        by_cases c2 : 2 ^ N ≤ x
        · exact c2
        · exact absurd (Nat.div_eq_of_lt (by omega)) c) hx
      have h2 := bitLen_pos c (Nat.lt_of_le_of_lt (Nat.div_le_self _ _) hx)
      omega
  have h3 : x / 2 ^ j = 0 := by
    obtain ⟨f, rfl⟩ := Nat.exists_eq_add_of_le hj
    rw [Nat.pow_add, ← Nat.div_div_eq_div_mul, h0, Nat.zero_div]
  intro c
  have h4 := (bit_int x j).1 c
  rw [h3] at h4
  simp at h4
theorem squares_in (x N : Nat) (hN : N ≤ 64) (x6 : List Int) (h6 : x6.length ≤ 100) (x39 : List Int) (x40 x41 : Int) : ∀ (d i : Nat) (at_ : Int) (l : List St), i + d = N → l.length + d ≤ 900 → ∀ q,
    Ev (fun k => spec_SquaresPlan.l1 k (x6 ++ [(sqIn (x : Int) d i at_ l).1]) x39 x40 (wrap64 (x41 + 1)) 1 (sqIn (x : Int) d i at_ l).2 []) q → Ev (fun k => spec_SquaresPlan.l2 k x6 at_ x39 x40 x41 (digs N x) (N : Int) i 1 l []) q := by
  intro d
  induction d with
  | zero =>
    intro i at_ l hi hl q hq
    refine shift ?_
    simp only [spec_SquaresPlan.l2]
    exact neg (by omega) (pos (by omega) hq)
  | succ d ih =>
    intro i at_ l hi hl q hq
    have hr : rd (digs N x) (i : Int) = ((x / 2 ^ i % 2 : Nat) : Int) := by rw [rd_nat _ _ (by rw [digs_length]; omega), digs_get]
    have hlen := digs_length N x
    have hb := bit_int x i
    simp only [sqIn] at hq
    refine shift ?_
    simp only [spec_SquaresPlan.l2]
    rw [hr]
    refine pos (by omega) (pos (by omega) (pos (by omega) ?_))
    by_cases c : ((x / 2 ^ i % 2 : Nat) : Int) = 1
    · rw [if_pos (hb.2 c)] at hq
      refine pos c (shift ?_)
      simp only [spec_SquaresPlan.j4]
      rw [zaz (by omega)]
      by_cases ha : at_ < 0
      · unfold timesV timesL at hq
        rw [if_pos ha, if_pos ha] at hq
        exact neg (by simp; omega) (pos c (ih (i + 1) (i : Int) l (by omega) (by omega) q hq))
      · unfold timesV timesL at hq
        rw [if_neg ha, if_neg ha] at hq
        refine pos (by simp; omega) (bind0 (meTimes_eq 1 l [] at_ i (by omega) (by omega)) ?_)
        exact ih (i + 1) _ _ (by omega) (by simp; omega) q hq
    · rw [if_neg (fun h => c (hb.1 h))] at hq
      refine neg c (shift ?_)
      simp only [spec_SquaresPlan.j4]
      rw [zaz (by omega)]
      exact neg (by simp) (neg c (ih (i + 1) at_ l (by omega) (by omega) q hq))
theorem squares_out (K : Nat) (l0 : List Int) (hK : K ≤ 24) (h0 : l0.length ≤ 6) (hx : ∀ j : Nat, j < l0.length → ∃ x : Nat, rd l0 (j : Int) = x ∧ x < 2 ^ 62 ∧ Lib.bitLen x ≤ K + 1) : ∀ (d j : Nat) (o : List Int) (l : List St), j + d = l0.length → o.length = j → l.length ≤ 24 + 30 * j → ∀ q,
    Ev (fun k => (spec_plIf.f k 1 (sqOuts K l0 d j o l).2 (sqOuts K l0 d j o l).1).bind fun bt => some (bt.1, bt.2.1, bt.2.2.1, bt.2.2.2)) q → Ev (fun k => spec_SquaresPlan.l1 k o l0 (l0.length : Int) j 1 l []) q := by
  intro d
  induction d with
  | zero =>
    intro j o l hj ho hl q hq
    refine shift ?_
    simp only [spec_SquaresPlan.l1]
    exact neg (by omega) hq
  | succ d ih =>
    intro j o l hj ho hl q hq
    obtain ⟨x, e, hx1, hx2⟩ := hx j (by omega)
    have hln := sqIn_len (x : Int) (K + 1) 0 (-1) l
    have hq : Ev (fun k => (spec_plIf.f k 1 (sqOuts K l0 d (j + 1) (o ++ [(sqIn (rd l0 (j : Int)) (K + 1) 0 (-1) l).1]) (sqIn (rd l0 (j : Int)) (K + 1) 0 (-1) l).2).2 (sqOuts K l0 d (j + 1) (o ++ [(sqIn (rd l0 (j : Int)) (K + 1) 0 (-1) l).1]) (sqIn (rd l0 (j : Int)) (K + 1) 0 (-1) l).2).1).bind fun bt => some (bt.1, bt.2.1, bt.2.2.1, bt.2.2.2)) q := hq
    rw [e] at hq
    have h := ih (j + 1) _ _ (by omega) (by simp [ho]) (by omega) q hq
    rw [sqIn_cut x _ (K + 1) rfl (by omega) hx2] at h
    refine shift ?_
    simp only [spec_SquaresPlan.l1]
    have hd := meDigits_ev _ x [] rfl hx1 (by simp; omega)
    rw [List.nil_append] at hd
    refine pos (by omega) (pos (by omega) (pos (by omega) (bind (f := fun k t => spec_SquaresPlan.l2 k o (-1) l0 (l0.length : Int) (j : Int) t (t.length : Int) 0 1 l []) (a := digs (Lib.bitLen x) x) ?_ ?_)))
    · rw [e]
      exact hd
    · rw [digs_length]
      refine squares_in x (Lib.bitLen x) (by omega) o (by omega) l0 _ _ (Lib.bitLen x) 0 (-1) l (by omega) (by omega) q ?_
      rw [zaz (by omega)]
      exact h
theorem squares_first (l0 : List Int) (N : Nat) (q0 : Int) (hg : Ev (fun k => spec_meGreatest.f k l0) q0) (hc : Ev (fun k => spec_chLength.f k q0) (N : Int)) (hN : 1 ≤ N ∧ N ≤ 30) : ∀ (d i : Nat), i + d = N → 1 ≤ i → ∀ q,
    Ev (fun k => spec_SquaresPlan.l1 k [] l0 (l0.length : Int) 0 1 (sqSteps (N - 1)) []) q → Ev (fun k => spec_SquaresPlan.l0 k l0 i 1 (sqSteps (i - 1)) []) q := by
  intro d
  induction d with
  | zero =>
    intro i hi h1 q hq
    obtain rfl : i = N := by omega
    refine shift ?_
    simp only [spec_SquaresPlan.l0]
    exact bind hg (bind hc (neg (by omega) hq))
  | succ d ih =>
    intro i hi h1 q hq
    have h := ih (i + 1) (by omega) (by omega) q hq
    obtain ⟨i, rfl⟩ : ∃ e, i = e + 1 := ⟨i - 1, by omega⟩
    rw [show i + 1 + 1 - 1 = i + 1 by omega, sqSteps_succ] at h
    rw [show i + 1 - 1 = i by omega]
    refine shift ?_
    simp only [spec_SquaresPlan.l0]
    rw [wrap_pred (by omega), zaz (by omega)]
    exact bind hg (bind hc (pos (by omega) (bind0 (meTimes_eq 1 _ [] i i (by rw [sqSteps_length]; omega) (by omega)) h)))
theorem maxFrom_in (l : List Int) (P : Int → Prop) : ∀ (d j : Nat) (m : Int), j + d = l.length → P m → (∀ i : Nat, i < l.length → P (rd l (i : Int))) → P (maxFrom l d j m) := by
  intro d
  induction d with
  | zero => intro j m _ h _; exact h
  | succ d ih =>
    intro j m hj h h2
    refine ih (j + 1) _ (by omega) ?_ h2
    by_cases c : m < rd l (j : Int)
    · rw [if_pos c]; exact h2 j (by omega)
    · rw [if_neg c]; exact h
theorem maxFrom_ge (l : List Int) : ∀ (d j : Nat) (m : Int), j + d = l.length → m ≤ maxFrom l d j m ∧ ∀ i : Nat, j ≤ i → i < l.length → rd l (i : Int) ≤ maxFrom l d j m := by
  intro d
  induction d with
  | zero => intro j m hj; exact ⟨Int.le_refl _, fun i h1 h2 => by omega⟩
  | succ d ih =>
    intro j m hj
    have h := ih (j + 1) (if m < rd l (j : Int) then rd l (j : Int) else m) (by omega)
    have e : maxFrom l (d + 1) j m = maxFrom l d (j + 1) (if m < rd l (j : Int) then rd l (j : Int) else m) := rfl
    rw [e]
    have h3 : m ≤ (if m < rd l (j : Int) then rd l (j : Int) else m) ∧ rd l (j : Int) ≤ (if m < rd l (j : Int) then rd l (j : Int) else m) := by
      by_cases c : m < rd l (j : Int)
      · rw [if_pos c]; omega
      · rw [if_neg c]; omega
    refine ⟨by omega, fun i h1 h2 => ?_⟩
    by_cases c : i = j
    · subst c; omega
    · exact h.2 i (by omega) h2
theorem squares_both (l0 : List Int) (hl : l0.length ≤ 1048576) : ∃ r1 r2 r3 b, Ev (fun k => spec_SquaresPlan.f k l0) (r1, r2, r3, b) ∧ Ev (fun k => impl_SquaresPlan.f k l0) (r1, r2, r3, b) ∧ r2.length ≤ 40 ∧ r3.length ≤ 6 := by
  have hall := l1All_dec l0 1 1000000 (by omega)
  have hany : (l0.all fun x => decide (1 ≤ x ∧ x ≤ 1000000)) = !(l0.any sqBad) := by
    rw [List.all_eq_not_any_not]
    congr 2
    funext x
    simp [sqBad]
  rw [hany] at hall
  have hc1 : (decide (1 ≤ (l0.length : Int)) && decide ((l0.length : Int) ≤ 6)) = decide (1 ≤ (l0.length : Int) ∧ (l0.length : Int) ≤ 6) := by simp
  unfold spec_SquaresPlan.f impl_SquaresPlan.f
  rw [l1In_dec, hc1]
  by_cases hn : 1 ≤ (l0.length : Int) ∧ (l0.length : Int) ≤ 6
  · rw [decide_eq_true hn]
    cases hx : l0.any sqBad with
    | true =>
      rw [hx] at hall
      refine ⟨0, [], [], false, bind0 rfl (pos rfl (bind hall (shift ?_))), neg (by simp) (ret _), by simp, by simp⟩
      simp only [spec_SquaresPlan.j0]
      exact pos (by simp) (ret _)
    | false =>
      rw [hx] at hall
      have hin : ∀ j : Nat, j < l0.length → 1 ≤ rd l0 (j : Int) ∧ rd l0 (j : Int) ≤ 1000000 := by
        intro j hj
        rw [rd_nat _ j hj]
        have := List.any_eq_false.1 hx l0[j] (List.getElem_mem hj)
        simp [sqBad] at this
        omega
      have h0 := hin 0 (by omega)
      obtain ⟨m, hm⟩ : ∃ m, maxFrom l0 (l0.length - 1) 1 (rd l0 0) = m := ⟨_, rfl⟩
      have hmx : 1 ≤ m ∧ m ≤ 1000000 := by rw [← hm]; exact maxFrom_in l0 (fun m => 1 ≤ m ∧ m ≤ 1000000) _ 1 _ (by omega) h0 hin
      obtain ⟨M, rfl⟩ := Int.eq_ofNat_of_zero_le (show 0 ≤ m by omega)
      have hge : ∀ i : Nat, i < l0.length → rd l0 (i : Int) ≤ (M : Int) := by
        intro i hi
        have h := maxFrom_ge l0 (l0.length - 1) 1 (rd l0 0) (by omega)
        rw [hm] at h
        by_cases c : i = 0
        · subst c; exact h.1
        · exact h.2 i (by omega) hi
      have hMlt : M < 2 ^ 62 := by omega
      obtain ⟨N, hN⟩ : ∃ N, Lib.bitLen M = N := ⟨_, rfl⟩
      have hN1 : 1 ≤ N := by rw [← hN, bitLen_pos (by omega) (by omega)]; omega
      have hN2 : N ≤ 24 := by rw [← hN]; exact Lib.bitLen_le M 24 (by omega) (by omega)
      have e1 : slices_Max_int_int.f l0 = some (M : Int) := by
        unfold slices_Max_int_int.f
        rw [if_neg (by intro c; rw [c] at hn; simp at hn), hm]
      have e2 : bits_Len.f (M : Int) = some (N : Int) := by
        unfold bits_Len.f bits_Len64.f
        rw [if_pos (by omega), toNat_cast, hN]
        rfl
      have hg : Ev (fun k => spec_meGreatest.f k l0) (M : Int) := by
        have h := meGreatest_ev l0 (by omega) l0.length 0 0 (by omega)
        have e : maxFrom l0 l0.length 0 0 = (M : Int) := by
          obtain ⟨n, hn'⟩ : ∃ n, l0.length = n + 1 := ⟨l0.length - 1, by omega⟩
          rw [← hm, hn']
          show maxFrom l0 n 1 (if (0 : Int) < rd l0 0 then rd l0 0 else 0) = _
          rw [if_pos (show (0 : Int) < rd l0 0 from by have h9 : (1 : Int) ≤ rd l0 0 := h0.1; omega)]
          rfl
        rw [e] at h
        exact h
      have hc : Ev (fun k => spec_chLength.f k (M : Int)) (N : Int) := by
        have h := chLength_ev M (by omega) N 0 (by simpa using hN) (by omega)
        rw [Nat.zero_add] at h
        exact h
      obtain ⟨r, hr⟩ : ∃ r, (if goodB 1 (sqOuts (N - 1) l0 l0.length 0 [] (sqSteps (N - 1))).2 (sqOuts (N - 1) l0 l0.length 0 [] (sqSteps (N - 1))).1 = true then ((1 : Int), (sqOuts (N - 1) l0 l0.length 0 [] (sqSteps (N - 1))).2, (sqOuts (N - 1) l0 l0.length 0 [] (sqSteps (N - 1))).1, true) else (0, [], [], false)) = r := ⟨_, rfl⟩
      have hp := plIf_ev 1 (sqOuts (N - 1) l0 l0.length 0 [] (sqSteps (N - 1))).2 (sqOuts (N - 1) l0 l0.length 0 [] (sqSteps (N - 1))).1
      have ht := told_ev 1 (sqOuts (N - 1) l0 l0.length 0 [] (sqSteps (N - 1))).2 (sqOuts (N - 1) l0 l0.length 0 [] (sqSteps (N - 1))).1
      rw [hr] at hp ht
      have hrl : r.2.1.length ≤ 40 ∧ r.2.2.1.length ≤ 6 := by
        rw [← hr]
        by_cases c : goodB 1 (sqOuts (N - 1) l0 l0.length 0 [] (sqSteps (N - 1))).2 (sqOuts (N - 1) l0 l0.length 0 [] (sqSteps (N - 1))).1 = true
        · rw [if_pos c]
          unfold goodB at c
          simp only [Bool.and_eq_true, decide_eq_true_eq] at c
          exact ⟨c.2.1, c.2.2.1⟩
        · rw [if_neg c]; simp
      obtain ⟨r1, r2, r3, b⟩ := r
      refine ⟨r1, r2, r3, b, bind0 rfl (pos rfl (bind hall (shift ?_))), pos (by simp) (bind0 e1 (bind0 e2 ?_)), hrl.1, hrl.2⟩
      · simp only [spec_SquaresPlan.j0]
        refine neg (by simp) ?_
        have h := squares_out (N - 1) l0 (by omega) (by omega) (by
          intro j hj
          have hj1 := hin j hj
          have hj2 := hge j hj
          obtain ⟨x, hx⟩ := Int.eq_ofNat_of_zero_le (show 0 ≤ rd l0 (j : Int) by omega)
          refine ⟨x, hx, by omega, ?_⟩
          have := bitLen_mono 62 x M (by omega) hMlt (by omega)
          omega) l0.length 0 [] (sqSteps (N - 1)) (by omega) rfl (by rw [sqSteps_length]; omega) (r1, r2, r3, b) (bindr hp rfl)
        exact squares_first l0 N _ hg hc (by omega) (N - 1) 1 (by omega) (by omega) _ h
      · rw [toNat_cast]
        exact ht
  · rw [decide_eq_false hn]
    refine ⟨0, [], [], false, bind0 rfl (neg (by simp) (shift ?_)), neg (by simp) (ret _), by simp, by simp⟩
    simp only [spec_SquaresPlan.j0]
    exact pos (by simp) (ret _)
end Go.Proofs.Ytpdpomjgfmdjfaa.Pure
