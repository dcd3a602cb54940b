/- Pure: plans by sliding windows, on both sides. -/
import Derived.Test.YtiaohjciddbpoaaKFnExactSlidingPlanPwin
set_option linter.unusedVariables false
set_option linter.unusedSimpArgs false
namespace Go.Proofs.Ytiaohjciddbpoaa.Pure
open Go.RowKit Go.Proofs.Ytiaohjciddbpoaa.E Go.Proofs.Ytiaohjciddbpoaa.H2 Go.Proofs.Ytiaohjciddbpoaa.Frame Go.Proofs.Ytiaohjciddbpoaa.Hand Go.Proofs.YtiaohjciddbpoaaW.PrintLast Go.Proofs.YtiaohjciddbpoaaW.PrintMore
open Go.Proofs.YtiaohjciddbpoaaW.PrintWords hiding mn mx
theorem bitLen_zero : Lib.bitLen 0 = 0 := by decide
theorem bitLen_pos {y : Nat} (h : y ≠ 0) (hy : y < 2 ^ 64) : Lib.bitLen y = Lib.bitLen (y / 2) + 1 := by
  rw [Lib.bitLen_half y h hy]
  omega
theorem nn_nat (j : Nat) : nn (j : Int) = some () := by
  unfold nn
  rw [if_pos (by omega)]
theorem shr_nat (x j : Nat) (hj : j ≤ 64) : (x : Int) / 2 ^ min (j : Int).toNat IntKind.i64.bits = ((x / 2 ^ j : Nat) : Int) := by
  rw [Int.toNat_natCast, Nat.min_eq_left (by simpa [IntKind.bits] using hj)]
  push_cast
  rfl
theorem and_one (x : Nat) (h : x < 2 ^ 62) : Go.bits .and .i64 (x : Int) 1 = ((x % 2 : Nat) : Int) := by
  have := bits_mask .i64 62 (by decide) (fun n h0 h1 => zat (by omega)) 1 (by omega) (x : Int) (by omega) (by omega)
  simpa using this
theorem len_eq (x : Nat) (hx : x ≤ 16777215) : math_bits_Len.f (IntKind.u64.wrap (x : Int)) = some ((Lib.bitLen x : Nat) : Int) := by
  have e : IntKind.u64.wrap (x : Int) = (x : Int) := by
    simp only [IntKind.wrap, IntKind.bits, IntKind.signed]
    simp
    omega
  unfold math_bits_Len.f math_bits_Len64.f
  rw [e, if_pos (by omega), Int.toNat_natCast]
  rfl
def digs : Nat → Nat → List Int
  | 0, _ => []
  | d + 1, y => ((y % 2 : Nat) : Int) :: digs d (y / 2)
theorem digs_length : ∀ (d y : Nat), (digs d y).length = d
  | 0, _ => rfl
  | d + 1, y => by simp [digs, digs_length d]
theorem digits_ev : ∀ (d y : Nat) (pre : List Int), Lib.bitLen y = d → y < 2 ^ 62 → pre.length + d ≤ 1000 → Ev (fun k => spec_meDigits.l0 2 k pre (y : Int)) (pre ++ digs d y) := by
  intro d
  induction d with
  | zero =>
    intro y pre h hy hp
    have h0 : y = 0 := by
      by_cases c : y = 0
      · exact c
      · have := bitLen_pos c (by omega)
        omega
    subst h0
    refine shift ?_
    simp only [spec_meDigits.l0, digs, List.append_nil]
    exact neg (by simp) (ret _)
  | succ d ih =>
    intro y pre h hy hp
    have h0 : y ≠ 0 := by
      intro c
      rw [c, bitLen_zero] at h
      omega
    have h1 := bitLen_pos h0 (by omega)
    have h2 := ih (y / 2) (pre ++ [((y % 2 : Nat) : Int)]) (by omega) (by omega) (by simp; omega)
    have hz : nz 2 = some () := rfl
    refine shift ?_
    simp only [spec_meDigits.l0, digs]
    rw [show Int.tdiv (y : Int) 2 = ((y / 2 : Nat) : Int) from rfl, show Int.tmod (y : Int) 2 = ((y % 2 : Nat) : Int) from rfl, zat (by omega)]
    refine pos (by omega) (bind0 hz (bind0 (ap_ok (by simp; omega)) (bind0 hz ?_)))
    simpa using h2
theorem digs_get : ∀ (d y j : Nat) (h : j < d), (digs d y)[j]'(by rw [digs_length]; exact h) = ((y / 2 ^ j % 2 : Nat) : Int)
  | 0, _, _, h => absurd h (by omega)
  | d + 1, y, 0, _ => by simp [digs]
  | d + 1, y, j + 1, h => by
    simp only [digs, List.getElem_cons_succ]
    rw [digs_get d (y / 2) j (by omega), Nat.div_div_eq_div_mul, Nat.pow_succ, Nat.mul_comm 2]
theorem digs_gt {d y j : Nat} (h : j < d) : gt (digs d y) (j : Int) = some ((y / 2 ^ j % 2 : Nat) : Int) := by
  rw [gt_nat (by rw [digs_length]; exact h), digs_get d y j h]
/-! the windows -/
def lw (x : Nat) : Nat → Nat → Nat
  | 0, j => j
  | d + 1, j => if x / 2 ^ j % 2 = 0 then lw x d (j + 1) else j
theorem lw_le (x d j : Nat) : j ≤ lw x d j ∧ lw x d j ≤ j + d := by
  induction d generalizing j with
  | zero => exact ⟨Nat.le_refl _, Nat.le_refl _⟩
  | succ d ih =>
    simp only [lw]
    split
    · have := ih (j + 1)
      omega
    · omega
theorem lw_bit (x d j : Nat) (h : x / 2 ^ (j + d) % 2 ≠ 0) : x / 2 ^ lw x d j % 2 ≠ 0 := by
  induction d generalizing j with
  | zero => exact h
  | succ d ih =>
    simp only [lw]
    split
    · exact ih (j + 1) (by rwa [show j + 1 + d = j + (d + 1) by omega])
    · assumption
def wl (x n : Nat) : Nat → Nat → List Swindow
  | 0, _ => []
  | _ + 1, 0 => []
  | f + 1, m + 1 => if x / 2 ^ m % 2 = 0 then ⟨0, 1⟩ :: wl x n f m else
    ⟨((x / 2 ^ lw x (m - (m + 1 - n)) (m + 1 - n) % 2 ^ (m - lw x (m - (m + 1 - n)) (m + 1 - n) + 1) : Nat) : Int), ((m - lw x (m - (m + 1 - n)) (m + 1 - n) + 1 : Nat) : Int)⟩ :: wl x n f (lw x (m - (m + 1 - n)) (m + 1 - n))
theorem wl_len (x n : Nat) (hn : 1 ≤ n) : ∀ f m, (wl x n f m).length ≤ m := by
  intro f
  induction f with
  | zero => intro m; simp [wl]
  | succ f ih =>
    intro m
    cases m with
    | zero => simp [wl]
    | succ m =>
      simp only [wl]
      split
      · have := ih m
        simp only [List.length_cons]
        omega
      · have h1 := lw_le x (m - (m + 1 - n)) (m + 1 - n)
        have := ih (lw x (m - (m + 1 - n)) (m + 1 - n))
        simp only [List.length_cons]
        omega
theorem spec_low (x L m : Nat) (hm : m < L) (hL : L ≤ 60) (hb : x / 2 ^ m % 2 ≠ 0) : ∀ (d j : Nat), j + d = m → Ev (fun k => spec_meSpans.l1 (digs L x) k (j : Int)) ((lw x d j : Nat) : Int) := by
  intro d
  induction d with
  | zero =>
    intro j hj
    obtain rfl : j = m := by omega
    refine shift ?_
    simp only [spec_meSpans.l1, lw]
    exact bind0 (digs_gt hm) (neg (by omega) (ret _))
  | succ d ih =>
    intro j hj
    refine shift ?_
    simp only [spec_meSpans.l1, lw]
    refine bind0 (digs_gt (by omega)) ?_
    by_cases c : x / 2 ^ j % 2 = 0
    · rw [if_pos c, w64_succ (by omega)]
      exact pos (by omega) (ih (j + 1) (by omega))
    · rw [if_neg c]
      exact neg (by omega) (ret _)
theorem div_lt62 {x : Nat} (hx : x < 2 ^ 62) (j : Nat) : x / 2 ^ j < 2 ^ 62 := Nat.lt_of_le_of_lt (Nat.div_le_self _ _) hx
theorem impl_low (x m : Nat) (hx : x < 2 ^ 62) (hm : m ≤ 60) (hb : x / 2 ^ m % 2 ≠ 0) : ∀ (d j : Nat), j + d = m → Ev (fun k => impl_windows.l1 (x : Int) k (j : Int)) ((lw x d j : Nat) : Int) := by
  intro d
  induction d with
  | zero =>
    intro j hj
    obtain rfl : j = m := by omega
    refine shift ?_
    simp only [impl_windows.l1, lw]
    rw [shr_nat x j (by omega), and_one _ (div_lt62 hx j)]
    exact bind0 (nn_nat j) (neg (by omega) (ret _))
  | succ d ih =>
    intro j hj
    refine shift ?_
    simp only [impl_windows.l1, lw]
    rw [shr_nat x j (by omega), and_one _ (div_lt62 hx j)]
    refine bind0 (nn_nat j) ?_
    by_cases c : x / 2 ^ j % 2 = 0
    · rw [if_pos c, w64_succ (by omega)]
      exact pos (by omega) (ih (j + 1) (by omega))
    · rw [if_neg c]
      exact neg (by omega) (ret _)
theorem and_wide (y n : Nat) (hn : 1 ≤ n ∧ n ≤ 5) (h : y < 2 ^ 62) : Go.bits .and .i64 (y : Int) (w64 (((2 ^ n : Nat) : Int) - 1)) = ((y % 2 ^ n : Nat) : Int) := by
  have := bits_mask .i64 62 (by decide) (fun n h0 h1 => zat (by omega)) n (by omega) (y : Int) (by omega) (by omega)
  have h32 : (2 : Nat) ^ n ≤ 2 ^ 5 := Nat.pow_le_pow_right (by omega) hn.2
  have hp := Nat.two_pow_pos n
  rw [zat (by omega)]
  simpa using this
theorem start_low (m n : Nat) (hm : m ≤ 1000) (hn : 1 ≤ n ∧ n ≤ 5) : mx 0 (w64 (w64 ((m : Int) - (n : Int)) + 1)) = ((m + 1 - n : Nat) : Int) ∧ mx (w64 (w64 ((m : Int) - (n : Int)) + 1)) 0 = ((m + 1 - n : Nat) : Int) := by
  rw [zat (x := (m : Int) - (n : Int)) (by omega), zat (by omega)]
  unfold mx
  constructor
  · split <;> omega
  · split <;> omega
theorem wide_of (n : Nat) (h : 1 ≤ n ∧ n ≤ 5) : IntKind.i64.wrap (1 * 2 ^ min ((n : Nat) : Int).toNat IntKind.i64.bits) = ((2 ^ n : Nat) : Int) := (wide_ok n h).1
theorem spans_spec (x n L : Nat) (hx : x < 2 ^ 62) (hn : 1 ≤ n ∧ n ≤ 5) (hL : L ≤ 60) : ∀ (f m c : Nat) (p q : List Int), m ≤ f → m ≤ L → p.length + m ≤ 1000 → q.length + m ≤ 1000 → Ev (fun k => spec_meSpans.l0 (k + c) (x : Int) (n : Int) (digs L x) k p q ((m : Int) - 1)) (p ++ (wl x n f m).map (·.f0), q ++ (wl x n f m).map (·.f1)) := by
  intro f
  induction f with
  | zero =>
    intro m c p q hf hm hp hq
    obtain rfl : m = 0 := by omega
    refine shift ?_
    simp only [spec_meSpans.l0, wl, List.map_nil, List.append_nil]
    exact neg (by omega) (ret _)
  | succ f ih =>
    intro m c p q hf hm hp hq
    cases m with
    | zero =>
      refine shift ?_
      simp only [spec_meSpans.l0, wl, List.map_nil, List.append_nil]
      exact neg (by omega) (ret _)
    | succ m =>
      have e : ∀ k, k + 1 + c = k + (c + 1) := by omega
      refine shift ?_
      simp only [spec_meSpans.l0, e, wl]
      rw [show ((m + 1 : Nat) : Int) - 1 = (m : Int) by omega]
      refine pos (by omega) (bind0 (digs_gt (by omega)) ?_)
      by_cases hb : x / 2 ^ m % 2 = 0
      · rw [if_pos hb]
        refine pos (by omega) (bind0 (ap_ok (by simp; omega)) (bind0 (ap_ok (by simp; omega)) ?_))
        rw [zat (by omega)]
        have := ih m (c + 1) (p ++ [0]) (q ++ [1]) (by omega) (by omega) (by simp; omega) (by simp; omega)
        simpa using this
      · rw [if_neg hb]
        have h1 := lw_le x (m - (m + 1 - n)) (m + 1 - n)
        have h2 := spec_low x L m (by omega) hL hb (m - (m + 1 - n)) (m + 1 - n) (by omega)
        obtain ⟨r, hr⟩ : ∃ r, lw x (m - (m + 1 - n)) (m + 1 - n) = r := ⟨_, rfl⟩
        rw [hr] at h1 h2 ⊢
        have hs : spec_l1Most.f 0 (w64 (w64 ((m : Int) - (n : Int)) + 1)) = some ((m + 1 - n : Nat) : Int) := by
          rw [most_eq, (start_low m n (by omega) hn).1]
        have hw : w64 (w64 ((m : Int) - (r : Int)) + 1) = ((m - r + 1 : Nat) : Int) := by
          rw [zat (x := (m : Int) - (r : Int)) (by omega), zat (by omega)]
          omega
        have hwd := wide_of (m - r + 1) (by omega)
        have hpos := Nat.two_pow_pos (m - r + 1)
        have hnz : nz ((2 ^ (m - r + 1) : Nat) : Int) = some () := by
          unfold nz
          rw [if_neg (by omega)]
        refine neg (by omega) (bind0 hs (bind (upK (c + 1) h2) ?_))
        rw [hw, hwd, shr_nat x r (by omega), show Int.tmod ((x / 2 ^ r : Nat) : Int) ((2 ^ (m - r + 1) : Nat) : Int) = ((x / 2 ^ r % 2 ^ (m - r + 1) : Nat) : Int) from rfl]
        refine bind0 (nn_nat r) (bind0 (nn_nat _) (bind0 hnz (bind0 (ap_ok (by simp; omega)) (bind0 (ap_ok (by simp; omega)) ?_))))
        rw [zat (x := (r : Int) - 1) (by omega)]
        have := ih r (c + 1) (p ++ [((x / 2 ^ r % 2 ^ (m - r + 1) : Nat) : Int)]) (q ++ [((m - r + 1 : Nat) : Int)]) (by omega) (by omega) (by simp; omega) (by simp; omega)
        simpa using this
theorem spans_impl (x n L : Nat) (hx : x < 2 ^ 62) (hn : 1 ≤ n ∧ n ≤ 5) (hL : L ≤ 60) : ∀ (f m c : Nat) (p : List Swindow), m ≤ f → m ≤ L → p.length + m ≤ 1000 → Ev (fun k => impl_windows.l0 (k + c) (x : Int) (n : Int) k p ((m : Int) - 1)) (p ++ wl x n f m) := by
  intro f
  induction f with
  | zero =>
    intro m c p hf hm hp
    obtain rfl : m = 0 := by omega
    refine shift ?_
    simp only [impl_windows.l0, wl, List.append_nil]
    exact neg (by omega) (ret _)
  | succ f ih =>
    intro m c p hf hm hp
    cases m with
    | zero =>
      refine shift ?_
      simp only [impl_windows.l0, wl, List.append_nil]
      exact neg (by omega) (ret _)
    | succ m =>
      have e : ∀ k, k + 1 + c = k + (c + 1) := by omega
      refine shift ?_
      simp only [impl_windows.l0, e, wl]
      rw [show ((m + 1 : Nat) : Int) - 1 = (m : Int) by omega, shr_nat x m (by omega), and_one _ (div_lt62 hx m)]
      refine pos (by omega) (bind0 (nn_nat m) ?_)
      by_cases hb : x / 2 ^ m % 2 = 0
      · rw [if_pos hb]
        refine pos (by omega) (bind0 (ap_ok (by simp; omega)) ?_)
        rw [zat (by omega)]
        have := ih m (c + 1) (p ++ [⟨0, 1⟩]) (by omega) (by omega) (by simp; omega)
        simpa using this
      · rw [if_neg hb]
        have h1 := lw_le x (m - (m + 1 - n)) (m + 1 - n)
        have h2 := impl_low x m hx (by omega) hb (m - (m + 1 - n)) (m + 1 - n) (by omega)
        obtain ⟨r, hr⟩ : ∃ r, lw x (m - (m + 1 - n)) (m + 1 - n) = r := ⟨_, rfl⟩
        rw [hr] at h1 h2 ⊢
        have hw : w64 (w64 ((m : Int) - (r : Int)) + 1) = ((m - r + 1 : Nat) : Int) := by
          rw [zat (x := (m : Int) - (r : Int)) (by omega), zat (by omega)]
          omega
        have hwd := wide_of (m - r + 1) (by omega)
        rw [(start_low m n (by omega) hn).2]
        refine neg (by omega) (bind (upK (c + 1) h2) ?_)
        rw [hw, hwd, shr_nat x r (by omega), and_wide _ _ (by omega) (div_lt62 hx r)]
        refine bind0 (nn_nat r) (bind0 (nn_nat _) (bind0 (ap_ok (by simp; omega)) ?_))
        rw [zat (x := (r : Int) - 1) (by omega)]
        have := ih r (c + 1) (p ++ [⟨((x / 2 ^ r % 2 ^ (m - r + 1) : Nat) : Int), ((m - r + 1 : Nat) : Int)⟩]) (by omega) (by omega) (by simp; omega)
        simpa using this
/-! what the windows are -/
def WOk (w : Swindow) : Prop := (w.f0 = 0 ∨ ∃ j : Nat, w.f0 = 2 * (j : Int) + 1 ∧ j ≤ 15) ∧ 1 ≤ w.f1 ∧ w.f1 ≤ 5
theorem wl_ok (x n : Nat) (hn : 1 ≤ n ∧ n ≤ 5) : ∀ f m, ∀ w ∈ wl x n f m, WOk w := by
  intro f
  induction f with
  | zero => intro m w hw; simp [wl] at hw
  | succ f ih =>
    intro m w hw
    cases m with
    | zero => simp [wl] at hw
    | succ m =>
      simp only [wl] at hw
      split at hw
      · rcases List.mem_cons.1 hw with rfl | hw
        · exact ⟨.inl rfl, by decide, by decide⟩
        · exact ih m w hw
      · rename_i hb
        have h1 := lw_le x (m - (m + 1 - n)) (m + 1 - n)
        have h2 := lw_bit x (m - (m + 1 - n)) (m + 1 - n) (by rwa [show m + 1 - n + (m - (m + 1 - n)) = m by omega])
        obtain ⟨r, hr⟩ : ∃ r, lw x (m - (m + 1 - n)) (m + 1 - n) = r := ⟨_, rfl⟩
        rw [hr] at h1 h2 hw
        rcases List.mem_cons.1 hw with rfl | hw
        · obtain ⟨y, hy⟩ : ∃ y, x / 2 ^ r = y := ⟨_, rfl⟩
          obtain ⟨l, hl⟩ : ∃ l, m - r = l := ⟨_, rfl⟩
          rw [hy] at h2
          have h3 : y % 2 ^ (l + 1) % 2 = y % 2 := Nat.mod_mod_of_dvd y (by rw [Nat.pow_succ]; exact Nat.dvd_mul_left 2 _)
          have h4 := Nat.mod_lt y (Nat.two_pow_pos (l + 1))
          have h5 : (2 : Nat) ^ (l + 1) ≤ 2 ^ 5 := Nat.pow_le_pow_right (by omega) (by omega)
          rw [hy, hl]
          exact ⟨.inr ⟨(y % 2 ^ (l + 1)) / 2, by show ((y % 2 ^ (l + 1) : Nat) : Int) = _; omega, by omega⟩, by show (1 : Int) ≤ ((l + 1 : Nat) : Int); omega, by show ((l + 1 : Nat) : Int) ≤ 5; omega⟩
        · exact ih r w hw
theorem bitLen_none {y : Nat} (hy : y < 2 ^ 62) (h : Lib.bitLen y = 0) : y = 0 := by
  by_cases c : y = 0
  · exact c
  · have := bitLen_pos c (by omega)
    omega
theorem top_bit : ∀ (d y : Nat), Lib.bitLen y = d + 1 → y < 2 ^ 62 → y / 2 ^ d % 2 ≠ 0 := by
  intro d
  induction d with
  | zero =>
    intro y h hy
    have h0 : y ≠ 0 := fun c => by rw [c, bitLen_zero] at h; omega
    have h1 := bitLen_pos h0 (by omega)
    have := bitLen_none (y := y / 2) (by omega) (by omega)
    rw [Nat.pow_zero, Nat.div_one]
    omega
  | succ d ih =>
    intro y h hy
    have h0 : y ≠ 0 := fun c => by rw [c, bitLen_zero] at h; omega
    have h1 := bitLen_pos h0 (by omega)
    have := ih (y / 2) (by omega) (by omega)
    rwa [Nat.div_div_eq_div_mul, Nat.mul_comm, ← Nat.pow_succ] at this
theorem wl_first (x n d f : Nat) (hn : 1 ≤ n) (hd : Lib.bitLen x = d + 1) (hx : x < 2 ^ 62) : ∃ w W, wl x n (f + 1) (d + 1) = w :: W ∧ w.f0 ≠ 0 := by
  have hb := top_bit d x hd hx
  simp only [wl]
  rw [if_neg hb]
  refine ⟨_, _, rfl, ?_⟩
  have h1 := lw_le x (d - (d + 1 - n)) (d + 1 - n)
  have h2 := lw_bit x (d - (d + 1 - n)) (d + 1 - n) (by rwa [show d + 1 - n + (d - (d + 1 - n)) = d by omega])
  obtain ⟨r, hr⟩ : ∃ r, lw x (d - (d + 1 - n)) (d + 1 - n) = r := ⟨_, rfl⟩
  rw [hr] at h2 ⊢
  have h3 : x / 2 ^ r % 2 ^ (d - r + 1) % 2 = x / 2 ^ r % 2 := Nat.mod_mod_of_dvd _ (by rw [Nat.pow_succ]; exact Nat.dvd_mul_left 2 _)
  show ((x / 2 ^ r % 2 ^ (d - r + 1) : Nat) : Int) ≠ 0
  omega
def vals0 (W : List Swindow) : List Int := (W.map (·.f0)).filter (fun y => decide (0 < y))
theorem of_l0 (W : List Swindow) (acc : List Int) (j : Int) (hb : acc.length + W.length ≤ 1000) : impl_WindowsOf.l0 W acc j = some (acc ++ vals0 W) := by
  induction W generalizing acc j with
  | nil => simp [impl_WindowsOf.l0, vals0]
  | cons w W ih =>
    simp only [List.length_cons] at hb
    simp only [impl_WindowsOf.l0]
    by_cases c : 0 < w.f0
    · rw [if_pos c, ap_ok (by simp; omega), Option.bind_some, ih _ _ (by simp; omega)]
      simp [vals0, c]
    · rw [if_neg c, ih _ _ (by omega)]
      simp [vals0, c]
theorem fold_pos : ∀ (l : List Int) (m : Int), 0 ≤ m → (∀ x ∈ l, 0 ≤ x) → (l.filter (fun y => decide (0 < y))).foldl mx m = l.foldl mx m
  | [], _, _, _ => rfl
  | y :: l, m, hm, h => by
    have h0 := h y List.mem_cons_self
    by_cases c : 0 < y
    · rw [List.filter_cons_of_pos (by simpa using c), List.foldl_cons, List.foldl_cons]
      exact fold_pos l _ (by have := (mx_ge m y).1; omega) (fun x hx => h x (List.mem_cons_of_mem _ hx))
    · rw [List.filter_cons_of_neg (by simpa using c), List.foldl_cons]
      have e : mx m y = m := by
        unfold mx
        split <;> omega
      rw [e]
      exact fold_pos l m hm (fun x hx => h x (List.mem_cons_of_mem _ hx))
/-! odd powers -/
def vt : Nat → Int
  | 0 => 0
  | t + 1 => (t : Int) + 2
def oS : Nat → List SStep
  | 0 => [⟨0, 0⟩]
  | t + 1 => oS t ++ [⟨mn (vt t) 1, mx (vt t) 1⟩]
def mt : Nat → List (Int × Int)
  | 0 => [(1, 0)]
  | t + 1 => (2 * (t : Int) + 3, (t : Int) + 2) :: mt t
theorem oS_len (t : Nat) : (oS t).length = t + 1 := by
  induction t with
  | zero => rfl
  | succ t ih => simp [oS, ih]
theorem mt_len (t : Nat) : (mt t).length = t + 1 := by
  induction t with
  | zero => rfl
  | succ t ih => simp [mt, ih]
theorem mt_at (t j : Nat) (h : j ≤ t) : mlk (mt t) (2 * (j : Int) + 1) = vt j := by
  induction t with
  | zero =>
    obtain rfl : j = 0 := by omega
    rfl
  | succ t ih =>
    simp only [mt, mlk]
    by_cases c : j = t + 1
    · subst c
      rw [if_pos (by omega)]
      rfl
    · rw [if_neg (by omega)]
      exact ih (by omega)
theorem i64_wf {x : Int} (h : -1000000000 ≤ x ∧ x ≤ 1000000000) : (Lit.int .i64 x).wf = true := by
  simp [Lit.wf, IntKind.min, IntKind.max, IntKind.signed, IntKind.bits]
  omega
theorem mget_mt {t j : Nat} (h : j ≤ t) (ht : t ≤ 1000) : mget (mt t) (2 * (j : Int) + 1) = some (vt j) := by
  unfold mget
  rw [if_pos (i64_wf (by omega)), mt_at t j h]
theorem vt_in (t : Nat) : 0 ≤ vt t ∧ vt t ≤ (t : Int) + 1 := by
  cases t with
  | zero => exact ⟨by decide, by decide⟩
  | succ t => show 0 ≤ (t : Int) + 2 ∧ (t : Int) + 2 ≤ ((t + 1 : Nat) : Int) + 1; omega
theorem mul_oS (t : Nat) : mulS (oS t, vt t) 1 = (oS (t + 1), (t : Int) + 2) := by
  unfold mulS
  rw [oS_len]
  refine Prod.ext rfl ?_
  show 1 + ((t + 1 : Nat) : Int) = _
  omega
theorem odd_impl (M : Int) (T : Nat) (h1 : 2 * (T : Int) + 1 ≤ M) (h2 : M < 2 * (T : Int) + 3) (hT : T ≤ 1000) : ∀ (d t : Nat), t + d = T → Ev (fun k => impl_SlidingPlan.l0 M 1 k (oS t) (2 * (t : Int) + 3) (mt t)) (oS T, mt T) := by
  intro d
  induction d with
  | zero =>
    intro t ht
    obtain rfl : t = T := by omega
    refine shift ?_
    simp only [impl_SlidingPlan.l0]
    exact neg (by omega) (ret _)
  | succ d ih =>
    intro t ht
    have g1 := mget_mt (t := t) (j := t) (Nat.le_refl _) (by omega)
    have g2 := mul_impl (oS t) (vt t) 1 (by rw [oS_len]; omega)
    rw [mul_oS] at g2
    have g3 : mput (mt t) (2 * (t : Int) + 3) ((t : Int) + 2) = some (mt (t + 1)) := by
      unfold mput
      rw [if_pos ⟨i64_wf (by omega), i64_wf (by omega), by rw [mt_len]; omega⟩]
      rfl
    have h := ih (t + 1) (by omega)
    refine shift ?_
    simp only [impl_SlidingPlan.l0]
    rw [zat (x := 2 * (t : Int) + 3 - 2) (by omega), show 2 * (t : Int) + 3 - 2 = 2 * (t : Int) + 1 by omega, zat (x := 2 * (t : Int) + 3 + 2) (by omega), show 2 * (t : Int) + 3 + 2 = 2 * ((t + 1 : Nat) : Int) + 3 by omega]
    exact pos (by omega) (bind0 g1 (bind0 g2 (bind0 g3 h)))
theorem odd_spec (D : List Int) (M : Int) (hm : spec_meGreatest.f D = some M) (T : Nat) (h1 : 2 * (T : Int) + 1 ≤ M) (h2 : M < 2 * (T : Int) + 3) (hT : T ≤ 1000) : ∀ (d t : Nat), t + d = T → Ev (fun k => spec_meSliding.l0 D k (oS t) [] (vt t) (2 * (t : Int) + 3)) (oS T, []) := by
  intro d
  induction d with
  | zero =>
    intro t ht
    obtain rfl : t = T := by omega
    refine shift ?_
    simp only [spec_meSliding.l0]
    exact bind0 hm (neg (by omega) (ret _))
  | succ d ih =>
    intro t ht
    have h := ih (t + 1) (by omega)
    refine shift ?_
    simp only [spec_meSliding.l0]
    refine bind0 hm (pos (by omega) (bind0 (meTimes_eq 1 _ _ _ _ (by rw [oS_len]; omega)) ?_))
    rw [oS_len, zat (x := 1 + ((t + 1 : Nat) : Int)) (by omega), zat (x := 2 * (t : Int) + 3 + 2) (by omega), show 1 + ((t + 1 : Nat) : Int) = vt (t + 1) by show 1 + ((t + 1 : Nat) : Int) = (t : Int) + 2; omega, show 2 * (t : Int) + 3 + 2 = 2 * ((t + 1 : Nat) : Int) + 3 by omega]
    exact h
/-! the rounds -/
def od (w : Int) : Int := vt ((w.toNat - 1) / 2)
theorem od_at (j : Nat) : od (2 * (j : Int) + 1) = vt j := by
  unfold od
  rw [show (2 * (j : Int) + 1).toNat = 2 * j + 1 by omega, show (2 * j + 1 - 1) / 2 = j by omega]
theorem meOdd_eq (j : Nat) (hj : j ≤ 1000) : spec_meOdd.f (2 * (j : Int) + 1) = some (vt j) := by
  unfold spec_meOdd.f
  cases j with
  | zero => rfl
  | succ j =>
    rw [if_neg (by omega), zat (x := 2 * ((j + 1 : Nat) : Int) + 1 + 1) (by omega)]
    have : (2 * ((j + 1 : Nat) : Int) + 1 + 1).tdiv 2 = (j : Int) + 2 := by
      rw [Int.tdiv_eq_ediv_of_nonneg (by omega)]
      omega
    rw [this, zat (by omega)]
    rfl
def wd (p : List SStep × Int) (w : Swindow) : List SStep × Int := if 0 < w.f0 then mulS (sqn w.f1.toNat p) (od w.f0) else sqn w.f1.toNat p
theorem wd_len (p : List SStep × Int) (w : Swindow) (h : w.f1 ≤ 5) : (wd p w).1.length ≤ p.1.length + 6 := by
  have := sqn_len w.f1.toNat p
  unfold wd
  split
  · rw [mulS_len]; omega
  · omega
theorem sl_impl (T : Nat) (hT : T ≤ 1000) (W : List Swindow) (hW : ∀ w ∈ W, WOk w ∧ w.f0 ≤ 2 * (T : Int) + 1) (l : List SStep) (v j : Int) (hl : l.length + 6 * W.length ≤ 9000) : impl_SlidingPlan.l1 (mt T) W l v j = some (W.foldl wd (l, v)) := by
  induction W generalizing l v j with
  | nil => rfl
  | cons w W ih =>
    obtain ⟨⟨h1, h2, h3⟩, h4⟩ := hW w List.mem_cons_self
    obtain ⟨n, hn⟩ := Int.eq_ofNat_of_zero_le (show 0 ≤ w.f1 by omega)
    simp only [List.length_cons] at hl
    have hs : (sqn n (l, v)).1.length = l.length + n := sqn_len n (l, v)
    have hsq : impl_maker_squared.f 1 l [] v w.f1 = some ((sqn n (l, v)).2, (sqn n (l, v)).1) := by
      rw [hn]
      unfold impl_maker_squared.f bd
      rw [if_pos (by omega), Option.bind_some, Int.toNat_natCast, sqn_impl n l v 0 (by omega)]
      rfl
    have hwd : wd (l, v) w = if 0 < w.f0 then mulS (sqn n (l, v)) (od w.f0) else sqn n (l, v) := by
      unfold wd
      rw [show w.f1.toNat = n by omega]
    have hlen : (wd (l, v) w).1.length ≤ l.length + 6 := wd_len (l, v) w h3
    simp only [impl_SlidingPlan.l1, List.foldl_cons]
    rw [hsq, Option.bind_some]
    simp only
    by_cases c : 0 < w.f0
    · rw [if_pos c] at hwd ⊢
      obtain ⟨q, hq, _⟩ := h1.resolve_left (by omega)
      rw [hq, mget_mt (by omega) hT, Option.bind_some, mul_impl _ _ _ (by omega), Option.bind_some]
      rw [hq, od_at] at hwd
      rw [hwd] at hlen ⊢
      exact ih (fun w hw => hW w (List.mem_cons_of_mem _ hw)) (mulS (sqn n (l, v)) (vt q)).1 (mulS (sqn n (l, v)) (vt q)).2 _ (by omega)
    · rw [if_neg c] at hwd ⊢
      rw [hwd] at hlen ⊢
      exact ih (fun w hw => hW w (List.mem_cons_of_mem _ hw)) (sqn n (l, v)).1 (sqn n (l, v)).2 _ (by omega)
theorem sq_spec2 (D : List Int) (i : Int) (n : Nat) (hg : gt D i = some (n : Int)) (hn : n ≤ 1000) : ∀ (d j : Nat) (l : List SStep) (a : Int), j + d = n → l.length + d ≤ 10000 → Ev (fun k => spec_meSliding.l2 D i k l [] (j : Int) a) ((sqn d (l, a)).1, [], (sqn d (l, a)).2) := by
  intro d
  induction d with
  | zero =>
    intro j l a hj hl
    refine shift ?_
    simp only [spec_meSliding.l2]
    exact bind0 hg (neg (by omega) (ret _))
  | succ d ih =>
    intro j l a hj hl
    refine shift ?_
    simp only [spec_meSliding.l2, sqn]
    refine bind0 hg (pos (by omega) (bind0 (meTimes_eq 1 l [] a a (by omega)) ?_))
    rw [w64_succ (by omega), zat (x := 1 + (l.length : Int)) (by omega)]
    exact ih (j + 1) _ _ (by omega) (by simp; omega)
theorem sl_spec (W : List Swindow) (hW : ∀ w ∈ W, WOk w) (hl : W.length ≤ 1000) : ∀ (d j c : Nat) (l : List SStep) (v : Int), j + d = W.length → l.length + 6 * d ≤ 9000 → Ev (fun k => spec_meSliding.l1 (k + c) (W.map (·.f0)) (W.map (·.f1)) k l [] (j : Int) v) (((W.drop j).foldl wd (l, v)).1, [], ((W.drop j).foldl wd (l, v)).2) := by
  intro d
  induction d with
  | zero =>
    intro j c l v hj hb
    rw [List.drop_eq_nil_of_le (by omega)]
    refine shift ?_
    simp only [spec_meSliding.l1]
    exact neg (by rw [List.length_map]; omega) (ret _)
  | succ d ih =>
    intro j c l v hj hb
    have e : ∀ k, k + 1 + c = k + (c + 1) := by omega
    have hjl : j < W.length := by omega
    obtain ⟨h1, h2, h3⟩ := hW _ (List.getElem_mem hjl)
    rw [List.drop_eq_getElem_cons hjl, List.foldl_cons]
    obtain ⟨w, hw⟩ : ∃ w, W[j] = w := ⟨_, rfl⟩
    have g0 : gt (W.map (·.f0)) (j : Int) = some w.f0 := by
      rw [gt_nat (by rw [List.length_map]; exact hjl), List.getElem_map, hw]
    have g1 : gt (W.map (·.f1)) (j : Int) = some w.f1 := by
      rw [gt_nat (by rw [List.length_map]; exact hjl), List.getElem_map, hw]
    rw [hw] at h1 h2 h3 ⊢
    obtain ⟨n, hn⟩ := Int.eq_ofNat_of_zero_le (show 0 ≤ w.f1 by omega)
    rw [hn] at g1
    have hs : (sqn n (l, v)).1.length = l.length + n := sqn_len n (l, v)
    have q1 := sq_spec2 _ _ n g1 (by omega) n 0 l v (by omega) (by omega)
    have hwd : wd (l, v) w = if 0 < w.f0 then mulS (sqn n (l, v)) (od w.f0) else sqn n (l, v) := by
      unfold wd
      rw [show w.f1.toNat = n by omega]
    have hlen : (wd (l, v) w).1.length ≤ l.length + 6 := wd_len (l, v) w h3
    refine shift ?_
    simp only [spec_meSliding.l1, e]
    refine pos (by rw [List.length_map]; omega) (bind (upK (c + 1) q1) (bind0 g0 ?_))
    rw [w64_succ (by omega)]
    by_cases cw : 0 < w.f0
    · rw [if_pos cw] at hwd
      obtain ⟨q, hq, _⟩ := h1.resolve_left (by omega)
      have g2 : spec_meOdd.f w.f0 = some (od w.f0) := by rw [hq, meOdd_eq q (by omega), od_at]
      rw [hwd] at hlen ⊢
      refine pos cw (bind0 g0 (bind0 g2 (bind0 (meTimes_eq 1 _ [] _ _ (by show (sqn n (l, v)).1.length ≤ _; omega)) ?_)))
      rw [zat (x := 1 + ((sqn n (l, v)).1.length : Int)) (by omega)]
      exact ih (j + 1) (c + 1) (mulS (sqn n (l, v)) (od w.f0)).1 (mulS (sqn n (l, v)) (od w.f0)).2 (by omega) (by omega)
    · rw [if_neg cw] at hwd
      rw [hwd] at hlen ⊢
      exact neg cw (ih (j + 1) (c + 1) (sqn n (l, v)).1 (sqn n (l, v)).2 (by omega) (by omega))
theorem Mk.wd {T : Nat} {p : List SStep × Int} (h : Mk T p) {w : Swindow} (hw : 0 < w.f0 → 0 ≤ od w.f0 ∧ od w.f0 ≤ (T : Int)) : Mk T (Pure.wd p w) := by
  have hs := h.sq w.f1.toNat
  unfold Pure.wd
  split
  · rename_i c
    have := hw c
    exact hs.mul ⟨this.1, by have := hs.2.1; omega⟩
  · exact hs
theorem Mk.wds {T : Nat} (W : List Swindow) (hW : ∀ w ∈ W, w.f1 ≤ 5 ∧ (0 < w.f0 → 0 ≤ od w.f0 ∧ od w.f0 ≤ (T : Int))) {p : List SStep × Int} (h : Mk T p) : Mk T (W.foldl Pure.wd p) ∧ (W.foldl Pure.wd p).1.length ≤ p.1.length + 6 * W.length := by
  induction W generalizing p with
  | nil => exact ⟨h, by simp⟩
  | cons w W ih =>
    have q := hW w List.mem_cons_self
    obtain ⟨h1, h2⟩ := ih (fun w hw => hW w (List.mem_cons_of_mem _ hw)) (h.wd q.2)
    have := wd_len p w q.1
    refine ⟨h1, ?_⟩
    rw [List.length_cons, List.foldl_cons]
    omega
theorem oS_ok (T : Nat) : Ok 1 (oS T) := by
  induction T with
  | zero => exact ⟨⟨by decide, by decide, by decide⟩, trivial⟩
  | succ T ih =>
    have hv := vt_in T
    refine Ok.append.2 ⟨ih, ?_, trivial⟩
    rw [oS_len]
    show 0 ≤ mn (vt T) 1 ∧ mn (vt T) 1 ≤ mx (vt T) 1 ∧ mx (vt T) 1 < _
    unfold mn mx
    split <;> split <;> omega
theorem sliding_both (a0 a1 : Int) : ∃ n s o b, Ev (fun k => impl_SlidingPlan.f k a0 a1) (n, s, o, b) ∧ Ev (fun k => spec_SlidingPlan.f k a0 a1) (n, s, o, b) ∧ s.length ≤ 10000 ∧ o.length ≤ 1000 := by
  unfold spec_SlidingPlan.f impl_SlidingPlan.f impl_WindowsOf.f impl_windowOk.f impl_isNumber.f spec_chNumber.f spec_meWide.f
  rw [l1In_eq, in_eq, l1In_eq, in_eq]
  simp only [Option.bind_some]
  by_cases h0 : 1 ≤ a0 ∧ a0 ≤ 1000000
  · by_cases h1 : 1 ≤ a1 ∧ a1 ≤ 5
    · rw [decide_eq_true h0, decide_eq_true h1]
      obtain ⟨x, rfl⟩ := Int.eq_ofNat_of_zero_le (show 0 ≤ a0 by omega)
      obtain ⟨n, rfl⟩ := Int.eq_ofNat_of_zero_le (show 0 ≤ a1 by omega)
      obtain ⟨L, hL⟩ : ∃ L, Lib.bitLen x = L := ⟨_, rfl⟩
      have hL1 : 1 ≤ L := by rw [← hL, bitLen_pos (by omega) (by omega)]; omega
      have hL2 : L ≤ 20 := by rw [← hL]; exact Lib.bitLen_le x 20 (by omega) (by omega)
      have hx : x < 2 ^ 62 := by omega
      -- the windows
      have w1 := spans_impl x n L hx (by omega) (by omega) L L 0 [] (Nat.le_refl _) (Nat.le_refl _) (by simp; omega)
      have w2 := spans_spec x n L hx (by omega) (by omega) L L 0 [] [] (Nat.le_refl _) (Nat.le_refl _) (by simp; omega) (by simp; omega)
      have wlen := wl_len x n (by omega) L L
      have wok := wl_ok x n (by omega) L L
      obtain ⟨w, W, hW, hw0⟩ : ∃ w W, wl x n L L = w :: W ∧ w.f0 ≠ 0 := by
        obtain ⟨d, rfl⟩ : ∃ d, L = d + 1 := ⟨L - 1, by omega⟩
        exact wl_first x n d d (by omega) hL hx
      rw [hW] at w1 w2 wlen wok
      rw [List.nil_append] at w1
      rw [List.nil_append, List.nil_append] at w2
      simp only [List.length_cons] at wlen
      have hiw : Ev (fun k => impl_windows.f k (x : Int) (n : Int)) (w :: W) := by
        unfold impl_windows.f
        refine bind0 (len_eq x (by omega)) ?_
        rw [hL, zat (by omega)]
        exact bind w1 (ret _)
      have hsp : Ev (fun k => spec_meSpans.f k (x : Int) (n : Int)) ((w :: W).map (·.f0), (w :: W).map (·.f1)) := by
        unfold spec_meSpans.f spec_meDigits.f
        have hd := digits_ev L x [] hL hx (by simp; omega)
        refine bind (a := digs L x) (bind hd (ret _)) ?_
        rw [digs_length, zat (by omega)]
        exact bind w2 (ret _)
      -- the greatest
      have hof := of_l0 (w :: W) [] 0 (by simp; omega)
      rw [List.nil_append] at hof
      have hnn : ∀ y ∈ (w :: W).map (·.f0), 0 ≤ y := fun y hy => by
        obtain ⟨u, hu, rfl⟩ := List.mem_map.1 hy
        rcases (wok u hu).1 with e | ⟨j, e, _⟩ <;> omega
      have hwpos : 0 < w.f0 := by
        have := hnn w.f0 (by simp)
        omega
      have hvl : vals0 (w :: W) = w.f0 :: vals0 W := by
        unfold vals0
        rw [List.map_cons, List.filter_cons_of_pos (by simpa using hwpos)]
      have hvlen : (vals0 (w :: W)).length ≤ W.length + 1 := by
        unfold vals0
        refine Nat.le_trans (List.length_filter_le _ _) ?_
        simp
      have hg := great_eq ((w :: W).map (·.f0))
      have hm := smax_ev (vals0 (w :: W)) (by rw [hvl] at hvlen ⊢; simp at hvlen ⊢; omega) (fun y hy => hnn y (List.mem_filter.1 hy).1)
      have hfp := fold_pos ((w :: W).map (·.f0)) 0 (Int.le_refl _) hnn
      have hfp' : (vals0 (w :: W)).foldl mx 0 = ((w :: W).map (·.f0)).foldl mx 0 := hfp
      rw [hfp'] at hm
      obtain ⟨hM0, hge⟩ := fmx_ge ((w :: W).map (·.f0)) 0
      have hle := fmx_le (c := 31) ((w :: W).map (·.f0)) 0 (by omega) (fun y hy => by
        obtain ⟨u, hu, rfl⟩ := List.mem_map.1 hy
        rcases (wok u hu).1 with e | ⟨j, e, hj⟩ <;> omega)
      obtain ⟨M, hM⟩ : ∃ M, ((w :: W).map (·.f0)).foldl mx 0 = M := ⟨_, rfl⟩
      rw [hM] at hM0 hge hle hg hm
      have hM1 : 1 ≤ M := by have := hge w.f0 (by simp); omega
      obtain ⟨T, hT1, hT2⟩ : ∃ T : Nat, 2 * (T : Int) + 1 ≤ M ∧ M < 2 * (T : Int) + 3 := ⟨((M - 1) / 2).toNat, by omega, by omega⟩
      have hTb : T ≤ 15 := by omega
      -- the powers
      have hput : mput ([] : List (Int × Int)) 1 0 = some (mt 0) := by
        unfold mput
        rw [if_pos ⟨i64_wf (by omega), i64_wf (by omega), by simp⟩]
        rfl
      obtain ⟨B, hB1, hB2, hBok, hBl, hBod⟩ : ∃ B : List SStep, Ev (fun k => (slices_Max_int_int.f k (vals0 (w :: W))).bind fun i57 => if 3 ≤ i57 then ((impl_maker_multiply.f 1 [] [] 0 0).bind fun (i60, l61) => (impl_SlidingPlan.l0 i57 i60 k l61 3 (mt 0)).bind fun (l64, m68) => some (l64, m68)) else (some ([], mt 0))) (B, mt T) ∧ Ev (fun k => (spec_meGreatest.f ((w :: W).map (·.f0))).bind fun i57 => if 3 ≤ i57 then ((spec_meTimes.f 1 [] [] 0 0).bind fun l60 => (spec_meSliding.l0 ((w :: W).map (·.f0)) k l60 [] 0 3).bind fun (l63, l66) => some (l63, l66)) else (some (([] : List SStep), ([] : List Int)))) (B, []) ∧ Ok 1 B ∧ B.length ≤ 16 ∧ (∀ j : Nat, j ≤ T → vt j ≤ (B.length : Int)) := by
        by_cases c : 3 ≤ M
        · have p1 := odd_impl M T hT1 hT2 (by omega) T 0 (by omega)
          have p2 := odd_spec _ M hg T hT1 hT2 (by omega) T 0 (by omega)
          refine ⟨oS T, bind hm (pos c (bind0 (a := (1, oS 0)) rfl (bind p1 (ret _)))), bind0 hg (pos c (bind0 (meTimes_eq 1 [] [] 0 0 (by simp)) (bind p2 (ret _)))), oS_ok T, by rw [oS_len]; omega, fun j hj => ?_⟩
          have := (vt_in j).2
          rw [oS_len]
          omega
        · obtain rfl : T = 0 := by omega
          refine ⟨[], bind hm (neg c (ret _)), bind0 hg (neg c (ret _)), trivial, by simp, fun j hj => ?_⟩
          obtain rfl : j = 0 := by omega
          exact Int.le_refl _
      -- the rounds
      have hle1 : ∀ u ∈ w :: W, u.f0 ≤ 2 * (T : Int) + 1 := fun u hu => by
        have h := hge u.f0 (List.mem_map_of_mem (f := (·.f0)) hu)
        rcases (wok u hu).1 with e | ⟨j, e, _⟩ <;> omega
      have hod : ∀ u ∈ w :: W, 0 < u.f0 → 0 ≤ od u.f0 ∧ od u.f0 ≤ (B.length : Int) := fun u hu hp => by
        obtain ⟨j, hj, _⟩ := (wok u hu).1.resolve_left (by omega)
        have := hle1 u hu
        rw [hj, od_at]
        exact ⟨(vt_in j).1, hBod j (by omega)⟩
      obtain ⟨j0, hj0, hj1⟩ := (wok w (by simp)).1.resolve_left hw0
      have hjT : j0 ≤ T := by have := hle1 w (by simp); omega
      have r1 := sl_impl T (by omega) W (fun u hu => ⟨wok u (by simp [hu]), hle1 u (by simp [hu])⟩) B (vt j0) 0 (by omega)
      have r2 := sl_spec (w :: W) wok (by simp; omega) W.length 1 0 B (vt j0) (by simp; omega) (by omega)
      rw [List.drop_succ_cons, List.drop_zero] at r2
      have hv0 := hod w (by simp) hwpos
      rw [hj0, od_at] at hv0
      have hMk : Mk B.length (B, vt j0) := ⟨hBok, Nat.le_refl _, hv0.1, hv0.2⟩
      obtain ⟨hk, hkl⟩ := Mk.wds W (fun u hu => ⟨(wok u (by simp [hu])).2.2, hod u (by simp [hu])⟩) hMk
      obtain ⟨S, hS⟩ : ∃ S, W.foldl wd (B, vt j0) = S := ⟨_, rfl⟩
      rw [hS] at r1 r2 hk hkl
      obtain ⟨l, v⟩ := S
      have hlb : l.length ≤ 200 := by
        have : l.length ≤ B.length + 6 * W.length := hkl
        omega
      obtain ⟨k1, k2, k3, k4⟩ := hk
      have hgd : Gd 1 l [v] := ⟨by omega, hlb, by simp, k1, fun y hy => by
        rw [List.mem_singleton.1 hy]
        simp only at k3 k4
        omega⟩
      have t1 := trimmed_eqW hgd
      have t2 := plUsed_evW hgd
      have t3 := plKeep_eqW hgd
      have c1 := plIf_ev 1 (kS 1 l [v]) (kO 1 l [v])
      have c2 := told_ev 1 (kS 1 l [v]) (kO 1 l [v])
      obtain ⟨r, hr⟩ : ∃ r, toldP 1 (kS 1 l [v]) (kO 1 l [v]) = r := ⟨_, rfl⟩
      have hrl : r.2.1.length ≤ 10000 ∧ r.2.2.1.length ≤ 1000 := by
        rw [← hr]
        unfold toldP
        have := kS_len 1 l [v]
        split
        · show (kS 1 l [v]).length ≤ _ ∧ (kO 1 l [v]).length ≤ _
          unfold kO
          rw [List.length_map]
          simp
          omega
        · simp
      rw [hr] at c1 c2
      obtain ⟨q1, q2, q3, b⟩ := r
      have hg0 : gt (w :: W) 0 = some w := rfl
      have hmg : mget (mt T) w.f0 = some (vt j0) := by rw [hj0]; exact mget_mt hjT (by omega)
      have hct : ct (w :: W) (1 : Int) ((w :: W).length : Int) = some W := ct_drop (w :: W) 1 (by simp)
      have hg1 : gt ((w :: W).map (·.f0)) 0 = some w.f0 := rfl
      have hmo : spec_meOdd.f w.f0 = some (vt j0) := by rw [hj0]; exact meOdd_eq j0 (by omega)
      refine ⟨q1, q2, q3, b, ?_, ?_, hrl.1, hrl.2⟩
      · refine bind (a := (vals0 (w :: W), true)) (bind0 rfl (pos rfl (bind hiw (bind0 hof (ret _))))) (pos rfl (bind0 rfl (bind0 hput (bind hB1 (bind hiw (bind0 hg0 (bind0 hmg (bind0 hct (bind0 r1 (bind0 rfl (bind0 t1 (bind c2 (ret _)))))))))))))
      · refine bind0 rfl (neg (by simp) (bind (a := (kS 1 l [v], kO 1 l [v])) ?_ (bind c1 (ret _))))
        unfold spec_meSliding.f spec_meTrim.f
        exact bind hsp (bind hB2 (bind0 hg1 (bind0 hmo (bind (a := (l, [], v)) r2 (bind0 rfl (bind (a := (kS 1 l [v], kO 1 l [v])) (bind t2 (bind0 t3 (ret _))) (ret _)))))))
    · rw [decide_eq_true h0, decide_eq_false h1]
      exact ⟨0, [], [], false, bind (a := (([] : List Int), false)) (bind0 rfl (neg (by simp) (ret _))) (neg (by simp) (ret _)), bind0 rfl (pos rfl (ret _)), by simp, by simp⟩
  · rw [decide_eq_false h0]
    exact ⟨0, [], [], false, bind (a := (([] : List Int), false)) (bind0 rfl (neg (by simp) (ret _))) (neg (by simp) (ret _)), bind0 rfl (pos rfl (ret _)), by simp, by simp⟩
end Go.Proofs.Ytiaohjciddbpoaa.Pure
