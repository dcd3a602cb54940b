/- Pure: Pex, Pwr, Pwb, Pwd, Ppop. -/
import Derived.Test.YtiaohjciddbpoaaKFnWindowsMakePlansPnc
set_option linter.unusedVariables false
set_option linter.unusedSimpArgs false
namespace Go.Proofs.Ytiaohjciddbpoaa.Pure
open Go.RowKit Go.Proofs.Ytiaohjciddbpoaa.E Go.Proofs.Ytiaohjciddbpoaa.H3 Go.Proofs.Ytiaohjciddbpoaa.Frame Go.Proofs.Ytiaohjciddbpoaa.Hand Go.Proofs.YtiaohjciddbpoaaW.PrintLast Go.Proofs.YtiaohjciddbpoaaW.PrintMore
open Go.Proofs.YtiaohjciddbpoaaW.PrintWords hiding mn mx
/-- The exponent of a value. -/
def ex (l : List SStep) (v : Int) : Int := rg (vl l [1]) v
theorem ex_len (l : List SStep) : (vl l [1]).length = 1 + l.length := by rw [vl_len]; rfl
theorem ex_snoc (l : List SStep) (y : SStep) : vl (l ++ [y]) [1] = vl l [1] ++ [ex l y.f0 + ex l y.f1] := by
  rw [vl_append]
  rfl
theorem ex_old (p : List SStep × Int) (b : Int) {u : Int} (h0 : 0 ≤ u) (h1 : u ≤ (p.1.length : Int)) : ex (mulS p b).1 u = ex p.1 u := by
  unfold ex mulS
  show rg (vl (p.1 ++ [_]) [1]) u = _
  rw [ex_snoc, rg_app h0 (by rw [ex_len]; omega)]
theorem ex_mul (p : List SStep × Int) (b : Int) : ex (mulS p b).1 (mulS p b).2 = ex p.1 p.2 + ex p.1 b := by
  show rg (vl (p.1 ++ [⟨mn p.2 b, mx p.2 b⟩]) [1]) (1 + (p.1.length : Int)) = _
  rw [ex_snoc, rg_new (by rw [ex_len]; omega)]
  exact add_mnmx (f := ex p.1) p.2 b
theorem ex_sqo (n : Nat) (p : List SStep × Int) {u : Int} (h0 : 0 ≤ u) (h1 : u ≤ (p.1.length : Int)) : ex (sqn n p).1 u = ex p.1 u := by
  induction n generalizing p with
  | zero => rfl
  | succ n ih => rw [sqn, ih _ (by rw [mulS_len]; omega), ex_old p p.2 h0 h1]
theorem ex_sq (n : Nat) (p : List SStep × Int) : ex (sqn n p).1 (sqn n p).2 = 2 ^ n * ex p.1 p.2 := by
  induction n generalizing p with
  | zero => simp [sqn]
  | succ n ih =>
    rw [sqn, ih, ex_mul, Int.pow_succ]
    rw [Int.mul_assoc]
    congr 1
    omega
/-! windows of digits -/
theorem ex_pw (T : Nat) : ∀ j : Nat, j ≤ T → ex (pwS T) (j : Int) = (j : Int) + 1 := by
  induction T with
  | zero =>
    intro j hj
    obtain rfl : j = 0 := by omega
    rfl
  | succ T ih =>
    intro j hj
    have e : pwS (T + 1) = (mulS (pwS T, (T : Int)) 0).1 := (pwS_succ T).symm
    by_cases c : j ≤ T
    · rw [e, ex_old _ _ (by omega) (by show (j : Int) ≤ ((pwS T).length : Int); rw [pwS_len]; omega)]
      exact ih j c
    · obtain rfl : j = T + 1 := by omega
      have h := ex_mul (pwS T, (T : Int)) 0
      have e2 : (mulS (pwS T, (T : Int)) 0).2 = ((T + 1 : Nat) : Int) := by
        show 1 + ((pwS T).length : Int) = _
        rw [pwS_len]
        omega
      rw [e2] at h
      rw [e, h]
      show ex (pwS T) (T : Int) + ex (pwS T) 0 = _
      have h0 := ih 0 (by omega)
      rw [ih T (Nat.le_refl _)]
      rw [show ((0 : Nat) : Int) = 0 from rfl] at h0
      rw [h0]
      omega
def PwO (T : Nat) (p : List SStep × Int) : Prop := T ≤ p.1.length ∧ ∀ j : Nat, j ≤ T → ex p.1 (j : Int) = (j : Int) + 1
theorem ex_wr {T : Nat} (n : Nat) {p : List SStep × Int} (h : PwO T p) {d : Int} (h0 : 0 ≤ d) (h1 : d ≤ (T : Int) + 1) : PwO T (wr n p d) ∧ ex (wr n p d).1 (wr n p d).2 = 2 ^ n * ex p.1 p.2 + d := by
  obtain ⟨a1, a2⟩ := h
  have hs := sqn_len n p
  unfold wr
  by_cases c : 0 < d
  · rw [if_pos c]
    refine ⟨⟨by rw [mulS_len]; omega, fun j hj => by rw [ex_old _ _ (by omega) (by omega), ex_sqo n p (by omega) (by omega)]; exact a2 j hj⟩, ?_⟩
    rw [ex_mul, ex_sq, ex_sqo n p (by omega) (by omega)]
    have := a2 (d - 1).toNat (by omega)
    rw [show (((d - 1).toNat : Nat) : Int) = d - 1 by omega] at this
    rw [this]
    omega
  · rw [if_neg c]
    refine ⟨⟨by omega, fun j hj => by rw [ex_sqo n p (by omega) (by omega)]; exact a2 j hj⟩, ?_⟩
    rw [ex_sq]
    omega
theorem ex_wrs {T : Nat} (n : Nat) (xs : List Int) (hx : ∀ x ∈ xs, 0 ≤ x ∧ x ≤ (T : Int) + 1) {p : List SStep × Int} (h : PwO T p) : ex (xs.foldl (wr n) p).1 (xs.foldl (wr n) p).2 = xs.foldl (fun e d => 2 ^ n * e + d) (ex p.1 p.2) := by
  induction xs generalizing p with
  | nil => rfl
  | cons x xs ih =>
    have q := hx x List.mem_cons_self
    obtain ⟨h1, h2⟩ := ex_wr n h q.1 q.2
    rw [List.foldl_cons, List.foldl_cons, ih (fun y hy => hx y (List.mem_cons_of_mem _ hy)) h1, h2]
theorem dgs_val (b : Nat) (f y : Nat) (hy : y < b ^ f) (hb : 1 ≤ b) : (dgs b f y).reverse.foldl (fun (e : Int) d => (b : Int) * e + d) 0 = (y : Int) := by
  induction f generalizing y with
  | zero =>
    obtain rfl : y = 0 := by simpa using hy
    rfl
  | succ f ih =>
    simp only [dgs]
    by_cases c : y = 0
    · rw [if_pos c, c]
      rfl
    · rw [if_neg c, List.reverse_cons, List.foldl_append, ih (y / b) (Nat.div_lt_of_lt_mul (by rw [Nat.pow_succ] at hy; rwa [Nat.mul_comm]))]
      simp only [List.foldl_cons, List.foldl_nil]
      have := Nat.div_add_mod y b
      have h2 : ((b * (y / b) + y % b : Nat) : Int) = (y : Int) := by rw [this]
      rw [Int.natCast_add, Int.natCast_mul] at h2
      exact h2
theorem ex_window {n T f x : Nat} {R : List Int} {z : Int} (hD : dgs (2 ^ n) f x = R ++ [z]) (hx : x < (2 ^ n) ^ f) (hz : 1 ≤ z ∧ z ≤ (T : Int) + 1) (hR : ∀ y ∈ R, 0 ≤ y ∧ y ≤ (T : Int) + 1) : ex (R.reverse.foldl (wr n) (pwS T, z - 1)).1 (R.reverse.foldl (wr n) (pwS T, z - 1)).2 = (x : Int) := by
  have h0 : PwO T (pwS T, z - 1) := ⟨by show T ≤ (pwS T).length; rw [pwS_len]; exact Nat.le_refl _, ex_pw T⟩
  rw [ex_wrs n R.reverse (fun y hy => hR y (List.mem_reverse.1 hy)) h0]
  have h1 := dgs_val (2 ^ n) f x hx (Nat.two_pow_pos n)
  rw [hD, List.reverse_append, List.foldl_append] at h1
  have h2 := ex_pw T (z - 1).toNat (by omega)
  rw [show (((z - 1).toNat : Nat) : Int) = z - 1 by omega] at h2
  rw [show ex (pwS T, z - 1).1 (pwS T, z - 1).2 = z by show ex (pwS T) (z - 1) = z; rw [h2]; omega]
  rw [← h1]
  simp
/-! sliding windows -/
theorem ex_odd (T : Nat) : ex (oS T) 1 = 2 ∧ ∀ j : Nat, j ≤ T → ex (oS T) (vt j) = 2 * (j : Int) + 1 := by
  induction T with
  | zero =>
    refine ⟨rfl, fun j hj => ?_⟩
    obtain rfl : j = 0 := by omega
    rfl
  | succ T ih =>
    have e : oS (T + 1) = (mulS (oS T, vt T) 1).1 := by rw [mul_oS]
    have hl := oS_len T
    refine ⟨by rw [e, ex_old _ _ (by omega) (by show (1 : Int) ≤ ((oS T).length : Int); omega)]; exact ih.1, fun j hj => ?_⟩
    by_cases c : j ≤ T
    · have hv := vt_in j
      rw [e, ex_old _ _ hv.1 (by show vt j ≤ ((oS T).length : Int); omega)]
      exact ih.2 j c
    · obtain rfl : j = T + 1 := by omega
      have h := ex_mul (oS T, vt T) 1
      have e2 : (mulS (oS T, vt T) 1).2 = vt (T + 1) := by rw [mul_oS]; rfl
      rw [e2] at h
      rw [e, h]
      show ex (oS T) (vt T) + ex (oS T) 1 = _
      rw [ih.1, ih.2 T (Nat.le_refl _)]
      omega
def OdO (T : Nat) (p : List SStep × Int) : Prop := ∀ j : Nat, j ≤ T → vt j ≤ (p.1.length : Int) ∧ ex p.1 (vt j) = 2 * (j : Int) + 1
theorem ex_wd {T : Nat} {p : List SStep × Int} (h : OdO T p) {w : Swindow} (hw : WOk w) (h1 : w.f0 ≤ 2 * (T : Int) + 1) : OdO T (wd p w) ∧ ex (wd p w).1 (wd p w).2 = 2 ^ w.f1.toNat * ex p.1 p.2 + w.f0 := by
  have hs := sqn_len w.f1.toNat p
  unfold wd
  by_cases c : 0 < w.f0
  · rw [if_pos c]
    refine ⟨fun j hj => ?_, ?_⟩
    · have q := h j hj
      have hv := vt_in j
      refine ⟨by rw [mulS_len]; omega, ?_⟩
      rw [ex_old _ _ hv.1 (by omega), ex_sqo _ p hv.1 (by omega)]
      exact q.2
    · obtain ⟨q, hq, _⟩ := hw.1.resolve_left (by omega)
      have := h q (by omega)
      have hv := vt_in q
      rw [ex_mul, ex_sq, hq, od_at, ex_sqo _ p hv.1 (by omega), this.2]
  · rw [if_neg c]
    refine ⟨fun j hj => ?_, ?_⟩
    · have q := h j hj
      have hv := vt_in j
      exact ⟨by omega, by rw [ex_sqo _ p hv.1 (by omega)]; exact q.2⟩
    · rw [ex_sq]
      have : w.f0 = 0 := by
        rcases hw.1 with e | ⟨j, e, _⟩
        · exact e
        · omega
      omega
theorem ex_wds {T : Nat} (W : List Swindow) (hW : ∀ w ∈ W, WOk w ∧ w.f0 ≤ 2 * (T : Int) + 1) {p : List SStep × Int} (h : OdO T p) : ex (W.foldl wd p).1 (W.foldl wd p).2 = W.foldl (fun e w => 2 ^ w.f1.toNat * e + w.f0) (ex p.1 p.2) := by
  induction W generalizing p with
  | nil => rfl
  | cons w W ih =>
    have q := hW w List.mem_cons_self
    obtain ⟨h1, h2⟩ := ex_wd h q.1 q.2
    rw [List.foldl_cons, List.foldl_cons, ih (fun y hy => hW y (List.mem_cons_of_mem _ hy)) h1, h2]
theorem wl_val (x n : Nat) (hn : 1 ≤ n) : ∀ f m, m ≤ f → (wl x n f m).foldl (fun (e : Int) w => 2 ^ w.f1.toNat * e + w.f0) ((x / 2 ^ m : Nat) : Int) = (x : Int) := by
  intro f
  induction f with
  | zero =>
    intro m hm
    obtain rfl : m = 0 := by omega
    simp [wl]
  | succ f ih =>
    intro m hm
    cases m with
    | zero => simp [wl]
    | succ m =>
      simp only [wl]
      split
      · rename_i hb
        rw [List.foldl_cons]
        have e : (2 : Int) ^ (1 : Int).toNat * ((x / 2 ^ (m + 1) : Nat) : Int) + 0 = ((x / 2 ^ m : Nat) : Int) := by
          have h1 : x / 2 ^ (m + 1) = x / 2 ^ m / 2 := by rw [Nat.div_div_eq_div_mul, Nat.pow_succ]
          rw [h1]
          show (2 : Int) ^ 1 * _ + 0 = _
          omega
        rw [e]
        exact ih m (by omega)
      · have h1 := lw_le x (m - (m + 1 - n)) (m + 1 - n)
        obtain ⟨r, hr⟩ : ∃ r, lw x (m - (m + 1 - n)) (m + 1 - n) = r := ⟨_, rfl⟩
        rw [hr] at h1 ⊢
        rw [List.foldl_cons]
        have hrm : r ≤ m := by omega
        have e : (2 : Int) ^ (((m - r + 1 : Nat) : Int)).toNat * ((x / 2 ^ (m + 1) : Nat) : Int) + ((x / 2 ^ r % 2 ^ (m - r + 1) : Nat) : Int) = ((x / 2 ^ r : Nat) : Int) := by
          have h2 : x / 2 ^ (m + 1) = x / 2 ^ r / 2 ^ (m - r + 1) := by rw [Nat.div_div_eq_div_mul, ← Nat.pow_add, show r + (m - r + 1) = m + 1 by omega]
          rw [h2, Int.toNat_natCast]
          have h3 := Nat.div_add_mod (x / 2 ^ r) (2 ^ (m - r + 1))
          have h4 : ((2 ^ (m - r + 1) * (x / 2 ^ r / 2 ^ (m - r + 1)) + x / 2 ^ r % 2 ^ (m - r + 1) : Nat) : Int) = ((x / 2 ^ r : Nat) : Int) := by rw [h3]
          rw [Int.natCast_add, Int.natCast_mul, Int.natCast_pow] at h4
          exact h4
        rw [e]
        exact ih r (by omega)
theorem ex_sliding {n L x T : Nat} (hn : 1 ≤ n) {w : Swindow} {W : List Swindow} (hW : wl x n L L = w :: W) (hx : x < 2 ^ L) (hok : ∀ u ∈ w :: W, WOk u ∧ u.f0 ≤ 2 * (T : Int) + 1) {B : List SStep} {v : Int} (hB : OdO T (B, v)) (hv : ex B v = w.f0) : ex (W.foldl wd (B, v)).1 (W.foldl wd (B, v)).2 = (x : Int) := by
  rw [ex_wds W (fun u hu => hok u (List.mem_cons_of_mem _ hu)) hB]
  have h := wl_val x n hn L L (Nat.le_refl _)
  rw [hW, List.foldl_cons, Nat.div_eq_of_lt hx] at h
  show W.foldl _ (ex B v) = _
  rw [hv, ← h]
  simp
/-! plans that are kept are good -/
theorem ex_ge (l : List SStep) (v : Int) : 0 ≤ ex l v := rg_le0 (vl_ge (fun x hx => by rw [List.mem_singleton.1 hx]; decide)) v
theorem ex_step {l : List SStep} (h : Ok 1 l) {m : Nat} {y : SStep} (hm : l[m]? = some y) : ex l ((1 + m : Nat) : Int) = ex l y.f0 + ex l y.f1 := vl_at (l := [1]) h hm
theorem us_le {l : List SStep} {v : Int} (h : Ok 1 l) : ∀ (d : Nat) (u : Int), 0 ≤ u → ((1 + l.length : Nat) : Int) ≤ u + (d : Int) → us 1 l [v] u = true → ex l u ≤ ex l v := by
  intro d
  induction d with
  | zero =>
    intro u h0 hd hu
    rcases (us_iff h).1 hu with e | ⟨j, y, hj, _, hy⟩
    · rw [List.mem_singleton.1 e]
      exact Int.le_refl _
    · have q := h.at hj
      have := (List.getElem?_eq_some_iff.1 hj).1
      rcases hy with rfl | rfl <;> omega
  | succ d ih =>
    intro u h0 hd hu
    rcases (us_iff h).1 hu with e | ⟨j, y, hj, hu2, hy⟩
    · rw [List.mem_singleton.1 e]
      exact Int.le_refl _
    · have q := h.at hj
      have h1 := ih ((1 + j : Nat) : Int) (by omega) (by rcases hy with rfl | rfl <;> omega) hu2
      rw [ex_step h hj] at h1
      have g0 := ex_ge l y.f0
      have g1 := ex_ge l y.f1
      rcases hy with rfl | rfl <;> omega
theorem kept_goodW {l : List SStep} {v : Int} (h : Gd 1 l [v]) (hx : 1 ≤ ex l v ∧ ex l v ≤ 1000000) (hk : (kS 1 l [v]).length ≤ 40) : Good 1 (kS 1 l [v]) (kO 1 l [v]) := by
  have hc := us_cl (o := [v]) h.ok
  refine ⟨h.inp, hk, by unfold kO; rw [List.length_map]; exact h.out, ts_ok l h.ok hc, ?_, ?_⟩
  · intro y hy
    obtain ⟨u, hu, rfl⟩ := List.mem_map.1 hy
    have q := h.os u hu
    exact ⟨pl_ge q.1, pl_in q.1 q.2 (.inr (us_out hu))⟩
  · intro j hj w w0 w1
    obtain rfl : j = 0 := by omega
    unfold kS at w1
    rw [ts_len] at w1
    obtain ⟨u, u0, u1, u2, rfl⟩ := ts_onto l w w0 w1
    have := ts_vl (unitR 1 0) (unitR_len 1 0) l h.ok hc u u0 u1 u2
    unfold kS
    rw [this]
    show ex l u ≤ _
    rcases u2 with u2 | u2
    · obtain rfl : u = 0 := by omega
      have e : ex l 0 = 1 := vl_pre l [1] (by omega) (by simp)
      rw [e]
      omega
    · exact Int.le_trans (us_le h.ok (1 + l.length) u u0 (by omega) u2) hx.2
theorem ex_kept {l : List SStep} {v : Int} (h : Gd 1 l [v]) : ex (kS 1 l [v]) (pl 1 (us 1 l [v]) v) = ex l v := by
  have q := h.os v (by simp)
  exact ts_vl (unitR 1 0) (unitR_len 1 0) l h.ok (us_cl h.ok) v q.1 q.2 (.inr (us_out (by simp)))
/-- The one exponent of a plan with one output. -/
theorem pw_one {s : List SStep} {v : Int} (h : Good 1 s [v]) : pw 1 s [v] = [[ex s v]] := by
  have q := h.os v (by simp)
  obtain ⟨h1, h2⟩ := good_row h q.1 q.2
  unfold pw
  rw [List.map_cons, List.map_nil]
  congr 1
  obtain ⟨r, hr⟩ : ∃ r, (exps 1 s).getD v.toNat [] = r := ⟨_, rfl⟩
  rw [hr] at h1 h2 ⊢
  match r, h1 with
  | [a], _ =>
    have := h2 0 (by omega)
    have e : a = rg (vl s (unitR 1 0)) v := this
    rw [e]
    rfl
/-! the binary method -/
def bn (p : List SStep × Int) (d : Int) : List SStep × Int := if d = 1 then mulS (sqn 1 p) 0 else sqn 1 p
def bin (x : Nat) : List SStep × Int := ((digs (Lib.bitLen x) x).take (Lib.bitLen x - 1)).reverse.foldl bn ([], 0)
theorem dgs_digs : ∀ (d y f : Nat), Lib.bitLen y = d → d ≤ f → y < 2 ^ 62 → dgs 2 f y = digs d y := by
  intro d
  induction d with
  | zero =>
    intro y f h hf hy
    obtain rfl := bitLen_none hy h
    cases f <;> rfl
  | succ d ih =>
    intro y f h hf hy
    have h0 : y ≠ 0 := fun c => by rw [c, bitLen_zero] at h; omega
    have h1 := bitLen_pos h0 (by omega)
    obtain ⟨g, rfl⟩ : ∃ g, f = g + 1 := ⟨f - 1, by omega⟩
    simp only [dgs, digs]
    rw [if_neg h0, ih (y / 2) g (by omega) (by omega) (by omega)]
theorem digs_01 (d y : Nat) : ∀ x ∈ digs d y, x = 0 ∨ x = 1 := by
  induction d generalizing y with
  | zero => exact fun x hx => nomatch hx
  | succ d ih =>
    intro x hx
    rcases List.mem_cons.1 hx with rfl | hx
    · omega
    · exact ih _ x hx
theorem wr_bn (p : List SStep × Int) {d : Int} (h : d = 0 ∨ d = 1) : wr 1 p d = bn p d := by
  unfold wr bn
  rcases h with rfl | rfl
  · rfl
  · rfl
theorem foldl_congr {α β : Type} {f g : β → α → β} : ∀ (xs : List α) (b : β), (∀ b x, x ∈ xs → f b x = g b x) → xs.foldl f b = xs.foldl g b
  | [], _, _ => rfl
  | x :: xs, b, h => by
    rw [List.foldl_cons, List.foldl_cons, h b x List.mem_cons_self]
    exact foldl_congr xs _ (fun b y hy => h b y (List.mem_cons_of_mem _ hy))
theorem wd_zero (p : List SStep × Int) : wd p ⟨0, 1⟩ = sqn 1 p := rfl
theorem wd_one (p : List SStep × Int) : wd p ⟨1, 1⟩ = mulS (sqn 1 p) 0 := rfl
theorem wl_bn (x L : Nat) : ∀ (f m : Nat) (p : List SStep × Int), m ≤ f → m ≤ L → (wl x 1 f m).foldl wd p = ((digs L x).take m).reverse.foldl bn p := by
  intro f
  induction f with
  | zero =>
    intro m p hf hm
    obtain rfl : m = 0 := by omega
    rfl
  | succ f ih =>
    intro m p hf hm
    cases m with
    | zero => rfl
    | succ m =>
      have hml : m < (digs L x).length := by rw [digs_length]; omega
      have e1 : ((digs L x).take (m + 1)).reverse = (digs L x)[m] :: ((digs L x).take m).reverse := by
        rw [List.take_add_one, List.getElem?_eq_getElem hml]
        simp
      rw [e1, List.foldl_cons, digs_get L x m (by omega)]
      simp only [wl]
      by_cases hb : x / 2 ^ m % 2 = 0
      · rw [if_pos hb, List.foldl_cons, wd_zero, ih m _ (by omega) (by omega)]
        congr 1
        unfold bn
        rw [if_neg (by omega)]
      · have e2 : lw x (m - (m + 1 - 1)) (m + 1 - 1) = m := by
          rw [show m - (m + 1 - 1) = 0 by omega]
          simp [lw]
        rw [if_neg hb, e2, List.foldl_cons]
        have e3 : x / 2 ^ m % 2 = 1 := by omega
        have e4 : (⟨((x / 2 ^ m % 2 ^ (m - m + 1) : Nat) : Int), ((m - m + 1 : Nat) : Int)⟩ : Swindow) = ⟨1, 1⟩ := by
          rw [Nat.sub_self]
          show (⟨((x / 2 ^ m % 2 : Nat) : Int), 1⟩ : Swindow) = _
          rw [e3]
          rfl
        rw [e4, wd_one, ih m _ (by omega) (by omega)]
        congr 1
        unfold bn
        rw [if_pos (by omega)]
theorem wl_01 (x : Nat) : ∀ f m, ∀ w ∈ wl x 1 f m, w.f0 ≤ 1 := by
  intro f
  induction f with
  | zero => exact fun m w hw => nomatch hw
  | succ f ih =>
    intro m w hw
    cases m with
    | zero => exact nomatch hw
    | succ m =>
      simp only [wl] at hw
      split at hw
      · rcases List.mem_cons.1 hw with rfl | hw
        · decide
        · exact ih m w hw
      · have e2 : lw x (m - (m + 1 - 1)) (m + 1 - 1) = m := by
          rw [show m - (m + 1 - 1) = 0 by omega]
          simp [lw]
        rw [e2] at hw
        rcases List.mem_cons.1 hw with rfl | hw
        · show ((x / 2 ^ m % 2 ^ (m - m + 1) : Nat) : Int) ≤ 1
          rw [Nat.sub_self]
          have := Nat.mod_lt (x / 2 ^ m) (show 0 < 2 ^ (0 + 1) by decide)
          have e : (2 : Nat) ^ (0 + 1) = 2 := rfl
          rw [e] at this ⊢
          omega
        · exact ih m w hw
theorem wl_tail (x d : Nat) (hd : Lib.bitLen x = d + 1) (hx : x < 2 ^ 62) {w : Swindow} {W : List Swindow} (h : wl x 1 (d + 1) (d + 1) = w :: W) : W = wl x 1 d d := by
  have hb := top_bit d x hd hx
  simp only [wl] at h
  have e2 : lw x (d - (d + 1 - 1)) (d + 1 - 1) = d := by
    rw [show d - (d + 1 - 1) = 0 by omega]
    simp [lw]
  rw [if_neg hb, e2] at h
  injection h with _ h2
  exact h2.symm
theorem digs_snoc {L x : Nat} {R : List Int} {z : Int} (h : digs L x = R ++ [z]) : R = (digs L x).take (L - 1) := by
  have hl := congrArg List.length h
  rw [digs_length, List.length_append, List.length_singleton] at hl
  rw [h, List.take_left' (by omega)]
theorem window_res (x n : Nat) (h0 : 1 ≤ (x : Int) ∧ (x : Int) ≤ 1000000) (h1 : 1 ≤ (n : Int) ∧ (n : Int) ≤ 5) : ∃ l v, Gd 1 l [v] ∧ ex l v = (x : Int) ∧ (n = 1 → (l, v) = bin x) ∧ Ev (fun k => impl_WindowPlan.f k (x : Int) (n : Int)) (toldP 1 (kS 1 l [v]) (kO 1 l [v])) ∧ Ev (fun k => spec_WindowPlan.f k (x : Int) (n : Int)) (toldP 1 (kS 1 l [v]) (kO 1 l [v])) := by
  unfold spec_WindowPlan.f impl_WindowPlan.f impl_windowOk.f impl_isNumber.f spec_chNumber.f spec_meWide.f
  rw [l1In_eq, in_eq, l1In_eq, in_eq]
  simp only [Option.bind_some]
  rw [decide_eq_true h0, decide_eq_true h1]
  obtain ⟨hw, L, hL1, hL2, hL3⟩ := wide_ok n (by omega)
  have hb : 2 ≤ 2 ^ n := by
    have : 2 ^ 1 ≤ 2 ^ n := Nat.pow_le_pow_right (by omega) (by omega)
    simpa using this
  have hxL : x < (2 ^ n) ^ L := by omega
  have d1 := dgs_spec (2 ^ n) hb L x [] hxL (by omega) (by simp; omega)
  have d2 := dgs_impl (2 ^ n) hb L x [] hxL (by omega) (by simp; omega)
  rw [List.nil_append] at d1 d2
  have dl := dgs_len (2 ^ n) L x
  have di := dgs_in (b := 2 ^ n) (by omega) L x
  obtain ⟨R, z, hD, hz⟩ := dgs_last hb L x (by omega) hxL
  rw [hD] at d1 d2 dl di
  rw [List.length_append, List.length_singleton] at dl
  obtain ⟨hM0, hge⟩ := fmx_ge (R ++ [z]) 0
  have hle := fmx_le (c := ((2 ^ n : Nat) : Int) - 1) (R ++ [z]) 0 (by omega) (fun y hy => by have := (di y hy).2; omega)
  have hg := great_eq (R ++ [z])
  have hm := smax_ev (R ++ [z]) (by simp; omega) (fun y hy => (di y hy).1)
  obtain ⟨M, hM⟩ : ∃ M, (R ++ [z]).foldl mx 0 = M := ⟨_, rfl⟩
  rw [hM] at hM0 hge hle hg hm
  have hM1 : 1 ≤ M := by have := hge z (by simp); omega
  obtain ⟨T, hT⟩ : ∃ T : Nat, M = (T : Int) + 1 := ⟨(M - 1).toNat, by omega⟩
  have hTb : T ≤ 100 := by omega
  have p1 := pw_impl (R ++ [z]) M T hm (by omega) (fun _ => hT) (by omega) T 0 0 (by omega)
  have p2 := pw_spec (R ++ [z]) M T hg (by omega) (fun _ => hT) (by omega) T 0 (by omega)
  have hxR : ∀ y ∈ R, 0 ≤ y ∧ y ≤ (T : Int) + 1 := fun y hy => ⟨(di y (by simp [hy])).1, by have := hge y (by simp [hy]); omega⟩
  have hzT : z ≤ (T : Int) + 1 := by have := hge z (by simp); omega
  have hmul : (n + 1) * R.length ≤ 100 := by
    have : (n + 1) * R.length ≤ (n + 1) * L := Nat.mul_le_mul_left _ (by omega)
    have e : (n + 1) * L = n * L + L := by rw [Nat.add_mul, Nat.one_mul]
    omega
  have r1 := rounds_impl n T (by omega) R (by omega) (fun y hy => by have := (hxR y hy).2; omega) (pwS T) (z - 1) (by rw [pwS_len]; omega)
  have r2 := rounds_spec n (by omega) R z (by omega) (fun y hy => by have := hxR y hy; omega) R.length 0 (pwS T) (z - 1) (Nat.le_refl _) (by rw [pwS_len]; omega)
  rw [List.take_length] at r2
  have hMk : Mk T (pwS T, z - 1) := ⟨pwS_ok T, by show T ≤ (pwS T).length; rw [pwS_len]; exact Nat.le_refl _, by show 0 ≤ z - 1; omega, by show z - 1 ≤ ((pwS T).length : Int); rw [pwS_len]; omega⟩
  obtain ⟨hk, hkl⟩ := Mk.all n R.reverse (fun y hy => (hxR y (List.mem_reverse.1 hy)).2) hMk
  obtain ⟨S, hS⟩ : ∃ S, R.reverse.foldl (wr n) (pwS T, z - 1) = S := ⟨_, rfl⟩
  rw [hS] at r1 r2 hk hkl
  have hex : ex S.1 S.2 = (x : Int) := by
    rw [← hS]
    exact ex_window hD hxL ⟨hz, hzT⟩ hxR
  have hbin : n = 1 → S = bin x := fun hn => by
    subst hn
    have hbl := Lib.bitLen_le x L (by omega) (by simpa using hxL)
    have hdd := dgs_digs (Lib.bitLen x) x L rfl hbl (by omega)
    have hD' : digs (Lib.bitLen x) x = R ++ [z] := by rw [← hdd]; exact hD
    have h01 := digs_01 (Lib.bitLen x) x
    rw [hD'] at h01
    have hz1 : z = 1 := by rcases h01 z (by simp) with e | e <;> omega
    have hM1' : M ≤ 1 := by
      rw [← hM]
      exact fmx_le (R ++ [z]) 0 (by omega) (fun y hy => by rcases h01 y hy with e | e <;> omega)
    obtain rfl : T = 0 := by omega
    rw [← hS, hz1, digs_snoc hD']
    unfold bin
    exact foldl_congr _ _ (fun p d hd => wr_bn p (digs_01 _ _ d (List.mem_of_mem_take (List.mem_reverse.1 hd))))
  obtain ⟨l, v⟩ := S
  have hlb : l.length ≤ 200 := by
    have : l.length ≤ (pwS T).length + (n + 1) * R.reverse.length := hkl
    rw [pwS_len, List.length_reverse] at this
    omega
  obtain ⟨k1, k2, k3, k4⟩ := hk
  have hgd : Gd 1 l [v] := ⟨by omega, hlb, by simp, k1, fun y hy => by
    rw [List.mem_singleton.1 hy]
    simp only at k3 k4
    omega⟩
  have t1 := trimmed_eqW hgd
  have t2 := plUsed_evW hgd
  have t3 := plKeep_eqW hgd
  have c1 := plIf_ev 1 (kS 1 l [v]) (kO 1 l [v])
  have c2 := told_ev 1 (kS 1 l [v]) (kO 1 l [v])
  have hnn : nn ((n : Nat) : Int) = some () := by
    unfold nn
    rw [if_pos (by omega)]
  have hlast : gt (R ++ [z]) (w64 (((R ++ [z]).length : Int) - 1)) = some z := by
    rw [List.length_append, List.length_singleton, zay (by omega), show ((R.length + 1 : Nat) : Int) - 1 = (R.length : Int) by omega, gt_nat (by simp)]
    simp
  have hct : ct (R ++ [z]) (0 : Int) (w64 (((R ++ [z]).length : Int) - 1)) = some R := by
    rw [List.length_append, List.length_singleton, zay (by omega), show ((R.length + 1 : Nat) : Int) - 1 = (R.length : Int) by omega, ct_take _ _ (by simp)]
    simp
  have hpz : gt (pwL T) z = some (z - 1) := by
    obtain ⟨u, rfl⟩ := Int.eq_ofNat_of_zero_le (show 0 ≤ z by omega)
    exact pwL_gt T u (by omega)
  rw [hw]
  refine ⟨l, v, hgd, hex, hbin, ?_, ?_⟩
  · refine bind0 rfl (pos rfl (bind (a := R ++ [z]) ?_ (bind p1 (bind0 hlast (bind0 hpz (bind0 hct (bind0 rfl (bind0 r1 (bind0 rfl (bind0 t1 (bind c2 (ret _))))))))))))
    refine bind0 rfl (bind0 hnn (bind (a := R ++ [z]) ?_ (ret _)))
    unfold impl_digits.f
    exact bind d2 (ret _)
  · refine bind0 rfl (neg (by simp) (bind (a := (kS 1 l [v], kO 1 l [v])) ?_ (bind c1 (ret _))))
    unfold spec_meWindow.f spec_meTrim.f
    rw [hw]
    refine bind0 hnn (bind (a := R ++ [z]) ?_ (bind p2 (bind0 hlast (bind (a := (l, [], v)) ?_ (bind0 rfl (bind (a := (kS 1 l [v], kO 1 l [v])) (bind t2 (bind0 t3 (ret _))) (ret _)))))))
    · unfold spec_meDigits.f
      exact bind d1 (ret _)
    · rw [zay (x := z - 1) (by omega), List.length_append, List.length_singleton, zay (by omega), show ((R.length + 1 : Nat) : Int) - 2 = (R.length : Int) - 1 by omega]
      exact r2
theorem sliding_res (x n : Nat) (h0 : 1 ≤ (x : Int) ∧ (x : Int) ≤ 1000000) (h1 : 1 ≤ (n : Int) ∧ (n : Int) ≤ 5) : ∃ l v, Gd 1 l [v] ∧ ex l v = (x : Int) ∧ (n = 1 → (l, v) = bin x) ∧ Ev (fun k => impl_SlidingPlan.f k (x : Int) (n : Int)) (toldP 1 (kS 1 l [v]) (kO 1 l [v])) ∧ Ev (fun k => spec_SlidingPlan.f k (x : Int) (n : Int)) (toldP 1 (kS 1 l [v]) (kO 1 l [v])) := by
  unfold spec_SlidingPlan.f impl_SlidingPlan.f impl_WindowsOf.f impl_windowOk.f impl_isNumber.f spec_chNumber.f spec_meWide.f
  rw [l1In_eq, in_eq, l1In_eq, in_eq]
  simp only [Option.bind_some]
  rw [decide_eq_true h0, decide_eq_true h1]
  obtain ⟨L, hL⟩ : ∃ L, Lib.bitLen x = L := ⟨_, rfl⟩
  have hL1 : 1 ≤ L := by rw [← hL, bitLen_pos (by omega) (by omega)]; omega
  have hL2 : L ≤ 20 := by rw [← hL]; exact Lib.bitLen_le x 20 (by omega) (by omega)
  have hx : x < 2 ^ 62 := by omega
  -- the windows
  have w1 := spans_impl x n L hx (by omega) (by omega) L L 0 [] (Nat.le_refl _) (Nat.le_refl _) (by simp; omega)
  have w2 := spans_spec x n L hx (by omega) (by omega) L L 0 [] [] (Nat.le_refl _) (Nat.le_refl _) (by simp; omega) (by simp; omega)
  have wlen := wl_len x n (by omega) L L
  have wok := wl_ok x n (by omega) L L
  obtain ⟨w, W, hW, hw0⟩ : ∃ w W, wl x n L L = w :: W ∧ w.f0 ≠ 0 := by
    obtain ⟨d, rfl⟩ : ∃ d, L = d + 1 := ⟨L - 1, by omega⟩
    exact wl_first x n d d (by omega) hL hx
  rw [hW] at w1 w2 wlen wok
  rw [List.nil_append] at w1
  rw [List.nil_append, List.nil_append] at w2
  simp only [List.length_cons] at wlen
  have hiw : Ev (fun k => impl_windows.f k (x : Int) (n : Int)) (w :: W) := by
    unfold impl_windows.f
    refine bind0 (len_eq x (by omega)) ?_
    rw [hL, zay (by omega)]
    exact bind w1 (ret _)
  have hsp : Ev (fun k => spec_meSpans.f k (x : Int) (n : Int)) ((w :: W).map (·.f0), (w :: W).map (·.f1)) := by
    unfold spec_meSpans.f spec_meDigits.f
    have hd := digits_ev L x [] hL hx (by simp; omega)
    refine bind (a := digs L x) (bind hd (ret _)) ?_
    rw [digs_length, zay (by omega)]
    exact bind w2 (ret _)
  -- the greatest
  have hof := of_l0 (w :: W) [] 0 (by simp; omega)
  rw [List.nil_append] at hof
  have hnn : ∀ y ∈ (w :: W).map (·.f0), 0 ≤ y := fun y hy => by
    obtain ⟨u, hu, rfl⟩ := List.mem_map.1 hy
    rcases (wok u hu).1 with e | ⟨j, e, _⟩ <;> omega
  have hwpos : 0 < w.f0 := by
    have := hnn w.f0 (by simp)
    omega
  have hvl : vals0 (w :: W) = w.f0 :: vals0 W := by
    unfold vals0
    rw [List.map_cons, List.filter_cons_of_pos (by simpa using hwpos)]
  have hvlen : (vals0 (w :: W)).length ≤ W.length + 1 := by
    unfold vals0
    refine Nat.le_trans (List.length_filter_le _ _) ?_
    simp
  have hg := great_eq ((w :: W).map (·.f0))
  have hm := smax_ev (vals0 (w :: W)) (by rw [hvl] at hvlen ⊢; simp at hvlen ⊢; omega) (fun y hy => hnn y (List.mem_filter.1 hy).1)
  have hfp := fold_pos ((w :: W).map (·.f0)) 0 (Int.le_refl _) hnn
  have hfp' : (vals0 (w :: W)).foldl mx 0 = ((w :: W).map (·.f0)).foldl mx 0 := hfp
  rw [hfp'] at hm
  obtain ⟨hM0, hge⟩ := fmx_ge ((w :: W).map (·.f0)) 0
  have hle := fmx_le (c := 31) ((w :: W).map (·.f0)) 0 (by omega) (fun y hy => by
    obtain ⟨u, hu, rfl⟩ := List.mem_map.1 hy
    rcases (wok u hu).1 with e | ⟨j, e, hj⟩ <;> omega)
  obtain ⟨M, hM⟩ : ∃ M, ((w :: W).map (·.f0)).foldl mx 0 = M := ⟨_, rfl⟩
  rw [hM] at hM0 hge hle hg hm
  have hM1 : 1 ≤ M := by have := hge w.f0 (by simp); omega
  obtain ⟨T, hT1, hT2⟩ : ∃ T : Nat, 2 * (T : Int) + 1 ≤ M ∧ M < 2 * (T : Int) + 3 := ⟨((M - 1) / 2).toNat, by omega, by omega⟩
  have hTb : T ≤ 15 := by omega
  -- the powers
  have hput : mput ([] : List (Int × Int)) 1 0 = some (mt 0) := by
    unfold mput
    rw [if_pos ⟨i64_wf (by omega), i64_wf (by omega), by simp⟩]
    rfl
  obtain ⟨B, hB1, hB2, hBok, hBl, hBod, hBn⟩ : ∃ B : List SStep, Ev (fun k => (slices_Max_int_int.f k (vals0 (w :: W))).bind fun i57 => if 3 ≤ i57 then ((impl_maker_multiply.f 1 [] [] 0 0).bind fun (i60, l61) => (impl_SlidingPlan.l0 i57 i60 k l61 3 (mt 0)).bind fun (l64, m68) => some (l64, m68)) else (some ([], mt 0))) (B, mt T) ∧ Ev (fun k => (spec_meGreatest.f ((w :: W).map (·.f0))).bind fun i57 => if 3 ≤ i57 then ((spec_meTimes.f 1 [] [] 0 0).bind fun l60 => (spec_meSliding.l0 ((w :: W).map (·.f0)) k l60 [] 0 3).bind fun (l63, l66) => some (l63, l66)) else (some (([] : List SStep), ([] : List Int)))) (B, []) ∧ Ok 1 B ∧ B.length ≤ 16 ∧ (∀ j : Nat, j ≤ T → vt j ≤ (B.length : Int) ∧ ex B (vt j) = 2 * (j : Int) + 1) ∧ (M < 3 → B = []) := by
    by_cases c : 3 ≤ M
    · have p1 := odd_impl M T hT1 hT2 (by omega) T 0 (by omega)
      have p2 := odd_spec _ M hg T hT1 hT2 (by omega) T 0 (by omega)
      refine ⟨oS T, bind hm (pos c (bind0 (a := (1, oS 0)) rfl (bind p1 (ret _)))), bind0 hg (pos c (bind0 (meTimes_eq 1 [] [] 0 0 (by simp)) (bind p2 (ret _)))), oS_ok T, by rw [oS_len]; omega, fun j hj => ⟨?_, (ex_odd T).2 j hj⟩, fun h => absurd h (by omega)⟩
      have := (vt_in j).2
      rw [oS_len]
      omega
    · obtain rfl : T = 0 := by omega
      refine ⟨[], bind hm (neg c (ret _)), bind0 hg (neg c (ret _)), trivial, by simp, fun j hj => ?_, fun _ => rfl⟩
      obtain rfl : j = 0 := by omega
      exact ⟨Int.le_refl _, rfl⟩
  -- the rounds
  have hle1 : ∀ u ∈ w :: W, u.f0 ≤ 2 * (T : Int) + 1 := fun u hu => by
    have h := hge u.f0 (List.mem_map_of_mem (f := (·.f0)) hu)
    rcases (wok u hu).1 with e | ⟨j, e, _⟩ <;> omega
  have hod : ∀ u ∈ w :: W, 0 < u.f0 → 0 ≤ od u.f0 ∧ od u.f0 ≤ (B.length : Int) := fun u hu hp => by
    obtain ⟨j, hj, _⟩ := (wok u hu).1.resolve_left (by omega)
    have := hle1 u hu
    rw [hj, od_at]
    exact ⟨(vt_in j).1, (hBod j (by omega)).1⟩
  obtain ⟨j0, hj0, hj1⟩ := (wok w (by simp)).1.resolve_left hw0
  have hjT : j0 ≤ T := by have := hle1 w (by simp); omega
  have r1 := sl_impl T (by omega) W (fun u hu => ⟨wok u (by simp [hu]), hle1 u (by simp [hu])⟩) B (vt j0) 0 (by omega)
  have r2 := sl_spec (w :: W) wok (by simp; omega) W.length 1 0 B (vt j0) (by simp; omega) (by omega)
  rw [List.drop_succ_cons, List.drop_zero] at r2
  have hv0 := hod w (by simp) hwpos
  rw [hj0, od_at] at hv0
  have hMk : Mk B.length (B, vt j0) := ⟨hBok, Nat.le_refl _, hv0.1, hv0.2⟩
  obtain ⟨hk, hkl⟩ := Mk.wds W (fun u hu => ⟨(wok u (by simp [hu])).2.2, hod u (by simp [hu])⟩) hMk
  obtain ⟨S, hS⟩ : ∃ S, W.foldl wd (B, vt j0) = S := ⟨_, rfl⟩
  rw [hS] at r1 r2 hk hkl
  have hex : ex S.1 S.2 = (x : Int) := by
    rw [← hS]
    refine ex_sliding (n := n) (by omega) hW (lt_bitLen L x hL (by omega)) (fun u hu => ⟨wok u hu, hle1 u hu⟩) (B := B) (v := vt j0) hBod ?_
    rw [hj0]
    exact (hBod j0 hjT).2
  have hbin : n = 1 → S = bin x := fun hn => by
    subst hn
    have hM1' : M ≤ 1 := by
      rw [← hM]
      refine fmx_le _ 0 (by omega) (fun y hy => ?_)
      obtain ⟨u, hu, rfl⟩ := List.mem_map.1 hy
      rw [← hW] at hu
      exact wl_01 x L L u hu
    obtain rfl := hBn (by omega)
    obtain rfl : j0 = 0 := by omega
    obtain ⟨d, rfl⟩ : ∃ d, L = d + 1 := ⟨L - 1, by omega⟩
    have hWt : W = wl x 1 d d := wl_tail x d hL hx hW
    rw [← hS, hWt]
    unfold bin
    rw [hL, Nat.add_sub_cancel]
    exact wl_bn x (d + 1) d d _ (Nat.le_refl _) (by omega)
  obtain ⟨l, v⟩ := S
  have hlb : l.length ≤ 200 := by
    have : l.length ≤ B.length + 6 * W.length := hkl
    omega
  obtain ⟨k1, k2, k3, k4⟩ := hk
  have hgd : Gd 1 l [v] := ⟨by omega, hlb, by simp, k1, fun y hy => by
    rw [List.mem_singleton.1 hy]
    simp only at k3 k4
    omega⟩
  have t1 := trimmed_eqW hgd
  have t2 := plUsed_evW hgd
  have t3 := plKeep_eqW hgd
  have c1 := plIf_ev 1 (kS 1 l [v]) (kO 1 l [v])
  have c2 := told_ev 1 (kS 1 l [v]) (kO 1 l [v])
  have hg0 : gt (w :: W) 0 = some w := rfl
  have hmg : mget (mt T) w.f0 = some (vt j0) := by rw [hj0]; exact mget_mt hjT (by omega)
  have hct : ct (w :: W) (1 : Int) ((w :: W).length : Int) = some W := ct_drop (w :: W) 1 (by simp)
  have hg1 : gt ((w :: W).map (·.f0)) 0 = some w.f0 := rfl
  have hmo : spec_meOdd.f w.f0 = some (vt j0) := by rw [hj0]; exact meOdd_eq j0 (by omega)
  refine ⟨l, v, hgd, hex, hbin, ?_, ?_⟩
  · refine bind (a := (vals0 (w :: W), true)) (bind0 rfl (pos rfl (bind hiw (bind0 hof (ret _))))) (pos rfl (bind0 rfl (bind0 hput (bind hB1 (bind hiw (bind0 hg0 (bind0 hmg (bind0 hct (bind0 r1 (bind0 rfl (bind0 t1 (bind c2 (ret _)))))))))))))
  · refine bind0 rfl (neg (by simp) (bind (a := (kS 1 l [v], kO 1 l [v])) ?_ (bind c1 (ret _))))
    unfold spec_meSliding.f spec_meTrim.f
    exact bind hsp (bind hB2 (bind0 hg1 (bind0 hmo (bind (a := (l, [], v)) r2 (bind0 rfl (bind (a := (kS 1 l [v], kO 1 l [v])) (bind t2 (bind0 t3 (ret _))) (ret _)))))))
/-- Each step takes the one before it. -/
def Ch (p : List SStep × Int) : Prop := p.2 = (p.1.length : Int) ∧ ∀ (j : Nat) (y : SStep), p.1[j]? = some y → y.f1 = (j : Int)
theorem Ch.mul {p : List SStep × Int} (h : Ch p) {b : Int} (hb : 0 ≤ b ∧ b ≤ (p.1.length : Int)) : Ch (mulS p b) := by
  obtain ⟨h1, h2⟩ := h
  refine ⟨by rw [mulS_len]; show 1 + (p.1.length : Int) = _; omega, fun j y hj => ?_⟩
  have hj' : (p.1 ++ [(⟨mn p.2 b, mx p.2 b⟩ : SStep)])[j]? = some y := hj
  by_cases c : j < p.1.length
  · rw [List.getElem?_append_left c] at hj'
    exact h2 j y hj'
  · rw [List.getElem?_append_right (by omega)] at hj'
    have hl := (List.getElem?_eq_some_iff.1 hj').1
    simp only [List.length_cons, List.length_nil] at hl
    have e : j - p.1.length = 0 := by omega
    rw [e] at hj'
    obtain rfl := Option.some.inj hj'
    show mx p.2 b = _
    unfold mx
    split <;> omega
theorem Ch.sq {p : List SStep × Int} (h : Ch p) (n : Nat) : Ch (sqn n p) := by
  induction n generalizing p with
  | zero => exact h
  | succ n ih => exact ih (h.mul ⟨by have := h.1; omega, by have := h.1; omega⟩)
theorem Ch.bn {p : List SStep × Int} (h : Ch p) (d : Int) : Ch (Pure.bn p d) := by
  have hs := h.sq 1
  unfold Pure.bn
  split
  · exact hs.mul ⟨by omega, by omega⟩
  · exact hs
theorem bin_ch (x : Nat) : Ch (bin x) := by
  unfold bin
  have h0 : Ch (([] : List SStep), 0) := ⟨rfl, fun j y hj => by simp at hj⟩
  generalize ((digs (Lib.bitLen x) x).take (Lib.bitLen x - 1)).reverse = xs
  generalize (([] : List SStep), (0 : Int)) = p at h0
  induction xs generalizing p with
  | nil => exact h0
  | cons d xs ih => exact ih _ (h0.bn d)
theorem bn_len (p : List SStep × Int) (d : Int) : (bn p d).1.length ≤ p.1.length + 2 := by
  have := sqn_len 1 p
  unfold bn
  split
  · rw [mulS_len]; omega
  · omega
theorem bns_len (xs : List Int) (p : List SStep × Int) : (xs.foldl bn p).1.length ≤ p.1.length + 2 * xs.length := by
  induction xs generalizing p with
  | nil => simp
  | cons d xs ih =>
    have h1 := ih (bn p d)
    have h2 := bn_len p d
    rw [List.foldl_cons, List.length_cons]
    omega
theorem bin_len (x : Nat) (h : Lib.bitLen x ≤ 20) : (bin x).1.length ≤ 38 := by
  unfold bin
  have h1 := bns_len ((digs (Lib.bitLen x) x).take (Lib.bitLen x - 1)).reverse ([], 0)
  rw [List.length_reverse, List.length_take, digs_length] at h1
  simp only [List.length_nil] at h1
  omega
theorem ch_used {l : List SStep} {v : Int} (hok : Ok 1 l) (h : Ch (l, v)) : ∀ (d w : Nat), w + d = l.length → us 1 l [v] (w : Int) = true := by
  obtain ⟨h1, h2⟩ := h
  simp only at h1 h2
  intro d
  induction d with
  | zero =>
    intro w hw
    exact us_out (by rw [h1]; simp; omega)
  | succ d ih =>
    intro w hw
    have hl : w < l.length := by omega
    have hy := List.getElem?_eq_getElem hl
    refine (us_iff hok).2 (.inr ⟨w, _, hy, ?_, .inr (h2 w _ hy).symm⟩)
    rw [show 1 + w = w + 1 by omega]
    exact ih (w + 1) (by omega)
theorem ch_kept {l : List SStep} {v : Int} (hg : Gd 1 l [v]) (h : Ch (l, v)) : kS 1 l [v] = l ∧ kO 1 l [v] = [v] := by
  have hu : ∀ w : Int, ((1 : Nat) : Int) ≤ w → w < ((1 + l.length : Nat) : Int) → us 1 l [v] w = true := fun w w0 w1 => by
    obtain ⟨u, rfl⟩ := Int.eq_ofNat_of_zero_le (show 0 ≤ w by omega)
    exact ch_used hg.ok h (l.length - u) u (by omega)
  refine ⟨ts_all l hg.ok hu, ?_⟩
  have q := hg.os v (by simp)
  unfold kO
  rw [List.map_cons, List.map_nil, pl_all hu q.1 q.2]
/-! what a plan ends with -/
theorem pEnds_ev {s : List SStep} {v x : Int} (h : Good 1 s [v]) (hx : ex s v = x) : Ev (fun k => laws_pEnds.f k 1 s [v] x) true := by
  have e := outEx_ev h
  rw [pw_one h, hx] at e
  unfold laws_pEnds.f
  refine bind e (pos rfl (pos rfl (bind0 (a := [x]) rfl (pos rfl (bind0 (a := [x]) rfl (bind0 (a := x) rfl ?_))))))
  rw [decide_eq_true rfl]
  exact ret _
theorem told_ends {l : List SStep} {v x : Int} (h : Gd 1 l [v]) (hx : ex l v = x) (hx1 : 1 ≤ x ∧ x ≤ 1000000) : (toldP 1 (kS 1 l [v]) (kO 1 l [v]) = (0, [], [], false) ∧ 40 < (kS 1 l [v]).length) ∨ (toldP 1 (kS 1 l [v]) (kO 1 l [v]) = (1, kS 1 l [v], kO 1 l [v], true) ∧ Ev (fun k => laws_pEnds.f k 1 (kS 1 l [v]) (kO 1 l [v]) x) true) := by
  by_cases c : (kS 1 l [v]).length ≤ 40
  · have hg := kept_goodW h (by rw [hx]; exact hx1) c
    refine .inr ⟨?_, ?_⟩
    · have gg : good 1 (kS 1 l [v]) (kO 1 l [v]) = true := good_iff.2 hg
      unfold toldP
      rw [if_pos gg]
    · have hk : kO 1 l [v] = [pl 1 (us 1 l [v]) v] := rfl
      rw [hk] at hg ⊢
      exact pEnds_ev hg (by rw [ex_kept h, hx])
  · refine .inl ⟨?_, by omega⟩
    unfold toldP
    rw [if_neg]
    intro hg
    have := (good_iff.1 hg).stp
    omega
/-! the binary plan -/
theorem bin_round (i y : Int) (l : List SStep) (a : Int) (hl : l.length + 2 ≤ 10000) : impl_BinaryPlan.r0 (i, y) (l, a) = some (bn (l, a) y) := by
  have hm : impl_maker_multiply.f 1 l [] a a = some ((sqn 1 (l, a)).2, (sqn 1 (l, a)).1) := mul_impl l a a (by omega)
  have hs : (sqn 1 (l, a)).1.length = l.length + 1 := sqn_len 1 (l, a)
  unfold impl_BinaryPlan.r0 bn
  simp only
  rw [hm, Option.bind_some]
  simp only
  by_cases c : y = 1
  · rw [if_pos c, if_pos c, mul_impl _ _ _ (by omega)]
    rfl
  · rw [if_neg c, if_neg c]
theorem bin_rounds (R : List Int) (hR : R.length ≤ 1000) : rngB R (impl_BinaryPlan.r0) (([] : List SStep), (0 : Int)) = some (R.reverse.foldl bn ([], 0)) := by
  have hP : ∀ (j : Nat) (s : List SStep × Int) (x : Int × Int), x ∈ bwL R → s.1.length + 2 * (j + 1) ≤ 9000 → impl_BinaryPlan.r0 x s = some (bn s x.2) ∧ (bn s x.2).1.length + 2 * j ≤ 9000 := by
    rintro j ⟨l, a⟩ ⟨i, x⟩ hxm hs
    have hw := bn_len (l, a) x
    simp only at hs hw ⊢
    exact ⟨bin_round i x l a (by omega), by omega⟩
  unfold rngB
  rw [if_pos]
  · rw [foldl_inv (f := stB impl_BinaryPlan.r0) (g := fun s (x : Int × Int) => bn s x.2) (fun j s => s.1.length + 2 * j ≤ 9000) (bwL R) ([], 0) (fun j s x hxm hs => by
      obtain ⟨e, h⟩ := hP j s x hxm hs
      refine ⟨?_, h⟩
      unfold stB
      rw [e]
      rfl) (by rw [bwL_len]; simp; omega), ← bwL_snd, List.foldl_map]
  · exact okB_inv (fun j s => s.1.length + 2 * j ≤ 9000) (fun j s x hxm hs => ⟨_, hP j s x hxm hs⟩) R.length ([], 0) (by simp; omega)
theorem binary_res (x : Nat) (h0 : 1 ≤ (x : Int) ∧ (x : Int) ≤ 1000000) : Ev (fun k => impl_BinaryPlan.f k (x : Int)) (toldP 1 (bin x).1 [(bin x).2]) := by
  have hL2 : Lib.bitLen x ≤ 20 := Lib.bitLen_le x 20 (by omega) (by omega)
  have hlt := lt_bitLen (Lib.bitLen x) x rfl (by omega)
  have d2 := dgs_impl 2 (by omega) (Lib.bitLen x) x [] hlt (by omega) (by simp; omega)
  rw [List.nil_append, dgs_digs (Lib.bitLen x) x (Lib.bitLen x) rfl (Nat.le_refl _) (by omega)] at d2
  have hpos : 1 ≤ Lib.bitLen x := by rw [bitLen_pos (by omega) (by omega)]; omega
  have hct : ct (digs (Lib.bitLen x) x) (0 : Int) (w64 (((digs (Lib.bitLen x) x).length : Int) - 1)) = some ((digs (Lib.bitLen x) x).take (Lib.bitLen x - 1)) := by
    rw [digs_length, zay (by omega), show ((Lib.bitLen x : Nat) : Int) - 1 = ((Lib.bitLen x - 1 : Nat) : Int) by omega, ct_take _ _ (by rw [digs_length]; omega)]
  have hr := bin_rounds ((digs (Lib.bitLen x) x).take (Lib.bitLen x - 1)) (by rw [List.length_take, digs_length]; omega)
  have hb : (bin x) = ((digs (Lib.bitLen x) x).take (Lib.bitLen x - 1)).reverse.foldl bn ([], 0) := rfl
  rw [← hb] at hr
  have ht := told_ev 1 (bin x).1 [(bin x).2]
  unfold impl_BinaryPlan.f impl_isNumber.f
  rw [in_eq]
  simp only [Option.bind_some]
  rw [decide_eq_true h0]
  refine pos rfl (bind0 rfl (bind (a := digs (Lib.bitLen x) x) ?_ (bind0 hct (bind0 rfl (bind0 hr (bind0 rfl (bind ht (ret _))))))))
  unfold impl_digits.f
  exact bind d2 (ret _)
/-- The sum of the d lowest binary digits. -/
def ds : Nat → Nat → Nat
  | 0, _ => 0
  | d + 1, y => y % 2 + ds d (y / 2)
theorem ds_zero (d : Nat) : ds d 0 = 0 := by
  induction d with
  | zero => rfl
  | succ d ih => simp only [ds]; rw [ih]
theorem ds_le (d y : Nat) : ds d y ≤ d := by
  induction d generalizing y with
  | zero => exact Nat.le_refl _
  | succ d ih =>
    have := ih (y / 2)
    simp only [ds]
    omega
theorem ds_add (a b y : Nat) : ds (a + b) y = ds a y + ds b (y / 2 ^ a) := by
  induction a generalizing y with
  | zero => simp [ds]
  | succ a ih =>
    rw [show a + 1 + b = (a + b) + 1 by omega]
    simp only [ds]
    rw [ih (y / 2), Nat.div_div_eq_div_mul, Nat.pow_succ, Nat.mul_comm 2]
    omega
theorem ds_mod (a y : Nat) : ds a (y % 2 ^ a) = ds a y := by
  induction a generalizing y with
  | zero => rfl
  | succ a ih =>
    simp only [ds]
    have h1 : y % 2 ^ (a + 1) % 2 = y % 2 := Nat.mod_mod_of_dvd y (by rw [Nat.pow_succ]; exact Nat.dvd_mul_left 2 _)
    have h2 : y % 2 ^ (a + 1) / 2 = y / 2 % 2 ^ a := by rw [Nat.pow_succ, Nat.mul_comm, Nat.mod_mul_right_div_self]
    rw [h1, h2, ih]
theorem ds_cut (a d y : Nat) (h : y < 2 ^ a) (hd : a ≤ d) : ds d y = ds a y := by
  rw [show d = a + (d - a) by omega, ds_add, Nat.div_eq_of_lt h, ds_zero]
  omega
/-- What windows of a number sum up to. -/
def sumW (N : Nat) (W : List Swindow) : Nat := (W.map fun w => ds N w.f0.toNat).sum
theorem wl_sum (N x n : Nat) (hN : 5 ≤ N) (hn : 1 ≤ n ∧ n ≤ 5) : ∀ f m, m ≤ f → sumW N (wl x n f m) = ds m x := by
  intro f
  induction f with
  | zero =>
    intro m hm
    obtain rfl : m = 0 := by omega
    rfl
  | succ f ih =>
    intro m hm
    cases m with
    | zero => rfl
    | succ m =>
      simp only [wl]
      by_cases hb : x / 2 ^ m % 2 = 0
      · rw [if_pos hb]
        have h1 := ih m (by omega)
        unfold sumW at h1 ⊢
        rw [List.map_cons, List.sum_cons, h1, ds_add m 1 x]
        show ds N 0 + ds m x = ds m x + (x / 2 ^ m % 2 + 0)
        rw [ds_zero]
        omega
      · rw [if_neg hb]
        have h1 := lw_le x (m - (m + 1 - n)) (m + 1 - n)
        obtain ⟨r, hr⟩ : ∃ r, lw x (m - (m + 1 - n)) (m + 1 - n) = r := ⟨_, rfl⟩
        rw [hr] at h1 ⊢
        have h2 := ih r (by omega)
        unfold sumW at h2 ⊢
        have h3 := Nat.mod_lt (x / 2 ^ r) (Nat.two_pow_pos (m - r + 1))
        have h4 := ds_cut (m - r + 1) N (x / 2 ^ r % 2 ^ (m - r + 1)) h3 (by omega)
        have h5 := ds_mod (m - r + 1) (x / 2 ^ r)
        have e6 : ds (m + 1) x = ds r x + ds (m - r + 1) (x / 2 ^ r) := by
          rw [← ds_add]
          congr 1
          omega
        have e7 : ds N (((x / 2 ^ r % 2 ^ (m - r + 1) : Nat) : Int)).toNat = ds (m - r + 1) (x / 2 ^ r) := by rw [Int.toNat_natCast, h4, h5]
        rw [List.map_cons, List.sum_cons, h2, e6]
        exact (congrArg (· + ds r x) e7).trans (Nat.add_comm _ _)
/-! the words' other parts -/
theorem ofs_l0 (W : List Int) (acc : List Int) (j : Int) (hb : acc.length + W.length ≤ 1000) : spec_WindowsOf.l0 W acc j = some (acc ++ W.filter (fun y => decide (0 < y))) := by
  induction W generalizing acc j with
  | nil => simp [spec_WindowsOf.l0]
  | cons w W ih =>
    simp only [List.length_cons] at hb
    simp only [spec_WindowsOf.l0]
    by_cases c : 0 < w
    · rw [if_pos c, ap_ok (by simp; omega), Option.bind_some, ih _ _ (by simp; omega)]
      simp [c]
    · rw [if_neg c, ih _ _ (by omega)]
      simp [c]
theorem wl_lt (x n : Nat) (hn : 1 ≤ n ∧ n ≤ 5) : ∀ f m, ∀ w ∈ wl x n f m, w.f0 < ((2 ^ n : Nat) : Int) := by
  intro f
  induction f with
  | zero => exact fun m w hw => nomatch hw
  | succ f ih =>
    intro m w hw
    cases m with
    | zero => exact nomatch hw
    | succ m =>
      simp only [wl] at hw
      split at hw
      · rcases List.mem_cons.1 hw with rfl | hw
        · have := Nat.two_pow_pos n
          show (0 : Int) < _
          omega
        · exact ih m w hw
      · have h1 := lw_le x (m - (m + 1 - n)) (m + 1 - n)
        obtain ⟨r, hr⟩ : ∃ r, lw x (m - (m + 1 - n)) (m + 1 - n) = r := ⟨_, rfl⟩
        rw [hr] at h1 hw
        rcases List.mem_cons.1 hw with rfl | hw
        · have h4 := Nat.mod_lt (x / 2 ^ r) (Nat.two_pow_pos (m - r + 1))
          have h5 : (2 : Nat) ^ (m - r + 1) ≤ 2 ^ n := Nat.pow_le_pow_right (by omega) (by omega)
          exact Int.ofNat_lt.2 (Nat.lt_of_lt_of_le h4 h5)
        · exact ih r w hw
theorem windows_both (x n : Nat) (h0 : 1 ≤ (x : Int) ∧ (x : Int) ≤ 1000000) (h1 : 1 ≤ (n : Int) ∧ (n : Int) ≤ 5) : ∃ W : List Swindow, Ev (fun k => impl_WindowsOf.f k (x : Int) (n : Int)) (vals0 W, true) ∧ Ev (fun k => spec_WindowsOf.f k (x : Int) (n : Int)) (vals0 W, true) ∧ (∀ w ∈ W, WOk w ∧ w.f0 < ((2 ^ n : Nat) : Int)) ∧ sumW 20 W = ds 20 x ∧ W.length ≤ 20 := by
  obtain ⟨L, hL⟩ : ∃ L, Lib.bitLen x = L := ⟨_, rfl⟩
  have hL2 : L ≤ 20 := by rw [← hL]; exact Lib.bitLen_le x 20 (by omega) (by omega)
  have hx : x < 2 ^ 62 := by omega
  have hpos : 1 ≤ L := by rw [← hL, bitLen_pos (by omega) (by omega)]; omega
  have w1 := spans_impl x n L hx (by omega) (by omega) L L 0 [] (Nat.le_refl _) (Nat.le_refl _) (by simp; omega)
  have w2 := spans_spec x n L hx (by omega) (by omega) L L 0 [] [] (Nat.le_refl _) (Nat.le_refl _) (by simp; omega) (by simp; omega)
  have wlen := wl_len x n (by omega) L L
  have wok := wl_ok x n (by omega) L L
  have wlt := wl_lt x n (by omega) L L
  have wsum := wl_sum 20 x n (by omega) (by omega) L L (Nat.le_refl _)
  obtain ⟨W, hW⟩ : ∃ W, wl x n L L = W := ⟨_, rfl⟩
  rw [hW] at w1 w2 wlen wok wlt wsum
  rw [List.nil_append] at w1
  rw [List.nil_append, List.nil_append] at w2
  have hof := of_l0 W [] 0 (by simp; omega)
  rw [List.nil_append] at hof
  have hos := ofs_l0 (W.map (·.f0)) [] 0 (by simp; omega)
  rw [List.nil_append] at hos
  refine ⟨W, ?_, ?_, fun w hw => ⟨wok w hw, wlt w hw⟩, ?_, by omega⟩
  · unfold impl_WindowsOf.f impl_windowOk.f impl_isNumber.f
    rw [in_eq, in_eq]
    simp only [Option.bind_some]
    rw [decide_eq_true h0, decide_eq_true h1]
    refine bind0 rfl (pos rfl (bind (a := W) ?_ (bind0 hof (ret _))))
    unfold impl_windows.f
    refine bind0 (len_eq x (by omega)) ?_
    rw [hL, zay (by omega)]
    exact bind w1 (ret _)
  · unfold spec_WindowsOf.f spec_chNumber.f spec_meWide.f
    rw [l1In_eq, l1In_eq]
    simp only [Option.bind_some]
    rw [decide_eq_true h0, decide_eq_true h1]
    refine pos rfl (pos rfl (bind (a := (W.map (·.f0), W.map (·.f1))) ?_ (bind0 hos (ret _))))
    unfold spec_meSpans.f spec_meDigits.f
    have hd := digits_ev L x [] hL hx (by simp; omega)
    refine bind (a := digs L x) (bind hd (ret _)) ?_
    rw [digs_length, zay (by omega)]
    exact bind w2 (ret _)
  · rw [wsum]
    have := lt_bitLen L x hL (by omega)
    exact (ds_cut L 20 x this hL2).symm
theorem windows_no (a0 a1 : Int) (h : ¬ (1 ≤ a0 ∧ a0 ≤ 1000000) ∨ ¬ (1 ≤ a1 ∧ a1 ≤ 5)) : Ev (fun k => impl_WindowsOf.f k a0 a1) ([], false) ∧ Ev (fun k => spec_WindowsOf.f k a0 a1) ([], false) ∧ Ev (fun k => impl_SlidingPlan.f k a0 a1) (0, [], [], false) ∧ Ev (fun k => spec_SlidingPlan.f k a0 a1) (0, [], [], false) ∧ Ev (fun k => impl_WindowPlan.f k a0 a1) (0, [], [], false) ∧ Ev (fun k => spec_WindowPlan.f k a0 a1) (0, [], [], false) := by
  unfold spec_WindowsOf.f spec_WindowPlan.f impl_WindowPlan.f spec_SlidingPlan.f impl_SlidingPlan.f impl_WindowsOf.f impl_windowOk.f impl_isNumber.f spec_chNumber.f spec_meWide.f
  rw [l1In_eq, in_eq, l1In_eq, in_eq]
  simp only [Option.bind_some]
  by_cases h0 : 1 ≤ a0 ∧ a0 ≤ 1000000
  · have h1 := h.resolve_left (fun c => c h0)
    rw [decide_eq_true h0, decide_eq_false h1]
    exact ⟨bind0 rfl (neg (by simp) (ret _)), pos rfl (neg (by simp) (ret _)), bind (a := (([] : List Int), false)) (bind0 rfl (neg (by simp) (ret _))) (neg (by simp) (ret _)), bind0 rfl (pos rfl (ret _)), bind0 rfl (neg (by simp) (ret _)), bind0 rfl (pos rfl (ret _))⟩
  · rw [decide_eq_false h0]
    exact ⟨bind0 rfl (neg (by simp) (ret _)), neg (by simp) (ret _), bind (a := (([] : List Int), false)) (bind0 rfl (neg (by simp) (ret _))) (neg (by simp) (ret _)), bind0 rfl (pos rfl (ret _)), bind0 rfl (neg (by simp) (ret _)), bind0 rfl (pos rfl (ret _))⟩
/-! draws -/
theorem drawNum {c : List Int} (hc : Bytes c) (hl : c.length ≤ 1048576) : ∃ i n, spec_DrawSlidingPlan.f c = some (i, n) := by
  obtain ⟨x, a1, s1, e1, _, _, b1⟩ := pick_ev hc hl (a := 0) (m := 20) ⟨by omega, by omega⟩ 0 8
  obtain ⟨y, a2, s2, e2, b2⟩ : ∃ y a2 s2, spec_l1Cur_number.f c 0 0 = some (y, a2, s2) ∧ Bud a2 10 := by
    unfold spec_l1Cur_number.f
    rw [e1, Option.bind_some]
    simp only
    split
    · obtain ⟨y, a2, s2, e2, _, b2⟩ := among_ev hc hl (m := 19) b1 s1 [(-1), 0, 1, 2, 1000000, 1000001] (by simp)
      rw [e2]
      exact ⟨_, _, _, rfl, b2.le (by omega)⟩
    · split
      · obtain ⟨y, a2, s2, e2, _, _, b2⟩ := pick_ev hc hl (m := 19) b1 s1 1000000
        rw [e2]
        exact ⟨_, _, _, rfl, b2.le (by omega)⟩
      · obtain ⟨y, a2, s2, e2, _, _, b2⟩ := pick_ev hc hl (m := 19) b1 s1 120
        rw [e2]
        exact ⟨_, _, _, rfl, b2.le (by omega)⟩
  obtain ⟨b, a3, s3, e3, b3⟩ := one_ev hc hl (m := 9) b2 s2 8
  unfold spec_DrawSlidingPlan.f spec_l1Cur_wide.f
  rw [e2, Option.bind_some]
  simp only
  rw [e3, Option.bind_some]
  simp only
  cases b with
  | true =>
    obtain ⟨y, a4, s4, e4, _, _⟩ := among_ev hc hl (m := 8) b3 s3 [(-1), 0, 5, 6] (by simp)
    rw [if_pos rfl, e4]
    exact ⟨_, _, rfl⟩
  | false =>
    obtain ⟨y, a4, s4, e4, _, _, _⟩ := pick_ev hc hl (m := 8) b3 s3 4
    rw [if_neg (by simp), e4]
    exact ⟨_, _, rfl⟩
theorem land_split (k a b m : Nat) (ha : a < 2 ^ k) : (a + 2 ^ k * b) &&& m = (a &&& (m % 2 ^ k)) + 2 ^ k * (b &&& (m / 2 ^ k)) := by
  have h1 : (a + 2 ^ k * b) / 2 ^ k = b := by
    rw [Nat.add_mul_div_left _ _ (Nat.two_pow_pos k), Nat.div_eq_of_lt ha, Nat.zero_add]
  have h2 : (a + 2 ^ k * b) % 2 ^ k = a := by
    rw [Nat.add_mul_mod_self_left, Nat.mod_eq_of_lt ha]
  have h3 := Nat.div_add_mod ((a + 2 ^ k * b) &&& m) (2 ^ k)
  rw [Nat.and_div_two_pow, Nat.and_mod_two_pow, h1, h2] at h3
  rw [← h3, Nat.add_comm]
theorem land_byte (a b m : Nat) (ha : a < 256) : (a + 256 * b) &&& m = (a &&& (m % 256)) + 256 * (b &&& (m / 256)) := land_split 8 a b m ha
def g1 (M x : Nat) : Nat := (x / 2 &&& M) + (x &&& M)
def g2 (M x : Nat) : Nat := (x / 4 &&& M) + (x &&& M)
def g3 (M x : Nat) : Nat := (x / 16 + x) &&& M
theorem c1 : ∀ a : Fin 256, ∀ t : Fin 2, (a.val / 2 + 128 * t.val) &&& 85 = a.val / 2 &&& 85 := by decide +kernel
theorem c2 : ∀ a : Fin 256, ∀ t : Fin 4, (a.val / 4 + 64 * t.val) &&& 51 = a.val / 4 &&& 51 := by decide +kernel
theorem c3 : ∀ a : Fin 69, ∀ t : Fin 5, (a.val / 16 + 16 * t.val + a.val) &&& 15 = (a.val / 16 + a.val) &&& 15 := by decide +kernel
theorem c4 : ∀ a : Fin 256, g1 85 a.val < 256 ∧ g2 51 (g1 85 a.val) ≤ 68 ∧ g2 51 (g1 85 a.val) % 16 ≤ 4 ∧ g3 15 (g2 51 (g1 85 a.val)) = ds 8 a.val := by decide +kernel
theorem g1_split (M a y : Nat) (hM : M % 256 = 85) (ha : a < 256) : g1 M (a + 256 * y) = g1 85 a + 256 * g1 (M / 256) y := by
  unfold g1
  have e : (a + 256 * y) / 2 = (a / 2 + 128 * (y % 2)) + 256 * (y / 2) := by omega
  rw [e, land_byte _ _ _ (by omega), land_byte _ _ _ ha, hM, c1 ⟨a, ha⟩ ⟨y % 2, by omega⟩]
  simp only
  omega
theorem g2_split (M a y : Nat) (hM : M % 256 = 51) (ha : a < 256) : g2 M (a + 256 * y) = g2 51 a + 256 * g2 (M / 256) y := by
  unfold g2
  have e : (a + 256 * y) / 4 = (a / 4 + 64 * (y % 4)) + 256 * (y / 4) := by omega
  rw [e, land_byte _ _ _ (by omega), land_byte _ _ _ ha, hM, c2 ⟨a, ha⟩ ⟨y % 4, by omega⟩]
  simp only
  omega
theorem g3_split (M a y : Nat) (hM : M % 256 = 15) (ha : a ≤ 68) (hy : y % 16 ≤ 4) : g3 M (a + 256 * y) = g3 15 a + 256 * g3 (M / 256) y := by
  unfold g3
  have e : (a + 256 * y) / 16 + (a + 256 * y) = (a / 16 + 16 * (y % 16) + a) + 256 * (y / 16 + y) := by omega
  rw [e, land_byte _ _ _ (by omega), hM, c3 ⟨a, by omega⟩ ⟨y % 16, by omega⟩]
theorem g_zero (M : Nat) : g1 M 0 = 0 ∧ g2 M 0 = 0 ∧ g3 M 0 = 0 := by simp [g1, g2, g3]
/-- Three bytes' ones. -/
theorem three (a b c : Nat) (ha : a < 256) (hb : b < 256) (hc : c < 256) : g3 1085102592571150095 (g2 3689348814741910323 (g1 6148914691236517205 (a + 256 * (b + 256 * c)))) = ds 8 a + 256 * (ds 8 b + 256 * ds 8 c) := by
  obtain ⟨a1, a2, a3, a4⟩ := c4 ⟨a, ha⟩
  obtain ⟨b1, b2, b3, b4⟩ := c4 ⟨b, hb⟩
  obtain ⟨d1, d2, d3, d4⟩ := c4 ⟨c, hc⟩
  simp only at a1 a2 a3 a4 b1 b2 b3 b4 d1 d2 d3 d4
  have z1 := g1_split (6148914691236517205 / 256 / 256) c 0 (by decide) hc
  rw [(g_zero _).1, Nat.mul_zero, Nat.add_zero, Nat.add_zero] at z1
  have z2 := g2_split (3689348814741910323 / 256 / 256) (g1 85 c) 0 (by decide) d1
  rw [(g_zero _).2.1, Nat.mul_zero, Nat.add_zero, Nat.add_zero] at z2
  have z3 := g3_split (1085102592571150095 / 256 / 256) (g2 51 (g1 85 c)) 0 (by decide) d2 (by omega)
  rw [(g_zero _).2.2, Nat.mul_zero, Nat.add_zero, Nat.add_zero] at z3
  rw [g1_split 6148914691236517205 a _ (by decide) ha, g1_split (6148914691236517205 / 256) b _ (by decide) hb, z1]
  rw [g2_split 3689348814741910323 _ _ (by decide) a1, g2_split (3689348814741910323 / 256) _ _ (by decide) b1, z2]
  rw [g3_split 1085102592571150095 _ _ (by decide) a2 (by omega), g3_split (1085102592571150095 / 256) _ _ (by decide) b2 (by omega), z3, a4, b4, d4]
theorem u64_id {n : Nat} (h : n < 2 ^ 64) : IntKind.u64.wrap (n : Int) = (n : Int) := by
  simp only [IntKind.wrap, IntKind.bits, IntKind.signed]
  simp
  omega
theorem and_u64 {a b : Nat} (ha : a < 2 ^ 64) (hb : b < 2 ^ 64) : Go.bits .and .u64 (a : Int) (b : Int) = ((a &&& b : Nat) : Int) := (bits_nat .u64 64 (by decide) (fun n h0 h1 => by
  obtain ⟨m, rfl⟩ := Int.eq_ofNat_of_zero_le h0
  exact u64_id (by omega)) a b ha hb).1
theorem fin_sum {A B C s t v : Nat} (hA : A ≤ 8) (hB : B ≤ 8) (hC : C ≤ 8) (h : s = A + 256 * (B + 256 * C)) (ht : s + s / 256 = t) (hv : t + t / 65536 = v) : v % 128 = A + (B + C) := by
  have k1 : s / 256 = B + 256 * C := by omega
  have k2 : t / 65536 = C := by omega
  have k3 : v = (A + (B + C)) + 128 * (2 * ((B + C) + 256 * C)) := by omega
  omega
theorem land_le (a m : Nat) : a &&& m ≤ a := Nat.and_le_left
theorem digitSum_eq {y : Int} (h : 1 ≤ y ∧ y ≤ 1000000) : impl_DigitSum.f y = some (((ds 20 y.toNat : Nat) : Int), true) := by
  obtain ⟨x, rfl⟩ := Int.eq_ofNat_of_zero_le (show 0 ≤ y by omega)
  rw [Int.toNat_natCast]
  unfold impl_DigitSum.f impl_isNumber.f
  rw [in_eq]
  simp only [Option.bind_some]
  rw [decide_eq_true h, if_pos rfl]
  have e0 : IntKind.u64.wrap (x : Int) = (x : Int) := u64_id (by omega)
  have s1 : (x : Int) / 2 ^ min (1 : Int).toNat IntKind.u64.bits = ((x / 2 : Nat) : Int) := rfl
  have q1 : Go.bits .and .u64 ((x / 2 : Nat) : Int) 6148914691236517205 = ((x / 2 &&& 6148914691236517205 : Nat) : Int) := and_u64 (b := 6148914691236517205) (by omega) (by decide)
  have q2 : Go.bits .and .u64 (x : Int) 6148914691236517205 = ((x &&& 6148914691236517205 : Nat) : Int) := and_u64 (b := 6148914691236517205) (by omega) (by decide)
  have l1 := land_le (x / 2) 6148914691236517205
  have l2 := land_le x 6148914691236517205
  obtain ⟨g, hg⟩ : ∃ g, g1 6148914691236517205 x = g := ⟨_, rfl⟩
  have hgb : g ≤ 2000000 := by rw [← hg]; unfold g1; omega
  have e1 : IntKind.u64.wrap (Go.bits .and .u64 ((x : Int) / 2 ^ min (1 : Int).toNat IntKind.u64.bits) 6148914691236517205 + Go.bits .and .u64 (x : Int) 6148914691236517205) = (g : Int) := by
    rw [s1, q1, q2, ← Int.natCast_add, show (x / 2 &&& 6148914691236517205) + (x &&& 6148914691236517205) = g from hg]
    exact u64_id (by omega)
  have s2 : (g : Int) / 2 ^ min (2 : Int).toNat IntKind.u64.bits = ((g / 4 : Nat) : Int) := rfl
  have q3 : Go.bits .and .u64 ((g / 4 : Nat) : Int) 3689348814741910323 = ((g / 4 &&& 3689348814741910323 : Nat) : Int) := and_u64 (b := 3689348814741910323) (by omega) (by decide)
  have q4 : Go.bits .and .u64 (g : Int) 3689348814741910323 = ((g &&& 3689348814741910323 : Nat) : Int) := and_u64 (b := 3689348814741910323) (by omega) (by decide)
  have l3 := land_le (g / 4) 3689348814741910323
  have l4 := land_le g 3689348814741910323
  obtain ⟨u, hu⟩ : ∃ u, g2 3689348814741910323 g = u := ⟨_, rfl⟩
  have hub : u ≤ 4000000 := by rw [← hu]; unfold g2; omega
  have e2 : IntKind.u64.wrap (Go.bits .and .u64 ((g : Int) / 2 ^ min (2 : Int).toNat IntKind.u64.bits) 3689348814741910323 + Go.bits .and .u64 (g : Int) 3689348814741910323) = (u : Int) := by
    rw [s2, q3, q4, ← Int.natCast_add, show (g / 4 &&& 3689348814741910323) + (g &&& 3689348814741910323) = u from hu]
    exact u64_id (by omega)
  have s3 : (u : Int) / 2 ^ min (4 : Int).toNat IntKind.u64.bits = ((u / 16 : Nat) : Int) := rfl
  have e3a : IntKind.u64.wrap ((u : Int) / 2 ^ min (4 : Int).toNat IntKind.u64.bits + (u : Int)) = ((u / 16 + u : Nat) : Int) := by
    rw [s3, ← Int.natCast_add]
    exact u64_id (by omega)
  obtain ⟨s, hs⟩ : ∃ s, g3 1085102592571150095 u = s := ⟨_, rfl⟩
  have e3 : Go.bits .and .u64 (IntKind.u64.wrap ((u : Int) / 2 ^ min (4 : Int).toNat IntKind.u64.bits + (u : Int))) 1085102592571150095 = (s : Int) := by
    rw [e3a, show (s : Int) = ((u / 16 + u &&& 1085102592571150095 : Nat) : Int) by rw [← hs]; rfl]
    exact and_u64 (b := 1085102592571150095) (by omega) (by decide)
  -- the bytes
  obtain ⟨a, b, c, hx, ha, hb, hc⟩ : ∃ a b c : Nat, x = a + 256 * (b + 256 * c) ∧ a < 256 ∧ b < 256 ∧ c < 16 := ⟨x % 256, x / 256 % 256, x / 65536, by omega, by omega, by omega, by omega⟩
  have h3 := three a b c ha hb (by omega)
  rw [← hx, hg, hu, hs] at h3
  have da := ds_le 8 a
  have db := ds_le 8 b
  have dc := ds_le 8 c
  have s4 : (s : Int) / 2 ^ min (8 : Int).toNat IntKind.u64.bits = ((s / 256 : Nat) : Int) := rfl
  obtain ⟨t, ht⟩ : ∃ t, s + s / 256 = t := ⟨_, rfl⟩
  have e4 : IntKind.u64.wrap ((s : Int) + (s : Int) / 2 ^ min (8 : Int).toNat IntKind.u64.bits) = (t : Int) := by
    rw [s4, ← Int.natCast_add, ht]
    exact u64_id (by omega)
  have s5 : (t : Int) / 2 ^ min (16 : Int).toNat IntKind.u64.bits = ((t / 65536 : Nat) : Int) := rfl
  obtain ⟨v, hv⟩ : ∃ v, t + t / 65536 = v := ⟨_, rfl⟩
  have e5 : IntKind.u64.wrap ((t : Int) + (t : Int) / 2 ^ min (16 : Int).toNat IntKind.u64.bits) = (v : Int) := by
    rw [s5, ← Int.natCast_add, hv]
    exact u64_id (by omega)
  have s6 : (v : Int) / 2 ^ min (32 : Int).toNat IntKind.u64.bits = ((v / 4294967296 : Nat) : Int) := rfl
  have hv32 : v / 4294967296 = 0 := by omega
  have e6 : IntKind.u64.wrap ((v : Int) + (v : Int) / 2 ^ min (32 : Int).toNat IntKind.u64.bits) = (v : Int) := by
    rw [s6, hv32]
    exact u64_id (by omega)
  have e7 : Go.bits .and .i64 (w64 (v : Int)) 127 = ((v % 128 : Nat) : Int) := by
    rw [zay (by omega)]
    have := bits_mask .i64 62 (by decide) (fun n h0 h1 => zay (by omega)) 7 (by omega) (v : Int) (by omega) (by omega)
    simpa using this
  have hds : ds 20 x = ds 8 a + (ds 8 b + ds 8 c) := by
    rw [show (20 : Nat) = 8 + 12 by omega, ds_add 8 12 x, ← ds_mod 8 x, show (12 : Nat) = 8 + 4 by omega, ds_add 8 4 (x / 2 ^ 8), ← ds_mod 8 (x / 2 ^ 8)]
    have x1 : x % 2 ^ 8 = a := by omega
    have x2 : x / 2 ^ 8 % 2 ^ 8 = b := by omega
    have x3 : x / 2 ^ 8 / 2 ^ 8 = c := by omega
    rw [x1, x2, x3, ← ds_cut 4 8 c (by omega) (by omega)]
  have hfin : v % 128 = ds 20 x := (fin_sum da db dc h3 ht hv).trans hds.symm
  rw [e0, e1, e2, e3, e4, e5, e6, e7, hfin]
  rfl
end Go.Proofs.Ytiaohjciddbpoaa.Pure
