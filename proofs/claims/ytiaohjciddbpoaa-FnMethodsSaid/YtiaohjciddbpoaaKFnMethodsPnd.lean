/- Pure: Pex, Pwv, Pwb, Pwd, Prt. -/
import Derived.Test.YtiaohjciddbpoaaKFnMethodsPnc
set_option linter.unusedVariables false
set_option linter.unusedSimpArgs false
namespace Go.Proofs.Ytiaohjciddbpoaa.Pure
open Go.RowKit Go.Proofs.Ytiaohjciddbpoaa.E Go.Proofs.Ytiaohjciddbpoaa.M5 Go.Proofs.Ytiaohjciddbpoaa.Frame Go.Proofs.Ytiaohjciddbpoaa.Hand Go.Proofs.YtiaohjciddbpoaaW.PrintLast Go.Proofs.YtiaohjciddbpoaaW.PrintMore
open Go.Proofs.YtiaohjciddbpoaaW.PrintWords hiding mn mx
/-- The exponent of a value. -/
def ex (l : List SStep) (v : Int) : Int := rg (vl l [1]) v
theorem ex_len (l : List SStep) : (vl l [1]).length = 1 + l.length := by rw [vl_len]; rfl
theorem ex_snoc (l : List SStep) (y : SStep) : vl (l ++ [y]) [1] = vl l [1] ++ [ex l y.f0 + ex l y.f1] := by
 rw [vl_append]
 rfl
theorem ex_old (p : List SStep × Int) (b : Int) {u : Int} (h0 : 0 ≤ u) (h1 : u ≤ (p.1.length : Int)) : ex (mulS p b).1 u = ex p.1 u := by
 unfold ex mulS
 show rg (vl (p.1 ++ [_]) [1]) u = _
 rw [ex_snoc, rg_app h0 (by rw [ex_len]; omega)]
theorem ex_mul (p : List SStep × Int) (b : Int) : ex (mulS p b).1 (mulS p b).2 = ex p.1 p.2 + ex p.1 b := by
 show rg (vl (p.1 ++ [⟨mn p.2 b, mx p.2 b⟩]) [1]) (1 + (p.1.length : Int)) = _
 rw [ex_snoc, rg_new (by rw [ex_len]; omega)]
 exact add_mnmx (f := ex p.1) p.2 b
theorem ex_sqo (n : Nat) (p : List SStep × Int) {u : Int} (h0 : 0 ≤ u) (h1 : u ≤ (p.1.length : Int)) : ex (sqn n p).1 u = ex p.1 u := by
 induction n generalizing p with
 | zero => rfl
 | succ n ih => rw [sqn, ih _ (by rw [mulS_len]; omega), ex_old p p.2 h0 h1]
theorem ex_sq (n : Nat) (p : List SStep × Int) : ex (sqn n p).1 (sqn n p).2 = 2 ^ n * ex p.1 p.2 := by
 induction n generalizing p with
 | zero => simp [sqn]
 | succ n ih =>
  rw [sqn, ih, ex_mul, Int.pow_succ]
  rw [Int.mul_assoc]
  congr 1
  omega
/-! windows of digits -/
theorem ex_pw (T : Nat) : ∀ j : Nat, j ≤ T → ex (pwS T) (j : Int) = (j : Int) + 1 := by
 induction T with
 | zero =>
  intro j hj
  obtain rfl : j = 0 := by omega
  rfl
 | succ T ih =>
  intro j hj
  have e : pwS (T + 1) = (mulS (pwS T, (T : Int)) 0).1 := (pwS_succ T).symm
  by_cases c : j ≤ T
  ·rw [e, ex_old _ _ (by omega) (by show (j : Int) ≤ ((pwS T).length : Int); rw [pwS_len]; omega)]
   exact ih j c
  ·obtain rfl : j = T + 1 := by omega
   have h := ex_mul (pwS T, (T : Int)) 0
   have e2 : (mulS (pwS T, (T : Int)) 0).2 = ((T + 1 : Nat) : Int) := by
    show 1 + ((pwS T).length : Int) = _
    rw [pwS_len]
    omega
   rw [e2] at h
   rw [e, h]
   show ex (pwS T) (T : Int) + ex (pwS T) 0 = _
   have h0 := ih 0 (by omega)
   rw [ih T (Nat.le_refl _)]
   rw [show ((0 : Nat) : Int) = 0 from rfl] at h0
   rw [h0]
   omega
def PwO (T : Nat) (p : List SStep × Int) : Prop := T ≤ p.1.length ∧ ∀ j : Nat, j ≤ T → ex p.1 (j : Int) = (j : Int) + 1
theorem ex_wr {T : Nat} (n : Nat) {p : List SStep × Int} (h : PwO T p) {d : Int} (h0 : 0 ≤ d) (h1 : d ≤ (T : Int) + 1) : PwO T (wr n p d) ∧ ex (wr n p d).1 (wr n p d).2 = 2 ^ n * ex p.1 p.2 + d := by
 obtain ⟨a1, a2⟩ := h
 have hs := sqn_len n p
 unfold wr
 by_cases c : 0 < d
 ·rw [if_pos c]
  refine ⟨⟨by rw [mulS_len]; omega, fun j hj => by rw [ex_old _ _ (by omega) (by omega), ex_sqo n p (by omega) (by omega)]; exact a2 j hj⟩, ?_⟩
  rw [ex_mul, ex_sq, ex_sqo n p (by omega) (by omega)]
  have := a2 (d - 1).toNat (by omega)
  rw [show (((d - 1).toNat : Nat) : Int) = d - 1 by omega] at this
  rw [this]
  omega
 ·rw [if_neg c]
  refine ⟨⟨by omega, fun j hj => by rw [ex_sqo n p (by omega) (by omega)]; exact a2 j hj⟩, ?_⟩
  rw [ex_sq]
  omega
theorem ex_wrs {T : Nat} (n : Nat) (xs : List Int) (hx : ∀ x ∈ xs, 0 ≤ x ∧ x ≤ (T : Int) + 1) {p : List SStep × Int} (h : PwO T p) : ex (xs.foldl (wr n) p).1 (xs.foldl (wr n) p).2 = xs.foldl (fun e d => 2 ^ n * e + d) (ex p.1 p.2) := by
 induction xs generalizing p with
 | nil => rfl
 | cons x xs ih =>
  have q := hx x List.mem_cons_self
  obtain ⟨h1, h2⟩ := ex_wr n h q.1 q.2
  rw [List.foldl_cons, List.foldl_cons, ih (fun y hy => hx y (List.mem_cons_of_mem _ hy)) h1, h2]
theorem dgs_val (b : Nat) (f y : Nat) (hy : y < b ^ f) (hb : 1 ≤ b) : (dgs b f y).reverse.foldl (fun (e : Int) d => (b : Int) * e + d) 0 = (y : Int) := by
 induction f generalizing y with
 | zero =>
  obtain rfl : y = 0 := by simpa using hy
  rfl
 | succ f ih =>
  simp only [dgs]
  by_cases c : y = 0
  ·rw [if_pos c, c]
   rfl
  ·rw [if_neg c, List.reverse_cons, List.foldl_append, ih (y / b) (Nat.div_lt_of_lt_mul (by rw [Nat.pow_succ] at hy; rwa [Nat.mul_comm]))]
   simp only [List.foldl_cons, List.foldl_nil]
   have := Nat.div_add_mod y b
   have h2 : ((b * (y / b) + y % b : Nat) : Int) = (y : Int) := by rw [this]
   rw [Int.natCast_add, Int.natCast_mul] at h2
   exact h2
theorem ex_window {n T f x : Nat} {R : List Int} {z : Int} (hD : dgs (2 ^ n) f x = R ++ [z]) (hx : x < (2 ^ n) ^ f) (hz : 1 ≤ z ∧ z ≤ (T : Int) + 1) (hR : ∀ y ∈ R, 0 ≤ y ∧ y ≤ (T : Int) + 1) : ex (R.reverse.foldl (wr n) (pwS T, z - 1)).1 (R.reverse.foldl (wr n) (pwS T, z - 1)).2 = (x : Int) := by
 have h0 : PwO T (pwS T, z - 1) := ⟨by show T ≤ (pwS T).length; rw [pwS_len]; exact Nat.le_refl _, ex_pw T⟩
 rw [ex_wrs n R.reverse (fun y hy => hR y (List.mem_reverse.1 hy)) h0]
 have h1 := dgs_val (2 ^ n) f x hx (Nat.two_pow_pos n)
 rw [hD, List.reverse_append, List.foldl_append] at h1
 have h2 := ex_pw T (z - 1).toNat (by omega)
 rw [show (((z - 1).toNat : Nat) : Int) = z - 1 by omega] at h2
 rw [show ex (pwS T, z - 1).1 (pwS T, z - 1).2 = z by show ex (pwS T) (z - 1) = z; rw [h2]; omega]
 rw [← h1]
 simp
/-! sliding windows -/
theorem ex_odd (T : Nat) : ex (oS T) 1 = 2 ∧ ∀ j : Nat, j ≤ T → ex (oS T) (vt j) = 2 * (j : Int) + 1 := by
 induction T with
 | zero =>
  refine ⟨rfl, fun j hj => ?_⟩
  obtain rfl : j = 0 := by omega
  rfl
 | succ T ih =>
  have e : oS (T + 1) = (mulS (oS T, vt T) 1).1 := by rw [mul_oS]
  have hl := oS_len T
  refine ⟨by rw [e, ex_old _ _ (by omega) (by show (1 : Int) ≤ ((oS T).length : Int); omega)]; exact ih.1, fun j hj => ?_⟩
  by_cases c : j ≤ T
  ·have hv := vt_in j
   rw [e, ex_old _ _ hv.1 (by show vt j ≤ ((oS T).length : Int); omega)]
   exact ih.2 j c
  ·obtain rfl : j = T + 1 := by omega
   have h := ex_mul (oS T, vt T) 1
   have e2 : (mulS (oS T, vt T) 1).2 = vt (T + 1) := by rw [mul_oS]; rfl
   rw [e2] at h
   rw [e, h]
   show ex (oS T) (vt T) + ex (oS T) 1 = _
   rw [ih.1, ih.2 T (Nat.le_refl _)]
   omega
def OdO (T : Nat) (p : List SStep × Int) : Prop := ∀ j : Nat, j ≤ T → vt j ≤ (p.1.length : Int) ∧ ex p.1 (vt j) = 2 * (j : Int) + 1
theorem ex_wd {T : Nat} {p : List SStep × Int} (h : OdO T p) {w : Swindow} (hw : WOk w) (h1 : w.f0 ≤ 2 * (T : Int) + 1) : OdO T (wd p w) ∧ ex (wd p w).1 (wd p w).2 = 2 ^ w.f1.toNat * ex p.1 p.2 + w.f0 := by
 have hs := sqn_len w.f1.toNat p
 unfold wd
 by_cases c : 0 < w.f0
 ·rw [if_pos c]
  refine ⟨fun j hj => ?_, ?_⟩
  ·have q := h j hj
   have hv := vt_in j
   refine ⟨by rw [mulS_len]; omega, ?_⟩
   rw [ex_old _ _ hv.1 (by omega), ex_sqo _ p hv.1 (by omega)]
   exact q.2
  ·obtain ⟨q, hq, _⟩ := hw.1.resolve_left (by omega)
   have := h q (by omega)
   have hv := vt_in q
   rw [ex_mul, ex_sq, hq, od_at, ex_sqo _ p hv.1 (by omega), this.2]
 ·rw [if_neg c]
  refine ⟨fun j hj => ?_, ?_⟩
  ·have q := h j hj
   have hv := vt_in j
   exact ⟨by omega, by rw [ex_sqo _ p hv.1 (by omega)]; exact q.2⟩
  ·rw [ex_sq]
   have : w.f0 = 0 := by
    rcases hw.1 with e | ⟨j, e, _⟩
    ·exact e
    ·omega
   omega
theorem ex_wds {T : Nat} (W : List Swindow) (hW : ∀ w ∈ W, WOk w ∧ w.f0 ≤ 2 * (T : Int) + 1) {p : List SStep × Int} (h : OdO T p) : ex (W.foldl wd p).1 (W.foldl wd p).2 = W.foldl (fun e w => 2 ^ w.f1.toNat * e + w.f0) (ex p.1 p.2) := by
 induction W generalizing p with
 | nil => rfl
 | cons w W ih =>
  have q := hW w List.mem_cons_self
  obtain ⟨h1, h2⟩ := ex_wd h q.1 q.2
  rw [List.foldl_cons, List.foldl_cons, ih (fun y hy => hW y (List.mem_cons_of_mem _ hy)) h1, h2]
theorem wl_val (x n : Nat) (hn : 1 ≤ n) : ∀ f m, m ≤ f → (wl x n f m).foldl (fun (e : Int) w => 2 ^ w.f1.toNat * e + w.f0) ((x / 2 ^ m : Nat) : Int) = (x : Int) := by
 intro f
 induction f with
 | zero =>
  intro m hm
  obtain rfl : m = 0 := by omega
  simp [wl]
 | succ f ih =>
  intro m hm
  cases m with
  | zero => simp [wl]
  | succ m =>
   simp only [wl]
   split
   ·rename_i hb
    rw [List.foldl_cons]
    have e : (2 : Int) ^ (1 : Int).toNat * ((x / 2 ^ (m + 1) : Nat) : Int) + 0 = ((x / 2 ^ m : Nat) : Int) := by
     have h1 : x / 2 ^ (m + 1) = x / 2 ^ m / 2 := by rw [Nat.div_div_eq_div_mul, Nat.pow_succ]
     rw [h1]
     show (2 : Int) ^ 1 * _ + 0 = _
     omega
    rw [e]
    exact ih m (by omega)
   ·have h1 := lw_le x (m - (m + 1 - n)) (m + 1 - n)
    obtain ⟨r, hr⟩ : ∃ r, lw x (m - (m + 1 - n)) (m + 1 - n) = r := ⟨_, rfl⟩
    rw [hr] at h1 ⊢
    rw [List.foldl_cons]
    have hrm : r ≤ m := by omega
    have e : (2 : Int) ^ (((m - r + 1 : Nat) : Int)).toNat * ((x / 2 ^ (m + 1) : Nat) : Int) + ((x / 2 ^ r % 2 ^ (m - r + 1) : Nat) : Int) = ((x / 2 ^ r : Nat) : Int) := by
     have h2 : x / 2 ^ (m + 1) = x / 2 ^ r / 2 ^ (m - r + 1) := by rw [Nat.div_div_eq_div_mul, ← Nat.pow_add, show r + (m - r + 1) = m + 1 by omega]
     rw [h2, Int.toNat_natCast]
     have h3 := Nat.div_add_mod (x / 2 ^ r) (2 ^ (m - r + 1))
     have h4 : ((2 ^ (m - r + 1) * (x / 2 ^ r / 2 ^ (m - r + 1)) + x / 2 ^ r % 2 ^ (m - r + 1) : Nat) : Int) = ((x / 2 ^ r : Nat) : Int) := by rw [h3]
     rw [Int.natCast_add, Int.natCast_mul, Int.natCast_pow] at h4
     exact h4
    rw [e]
    exact ih r (by omega)
theorem ex_sliding {n L x T : Nat} (hn : 1 ≤ n) {w : Swindow} {W : List Swindow} (hW : wl x n L L = w :: W) (hx : x < 2 ^ L) (hok : ∀ u ∈ w :: W, WOk u ∧ u.f0 ≤ 2 * (T : Int) + 1) {B : List SStep} {v : Int} (hB : OdO T (B, v)) (hv : ex B v = w.f0) : ex (W.foldl wd (B, v)).1 (W.foldl wd (B, v)).2 = (x : Int) := by
 rw [ex_wds W (fun u hu => hok u (List.mem_cons_of_mem _ hu)) hB]
 have h := wl_val x n hn L L (Nat.le_refl _)
 rw [hW, List.foldl_cons, Nat.div_eq_of_lt hx] at h
 show W.foldl _ (ex B v) = _
 rw [hv, ← h]
 simp
/-! plans that are kept are good -/
theorem ex_ge (l : List SStep) (v : Int) : 0 ≤ ex l v := rg_le0 (vl_ge (fun x hx => by rw [List.mem_singleton.1 hx]; decide)) v
theorem ex_step {l : List SStep} (h : Ok 1 l) {m : Nat} {y : SStep} (hm : l[m]? = some y) : ex l ((1 + m : Nat) : Int) = ex l y.f0 + ex l y.f1 := vl_at (l := [1]) h hm
theorem us_le {l : List SStep} {v : Int} (h : Ok 1 l) : ∀ (d : Nat) (u : Int), 0 ≤ u → ((1 + l.length : Nat) : Int) ≤ u + (d : Int) → us 1 l [v] u = true → ex l u ≤ ex l v := by
 intro d
 induction d with
 | zero =>
  intro u h0 hd hu
  rcases (us_iff h).1 hu with e | ⟨j, y, hj, _, hy⟩
  ·rw [List.mem_singleton.1 e]
   exact Int.le_refl _
  ·have q := h.at hj
   have := (List.getElem?_eq_some_iff.1 hj).1
   rcases hy with rfl | rfl <;> omega
 | succ d ih =>
  intro u h0 hd hu
  rcases (us_iff h).1 hu with e | ⟨j, y, hj, hu2, hy⟩
  ·rw [List.mem_singleton.1 e]
   exact Int.le_refl _
  ·have q := h.at hj
   have h1 := ih ((1 + j : Nat) : Int) (by omega) (by rcases hy with rfl | rfl <;> omega) hu2
   rw [ex_step h hj] at h1
   have g0 := ex_ge l y.f0
   have g1 := ex_ge l y.f1
   rcases hy with rfl | rfl <;> omega
theorem kept_goodW {l : List SStep} {v : Int} (h : Gd 1 l [v]) (hx : 1 ≤ ex l v ∧ ex l v ≤ 1000000) (hk : (kS 1 l [v]).length ≤ 40) : Good 1 (kS 1 l [v]) (kO 1 l [v]) := by
 have hc := us_cl (o := [v]) h.ok
 refine ⟨h.inp, hk, by unfold kO; rw [List.length_map]; exact h.out, ts_ok l h.ok hc, ?_, ?_⟩
 ·intro y hy
  obtain ⟨u, hu, rfl⟩ := List.mem_map.1 hy
  have q := h.os u hu
  exact ⟨pl_ge q.1, pl_in q.1 q.2 (.inr (us_out hu))⟩
 ·intro j hj w w0 w1
  obtain rfl : j = 0 := by omega
  unfold kS at w1
  rw [ts_len] at w1
  obtain ⟨u, u0, u1, u2, rfl⟩ := ts_onto l w w0 w1
  have := ts_vl (unitR 1 0) (unitR_len 1 0) l h.ok hc u u0 u1 u2
  unfold kS
  rw [this]
  show ex l u ≤ _
  rcases u2 with u2 | u2
  ·obtain rfl : u = 0 := by omega
   have e : ex l 0 = 1 := vl_pre l [1] (by omega) (by simp)
   rw [e]
   omega
  ·exact Int.le_trans (us_le h.ok (1 + l.length) u u0 (by omega) u2) hx.2
theorem ex_kept {l : List SStep} {v : Int} (h : Gd 1 l [v]) : ex (kS 1 l [v]) (pl 1 (us 1 l [v]) v) = ex l v := by
 have q := h.os v (by simp)
 exact ts_vl (unitR 1 0) (unitR_len 1 0) l h.ok (us_cl h.ok) v q.1 q.2 (.inr (us_out (by simp)))
/-- The one exponent of a plan with one output. -/
theorem pw_one {s : List SStep} {v : Int} (h : Good 1 s [v]) : pw 1 s [v] = [[ex s v]] := by
 have q := h.os v (by simp)
 obtain ⟨h1, h2⟩ := good_row h q.1 q.2
 unfold pw
 rw [List.map_cons, List.map_nil]
 congr 1
 obtain ⟨r, hr⟩ : ∃ r, (exps 1 s).getD v.toNat [] = r := ⟨_, rfl⟩
 rw [hr] at h1 h2 ⊢
 match r, h1 with
 | [a], _ =>
  have := h2 0 (by omega)
  have e : a = rg (vl s (unitR 1 0)) v := this
  rw [e]
  rfl
/-! the binary method -/
def bn (p : List SStep × Int) (d : Int) : List SStep × Int := if d = 1 then mulS (sqn 1 p) 0 else sqn 1 p
def bin (x : Nat) : List SStep × Int := ((digs (Lib.bitLen x) x).take (Lib.bitLen x - 1)).reverse.foldl bn ([], 0)
theorem dgs_digs : ∀ (d y f : Nat), Lib.bitLen y = d → d ≤ f → y < 2 ^ 62 → dgs 2 f y = digs d y := by
 intro d
 induction d with
 | zero =>
  intro y f h hf hy
  obtain rfl := bitLen_none hy h
  cases f <;> rfl
 | succ d ih =>
  intro y f h hf hy
  have h0 : y ≠ 0 := fun c => by rw [c, bitLen_zero] at h; omega
  have h1 := bitLen_pos h0 (by omega)
  obtain ⟨g, rfl⟩ : ∃ g, f = g + 1 := ⟨f - 1, by omega⟩
  simp only [dgs, digs]
  rw [if_neg h0, ih (y / 2) g (by omega) (by omega) (by omega)]
theorem digs_01 (d y : Nat) : ∀ x ∈ digs d y, x = 0 ∨ x = 1 := by
 induction d generalizing y with
 | zero => exact fun x hx => nomatch hx
 | succ d ih =>
  intro x hx
  rcases List.mem_cons.1 hx with rfl | hx
  ·omega
  ·exact ih _ x hx
theorem wr_bn (p : List SStep × Int) {d : Int} (h : d = 0 ∨ d = 1) : wr 1 p d = bn p d := by
 unfold wr bn
 rcases h with rfl | rfl
 ·rfl
 ·rfl
theorem foldl_congr {α β : Type} {f g : β → α → β} : ∀ (xs : List α) (b : β), (∀ b x, x ∈ xs → f b x = g b x) → xs.foldl f b = xs.foldl g b
 | [], _, _ => rfl
 | x :: xs, b, h => by
  rw [List.foldl_cons, List.foldl_cons, h b x List.mem_cons_self]
  exact foldl_congr xs _ (fun b y hy => h b y (List.mem_cons_of_mem _ hy))
theorem wd_zero (p : List SStep × Int) : wd p ⟨0, 1⟩ = sqn 1 p := rfl
theorem wd_one (p : List SStep × Int) : wd p ⟨1, 1⟩ = mulS (sqn 1 p) 0 := rfl
theorem wl_bn (x L : Nat) : ∀ (f m : Nat) (p : List SStep × Int), m ≤ f → m ≤ L → (wl x 1 f m).foldl wd p = ((digs L x).take m).reverse.foldl bn p := by
 intro f
 induction f with
 | zero =>
  intro m p hf hm
  obtain rfl : m = 0 := by omega
  rfl
 | succ f ih =>
  intro m p hf hm
  cases m with
  | zero => rfl
  | succ m =>
   have hml : m < (digs L x).length := by rw [zau]; omega
   have e1 : ((digs L x).take (m + 1)).reverse = (digs L x)[m] :: ((digs L x).take m).reverse := by
    rw [List.take_add_one, List.getElem?_eq_getElem hml]
    simp
   rw [e1, List.foldl_cons, digs_get L x m (by omega)]
   simp only [wl]
   by_cases hb : x / 2 ^ m % 2 = 0
   ·rw [if_pos hb, List.foldl_cons, wd_zero, ih m _ (by omega) (by omega)]
    congr 1
    unfold bn
    rw [if_neg (by omega)]
   ·have e2 : lw x (m - (m + 1 - 1)) (m + 1 - 1) = m := by
     rw [show m - (m + 1 - 1) = 0 by omega]
     simp [lw]
    rw [if_neg hb, e2, List.foldl_cons]
    have e3 : x / 2 ^ m % 2 = 1 := by omega
    have e4 : (⟨((x / 2 ^ m % 2 ^ (m - m + 1) : Nat) : Int), ((m - m + 1 : Nat) : Int)⟩ : Swindow) = ⟨1, 1⟩ := by
     rw [Nat.sub_self]
     show (⟨((x / 2 ^ m % 2 : Nat) : Int), 1⟩ : Swindow) = _
     rw [e3]
     rfl
    rw [e4, wd_one, ih m _ (by omega) (by omega)]
    congr 1
    unfold bn
    rw [if_pos (by omega)]
theorem wl_01 (x : Nat) : ∀ f m, ∀ w ∈ wl x 1 f m, w.f0 ≤ 1 := by
 intro f
 induction f with
 | zero => exact fun m w hw => nomatch hw
 | succ f ih =>
  intro m w hw
  cases m with
  | zero => exact nomatch hw
  | succ m =>
   simp only [wl] at hw
   split at hw
   ·rcases List.mem_cons.1 hw with rfl | hw
    ·decide
    ·exact ih m w hw
   ·have e2 : lw x (m - (m + 1 - 1)) (m + 1 - 1) = m := by
     rw [show m - (m + 1 - 1) = 0 by omega]
     simp [lw]
    rw [e2] at hw
    rcases List.mem_cons.1 hw with rfl | hw
    ·show ((x / 2 ^ m % 2 ^ (m - m + 1) : Nat) : Int) ≤ 1
     rw [Nat.sub_self]
     have := Nat.mod_lt (x / 2 ^ m) (show 0 < 2 ^ (0 + 1) by decide)
     have e : (2 : Nat) ^ (0 + 1) = 2 := rfl
     rw [e] at this ⊢
     omega
    ·exact ih m w hw
theorem wl_tail (x d : Nat) (hd : Lib.bitLen x = d + 1) (hx : x < 2 ^ 62) {w : Swindow} {W : List Swindow} (h : wl x 1 (d + 1) (d + 1) = w :: W) : W = wl x 1 d d := by
 have hb := top_bit d x hd hx
 simp only [wl] at h
 have e2 : lw x (d - (d + 1 - 1)) (d + 1 - 1) = d := by
  rw [show d - (d + 1 - 1) = 0 by omega]
  simp [lw]
 rw [if_neg hb, e2] at h
 injection h with _ h2
 exact h2.symm
theorem digs_snoc {L x : Nat} {R : List Int} {z : Int} (h : digs L x = R ++ [z]) : R = (digs L x).take (L - 1) := by
 have hl := congrArg List.length h
 rw [zau, List.length_append, List.length_singleton] at hl
 rw [h, List.take_left' (by omega)]
theorem wide_ok3 (n : Nat) (h : 1 ≤ n ∧ n ≤ 5) : IntKind.i64.wrap (1 * 2 ^ min ((n : Nat) : Int).toNat IntKind.i64.bits) = ((2 ^ n : Nat) : Int) ∧ ∃ L, 1000000 < (2 ^ n) ^ L ∧ L ≤ 20 ∧ 2 ^ n + n * L + L ≤ 100 ∧ (2 ≤ n ∧ n ≤ 3 → 2 ^ n + n * L + L ≤ 40) := by
 obtain ⟨h1, h2⟩ := h
 obtain rfl | rfl | rfl | rfl | rfl : n = 1 ∨ n = 2 ∨ n = 3 ∨ n = 4 ∨ n = 5 := by omega
 ·exact ⟨by decide, 20, by decide, by decide, by decide, by decide⟩
 ·exact ⟨by decide, 10, by decide, by decide, by decide, by decide⟩
 ·exact ⟨by decide, 7, by decide, by decide, by decide, by decide⟩
 ·exact ⟨by decide, 5, by decide, by decide, by decide, by decide⟩
 ·exact ⟨by decide, 4, by decide, by decide, by decide, by decide⟩
theorem window_res (x n : Nat) (h0 : 1 ≤ (x : Int) ∧ (x : Int) ≤ 1000000) (h1 : 1 ≤ (n : Int) ∧ (n : Int) ≤ 5) : ∃ l v, Gd 1 l [v] ∧ ex l v = (x : Int) ∧ (n = 1 → (l, v) = bin x) ∧ (2 ≤ n ∧ n ≤ 3 → l.length ≤ 40) ∧ Ev (fun k => impl_WindowPlan.f k (x : Int) (n : Int)) (toldP 1 (kS 1 l [v]) (kO 1 l [v])) ∧ Ev (fun k => spec_meWindow.f k (x : Int) (n : Int)) (kS 1 l [v], kO 1 l [v]) := by
 unfold impl_WindowPlan.f impl_windowOk.f impl_isNumber.f
 rw [in_eq, in_eq]
 simp only [Option.bind_some]
 rw [decide_eq_true h0, decide_eq_true h1]
 obtain ⟨hw, L, hL1, hL2, hL3, hL4⟩ := wide_ok3 n (by omega)
 have hb : 2 ≤ 2 ^ n := by
  have : 2 ^ 1 ≤ 2 ^ n := Nat.pow_le_pow_right (by omega) (by omega)
  simpa using this
 have hxL : x < (2 ^ n) ^ L := by omega
 have d1 := dgs_spec (2 ^ n) hb L x [] hxL (by omega) (by simp; omega)
 have d2 := dgs_impl (2 ^ n) hb L x [] hxL (by omega) (by simp; omega)
 rw [List.nil_append] at d1 d2
 have dl := dgs_len (2 ^ n) L x
 have di := dgs_in (b := 2 ^ n) (by omega) L x
 obtain ⟨R, z, hD, hz⟩ := dgs_last hb L x (by omega) hxL
 rw [hD] at d1 d2 dl di
 rw [List.length_append, List.length_singleton] at dl
 obtain ⟨hM0, hge⟩ := fmx_ge (R ++ [z]) 0
 have hle := fmx_le (c := ((2 ^ n : Nat) : Int) - 1) (R ++ [z]) 0 (by omega) (fun y hy => by have := (di y hy).2; omega)
 have hg := great_eq (R ++ [z])
 have hm := smax_ev (R ++ [z]) (by simp; omega) (fun y hy => (di y hy).1)
 obtain ⟨M, hM⟩ : ∃ M, (R ++ [z]).foldl mx 0 = M := ⟨_, rfl⟩
 rw [hM] at hM0 hge hle hg hm
 have hM1 : 1 ≤ M := by have := hge z (by simp); omega
 obtain ⟨T, hT⟩ : ∃ T : Nat, M = (T : Int) + 1 := ⟨(M - 1).toNat, by omega⟩
 have hTb : T ≤ 100 := by omega
 have p1 := pw_impl (R ++ [z]) M T hm (by omega) (fun _ => hT) (by omega) T 0 0 (by omega)
 have p2 := pw_spec (R ++ [z]) M T hg (by omega) (fun _ => hT) (by omega) T 0 (by omega)
 have hxR : ∀ y ∈ R, 0 ≤ y ∧ y ≤ (T : Int) + 1 := fun y hy => ⟨(di y (by simp [hy])).1, by have := hge y (by simp [hy]); omega⟩
 have hzT : z ≤ (T : Int) + 1 := by have := hge z (by simp); omega
 have hmul : (n + 1) * R.length ≤ 100 := by
  have : (n + 1) * R.length ≤ (n + 1) * L := Nat.mul_le_mul_left _ (by omega)
  have e : (n + 1) * L = n * L + L := by rw [Nat.add_mul, Nat.one_mul]
  omega
 have r1 := rounds_impl n T (by omega) R (by omega) (fun y hy => by have := (hxR y hy).2; omega) (pwS T) (z - 1) (by rw [pwS_len]; omega)
 have r2 := rounds_spec n (by omega) R z (by omega) (fun y hy => by have := hxR y hy; omega) R.length 0 (pwS T) (z - 1) (Nat.le_refl _) (by rw [pwS_len]; omega)
 rw [List.take_length] at r2
 have hMk : Mk T (pwS T, z - 1) := ⟨pwS_ok T, by show T ≤ (pwS T).length; rw [pwS_len]; exact Nat.le_refl _, by show 0 ≤ z - 1; omega, by show z - 1 ≤ ((pwS T).length : Int); rw [pwS_len]; omega⟩
 obtain ⟨hk, hkl⟩ := Mk.all n R.reverse (fun y hy => (hxR y (List.mem_reverse.1 hy)).2) hMk
 obtain ⟨S, hS⟩ : ∃ S, R.reverse.foldl (wr n) (pwS T, z - 1) = S := ⟨_, rfl⟩
 rw [hS] at r1 r2 hk hkl
 have hex : ex S.1 S.2 = (x : Int) := by
  rw [← hS]
  exact ex_window hD hxL ⟨hz, hzT⟩ hxR
 have hbin : n = 1 → S = bin x := fun hn => by
  subst hn
  have hbl := Lib.bitLen_le x L (by omega) (by simpa using hxL)
  have hdd := dgs_digs (Lib.bitLen x) x L rfl hbl (by omega)
  have hD' : digs (Lib.bitLen x) x = R ++ [z] := by rw [← hdd]; exact hD
  have h01 := digs_01 (Lib.bitLen x) x
  rw [hD'] at h01
  have hz1 : z = 1 := by rcases h01 z (by simp) with e | e <;> omega
  have hM1' : M ≤ 1 := by
   rw [← hM]
   exact fmx_le (R ++ [z]) 0 (by omega) (fun y hy => by rcases h01 y hy with e | e <;> omega)
  obtain rfl : T = 0 := by omega
  rw [← hS, hz1, digs_snoc hD']
  unfold bin
  exact foldl_congr _ _ (fun p d hd => wr_bn p (digs_01 _ _ d (List.mem_of_mem_take (List.mem_reverse.1 hd))))
 obtain ⟨l, v⟩ := S
 have hlb : l.length ≤ 200 := by
  have : l.length ≤ (pwS T).length + (n + 1) * R.reverse.length := hkl
  rw [pwS_len, List.length_reverse] at this
  omega
 have h40 : 2 ≤ n ∧ n ≤ 3 → l.length ≤ 40 := fun hn => by
  have h4 := hL4 hn
  have h5 : l.length ≤ (pwS T).length + (n + 1) * R.reverse.length := hkl
  rw [pwS_len, List.length_reverse] at h5
  have h6 : (n + 1) * R.length ≤ (n + 1) * L := Nat.mul_le_mul_left _ (by omega)
  have h7 : (n + 1) * L = n * L + L := by rw [Nat.add_mul, Nat.one_mul]
  omega
 obtain ⟨k1, k2, k3, k4⟩ := hk
 have hgd : Gd 1 l [v] := ⟨by omega, hlb, by simp, k1, fun y hy => by
  rw [List.mem_singleton.1 hy]
  simp only at k3 k4
  omega⟩
 have t1 := trimmed_eqW hgd
 have t2 := plUsed_evW hgd
 have t3 := plKeep_eqW hgd
 have c1 := plIf_ev 1 (kS 1 l [v]) (kO 1 l [v])
 have c2 := told_ev 1 (kS 1 l [v]) (kO 1 l [v])
 have hnn : nn ((n : Nat) : Int) = some () := by
  unfold nn
  rw [if_pos (by omega)]
 have hlast : gt (R ++ [z]) (w64 (((R ++ [z]).length : Int) - 1)) = some z := by
  rw [List.length_append, List.length_singleton, zam (by omega), show ((R.length + 1 : Nat) : Int) - 1 = (R.length : Int) by omega, gt_nat (by simp)]
  simp
 have hct : ct (R ++ [z]) (0 : Int) (w64 (((R ++ [z]).length : Int) - 1)) = some R := by
  rw [List.length_append, List.length_singleton, zam (by omega), show ((R.length + 1 : Nat) : Int) - 1 = (R.length : Int) by omega, ct_take _ _ (by simp)]
  simp
 have hpz : gt (pwL T) z = some (z - 1) := by
  obtain ⟨u, rfl⟩ := Int.eq_ofNat_of_zero_le (show 0 ≤ z by omega)
  exact pwL_gt T u (by omega)
 rw [hw]
 have hme : Ev (fun k => spec_meWindow.f k (x : Int) (n : Int)) (kS 1 l [v], kO 1 l [v]) := by
  unfold spec_meWindow.f spec_meTrim.f
  rw [hw]
  refine bind0 hnn (bind (a := R ++ [z]) ?_ (bind p2 (bind0 hlast (bind (a := (l, [], v)) ?_ (bind0 rfl (bind (a := (kS 1 l [v], kO 1 l [v])) (bind t2 (bind0 t3 (ret _))) (ret _)))))))
  ·unfold spec_meDigits.f
   exact bind d1 (ret _)
  ·rw [zam (x := z - 1) (by omega), List.length_append, List.length_singleton, zam (by omega), show ((R.length + 1 : Nat) : Int) - 2 = (R.length : Int) - 1 by omega]
   exact r2
 refine ⟨l, v, hgd, hex, hbin, h40, ?_, hme⟩
 ·refine bind0 rfl (pos rfl (bind (a := R ++ [z]) ?_ (bind p1 (bind0 hlast (bind0 hpz (bind0 hct (bind0 rfl (bind0 r1 (bind0 rfl (bind0 t1 (bind c2 (ret _))))))))))))
  refine bind0 rfl (bind0 hnn (bind (a := R ++ [z]) ?_ (ret _)))
  unfold impl_digits.f
  exact bind d2 (ret _)
/-! how many steps sliding windows take -/
def cst (w : Swindow) : Nat := w.f1.toNat + (if 0 < w.f0 then 1 else 0)
def costW (W : List Swindow) : Nat := (W.map cst).sum
def spanW (W : List Swindow) : Nat := (W.map fun w => w.f1.toNat).sum
theorem wd_cost (p : List SStep × Int) (w : Swindow) : (wd p w).1.length = p.1.length + cst w := by
 have := sqn_len w.f1.toNat p
 unfold wd cst
 split
 ·rw [mulS_len]; omega
 ·omega
theorem wds_cost (W : List Swindow) (p : List SStep × Int) : (W.foldl wd p).1.length = p.1.length + costW W := by
 induction W generalizing p with
 | nil => rfl
 | cons w W ih =>
  have e : costW (w :: W) = cst w + costW W := by unfold costW; rw [List.map_cons, List.sum_cons]
  rw [List.foldl_cons, ih, wd_cost, e]
  omega
theorem cost_le : ∀ W : List Swindow, (∀ w ∈ W, 1 ≤ w.f1.toNat) → costW W ≤ 2 * spanW W
 | [], _ => Nat.le_refl _
 | w :: W, h => by
  have ih := cost_le W (fun u hu => h u (List.mem_cons_of_mem _ hu))
  have h0 := h w List.mem_cons_self
  have e : costW (w :: W) = cst w + costW W := by unfold costW; rw [List.map_cons, List.sum_cons]
  have e2 : spanW (w :: W) = w.f1.toNat + spanW W := by unfold spanW; rw [List.map_cons, List.sum_cons]
  have e3 : cst w ≤ w.f1.toNat + 1 := by unfold cst; split <;> omega
  omega
theorem cost_one : ∀ W : List Swindow, (∀ w ∈ W, 1 ≤ w.f1.toNat) → ∀ u ∈ W, costW W + u.f1.toNat ≤ 2 * spanW W + 1
 | [], _, u, hu => nomatch hu
 | w :: W, h, u, hu => by
  have h0 := h w List.mem_cons_self
  have e : costW (w :: W) = cst w + costW W := by unfold costW; rw [List.map_cons, List.sum_cons]
  have e2 : spanW (w :: W) = w.f1.toNat + spanW W := by unfold spanW; rw [List.map_cons, List.sum_cons]
  have e3 : cst w ≤ w.f1.toNat + 1 := by unfold cst; split <;> omega
  rcases List.mem_cons.1 hu with rfl | hu
  ·have := cost_le W (fun u hu => h u (List.mem_cons_of_mem _ hu))
   omega
  ·have := cost_one W (fun u hu => h u (List.mem_cons_of_mem _ hu)) u hu
   omega
theorem wl_span (x n : Nat) (hn : 1 ≤ n) : ∀ f m, m ≤ f → spanW (wl x n f m) = m := by
 intro f
 induction f with
 | zero =>
  intro m hm
  obtain rfl : m = 0 := by omega
  rfl
 | succ f ih =>
  intro m hm
  cases m with
  | zero => rfl
  | succ m =>
   simp only [wl]
   split
   ·have h1 := ih m (by omega)
    unfold spanW at h1 ⊢
    rw [List.map_cons, List.sum_cons, h1]
    exact Nat.add_comm 1 m
   ·have h1 := lw_le x (m - (m + 1 - n)) (m + 1 - n)
    obtain ⟨r, hr⟩ : ∃ r, lw x (m - (m + 1 - n)) (m + 1 - n) = r := ⟨_, rfl⟩
    rw [hr] at h1 ⊢
    have h2 := ih r (by omega)
    unfold spanW at h2 ⊢
    rw [List.map_cons, List.sum_cons, h2, Int.toNat_natCast]
    omega
theorem wl_long (x n : Nat) : ∀ f m, ∀ w ∈ wl x n f m, w.f0 < 2 ^ w.f1.toNat := by
 intro f
 induction f with
 | zero => exact fun m w hw => nomatch hw
 | succ f ih =>
  intro m w hw
  cases m with
  | zero => exact nomatch hw
  | succ m =>
   simp only [wl] at hw
   split at hw
   ·rcases List.mem_cons.1 hw with rfl | hw
    ·decide
    ·exact ih m w hw
   ·obtain ⟨r, hr⟩ : ∃ r, lw x (m - (m + 1 - n)) (m + 1 - n) = r := ⟨_, rfl⟩
    rw [hr] at hw
    rcases List.mem_cons.1 hw with rfl | hw
    ·have h4 := Int.ofNat_lt.2 (Nat.mod_lt (x / 2 ^ r) (Nat.two_pow_pos (m - r + 1)))
     rw [Int.natCast_pow] at h4
     exact h4
    ·exact ih r w hw
theorem wl_short (x n : Nat) (hn : 1 ≤ n) : ∀ f m, ∀ w ∈ wl x n f m, w.f1.toNat ≤ n := by
 intro f
 induction f with
 | zero => exact fun m w hw => nomatch hw
 | succ f ih =>
  intro m w hw
  cases m with
  | zero => exact nomatch hw
  | succ m =>
   simp only [wl] at hw
   split at hw
   ·rcases List.mem_cons.1 hw with rfl | hw
    ·exact hn
    ·exact ih m w hw
   ·have h1 := lw_le x (m - (m + 1 - n)) (m + 1 - n)
    obtain ⟨r, hr⟩ : ∃ r, lw x (m - (m + 1 - n)) (m + 1 - n) = r := ⟨_, rfl⟩
    rw [hr] at h1 hw
    rcases List.mem_cons.1 hw with rfl | hw
    ·show m - r + 1 ≤ n
     omega
    ·exact ih r w hw
theorem fmx_mem (l : List Int) (m : Int) : l.foldl mx m = m ∨ l.foldl mx m ∈ l := by
 induction l generalizing m with
 | nil => exact .inl rfl
 | cons y ys ih =>
  rw [List.foldl_cons]
  rcases ih (mx m y) with e | e
  ·rw [e]
   unfold mx
   split
   ·exact .inr List.mem_cons_self
   ·exact .inl rfl
  ·exact .inr (List.mem_cons_of_mem _ e)
theorem sliding_res (x n : Nat) (h0 : 1 ≤ (x : Int) ∧ (x : Int) ≤ 1000000) (h1 : 1 ≤ (n : Int) ∧ (n : Int) ≤ 5) : ∃ l v, Gd 1 l [v] ∧ ex l v = (x : Int) ∧ (n = 1 → (l, v) = bin x) ∧ (2 ≤ n ∧ n ≤ 3 → l.length ≤ 40) ∧ Ev (fun k => impl_SlidingPlan.f k (x : Int) (n : Int)) (toldP 1 (kS 1 l [v]) (kO 1 l [v])) ∧ Ev (fun k => spec_meSliding.f k (x : Int) (n : Int)) (kS 1 l [v], kO 1 l [v]) := by
 unfold impl_SlidingPlan.f impl_WindowsOf.f impl_windowOk.f impl_isNumber.f
 rw [in_eq, in_eq]
 simp only [Option.bind_some]
 rw [decide_eq_true h0, decide_eq_true h1]
 obtain ⟨L, hL⟩ : ∃ L, Lib.bitLen x = L := ⟨_, rfl⟩
 have hL1 : 1 ≤ L := by rw [← hL, bitLen_pos (by omega) (by omega)]; omega
 have hL2 : L ≤ 20 := by rw [← hL]; exact Lib.bitLen_le x 20 (by omega) (by omega)
 have hx : x < 2 ^ 62 := by omega
 -- the windows
 have w1 := spans_impl x n L hx (by omega) (by omega) L L 0 [] (Nat.le_refl _) (Nat.le_refl _) (by simp; omega)
 have w2 := spans_spec x n L hx (by omega) (by omega) L L 0 [] [] (Nat.le_refl _) (Nat.le_refl _) (by simp; omega) (by simp; omega)
 have wlen := wl_len x n (by omega) L L
 have wok := wl_ok x n (by omega) L L
 obtain ⟨w, W, hW, hw0⟩ : ∃ w W, wl x n L L = w :: W ∧ w.f0 ≠ 0 := by
  obtain ⟨d, rfl⟩ : ∃ d, L = d + 1 := ⟨L - 1, by omega⟩
  exact wl_first x n d d (by omega) hL hx
 rw [hW] at w1 w2 wlen wok
 rw [List.nil_append] at w1
 rw [List.nil_append, List.nil_append] at w2
 simp only [List.length_cons] at wlen
 have hiw : Ev (fun k => impl_windows.f k (x : Int) (n : Int)) (w :: W) := by
  unfold impl_windows.f
  refine bind0 (len_eq x (by omega)) ?_
  rw [hL, zam (by omega)]
  exact bind w1 (ret _)
 have hsp : Ev (fun k => spec_meSpans.f k (x : Int) (n : Int)) ((w :: W).map (·.f0), (w :: W).map (·.f1)) := by
  unfold spec_meSpans.f spec_meDigits.f
  have hd := digits_ev L x [] hL hx (by simp; omega)
  refine bind (a := digs L x) (bind hd (ret _)) ?_
  rw [zau, zam (by omega)]
  exact bind w2 (ret _)
 -- the greatest
 have hof := of_l0 (w :: W) [] 0 (by simp; omega)
 rw [List.nil_append] at hof
 have hnn : ∀ y ∈ (w :: W).map (·.f0), 0 ≤ y := fun y hy => by
  obtain ⟨u, hu, rfl⟩ := List.mem_map.1 hy
  rcases (wok u hu).1 with e | ⟨j, e, _⟩ <;> omega
 have hwpos : 0 < w.f0 := by
  have := hnn w.f0 (by simp)
  omega
 have hvl : vals0 (w :: W) = w.f0 :: vals0 W := by
  unfold vals0
  rw [List.map_cons, List.filter_cons_of_pos (by simpa using hwpos)]
 have hvlen : (vals0 (w :: W)).length ≤ W.length + 1 := by
  unfold vals0
  refine Nat.le_trans (List.length_filter_le _ _) ?_
  simp
 have hg := great_eq ((w :: W).map (·.f0))
 have hm := smax_ev (vals0 (w :: W)) (by rw [hvl] at hvlen ⊢; simp at hvlen ⊢; omega) (fun y hy => hnn y (List.mem_filter.1 hy).1)
 have hfp := fold_pos ((w :: W).map (·.f0)) 0 (Int.le_refl _) hnn
 have hfp' : (vals0 (w :: W)).foldl mx 0 = ((w :: W).map (·.f0)).foldl mx 0 := hfp
 rw [hfp'] at hm
 obtain ⟨hM0, hge⟩ := fmx_ge ((w :: W).map (·.f0)) 0
 have hle := fmx_le (c := 31) ((w :: W).map (·.f0)) 0 (by omega) (fun y hy => by
  obtain ⟨u, hu, rfl⟩ := List.mem_map.1 hy
  rcases (wok u hu).1 with e | ⟨j, e, hj⟩ <;> omega)
 obtain ⟨M, hM⟩ : ∃ M, ((w :: W).map (·.f0)).foldl mx 0 = M := ⟨_, rfl⟩
 rw [hM] at hM0 hge hle hg hm
 have hM1 : 1 ≤ M := by have := hge w.f0 (by simp); omega
 obtain ⟨T, hT1, hT2⟩ : ∃ T : Nat, 2 * (T : Int) + 1 ≤ M ∧ M < 2 * (T : Int) + 3 := ⟨((M - 1) / 2).toNat, by omega, by omega⟩
 have hTb : T ≤ 15 := by omega
 -- the powers
 have hput : mput ([] : List (Int × Int)) 1 0 = some (mt 0) := by
  unfold mput
  rw [if_pos ⟨i64_wf (by omega), i64_wf (by omega), by simp⟩]
  rfl
 obtain ⟨B, hB1, hB2, hBok, hBl, hBod, hBn, hBc⟩ : ∃ B : List SStep, Ev (fun k => (slices_Max_int_int.f k (vals0 (w :: W))).bind fun i57 => if 3 ≤ i57 then ((impl_maker_multiply.f 1 [] [] 0 0).bind fun (i60, l61) => (impl_SlidingPlan.l0 i57 i60 k l61 3 (mt 0)).bind fun (l64, m68) => some (l64, m68)) else (some ([], mt 0))) (B, mt T) ∧ Ev (fun k => (spec_meGreatest.f ((w :: W).map (·.f0))).bind fun i57 => if 3 ≤ i57 then ((spec_meTimes.f 1 [] [] 0 0).bind fun l60 => (spec_meSliding.l0 ((w :: W).map (·.f0)) k l60 [] 0 3).bind fun (l63, l66) => some (l63, l66)) else (some (([] : List SStep), ([] : List Int)))) (B, []) ∧ Ok 1 B ∧ B.length ≤ 16 ∧ (∀ j : Nat, j ≤ T → vt j ≤ (B.length : Int) ∧ ex B (vt j) = 2 * (j : Int) + 1) ∧ (M < 3 → B = []) ∧ B.length ≤ T + 1 := by
  by_cases c : 3 ≤ M
  ·have p1 := odd_impl M T hT1 hT2 (by omega) T 0 (by omega)
   have p2 := odd_spec _ M hg T hT1 hT2 (by omega) T 0 (by omega)
   refine ⟨oS T, bind hm (pos c (bind0 (a := (1, oS 0)) rfl (bind p1 (ret _)))), bind0 hg (pos c (bind0 (meTimes_eq 1 [] [] 0 0 (by simp)) (bind p2 (ret _)))), oS_ok T, by rw [oS_len]; omega, fun j hj => ⟨?_, (ex_odd T).2 j hj⟩, fun h => absurd h (by omega), by rw [oS_len]; exact Nat.le_refl _⟩
   have := (vt_in j).2
   rw [oS_len]
   omega
  ·obtain rfl : T = 0 := by omega
   refine ⟨[], bind hm (neg c (ret _)), bind0 hg (neg c (ret _)), trivial, by simp, fun j hj => ?_, fun _ => rfl, by simp⟩
   obtain rfl : j = 0 := by omega
   exact ⟨Int.le_refl _, rfl⟩
 -- the rounds
 have hle1 : ∀ u ∈ w :: W, u.f0 ≤ 2 * (T : Int) + 1 := fun u hu => by
  have h := hge u.f0 (List.mem_map_of_mem (f := (·.f0)) hu)
  rcases (wok u hu).1 with e | ⟨j, e, _⟩ <;> omega
 have hod : ∀ u ∈ w :: W, 0 < u.f0 → 0 ≤ od u.f0 ∧ od u.f0 ≤ (B.length : Int) := fun u hu hp => by
  obtain ⟨j, hj, _⟩ := (wok u hu).1.resolve_left (by omega)
  have := hle1 u hu
  rw [hj, od_at]
  exact ⟨(vt_in j).1, (hBod j (by omega)).1⟩
 obtain ⟨j0, hj0, hj1⟩ := (wok w (by simp)).1.resolve_left hw0
 have hjT : j0 ≤ T := by have := hle1 w (by simp); omega
 have r1 := sl_impl T (by omega) W (fun u hu => ⟨wok u (by simp [hu]), hle1 u (by simp [hu])⟩) B (vt j0) 0 (by omega)
 have r2 := sl_spec (w :: W) wok (by simp; omega) W.length 1 0 B (vt j0) (by simp; omega) (by omega)
 rw [List.drop_succ_cons, List.drop_zero] at r2
 have hv0 := hod w (by simp) hwpos
 rw [hj0, od_at] at hv0
 have hMk : Mk B.length (B, vt j0) := ⟨hBok, Nat.le_refl _, hv0.1, hv0.2⟩
 obtain ⟨hk, hkl⟩ := Mk.wds W (fun u hu => ⟨(wok u (by simp [hu])).2.2, hod u (by simp [hu])⟩) hMk
 obtain ⟨S, hS⟩ : ∃ S, W.foldl wd (B, vt j0) = S := ⟨_, rfl⟩
 rw [hS] at r1 r2 hk hkl
 have hex : ex S.1 S.2 = (x : Int) := by
  rw [← hS]
  refine ex_sliding (n := n) (by omega) hW (lt_bitLen L x hL (by omega)) (fun u hu => ⟨wok u hu, hle1 u hu⟩) (B := B) (v := vt j0) hBod ?_
  rw [hj0]
  exact (hBod j0 hjT).2
 have hbin : n = 1 → S = bin x := fun hn => by
  subst hn
  have hM1' : M ≤ 1 := by
   rw [← hM]
   refine fmx_le _ 0 (by omega) (fun y hy => ?_)
   obtain ⟨u, hu, rfl⟩ := List.mem_map.1 hy
   rw [← hW] at hu
   exact wl_01 x L L u hu
  obtain rfl := hBn (by omega)
  obtain rfl : j0 = 0 := by omega
  obtain ⟨d, rfl⟩ : ∃ d, L = d + 1 := ⟨L - 1, by omega⟩
  have hWt : W = wl x 1 d d := wl_tail x d hL hx hW
  rw [← hS, hWt]
  unfold bin
  rw [hL, Nat.add_sub_cancel]
  exact wl_bn x (d + 1) d d _ (Nat.le_refl _) (by omega)
 have h40 : 2 ≤ n ∧ n ≤ 3 → S.1.length ≤ 40 := fun hn => by
  rw [← hS, wds_cost]
  show B.length + costW W ≤ 40
  have q1 := wl_span x n (by omega) L L (Nat.le_refl _)
  have q2 := wl_long x n L L
  rw [hW] at q1 q2
  have q3 : ∀ u ∈ w :: W, 1 ≤ u.f1.toNat := fun u hu => by have := (wok u hu).2.1; omega
  have q4 : ∀ u ∈ w :: W, u.f0 < 2 ^ u.f1.toNat := q2
  have hwc : costW (w :: W) = cst w + costW W := by unfold costW; rw [List.map_cons, List.sum_cons]
  have hsc : spanW (w :: W) = w.f1.toNat + spanW W := by unfold spanW; rw [List.map_cons, List.sum_cons]
  have hcw : cst w = w.f1.toNat + 1 := by unfold cst; rw [if_pos hwpos]
  obtain ⟨u, hu, huM⟩ : ∃ u ∈ w :: W, u.f0 = M := by
   have := fmx_mem ((w :: W).map (·.f0)) 0
   rw [hM] at this
   rcases this with e | e
   ·omega
   ·obtain ⟨u, hu, e⟩ := List.mem_map.1 e
    exact ⟨u, hu, e⟩
  have hu1 := q4 u hu
  have hup : 0 < u.f0 := by omega
  have hb : B.length + 1 ≤ u.f1.toNat + 2 := by
   have h3 := wl_short x n (by omega) L L u (by rw [hW]; exact hu)
   have hl1 := q3 u hu
   obtain ⟨g, hg⟩ : ∃ g, u.f1.toNat = g := ⟨_, rfl⟩
   rw [hg] at hu1 h3 hl1 ⊢
   obtain rfl | rfl | rfl : g = 1 ∨ g = 2 ∨ g = 3 := by omega
   ·have : M < 2 := by rw [← huM]; exact hu1
    rw [hBn (by omega)]
    simp
   ·have h4 : M < 4 := by rw [← huM]; exact hu1
    have := hBc
    omega
   ·have h4 : M < 8 := by rw [← huM]; exact hu1
    have := hBc
    omega
  rcases List.mem_cons.1 hu with rfl | hu
  ·have h5 := cost_le W (fun u hu => q3 u (List.mem_cons_of_mem _ hu))
   have h7 := q3 _ List.mem_cons_self
   omega
  ·have h5 := cost_one W (fun u hu => q3 u (List.mem_cons_of_mem _ hu)) u hu
   have h6 : cst w ≤ 2 * w.f1.toNat := by have := q3 w (by simp); omega
   have h7 := q3 w (by simp)
   omega
 obtain ⟨l, v⟩ := S
 have hlb : l.length ≤ 200 := by
  have : l.length ≤ B.length + 6 * W.length := hkl
  omega
 obtain ⟨k1, k2, k3, k4⟩ := hk
 have hgd : Gd 1 l [v] := ⟨by omega, hlb, by simp, k1, fun y hy => by
  rw [List.mem_singleton.1 hy]
  simp only at k3 k4
  omega⟩
 have t1 := trimmed_eqW hgd
 have t2 := plUsed_evW hgd
 have t3 := plKeep_eqW hgd
 have c1 := plIf_ev 1 (kS 1 l [v]) (kO 1 l [v])
 have c2 := told_ev 1 (kS 1 l [v]) (kO 1 l [v])
 have hg0 : gt (w :: W) 0 = some w := rfl
 have hmg : mget (mt T) w.f0 = some (vt j0) := by rw [hj0]; exact mget_mt hjT (by omega)
 have hct : ct (w :: W) (1 : Int) ((w :: W).length : Int) = some W := ct_drop (w :: W) 1 (by simp)
 have hg1 : gt ((w :: W).map (·.f0)) 0 = some w.f0 := rfl
 have hmo : spec_meOdd.f w.f0 = some (vt j0) := by rw [hj0]; exact meOdd_eq j0 (by omega)
 have hme : Ev (fun k => spec_meSliding.f k (x : Int) (n : Int)) (kS 1 l [v], kO 1 l [v]) := by
  unfold spec_meSliding.f spec_meTrim.f
  exact bind hsp (bind hB2 (bind0 hg1 (bind0 hmo (bind (a := (l, [], v)) r2 (bind0 rfl (bind (a := (kS 1 l [v], kO 1 l [v])) (bind t2 (bind0 t3 (ret _))) (ret _)))))))
 refine ⟨l, v, hgd, hex, hbin, h40, ?_, hme⟩
 ·refine bind (a := (vals0 (w :: W), true)) (bind0 rfl (pos rfl (bind hiw (bind0 hof (ret _))))) (pos rfl (bind0 rfl (bind0 hput (bind hB1 (bind hiw (bind0 hg0 (bind0 hmg (bind0 hct (bind0 r1 (bind0 rfl (bind0 t1 (bind c2 (ret _)))))))))))))
/-- Each step takes the one before it. -/
def Ch (p : List SStep × Int) : Prop := p.2 = (p.1.length : Int) ∧ ∀ (j : Nat) (y : SStep), p.1[j]? = some y → y.f1 = (j : Int)
theorem Ch.mul {p : List SStep × Int} (h : Ch p) {b : Int} (hb : 0 ≤ b ∧ b ≤ (p.1.length : Int)) : Ch (mulS p b) := by
 obtain ⟨h1, h2⟩ := h
 refine ⟨by rw [mulS_len]; show 1 + (p.1.length : Int) = _; omega, fun j y hj => ?_⟩
 have hj' : (p.1 ++ [(⟨mn p.2 b, mx p.2 b⟩ : SStep)])[j]? = some y := hj
 by_cases c : j < p.1.length
 ·rw [List.getElem?_append_left c] at hj'
  exact h2 j y hj'
 ·rw [List.getElem?_append_right (by omega)] at hj'
  have hl := (List.getElem?_eq_some_iff.1 hj').1
  simp only [List.length_cons, List.length_nil] at hl
  have e : j - p.1.length = 0 := by omega
  rw [e] at hj'
  obtain rfl := Option.some.inj hj'
  show mx p.2 b = _
  unfold mx
  split <;> omega
theorem Ch.sq {p : List SStep × Int} (h : Ch p) (n : Nat) : Ch (sqn n p) := by
 induction n generalizing p with
 | zero => exact h
 | succ n ih => exact ih (h.mul ⟨by have := h.1; omega, by have := h.1; omega⟩)
theorem Ch.bn {p : List SStep × Int} (h : Ch p) (d : Int) : Ch (Pure.bn p d) := by
 have hs := h.sq 1
 unfold Pure.bn
 split
 ·exact hs.mul ⟨by omega, by omega⟩
 ·exact hs
theorem bin_ch (x : Nat) : Ch (bin x) := by
 unfold bin
 have h0 : Ch (([] : List SStep), 0) := ⟨rfl, fun j y hj => by simp at hj⟩
 generalize ((digs (Lib.bitLen x) x).take (Lib.bitLen x - 1)).reverse = xs
 generalize (([] : List SStep), (0 : Int)) = p at h0
 induction xs generalizing p with
 | nil => exact h0
 | cons d xs ih => exact ih _ (h0.bn d)
theorem bn_len (p : List SStep × Int) (d : Int) : (bn p d).1.length ≤ p.1.length + 2 := by
 have := sqn_len 1 p
 unfold bn
 split
 ·rw [mulS_len]; omega
 ·omega
theorem bns_len (xs : List Int) (p : List SStep × Int) : (xs.foldl bn p).1.length ≤ p.1.length + 2 * xs.length := by
 induction xs generalizing p with
 | nil => simp
 | cons d xs ih =>
  have h1 := ih (bn p d)
  have h2 := bn_len p d
  rw [List.foldl_cons, List.length_cons]
  omega
theorem bin_len (x : Nat) (h : Lib.bitLen x ≤ 20) : (bin x).1.length ≤ 38 := by
 unfold bin
 have h1 := bns_len ((digs (Lib.bitLen x) x).take (Lib.bitLen x - 1)).reverse ([], 0)
 rw [List.length_reverse, List.length_take, zau] at h1
 simp only [List.length_nil] at h1
 omega
theorem ch_used {l : List SStep} {v : Int} (hok : Ok 1 l) (h : Ch (l, v)) : ∀ (d w : Nat), w + d = l.length → us 1 l [v] (w : Int) = true := by
 obtain ⟨h1, h2⟩ := h
 simp only at h1 h2
 intro d
 induction d with
 | zero =>
  intro w hw
  exact us_out (by rw [h1]; simp; omega)
 | succ d ih =>
  intro w hw
  have hl : w < l.length := by omega
  have hy := List.getElem?_eq_getElem hl
  refine (us_iff hok).2 (.inr ⟨w, _, hy, ?_, .inr (h2 w _ hy).symm⟩)
  rw [show 1 + w = w + 1 by omega]
  exact ih (w + 1) (by omega)
theorem ch_kept {l : List SStep} {v : Int} (hg : Gd 1 l [v]) (h : Ch (l, v)) : kS 1 l [v] = l ∧ kO 1 l [v] = [v] := by
 have hu : ∀ w : Int, ((1 : Nat) : Int) ≤ w → w < ((1 + l.length : Nat) : Int) → us 1 l [v] w = true := fun w w0 w1 => by
  obtain ⟨u, rfl⟩ := Int.eq_ofNat_of_zero_le (show 0 ≤ w by omega)
  exact ch_used hg.ok h (l.length - u) u (by omega)
 refine ⟨ts_all l hg.ok hu, ?_⟩
 have q := hg.os v (by simp)
 unfold kO
 rw [List.map_cons, List.map_nil, pl_all hu q.1 q.2]
/-! what a plan ends with -/
theorem pEnds_ev {s : List SStep} {v x : Int} (h : Good 1 s [v]) (hx : ex s v = x) : Ev (fun k => laws_pEnds.f k 1 s [v] x) true := by
 have e := outEx_ev h
 rw [pw_one h, hx] at e
 unfold laws_pEnds.f
 refine bind e (pos rfl (pos rfl (bind0 (a := [x]) rfl (pos rfl (bind0 (a := [x]) rfl (bind0 (a := x) rfl ?_))))))
 rw [decide_eq_true rfl]
 exact ret _
/-! the binary plan -/
theorem bin_round (i y : Int) (l : List SStep) (a : Int) (hl : l.length + 2 ≤ 10000) : impl_BinaryPlan.r0 (i, y) (l, a) = some (bn (l, a) y) := by
 have hm : impl_maker_multiply.f 1 l [] a a = some ((sqn 1 (l, a)).2, (sqn 1 (l, a)).1) := mul_impl l a a (by omega)
 have hs : (sqn 1 (l, a)).1.length = l.length + 1 := sqn_len 1 (l, a)
 unfold impl_BinaryPlan.r0 bn
 simp only
 rw [hm, Option.bind_some]
 simp only
 by_cases c : y = 1
 ·rw [if_pos c, if_pos c, mul_impl _ _ _ (by omega)]
  rfl
 ·rw [if_neg c, if_neg c]
theorem bin_rounds (R : List Int) (hR : R.length ≤ 1000) : rngB R (impl_BinaryPlan.r0) (([] : List SStep), (0 : Int)) = some (R.reverse.foldl bn ([], 0)) := by
 have hP : ∀ (j : Nat) (s : List SStep × Int) (x : Int × Int), x ∈ bwL R → s.1.length + 2 * (j + 1) ≤ 9000 → impl_BinaryPlan.r0 x s = some (bn s x.2) ∧ (bn s x.2).1.length + 2 * j ≤ 9000 := by
  rintro j ⟨l, a⟩ ⟨i, x⟩ hxm hs
  have hw := bn_len (l, a) x
  simp only at hs hw ⊢
  exact ⟨bin_round i x l a (by omega), by omega⟩
 unfold rngB
 rw [if_pos]
 ·rw [foldl_inv (f := stB impl_BinaryPlan.r0) (g := fun s (x : Int × Int) => bn s x.2) (fun j s => s.1.length + 2 * j ≤ 9000) (bwL R) ([], 0) (fun j s x hxm hs => by
   obtain ⟨e, h⟩ := hP j s x hxm hs
   refine ⟨?_, h⟩
   unfold stB
   rw [e]
   rfl) (by rw [bwL_len]; simp; omega), ← bwL_snd, List.foldl_map]
 ·exact okB_inv (fun j s => s.1.length + 2 * j ≤ 9000) (fun j s x hxm hs => ⟨_, hP j s x hxm hs⟩) R.length ([], 0) (by simp; omega)
theorem binary_res (x : Nat) (h0 : 1 ≤ (x : Int) ∧ (x : Int) ≤ 1000000) : Ev (fun k => impl_BinaryPlan.f k (x : Int)) (toldP 1 (bin x).1 [(bin x).2]) := by
 have hL2 : Lib.bitLen x ≤ 20 := Lib.bitLen_le x 20 (by omega) (by omega)
 have hlt := lt_bitLen (Lib.bitLen x) x rfl (by omega)
 have d2 := dgs_impl 2 (by omega) (Lib.bitLen x) x [] hlt (by omega) (by simp; omega)
 rw [List.nil_append, dgs_digs (Lib.bitLen x) x (Lib.bitLen x) rfl (Nat.le_refl _) (by omega)] at d2
 have hpos : 1 ≤ Lib.bitLen x := by rw [bitLen_pos (by omega) (by omega)]; omega
 have hct : ct (digs (Lib.bitLen x) x) (0 : Int) (w64 (((digs (Lib.bitLen x) x).length : Int) - 1)) = some ((digs (Lib.bitLen x) x).take (Lib.bitLen x - 1)) := by
  rw [zau, zam (by omega), show ((Lib.bitLen x : Nat) : Int) - 1 = ((Lib.bitLen x - 1 : Nat) : Int) by omega, ct_take _ _ (by rw [zau]; omega)]
 have hr := bin_rounds ((digs (Lib.bitLen x) x).take (Lib.bitLen x - 1)) (by rw [List.length_take, zau]; omega)
 have hb : (bin x) = ((digs (Lib.bitLen x) x).take (Lib.bitLen x - 1)).reverse.foldl bn ([], 0) := rfl
 rw [← hb] at hr
 have ht := told_ev 1 (bin x).1 [(bin x).2]
 unfold impl_BinaryPlan.f impl_isNumber.f
 rw [in_eq]
 simp only [Option.bind_some]
 rw [decide_eq_true h0]
 refine pos rfl (bind0 rfl (bind (a := digs (Lib.bitLen x) x) ?_ (bind0 hct (bind0 rfl (bind0 hr (bind0 rfl (bind ht (ret _))))))))
 unfold impl_digits.f
 exact bind d2 (ret _)
/-- The sum of the d lowest binary digits. -/
def ds : Nat → Nat → Nat
 | 0, _ => 0
 | d + 1, y => y % 2 + ds d (y / 2)
theorem ds_zero (d : Nat) : ds d 0 = 0 := by
 induction d with
 | zero => rfl
 | succ d ih => simp only [ds]; rw [ih]
theorem ds_le (d y : Nat) : ds d y ≤ d := by
 induction d generalizing y with
 | zero => exact Nat.le_refl _
 | succ d ih =>
  have := ih (y / 2)
  simp only [ds]
  omega
theorem ds_add (a b y : Nat) : ds (a + b) y = ds a y + ds b (y / 2 ^ a) := by
 induction a generalizing y with
 | zero => simp [ds]
 | succ a ih =>
  rw [show a + 1 + b = (a + b) + 1 by omega]
  simp only [ds]
  rw [ih (y / 2), Nat.div_div_eq_div_mul, Nat.pow_succ, Nat.mul_comm 2]
  omega
theorem ds_mod (a y : Nat) : ds a (y % 2 ^ a) = ds a y := by
 induction a generalizing y with
 | zero => rfl
 | succ a ih =>
  simp only [ds]
  have h1 : y % 2 ^ (a + 1) % 2 = y % 2 := Nat.mod_mod_of_dvd y (by rw [Nat.pow_succ]; exact Nat.dvd_mul_left 2 _)
  have h2 : y % 2 ^ (a + 1) / 2 = y / 2 % 2 ^ a := by rw [Nat.pow_succ, Nat.mul_comm, Nat.mod_mul_right_div_self]
  rw [h1, h2, ih]
theorem ds_cut (a d y : Nat) (h : y < 2 ^ a) (hd : a ≤ d) : ds d y = ds a y := by
 rw [show d = a + (d - a) by omega, ds_add, Nat.div_eq_of_lt h, ds_zero]
 omega
/-- What windows of a number sum up to. -/
def sumW (N : Nat) (W : List Swindow) : Nat := (W.map fun w => ds N w.f0.toNat).sum
/-! the words' other parts -/
/-! draws -/
def tmr (l : List SStep) (r sq : Int) : List SStep × Int := if r < 0 then (l, sq) else mulS (l, r) sq
def rgo : List Int → List SStep → Int → Int → List SStep × Int
 | [], l, _, r => (l, r)
 | d :: ds, l, sq, r => if ds.isEmpty = true then (if d = 1 then tmr l r sq else (l, r)) else rgo ds (mulS ((if d = 1 then tmr l r sq else (l, r)).1, sq) sq).1 (mulS ((if d = 1 then tmr l r sq else (l, r)).1, sq) sq).2 (if d = 1 then tmr l r sq else (l, r)).2
theorem tmr_len (l : List SStep) (r sq : Int) : (tmr l r sq).1.length ≤ l.length + 1 := by
 unfold tmr
 split
 ·show l.length ≤ _; omega
 ·rw [mulS_len]; exact Nat.le_refl _
theorem right_impl (D : List Int) (hD : D.length ≤ 1000) : ∀ (d j : Nat) (l : List SStep) (sq r : Int), j + d = D.length → l.length + 2 * d ≤ 9000 → impl_RightPlan.l0 D (D.drop j) l (j : Int) sq r = some (rgo (D.drop j) l sq r) := by
 intro d
 induction d with
 | zero =>
  intro j l sq r hj hl
  rw [List.drop_eq_nil_of_le (by omega)]
  rfl
 | succ d ih =>
  intro j l sq r hj hl
  have hjl : j < D.length := by omega
  rw [List.drop_eq_getElem_cons hjl]
  simp only [impl_RightPlan.l0, rgo]
  obtain ⟨q, hq⟩ : ∃ q, (if D[j] = 1 then tmr l r sq else (l, r)) = q := ⟨_, rfl⟩
  have hql : q.1.length ≤ l.length + 1 := by
   rw [← hq]
   split
   ·exact tmr_len l r sq
   ·show l.length ≤ _; omega
  have e1 : (if D[j] = 1 then ((impl_maker_times.f 1 l [] r sq).bind fun (i59, l60) => some (l60, i59)) else (some (l, r))) = some q := by
   rw [← hq]
   by_cases c : D[j] = 1
   ·rw [if_pos c, if_pos c]
    unfold impl_maker_times.f tmr
    by_cases c2 : r < 0
    ·rw [if_pos c2, if_pos c2]
     rfl
    ·rw [if_neg c2, if_neg c2, mul_impl l r sq (by omega)]
     rfl
   ·rw [if_neg c, if_neg c]
  rw [e1, Option.bind_some, hq, zam (x := (D.length : Int) - 1) (by omega)]
  obtain ⟨ql, qr⟩ := q
  simp only at hql ⊢
  by_cases c : j + 1 < D.length
  ·have hne : (D.drop (j + 1)).isEmpty = false := by
    rw [List.isEmpty_eq_false_iff]
    intro h
    have := congrArg List.length h
    rw [List.length_drop] at this
    simp at this
    omega
   rw [if_pos (by omega), hne, if_neg (by simp), mul_impl ql sq sq (by omega), Option.bind_some, show (j : Int) + 1 = ((j + 1 : Nat) : Int) by omega]
   exact ih (j + 1) _ _ _ (by omega) (by rw [mulS_len]; show ql.length + 1 + 2 * d ≤ 9000; omega)
  ·have e2 : D.drop (j + 1) = [] := List.drop_eq_nil_of_le (by omega)
   rw [if_neg (by omega), e2]
   rfl
theorem right_spec (D : List Int) (hD : D.length ≤ 1000) : ∀ (d j : Nat) (l : List SStep) (sq r : Int), j + d = D.length → l.length + 2 * d ≤ 9000 → spec_meRight.l0 D (D.drop j) [] l (j : Int) sq r = some ([], (rgo (D.drop j) l sq r).1, (rgo (D.drop j) l sq r).2) := by
 intro d
 induction d with
 | zero =>
  intro j l sq r hj hl
  rw [List.drop_eq_nil_of_le (by omega)]
  rfl
 | succ d ih =>
  intro j l sq r hj hl
  have hjl : j < D.length := by omega
  rw [List.drop_eq_getElem_cons hjl]
  simp only [spec_meRight.l0, rgo]
  obtain ⟨q, hq⟩ : ∃ q, (if D[j] = 1 then tmr l r sq else (l, r)) = q := ⟨_, rfl⟩
  have hql : q.1.length ≤ l.length + 1 := by
   rw [← hq]
   split
   ·exact tmr_len l r sq
   ·show l.length ≤ _; omega
  have e1 : ((if D[j] = 1 then (some (decide (0 ≤ r))) else (some false)).bind fun b61 => if b61 = true then ((spec_meTimes.f 1 l [] r sq).bind fun l70 => some (l70, ([] : List Int), w64 (1 + (l.length : Int)))) else (if D[j] = 1 then (some (l, [], sq)) else (some (l, [], r)))) = some (q.1, [], q.2) := by
   rw [← hq]
   by_cases c : D[j] = 1
   ·rw [if_pos c, if_pos c, Option.bind_some]
    unfold tmr
    by_cases c2 : r < 0
    ·rw [decide_eq_false (by omega), if_neg (by simp), if_pos c, if_pos c2]
    ·rw [decide_eq_true (by omega), if_pos rfl, meTimes_eq 1 l [] r sq (by omega), Option.bind_some, zam (by omega), if_neg c2, if_pos c]
     rfl
   ·rw [if_neg c, if_neg c, Option.bind_some, if_neg (by simp), if_neg c]
  rw [e1, Option.bind_some, hq, zam (x := (D.length : Int) - 1) (by omega)]
  obtain ⟨ql, qr⟩ := q
  simp only at hql ⊢
  by_cases c : j + 1 < D.length
  ·have hne : (D.drop (j + 1)).isEmpty = false := by
    rw [List.isEmpty_eq_false_iff]
    intro h
    have := congrArg List.length h
    rw [List.length_drop] at this
    simp at this
    omega
   rw [if_pos (by omega), hne, if_neg (by simp), meTimes_eq 1 ql [] sq sq (by omega), Option.bind_some, zam (by omega), show (j : Int) + 1 = ((j + 1 : Nat) : Int) by omega]
   exact ih (j + 1) (mulS (ql, sq) sq).1 (mulS (ql, sq) sq).2 qr (by omega) (by rw [mulS_len]; show ql.length + 1 + 2 * d ≤ 9000; omega)
  ·have e2 : D.drop (j + 1) = [] := List.drop_eq_nil_of_le (by omega)
   rw [if_neg (by omega), e2]
   rfl
/-! what the method from the right makes -/
theorem ok_mul {l : List SStep} {a b : Int} (h : Ok 1 l) (ha : 0 ≤ a ∧ a ≤ (l.length : Int)) (hb : 0 ≤ b ∧ b ≤ (l.length : Int)) : Ok 1 (mulS (l, a) b).1 := by
 have h0 : Mk 0 (l, a) := ⟨h, Nat.zero_le _, ha.1, ha.2⟩
 exact (h0.mul hb).1
theorem le_mul {l : List SStep} {a b x : Int} (h : ∀ u : Int, 0 ≤ u → u ≤ (l.length : Int) → ex l u ≤ x) (hx : ex l a + ex l b ≤ x) : ∀ u : Int, 0 ≤ u → u ≤ ((mulS (l, a) b).1.length : Int) → ex (mulS (l, a) b).1 u ≤ x := fun u u0 u1 => by
 rw [mulS_len] at u1
 have u1' : u ≤ (l.length : Int) + 1 := by
  have e : ((l, a) : List SStep × Int).1.length = l.length := rfl
  rw [e] at u1
  omega
 by_cases c : u ≤ (l.length : Int)
 ·rw [ex_old (l, a) b u0 c]
  exact h u u0 c
 ·have e : u = (mulS (l, a) b).2 := by
   show u = 1 + (l.length : Int)
   omega
  rw [e, ex_mul]
  exact hx
structure Rt (x i j : Nat) (l : List SStep) (sq r : Int) : Prop where
 ok : Ok 1 l
 sq0 : 0 ≤ sq ∧ sq ≤ (l.length : Int)
 sqe : ex l sq = ((2 ^ j : Nat) : Int)
 acc : (r = -1 ∧ x % 2 ^ i = 0 ∧ l.length = j ∧ ds i x = 0) ∨ (0 ≤ r ∧ r ≤ (l.length : Int) ∧ ex l r = ((x % 2 ^ i : Nat) : Int) ∧ l.length + 1 = j + ds i x)
 le : ∀ u : Int, 0 ≤ u → u ≤ (l.length : Int) → ex l u ≤ (x : Int)
theorem mod_next (x i : Nat) : x % 2 ^ (i + 1) = x % 2 ^ i + 2 ^ i * (x / 2 ^ i % 2) := by
 rw [Nat.pow_succ, Nat.mod_mul]
theorem ds_next (i x : Nat) : ds (i + 1) x = ds i x + x / 2 ^ i % 2 := by
 rw [ds_add i 1 x]
 simp [ds]
theorem Rt.digit {x i : Nat} {l : List SStep} {sq r : Int} (h : Rt x i i l sq r) {d : Int} (hd : d = ((x / 2 ^ i % 2 : Nat) : Int)) : Rt x (i + 1) i (if d = 1 then tmr l r sq else (l, r)).1 sq (if d = 1 then tmr l r sq else (l, r)).2 := by
 obtain ⟨h1, h2, h3, h4, h5⟩ := h
 have hm := mod_next x i
 have hs := ds_next i x
 have hle : x % 2 ^ (i + 1) ≤ x := Nat.mod_le _ _
 by_cases c : d = 1
 ·have hb : x / 2 ^ i % 2 = 1 := by omega
  rw [hb, Nat.mul_one] at hm
  rw [hb] at hs
  rw [if_pos c]
  rcases h4 with ⟨q1, q2, q3, q4⟩ | ⟨q1, q2, q3, q4⟩
  ·have e : tmr l r sq = (l, sq) := by unfold tmr; rw [if_pos (by omega)]
   rw [e]
   refine ⟨h1, h2, h3, .inr ⟨h2.1, h2.2, ?_, ?_⟩, h5⟩
   ·show ex l sq = _
    rw [h3, hm, q2]
    simp
   ·show l.length + 1 = _
    omega
  ·have e : tmr l r sq = mulS (l, r) sq := by unfold tmr; rw [if_neg (by omega)]
   rw [e]
   have hlen : (mulS (l, r) sq).1.length = l.length + 1 := mulS_len (l, r) sq
   have hsum : ex l r + ex l sq = ((x % 2 ^ (i + 1) : Nat) : Int) := by
    rw [q3, h3, hm]
    simp
   refine ⟨ok_mul h1 ⟨q1, q2⟩ h2, ⟨h2.1, by omega⟩, ?_, .inr ⟨?_, ?_, ?_, by omega⟩, le_mul h5 (by rw [hsum]; omega)⟩
   ·rw [ex_old (l, r) sq h2.1 h2.2]
    exact h3
   ·show 0 ≤ 1 + (l.length : Int)
    omega
   ·show 1 + (l.length : Int) ≤ _
    omega
   ·rw [ex_mul]
    exact hsum
 ·have hb : x / 2 ^ i % 2 = 0 := by omega
  rw [hb, Nat.mul_zero, Nat.add_zero] at hm
  rw [hb, Nat.add_zero] at hs
  rw [if_neg c]
  refine ⟨h1, h2, h3, ?_, h5⟩
  rw [hm, hs]
  exact h4
theorem Rt.square {x i : Nat} {l : List SStep} {sq r : Int} (h : Rt x (i + 1) i l sq r) (hx : 2 ^ (i + 1) ≤ x) : Rt x (i + 1) (i + 1) (mulS (l, sq) sq).1 (mulS (l, sq) sq).2 r := by
 obtain ⟨h1, h2, h3, h4, h5⟩ := h
 have hlen : (mulS (l, sq) sq).1.length = l.length + 1 := mulS_len (l, sq) sq
 have hsum : ex l sq + ex l sq = ((2 ^ (i + 1) : Nat) : Int) := by
  rw [h3, Nat.pow_succ]
  omega
 refine ⟨ok_mul h1 h2 h2, ⟨by show 0 ≤ 1 + (l.length : Int); omega, by show 1 + (l.length : Int) ≤ _; omega⟩, by rw [ex_mul]; exact hsum, ?_, le_mul h5 (by rw [hsum]; omega)⟩
 rcases h4 with ⟨q1, q2, q3, q4⟩ | ⟨q1, q2, q3, q4⟩
 ·exact .inl ⟨q1, q2, by omega, q4⟩
 ·exact .inr ⟨q1, by omega, by rw [ex_old (l, sq) sq q1 q2]; exact q3, by omega⟩
theorem right_all (x L : Nat) (hL : 2 ^ (L - 1) ≤ x) : ∀ (d i : Nat) (l : List SStep) (sq r : Int), i + (d + 1) = L → Rt x i i l sq r → ∃ l' r', rgo ((digs L x).drop i) l sq r = (l', r') ∧ ∃ sq', Rt x L (L - 1) l' sq' r' := by
 intro d
 induction d with
 | zero =>
  intro i l sq r hi h
  have hil : i < (digs L x).length := by rw [zau]; omega
  have h1 := h.digit (digs_get L x i (by omega))
  rw [List.drop_eq_getElem_cons hil, List.drop_eq_nil_of_le (by rw [zau]; omega)]
  have e : rgo [(digs L x)[i]] l sq r = (if (digs L x)[i] = 1 then tmr l r sq else (l, r)) := rfl
  rw [e]
  obtain rfl : L = i + 1 := by omega
  exact ⟨_, _, rfl, sq, h1⟩
 | succ d ih =>
  intro i l sq r hi h
  have hil : i < (digs L x).length := by rw [zau]; omega
  have h1 := h.digit (digs_get L x i (by omega))
  have h2 := h1.square (Nat.le_trans (Nat.pow_le_pow_right (by omega) (by omega)) hL)
  have hne : ((digs L x).drop (i + 1)).isEmpty = false := by
   rw [List.isEmpty_eq_false_iff]
   intro hh
   have := congrArg List.length hh
   rw [List.length_drop, zau] at this
   simp at this
   omega
  rw [List.drop_eq_getElem_cons hil]
  simp only [rgo]
  rw [hne, if_neg (by simp)]
  exact ih (i + 1) _ _ _ (by omega) h2
/-- What the method from the right comes to. -/
theorem right_made (x : Nat) (h0 : 1 ≤ x ∧ x ≤ 1000000) : ∃ l r, rgo (digs (Lib.bitLen x) x) [] 0 (-1) = (l, r) ∧ Ok 1 l ∧ (0 ≤ r ∧ r ≤ (l.length : Int)) ∧ ex l r = (x : Int) ∧ (∀ u : Int, 0 ≤ u → u ≤ (l.length : Int) → ex l u ≤ (x : Int)) ∧ l.length + 2 = Lib.bitLen x + ds (Lib.bitLen x) x := by
 obtain ⟨L, hL⟩ : ∃ L, Lib.bitLen x = L := ⟨_, rfl⟩
 have hpos : 1 ≤ L := by rw [← hL, bitLen_pos (by omega) (by omega)]; omega
 have hlt := lt_bitLen L x hL (by omega)
 obtain ⟨d, rfl⟩ : ∃ d, L = d + 1 := ⟨L - 1, by omega⟩
 have htb := top_bit d x hL (by omega)
 have hge : 2 ^ d ≤ x := by
  by_cases c : 2 ^ d ≤ x
  ·exact c
  ·rw [Nat.div_eq_of_lt (by omega)] at htb
   exact absurd rfl htb
 have hR : Rt x 0 0 ([] : List SStep) 0 (-1) := ⟨trivial, ⟨by decide, by decide⟩, rfl, .inl ⟨rfl, by simp [Nat.mod_one], rfl, rfl⟩, fun u u0 u1 => by
  obtain rfl : u = 0 := by simp at u1; omega
  show (1 : Int) ≤ _
  omega⟩
 obtain ⟨l, r, e, sq, q⟩ := right_all x (d + 1) hge d 0 [] 0 (-1) (by omega) hR
 rw [List.drop_zero] at e
 rw [hL]
 obtain ⟨q1, _, _, q4, q5⟩ := q
 rw [Nat.mod_eq_of_lt hlt] at q4
 rcases q4 with ⟨_, z, _⟩ | ⟨z1, z2, z3, z4⟩
 ·omega
 ·exact ⟨l, r, e, q1, ⟨z1, z2⟩, z3, q5, by omega⟩
theorem made_good {l : List SStep} {r : Int} {x : Nat} (h0 : 1 ≤ x ∧ x ≤ 1000000) (hok : Ok 1 l) (hr : 0 ≤ r ∧ r ≤ (l.length : Int)) (hl : l.length ≤ 40) (hle : ∀ u : Int, 0 ≤ u → u ≤ (l.length : Int) → ex l u ≤ (x : Int)) : Good 1 l [r] := by
 refine ⟨by omega, hl, by simp, hok, fun y hy => ?_, fun j hj v v0 v1 => ?_⟩
 ·rw [List.mem_singleton.1 hy]
  omega
 ·obtain rfl : j = 0 := by omega
  have := hle v v0 (by omega)
  show ex l v ≤ _
  omega
theorem toldP_good {s : List SStep} {o : List Int} (h : Good 1 s o) : toldP 1 s o = (1, s, o, true) := by
 have gg : good 1 s o = true := good_iff.2 h
 unfold toldP
 rw [if_pos gg]
/-- The method from the right, on both sides. -/
theorem right_res (x : Nat) (h0 : 1 ≤ (x : Int) ∧ (x : Int) ≤ 1000000) : ∃ l r, Good 1 l [r] ∧ ex l r = (x : Int) ∧ l.length + 2 = Lib.bitLen x + ds (Lib.bitLen x) x ∧ Ev (fun k => impl_RightPlan.f k (x : Int)) (1, l, [r], true) ∧ Ev (fun k => spec_meRight.f k (x : Int)) (l, [r]) := by
 obtain ⟨l, r, e, hok, hr, hx, hle, hlen⟩ := right_made x (by omega)
 have hL2 : Lib.bitLen x ≤ 20 := Lib.bitLen_le x 20 (by omega) (by omega)
 have hds := ds_le (Lib.bitLen x) x
 have hg := made_good (x := x) (by omega) hok hr (by omega) hle
 have hlt := lt_bitLen (Lib.bitLen x) x rfl (by omega)
 have d2 := dgs_impl 2 (by omega) (Lib.bitLen x) x [] hlt (by omega) (by simp; omega)
 rw [List.nil_append, dgs_digs (Lib.bitLen x) x (Lib.bitLen x) rfl (Nat.le_refl _) (by omega)] at d2
 have d1 := digits_ev (Lib.bitLen x) x [] rfl (by omega) (by simp; omega)
 rw [List.nil_append] at d1
 have r1 := right_impl (digs (Lib.bitLen x) x) (by rw [zau]; omega) (Lib.bitLen x) 0 [] 0 (-1) (by rw [zau]; omega) (by simp; omega)
 have r2 := right_spec (digs (Lib.bitLen x) x) (by rw [zau]; omega) (Lib.bitLen x) 0 [] 0 (-1) (by rw [zau]; omega) (by simp; omega)
 rw [List.drop_zero, e] at r1 r2
 have ht := told_ev 1 l [r]
 rw [toldP_good hg] at ht
 refine ⟨l, r, hg, hx, hlen, ?_, ?_⟩
 ·unfold impl_RightPlan.f impl_isNumber.f
  rw [in_eq]
  simp only [Option.bind_some]
  rw [decide_eq_true h0]
  refine pos rfl (bind0 rfl (bind (a := digs (Lib.bitLen x) x) ?_ (bind0 r1 (bind0 rfl (bind ht (ret _))))))
  unfold impl_digits.f
  exact bind d2 (ret _)
 ·unfold spec_meRight.f
  refine bind (a := digs (Lib.bitLen x) x) ?_ (bind0 r2 (bind0 rfl (ret _)))
  unfold spec_meDigits.f
  exact bind d1 (ret _)
/-! the binary method, as the documentation has it -/
theorem bin_spec (L x : Nat) (hL : L ≤ 100) : ∀ (m : Nat) (l : List SStep) (a : Int), m ≤ L → l.length + 2 * m ≤ 9000 → Ev (fun k => spec_meBinary.l0 (digs L x) k [] l a ((m : Int) - 1)) ([], (((digs L x).take m).reverse.foldl bn (l, a)).1, (((digs L x).take m).reverse.foldl bn (l, a)).2) := by
 intro m
 induction m with
 | zero =>
  intro l a hm hl
  refine shift ?_
  simp only [spec_meBinary.l0]
  exact neg (by omega) (ret _)
 | succ m ih =>
  intro l a hm hl
  have hml : m < (digs L x).length := by rw [zau]; omega
  have e1 : ((digs L x).take (m + 1)).reverse = (digs L x)[m] :: ((digs L x).take m).reverse := by
   rw [List.take_add_one, List.getElem?_eq_getElem hml]
   simp
  have hs : (sqn 1 (l, a)).1.length = l.length + 1 := sqn_len 1 (l, a)
  have hb : (bn (l, a) (digs L x)[m]).1.length ≤ l.length + 2 := bn_len (l, a) _
  rw [e1, List.foldl_cons]
  refine shift ?_
  simp only [spec_meBinary.l0]
  rw [show ((m + 1 : Nat) : Int) - 1 = (m : Int) by omega]
  refine pos (by omega) (bind0 (meTimes_eq 1 l [] a a (by omega)) (bind0 (gt_nat hml) ?_))
  rw [zam (x := (m : Int) - 1) (by omega), zam (x := 1 + (l.length : Int)) (by omega)]
  by_cases c : (digs L x)[m] = 1
  ·have hbn : bn (l, a) (digs L x)[m] = mulS (sqn 1 (l, a)) 0 := by unfold bn; rw [if_pos c]
   rw [hbn] at hb ⊢
   refine pos c (bind0 (meTimes_eq 1 _ [] _ _ (by show (sqn 1 (l, a)).1.length ≤ _; omega)) ?_)
   rw [zam (by rw [List.length_append, List.length_singleton]; omega)]
   exact ih (mulS (sqn 1 (l, a)) 0).1 (mulS (sqn 1 (l, a)) 0).2 (by omega) (by omega)
  ·have hbn : bn (l, a) (digs L x)[m] = sqn 1 (l, a) := by unfold bn; rw [if_neg c]
   rw [hbn] at hb ⊢
   exact neg c (ih (sqn 1 (l, a)).1 (sqn 1 (l, a)).2 (by omega) (by omega))
theorem meBinary_ev (x : Nat) (h0 : 1 ≤ (x : Int) ∧ (x : Int) ≤ 1000000) : Ev (fun k => spec_meBinary.f k (x : Int)) ((bin x).1, [(bin x).2]) := by
 have hL2 : Lib.bitLen x ≤ 20 := Lib.bitLen_le x 20 (by omega) (by omega)
 have hpos : 1 ≤ Lib.bitLen x := by rw [bitLen_pos (by omega) (by omega)]; omega
 have d1 := digits_ev (Lib.bitLen x) x [] rfl (by omega) (by simp; omega)
 rw [List.nil_append] at d1
 have hr := bin_spec (Lib.bitLen x) x (by omega) (Lib.bitLen x - 1) [] 0 (by omega) (by simp; omega)
 unfold spec_meBinary.f
 refine bind (a := digs (Lib.bitLen x) x) ?_ ?_
 ·unfold spec_meDigits.f
  exact bind d1 (ret _)
 ·rw [zau, zam (by omega), show ((Lib.bitLen x : Nat) : Int) - 2 = ((Lib.bitLen x - 1 : Nat) : Int) - 1 by omega]
  exact bind (a := ([], (bin x).1, (bin x).2)) hr (bind0 rfl (ret _))
theorem bn_cost (p : List SStep × Int) {d : Int} (hd : d = 0 ∨ d = 1) : (bn p d).1.length = p.1.length + 1 + d.toNat := by
 have hs := sqn_len 1 p
 unfold bn
 rcases hd with rfl | rfl
 ·rw [if_neg (by decide), hs]
  rfl
 ·rw [if_pos rfl, mulS_len, hs]
  rfl
theorem bns_cost (xs : List Int) (hx : ∀ d ∈ xs, d = 0 ∨ d = 1) (p : List SStep × Int) : (xs.foldl bn p).1.length = p.1.length + xs.length + (xs.map Int.toNat).sum := by
 induction xs generalizing p with
 | nil => rfl
 | cons d xs ih =>
  rw [List.foldl_cons, ih (fun y hy => hx y (List.mem_cons_of_mem _ hy)), bn_cost p (hx d List.mem_cons_self), List.length_cons, List.map_cons, List.sum_cons]
  omega
theorem digs_sum (d y : Nat) : ((digs d y).map Int.toNat).sum = ds d y := by
 induction d generalizing y with
 | zero => rfl
 | succ d ih =>
  simp only [digs, ds]
  rw [List.map_cons, List.sum_cons, ih]
  rfl
theorem bin_cost (x : Nat) (h0 : 1 ≤ x ∧ x ≤ 1000000) : (bin x).1.length + 2 = Lib.bitLen x + ds (Lib.bitLen x) x := by
 obtain ⟨L, hL⟩ : ∃ L, Lib.bitLen x = L := ⟨_, rfl⟩
 have hpos : 1 ≤ L := by rw [← hL, bitLen_pos (by omega) (by omega)]; omega
 obtain ⟨d, rfl⟩ : ∃ d, L = d + 1 := ⟨L - 1, by omega⟩
 have htb := top_bit d x hL (by omega)
 have hs := ds_next d x
 have hdt : (digs (d + 1) x).take d = digs d x := by
  refine List.ext_getElem (by rw [List.length_take, zau, zau]; omega) fun j h1 h2 => ?_
  rw [zau] at h2
  rw [List.getElem_take, digs_get (d + 1) x j (by omega), digs_get d x j h2]
 unfold bin
 rw [hL, Nat.add_sub_cancel, hdt, bns_cost _ (fun y hy => digs_01 d x y (List.mem_reverse.1 hy)), List.length_reverse, zau, List.map_reverse, List.sum_reverse, digs_sum]
 simp only [List.length_nil]
 omega
end Go.Proofs.Ytiaohjciddbpoaa.Pure
