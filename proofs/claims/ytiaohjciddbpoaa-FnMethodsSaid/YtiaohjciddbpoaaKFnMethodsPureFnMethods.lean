/- Pure: Ppop, Pms, Pbp, Pml. -/
import Derived.Test.YtiaohjciddbpoaaKFnMethodsPnd
import Derived.Test.YtiaohjciddbpoaaKFnMethodsPfq
set_option linter.unusedVariables false
set_option linter.unusedSimpArgs false
namespace Go.Proofs.Ytiaohjciddbpoaa.Pure
open Go.RowKit Go.Proofs.Ytiaohjciddbpoaa.E Go.Proofs.Ytiaohjciddbpoaa.M5 Go.Proofs.Ytiaohjciddbpoaa.Frame Go.Proofs.Ytiaohjciddbpoaa.Hand Go.Proofs.YtiaohjciddbpoaaW.PrintLast Go.Proofs.YtiaohjciddbpoaaW.PrintMore
open Go.Proofs.YtiaohjciddbpoaaW.PrintWords hiding mn mx
theorem land_split (k a b m : Nat) (ha : a < 2 ^ k) : (a + 2 ^ k * b) &&& m = (a &&& (m % 2 ^ k)) + 2 ^ k * (b &&& (m / 2 ^ k)) := by
 have h1 : (a + 2 ^ k * b) / 2 ^ k = b := by
  rw [Nat.add_mul_div_left _ _ (Nat.two_pow_pos k), Nat.div_eq_of_lt ha, Nat.zero_add]
 have h2 : (a + 2 ^ k * b) % 2 ^ k = a := by
  rw [Nat.add_mul_mod_self_left, Nat.mod_eq_of_lt ha]
 have h3 := Nat.div_add_mod ((a + 2 ^ k * b) &&& m) (2 ^ k)
 rw [Nat.and_div_two_pow, Nat.and_mod_two_pow, h1, h2] at h3
 rw [← h3, Nat.add_comm]
theorem land_byte (a b m : Nat) (ha : a < 256) : (a + 256 * b) &&& m = (a &&& (m % 256)) + 256 * (b &&& (m / 256)) := land_split 8 a b m ha
def g1 (M x : Nat) : Nat := (x / 2 &&& M) + (x &&& M)
def g2 (M x : Nat) : Nat := (x / 4 &&& M) + (x &&& M)
def g3 (M x : Nat) : Nat := (x / 16 + x) &&& M
theorem c1 : ∀ a : Fin 256, ∀ t : Fin 2, (a.val / 2 + 128 * t.val) &&& 85 = a.val / 2 &&& 85 := by decide +kernel
theorem c2 : ∀ a : Fin 256, ∀ t : Fin 4, (a.val / 4 + 64 * t.val) &&& 51 = a.val / 4 &&& 51 := by decide +kernel
theorem c3 : ∀ a : Fin 69, ∀ t : Fin 5, (a.val / 16 + 16 * t.val + a.val) &&& 15 = (a.val / 16 + a.val) &&& 15 := by decide +kernel
theorem c4 : ∀ a : Fin 256, g1 85 a.val < 256 ∧ g2 51 (g1 85 a.val) ≤ 68 ∧ g2 51 (g1 85 a.val) % 16 ≤ 4 ∧ g3 15 (g2 51 (g1 85 a.val)) = ds 8 a.val := by decide +kernel
theorem g1_split (M a y : Nat) (hM : M % 256 = 85) (ha : a < 256) : g1 M (a + 256 * y) = g1 85 a + 256 * g1 (M / 256) y := by
 unfold g1
 have e : (a + 256 * y) / 2 = (a / 2 + 128 * (y % 2)) + 256 * (y / 2) := by omega
 rw [e, land_byte _ _ _ (by omega), land_byte _ _ _ ha, hM, c1 ⟨a, ha⟩ ⟨y % 2, by omega⟩]
 simp only
 omega
theorem g2_split (M a y : Nat) (hM : M % 256 = 51) (ha : a < 256) : g2 M (a + 256 * y) = g2 51 a + 256 * g2 (M / 256) y := by
 unfold g2
 have e : (a + 256 * y) / 4 = (a / 4 + 64 * (y % 4)) + 256 * (y / 4) := by omega
 rw [e, land_byte _ _ _ (by omega), land_byte _ _ _ ha, hM, c2 ⟨a, ha⟩ ⟨y % 4, by omega⟩]
 simp only
 omega
theorem g3_split (M a y : Nat) (hM : M % 256 = 15) (ha : a ≤ 68) (hy : y % 16 ≤ 4) : g3 M (a + 256 * y) = g3 15 a + 256 * g3 (M / 256) y := by
 unfold g3
 have e : (a + 256 * y) / 16 + (a + 256 * y) = (a / 16 + 16 * (y % 16) + a) + 256 * (y / 16 + y) := by omega
 rw [e, land_byte _ _ _ (by omega), hM, c3 ⟨a, by omega⟩ ⟨y % 16, by omega⟩]
theorem g_zero (M : Nat) : g1 M 0 = 0 ∧ g2 M 0 = 0 ∧ g3 M 0 = 0 := by simp [g1, g2, g3]
/-- Three bytes' ones. -/
theorem three (a b c : Nat) (ha : a < 256) (hb : b < 256) (hc : c < 256) : g3 1085102592571150095 (g2 3689348814741910323 (g1 6148914691236517205 (a + 256 * (b + 256 * c)))) = ds 8 a + 256 * (ds 8 b + 256 * ds 8 c) := by
 obtain ⟨a1, a2, a3, a4⟩ := c4 ⟨a, ha⟩
 obtain ⟨b1, b2, b3, b4⟩ := c4 ⟨b, hb⟩
 obtain ⟨d1, d2, d3, d4⟩ := c4 ⟨c, hc⟩
 simp only at a1 a2 a3 a4 b1 b2 b3 b4 d1 d2 d3 d4
 have z1 := g1_split (6148914691236517205 / 256 / 256) c 0 (by decide) hc
 rw [(g_zero _).1, Nat.mul_zero, Nat.add_zero, Nat.add_zero] at z1
 have z2 := g2_split (3689348814741910323 / 256 / 256) (g1 85 c) 0 (by decide) d1
 rw [(g_zero _).2.1, Nat.mul_zero, Nat.add_zero, Nat.add_zero] at z2
 have z3 := g3_split (1085102592571150095 / 256 / 256) (g2 51 (g1 85 c)) 0 (by decide) d2 (by omega)
 rw [(g_zero _).2.2, Nat.mul_zero, Nat.add_zero, Nat.add_zero] at z3
 rw [g1_split 6148914691236517205 a _ (by decide) ha, g1_split (6148914691236517205 / 256) b _ (by decide) hb, z1]
 rw [g2_split 3689348814741910323 _ _ (by decide) a1, g2_split (3689348814741910323 / 256) _ _ (by decide) b1, z2]
 rw [g3_split 1085102592571150095 _ _ (by decide) a2 (by omega), g3_split (1085102592571150095 / 256) _ _ (by decide) b2 (by omega), z3, a4, b4, d4]
theorem u64_id {n : Nat} (h : n < 2 ^ 64) : IntKind.u64.wrap (n : Int) = (n : Int) := by
 simp only [IntKind.wrap, IntKind.bits, IntKind.signed]
 simp
 omega
theorem and_u64 {a b : Nat} (ha : a < 2 ^ 64) (hb : b < 2 ^ 64) : Go.bits .and .u64 (a : Int) (b : Int) = ((a &&& b : Nat) : Int) := (bits_nat .u64 64 (by decide) (fun n h0 h1 => by
 obtain ⟨m, rfl⟩ := Int.eq_ofNat_of_zero_le h0
 exact u64_id (by omega)) a b ha hb).1
theorem fin_sum {A B C s t v : Nat} (hA : A ≤ 8) (hB : B ≤ 8) (hC : C ≤ 8) (h : s = A + 256 * (B + 256 * C)) (ht : s + s / 256 = t) (hv : t + t / 65536 = v) : v % 128 = A + (B + C) := by
 have k1 : s / 256 = B + 256 * C := by omega
 have k2 : t / 65536 = C := by omega
 have k3 : v = (A + (B + C)) + 128 * (2 * ((B + C) + 256 * C)) := by omega
 omega
theorem land_le (a m : Nat) : a &&& m ≤ a := Nat.and_le_left
theorem digitSum_eq {y : Int} (h : 1 ≤ y ∧ y ≤ 1000000) : impl_DigitSum.f y = some (((ds 20 y.toNat : Nat) : Int), true) := by
 obtain ⟨x, rfl⟩ := Int.eq_ofNat_of_zero_le (show 0 ≤ y by omega)
 rw [Int.toNat_natCast]
 unfold impl_DigitSum.f impl_isNumber.f
 rw [in_eq]
 simp only [Option.bind_some]
 rw [decide_eq_true h, if_pos rfl]
 have e0 : IntKind.u64.wrap (x : Int) = (x : Int) := u64_id (by omega)
 have s1 : (x : Int) / 2 ^ min (1 : Int).toNat IntKind.u64.bits = ((x / 2 : Nat) : Int) := rfl
 have q1 : Go.bits .and .u64 ((x / 2 : Nat) : Int) 6148914691236517205 = ((x / 2 &&& 6148914691236517205 : Nat) : Int) := and_u64 (b := 6148914691236517205) (by omega) (by decide)
 have q2 : Go.bits .and .u64 (x : Int) 6148914691236517205 = ((x &&& 6148914691236517205 : Nat) : Int) := and_u64 (b := 6148914691236517205) (by omega) (by decide)
 have l1 := land_le (x / 2) 6148914691236517205
 have l2 := land_le x 6148914691236517205
 obtain ⟨g, hg⟩ : ∃ g, g1 6148914691236517205 x = g := ⟨_, rfl⟩
 have hgb : g ≤ 2000000 := by rw [← hg]; unfold g1; omega
 have e1 : IntKind.u64.wrap (Go.bits .and .u64 ((x : Int) / 2 ^ min (1 : Int).toNat IntKind.u64.bits) 6148914691236517205 + Go.bits .and .u64 (x : Int) 6148914691236517205) = (g : Int) := by
  rw [s1, q1, q2, ← Int.natCast_add, show (x / 2 &&& 6148914691236517205) + (x &&& 6148914691236517205) = g from hg]
  exact u64_id (by omega)
 have s2 : (g : Int) / 2 ^ min (2 : Int).toNat IntKind.u64.bits = ((g / 4 : Nat) : Int) := rfl
 have q3 : Go.bits .and .u64 ((g / 4 : Nat) : Int) 3689348814741910323 = ((g / 4 &&& 3689348814741910323 : Nat) : Int) := and_u64 (b := 3689348814741910323) (by omega) (by decide)
 have q4 : Go.bits .and .u64 (g : Int) 3689348814741910323 = ((g &&& 3689348814741910323 : Nat) : Int) := and_u64 (b := 3689348814741910323) (by omega) (by decide)
 have l3 := land_le (g / 4) 3689348814741910323
 have l4 := land_le g 3689348814741910323
 obtain ⟨u, hu⟩ : ∃ u, g2 3689348814741910323 g = u := ⟨_, rfl⟩
 have hub : u ≤ 4000000 := by rw [← hu]; unfold g2; omega
 have e2 : IntKind.u64.wrap (Go.bits .and .u64 ((g : Int) / 2 ^ min (2 : Int).toNat IntKind.u64.bits) 3689348814741910323 + Go.bits .and .u64 (g : Int) 3689348814741910323) = (u : Int) := by
  rw [s2, q3, q4, ← Int.natCast_add, show (g / 4 &&& 3689348814741910323) + (g &&& 3689348814741910323) = u from hu]
  exact u64_id (by omega)
 have s3 : (u : Int) / 2 ^ min (4 : Int).toNat IntKind.u64.bits = ((u / 16 : Nat) : Int) := rfl
 have e3a : IntKind.u64.wrap ((u : Int) / 2 ^ min (4 : Int).toNat IntKind.u64.bits + (u : Int)) = ((u / 16 + u : Nat) : Int) := by
  rw [s3, ← Int.natCast_add]
  exact u64_id (by omega)
 obtain ⟨s, hs⟩ : ∃ s, g3 1085102592571150095 u = s := ⟨_, rfl⟩
 have e3 : Go.bits .and .u64 (IntKind.u64.wrap ((u : Int) / 2 ^ min (4 : Int).toNat IntKind.u64.bits + (u : Int))) 1085102592571150095 = (s : Int) := by
  rw [e3a, show (s : Int) = ((u / 16 + u &&& 1085102592571150095 : Nat) : Int) by rw [← hs]; rfl]
  exact and_u64 (b := 1085102592571150095) (by omega) (by decide)
 -- the bytes
 obtain ⟨a, b, c, hx, ha, hb, hc⟩ : ∃ a b c : Nat, x = a + 256 * (b + 256 * c) ∧ a < 256 ∧ b < 256 ∧ c < 16 := ⟨x % 256, x / 256 % 256, x / 65536, by omega, by omega, by omega, by omega⟩
 have h3 := three a b c ha hb (by omega)
 rw [← hx, hg, hu, hs] at h3
 have da := ds_le 8 a
 have db := ds_le 8 b
 have dc := ds_le 8 c
 have s4 : (s : Int) / 2 ^ min (8 : Int).toNat IntKind.u64.bits = ((s / 256 : Nat) : Int) := rfl
 obtain ⟨t, ht⟩ : ∃ t, s + s / 256 = t := ⟨_, rfl⟩
 have e4 : IntKind.u64.wrap ((s : Int) + (s : Int) / 2 ^ min (8 : Int).toNat IntKind.u64.bits) = (t : Int) := by
  rw [s4, ← Int.natCast_add, ht]
  exact u64_id (by omega)
 have s5 : (t : Int) / 2 ^ min (16 : Int).toNat IntKind.u64.bits = ((t / 65536 : Nat) : Int) := rfl
 obtain ⟨v, hv⟩ : ∃ v, t + t / 65536 = v := ⟨_, rfl⟩
 have e5 : IntKind.u64.wrap ((t : Int) + (t : Int) / 2 ^ min (16 : Int).toNat IntKind.u64.bits) = (v : Int) := by
  rw [s5, ← Int.natCast_add, hv]
  exact u64_id (by omega)
 have s6 : (v : Int) / 2 ^ min (32 : Int).toNat IntKind.u64.bits = ((v / 4294967296 : Nat) : Int) := rfl
 have hv32 : v / 4294967296 = 0 := by omega
 have e6 : IntKind.u64.wrap ((v : Int) + (v : Int) / 2 ^ min (32 : Int).toNat IntKind.u64.bits) = (v : Int) := by
  rw [s6, hv32]
  exact u64_id (by omega)
 have e7 : Go.bits .and .i64 (w64 (v : Int)) 127 = ((v % 128 : Nat) : Int) := by
  rw [zam (by omega)]
  have := bits_mask .i64 62 (by decide) (fun n h0 h1 => zam (by omega)) 7 (by omega) (v : Int) (by omega) (by omega)
  simpa using this
 have hds : ds 20 x = ds 8 a + (ds 8 b + ds 8 c) := by
  rw [show (20 : Nat) = 8 + 12 by omega, ds_add 8 12 x, ← ds_mod 8 x, show (12 : Nat) = 8 + 4 by omega, ds_add 8 4 (x / 2 ^ 8), ← ds_mod 8 (x / 2 ^ 8)]
  have x1 : x % 2 ^ 8 = a := by omega
  have x2 : x / 2 ^ 8 % 2 ^ 8 = b := by omega
  have x3 : x / 2 ^ 8 / 2 ^ 8 = c := by omega
  rw [x1, x2, x3, ← ds_cut 4 8 c (by omega) (by omega)]
 have hfin : v % 128 = ds 20 x := (fin_sum da db dc h3 ht hv).trans hds.symm
 rw [e0, e1, e2, e3, e4, e5, e6, e7, hfin]
 rfl
theorem win_good (x n : Nat) (h0 : 1 ≤ (x : Int) ∧ (x : Int) ≤ 1000000) (hn : 2 ≤ n ∧ n ≤ 3) : ∃ s v, Good 1 s [v] ∧ ex s v = (x : Int) ∧ Ev (fun k => impl_WindowPlan.f k (x : Int) (n : Int)) (1, s, [v], true) ∧ Ev (fun k => spec_meWindow.f k (x : Int) (n : Int)) (s, [v]) := by
 obtain ⟨l, v, hg, hx, _, h40, e1, e3⟩ := window_res x n h0 (by omega)
 have hl := kS_len 1 l [v]
 have hG := kept_goodW hg (by rw [hx]; exact h0) (Nat.le_trans hl (h40 hn))
 rw [toldP_good hG] at e1
 exact ⟨kS 1 l [v], pl 1 (us 1 l [v]) v, hG, by rw [ex_kept hg, hx], e1, e3⟩
theorem sli_good (x n : Nat) (h0 : 1 ≤ (x : Int) ∧ (x : Int) ≤ 1000000) (hn : 2 ≤ n ∧ n ≤ 3) : ∃ s v, Good 1 s [v] ∧ ex s v = (x : Int) ∧ Ev (fun k => impl_SlidingPlan.f k (x : Int) (n : Int)) (1, s, [v], true) ∧ Ev (fun k => spec_meSliding.f k (x : Int) (n : Int)) (s, [v]) := by
 obtain ⟨l, v, hg, hx, _, h40, e1, e3⟩ := sliding_res x n h0 (by omega)
 have hl := kS_len 1 l [v]
 have hG := kept_goodW hg (by rw [hx]; exact h0) (Nat.le_trans hl (h40 hn))
 rw [toldP_good hG] at e1
 exact ⟨kS 1 l [v], pl 1 (us 1 l [v]) v, hG, by rw [ex_kept hg, hx], e1, e3⟩
theorem bin_all (x : Nat) (h0 : 1 ≤ (x : Int) ∧ (x : Int) ≤ 1000000) : Good 1 (bin x).1 [(bin x).2] ∧ ex (bin x).1 (bin x).2 = (x : Int) ∧ (bin x).1.length + 2 = Lib.bitLen x + ds (Lib.bitLen x) x ∧ Ev (fun k => impl_BinaryPlan.f k (x : Int)) (1, (bin x).1, [(bin x).2], true) ∧ Ev (fun k => spec_meBinary.f k (x : Int)) ((bin x).1, [(bin x).2]) := by
 obtain ⟨l, v, hg, hx, hb, _⟩ := window_res x 1 h0 ⟨by decide, by decide⟩
 have e := hb rfl
 have hch := bin_ch x
 have hL2 : Lib.bitLen x ≤ 20 := Lib.bitLen_le x 20 (by omega) (by omega)
 have hlen := bin_len x hL2
 have hbr := binary_res x h0
 have hbs := meBinary_ev x h0
 have hbc := bin_cost x (by omega)
 rw [← e] at hch hlen hbr hbs hbc ⊢
 have hk := ch_kept hg hch
 have hG := kept_goodW hg (by rw [hx]; exact h0) (by rw [hk.1]; simp only at hlen; omega)
 rw [hk.1, hk.2] at hG
 rw [toldP_good hG] at hbr
 exact ⟨hG, hx, hbc, hbr, hbs⟩
theorem fac_good (x : Nat) (h0 : 1 ≤ x ∧ x ≤ 1000000) : ∃ s v, Good 1 s [v] ∧ ex s v = (x : Int) ∧ Ev (fun k => impl_FactorPlan.f k (x : Int)) (1, s, [v], true) ∧ Ev (fun k => spec_meFactors.f k (x : Int)) (s, [v]) := by
 obtain ⟨s, v, f⟩ := Fc.fac x h0.1 h0.2
 have hl := Fc.len40 h0.2 f.size
 have hG : Good 1 s [v] := good_iff.1 (f.good h0.2)
 refine ⟨s, v, hG, ?_, f.implE, f.specE⟩
 have h1 := pw_one hG
 have h2 : pw 1 s [v] = [[Fc.at1 (Fc.g1 [1] s) v]] := by
  have hin := f.inb
  have hgl := Fc.g1_len [1] s
  unfold pw
  rw [Fc.exps_g1 s (by omega) f.form, List.map_cons, List.map_nil]
  congr 1
  unfold Fc.at1
  rw [List.getD_eq_getElem?_getD, List.getElem?_map, List.getD_eq_getElem?_getD, List.getElem?_eq_getElem (by rw [hgl]; simp; omega)]
  rfl
 rw [h1, f.top] at h2
 injection h2 with h3 _
 injection h3
/-! so many steps at least -/
theorem ex_pow {l : List SStep} (h : Ok 1 l) : ∀ m : Nat, m ≤ l.length → ex l (m : Int) ≤ ((2 ^ m : Nat) : Int) := by
 intro m
 induction m using Nat.strongRecOn with
 | _ m ih =>
  intro hm
  cases m with
  | zero =>
   have e : ex l 0 = 1 := vl_pre l [1] (by omega) (by simp)
   show ex l 0 ≤ _
   rw [e]
   exact Int.le_refl _
  | succ m =>
   have hl : m < l.length := by omega
   have hy := List.getElem?_eq_getElem hl
   have q := h.at hy
   have hs := ex_step h hy
   rw [show 1 + m = m + 1 by omega] at hs
   rw [hs]
   obtain ⟨a, ha⟩ := Int.eq_ofNat_of_zero_le q.1
   obtain ⟨b, hb⟩ := Int.eq_ofNat_of_zero_le (show 0 ≤ l[m].f1 by omega)
   have h1 := ih a (by omega) (by omega)
   have h2 := ih b (by omega) (by omega)
   have p1 : (2 : Nat) ^ a ≤ 2 ^ m := Nat.pow_le_pow_right (by omega) (by omega)
   have p2 : (2 : Nat) ^ b ≤ 2 ^ m := Nat.pow_le_pow_right (by omega) (by omega)
   have p3 : (2 : Nat) ^ (m + 1) = 2 ^ m * 2 := Nat.pow_succ 2 m
   rw [ha, hb]
   omega
theorem least_steps {l : List SStep} {v : Int} {x : Nat} (h : Good 1 l [v]) (hx : ex l v = (x : Int)) (h0 : 1 ≤ x ∧ x ≤ 1000000) : Lib.bitLen x ≤ l.length + 1 := by
 have q := h.os v (by simp)
 obtain ⟨m, rfl⟩ := Int.eq_ofNat_of_zero_le q.1
 have h1 := ex_pow h.ok m (by omega)
 rw [hx] at h1
 have h2 : (2 : Nat) ^ m ≤ 2 ^ l.length := Nat.pow_le_pow_right (by omega) (by omega)
 have h3 : x < 2 ^ (l.length + 1) := by
  have h4 := Nat.two_pow_pos l.length
  rw [Nat.pow_succ]
  omega
 have := h.stp
 exact Lib.bitLen_le x (l.length + 1) (by omega) h3
theorem plans_no (a : Int) (h : ¬ (1 ≤ a ∧ a ≤ 1000000)) : Ev (fun k => impl_methodPlans.f k a) (0, [], [], 0, [], [], 0, [], [], 0, [], [], 0, [], [], 0, [], [], 0, [], [], false) := by
 have hn : impl_isNumber.f a = some false := by
  unfold impl_isNumber.f
  rw [in_eq]
  simp only [Option.bind_some]
  rw [decide_eq_false h]
 have hw : ∀ w : Int, impl_windowOk.f a w = some false := fun w => by
  unfold impl_windowOk.f
  rw [hn]
  rfl
 have e1 : Ev (fun k => impl_BinaryPlan.f k a) (0, [], [], false) := by
  unfold impl_BinaryPlan.f
  exact bind0 hn (neg (by simp) (ret _))
 have e2 : Ev (fun k => impl_RightPlan.f k a) (0, [], [], false) := by
  unfold impl_RightPlan.f
  exact bind0 hn (neg (by simp) (ret _))
 have e3 : ∀ w : Int, Ev (fun k => impl_WindowPlan.f k a w) (0, [], [], false) := fun w => by
  unfold impl_WindowPlan.f
  exact bind0 (hw w) (neg (by simp) (ret _))
 have e4 : ∀ w : Int, Ev (fun k => impl_SlidingPlan.f k a w) (0, [], [], false) := fun w => by
  unfold impl_SlidingPlan.f impl_WindowsOf.f
  exact bind (a := (([] : List Int), false)) (bind0 (hw w) (neg (by simp) (ret _))) (neg (by simp) (ret _))
 have e5 : Ev (fun k => impl_FactorPlan.f k a) (0, [], [], false) := by
  refine shift ?_
  simp only [impl_FactorPlan.f]
  exact bind0 hn (neg (by simp) (ret _))
 unfold impl_methodPlans.f
 exact bind e1 (bind e2 (bind (e3 2) (bind (e3 3) (bind (e4 2) (bind (e4 3) (bind e5 (neg (by simp) (ret _))))))))
/-- The shorter one of two plans, the first one if they are as long. -/
def bt (p q : List SStep × List Int) : List SStep × List Int := if q.1.length < p.1.length then q else p
theorem bt_or (p q : List SStep × List Int) : bt p q = p ∨ bt p q = q := by
 unfold bt
 split
 ·exact .inr rfl
 ·exact .inl rfl
theorem bt_le (p q : List SStep × List Int) : (bt p q).1.length ≤ p.1.length ∧ (bt p q).1.length ≤ q.1.length := by
 unfold bt
 split
 ·exact ⟨by omega, Nat.le_refl _⟩
 ·exact ⟨Nat.le_refl _, by omega⟩
theorem stepI {β : Type} (p q : List SStep × List Int) (hp : p.1.length ≤ 100000) (hq : q.1.length ≤ 100000) (K : Int × List SStep × List Int → Option β) : (((impl_BestPlan_1.f 1 q.1 q.2 1 p.1 p.2).bind fun _ => if w64 ((q.1.length : Int) - (p.1.length : Int)) < 0 then some ((1 : Int), q.1, q.2) else some (1, p.1, p.2)).bind K) = K (1, (bt p q).1, (bt p q).2) := by
 unfold impl_BestPlan_1.f bt
 rw [Option.bind_some, zam (by omega)]
 by_cases c : q.1.length < p.1.length
 ·rw [if_pos (by omega), if_pos c]
  rfl
 ·rw [if_neg (by omega), if_neg c]
  rfl
/-- The first one of the shortest of seven plans. -/
def best (p0 p1 p2 p3 p4 p5 p6 : List SStep × List Int) : List SStep × List Int := bt (bt (bt (bt (bt (bt p0 p1) p2) p3) p4) p5) p6
theorem best_all {p0 p1 p2 p3 p4 p5 p6 : List SStep × List Int} {Q : List SStep × List Int → Prop} (h0 : Q p0) (h1 : Q p1) (h2 : Q p2) (h3 : Q p3) (h4 : Q p4) (h5 : Q p5) (h6 : Q p6) : Q (best p0 p1 p2 p3 p4 p5 p6) := by
 have key : ∀ p q, Q p → Q q → Q (bt p q) := fun p q hp hq => by
  rcases bt_or p q with e | e <;> rw [e] <;> assumption
 exact key _ _ (key _ _ (key _ _ (key _ _ (key _ _ (key _ _ h0 h1) h2) h3) h4) h5) h6
set_option maxHeartbeats 2000000 in
theorem minFunc_eq (p0 p1 p2 p3 p4 p5 p6 : List SStep × List Int) (h0 : p0.1.length ≤ 100000) (h1 : p1.1.length ≤ 100000) (h2 : p2.1.length ≤ 100000) (h3 : p3.1.length ≤ 100000) (h4 : p4.1.length ≤ 100000) (h5 : p5.1.length ≤ 100000) (h6 : p6.1.length ≤ 100000) :
  slices_MinFunc_impl_Plan_impl_Plan.f 1 p0.1 p0.2 1 p1.1 p1.2 1 p2.1 p2.2 1 p3.1 p3.2 1 p4.1 p4.2 1 p5.1 p5.2 1 p6.1 p6.2 = some (1, (best p0 p1 p2 p3 p4 p5 p6).1, (best p0 p1 p2 p3 p4 p5 p6).2) := by
 have key : ∀ p q : List SStep × List Int, p.1.length ≤ 100000 → q.1.length ≤ 100000 → (bt p q).1.length ≤ 100000 := fun p q hp hq => by
  rcases bt_or p q with e | e <;> rw [e] <;> assumption
 have k1 := key _ _ h0 h1
 have k2 := key _ _ k1 h2
 have k3 := key _ _ k2 h3
 have k4 := key _ _ k3 h4
 have k5 := key _ _ k4 h5
 unfold slices_MinFunc_impl_Plan_impl_Plan.f
 refine (stepI p0 p1 h0 h1 _).trans ?_
 refine (stepI _ p2 k1 h2 _).trans ?_
 refine (stepI _ p3 k2 h3 _).trans ?_
 refine (stepI _ p4 k3 h4 _).trans ?_
 refine (stepI _ p5 k4 h5 _).trans ?_
 exact stepI _ p6 k5 h6 _
theorem drawM {c : List Int} (hc : Bytes c) (hl : c.length ≤ 1048576) : ∃ i, spec_DrawMethodCosts.f c = some i := by
 obtain ⟨x, a1, s1, e1, _, _, b1⟩ := pick_ev hc hl (a := 0) (m := 20) ⟨by omega, by omega⟩ 0 8
 obtain ⟨y, a2, s2, e2⟩ : ∃ y a2 s2, spec_l1Cur_number.f c 0 0 = some (y, a2, s2) := by
  unfold spec_l1Cur_number.f
  rw [e1, Option.bind_some]
  simp only
  split
  ·obtain ⟨y, a2, s2, e2, _, b2⟩ := among_ev hc hl (m := 19) b1 s1 [(-1), 0, 1, 2, 1000000, 1000001] (by simp)
   rw [e2]
   exact ⟨_, _, _, rfl⟩
  ·split
   ·obtain ⟨y, a2, s2, e2, _, _, b2⟩ := pick_ev hc hl (m := 19) b1 s1 1000000
    rw [e2]
    exact ⟨_, _, _, rfl⟩
   ·obtain ⟨y, a2, s2, e2, _, _, b2⟩ := pick_ev hc hl (m := 19) b1 s1 120
    rw [e2]
    exact ⟨_, _, _, rfl⟩
 unfold spec_DrawMethodCosts.f
 rw [e2]
 exact ⟨_, rfl⟩
theorem costs_loop (s : List SStep) : ∀ (l : List Int) (j : Int), (∀ y ∈ l, (s.length : Int) ≤ y) → laws_FnMethods.l0 s l j = some (.inr ())
 | [], _, _ => rfl
 | y :: ys, j, h => by
  simp only [laws_FnMethods.l0]
  rw [if_neg (by have := h y List.mem_cons_self; omega)]
  exact costs_loop s ys _ (fun z hz => h z (List.mem_cons_of_mem _ hz))
theorem pHas_in (a : Int) (l : List Int) (h : a ∈ l) : laws_pHas.f l a = some true := by
 have key : ∀ (l : List Int) (j : Int), a ∈ l → laws_pHas.l0 a l j = some (.inl true) := fun l => by
  induction l with
  | nil => intro j h; cases h
  | cons y ys ih =>
   intro j h
   simp only [laws_pHas.l0]
   by_cases c : y = a
   ·rw [if_pos c]
   ·rw [if_neg c]
    rcases List.mem_cons.1 h with e | e
    ·exact absurd e.symm c
    ·exact ih _ e
 unfold laws_pHas.f
 rw [key l 0 h]
 rfl
theorem bitLength_eq (x : Nat) (h : 1 ≤ x ∧ x ≤ 1000000) : impl_BitLength.f (x : Int) = some (((Lib.bitLen x : Nat) : Int), true) := by
 have hn : impl_isNumber.f (x : Int) = some true := by
  unfold impl_isNumber.f
  rw [in_eq]
  simp only [Option.bind_some]
  rw [decide_eq_true (by omega)]
 unfold impl_BitLength.f
 rw [hn, Option.bind_some, if_pos rfl, len_eq x (by omega)]
 rfl
theorem best_le {p0 p1 p2 p3 p4 p5 p6 : List SStep × List Int} : (best p0 p1 p2 p3 p4 p5 p6).1.length ≤ p0.1.length ∧ (best p0 p1 p2 p3 p4 p5 p6).1.length ≤ p1.1.length ∧ (best p0 p1 p2 p3 p4 p5 p6).1.length ≤ p2.1.length ∧ (best p0 p1 p2 p3 p4 p5 p6).1.length ≤ p3.1.length ∧ (best p0 p1 p2 p3 p4 p5 p6).1.length ≤ p4.1.length ∧ (best p0 p1 p2 p3 p4 p5 p6).1.length ≤ p5.1.length ∧ (best p0 p1 p2 p3 p4 p5 p6).1.length ≤ p6.1.length := by
 have a1 := bt_le p0 p1
 have a2 := bt_le (bt p0 p1) p2
 have a3 := bt_le (bt (bt p0 p1) p2) p3
 have a4 := bt_le (bt (bt (bt p0 p1) p2) p3) p4
 have a5 := bt_le (bt (bt (bt (bt p0 p1) p2) p3) p4) p5
 have a6 := bt_le (bt (bt (bt (bt (bt p0 p1) p2) p3) p4) p5) p6
 unfold best
 omega
set_option maxHeartbeats 8000000 in
theorem FnMethods : laws_FnMethods.Pure := by
 intro c1 c2 l1_ w1 l2_ w2
 refine some_of ?_
 unfold laws_FnMethods.f
 obtain ⟨b, hb1, hb2⟩ := big_eq c1 c2 l1_ l2_
 refine bind0 hb1 ?_
 cases b with
 | true => exact pos rfl (ret _)
 | false =>
  refine neg (by simp) ?_
  obtain ⟨a, e1⟩ := drawM (byte_in w1) (hb2 rfl).1
  refine bind0 e1 ?_
  have hch : spec_chNumber.f a = some (decide (1 ≤ a ∧ a ≤ 1000000)) := by
   unfold spec_chNumber.f
   rw [l1In_eq]
   rfl
  by_cases h0 : 1 ≤ a ∧ a ≤ 1000000
  ·obtain ⟨x, rfl⟩ := Int.eq_ofNat_of_zero_le (show 0 ≤ a by omega)
   rw [decide_eq_true h0] at hch
   have h0' : 1 ≤ x ∧ x ≤ 1000000 := by omega
   obtain ⟨bG, bX, bL, b1, b2⟩ := bin_all x h0
   obtain ⟨rl, rr, rG, rX, rL, r1, r2⟩ := right_res x h0
   obtain ⟨s2, v2, w2G, w2X, w21, w22⟩ := win_good x 2 h0 (by omega)
   obtain ⟨s3, v3, w3G, w3X, w31, w32⟩ := win_good x 3 h0 (by omega)
   obtain ⟨t2, u2, x2G, x2X, x21, x22⟩ := sli_good x 2 h0 (by omega)
   obtain ⟨t3, u3, x3G, x3X, x31, x32⟩ := sli_good x 3 h0 (by omega)
   obtain ⟨fs, fv, fG, fX, f1, f2⟩ := fac_good x h0'
   have hds := digitSum_eq (y := (x : Int)) h0
   rw [Int.toNat_natCast] at hds
   have hbl := bitLength_eq x h0'
   have hcut : ds 20 x = ds (Lib.bitLen x) x := ds_cut _ _ _ (lt_bitLen (Lib.bitLen x) x rfl (by omega)) (Lib.bitLen_le x 20 (by omega) (by omega))
   rw [hcut] at hds
   have hb20 : Lib.bitLen x ≤ 20 := Lib.bitLen_le x 20 (by omega) (by omega)
   have hd20 := ds_le (Lib.bitLen x) x
   have m1 : Ev (fun k => impl_methodPlans.f k (x : Int)) (1, (bin x).1, [(bin x).2], 1, rl, [rr], 1, s2, [v2], 1, s3, [v3], 1, t2, [u2], 1, t3, [u3], 1, fs, [fv], true) := by
    unfold impl_methodPlans.f
    exact bind b1 (bind r1 (bind w21 (bind w31 (bind x21 (bind x31 (bind f1 (pos rfl (pos rfl (pos rfl (pos rfl (pos rfl (pos rfl (ret _)))))))))))))
   have m2 : Ev (fun k => spec_mePlans.f k (x : Int)) ((bin x).1, [(bin x).2], rl, [rr], s2, [v2], s3, [v3], t2, [u2], t3, [u3], fs, [fv]) := by
    unfold spec_mePlans.f
    exact bind b2 (bind r2 (bind w22 (bind w32 (bind x22 (bind x32 (bind f2 (ret _)))))))
   have k1 : Ev (fun k => impl_MethodCosts.f k (x : Int)) ([((bin x).1.length : Int), (rl.length : Int), (s2.length : Int), (s3.length : Int), (t2.length : Int), (t3.length : Int), (fs.length : Int)], true) := by
    unfold impl_MethodCosts.f
    exact bind m1 (pos rfl (bind0 (ap_ok (by simp)) (bind0 (ap_ok (by simp)) (bind0 (ap_ok (by simp)) (bind0 (ap_ok (by simp)) (bind0 (ap_ok (by simp)) (bind0 (ap_ok (by simp)) (bind0 (ap_ok (by simp)) (ret _)))))))))
   have k2 : Ev (fun k => spec_MethodCosts.f k (x : Int)) ([((bin x).1.length : Int), (rl.length : Int), (s2.length : Int), (s3.length : Int), (t2.length : Int), (t3.length : Int), (fs.length : Int)], true) := by
    unfold spec_MethodCosts.f
    exact bind0 hch (pos rfl (bind m2 (bind0 (ap_ok (by simp)) (bind0 (ap_ok (by simp)) (bind0 (ap_ok (by simp)) (bind0 (ap_ok (by simp)) (bind0 (ap_ok (by simp)) (bind0 (ap_ok (by simp)) (bind0 (ap_ok (by simp)) (ret _))))))))))
   have kc : Ev (fun k => impl_BinaryCost.f k (x : Int)) (((bin x).1.length : Int), true) := by
    unfold impl_BinaryCost.f
    exact bind b1 (ret _)
   have p1 := pEnds_ev bG bX
   have p2 := pEnds_ev rG rX
   have p3 := pEnds_ev fG fX
   generalize (bin x).1 = q0 at *
   generalize (bin x).2 = q1 at *
   have hm := minFunc_eq (q0, [q1]) (rl, [rr]) (s2, [v2]) (s3, [v3]) (t2, [u2]) (t3, [u3]) (fs, [fv]) (Nat.le_trans bG.stp (by omega)) (Nat.le_trans rG.stp (by omega)) (Nat.le_trans w2G.stp (by omega)) (Nat.le_trans w3G.stp (by omega)) (Nat.le_trans x2G.stp (by omega)) (Nat.le_trans x3G.stp (by omega)) (Nat.le_trans fG.stp (by omega))
   have hB : ∃ v, (best (q0, [q1]) (rl, [rr]) (s2, [v2]) (s3, [v3]) (t2, [u2]) (t3, [u3]) (fs, [fv])).2 = [v] ∧ Good 1 (best (q0, [q1]) (rl, [rr]) (s2, [v2]) (s3, [v3]) (t2, [u2]) (t3, [u3]) (fs, [fv])).1 [v] ∧ ex (best (q0, [q1]) (rl, [rr]) (s2, [v2]) (s3, [v3]) (t2, [u2]) (t3, [u3]) (fs, [fv])).1 v = (x : Int) :=
    best_all (Q := fun p => ∃ v, p.2 = [v] ∧ Good 1 p.1 [v] ∧ ex p.1 v = (x : Int)) ⟨_, rfl, bG, bX⟩ ⟨_, rfl, rG, rX⟩ ⟨_, rfl, w2G, w2X⟩ ⟨_, rfl, w3G, w3X⟩ ⟨_, rfl, x2G, x2X⟩ ⟨_, rfl, x3G, x3X⟩ ⟨_, rfl, fG, fX⟩
   have hI : ((best (q0, [q1]) (rl, [rr]) (s2, [v2]) (s3, [v3]) (t2, [u2]) (t3, [u3]) (fs, [fv])).1.length : Int) ∈ [(q0.length : Int), (rl.length : Int), (s2.length : Int), (s3.length : Int), (t2.length : Int), (t3.length : Int), (fs.length : Int)] :=
    best_all (Q := fun p => (p.1.length : Int) ∈ [(q0.length : Int), (rl.length : Int), (s2.length : Int), (s3.length : Int), (t2.length : Int), (t3.length : Int), (fs.length : Int)]) (by simp) (by simp) (by simp) (by simp) (by simp) (by simp) (by simp)
   have hL := @best_le (q0, [q1]) (rl, [rr]) (s2, [v2]) (s3, [v3]) (t2, [u2]) (t3, [u3]) (fs, [fv])
   generalize best (q0, [q1]) (rl, [rr]) (s2, [v2]) (s3, [v3]) (t2, [u2]) (t3, [u3]) (fs, [fv]) = B at *
   obtain ⟨B1, B2⟩ := B
   obtain ⟨bv, hB2, hBG, hBX⟩ := hB
   simp only at hB2 hBG hBX hm hI hL
   subst hB2
   have kb : Ev (fun k => impl_BestPlan.f k (x : Int)) (1, B1, [bv], true) := by
    unfold impl_BestPlan.f
    exact bind m1 (pos rfl (bind0 hm (ret _)))
   have p4 := pEnds_ev hBG hBX
   have hle := least_steps hBG hBX h0'
   have hBs := hBG.stp
   have hloop := costs_loop B1 [(q0.length : Int), (rl.length : Int), (s2.length : Int), (s3.length : Int), (t2.length : Int), (t3.length : Int), (fs.length : Int)] 0 (fun y hy => by
    simp only [List.mem_cons, List.not_mem_nil, or_false] at hy
    omega)
   have hhas := pHas_in _ _ hI
   have hq : ((q0.length : Nat) : Int) = w64 (w64 (((Lib.bitLen x : Nat) : Int) + ((ds (Lib.bitLen x) x : Nat) : Int)) - 2) := by
    have e1 : w64 (((Lib.bitLen x : Nat) : Int) + ((ds (Lib.bitLen x) x : Nat) : Int)) = (((Lib.bitLen x : Nat) : Int) + ((ds (Lib.bitLen x) x : Nat) : Int)) := zam (by omega)
    rw [e1, zam (by omega)]
    omega
   have hqr : ((rl.length : Nat) : Int) = (q0.length : Int) := by omega
   have hfin : w64 (((Lib.bitLen x : Nat) : Int) - 1) ≤ (B1.length : Int) := by
    rw [zam (by omega)]
    omega
   refine bind k1 (bind k2 (neg (by simp) (bind0 (pSameInts_refl _) (pos rfl (pos rfl (bind b1 (bind r1 (bind f1 (bind kb (pos rfl (pos rfl (pos rfl (pos rfl (bind p1 (pos rfl (bind p2 (pos rfl (bind p3 (pos rfl (bind p4 (pos rfl ?_)))))))))))))))))))))
   refine neg (by simp) (bind0 (a := (q0.length : Int)) rfl (neg (by simp) (bind0 (a := (rl.length : Int)) rfl (neg (by simp) (bind0 (a := (fs.length : Int)) rfl (neg (by simp) (bind0 hloop (bind0 hbl (bind0 hds (bind kc (pos rfl (pos rfl (pos rfl (bind0 hhas (pos rfl (pos hq (bind0 (a := (rl.length : Int)) rfl (pos hqr ?_))))))))))))))))))
   rw [decide_eq_true hfin]
   exact ret _
  ·rw [decide_eq_false h0] at hch
   have n1 : Ev (fun k => impl_MethodCosts.f k a) ([], false) := by
    unfold impl_MethodCosts.f
    exact bind (plans_no a h0) (neg (by simp) (ret _))
   have n2 : Ev (fun k => spec_MethodCosts.f k a) ([], false) := by
    unfold spec_MethodCosts.f
    exact bind0 hch (neg (by simp) (ret _))
   exact bind n1 (bind n2 (neg (by simp) (bind0 (pSameInts_refl []) (pos rfl (neg (by simp) (ret _))))))
end Go.Proofs.Ytiaohjciddbpoaa.Pure
