/- Pure: Pfac1, Pfac2, Pfac3, Pfac4, Pfac5. -/
import Derived.Test.YtiaohjciddbpoaaKFnMethodsPna
set_option linter.unusedVariables false
set_option linter.unusedSimpArgs false
namespace Go.Proofs.Ytiaohjciddbpoaa.Pure.Fc
open Go.RowKit Go.Proofs.Ytiaohjciddbpoaa.E Go.Proofs.Ytiaohjciddbpoaa.M5 Go.Proofs.Ytiaohjciddbpoaa.Frame Go.Proofs.YtiaohjciddbpoaaW.PrintLast Go.Proofs.YtiaohjciddbpoaaW.PrintMore
open Go.Proofs.YtiaohjciddbpoaaW.PrintWords hiding mn mx
theorem factor_same (a : Int) : ∀ (k : Nat) (i : Int), impl_leastFactor.l0 a k i = spec_meFactor.l0 a k i := by
 intro k
 induction k with
 | zero => intro i; rfl
 | succ k ih =>
  intro i
  simp only [impl_leastFactor.l0, spec_meFactor.l0, ih]
theorem factor_same' (a : Int) (k : Nat) : impl_leastFactor.f k a = spec_meFactor.f k a := by
 unfold impl_leastFactor.f spec_meFactor.f
 rw [factor_same a k 2]
 cases spec_meFactor.l0 a k 2 with
 | none => rfl
 | some o => cases o <;> rfl
theorem factor_loop (n : Nat) (hn : n ≤ 1000000) : ∀ (d i : Nat), 2 ≤ i → i + d = n + 1 → ∃ r, Ev (fun k => spec_meFactor.l0 (n : Int) k (i : Int)) r ∧ ((∃ p : Nat, r = .inl (p : Int) ∧ i ≤ p ∧ p * p ≤ n ∧ p ∣ n ∧ (i = 2 → 2 ∣ n → p = 2)) ∨ r = .inr () ∧ (i = 2 → 2 ∣ n → n ≤ 3)) := by
 intro d
 induction d with
 | zero =>
  intro i h2 hi
  refine ⟨.inr (), shift ?_, .inr ⟨rfl, fun h _ => by omega⟩⟩
  simp only [spec_meFactor.l0]
  have : n + 1 ≤ i * i := by
   have := Nat.mul_le_mul_right i h2
   omega
  have hw : w64 ((i : Int) * i) = ((i * i : Nat) : Int) := by
   have h3 : i * i ≤ 1000001 * 1000001 := Nat.mul_le_mul (by omega) (by omega)
   rw [zam (by rw [← Int.natCast_mul]; omega), Int.natCast_mul]
  rw [hw]
  exact neg (by omega) (ret _)
 | succ d ih =>
  intro i h2 hi
  have h3 : i * i ≤ 1000001 * 1000001 := Nat.mul_le_mul (by omega) (by omega)
  have hw : w64 ((i : Int) * i) = ((i * i : Nat) : Int) := by
   rw [zam (by rw [← Int.natCast_mul]; omega), Int.natCast_mul]
  have hz : nz (i : Int) = some () := by
   unfold nz
   rw [if_neg (by omega)]
  by_cases hle : i * i ≤ n
  ·by_cases hd : n % i = 0
   ·refine ⟨.inl (i : Int), shift ?_, .inl ⟨i, rfl, Nat.le_refl _, hle, Nat.dvd_of_mod_eq_zero hd, fun h _ => h⟩⟩
    simp only [spec_meFactor.l0, hw, hz, Option.bind_some]
    refine pos (by omega) (pos ?_ (ret _))
    rw [Int.tmod_eq_emod_of_nonneg (by omega), ← Int.natCast_emod, hd]
    rfl
   ·obtain ⟨r, e, hr⟩ := ih (i + 1) (by omega) (by omega)
    refine ⟨r, shift ?_, ?_⟩
    ·simp only [spec_meFactor.l0, hw, hz, Option.bind_some]
     refine pos (by omega) (neg ?_ ?_)
     ·rw [Int.tmod_eq_emod_of_nonneg (by omega), ← Int.natCast_emod]
      omega
     ·rw [w64_succ (by omega)]
      exact e
    ·rcases hr with ⟨p, rfl, h4, h5, h6, _⟩ | ⟨rfl, _⟩
     ·refine .inl ⟨p, rfl, by omega, h5, h6, fun h h' => ?_⟩
      subst h
      omega
     ·refine .inr ⟨rfl, fun h h' => ?_⟩
      subst h
      omega
  ·refine ⟨.inr (), shift ?_, .inr ⟨rfl, fun h _ => by subst h; omega⟩⟩
   simp only [spec_meFactor.l0, hw]
   exact neg (by omega) (ret _)
theorem factor_ev (n : Nat) (h : 2 ≤ n ∧ n ≤ 1000000) : ∃ p : Nat, Ev (fun k => spec_meFactor.f k (n : Int)) (p : Int) ∧ Ev (fun k => impl_leastFactor.f k (n : Int)) (p : Int) ∧ 2 ≤ p ∧ p ≤ n ∧ p ∣ n ∧ (2 ∣ n → p = 2) := by
 simp only [factor_same']
 obtain ⟨r, e, hr⟩ := factor_loop n h.2 (n - 1) 2 (by omega) (by omega)
 rcases hr with ⟨p, rfl, h1, h2, h3, h4⟩ | ⟨rfl, h4⟩
 ·have : Ev (fun k => spec_meFactor.f k (n : Int)) (p : Int) := by
   unfold spec_meFactor.f
   exact bind e (ret _)
  exact ⟨p, this, this, h1, Nat.le_of_dvd (by omega) h3, h3, h4 rfl⟩
 ·have : Ev (fun k => spec_meFactor.f k (n : Int)) (n : Int) := by
   unfold spec_meFactor.f
   exact bind e (ret _)
  exact ⟨n, this, this, h.1, Nat.le_refl _, Nat.dvd_refl _, fun h5 => by have := h4 rfl h5; omega⟩
def at1 (l : List Int) (i : Int) : Int := l.getD i.toNat 0
theorem at1_gt {l : List Int} {i : Int} (h0 : 0 ≤ i) (h1 : i < l.length) : gt l i = some (at1 l i) := by
 have hi : i.toNat < l.length := by omega
 refine gt_some h0 ?_
 simp [at1, List.getD_eq_getElem?_getD, hi]
theorem at1_left {l m : List Int} {i : Int} (h0 : 0 ≤ i) (h1 : i < l.length) : at1 (l ++ m) i = at1 l i := by
 have hi : i.toNat < l.length := by omega
 simp [at1, List.getD_eq_getElem?_getD, List.getElem?_append_left hi]
theorem at1_last {l : List Int} {v : Int} : at1 (l ++ [v]) (l.length : Int) = v := by
 simp [at1, List.getD_eq_getElem?_getD]
theorem at1_mem {l : List Int} {i : Int} (h0 : 0 ≤ i) (h1 : i < l.length) : at1 l i ∈ l := by
 have hi : i.toNat < l.length := by omega
 simp only [at1, List.getD_eq_getElem?_getD, List.getElem?_eq_getElem hi, Option.getD_some]
 exact List.getElem_mem hi
/-- Exponents of a plan of one input. -/
def g1 (rs : List Int) : List SStep → List Int
 | [] => rs
 | y :: ys => g1 (rs ++ [addC (at1 rs y.f0) (at1 rs y.f1)]) ys
theorem g1_len (rs : List Int) (ys : List SStep) : (g1 rs ys).length = rs.length + ys.length := by
 induction ys generalizing rs with
 | nil => rfl
 | cons y ys ih => rw [g1, ih, List.length_append, List.length_singleton, List.length_cons]; omega
theorem g1_append (rs : List Int) (ys zs : List SStep) : g1 rs (ys ++ zs) = g1 (g1 rs ys) zs := by
 induction ys generalizing rs with
 | nil => rfl
 | cons y ys ih => rw [List.cons_append, g1, ih, g1]
theorem fB_append (i : Int) (ys zs : List SStep) (j : Int) : fB i (ys ++ zs) j = (fB i ys j && fB i zs (j + ys.length)) := by
 induction ys generalizing j with
 | nil => simp [fB]
 | cons y ys ih =>
  rw [List.cons_append, fB, ih, fB, Bool.and_assoc, List.length_cons]
  congr 3
  omega
theorem exGo_g1 (ys : List SStep) (rs : List Int) (j : Int) (hj : 0 ≤ j) (hl : (rs.length : Int) = 1 + j) (hb : rs.length + ys.length ≤ 100000) (hf : fB 1 ys j = true) : exGo (rs.map fun e => [e]) ys = (g1 rs ys).map fun e => [e] := by
 induction ys generalizing rs j with
 | nil => rfl
 | cons y ys ih =>
  simp only [fB, Bool.and_eq_true, decide_eq_true_eq] at hf
  obtain ⟨⟨k0, k1, k2⟩, k3⟩ := hf
  simp only [List.length_cons] at hb
  rw [zam (by omega)] at k2
  have key : ∀ i : Int, 0 ≤ i → i < rs.length → (rs.map fun e => [e]).getD i.toNat [] = [at1 rs i] := fun i h0 h1 => by
   have hi : i.toNat < rs.length := by omega
   simp [at1, List.getD_eq_getElem?_getD, hi]
  rw [exGo, g1, key _ k0 (by omega), key _ (by omega) (by omega)]
  have := ih (rs ++ [addC (at1 rs y.f0) (at1 rs y.f1)]) (j + 1) (by omega) (by rw [List.length_append, List.length_singleton]; omega) (by rw [List.length_append, List.length_singleton]; omega) k3
  rw [← this, List.map_append]
  rfl
theorem exps_g1 (s : List SStep) (hs : s.length ≤ 1000) (hf : fB 1 s 0 = true) : exps 1 s = (g1 [1] s).map fun e => [e] :=
 exGo_g1 s [1] 0 (by omega) rfl (by simp; omega) hf
/-- A good plan of one input and one output. -/
theorem good1 {s : List SStep} {v : Int} (hs : s.length ≤ 40) (hf : fB 1 s 0 = true) (hv : 0 ≤ v ∧ v ≤ s.length) (he : ∀ e ∈ g1 [1] s, 0 ≤ e ∧ e ≤ 1000000) : good 1 s [v] = true := by
 have h1 : (exps (1 : Int).toNat s).all (aB 0 1000000) = true := by
  rw [show (1 : Int).toNat = 1 from rfl, exps_g1 s (by omega) hf, List.all_eq_true]
  intro r hr
  obtain ⟨e, he', rfl⟩ := List.mem_map.1 hr
  simp [aB, he e he']
 have h2 : aB 0 (w64 (w64 (1 + (s.length : Int)) - 1)) [v] = true := by
  rw [zam (x := 1 + (s.length : Int)) (by omega), zam (by omega)]
  simp [aB]
  omega
 unfold good
 rw [h1, h2, hf, decide_eq_true hs]
 rfl
def stp (a b : Int) : SStep := ⟨mn a b, mx a b⟩
theorem plStep_eq (a b : Int) : spec_plStep.f a b = some (stp a b) := by
 unfold spec_plStep.f spec_l1Least.f spec_l1Most.f stp mn mx
 by_cases h : a < b
 ·have h2 : ¬ b < a := by omega
  simp [h, h2]
 ·by_cases h2 : b < a
  ·simp [h, h2]
  ·obtain rfl : a = b := by omega
   simp
theorem stp_in {a b n : Int} (ha : 0 ≤ a ∧ a < n) (hb : 0 ≤ b ∧ b < n) : 0 ≤ (stp a b).f0 ∧ (stp a b).f0 ≤ (stp a b).f1 ∧ (stp a b).f1 < n := by
 unfold stp mn mx
 refine ⟨?_, ?_, ?_⟩ <;> dsimp only <;> split <;> (try split) <;> omega
theorem addC_comm (a b : Int) : addC a b = addC b a := by unfold addC; rw [Int.add_comm]
theorem stp_add (rs : List Int) (a b : Int) : addC (at1 rs (stp a b).f0) (at1 rs (stp a b).f1) = addC (at1 rs a) (at1 rs b) := by
 unfold stp mn mx
 by_cases h : b < a
 ·rw [if_pos h, if_neg (by omega), addC_comm]
 ·rw [if_neg h]
  by_cases h2 : a < b
  ·rw [if_pos h2]
  ·obtain rfl : a = b := by omega
   simp
/-- Steps put behind out, vs the places of the values. -/
def cmp : List SStep → List Int → List SStep → List Int × List SStep
 | [], vs, out => (vs, out)
 | y :: ys, vs, out => cmp ys (vs ++ [(out.length : Int) + 1]) (out ++ [stp (at1 vs y.f0) (at1 vs y.f1)])
theorem spec_cmp (ys : List SStep) (vs : List Int) (out : List SStep) (j i : Int) (hj : 0 ≤ j) (hl : (vs.length : Int) = 1 + j) (hb : vs.length + out.length + 2 * ys.length ≤ 100000) (hf : fB 1 ys j = true) : spec_plThen.l0 1 ys vs out i = some (cmp ys vs out) := by
 induction ys generalizing vs out j i with
 | nil => rfl
 | cons y ys ih =>
  simp only [fB, Bool.and_eq_true, decide_eq_true_eq] at hf
  obtain ⟨⟨k0, k1, k2⟩, k3⟩ := hf
  simp only [List.length_cons] at hb
  rw [zam (by omega)] at k2
  simp only [spec_plThen.l0, cmp]
  rw [at1_gt k0 (by omega), Option.bind_some, at1_gt (show 0 ≤ y.f1 by omega) (by omega), Option.bind_some, plStep_eq, Option.bind_some, ap_ok (by simp; omega), Option.bind_some]
  have hw : w64 (w64 (1 + ((out ++ [stp (at1 vs y.f0) (at1 vs y.f1)]).length : Int)) - 1) = (out.length : Int) + 1 := by
   rw [List.length_append, List.length_singleton, zam (x := 1 + ((out.length + 1 : Nat) : Int)) (by omega), zam (by omega)]
   omega
  rw [hw, ap_ok (by simp; omega), Option.bind_some]
  exact ih _ _ (j + 1) _ (by omega) (by rw [List.length_append, List.length_singleton]; omega) (by rw [List.length_append, List.length_append, List.length_singleton, List.length_singleton]; omega) k3
theorem impl_cmp (o : List Int) (ys : List SStep) (vs : List Int) (out : List SStep) (j i : Int) (hj : 0 ≤ j) (hl : (vs.length : Int) = 1 + j) (hb : vs.length + out.length + 2 * ys.length ≤ 100000) (hf : fB 1 ys j = true) : impl_Plan_behind.l0 1 o ys vs out i = some (cmp ys vs out) := by
 induction ys generalizing vs out j i with
 | nil => rfl
 | cons y ys ih =>
  simp only [fB, Bool.and_eq_true, decide_eq_true_eq] at hf
  obtain ⟨⟨k0, k1, k2⟩, k3⟩ := hf
  simp only [List.length_cons] at hb
  rw [zam (by omega)] at k2
  simp only [impl_Plan_behind.l0, cmp, impl_Plan_many.f, impl_step.f, Option.bind_some]
  have hw : w64 (1 + (out.length : Int)) = (out.length : Int) + 1 := by
   rw [zam (by omega)]
   omega
  rw [hw, ap_ok (by simp; omega), Option.bind_some, at1_gt k0 (by simp; omega), Option.bind_some, at1_gt (show 0 ≤ y.f1 by omega) (by simp; omega), Option.bind_some, at1_left k0 (by omega), at1_left (show 0 ≤ y.f1 by omega) (by omega), ap_ok (by simp; omega), Option.bind_some]
  exact ih _ _ (j + 1) _ (by omega) (by rw [List.length_append, List.length_singleton]; omega) (by rw [List.length_append, List.length_append, List.length_singleton, List.length_singleton]; omega) k3
/-- What stays true while steps are put behind: c the exponent of the value that takes the input's place. -/
structure Beh (c m : Int) (vs : List Int) (F : List Int) (out : List SStep) : Prop where
 len : vs.length = F.length
 inb : ∀ v ∈ vs, 0 ≤ v ∧ v ≤ out.length
 form : fB 1 out 0 = true
 exps : ∀ k : Int, 0 ≤ k → k < vs.length → at1 (g1 [1] out) (at1 vs k) = c * at1 F k
 low : ∀ e ∈ g1 [1] out, 1 ≤ e ∧ e ≤ m
theorem cmp_beh {c n m : Int} (hc : 1 ≤ c) (hm : c * n ≤ m) (hm2 : m ≤ 1000000) : ∀ (ys : List SStep) (vs : List Int) (F : List Int) (out : List SStep) (j : Int), 0 ≤ j → (vs.length : Int) = 1 + j → vs.length + out.length + 2 * ys.length ≤ 100000 → fB 1 ys j = true → Beh c m vs F out → (∀ e ∈ F, 1 ≤ e) → (∀ e ∈ g1 F ys, e ≤ n) →
  Beh c m (cmp ys vs out).1 (g1 F ys) (cmp ys vs out).2 ∧ (cmp ys vs out).2.length = out.length + ys.length
 | [], vs, F, out, j, _, _, _, _, h, _, _ => ⟨h, rfl⟩
 | y :: ys, vs, F, out, j, hj, hl, hb, hf, h, hF, hn => by
  simp only [fB, Bool.and_eq_true, decide_eq_true_eq] at hf
  obtain ⟨⟨k0, k1, k2⟩, k3⟩ := hf
  simp only [List.length_cons] at hb
  rw [zam (by omega)] at k2
  have hl2 := h.len
  have m0 := h.inb _ (at1_mem (l := vs) k0 (by omega))
  have m1 := h.inb _ (at1_mem (l := vs) (show 0 ≤ y.f1 by omega) (by omega))
  have e0 := h.exps y.f0 k0 (by omega)
  have e1 := h.exps y.f1 (by omega) (by omega)
  have f0 := hF _ (at1_mem (l := F) k0 (by omega))
  have f1 := hF _ (at1_mem (l := F) (show 0 ≤ y.f1 by omega) (by omega))
  have gl : (g1 [1] out).length = 1 + out.length := by rw [g1_len]; rfl
  -- the new exponent of the inner plan is at most n
  have hnew : addC (at1 F y.f0) (at1 F y.f1) ≤ n := by
   refine hn _ ?_
   rw [g1]
   have : ∀ (zs : List SStep) (rs : List Int) (e : Int), e ∈ rs → e ∈ g1 rs zs := fun zs => by
    induction zs with
    | nil => intro rs e he; exact he
    | cons z zs ih => intro rs e he; exact ih _ _ (List.mem_append_left _ he)
   exact this _ _ _ (by simp)
  have hn6 : n ≤ 1000000 := by
   have : 1 * n ≤ c * n ∨ n < 0 := by
    by_cases h0 : 0 ≤ n
    ·exact .inl (Int.mul_le_mul_of_nonneg_right hc h0)
    ·exact .inr (by omega)
   omega
  have hsum : addC (at1 F y.f0) (at1 F y.f1) = at1 F y.f0 + at1 F y.f1 := by
   unfold addC at hnew ⊢
   split
   ·rfl
   ·rename_i hx
    rw [if_neg hx] at hnew
    omega
  rw [hsum] at hnew
  have hcm : c * (at1 F y.f0 + at1 F y.f1) ≤ m := Int.le_trans (Int.mul_le_mul_of_nonneg_left hnew (by omega)) hm
  have hadd : addC (at1 (g1 [1] out) (at1 vs y.f0)) (at1 (g1 [1] out) (at1 vs y.f1)) = c * (at1 F y.f0 + at1 F y.f1) := by
   rw [e0, e1, Int.mul_add]
   unfold addC
   rw [Int.mul_add] at hcm
   rw [if_pos (by omega)]
  have hg : g1 [1] (out ++ [stp (at1 vs y.f0) (at1 vs y.f1)]) = g1 [1] out ++ [c * (at1 F y.f0 + at1 F y.f1)] := by
   rw [g1_append, g1, g1, stp_add, hadd]
  have hpos : 1 ≤ c * (at1 F y.f0 + at1 F y.f1) := by
   have : 1 * 1 ≤ c * (at1 F y.f0 + at1 F y.f1) := Int.mul_le_mul hc (by omega) (by omega) (by omega)
   omega
  have hB : Beh c m (vs ++ [(out.length : Int) + 1]) (F ++ [addC (at1 F y.f0) (at1 F y.f1)]) (out ++ [stp (at1 vs y.f0) (at1 vs y.f1)]) := by
   refine ⟨by rw [List.length_append, List.length_append, hl2]; rfl, ?_, ?_, ?_, ?_⟩
   ·intro v hv
    rw [List.length_append, List.length_singleton]
    rcases List.mem_append.1 hv with hv | hv
    ·have := h.inb v hv
     omega
    ·rw [List.mem_singleton.1 hv]
     omega
   ·rw [fB_append, h.form]
    have hs := stp_in (a := at1 vs y.f0) (b := at1 vs y.f1) (n := 1 + out.length) (by omega) (by omega)
    simp only [fB, Bool.true_and, Bool.and_true, decide_eq_true_eq]
    rw [zam (by omega)]
    refine ⟨hs.1, hs.2.1, by omega⟩
   ·intro k h0 h1
    rw [List.length_append, List.length_singleton] at h1
    rw [hg]
    by_cases hk : k < vs.length
    ·rw [at1_left (l := vs) h0 hk, at1_left (l := F) h0 (by omega)]
     have := h.inb _ (at1_mem (l := vs) h0 hk)
     rw [at1_left this.1 (by rw [gl]; omega)]
     exact h.exps k h0 hk
    ·obtain rfl : k = (vs.length : Int) := by omega
     rw [at1_last, hl2, at1_last, hsum]
     have : ((out.length : Int) + 1) = ((g1 [1] out).length : Int) := by rw [gl]; omega
     rw [this, at1_last]
   ·rw [hg]
    intro e he
    rcases List.mem_append.1 he with he | he
    ·exact h.low e he
    ·rw [List.mem_singleton.1 he]
     exact ⟨hpos, hcm⟩
  obtain ⟨r1, r2⟩ := cmp_beh hc hm hm2 ys _ _ _ (j + 1) (by omega) (by rw [List.length_append, List.length_singleton]; omega) (by rw [List.length_append, List.length_append, List.length_singleton, List.length_singleton]; omega) k3 hB (fun e he => by
   rcases List.mem_append.1 he with he | he
   ·exact hF e he
   ·rw [List.mem_singleton.1 he, hsum]
    omega) (fun e he => hn e (by rw [g1]; exact he))
  rw [List.length_append, List.length_singleton] at r2
  refine ⟨by rw [g1, cmp]; exact r1, by rw [cmp, r2, List.length_cons]; omega⟩
structure Fac (n : Nat) (s : List SStep) (v : Int) : Prop where
 specE : Ev (fun k => spec_meFactors.f k (n : Int)) (s, [v])
 implE : Ev (fun k => impl_FactorPlan.f k (n : Int)) (1, s, [v], true)
 form : fB 1 s 0 = true
 inb : 0 ≤ v ∧ v ≤ s.length
 low : ∀ e ∈ g1 [1] s, 1 ≤ e ∧ e ≤ (n : Int)
 top : at1 (g1 [1] s) v = (n : Int)
 size : 2 ^ s.length ≤ n * n
 even : 2 ∣ n → 2 ^ (s.length + 1) ≤ n * n
theorem len40 {n m : Nat} (hn : n ≤ 1000000) (h : 2 ^ m ≤ n * n) : m < 40 := by
 rcases Nat.lt_or_ge m 40 with hm | hm
 ·exact hm
 ·have h1 : 2 ^ 40 ≤ 2 ^ m := Nat.pow_le_pow_right (by omega) hm
  have h2 : n * n ≤ 1000000 * 1000000 := Nat.mul_le_mul hn hn
  have h3 : (2 : Nat) ^ 40 = 1099511627776 := by decide
  omega
theorem Fac.good {n : Nat} {s : List SStep} {v : Int} (h : Fac n s v) (hn : n ≤ 1000000) : good 1 s [v] = true := by
 have := len40 hn h.size
 exact good1 (by omega) h.form h.inb (fun e he => by have := h.low e he; omega)
theorem isNumber_eq (a : Int) : impl_isNumber.f a = some (decide (1 ≤ a ∧ a ≤ 1000000)) := by
 unfold impl_isNumber.f
 rw [in_eq]
 rfl
theorem told_ev {s : List SStep} {o : List Int} {i : Int} (h : good i s o = true) : Ev (fun k => impl_told.f k i s o) (i, s, o, true) := by
 unfold impl_told.f
 have := isPlan_ev i s o
 rw [h] at this
 exact bind this (pos rfl (ret _))
theorem ap_nil {α : Type} {xs : List α} (h : xs.length ≤ 1000) : ap [] xs = some xs := ap_ok (by simp; omega)
theorem clone_eq {i : Int} {s : List SStep} {o : List Int} (hs : s.length ≤ 1000) (ho : o.length ≤ 1000) : impl_clonePlan.f i s o = some (s, o) := by
 unfold impl_clonePlan.f slices_Clone_impl_Step_impl_Step.f slices_Clone_int_int.f
 rw [ap_nil hs, ap_nil ho]
 rfl
theorem fac_one : Fac 1 [] 0 := by
 refine ⟨shift ?_, shift ?_, rfl, by simp, fun e he => ?_, rfl, by simp, fun h => by omega⟩
 ·simp only [spec_meFactors.f, spec_meEnd.f, Option.bind_some]
  exact pos rfl (ret _)
 ·simp only [impl_FactorPlan.f, isNumber_eq, Option.bind_some]
  exact pos rfl (pos rfl (ret _))
 ·simp [g1] at he
  omega
theorem fac_prime {n : Nat} (hn : 2 ≤ n ∧ n ≤ 1000000) (h1 : Ev (fun k => spec_meFactor.f k (n : Int)) (n : Int)) (h2 : Ev (fun k => impl_leastFactor.f k (n : Int)) (n : Int)) (hp : 2 ∣ n → n = 2) {s : List SStep} {v : Int} (h : Fac (n - 1) s v) : ∃ s v, Fac n s v := by
 have hl := len40 (by omega) h.size
 have hw : w64 ((n : Int) - 1) = ((n - 1 : Nat) : Int) := by
  rw [zam (by omega)]
  omega
 have hv := h.inb
 have hst : stp v 0 = ⟨0, v⟩ := by
  unfold stp mn mx
  by_cases hv0 : v < 0
  ·omega
  ·rw [if_neg hv0]
   by_cases hv1 : (0 : Int) < v
   ·rw [if_pos hv1]
   ·rw [if_neg hv1]
    congr 1
    omega
 have gl : (g1 [1] s).length = 1 + s.length := by rw [g1_len]; rfl
 have h0 : ∀ (ys : List SStep) (rs : List Int), rs.length ≠ 0 → at1 (g1 rs ys) 0 = at1 rs 0 := fun ys => by
  induction ys with
  | nil => intro rs _; rfl
  | cons y ys ih =>
   intro rs hr
   rw [g1, ih _ (by simp), at1_left (by omega) (by omega)]
 have hg : g1 [1] (s ++ [stp v 0]) = g1 [1] s ++ [(n : Int)] := by
  rw [g1_append, g1, g1, stp_add, h.top, h0 s [1] (by simp)]
  have : addC ((n - 1 : Nat) : Int) (at1 [1] 0) = (n : Int) := by
   show addC _ 1 = _
   unfold addC
   rw [if_pos (by omega)]
   omega
  rw [this]
 have hform : fB 1 (s ++ [stp v 0]) 0 = true := by
  rw [fB_append, h.form, hst]
  simp only [fB, Bool.true_and, Bool.and_true, decide_eq_true_eq]
  rw [zam (by omega)]
  omega
 have hlen : (s ++ [stp v 0]).length = s.length + 1 := by simp
 have hlow : ∀ e ∈ g1 [1] (s ++ [stp v 0]), 1 ≤ e ∧ e ≤ (n : Int) := fun e he => by
  rw [hg] at he
  rcases List.mem_append.1 he with he | he
  ·have := h.low e he
   omega
  ·rw [List.mem_singleton.1 he]
   omega
 have hin : (0 : Int) ≤ (s.length : Int) + 1 ∧ (s.length : Int) + 1 ≤ ((s ++ [stp v 0]).length : Int) := by rw [hlen]; omega
 have hgood : Pure.good 1 (s ++ [stp v 0]) [(s.length : Int) + 1] = true := good1 (by rw [hlen]; omega) hform hin (fun e he => by have := hlow e he; omega)
 refine ⟨s ++ [stp v 0], (s.length : Int) + 1, shift ?_, shift ?_, hform, hin, hlow, ?_, ?_, ?_⟩
 ·have e := h.specE
  rw [← hw] at e
  simp only [spec_meFactors.f]
  refine neg (by omega) (bind h1 (pos rfl (bind e ?_)))
  have hw2 : w64 (1 + (s.length : Int)) = (s.length : Int) + 1 := by
   rw [zam (by omega)]
   omega
  have hgt : gt [v] 0 = some v := rfl
  have hap : ap s [stp v 0] = some (s ++ [stp v 0]) := ap_ok (by simp; omega)
  simp only [hgt, Option.bind_some, spec_meTimes.f, ap_nil (show s.length ≤ 1000 by omega), plStep_eq, hap, spec_meEnd.f, hw2]
  exact ret _
 ·have e := h.implE
  rw [← hw] at e
  simp only [impl_FactorPlan.f, isNumber_eq, Option.bind_some]
  refine pos (decide_eq_true (by omega)) (neg (by omega) (bind h2 (neg (by omega) (bind e (pos rfl ?_)))))
  have hgt : gt [v] 0 = some v := rfl
  have hap : ap s [(⟨mn v 0, mx v 0⟩ : SStep)] = some (s ++ [stp v 0]) := ap_ok (by simp; omega)
  have hw2 : w64 (w64 (1 + ((s ++ [stp v 0]).length : Int)) - 1) = (s.length : Int) + 1 := by
   rw [hlen, zam (x := 1 + ((s.length + 1 : Nat) : Int)) (by omega), zam (by omega)]
   omega
  simp only [clone_eq (show s.length ≤ 1000 by omega) (show [v].length ≤ 1000 by simp), hgt, Option.bind_some, impl_maker_multiply.f, impl_step.f, hap, impl_Plan_many_2.f, impl_maker_plan.f, hw2]
  exact bind (told_ev hgood) (ret _)
 ·rw [hg]
  have : (s.length : Int) + 1 = ((g1 [1] s).length : Int) := by rw [gl]; omega
  rw [this, at1_last]
 ·rw [hlen, Nat.pow_succ]
  by_cases h2n : n = 2
  ·subst h2n
   have := h.size
   omega
  ·have hodd : ¬ 2 ∣ n := fun hd => h2n (hp hd)
   have hev := h.even (by omega)
   rw [Nat.pow_succ] at hev
   have : (n - 1) * (n - 1) ≤ n * n := Nat.mul_le_mul (by omega) (by omega)
   omega
 ·intro hd
  have := hp hd
  subst this
  have hs := h.size
  rw [hlen, Nat.pow_succ, Nat.pow_succ]
  omega
theorem compose_ev {s1 s2 out : List SStep} {vs : List Int} {v1 v2 : Int} (hc : cmp s2 [v1] s1 = (vs, out)) (hl : s1.length ≤ 40 ∧ s2.length ≤ 40) (hf : fB 1 s2 0 = true) (g1 : good 1 s1 [v1] = true) (g2 : good 1 s2 [v2] = true) (hv : 0 ≤ v2 ∧ v2 < vs.length) (g : good 1 out [at1 vs v2] = true) :
  Ev (fun k => impl_ComposePlans.f k 1 s1 [v1] 1 s2 [v2]) (1, out, [at1 vs v2], true) := by
 have e1 := isPlan_ev 1 s1 [v1]
 have e2 := isPlan_ev 1 s2 [v2]
 rw [g1] at e1
 rw [g2] at e2
 unfold impl_ComposePlans.f
 refine bind (bind e1 (pos rfl (bind e2 (pos rfl (ret false))))) (neg (by simp) ?_)
 have hb := impl_cmp [v1] s2 [v1] s1 0 0 (by omega) rfl (by simp; omega) hf
 rw [hc] at hb
 have hg := at1_gt hv.1 hv.2
 have ha : ap ([] : List Int) [at1 vs v2] = some [at1 vs v2] := ap_nil (by simp)
 have ha1 : ap ([] : List Int) [v1] = some [v1] := ap_nil (by simp)
 simp only [clone_eq (show s1.length ≤ 1000 by omega) (show [v1].length ≤ 1000 by simp), Option.bind_some, impl_Plan_behind.f, slices_Clone_int_int.f, ha1, hb, impl_renamed.f, impl_renamed.l0, hg, ha]
 exact bind (told_ev g) (ret _)
theorem then_eq {s1 s2 out : List SStep} {vs : List Int} {v1 v2 : Int} (hc : cmp s2 [v1] s1 = (vs, out)) (hl : s1.length ≤ 40 ∧ s2.length ≤ 40) (hf : fB 1 s2 0 = true) (hv : 0 ≤ v2 ∧ v2 < vs.length) :
  spec_plThen.f s1 1 1 s2 [v2] [v1] = some (out, [at1 vs v2]) := by
 have hb := spec_cmp s2 [v1] s1 0 0 (by omega) rfl (by simp; omega) hf
 rw [hc] at hb
 have hg := at1_gt hv.1 hv.2
 have ha : ap ([] : List Int) [at1 vs v2] = some [at1 vs v2] := ap_nil (by simp)
 have ha1 : ap ([] : List Int) [v1] = some [v1] := ap_nil (by simp)
 unfold spec_plThen.f spec_l1Own.f
 simp only [ha1, ap_nil (show s1.length ≤ 1000 by omega), Option.bind_some, hb, spec_plThen.l1, hg, ha]
theorem fac_comp {n p q : Nat} (hn : n ≤ 1000000) (hp : 2 ≤ p) (hpq : n = p * q) (hq : 2 ≤ q) (h1 : Ev (fun k => spec_meFactor.f k (n : Int)) (p : Int)) (h2 : Ev (fun k => impl_leastFactor.f k (n : Int)) (p : Int)) (h2n : 2 ∣ n → p = 2) {s1 s2 : List SStep} {v1 v2 : Int} (a : Fac p s1 v1) (b : Fac q s2 v2) : ∃ s v, Fac n s v := by
 have hpn : p < n := by
  have : p * 2 ≤ p * q := Nat.mul_le_mul_left p hq
  omega
 have hqn : q ≤ n := by
  have : 1 * q ≤ p * q := Nat.mul_le_mul_right q (by omega)
  omega
 have l1 := len40 (by omega) a.size
 have l2 := len40 (by omega) b.size
 obtain ⟨vs, out, hc⟩ : ∃ vs out, cmp s2 [v1] s1 = (vs, out) := ⟨_, _, rfl⟩
 have hB : Beh (p : Int) (n : Int) [v1] [1] s1 := by
  refine ⟨rfl, fun v hv => ?_, a.form, fun k h0 hk => ?_, fun e he => ?_⟩
  ·rw [List.mem_singleton.1 hv]
   exact a.inb
  ·obtain rfl : k = 0 := by simp at hk; omega
   show at1 (g1 [1] s1) v1 = (p : Int) * 1
   rw [a.top, Int.mul_one]
  ·have := a.low e he
   omega
 have hm : (p : Int) * (q : Int) ≤ (n : Int) := by rw [hpq, Int.natCast_mul]; exact Int.le_refl _
 obtain ⟨B, hlen⟩ := cmp_beh (c := (p : Int)) (n := (q : Int)) (m := (n : Int)) (by omega) hm (by omega) s2 [v1] [1] s1 0 (by omega) rfl (by simp; omega) b.form hB (fun e he => by rw [List.mem_singleton.1 he]; omega) (fun e he => (b.low e he).2)
 rw [hc] at B hlen
 have gl : (g1 [1] s2).length = 1 + s2.length := by rw [g1_len]; rfl
 have hvl : 0 ≤ v2 ∧ v2 < vs.length := by
  have := B.len
  have := b.inb
  simp only at *
  omega
 have hv := B.inb _ (at1_mem hvl.1 hvl.2)
 have htop : at1 (g1 [1] out) (at1 vs v2) = (n : Int) := by
  rw [B.exps v2 hvl.1 hvl.2, b.top, hpq, Int.natCast_mul]
 have hlen' : out.length = s1.length + s2.length := hlen
 have hsize : 2 ^ out.length ≤ n * n := by
  rw [hlen', Nat.pow_add, hpq]
  have := Nat.mul_le_mul a.size b.size
  calc 2 ^ s1.length * 2 ^ s2.length ≤ (p * p) * (q * q) := this
   _ = p * q * (p * q) := by rw [Nat.mul_mul_mul_comm]
 have l3 := len40 hn hsize
 have hgood : Pure.good 1 out [at1 vs v2] = true := good1 (by omega) B.form hv (fun e he => by have := B.low e he; omega)
 have hw : w64 ((n : Int).tdiv (p : Int)) = (q : Int) := by
  rw [Int.tdiv_eq_ediv_of_nonneg (by omega), ← Int.natCast_ediv, hpq, Nat.mul_div_cancel_left _ (by omega), zam (by omega)]
 have hz : nz (p : Int) = some () := by
  unfold nz
  rw [if_neg (by omega)]
 have hce := compose_ev (s1 := s1) (s2 := s2) hc (by omega) b.form (a.good (by omega)) (b.good (by omega)) hvl hgood
 refine ⟨out, at1 vs v2, shift ?_, shift ?_, B.form, hv, B.low, htop, hsize, fun hd => ?_⟩
 ·simp only [spec_meFactors.f]
  refine neg (by omega) (bind h1 (neg (by omega) (bind a.specE ?_)))
  simp only [hz, Option.bind_some, hw]
  refine bind b.specE ?_
  simp only [then_eq hc (by omega) b.form hvl, Option.bind_some]
  exact ret _
 ·simp only [impl_FactorPlan.f, isNumber_eq, Option.bind_some]
  refine pos (decide_eq_true (by omega)) (neg (by omega) (bind h2 (pos (by omega) (bind a.implE ?_))))
  simp only [hz, Option.bind_some, hw]
  refine bind b.implE (bind (pos trivial (ret _)) (neg (by simp) ?_))
  exact bind hce (ret _)
 ·obtain rfl := h2n hd
  have ha := a.even (Nat.dvd_refl 2)
  have hb := b.size
  rw [hlen', show s1.length + s2.length + 1 = (s1.length + 1) + s2.length by omega, Nat.pow_add, hpq]
  calc 2 ^ (s1.length + 1) * 2 ^ s2.length ≤ (2 * 2) * (q * q) := Nat.mul_le_mul ha hb
   _ = 2 * q * (2 * q) := by rw [Nat.mul_mul_mul_comm]
theorem fac (n : Nat) (h1 : 1 ≤ n) (hn : n ≤ 1000000) : ∃ s v, Fac n s v := by
 induction n using Nat.strongRecOn with
 | _ n ih =>
  by_cases h : n = 1
  ·subst h
   exact ⟨_, _, fac_one⟩
  ·obtain ⟨p, e1, e2, p1, p2, p3, p4⟩ := factor_ev n (by omega)
   by_cases hpn : p = n
   ·subst hpn
    obtain ⟨s, v, hf⟩ := ih (p - 1) (by omega) (by omega) (by omega)
    exact fac_prime (by omega) e1 e2 p4 hf
   ·obtain ⟨q, hq⟩ := p3
    have hq0 : q ≠ 0 := fun h0 => by subst h0; omega
    have hq1 : q ≠ 1 := fun h0 => by subst h0; omega
    have hqn : q < n := by
     have : 2 * q ≤ p * q := Nat.mul_le_mul_right q p1
     omega
    obtain ⟨s1, v1, f1⟩ := ih p (by omega) (by omega) (by omega)
    obtain ⟨s2, v2, f2⟩ := ih q hqn (by omega) (by omega)
    exact fac_comp hn p1 hq (by omega) e1 e2 p4 f1 f2
end Go.Proofs.Ytiaohjciddbpoaa.Pure.Fc
