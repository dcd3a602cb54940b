/- Pure: FactorPlan on both sides: composites; the law. -/
import Derived.Test.YtpdpomjgfmdjfaaKFnExactFactorPlanPfac4
set_option linter.unusedVariables false
set_option linter.unusedSimpArgs false
namespace Go.Proofs.Ytpdpomjgfmdjfaa.Pure
open Go.RowKit Go.Proofs.Ytpdpomjgfmdjfaa.E Go.Proofs.Ytpdpomjgfmdjfaa.E2 Go.Proofs.Ytpdpomjgfmdjfaa.Frame Go.Proofs.YtpdpomjgfmdjfaaW.PrintLast Go.Proofs.YtpdpomjgfmdjfaaW.PrintMore
open Go.Proofs.YtpdpomjgfmdjfaaW.PrintWords hiding mn mx
theorem compose_ev {s1 s2 out : List SStep} {vs : List Int} {v1 v2 : Int} (hc : cmp s2 [v1] s1 = (vs, out)) (hl : s1.length ≤ 40 ∧ s2.length ≤ 40) (hf : fB 1 s2 0 = true) (g1 : good 1 s1 [v1] = true) (g2 : good 1 s2 [v2] = true) (hv : 0 ≤ v2 ∧ v2 < vs.length) (g : good 1 out [at1 vs v2] = true) :
    Ev (fun k => impl_ComposePlans.f k 1 s1 [v1] 1 s2 [v2]) (1, out, [at1 vs v2], true) := by
  have e1 := isPlan_ev 1 s1 [v1]
  have e2 := isPlan_ev 1 s2 [v2]
  rw [g1] at e1
  rw [g2] at e2
  unfold impl_ComposePlans.f
  refine bind (bind e1 (pos rfl (bind e2 (pos rfl (ret false))))) (neg (by simp) ?_)
  have hb := impl_cmp [v1] s2 [v1] s1 0 0 (by omega) rfl (by simp; omega) hf
  rw [hc] at hb
  have hg := at1_gt hv.1 hv.2
  have ha : ap ([] : List Int) [at1 vs v2] = some [at1 vs v2] := ap_nil (by simp)
  have ha1 : ap ([] : List Int) [v1] = some [v1] := ap_nil (by simp)
  simp only [clone_eq (show s1.length ≤ 1000 by omega) (show [v1].length ≤ 1000 by simp), Option.bind_some, impl_Plan_behind.f, slices_Clone_int_int.f, ha1, hb, impl_renamed.f, impl_renamed.l0, hg, ha]
  exact bind (told_ev g) (ret _)
theorem then_eq {s1 s2 out : List SStep} {vs : List Int} {v1 v2 : Int} (hc : cmp s2 [v1] s1 = (vs, out)) (hl : s1.length ≤ 40 ∧ s2.length ≤ 40) (hf : fB 1 s2 0 = true) (hv : 0 ≤ v2 ∧ v2 < vs.length) :
    spec_plThen.f s1 1 1 s2 [v2] [v1] = some (out, [at1 vs v2]) := by
  have hb := spec_cmp s2 [v1] s1 0 0 (by omega) rfl (by simp; omega) hf
  rw [hc] at hb
  have hg := at1_gt hv.1 hv.2
  have ha : ap ([] : List Int) [at1 vs v2] = some [at1 vs v2] := ap_nil (by simp)
  have ha1 : ap ([] : List Int) [v1] = some [v1] := ap_nil (by simp)
  unfold spec_plThen.f spec_l1Own.f
  simp only [ha1, ap_nil (show s1.length ≤ 1000 by omega), Option.bind_some, hb, spec_plThen.l1, hg, ha]
theorem fac_comp {n p q : Nat} (hn : n ≤ 1000000) (hp : 2 ≤ p) (hpq : n = p * q) (hq : 2 ≤ q) (h1 : Ev (fun k => spec_meFactor.f k (n : Int)) (p : Int)) (h2 : Ev (fun k => impl_leastFactor.f k (n : Int)) (p : Int)) (h2n : 2 ∣ n → p = 2) {s1 s2 : List SStep} {v1 v2 : Int} (a : Fac p s1 v1) (b : Fac q s2 v2) : ∃ s v, Fac n s v := by
  have hpn : p < n := by
    have : p * 2 ≤ p * q := Nat.mul_le_mul_left p hq
    omega
  have hqn : q ≤ n := by
    have : 1 * q ≤ p * q := Nat.mul_le_mul_right q (by omega)
    omega
  have l1 := len40 (by omega) a.size
  have l2 := len40 (by omega) b.size
  obtain ⟨vs, out, hc⟩ : ∃ vs out, cmp s2 [v1] s1 = (vs, out) := ⟨_, _, rfl⟩
  have hB : Beh (p : Int) (n : Int) [v1] [1] s1 := by
    refine ⟨rfl, fun v hv => ?_, a.form, fun k h0 hk => ?_, fun e he => ?_⟩
    · rw [List.mem_singleton.1 hv]
      exact a.inb
    · obtain rfl : k = 0 := by simp at hk; omega
      show at1 (g1 [1] s1) v1 = (p : Int) * 1
      rw [a.top, Int.mul_one]
    · have := a.low e he
      omega
  have hm : (p : Int) * (q : Int) ≤ (n : Int) := by rw [hpq, Int.natCast_mul]; exact Int.le_refl _
  obtain ⟨B, hlen⟩ := cmp_beh (c := (p : Int)) (n := (q : Int)) (m := (n : Int)) (by omega) hm (by omega) s2 [v1] [1] s1 0 (by omega) rfl (by simp; omega) b.form hB (fun e he => by rw [List.mem_singleton.1 he]; omega) (fun e he => (b.low e he).2)
  rw [hc] at B hlen
  have gl : (g1 [1] s2).length = 1 + s2.length := by rw [g1_len]; rfl
  have hvl : 0 ≤ v2 ∧ v2 < vs.length := by
    have := B.len
    have := b.inb
    simp only at *
    omega
  have hv := B.inb _ (at1_mem hvl.1 hvl.2)
  have htop : at1 (g1 [1] out) (at1 vs v2) = (n : Int) := by
    rw [B.exps v2 hvl.1 hvl.2, b.top, hpq, Int.natCast_mul]
  have hlen' : out.length = s1.length + s2.length := hlen
  have hsize : 2 ^ out.length ≤ n * n := by
    rw [hlen', Nat.pow_add, hpq]
    have := Nat.mul_le_mul a.size b.size
    calc 2 ^ s1.length * 2 ^ s2.length ≤ (p * p) * (q * q) := this
      _ = p * q * (p * q) := by rw [Nat.mul_mul_mul_comm]
  have l3 := len40 hn hsize
  have hgood : Pure.good 1 out [at1 vs v2] = true := good1 (by omega) B.form hv (fun e he => by have := B.low e he; omega)
  have hw : w64 ((n : Int).tdiv (p : Int)) = (q : Int) := by
    rw [Int.tdiv_eq_ediv_of_nonneg (by omega), ← Int.natCast_ediv, hpq, Nat.mul_div_cancel_left _ (by omega), w64_id (by omega)]
  have hz : nz (p : Int) = some () := by
    unfold nz
    rw [if_neg (by omega)]
  have hce := compose_ev (s1 := s1) (s2 := s2) hc (by omega) b.form (a.good (by omega)) (b.good (by omega)) hvl hgood
  refine ⟨out, at1 vs v2, shift ?_, shift ?_, B.form, hv, B.low, htop, hsize, fun hd => ?_⟩
  · simp only [spec_meFactors.f]
    refine neg (by omega) (bind h1 (neg (by omega) (bind a.specE ?_)))
    simp only [hz, Option.bind_some, hw]
    refine bind b.specE ?_
    simp only [then_eq hc (by omega) b.form hvl, Option.bind_some]
    exact ret _
  · simp only [impl_FactorPlan.f, isNumber_eq, Option.bind_some]
    refine pos (decide_eq_true (by omega)) (neg (by omega) (bind h2 (pos (by omega) (bind a.implE ?_))))
    simp only [hz, Option.bind_some, hw]
    refine bind b.implE (bind (pos trivial (ret _)) (neg (by simp) ?_))
    exact bind hce (ret _)
  · obtain rfl := h2n hd
    have ha := a.even (Nat.dvd_refl 2)
    have hb := b.size
    rw [hlen', show s1.length + s2.length + 1 = (s1.length + 1) + s2.length by omega, Nat.pow_add, hpq]
    calc 2 ^ (s1.length + 1) * 2 ^ s2.length ≤ (2 * 2) * (q * q) := Nat.mul_le_mul ha hb
      _ = 2 * q * (2 * q) := by rw [Nat.mul_mul_mul_comm]
theorem fac (n : Nat) (h1 : 1 ≤ n) (hn : n ≤ 1000000) : ∃ s v, Fac n s v := by
  induction n using Nat.strongRecOn with
  | _ n ih =>
    by_cases h : n = 1
    · subst h
      exact ⟨_, _, fac_one⟩
    · obtain ⟨p, e1, e2, p1, p2, p3, p4⟩ := factor_ev n (by omega)
      by_cases hpn : p = n
      · subst hpn
        obtain ⟨s, v, hf⟩ := ih (p - 1) (by omega) (by omega) (by omega)
        exact fac_prime (by omega) e1 e2 p4 hf
      · obtain ⟨q, hq⟩ := p3
        have hq0 : q ≠ 0 := fun h0 => by subst h0; omega
        have hq1 : q ≠ 1 := fun h0 => by subst h0; omega
        have hqn : q < n := by
          have : 2 * q ≤ p * q := Nat.mul_le_mul_right q p1
          omega
        obtain ⟨s1, v1, f1⟩ := ih p (by omega) (by omega) (by omega)
        obtain ⟨s2, v2, f2⟩ := ih q hqn (by omega) (by omega)
        exact fac_comp hn p1 hq (by omega) e1 e2 p4 f1 f2
theorem factor_both (n : Int) : ∃ i s o b, Ev (fun k => spec_FactorPlan.f k n) (i, s, o, b) ∧ Ev (fun k => impl_FactorPlan.f k n) (i, s, o, b) ∧ s.length ≤ 1000 ∧ o.length ≤ 1000 := by
  have hch : spec_chNumber.f n = some (decide (1 ≤ n ∧ n ≤ 1000000)) := by
    unfold spec_chNumber.f
    rw [l1In_eq]
    rfl
  by_cases h : 1 ≤ n ∧ n ≤ 1000000
  · obtain ⟨m, rfl⟩ := Int.eq_ofNat_of_zero_le (show 0 ≤ n by omega)
    obtain ⟨s, v, f⟩ := fac m (by omega) (by omega)
    have hl := len40 (by omega) f.size
    refine ⟨1, s, [v], true, ?_, f.implE, by omega, by simp⟩
    unfold spec_FactorPlan.f spec_plIf.f
    simp only [hch, Option.bind_some]
    have hg := plGood_ev 1 s [v]
    rw [f.good (by omega)] at hg
    exact pos (decide_eq_true h) (bind f.specE (bind (bind hg (pos rfl (ret _))) (ret _)))
  · refine ⟨0, [], [], false, ?_, shift ?_, by simp, by simp⟩
    · unfold spec_FactorPlan.f
      simp only [hch, Option.bind_some]
      exact neg (by simpa using h) (ret _)
    · simp only [impl_FactorPlan.f, isNumber_eq, Option.bind_some]
      exact neg (by simpa using h) (ret _)
theorem FnExactFactorPlan : laws_FnExactFactorPlan.Pure := factor_law factor_both
end Go.Proofs.Ytpdpomjgfmdjfaa.Pure
