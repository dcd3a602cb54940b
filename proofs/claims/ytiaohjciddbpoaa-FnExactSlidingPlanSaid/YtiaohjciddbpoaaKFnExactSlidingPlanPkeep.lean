/- Pure: the used steps of a plan, and the plan of these alone, as the documentation has them. -/
import Derived.Test.YtiaohjciddbpoaaKFnExactSlidingPlanPtrim
set_option linter.unusedVariables false
set_option linter.unusedSimpArgs false
namespace Go.Proofs.Ytiaohjciddbpoaa.Pure
open Go.RowKit Go.Proofs.Ytiaohjciddbpoaa.E Go.Proofs.Ytiaohjciddbpoaa.H2 Go.Proofs.Ytiaohjciddbpoaa.Frame Go.Proofs.YtiaohjciddbpoaaW.PrintLast Go.Proofs.YtiaohjciddbpoaaW.PrintMore
open Go.Proofs.YtiaohjciddbpoaaW.PrintWords hiding mn mx
theorem upK {α : Type} {g : Nat → Option α} {r : α} (c : Nat) (h : Ev g r) : Ev (fun k => g (k + c)) r := by
  obtain ⟨K, h⟩ := h
  exact ⟨K, fun n hn => h (n + c) (by omega)⟩
/-- The numbers of the used steps. -/
def kp (I : Nat) (s : List SStep) (o : List Int) : List Int := vals s.length fun j => us I s o ((I : Int) + j)
/-! the plan of some steps -/
theorem idx_vals {M : Nat} {p : Int → Bool} {x : Nat} (hx : x < M) (hp : p (x : Int) = true) : idx (vals M p) (x : Int) 0 = ((vals x p).length : Int) := by
  have key : ∀ d, ∃ t, vals (x + 1 + d) p = vals x p ++ ((x : Int) :: t) := by
    intro d
    induction d with
    | zero => exact ⟨[], by rw [Nat.add_zero, vals_succ, if_pos hp]⟩
    | succ d ih =>
      obtain ⟨t, e⟩ := ih
      rw [← Nat.add_assoc, vals_succ, e]
      exact ⟨t ++ (if p ((x + 1 + d : Nat) : Int) = true then [((x + 1 + d : Nat) : Int)] else []), by rw [List.append_assoc]; rfl⟩
  obtain ⟨t, e⟩ := key (M - (x + 1))
  rw [show x + 1 + (M - (x + 1)) = M by omega] at e
  have := idx_at (vals_sorted M p) (m := (vals x p).length) (v := (x : Int)) (by rw [e]; simp) 0
  omega
theorem number_eq {I : Nat} {s : List SStep} {o : List Int} {U : Int → Bool} (hI : I ≤ 1000) (hs : s.length ≤ 1000) {v : Int} (h0 : 0 ≤ v) (h1 : v < ((I + s.length : Nat) : Int)) (hv : Lv I U v) : spec_plNumber.f (I : Int) s o (vals s.length fun j => U ((I : Int) + j)) v = some (pl I U v) := by
  unfold spec_plNumber.f pl
  by_cases c : v < (I : Int)
  · rw [if_pos c, if_pos c]
  · rw [if_neg c, if_neg c, zat (x := v - (I : Int)) (by omega), place_eq, Option.bind_some]
    obtain ⟨x, hx⟩ : ∃ x : Nat, v - (I : Int) = (x : Int) := ⟨(v - (I : Int)).toNat, by omega⟩
    have hp : U ((I : Int) + (x : Int)) = true := by
      rw [← hx, show (I : Int) + (v - (I : Int)) = v by omega]
      exact hv.resolve_left c
    rw [hx, idx_vals (p := fun j => U ((I : Int) + j)) (by omega) hp, Int.toNat_natCast]
    have := vals_len x (fun j => U ((I : Int) + j))
    rw [zat (by omega)]
def sp (I : Nat) (U : Int → Bool) (s : List SStep) (i : Int) : SStep := ⟨pl I U (s.getD i.toNat ⟨0, 0⟩).f0, pl I U (s.getD i.toNat ⟨0, 0⟩).f1⟩
theorem ts_map {I : Nat} {U : Int → Bool} : ∀ s : List SStep, Ok I s → Cl I U s → ts I U s = (vals s.length fun j => U ((I : Int) + j)).map (sp I U s) := by
  refine ind_snoc (fun _ _ => rfl) fun s y ih hs hc => ?_
  obtain ⟨o1, o2⟩ := Ok.append.1 hs
  have q := o2.1
  obtain ⟨c1, c2⟩ := hc.init
  rw [ts_snoc I U s y q.1 q.2.1 q.2.2 c2, List.length_append, List.length_singleton, vals_succ, List.map_append, ih o1 c1]
  have e : (vals s.length fun j => U ((I : Int) + j)).map (sp I U s) = (vals s.length fun j => U ((I : Int) + j)).map (sp I U (s ++ [y])) := List.map_congr_left fun x hx => by
    have := (vals_mem.1 hx).1
    unfold sp
    rw [List.getD_eq_getElem?_getD, List.getD_eq_getElem?_getD, List.getElem?_append_left (by omega)]
  rw [e, show ((I + s.length : Nat) : Int) = (I : Int) + (s.length : Int) by omega]
  by_cases c : U ((I : Int) + (s.length : Int)) = true
  · rw [if_pos c, if_pos c]
    simp [sp]
  · rw [if_neg c, if_neg c]
    simp
theorem keep_l0 {I : Nat} {s : List SStep} {o : List Int} {U : Int → Bool} (hI : I ≤ 1000) (hsl : s.length ≤ 1000) (hs : Ok I s) (hc : Cl I U s) (ks : List Int) (acc : List SStep) (j : Int) (hk : ∀ x ∈ ks, (0 ≤ x ∧ x < (s.length : Int)) ∧ U ((I : Int) + x) = true) (hb : acc.length + ks.length ≤ 100000) : spec_plKeep.l0 (I : Int) s o (vals s.length fun j => U ((I : Int) + j)) ks acc j = some (acc ++ ks.map (sp I U s)) := by
  induction ks generalizing acc j with
  | nil => simp [spec_plKeep.l0]
  | cons x xs ih =>
    obtain ⟨⟨x0, x1⟩, hu⟩ := hk x List.mem_cons_self
    obtain ⟨m, rfl⟩ := Int.eq_ofNat_of_zero_le x0
    have hm : m < s.length := by omega
    simp only [List.length_cons] at hb
    have q := hs.at (List.getElem?_eq_getElem hm)
    have hcl := hc m s[m] (List.getElem?_eq_getElem hm) (by rw [← hu]; congr 1)
    simp only [spec_plKeep.l0]
    rw [gt_nat hm, Option.bind_some, number_eq hI hsl q.1 (by omega) hcl.1, Option.bind_some, number_eq hI hsl (by omega) (by omega) hcl.2, Option.bind_some, plStep_eq, Option.bind_some, ap_ok (by simp; omega), Option.bind_some, ih _ _ (fun z hz => hk z (List.mem_cons_of_mem _ hz)) (by rw [List.length_append, List.length_singleton]; omega)]
    have hle := pl_le (U := U) q.1 q.2.1 hcl.1
    rw [mn_of_le hle, mx_of_le hle]
    simp [sp, hm]
theorem keep_l1 {I : Nat} {s : List SStep} {o : List Int} {U : Int → Bool} (hI : I ≤ 1000) (hsl : s.length ≤ 1000) (ys acc : List Int) (j : Int) (hk : ∀ x ∈ ys, (0 ≤ x ∧ x < ((I + s.length : Nat) : Int)) ∧ Lv I U x) (hb : acc.length + ys.length ≤ 100000) : spec_plKeep.l1 (I : Int) s o (vals s.length fun j => U ((I : Int) + j)) ys acc j = some (acc ++ ys.map (pl I U)) := by
  induction ys generalizing acc j with
  | nil => simp [spec_plKeep.l1]
  | cons x xs ih =>
    obtain ⟨⟨x0, x1⟩, hu⟩ := hk x List.mem_cons_self
    simp only [List.length_cons] at hb
    simp only [spec_plKeep.l1]
    rw [number_eq hI hsl x0 x1 hu, Option.bind_some, ap_ok (by simp; omega), Option.bind_some, ih _ _ (fun z hz => hk z (List.mem_cons_of_mem _ hz)) (by rw [List.length_append, List.length_singleton]; omega)]
    simp
/-- The used steps alone. -/
def kS (I : Nat) (s : List SStep) (o : List Int) : List SStep := ts I (us I s o) s
def kO (I : Nat) (s : List SStep) (o : List Int) : List Int := o.map (pl I (us I s o))
theorem us_cl {I : Nat} {s : List SStep} {o : List Int} (hs : Ok I s) : Cl I (us I s o) s := fun j y hj hu => ⟨.inr (us_fac hs hj hu).1, .inr (us_fac hs hj hu).2⟩
theorem kS_len (I : Nat) (s : List SStep) (o : List Int) : (kS I s o).length ≤ s.length := by
  unfold kS
  rw [ts_len]
  exact vals_len _ _
end Go.Proofs.Ytiaohjciddbpoaa.Pure
