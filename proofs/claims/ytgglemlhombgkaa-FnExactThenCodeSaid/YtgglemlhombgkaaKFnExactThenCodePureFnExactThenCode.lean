/- The law of ThenCode in plain Lean: the program's answer is the reference's, for all codes. -/
import Derived.Test.YtgglemlhombgkaaKFnExactThenCodeTCoefs8
import Derived.Test.YtgglemlhombgkaaKFnExactThenCodeTHeld8
import Derived.Test.YtgglemlhombgkaaKFnExactThenCodeQ0
import Derived.Test.YtgglemlhombgkaaKFnExactThenCodeQ2
import Derived.Test.YtgglemlhombgkaaKFnExactThenCodeQ5
import Derived.Test.YtgglemlhombgkaaKFnExactThenCodeQ6
namespace Go.Proofs.Ytgglemlhombgkaa.Pure
open Go.RowKit Go.Proofs.Ytgglemlhombgkaa.T Go.Proofs.Ytgglemlhombgkaa.E Go.Proofs.YtgglemlhombgkaaW.PrintWords Go.Proofs.YtgglemlhombgkaaW.PrintLast Go.Proofs.YtgglemlhombgkaaW.PrintMore
/-- The place of a value behind another code. -/
def beh (n : Nat) (o v : Int) : Int := if v = 0 then o else (n : Int) + v
theorem poBehind_eq (l : List Op) (o v : Int) (hl : l.length ≤ 1000) (h0 : 0 ≤ v) (h1 : v ≤ 1000) : spec_poBehind.f l o v = some (beh l.length o v) := by
 unfold spec_poBehind.f beh
 split
 ·rfl
 ·rw [wrap_id (by omega) (by omega)]
theorem poBehind_any (l : List Op) (o v : Int) : ∃ z, spec_poBehind.f l o v = some z := by
 unfold spec_poBehind.f
 split <;> exact ⟨_, rfl⟩
/-- What an op becomes: both move it alike. -/
theorem moved_both (o : Op) (n i : Nat) (a0 x y : Int) (places : List Int) (hok : OpOk i o) (hp : places.length = i + 1) (hpl : ∀ v : Int, 0 ≤ v → v ≤ i → rd places v = beh n a0 v) (hx : 0 ≤ o.f1 → o.f1 ≤ i → x = beh n a0 o.f1) (hy : 0 ≤ o.f2 → o.f2 ≤ i → y = beh n a0 o.f2) :
  ∃ r, spec_poMoved.f o.f0 o.f1 o.f2 x y = some r ∧ impl_Op_moved.f o.f0 o.f1 o.f2 places = some r := by
 unfold OpOk at hok
 unfold spec_poMoved.f impl_Op_moved.f
 rcases hok with ⟨h0, _, _⟩ | ⟨h13, ha, hb⟩ | ⟨h2, ha, _⟩
 ·refine ⟨(o.f0, o.f1, o.f2), by rw [if_pos h0], ?_⟩
  rw [if_pos h0, if_neg (by omega), if_neg (by omega)]
 ·refine ⟨(o.f0, x, y), by rw [if_neg (by omega), if_neg (by omega)], ?_⟩
  rw [if_neg (by omega), if_pos ha.1, if_pos (by omega), hx ha.1 ha.2, hy hb.1 hb.2, ← hpl _ ha.1 ha.2, ← hpl _ hb.1 hb.2]
  by_cases h1 : o.f0 = 1
  ·rw [if_pos h1, if_pos hb.1, if_pos (by omega)]
  ·rw [if_neg h1, if_pos (by omega), if_pos hb.1, if_pos (by omega)]
 ·refine ⟨(o.f0, x, o.f2), by rw [if_neg (by omega), if_pos h2], ?_⟩
  rw [if_neg (by omega), if_pos ha.1, if_pos (by omega), hx ha.1 ha.2, ← hpl _ ha.1 ha.2, if_neg (by omega), if_neg (by omega)]
theorem then_loop (l0 l1 : List Op) (a0 z : Int) (h0 : l0.length ≤ 1000) (hl : l1.length ≤ 1000) (hok : ∀ (j : Nat) (h : j < l1.length), OpOk j l1[j]) (d : Nat) : ∀ (i : Nat) (places : List Int) (m : List Op), i + d = l1.length → places.length = i + 1 → (∀ v : Int, 0 ≤ v → v ≤ i → rd places v = beh l0.length a0 v) → m.length = l0.length + i →
  ∃ pl ms, thGo l1 d i places m = some (pl, ms) ∧ pl.length = l1.length + 1 ∧ (∀ v : Int, 0 ≤ v → v ≤ l1.length → rd pl v = beh l0.length a0 v) ∧ ms.length = l0.length + l1.length ∧
   ∀ q, Ev (fun k => (spec_poIf.f k ms z).bind fun bt => some (bt.1, bt.2.1, bt.2.2)) q → Ev (fun k => spec_ThenCode.l0 k l1 (l1.length : Int) i l0 a0 m z) q := by
 induction d with
 | zero =>
  intro i places m hi hp hpl hm
  obtain rfl : i = l1.length := by omega
  refine ⟨places, m, rfl, hp, hpl, hm, fun q hq => shift ?_⟩
  simp only [spec_ThenCode.l0]
  exact neg (by omega) hq
 | succ d ih =>
  intro i places m hi hp hpl hm
  have hlt : i < l1.length := by omega
  have hr : za9 l1 (i : Int) = l1[i] := rdOp_nat l1 i hlt
  have hop := hok i hlt
  obtain ⟨x, hx⟩ := poBehind_any l0 a0 l1[i].f1
  obtain ⟨y, hy⟩ := poBehind_any l0 a0 l1[i].f2
  obtain ⟨⟨r1, r2, r3⟩, e1, e2⟩ := moved_both l1[i] l0.length i a0 x y places hop hp hpl (fun g0 g1 => by
   have := poBehind_eq l0 a0 l1[i].f1 h0 g0 (by omega)
   rw [hx] at this
   exact Option.some.inj this) (fun g0 g1 => by
   have := poBehind_eq l0 a0 l1[i].f2 h0 g0 (by omega)
   rw [hy] at this
   exact Option.some.inj this)
  have hpl2 : ∀ v : Int, 0 ≤ v → v ≤ ((i + 1 : Nat) : Int) → rd (places ++ [(m.length : Int) + 1]) v = beh l0.length a0 v := by
   intro v v0 v1
   by_cases hv : v ≤ i
   ·rw [rd_append_left _ _ _ v0 (by omega)]
    exact hpl v v0 hv
   ·have e : v = ((i + 1 : Nat) : Int) := by omega
    subst e
    rw [rd_nat _ _ (by simp; omega)]
    unfold beh
    rw [if_neg (by omega), List.getElem_append_right (by omega)]
    simp
    omega
  obtain ⟨pl, ms, g1, g2, g3, g4, g5⟩ := ih (i + 1) (places ++ [(m.length : Int) + 1]) (m ++ [⟨r1, r2, r3⟩]) (by omega) (by simp [hp]) hpl2 (by simp; omega)
  refine ⟨pl, ms, ?_, g2, g3, g4, fun q hq => shift ?_⟩
  ·simp only [thGo]
   rw [hr, e2]
   exact g1
  ·simp only [spec_ThenCode.l0]
   rw [hr, wrap_succ (by omega)]
   exact pos (by omega) (pos (by omega) (pos (by omega) (bind0 hx (bind0 hy (bind0 e1 (pos (by omega) (g5 q hq)))))))
theorem then_both (l0 l1 : List Op) (a0 a1 : Int) (hl0 : l0.length ≤ 1048576) (hl1 : l1.length ≤ 1048576) : ∃ (r : List Op) (o : Int) (b : Bool), Ev (fun k => spec_ThenCode.f k l0 a0 l1 a1) (r, o, b) ∧ Ev (fun k => impl_ThenCode.f k l0 a0 l1 a1) (r, o, b) ∧ r.length ≤ 1000 := by
 obtain ⟨b0, p1, p2, p3⟩ := good_both l0 a0 hl0
 obtain ⟨b1, s1, s2, s3⟩ := good_both l1 a1 hl1
 have no : Ev (fun k => spec_ThenCode.j0 k true l0 a0 l1 a1) ([], 0, false) := by
  refine shift ?_
  simp only [spec_ThenCode.j0]
  exact pos trivial (ret _)
 unfold spec_ThenCode.f impl_ThenCode.f
 cases b0 with
 | false => exact ⟨[], 0, false, bind p1 (neg (by simp) no), bind p2 (neg (by simp) (ret _)), by simp⟩
 | true =>
  cases b1 with
  | false => exact ⟨[], 0, false, bind p1 (pos rfl (bind s1 (by simpa using no))), bind p2 (pos rfl (bind s2 (neg (by simp) (ret _)))), by simp⟩
  | true =>
   obtain ⟨v0, g0⟩ := p3 rfl
   obtain ⟨v1, g1⟩ := s3 rfl
   have := g0.few
   have := g1.few
   have := g1.lo
   have := g1.hi
   have := g0.lo
   obtain ⟨pl, ms, e1, e2, e3, e4, e5⟩ := then_loop l0 l1 a0 (beh l0.length a0 a1) (by omega) (by omega) g1.ops l1.length 0 [a0] l0 (by omega) rfl (fun v h0 h1 => by
    obtain rfl : v = 0 := by omega
    rfl) (by omega)
   obtain ⟨r, p, b, t1, t2, t3⟩ := told_both ms (beh l0.length a0 a1) (by omega)
   refine ⟨r, p, b, bind p1 (pos rfl (bind s1 ?_)), bind p2 (pos rfl (bind s2 (pos rfl (pos (by omega) (pos (by omega) (bind0 e1 (pos (by omega) (pos (show a1 < (pl.length : Int) by omega) ?_)))))))), by omega⟩
   ·show Ev (fun k => spec_ThenCode.j0 k false l0 a0 l1 a1) _
    refine shift ?_
    simp only [spec_ThenCode.j0, Option.bind_some, List.length_nil, List.nil_append]
    refine neg (by simp) (pos (by omega) (bind0 (poBehind_eq l0 a0 a1 (by omega) (by omega) (by omega)) (e5 _ (bind t1 (ret _)))))
   ·rw [e3 a1 (by omega) (by omega)]
    exact t2
theorem FnExactThenCode : laws_FnExactThenCode.Pure := by
 intro l0 a0 l1 a1 _ _
 by_cases h0 : l0.length ≤ 1048576
 ·refine .inr ⟨((1048576 - l0.length : Nat) : Int), by omega, szCode_small l0 a0 1048576 (Nat.le_refl _) h0, ?_⟩
  by_cases h1 : l1.length ≤ 1048576 - l0.length
  ·refine .inr ?_
   obtain ⟨r, o, b, e1, e2, hr⟩ := then_both (l0.map toOp) (l1.map toOp) a0 a1 (by simpa using h0) (by simp; omega)
   obtain ⟨K1, f1⟩ := toCode_ev l0 a0 h0
   obtain ⟨K2, f2⟩ := toCode_ev l1 a1 (by omega)
   obtain ⟨K3, f3⟩ := e1
   obtain ⟨K4, f4⟩ := e2
   obtain ⟨K5, f5⟩ := eqCode_refl r o (by omega)
   obtain ⟨K6, f6⟩ := eqCode_refl (l0.map toOp) a0 (by simp; omega)
   obtain ⟨K7, f7⟩ := eqCode_refl (l1.map toOp) a1 (by simp; omega)
   obtain ⟨K8, f8⟩ := markCode_ev (l0.map toOp) a0 1 (by simp; omega)
   obtain ⟨K9, f9⟩ := markCode_ev (l1.map toOp) a1 (1 + 3 * (l0.map toOp).length) (by simp; omega)
   obtain ⟨K10, f10⟩ := markCode_ev r o 1 (by omega)
   obtain ⟨K11, f11⟩ := heldCode_ev r.length 1 o (by omega)
   obtain ⟨K, hK⟩ : ∃ K, K = K1 + K2 + K3 + K4 + K5 + K6 + K7 + K8 + K9 + K10 + K11 := ⟨_, rfl⟩
   exact ⟨_, _, _, _, _, _, _, _, _, r, o, b, K, by omega, szCode_small l1 a1 _ (by omega) h1, f1 K (by omega), f2 K (by omega), f3 K (by omega), f4 K (by omega), f5 K (by omega), f6 K (by omega), f7 K (by omega), f8 K (by omega), f9 K (by omega), by omega, f10 K (by omega), by omega, f11 K (by omega)⟩
  ·exact .inl (szCode_large l1 a1 _ (by omega) (by omega) (by simp only [maxLen] at *; omega))
 ·exact .inl (szCode_large l0 a0 1048576 (Nat.le_refl _) (by omega) (by simp only [maxLen] at *; omega))
end Go.Proofs.Ytgglemlhombgkaa.Pure
