/- The law of EstrinCode in plain Lean: the program's answer is the reference's, for all coefficients. -/
import Derived.Test.YtgglemlhombgkaaKFnExactEstrinCodeZScheme8
import Derived.Test.YtgglemlhombgkaaKFnExactEstrinCodeZToIntS
import Derived.Test.YtgglemlhombgkaaKFnExactEstrinCodeZEqIntS
import Derived.Test.YtgglemlhombgkaaKFnExactEstrinCodeZMarkI8
import Derived.Test.YtgglemlhombgkaaKFnExactEstrinCodeZHeld8
import Derived.Test.YtgglemlhombgkaaKFnExactEstrinCodeQ0
import Derived.Test.YtgglemlhombgkaaKFnExactEstrinCodeQ2
import Derived.Test.YtgglemlhombgkaaKFnExactEstrinCodeQ5
import Derived.Test.YtgglemlhombgkaaKFnExactEstrinCodeQ6
namespace Go.Proofs.Ytgglemlhombgkaa.Pure
open Go.RowKit Go.Proofs.Ytgglemlhombgkaa.Z Go.Proofs.Ytgglemlhombgkaa.E Go.Proofs.YtgglemlhombgkaaW.PrintWords Go.Proofs.YtgglemlhombgkaaW.PrintLast Go.Proofs.YtgglemlhombgkaaW.PrintMore
theorem estrin_first (l : List Int) (hl : l.length ≤ 1000) (d : Nat) : ∀ (i : Nat) (xs : List Int) (m : List Op), i + d = l.length → xs.length = i → m.length = i → ∀ q, Ev (fun k => spec_EstrinCode.l1 k (es0 l d i xs m).1 0 (es0 l d i xs m).2 0) q →
  Ev (fun k => spec_EstrinCode.l0 k xs l (l.length : Int) i m 0) q := by
 induction d with
 | zero =>
  intro i xs m hi hx hm q hq
  refine shift ?_
  simp only [spec_EstrinCode.l0]
  exact neg (by omega) hq
 | succ d ih =>
  intro i xs m hi hx hm q hq
  have h := ih (i + 1) (xs ++ [(m.length : Int) + 1]) (m ++ [(⟨0, rd l (i : Int), 0⟩ : Op)]) (by omega) (by simp [hx]) (by simp [hm]) q hq
  refine shift ?_
  simp only [spec_EstrinCode.l0]
  rw [zb3 (by omega)]
  exact pos (by omega) (pos (by omega) (pos (by omega) (bind0 (poAdd_eq m 0 0 _ 0 (by omega)) (pos (by omega) h))))
theorem estrin_in (xs : List Int) (y : Int) (hl : xs.length ≤ 1000) (d : Nat) : ∀ (j : Nat) (nx : List Int) (m : List Op), (j + 2 * d = xs.length ∨ j + 2 * d = xs.length + 1) → j ≤ xs.length → j % 2 = 0 → nx.length ≤ j → m.length ≤ 10000 + 2 * j → ∀ q, Ev (fun k => spec_EstrinCode.j3 k y (esIn xs y d j nx m).1 (esIn xs y d j nx m).2 0) q →
  Ev (fun k => spec_EstrinCode.l2 k xs y nx j m 0) q := by
 induction d with
 | zero =>
  intro j nx m hj hjl hp hn hm q hq
  have hq : Ev (fun k => spec_EstrinCode.j3 k y nx m 0) q := hq
  refine shift ?_
  simp only [spec_EstrinCode.l2]
  rw [zb3 (by omega)]
  exact neg (by omega) (neg (by omega) hq)
 | succ d ih =>
  intro j nx m hj hjl hp hn hm q hq
  by_cases hlast : j + 1 = xs.length
  ·obtain rfl : d = 0 := by omega
   have hq : Ev (fun k => spec_EstrinCode.j3 k y (nx ++ [rd xs (j : Int)]) m 0) q := by
    have h := hq
    simp only [esIn, if_pos hlast] at h
    exact h
   refine shift ?_
   simp only [spec_EstrinCode.l2]
   rw [zb3 (by omega), show wrap64 ((xs.length : Int) - 1) = (j : Int) by rw [wrap_id (by omega) (by omega)]; omega]
   exact neg (by omega) (pos (by omega) (pos (by omega) (pos (by omega) (pos (by omega) hq))))
  ·have h := hq
   simp only [esIn, if_neg hlast] at h
   have h2 := ih (j + 2) _ _ (by omega) (by omega) (by omega) (by simp; omega) (by simp; omega) q h
   refine shift ?_
   simp only [spec_EstrinCode.l2]
   rw [zb3 (by omega), show wrap64 ((j : Int) + 2) = ((j + 2 : Nat) : Int) by rw [wrap_id (by omega) (by omega)]; omega]
   refine pos (by omega) (pos (by omega) (bind0 (poAdd_eq m 0 3 _ y (by omega)) (pos (by omega) (pos (by omega) (bind0 (poAdd_eq _ 0 1 _ _ (by simp; omega)) (pos (by omega) ?_))))))
   simpa [Int.add_assoc] using h2
theorem estrin_out (d : Nat) : ∀ (xs : List Int) (y : Int) (m : List Op), 1 ≤ xs.length → xs.length ≤ d + 1 → m.length + 100 * d ≤ 9000 → d ≤ 50 → ∀ q, Ev (fun k => (spec_poIf.f k (esOut d xs y m).2 (esOut d xs y m).1).bind fun bt => some (bt.1, bt.2.1, bt.2.2)) q →
  Ev (fun k => spec_EstrinCode.l1 k xs y m 0) q := by
 induction d with
 | zero =>
  intro xs y m h1 h2 h3 h4 q hq
  refine shift ?_
  simp only [spec_EstrinCode.l1]
  exact neg (by omega) (pos (by omega) hq)
 | succ d ih =>
  intro xs y m h1 h2 h3 h4 q hq
  simp only [esOut] at hq
  by_cases hx : 1 < xs.length
  ·simp only [if_pos hx] at hq
   have hin := esIn_length xs y ((xs.length + 1) / 2) 0 [] m
   simp only [List.length_nil, Nat.zero_add] at hin
   refine shift ?_
   simp only [spec_EstrinCode.l1]
   refine pos (by omega) (estrin_in xs y (by omega) ((xs.length + 1) / 2) 0 [] m (by omega) (by omega) rfl (by simp) (by omega) q ?_)
   generalize esIn xs y ((xs.length + 1) / 2) 0 [] m = e at *
   refine shift ?_
   simp only [spec_EstrinCode.j3]
   by_cases he : 1 < e.1.length
   ·simp only [if_pos he] at hq
    exact pos (by omega) (bind0 (poAdd_eq e.2 0 3 y y (by omega)) (ih e.1 _ _ (by omega) (by omega) (by simp; omega) (by omega) q hq))
   ·simp only [if_neg he] at hq
    exact neg (by omega) (ih e.1 y e.2 (by omega) (by omega) (by omega) (by omega) q hq)
  ·simp only [if_neg hx] at hq
   refine shift ?_
   simp only [spec_EstrinCode.l1]
   exact neg (by omega) (pos (by omega) hq)
theorem esOut_length : ∀ (d : Nat) (xs : List Int) (y : Int) (m : List Op), 1 ≤ xs.length → xs.length ≤ d + 1 → (esOut d xs y m).2.length ≤ m.length + d * (2 * d + 10)
 | 0, xs, y, m, _, _ => by simp [esOut]
 | d + 1, xs, y, m, h1, h2 => by
  have e1 : (d + 1) * (2 * (d + 1) + 10) = d * (2 * d + 10) + 2 * d + (2 * (d + 1) + 10) := by
   rw [Nat.add_mul, Nat.one_mul, show 2 * (d + 1) + 10 = (2 * d + 10) + 2 by omega, Nat.mul_add d (2 * d + 10) 2]
   omega
  simp only [esOut]
  split
  ·have hin := esIn_length xs y ((xs.length + 1) / 2) 0 [] m
   simp only [List.length_nil, Nat.zero_add] at hin
   generalize esIn xs y ((xs.length + 1) / 2) 0 [] m = e at *
   split
   ·have := esOut_length d e.1 ((e.2.length : Int) + 1) (e.2 ++ [⟨3, y, y⟩]) (by omega) (by omega)
    simp at this
    omega
   ·have := esOut_length d e.1 y e.2 (by omega) (by omega)
    omega
  ·show m.length ≤ _
   omega
theorem EstrinCode_both (l : List Int) (hl : l.length ≤ 1048576) : ∃ (r : List Op) (o : Int) (b : Bool), Ev (fun k => spec_EstrinCode.f k l) (r, o, b) ∧ Ev (fun k => impl_EstrinCode.f k l) (r, o, b) ∧ r.length ≤ 1000000 := by
 have h0 := poCoefs_ev l (by omega)
 unfold impl_EstrinCode.f
 rw [coefsOk_eq]
 simp only [Option.bind_some]
 cases hb : coefsB l with
 | false =>
  rw [hb] at h0
  unfold spec_EstrinCode.f
  exact ⟨[], 0, false, bind h0 (neg (by simp) (ret _)), neg (by simp) (ret _), by simp⟩
 | true =>
  rw [hb] at h0
  have hlen := coefsB_len hb
  have h2 := es0_length l l.length 0 [] []
  simp only [List.length_nil, Nat.zero_add] at h2
  have h3 := esOut_length l.length (es0 l l.length 0 [] []).1 0 (es0 l l.length 0 [] []).2 (by omega) (by omega)
  have h4 : l.length * (2 * l.length + 10) ≤ 17 * 44 := Nat.mul_le_mul (by omega) (by omega)
  have h5 : (estrinIn l).2.length ≤ 1000 := by unfold estrinIn; omega
  obtain ⟨r, p, b, t1, t2, t3⟩ := told_both (estrinIn l).2 (estrinIn l).1 (by omega)
  refine ⟨r, p, b, ?_, pos rfl t2, by omega⟩
  unfold spec_EstrinCode.f
  refine bind h0 (pos rfl ?_)
  have := estrin_first l (by omega) l.length 0 [] [] (by omega) rfl rfl (r, p, b) (estrin_out l.length _ 0 _ (by omega) (by omega) (by omega) (by omega) _ (by unfold estrinIn at t1; exact bind t1 (ret _)))
  simpa using this
theorem law_EstrinCode : laws_FnExactEstrinCode.Pure := by
 intro l _ hl _
 refine some_of ?_
 unfold laws_FnExactEstrinCode.f
 by_cases h : l.length ≤ 1048576
 ·refine neg (by omega) ?_
  have hc := toIntS_ev l (by omega)
  obtain ⟨r, o, b, h1, h2, hr⟩ := EstrinCode_both l (by omega)
  have he := eqIntS_ev l l (by omega)
  have hq := eqCode_refl r o (by omega)
  have hk := markIntS_ev l 1 (by omega)
  have hm := markCode_ev r o 1 (by omega)
  have hh := heldCode_ev r.length 1 o (by omega)
  refine bind hc (bind h1 (bind hc (bind h2 (bind hq (pos rfl (shift ?_))))))
  simp only [laws_FnExactEstrinCode.j0]
  refine neg (by simp) (bind hc (bind he (pos (by simp) (bind hk (neg (by omega) (bind hq (pos rfl (shift ?_))))))))
  simp only [laws_FnExactEstrinCode.j1]
  refine neg (by simp) (bind hm (bind hh (neg (by omega) (pos rfl (bind hc (bind h2 (bind hq (pos rfl (shift ?_)))))))))
  simp only [laws_FnExactEstrinCode.j2]
  exact neg (by simp) (bind hh (neg (by omega) (pos rfl (ret _))))
 ·exact pos (by omega) (ret _)

theorem FnExactEstrinCode : laws_FnExactEstrinCode.Pure := law_EstrinCode
end Go.Proofs.Ytgglemlhombgkaa.Pure
