/- Powers and groups: what the reference writes is what the program writes. -/
import Derived.Test.YtgglemlhombgkaaKFnExactBestGiantZCoefs8
import Derived.Test.YtgglemlhombgkaaKFnExactBestGiantQ0
import Derived.Test.YtgglemlhombgkaaKFnExactBestGiantQ3
import Derived.Test.YtgglemlhombgkaaKFnExactBestGiantQ4
namespace Go.Proofs.Ytgglemlhombgkaa.Pure
open Go.RowKit Go.Proofs.Ytgglemlhombgkaa.Z Go.Proofs.Ytgglemlhombgkaa.E Go.Proofs.YtgglemlhombgkaaW.PrintWords Go.Proofs.YtgglemlhombgkaaW.PrintLast Go.Proofs.YtgglemlhombgkaaW.PrintMore
theorem poPowers_loop (most : Int) (hm : most ≤ 1000) : ∀ (d : Nat) (ps : List Int) (c : List Op) (v e : Int), 1 ≤ ps.length → rd (-1 :: ps) (ps.length : Int) = v → (most < e ∧ d = 0 ∨ e + d = most + 1) → 2 ≤ e → ps.length + d ≤ 2000 → c.length + d ≤ 2000 →
    ∃ qs, (pwGo d (-1 :: ps) c).1 = -1 :: qs ∧ Ev (fun k => spec_poPowers.l0 k most ps v e c 0) ((pwGo d (-1 :: ps) c).2, 0, qs)
  | 0, ps, c, v, e, h1, hv, he, h2, h3, h4 => by
    refine ⟨ps, rfl, shift ?_⟩
    simp only [spec_poPowers.l0]
    exact neg (by omega) (ret _)
  | d + 1, ps, c, v, e, h1, hv, he, h2, h3, h4 => by
    have hr : rd (-1 :: (ps ++ [(c.length : Int) + 1])) ((ps ++ [(c.length : Int) + 1]).length : Int) = (c.length : Int) + 1 := by
      rw [rd_nat _ _ (by simp)]
      simp
    obtain ⟨qs, q1, q2⟩ := poPowers_loop most hm d (ps ++ [(c.length : Int) + 1]) (c ++ [⟨3, v, 0⟩]) ((c.length : Int) + 1) (e + 1) (by simp) hr (by omega) (by omega) (by simp; omega) (by simp; omega)
    have hgo : pwGo (d + 1) (-1 :: ps) c = pwGo d (-1 :: (ps ++ [(c.length : Int) + 1])) (c ++ [⟨3, v, 0⟩]) := by
      simp only [pwGo]
      rw [← hv]
      simp
    rw [hgo]
    refine ⟨qs, q1, shift ?_⟩
    simp only [spec_poPowers.l0]
    rw [wrap_id (by omega) (by omega)]
    exact pos (by omega) (bind0 (poAdd_eq c 0 3 v 0 (by omega)) (pos (by omega) q2))
theorem poGroup_loop (coefs qs : List Int) (hq : coefs.length ≤ qs.length + 1) (hl : coefs.length ≤ 1000) : ∀ (d i : Nat) (v : Int) (c : List Op), i + d + 1 = coefs.length → c.length + 2 * d ≤ 10000 →
    Ev (fun k => spec_poGroup.l0 k coefs qs v ((i : Int) + 1) c 0) ((grGo coefs (-1 :: qs) d i v c).2, 0, (grGo coefs (-1 :: qs) d i v c).1)
  | 0, i, v, c, h, hc => by
    refine shift ?_
    simp only [spec_poGroup.l0]
    exact neg (by omega) (ret _)
  | d + 1, i, v, c, h, hc => by
    have hr : rd (-1 :: qs) ((i + 1 : Nat) : Int) = rd qs (i : Int) := by simp [rd]
    have ih := poGroup_loop coefs qs hq hl d (i + 1) ((c.length : Int) + 2) (c ++ [⟨2, rd qs (i : Int), rd coefs ((i + 1 : Nat) : Int)⟩] ++ [⟨1, v, (c.length : Int) + 1⟩]) (by omega) (by simp; omega)
    refine shift ?_
    simp only [spec_poGroup.l0, grGo]
    rw [hr, show wrap64 ((i : Int) + 1 - 1) = (i : Int) by rw [wrap_id (by omega) (by omega)]; omega, show wrap64 ((i : Int) + 1 + 1) = ((i + 1 : Nat) : Int) + 1 by rw [wrap_id (by omega) (by omega)]; omega, show ((i : Int) + 1) = ((i + 1 : Nat) : Int) by omega]
    refine pos (by omega) (pos (by omega) (pos (by omega) (pos (by omega) (bind0 (poAdd_eq c 0 2 _ _ (by omega)) (bind0 (poAdd_eq _ 0 1 _ _ (by simp; omega)) ?_)))))
    simpa [Int.add_assoc] using ih
theorem poGroup_ev (coefs qs : List Int) (c : List Op) (co : Int) (h1 : 1 ≤ coefs.length) (hq : coefs.length ≤ qs.length + 1) (hl : coefs.length ≤ 1000) (hc : c.length ≤ 5000) :
    Ev (fun k => spec_poGroup.f k c co coefs qs) ((grGo coefs (-1 :: qs) (coefs.length - 1) 0 ((c.length : Int) + 1) (c ++ [⟨0, rd coefs 0, 0⟩])).2, 0, (grGo coefs (-1 :: qs) (coefs.length - 1) 0 ((c.length : Int) + 1) (c ++ [⟨0, rd coefs 0, 0⟩])).1) := by
  have h := poGroup_loop coefs qs hq hl (coefs.length - 1) 0 ((c.length : Int) + 1) (c ++ [⟨0, rd coefs 0, 0⟩]) (by omega) (by simp; omega)
  unfold spec_poGroup.f
  exact pos (by omega) (bind0 (poAdd_eq c co 0 _ _ (by omega)) h)
theorem grGo_len (coefs pw : List Int) : ∀ (d i : Nat) (at_ : Int) (l : List Op), (grGo coefs pw d i at_ l).2.length = l.length + 2 * d
  | 0, i, at_, l => by simp [grGo]
  | d + 1, i, at_, l => by
    simp only [grGo]
    rw [grGo_len coefs pw d]
    simp
    omega
end Go.Proofs.Ytgglemlhombgkaa.Pure
