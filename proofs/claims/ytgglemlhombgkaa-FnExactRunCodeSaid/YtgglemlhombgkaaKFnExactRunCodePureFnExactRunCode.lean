/- The law of RunCode in plain Lean: the program's answer is the reference's, for every code. -/
import Derived.Test.YtgglemlhombgkaaKFnExactRunCodeCode8
import Derived.Test.YtgglemlhombgkaaKFnExactRunCodeQ0
import Derived.Test.YtgglemlhombgkaaKFnExactRunCodeQ1
import Derived.Test.YtgglemlhombgkaaKFnExactRunCodeQ4
import Derived.Test.YtgglemlhombgkaaKFnExactRunCodeQ5
namespace Go.Proofs.Ytgglemlhombgkaa.Pure
open Go.RowKit Go.Proofs.Ytgglemlhombgkaa.Q Go.Proofs.Ytgglemlhombgkaa.E Go.Proofs.YtgglemlhombgkaaW.PrintWords Go.Proofs.YtgglemlhombgkaaW.PrintLast Go.Proofs.YtgglemlhombgkaaW.PrintMore
theorem poMod_some (x m : Int) (hm : 1 ≤ m) : ∃ t, spec_poMod.f x m = some t ∧ impl_rest.f x m = some t := by
  unfold spec_poMod.f impl_rest.f
  rw [if_neg (by omega)]
  exact ⟨_, rfl, rfl⟩
theorem run_loop (l : List Op) (o m : Int) (hm : 1 ≤ m) (hl : l.length ≤ 120) (h0 : 0 ≤ o) (h1 : o ≤ l.length) (hok : ∀ (j : Nat) (h : j < l.length), OpOk j l[j]) (d : Nat) : ∀ (i : Nat) (vs : List Int), vs.length = i + 1 → i + d = l.length →
    ∃ r, Ev (fun k => spec_RunCode.l0 k m vs l (l.length : Int) i l o) (r, true) ∧ Ev (fun k => impl_RunCode.l0 k m vs l (l.length : Int) i l o) (r, true) := by
  induction d with
  | zero =>
    intro i vs hv hi
    refine ⟨rd vs o, ?_, ?_⟩
    · refine shift ?_
      simp only [spec_RunCode.l0]
      exact neg (by omega) (pos (by omega) (pos (by omega) (ret _)))
    · refine shift ?_
      simp only [impl_RunCode.l0]
      exact neg (by omega) (pos (by omega) (pos (by omega) (ret _)))
  | succ d ih =>
    intro i vs hv hi
    have hlt : i < l.length := by omega
    have hr : rd_T69 l (i : Int) = l[i] := rdOp_nat l i hlt
    have hop := hok i hlt
    unfold OpOk at hop
    rcases hop with ⟨k0, _, _⟩ | ⟨k13, ha, hb⟩ | ⟨k2, ha, hb⟩
    · obtain ⟨t, e1, e2⟩ := poMod_some l[i].f1 m hm
      obtain ⟨r, g1, g2⟩ := ih (i + 1) (vs ++ [t]) (by simp [hv]) (by omega)
      refine ⟨r, ?_, ?_⟩
      · refine shift ?_
        simp only [spec_RunCode.l0]
        rw [hr, wrap_succ (by omega)]
        exact pos (by omega) (pos (by omega) (pos (by omega) (pos k0 (bind0 e1 (pos (by omega) g1)))))
      · refine shift ?_
        simp only [impl_RunCode.l0]
        rw [hr, wrap_succ (by omega)]
        exact pos (by omega) (pos (by omega) (pos (by omega) (neg (by omega) (neg (by omega) (neg (by omega) (bind0 e2 (pos (by omega) g2)))))))
    · rcases k13 with k1 | k3
      · obtain ⟨t, e1, e2⟩ := poMod_some (wrap64 (rd vs l[i].f1 + rd vs l[i].f2)) m hm
        obtain ⟨r, g1, g2⟩ := ih (i + 1) (vs ++ [t]) (by simp [hv]) (by omega)
        refine ⟨r, ?_, ?_⟩
        · refine shift ?_
          simp only [spec_RunCode.l0]
          rw [hr, wrap_succ (by omega)]
          exact pos (by omega) (pos (by omega) (pos (by omega) (neg (by omega) (pos k1 (pos (by omega) (pos (by omega) (pos (by omega) (pos (by omega) (bind0 e1 (pos (by omega) g1))))))))))
        · refine shift ?_
          simp only [impl_RunCode.l0]
          rw [hr, wrap_succ (by omega)]
          exact pos (by omega) (pos (by omega) (pos (by omega) (pos k1 (pos (by omega) (pos (by omega) (pos (by omega) (pos (by omega) (bind0 e2 (pos (by omega) g2)))))))))
      · obtain ⟨t, e1, e2⟩ := poMod_some (wrap64 (rd vs l[i].f1 * rd vs l[i].f2)) m hm
        obtain ⟨r, g1, g2⟩ := ih (i + 1) (vs ++ [t]) (by simp [hv]) (by omega)
        refine ⟨r, ?_, ?_⟩
        · refine shift ?_
          simp only [spec_RunCode.l0]
          rw [hr, wrap_succ (by omega)]
          exact pos (by omega) (pos (by omega) (pos (by omega) (neg (by omega) (neg (by omega) (neg (by omega) (pos (by omega) (pos (by omega) (pos (by omega) (pos (by omega) (bind0 e1 (pos (by omega) g1)))))))))))
        · refine shift ?_
          simp only [impl_RunCode.l0]
          rw [hr, wrap_succ (by omega)]
          exact pos (by omega) (pos (by omega) (pos (by omega) (neg (by omega) (neg (by omega) (pos k3 (pos (by omega) (pos (by omega) (pos (by omega) (pos (by omega) (bind0 e2 (pos (by omega) g2)))))))))))
    · obtain ⟨t, e1, e2⟩ := poMod_some (wrap64 (rd vs l[i].f1 * l[i].f2)) m hm
      obtain ⟨r, g1, g2⟩ := ih (i + 1) (vs ++ [t]) (by simp [hv]) (by omega)
      refine ⟨r, ?_, ?_⟩
      · refine shift ?_
        simp only [spec_RunCode.l0]
        rw [hr, wrap_succ (by omega)]
        exact pos (by omega) (pos (by omega) (pos (by omega) (neg (by omega) (neg (by omega) (pos k2 (pos (by omega) (pos (by omega) (bind0 e1 (pos (by omega) g1)))))))))
      · refine shift ?_
        simp only [impl_RunCode.l0]
        rw [hr, wrap_succ (by omega)]
        exact pos (by omega) (pos (by omega) (pos (by omega) (neg (by omega) (pos k2 (pos (by omega) (pos (by omega) (bind0 e2 (pos (by omega) g2))))))))
theorem polyModulusOk_eq (m : Int) : impl_polyModulusOk.f m = some (decide (1 ≤ m ∧ m ≤ 1000000)) := by
  unfold impl_polyModulusOk.f
  rw [in_eq]
  rfl
theorem poModulus_eq (x m : Int) : spec_poModulus.f x m = some (decide ((-1000000 ≤ x ∧ x ≤ 1000000) ∧ (1 ≤ m ∧ m ≤ 1000000))) := by
  unfold spec_poModulus.f
  rw [l1In_eq]
  simp only [Option.bind_some]
  by_cases h : -1000000 ≤ x ∧ x ≤ 1000000
  · rw [if_pos (by simpa using h), l1In_eq]
    simp [h]
  · rw [if_neg (by simpa using h)]
    simp [h]
theorem run_both (l : List Op) (o x m : Int) (hl : l.length ≤ 1048576) : ∃ (r : Int) (b : Bool), Ev (fun k => spec_RunCode.f k l o x m) (r, b) ∧ Ev (fun k => impl_RunCode.f k l o x m) (r, b) := by
  obtain ⟨b, h1, h2, h3⟩ := good_both l o hl
  have no1 : Ev (fun k => spec_RunCode.j0 k x m true l o) (0, false) := by
    refine shift ?_
    simp only [spec_RunCode.j0]
    exact pos trivial (ret _)
  have no2 : Ev (fun k => impl_RunCode.j0 k x m true l o) (0, false) := by
    refine shift ?_
    simp only [impl_RunCode.j0]
    exact pos trivial (ret _)
  unfold spec_RunCode.f impl_RunCode.f
  cases b with
  | false => exact ⟨0, false, bind h1 (neg (by simp) no1), bind h2 (neg (by simp) no2)⟩
  | true =>
    obtain ⟨v, g⟩ := h3 rfl
    by_cases hx : -1000000 ≤ x ∧ x ≤ 1000000
    · by_cases hm : 1 ≤ m ∧ m ≤ 1000000
      · obtain ⟨t, e1, e2⟩ := poMod_some x m hm.1
        obtain ⟨r, g1, g2⟩ := run_loop l o m hm.1 g.few g.lo g.hi g.ops l.length 0 [t] rfl (by omega)
        refine ⟨r, true, bind h1 (pos rfl (bind0 (poModulus_eq x m) (shift ?_))), bind h2 (pos rfl (bind0 (coefOk_eq x) (pos (by simpa using hx) (bind0 (polyModulusOk_eq m) (shift ?_)))))⟩
        · simp only [spec_RunCode.j0]
          exact neg (by simp only [hx, hm, and_self, decide_true, Bool.not_true]; simp) (bind0 e1 g1)
        · simp only [impl_RunCode.j0]
          exact neg (by simp only [hm, and_self, decide_true, Bool.not_true]; simp) (bind0 e2 g2)
      · refine ⟨0, false, bind h1 (pos rfl (bind0 (poModulus_eq x m) ?_)), bind h2 (pos rfl (bind0 (coefOk_eq x) (pos (by simpa using hx) (bind0 (polyModulusOk_eq m) ?_))))⟩
        · simp only [hm, and_false, decide_false, Bool.not_false]
          exact no1
        · simp only [hm, decide_false, Bool.not_false]
          exact no2
    · refine ⟨0, false, bind h1 (pos rfl (bind0 (poModulus_eq x m) ?_)), bind h2 (pos rfl (bind0 (coefOk_eq x) (neg (by simpa using hx) no2)))⟩
      simp only [hx, false_and, decide_false, Bool.not_false]
      exact no1
theorem law_RunCode : laws_FnExactRunCode.Pure := by
  intro l o x m hl _ _ _ _
  refine some_of ?_
  unfold laws_FnExactRunCode.f
  by_cases h : l.length ≤ 1048576
  · refine bind0 (szCode_small l o 1048576 (Nat.le_refl _) h) (neg (by omega) ?_)
    have hc := toCode_ev l o h
    obtain ⟨r, b, h1, h2⟩ := run_both (l.map toOp) o x m (by simpa using h)
    refine bind hc (bind h1 (bind hc (bind h2 (pos rfl (shift ?_)))))
    simp only [laws_FnExactRunCode.j0]
    exact neg (by simp) (bind hc (bind (eqCode_refl _ _ (by simp; omega)) (pos rfl (ret _))))
  · exact bind0 (szCode_large l o 1048576 (Nat.le_refl _) (by omega) hl) (pos (by omega) (ret _))

theorem FnExactRunCode : laws_FnExactRunCode.Pure := law_RunCode
end Go.Proofs.Ytgglemlhombgkaa.Pure
