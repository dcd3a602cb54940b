/- The law of HornerCode in plain Lean: the program's answer is the reference's, for all coefficients. -/
import Derived.Test.YtgglemlhombgkaaKFnExactHornerCodeZScheme8
import Derived.Test.YtgglemlhombgkaaKFnExactHornerCodeZToIntS
import Derived.Test.YtgglemlhombgkaaKFnExactHornerCodeZEqIntS
import Derived.Test.YtgglemlhombgkaaKFnExactHornerCodeZMarkI8
import Derived.Test.YtgglemlhombgkaaKFnExactHornerCodeZHeld8
import Derived.Test.YtgglemlhombgkaaKFnExactHornerCodeQ0
import Derived.Test.YtgglemlhombgkaaKFnExactHornerCodeQ2
import Derived.Test.YtgglemlhombgkaaKFnExactHornerCodeQ5
namespace Go.Proofs.Ytgglemlhombgkaa.Pure
open Go.RowKit Go.Proofs.Ytgglemlhombgkaa.Z Go.Proofs.Ytgglemlhombgkaa.E Go.Proofs.YtgglemlhombgkaaW.PrintWords Go.Proofs.YtgglemlhombgkaaW.PrintLast Go.Proofs.YtgglemlhombgkaaW.PrintMore
theorem horner_loop (l : List Int) (last : Int) (hl : l.length ≤ 1000) (d : Nat) : ∀ n : Nat, n + d + 1 = l.length → ∀ q, Ev (fun k => (spec_poIf.f k (hoF last (bwd (l.take (l.length - 1)) (l.length - 1))).2 (hoF last (bwd (l.take (l.length - 1)) (l.length - 1))).1).bind fun bt => some (bt.1, bt.2.1, bt.2.2)) q →
    Ev (fun k => spec_HornerCode.l0 k l (hoF last (bwd (l.take (l.length - 1)) n)).1 ((l.length : Int) - 2 - n) (hoF last (bwd (l.take (l.length - 1)) n)).2 0) q := by
  have hz : (l.take (l.length - 1)).length = l.length - 1 := by rw [List.length_take]; omega
  induction d with
  | zero =>
    intro n hn q hq
    obtain rfl : n = l.length - 1 := by omega
    refine shift ?_
    simp only [spec_HornerCode.l0]
    exact neg (by omega) hq
  | succ d ih =>
    intro n hn q hq
    have h := ih (n + 1) (by omega) q hq
    rw [bwd_succ, hoF_snoc, hz] at h
    have hlen := hoF_length last (bwd (l.take (l.length - 1)) n)
    rw [bwd_length] at hlen
    have hr : rd (l.take (l.length - 1)) ((l.length - 1 - 1 - n : Nat) : Int) = rd l ((l.length : Int) - 2 - n) := by
      rw [show ((l.length : Int) - 2 - n) = ((l.length - 1 - 1 - n : Nat) : Int) by omega, rd_nat _ _ (by omega), rd_nat _ _ (by omega), List.getElem_take]
    rw [hr] at h
    generalize hoF last (bwd (l.take (l.length - 1)) n) = s at *
    refine shift ?_
    simp only [spec_HornerCode.l0]
    rw [show wrap64 ((l.length : Int) - 2 - n - 1) = (l.length : Int) - 2 - ((n + 1 : Nat) : Int) by rw [wrap_id (by omega) (by omega)]; omega]
    refine pos (by omega) (bind0 (poAdd_eq s.2 0 3 s.1 0 (by omega)) (pos (by omega) (pos (by omega) (bind0 (poAdd_eq _ 0 0 _ 0 (by simp; omega)) (bind0 (poAdd_eq _ 0 1 _ _ (by simp; omega)) ?_)))))
    simpa [hoStep, Int.add_assoc] using h
theorem HornerCode_both (l : List Int) (hl : l.length ≤ 1048576) : ∃ (r : List Op) (o : Int) (b : Bool), Ev (fun k => spec_HornerCode.f k l) (r, o, b) ∧ Ev (fun k => impl_HornerCode.f k l) (r, o, b) ∧ r.length ≤ 1000000 := by
  have h0 := poCoefs_ev l (by omega)
  unfold impl_HornerCode.f
  rw [coefsOk_eq]
  simp only [Option.bind_some]
  cases hb : coefsB l with
  | false =>
    rw [hb] at h0
    unfold spec_HornerCode.f
    exact ⟨[], 0, false, bind h0 (neg (by simp) (ret _)), neg (by simp) (ret _), by simp⟩
  | true =>
    rw [hb] at h0
    have hlen := coefsB_len hb
    have hlen2 := hoF_length (rd l ((l.length : Int) - 1)) (bwd (l.take (l.length - 1)) (l.length - 1))
    rw [bwd_length] at hlen2
    have hz : (l.take (l.length - 1)).length = l.length - 1 := by rw [List.length_take]; omega
    have hin : hornerIn l = hoF (rd l ((l.length : Int) - 1)) (bwd (l.take (l.length - 1)) (l.length - 1)) := by unfold hornerIn; rw [hz]
    rw [← hin] at hlen2
    obtain ⟨r, p, b, t1, t2, t3⟩ := told_both (hornerIn l).2 (hornerIn l).1 (by omega)
    refine ⟨r, p, b, ?_, pos rfl t2, by omega⟩
    have h := horner_loop l (rd l ((l.length : Int) - 1)) (by omega) (l.length - 1) 0 (by omega) (r, p, b) (by rw [← hin]; exact bind t1 (ret _))
    unfold spec_HornerCode.f
    refine bind h0 (pos rfl ?_)
    rw [wrap_id (x := (l.length : Int) - 1) (by omega) (by omega), wrap_id (x := (l.length : Int) - 2) (by omega) (by omega)]
    refine pos (by omega) (pos (by omega) (bind0 (poAdd_eq [] 0 0 _ 0 (by simp)) ?_))
    simpa [hoF, bwd] using h
theorem law_HornerCode : laws_FnExactHornerCode.Pure := by
  intro l _ hl _
  refine some_of ?_
  unfold laws_FnExactHornerCode.f
  by_cases h : l.length ≤ 1048576
  · refine neg (by omega) ?_
    have hc := toIntS_ev l (by omega)
    obtain ⟨r, o, b, h1, h2, hr⟩ := HornerCode_both l (by omega)
    have he := eqIntS_ev l l (by omega)
    have hq := eqCode_refl r o (by omega)
    have hk := markIntS_ev l 1 (by omega)
    have hm := markCode_ev r o 1 (by omega)
    have hh := heldCode_ev r.length 1 o (by omega)
    refine bind hc (bind h1 (bind hc (bind h2 (bind hq (pos rfl (shift ?_))))))
    simp only [laws_FnExactHornerCode.j0]
    refine neg (by simp) (bind hc (bind he (pos (by simp) (bind hk (neg (by omega) (bind hq (pos rfl (shift ?_))))))))
    simp only [laws_FnExactHornerCode.j1]
    refine neg (by simp) (bind hm (bind hh (neg (by omega) (pos rfl (bind hc (bind h2 (bind hq (pos rfl (shift ?_)))))))))
    simp only [laws_FnExactHornerCode.j2]
    exact neg (by simp) (bind hh (neg (by omega) (pos rfl (ret _))))
  · exact pos (by omega) (ret _)

theorem FnExactHornerCode : laws_FnExactHornerCode.Pure := law_HornerCode
end Go.Proofs.Ytgglemlhombgkaa.Pure
