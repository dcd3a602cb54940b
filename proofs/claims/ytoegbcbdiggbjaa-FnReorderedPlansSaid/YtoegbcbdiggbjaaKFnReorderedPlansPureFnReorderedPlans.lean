/- Pure: the law of reordered plans. -/
import Derived.Test.YtoegbcbdiggbjaaKFnReorderedPlansPreo
import Derived.Test.YtoegbcbdiggbjaaKFnReorderedPlansPdraw
set_option linter.unusedVariables false
set_option linter.unusedSimpArgs false
namespace Go.Proofs.Ytoegbcbdiggbjaa.Pure
open Go.RowKit Go.Proofs.Ytoegbcbdiggbjaa.E Go.Proofs.Ytoegbcbdiggbjaa.RO Go.Proofs.Ytoegbcbdiggbjaa.Frame Go.Proofs.YtoegbcbdiggbjaaW.PrintLast Go.Proofs.YtoegbcbdiggbjaaW.PrintMore
open Go.Proofs.YtoegbcbdiggbjaaW.PrintWords hiding mn mx
theorem dro_l0 {c : List Int} (hc : Bytes c) (hl : c.length ≤ 1048576) (M : List Int) (hM : M.length ≤ 100000) (m : Nat) : ∀ (n : Nat) (a sd : Int) (L : List Int), n ≤ 1000 → L.length = M.length → Bud a (m + n) → ∃ a' sd' L', Ev (fun k => spec_DrawReorderSteps.l0 c M k L a sd (n : Int)) (a', sd', L') ∧ L'.length = M.length ∧ Bud a' m := by
  intro n
  induction n with
  | zero =>
    intro a sd L hn hL hb
    refine ⟨a, sd, L, shift ?_, hL, hb⟩
    simp only [spec_DrawReorderSteps.l0]
    exact neg (by omega) (ret _)
  | succ n ih =>
    intro a sd L hn hL hb
    by_cases c1 : 1 < (M.length : Int)
    · obtain ⟨x, a1, s1, e1, x0, x1, b1⟩ := pick_ev hc hl (m := m + n) hb sd ((M.length : Int) - 1)
      obtain ⟨a', sd', L', e, q1, q2⟩ := ih a1 s1 ((L.set x.toNat (rg L (x + 1))).set (x + 1).toNat (rg L x)) (by omega) (by simpa using hL) b1
      refine ⟨a', sd', L', shift ?_, q1, q2⟩
      simp only [spec_DrawReorderSteps.l0]
      refine pos (by omega) (pos c1 ?_)
      rw [zaz (x := (M.length : Int) - 1) (by omega)]
      refine bind0 e1 (bind0 (rg_gt x0 (by omega)) ?_)
      rw [zaz (x := x + 1) (by omega)]
      refine bind0 (rg_gt (by omega) (by omega)) (bind0 (rg_gt x0 (by omega)) (bind0 (rg_st x0 (by omega)) (bind0 (rg_gt (by omega) (by rw [List.length_set]; omega)) (bind0 (rg_st (by omega) (by rw [List.length_set]; omega)) ?_))))
      rw [zaz (by omega), show ((n + 1 : Nat) : Int) - 1 = (n : Int) by omega]
      exact e
    · refine ⟨a, sd, L, shift ?_, hL, hb.le (by omega)⟩
      simp only [spec_DrawReorderSteps.l0]
      exact pos (by omega) (neg c1 (ret _))
theorem drawReorder {c : List Int} (hc : Bytes c) (hl : c.length ≤ 1048576) : ∃ i s o l, Ev (fun k => spec_DrawReorderSteps.f k c) (i, s, o, l) ∧ s.length ≤ 60 ∧ o.length ≤ 60 ∧ l.length ≤ 61 := by
  obtain ⟨i, s, o, a, sd, e1, ls, lo, b1⟩ := drawAny hc hl 0 0 3 7 (by omega) 1000 ⟨by omega, by omega⟩
  obtain ⟨x, a2, s2, e2, x0, x1, b2⟩ := pick_ev hc hl (m := 999) b1 sd 4
  obtain ⟨n, rfl⟩ := Int.eq_ofNat_of_zero_le x0
  have hi : (iota s.length).length = s.length := iota_length _
  obtain ⟨a3, s3, L, e3, q3, b3⟩ := dro_l0 hc hl (iota s.length) (by omega) 900 n a2 s2 (iota s.length) (by omega) rfl (b2.le (by omega))
  obtain ⟨b, a4, s4, e4, b4⟩ := one_ev hc hl (m := 899) b3 s3 10
  cases b with
  | true =>
    obtain ⟨z, a5, s5, e5, z0, z1, b5⟩ := pick_ev hc hl (m := 898) b4 s4 9
    refine ⟨i, s, o, L ++ [w64 (z - 1)], ?_, ls, lo, by rw [List.length_append, List.length_singleton]; omega⟩
    unfold spec_DrawReorderSteps.f
    refine bind e1 (bind (upTo_ev s.length (by omega)) (bind (a := (a3, s3, L)) (bind0 e2 e3) (bind (a := (L ++ [w64 (z - 1)], a5, s5)) ?_ (ret _))))
    exact bind0 e4 (pos rfl (bind0 e5 (bind0 (ap_ok (by simp; omega)) (ret _))))
  | false =>
    refine ⟨i, s, o, L, ?_, ls, lo, by omega⟩
    unfold spec_DrawReorderSteps.f
    refine bind e1 (bind (upTo_ev s.length (by omega)) (bind (a := (a3, s3, L)) (bind0 e2 e3) (bind (a := (L, a4, s4)) ?_ (ret _))))
    exact bind0 e4 (neg (by simp) (ret _))
theorem rol_l0 {I : Nat} {s : List SStep} {o l : List Int} (h : Good I s o) (hO : IsO s.length l) (hn : Nd I s l) : ∀ (d j : Nat), j + d = s.length → Ev (fun k => laws_FnReorderedPlans.l0 k (I : Int) s o (I : Int) (rS I s l) (rO I l o) (l.drop j) (j : Int)) (Sum.inr ()) := by
  have h1 := h.inp
  have h2 := h.stp
  have hr := (rS_good h hO).2 hn
  have hlen : (rS I s l).length = s.length := by rw [rS_len, hO.1]
  intro d
  induction d with
  | zero =>
    intro j hj
    rw [List.drop_of_length_le (by rw [hO.1]; omega)]
    exact ret _
  | succ d ih =>
    intro j hj
    have hjl : j < l.length := by rw [hO.1]; omega
    obtain ⟨x, hx, e⟩ := hO.at (k := j) (by omega)
    have ex : l[j] = (x : Int) := by
      rw [List.getElem?_eq_getElem hjl] at e
      exact Option.some.inj e
    rw [List.drop_eq_getElem_cons hjl, ex]
    have v1 := vex_ev h (v := (I : Int) + (x : Int)) (by omega) (by omega)
    have v2 := vex_ev hr (v := (I : Int) + (j : Int)) (by omega) (by omega)
    have g1 := good_row h (v := (I : Int) + (x : Int)) (by omega) (by omega)
    have g2 := good_row hr (v := (I : Int) + (j : Int)) (by omega) (by omega)
    have he : (exps I s).getD ((I : Int) + (x : Int)).toNat [] = (exps I (rS I s l)).getD ((I : Int) + (j : Int)).toNat [] := row_ext g1.1 g2.1 fun m hm => by
      rw [g1.2 m hm, g2.2 m hm, ← og_at hO I e]
      exact (rS_vl (unitR_len I m) h.ok hO hr.ok _ (by omega) (by omega)).symm
    simp only [laws_FnReorderedPlans.l0]
    rw [zaz (x := (I : Int) + (x : Int)) (by omega), zaz (x := (I : Int) + (j : Int)) (by omega)]
    rw [← he] at v2
    refine bind v1 (bind v2 (pos rfl (pos rfl (bind0 (pSameInts_refl _) (pos rfl ?_)))))
    rw [show (j : Int) + 1 = ((j + 1 : Nat) : Int) by omega]
    exact ih (j + 1) (by omega)
theorem FnReorderedPlans : laws_FnReorderedPlans.Pure := by
  intro l0 l1 hl0 hb0 hl1 hb1
  refine some_of ?_
  unfold laws_FnReorderedPlans.f
  obtain ⟨b, e0, hb⟩ := big_eq l0 l1 hl0 hl1
  refine bind0 e0 ?_
  cases b with
  | true => exact pos rfl (ret _)
  | false =>
    refine neg (by simp) ?_
    obtain ⟨i, s, o, l, e1, ls, lo, ll⟩ := drawReorder (byte_in hb0) (hb rfl).1
    refine bind e1 ?_
    cases hg : good i s o with
    | false =>
      obtain ⟨f1, f2⟩ := reo_no hg l
      exact bind f1 (bind f2 (neg (by simp) (bind0 (pSamePlan_refl _ _ _) (pos rfl (neg (by simp) (ret _))))))
    | true =>
      obtain ⟨I, rfl, h⟩ := good_Good hg
      have h1 := h.inp
      obtain ⟨b, hbi, f1, f2⟩ := reo_any h (l := l) (by omega)
      cases b with
      | false =>
        rw [if_neg (by simp)] at f1 f2
        exact bind f1 (bind f2 (neg (by simp) (bind0 (pSamePlan_refl _ _ _) (pos rfl (neg (by simp) (ret _))))))
      | true =>
        rw [if_pos rfl] at f1 f2
        obtain ⟨hO, hn⟩ := hbi.1 rfl
        have hr := (rS_good h hO).2 hn
        have hlen : (rS I s l).length = s.length := by rw [rS_len, hO.1]
        have hsame : Ev (fun k => impl_SamePowers.f k (I : Int) s o (I : Int) (rS I s l) (rO I l o)) (true, true) := by
          refine same_yes h hr (by simp [rO]) fun m hm j hj => ?_
          have q := h.os o[m] (List.getElem_mem hm)
          have e : rg (rO I l o) (m : Int) = og I l o[m] := by
            unfold rO
            rw [rg_nat (by simpa using hm), List.getElem_map]
          rw [e, rg_nat hm]
          exact (rS_vl (unitR_len I j) h.ok hO hr.ok o[m] q.1 q.2).symm
        have c2 := counts_ev hr
        rw [rS_sqs h.ok hO, hlen] at c2
        have d2 := depth_ev hr
        rw [rS_depth h.ok hO hr.ok o h.os 0] at d2
        have hlo := rol_l0 h hO hn s.length 0 (by omega)
        rw [List.drop_zero, show ((0 : Nat) : Int) = 0 from rfl] at hlo
        refine bind f1 (bind f2 (neg (by simp) (bind0 (pSamePlan_refl _ _ _) (pos rfl (pos rfl ?_)))))
        refine bind hsame (bind (counts_ev h) (bind c2 (bind (depth_ev h) (bind d2 ?_))))
        refine pos rfl (pos rfl (pos rfl (pos rfl (pos rfl (pos rfl (neg (by simp) (neg (by simp) (neg (by simp) (bind hlo (ret _))))))))))
end Go.Proofs.Ytoegbcbdiggbjaa.Pure
