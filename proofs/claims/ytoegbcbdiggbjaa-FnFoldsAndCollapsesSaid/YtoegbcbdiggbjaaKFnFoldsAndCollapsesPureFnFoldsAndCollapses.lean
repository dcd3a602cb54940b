/- Pure: folding, collapsing and turning; the law. -/
import Derived.Test.YtoegbcbdiggbjaaKFnFoldsAndCollapsesPfold
import Derived.Test.YtoegbcbdiggbjaaKFnFoldsAndCollapsesPturnI
set_option linter.unusedVariables false
set_option linter.unusedSimpArgs false
namespace Go.Proofs.Ytoegbcbdiggbjaa.Pure
open Go.RowKit Go.Proofs.Ytoegbcbdiggbjaa.E Go.Proofs.Ytoegbcbdiggbjaa.FC Go.Proofs.Ytoegbcbdiggbjaa.Frame Go.Proofs.YtoegbcbdiggbjaaW.PrintLast Go.Proofs.YtoegbcbdiggbjaaW.PrintMore
open Go.Proofs.YtoegbcbdiggbjaaW.PrintWords hiding mn mx
/-! the draw -/
theorem duUses_ok {I : Nat} {s : List SStep} {o : List Int} (h : Good I s o) : ∃ l, spec_duUses.f (I : Int) s o = some l ∧ l.length = I + s.length := by
  have hf := h.form
  have h1 := h.inp
  have h2 := h.stp
  have hm : mk0 (w64 ((I : Int) + (s.length : Int))) (0 : Int) = some (List.replicate (I + s.length) 0) := by
    rw [zb1 (by omega)]
    unfold mk0
    rw [if_pos (by omega), show ((I : Int) + (s.length : Int)).toNat = I + s.length by omega]
  obtain ⟨l1, a1, a2, a3, a4⟩ := uses_l0 (I + s.length) s (List.replicate (I + s.length) 0) 0 (by simp) hf.mem
  obtain ⟨l2, b1, b2, b3, b4⟩ := uses_l1 (I + s.length) o l1 0 a3 (fun y hy => by have := h.os y hy; omega)
  refine ⟨l2, ?_, b3⟩
  unfold spec_duUses.f
  rw [hm, Option.bind_some, a2, Option.bind_some, b2]
  rfl
theorem turnable_l0 (ys acc : List Int) (j : Int) (hb : acc.length + ys.length ≤ 1000) : ∃ r, spec_l1Cur_turnable.l0 ys acc j = some r := by
  induction ys generalizing acc j with
  | nil => exact ⟨acc, rfl⟩
  | cons y ys ih =>
    simp only [List.length_cons] at hb
    simp only [spec_l1Cur_turnable.l0]
    by_cases c : y = 0
    · rw [if_pos c, Option.bind_some]
      by_cases d : (acc.length : Int) < 6
      · rw [if_pos (decide_eq_true d), ap_ok (by simp; omega), Option.bind_some]
        exact ih _ _ (by rw [List.length_append, List.length_singleton]; omega)
      · rw [if_neg (by simpa using d)]
        exact ih _ _ (by omega)
    · rw [if_neg c, Option.bind_some, if_neg (by simp)]
      exact ih _ _ (by omega)
theorem drawTurned {c : List Int} (hc : Bytes c) (hl : c.length ≤ 1048576) : ∃ i s o, Ev (fun k => spec_DrawTurnedCost.f k c) (i, s, o) := by
  obtain ⟨i, s, o, a, sd, e1, ls, lo, b1⟩ := drawAny hc hl 0 0 3 7 (by omega) 1000 ⟨by omega, by omega⟩
  obtain ⟨b, a2, sd2, e2, b2⟩ := one_ev hc hl (m := 999) b1 sd 4
  have p1 := plGood_ev i s o
  have key : ∃ i' s' o' a' sd', Ev (fun k => spec_l1Cur_turnable.f k c 0 0) (i', s', o', a', sd') := by
    unfold spec_l1Cur_turnable.f
    cases hg : good i s o with
    | false =>
      rw [hg] at p1
      exact ⟨_, _, _, _, _, bind e1 (bind (a := (true, a, sd)) (bind p1 (neg (by simp) (ret _))) (pos rfl (ret _)))⟩
    | true =>
      rw [hg] at p1
      cases b with
      | true => exact ⟨_, _, _, _, _, bind e1 (bind (a := (true, a2, sd2)) (bind p1 (pos rfl (bind0 e2 (ret _)))) (pos rfl (ret _)))⟩
      | false =>
        obtain ⟨I, rfl, h⟩ := good_Good hg
        have hk := kept_good h
        obtain ⟨l, u1, u2⟩ := duUses_ok hk
        have h3 := hk.out
        have h4 := hk.stp
        have h5 := hk.inp
        obtain ⟨r, u3⟩ := turnable_l0 l (kO I s o) 0 (by omega)
        exact ⟨_, _, _, _, _, bind e1 (bind (a := (false, a2, sd2)) (bind p1 (pos rfl (bind0 e2 (ret _)))) (neg (by simp) (bind (a := (kS I s o, kO I s o)) (bind (plUsed_ev h) (bind0 (plKeep_eq h) (ret _))) (bind0 u1 (bind0 u3 (ret _))))))⟩
  obtain ⟨i', s', o', a', sd', e⟩ := key
  unfold spec_DrawTurnedCost.f
  exact ⟨_, _, _, bind e (ret _)⟩
/-! sums -/
theorem fold_vl {I : Nat} {s : List SStep} {o : List Int} (h : Good I s o) (hne : o ≠ []) (x : List Int) (hx : x.length = I) : Ok I (fS I s o) ∧ (0 ≤ fA I s o ∧ fA I s o < ((I + (fS I s o).length : Nat) : Int)) ∧ rg (vl (fS I s o) x) (fA I s o) = sm (rg (vl s x)) o := by
  obtain ⟨t, t1, t2, t3, t4, t5⟩ := foldI_val x hx o hne s h.ok h.os
  unfold fS fA
  rw [t1]
  exact ⟨t2, t3, t5⟩
theorem fc_l1 {I : Nat} {s : List SStep} {o : List Int} (h : Good I s o) {i : Nat} (hi : i < I) (ys : List Int) (hy : ∀ y ∈ ys, 0 ≤ y ∧ y < ((I + s.length : Nat) : Int)) (j a : Int) (ha : 0 ≤ a) (hb : a + 1000000 * (ys.length : Int) ≤ 4000000000) : laws_FnFoldsAndCollapses.l1 (i : Int) (ys.map fun v => (exps I s).getD v.toNat []) j a = some (a + sm (rg (vl s (unitR I i))) ys) := by
  induction ys generalizing j a with
  | nil => simp [laws_FnFoldsAndCollapses.l1, sm]
  | cons y ys ih =>
    have q := hy y List.mem_cons_self
    obtain ⟨r1, r2⟩ := good_row h q.1 q.2
    have hle := h.le i hi y q.1 q.2
    have hge := rg_le0 (vl_ge (s := s) (unitR_ge I i)) y
    simp only [List.length_cons] at hb
    simp only [List.map_cons, laws_FnFoldsAndCollapses.l1, sm]
    rw [rg_gt (by omega) (by omega), Option.bind_some, r2 i hi, zb1 (by omega), ih (fun z hz => hy z (List.mem_cons_of_mem _ hz)) _ _ (by omega) (by omega)]
    congr 1
    omega
theorem fc_l0 {I : Nat} {s : List SStep} {o : List Int} (h : Good I s o) (hne : o ≠ []) (hf : Good I (fS I s o) [fA I s o]) : ∀ (d i : Nat), i + d = I → Ev (fun k => laws_FnFoldsAndCollapses.l0 (I : Int) (pw I s o) (pw I (fS I s o) [fA I s o]) k (i : Int)) (Sum.inr ()) := by
  have h1 := h.inp
  have h3 := h.out
  intro d
  induction d with
  | zero =>
    intro i hi
    refine shift ?_
    simp only [laws_FnFoldsAndCollapses.l0]
    exact neg (by omega) (ret _)
  | succ d ih =>
    intro i hi
    refine shift ?_
    simp only [laws_FnFoldsAndCollapses.l0]
    have hv := fold_vl h hne (unitR I i) (unitR_len I i)
    obtain ⟨r1, r2⟩ := good_row hf hv.2.1.1 hv.2.1.2
    have e1 := fc_l1 h (i := i) (by omega) o h.os 0 0 (by omega) (by omega)
    have e2 : gt (pw I (fS I s o) [fA I s o]) 0 = some ((exps I (fS I s o)).getD (fA I s o).toNat []) := rfl
    have e3 : gt ((exps I (fS I s o)).getD (fA I s o).toNat []) (i : Int) = some (rg (vl (fS I s o) (unitR I i)) (fA I s o)) := by
      rw [rg_gt (by omega) (by omega), r2 i (by omega)]
    refine pos (by omega) (bind0 e1 (bind0 e2 (bind0 e3 (neg ?_ ?_))))
    · rw [hv.2.2]
      omega
    · rw [zb1 (by omega)]
      exact ih (i + 1) (by omega)
theorem unit_one : unitR 1 0 = [1] := rfl
theorem row_sum {I : Nat} {s : List SStep} {o : List Int} (h : Good I s o) {v : Int} (h0 : 0 ≤ v) (h1 : v < ((I + s.length : Nat) : Int)) : laws_pSum.f ((exps I s).getD v.toNat []) = some (rg (vl s (List.replicate I 1)) v) := by
  have hI := h.inp
  obtain ⟨r1, r2⟩ := good_row h h0 h1
  have hb : ∀ x ∈ (exps I s).getD v.toNat [], 0 ≤ x ∧ x ≤ 1000000 := fun x hx => by
    obtain ⟨j, hj, rfl⟩ := List.getElem_of_mem hx
    have := r2 j (by omega)
    rw [rg_nat hj] at this
    rw [this]
    exact ⟨rg_le0 (vl_ge (s := s) (unitR_ge I j)) v, h.le j (by omega) v h0 h1⟩
  rw [pSum_eq _ hb (by omega), sm_sN, r1, vl_sum h.ok (List.replicate I 1) (by simp) (fun v v0 v1 => rg_rep v0 v1) (unitR I) (unitR_len I) (fun j hj v v0 v1 => unitR_rg hj v0 v1) v h0 h1]
  congr 1
  exact sN_congr fun j hj => r2 j hj
theorem fc_l2 {I : Nat} {s : List SStep} {o : List Int} (h : Good I s o) (hc : Good 1 (cS I s) (o.map (rg (cP I s)))) : ∀ (d j : Nat), j + d = o.length → laws_FnFoldsAndCollapses.l2 (pw 1 (cS I s) (o.map (rg (cP I s)))) ((pw I s o).drop j) (j : Int) = some (Sum.inr ()) := by
  obtain ⟨c1, c2⟩ := coll_vl h.ok 1
  intro d
  induction d with
  | zero =>
    intro j hj
    rw [List.drop_eq_nil_of_le (by rw [pw_len]; omega)]
    rfl
  | succ d ih =>
    intro j hj
    have hjl : j < o.length := by omega
    have hjp : j < (pw I s o).length := by rw [pw_len]; exact hjl
    have q := h.os o[j] (List.getElem_mem hjl)
    have cq := c2 o[j] q.1 q.2
    obtain ⟨r1, r2⟩ := good_row hc cq.1.1 cq.1.2
    have hjq : j < (pw 1 (cS I s) (o.map (rg (cP I s)))).length := by rw [pw_len, List.length_map]; exact hjl
    have e1 : gt (pw 1 (cS I s) (o.map (rg (cP I s)))) (j : Int) = some ((exps 1 (cS I s)).getD (rg (cP I s) o[j]).toNat []) := by
      rw [gt_nat hjq]
      simp [pw]
    have e2 : (pw I s o)[j] = (exps I s).getD o[j].toNat [] := by simp [pw]
    have e3 := r2 0 (by omega)
    rw [unit_one, cq.2] at e3
    rw [List.drop_eq_getElem_cons hjp]
    simp only [laws_FnFoldsAndCollapses.l2]
    rw [e1, Option.bind_some, if_neg (by omega), Option.bind_some, rg_gt (by omega) (by omega), Option.bind_some, e2, row_sum h q.1 q.2, Option.bind_some, show (0 : Int) = ((0 : Nat) : Int) from rfl, e3, if_neg (by simp), show (j : Int) + 1 = ((j + 1 : Nat) : Int) by omega]
    exact ih (j + 1) (by omega)
/-! turned -/
theorem hasF {I : Nat} {s : List SStep} {o : List Int} (hu : ∀ v : Int, 0 ≤ v → v < (I : Int) + (s.length : Int) → v ∈ o ∨ ∃ y ∈ s, y.f0 = v ∨ y.f1 = v) : ∀ v : Int, 0 ≤ v → v < ((I + s.length : Nat) : Int) → ∀ bl, fo v o 0 ++ fst_ (I : Int) v bl s 0 ≠ [] := fun v h0 h1 bl e => by
  rw [List.append_eq_nil_iff] at e
  rcases hu v h0 (by omega) with hv | hv
  · exact fo_ne hv 0 e.1
  · exact fs_ne hv 0 e.2
/-- What a turned plan's outputs are, at any inputs. -/
theorem turn_vl {I : Nat} {s : List SStep} {o : List Int} (h : Good I s o) (hu : ∀ v : Int, 0 ≤ v → v < (I : Int) + (s.length : Int) → v ∈ o ∨ ∃ y ∈ s, y.f0 = v ∨ y.f1 = v) (x : List Int) (hx : x.length = o.length) :
    Ok o.length (tn (o.length : Int) (I : Int) s o (I + s.length) (List.replicate (I + s.length) 0) []).1 ∧ (tn (o.length : Int) (I : Int) s o (I + s.length) (List.replicate (I + s.length) 0) []).2.length = I + s.length ∧
    ((tn (o.length : Int) (I : Int) s o (I + s.length) (List.replicate (I + s.length) 0) []).1.length : Int) = (o.length : Int) + (s.length : Int) - (I : Int) ∧
    ∀ u : Nat, u < I → rg (vl (tn (o.length : Int) (I : Int) s o (I + s.length) (List.replicate (I + s.length) 0) []).1 x) (rg (tn (o.length : Int) (I : Int) s o (I + s.length) (List.replicate (I + s.length) 0) []).2 (u : Int)) = sN (fun i => rg x (i : Int) * rg (vl s (unitR I u)) (rg o (i : Int))) o.length := by
  obtain ⟨t1, t2, t3, t4, t5⟩ := tn_val x hx h.ok rfl (hasF hu) (I + s.length) (Nat.le_refl _) (List.replicate (I + s.length) 0) [] (by simp) trivial (fun v h0 h1 => by omega) (fun v h0 h1 => by omega)
  refine ⟨t1, t2, ?_, fun u hu' => ?_⟩
  · have e1 := so_len o (I + s.length) h.os
    have e2 := sq_len s (I + s.length) (I : Int) h.form.mem
    rw [sN_add, e1, e2] at t5
    simp only [List.length_nil] at t5
    omega
  · have ha := adjoint h.ok h.os (unitR I u) (unitR_len I u) (rg x) _ t4
    have e : sN (fun w => rg (unitR I u) (w : Int) * rg (vl (tn (o.length : Int) (I : Int) s o (I + s.length) (List.replicate (I + s.length) 0) []).1 x) (rg (tn (o.length : Int) (I : Int) s o (I + s.length) (List.replicate (I + s.length) 0) []).2 (w : Int))) I = rg (vl (tn (o.length : Int) (I : Int) s o (I + s.length) (List.replicate (I + s.length) 0) []).1 x) (rg (tn (o.length : Int) (I : Int) s o (I + s.length) (List.replicate (I + s.length) 0) []).2 (u : Int)) := by
      have := sN_one (fun w => rg (vl (tn (o.length : Int) (I : Int) s o (I + s.length) (List.replicate (I + s.length) 0) []).1 x) (rg (tn (o.length : Int) (I : Int) s o (I + s.length) (List.replicate (I + s.length) 0) []).2 (w : Int))) I (u : Int) (by omega) (by omega)
      rw [Int.toNat_natCast] at this
      rw [← this]
      refine sN_congr fun w hw => ?_
      rw [unitR_rg hu' (by omega) (by omega)]
      by_cases c : (w : Int) = (u : Int)
      · rw [if_pos c, if_pos c.symm, Int.one_mul]
      · rw [if_neg c, if_neg (fun q => c q.symm), Int.zero_mul]
    rw [e] at ha
    rw [ha]
    refine sN_congr fun i hi => ?_
    rw [rg_nat hi, List.getD_eq_getElem?_getD, List.getElem?_eq_getElem hi, Option.getD_some]
theorem turn_no {s : List SStep} {o : List Int} : good 0 s o = false := by
  unfold good
  simp
theorem FnFoldsAndCollapses : laws_FnFoldsAndCollapses.Pure := by
  intro l0 l1 hl0 hb0 hl1 hb1
  refine some_of ?_
  unfold laws_FnFoldsAndCollapses.f
  obtain ⟨b, e0, hb⟩ := big_eq l0 l1 hl0 hl1
  refine bind0 e0 ?_
  cases b with
  | true => exact pos rfl (ret _)
  | false =>
    refine neg (by simp) ?_
    obtain ⟨i, s, o, e1⟩ := drawTurned (byte_in hb0) (hb rfl).1
    refine bind e1 ?_
    cases hg : good i s o with
    | false =>
      obtain ⟨f1, f2⟩ := fold_no (.inl hg)
      obtain ⟨c1, c2⟩ := coll_no hg
      exact bind f1 (bind f2 (bind c1 (bind c2 (neg (by simp) (bind0 (pSamePlan_refl _ _ _) (pos rfl (neg (by simp) (bind0 (pSamePlan_refl _ _ _) (pos rfl (bind (outEx_no hg) (neg (by simp) (neg (by simp) (ret _)))))))))))))
    | true =>
      obtain ⟨I, rfl, h⟩ := good_Good hg
      have hin := h.inp
      -- the folded plan
      obtain ⟨fi, fs, fo', fb, f1, f2, f3⟩ : ∃ fi fs fo' fb, Ev (fun k => impl_FoldOutputs.f k (I : Int) s o) (fi, fs, fo', fb) ∧ Ev (fun k => spec_FoldOutputs.f k (I : Int) s o) (fi, fs, fo', fb) ∧ ((fb = false ∧ fi = 0 ∧ fs = [] ∧ fo' = []) ∨ (fb = true ∧ fi = (I : Int) ∧ fs = fS I s o ∧ fo' = [fA I s o] ∧ o ≠ [] ∧ Good I (fS I s o) [fA I s o])) := by
        by_cases hne : o = []
        · obtain ⟨f1, f2⟩ := fold_no (i := (I : Int)) (s := s) (.inr hne)
          exact ⟨_, _, _, _, f1, f2, .inl ⟨rfl, rfl, rfl, rfl⟩⟩
        · obtain ⟨f1, f2⟩ := fold_ev h hne
          unfold toldP at f1 f2
          cases hq : good (I : Int) (fS I s o) [fA I s o] with
          | true =>
            rw [hq, if_pos rfl] at f1 f2
            exact ⟨_, _, _, _, f1, f2, .inr ⟨rfl, rfl, rfl, rfl, hne, good_iff.1 hq⟩⟩
          | false =>
            rw [hq, if_neg (by simp)] at f1 f2
            exact ⟨_, _, _, _, f1, f2, .inl ⟨rfl, rfl, rfl, rfl⟩⟩
      obtain ⟨ci, cs, co, cb, c1, c2, c3⟩ : ∃ ci cs co cb, Ev (fun k => impl_CollapseInputs.f k (I : Int) s o) (ci, cs, co, cb) ∧ Ev (fun k => spec_CollapseInputs.f k (I : Int) s o) (ci, cs, co, cb) ∧ ((cb = false) ∨ (cb = true ∧ ci = 1 ∧ cs = cS I s ∧ co = o.map (rg (cP I s)) ∧ Good 1 (cS I s) (o.map (rg (cP I s))))) := by
        obtain ⟨f1, f2⟩ := coll_ev h
        unfold toldP at f1 f2
        cases hq : good 1 (cS I s) (o.map (rg (cP I s))) with
        | true =>
          rw [hq, if_pos rfl] at f1 f2
          exact ⟨_, _, _, _, f1, f2, .inr ⟨rfl, rfl, rfl, rfl, good_iff.1 hq⟩⟩
        | false =>
          rw [hq, if_neg (by simp)] at f1 f2
          exact ⟨_, _, _, _, f1, f2, .inl rfl⟩
      have hbb : ∀ b : Bool, ¬ (b != b) = true := fun b => by cases b <;> simp
      refine bind f1 (bind f2 (bind c1 (bind c2 (neg (hbb _) (bind0 (pSamePlan_refl _ _ _) (pos rfl (neg (hbb _) (bind0 (pSamePlan_refl _ _ _) (pos rfl (bind (outEx_ev h) (pos rfl ?_)))))))))))
      refine bind (a := Sum.inr ()) ?_ (bind (a := Sum.inr ()) ?_ ?_)
      · rcases f3 with ⟨rfl, _⟩ | ⟨rfl, rfl, rfl, rfl, hne, hf⟩
        · exact neg (by simp) (ret _)
        · refine pos rfl (bind (outEx_ev hf) (pos rfl (neg (by rw [pw_len]; simp) ?_)))
          have := fc_l0 h hne hf I 0 (by omega)
          exact bind this (ret _)
      · rcases c3 with rfl | ⟨rfl, rfl, rfl, rfl, hc⟩
        · exact neg (by simp) (ret _)
        · refine pos rfl (bind (outEx_ev hc) (pos rfl (neg (by rw [pw_len, pw_len]; simp) ?_)))
          have := fc_l2 h hc o.length 0 (by omega)
          rw [List.drop_zero] at this
          exact bind0 this (ret _)
      -- turned
      obtain ⟨n, s', o', z, b, t1, t3⟩ := iturn (I : Int) s o
      refine bind t1 ?_
      cases b with
      | false =>
        obtain ⟨n2, s2, o2, z2, b2, u1, u3⟩ := iturn fi fs fo'
        obtain ⟨ci', cs', co', cb', d1⟩ : ∃ ci' cs' co' cb', Ev (fun k => impl_CollapseInputs.f k n s' (o'.take z)) (ci', cs', co', cb') := by
          cases hq : good n s' (o'.take z) with
          | false => exact ⟨_, _, _, _, (coll_no hq).1⟩
          | true =>
            obtain ⟨J, rfl, hJ⟩ := good_Good hq
            exact ⟨_, _, _, _, (coll_ev hJ).1⟩
        exact bind d1 (bind u1 (neg (by simp) (ret _)))
      | true =>
        obtain ⟨I', hI', hz, hn, ht, _, hgt, hu⟩ := t3 rfl
        have hI3 : I' = I := by omega
        subst I'
        subst z
        subst n
        have hT : Good o.length s' (o'.take I) := good_iff.1 hgt
        obtain ⟨d1, _⟩ := coll_ev hT
        unfold toldP at d1
        obtain ⟨n2, s2, o2, z2, b2, u1, u3⟩ := iturn fi fs fo'
        cases hq : good 1 (cS o.length s') ((o'.take I).map (rg (cP o.length s'))) with
        | false =>
          rw [hq, if_neg (by simp)] at d1
          exact bind d1 (bind u1 (pos rfl (neg (by simp) (ret _))))
        | true =>
          rw [hq, if_pos rfl] at d1
          refine bind d1 (bind u1 (pos rfl (pos rfl ?_)))
          cases b2 with
          | false => exact neg (by simp) (ret _)
          | true =>
            refine pos rfl ?_
            obtain ⟨I2, hI2, hz2, hn2, ht2, hg2, hgt2, hu2⟩ := u3 rfl
            rcases f3 with ⟨_, e1, _, _⟩ | ⟨_, e1, e2, e3, hne, hf⟩
            · rw [e1, turn_no] at hg2
              cases hg2
            have hI4 : I2 = I := by omega
            subst I2
            subst z2
            subst fs
            subst fo'
            subst n2
            have hT2 : Good 1 s2 (o2.take I) := good_iff.1 hgt2
            have q1 := turn_vl h hu (List.replicate o.length 1) (by simp)
            have q2 := turn_vl hf hu2 [1] rfl
            rw [← ht] at q1
            rw [← ht2] at q2
            have hl1 : (o'.take I).length = I := by rw [List.length_take, q1.2.1]; omega
            have hl2 : (o2.take I).length = I := by rw [List.length_take, q2.2.1]; omega
            have e := same_yes (good_iff.1 hq) hT2 (by rw [List.length_map, hl1, hl2]) (fun u hu' j hj => by
              rw [List.length_map, hl1] at hu'
              obtain rfl : j = 0 := Nat.lt_one_iff.1 hj
              have hlt : u < (o'.take I).length := by omega
              have hlt2 : u < (o2.take I).length := by omega
              have k1 : rg ((o'.take I).map (rg (cP o.length s'))) (u : Int) = rg (cP o.length s') (rg o' (u : Int)) := by
                rw [rg_nat (by rw [List.length_map]; exact hlt), List.getElem_map, List.getElem_take, rg_nat (l := o') (by rw [List.length_take] at hlt; omega)]
              have k2 : rg (o2.take I) (u : Int) = rg o2 (u : Int) := by
                rw [rg_nat hlt2, List.getElem_take, rg_nat (l := o2) (by rw [List.length_take] at hlt2; omega)]
              have k3 : rg o' (u : Int) ∈ o'.take I := by
                have := List.getElem_mem hlt
                rw [List.getElem_take] at this
                rw [rg_nat (l := o') (by rw [List.length_take] at hlt; omega)]
                exact this
              have k4 := hT.os _ k3
              rw [k1, k2, unit_one, ((coll_vl hT.ok 1).2 _ k4.1 k4.2).2, q1.2.2.2 u hu', q2.2.2.2 u hu']
              show _ = sN _ 1
              simp only [sN]
              have m1 : rg [(1 : Int)] ((0 : Nat) : Int) = 1 := rfl
              have m2 : rg [fA I s o] ((0 : Nat) : Int) = fA I s o := rfl
              rw [m1, m2, (fold_vl h hne (unitR I u) (unitR_len I u)).2.2, sm_sN, Int.one_mul, Int.zero_add]
              refine sN_congr fun w hw => ?_
              rw [rg_rep (n := o.length) (x := 1) (v := (w : Int)) (by omega) (by omega), Int.one_mul])
            exact bind e (pos rfl (ret _))
end Go.Proofs.Ytoegbcbdiggbjaa.Pure
