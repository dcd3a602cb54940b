/- Pure: the law of code that runs. -/
import Derived.Test.YtdicngjloiphkaaKFnCodesRunPdraw2
import Derived.Test.YtdicngjloiphkaaKFnCodesRunPsame
import Derived.Test.YtdicngjloiphkaaKFnCodesRunPcf
set_option linter.unusedVariables false
set_option linter.unusedSimpArgs false
namespace Go.Proofs.Ytdicngjloiphkaa.Pure
open Go.RowKit Go.Proofs.Ytdicngjloiphkaa.E Go.Proofs.Ytdicngjloiphkaa.L6 Go.Proofs.Ytdicngjloiphkaa.Frame Go.Proofs.YtdicngjloiphkaaW.PrintLast Go.Proofs.YtdicngjloiphkaaW.PrintMore
open Go.Proofs.YtdicngjloiphkaaW.PrintWords hiding mn mx
/-- What RegCodePlan hands back. -/
def rcp (a : Int) (l1 : List Int) (l2 : List SRegOp) (l3 : List Int) : Int × List SStep × List Int × Bool := match codeP a l1 l2 l3 with | none => nul | some (s, o) => ((l1.length : Int), s, o, true)
theorem rcp_impl (a : Int) (l1 : List Int) (l2 : List SRegOp) (l3 : List Int) : Ev (fun k => impl_RegCodePlan.f k a l1 l2 l3) (rcp a l1 l2 l3) := by
 unfold impl_RegCodePlan.f
 exact bind (plan_ev a l1 l2 l3) (ret _)
theorem rcp_spec (a : Int) (l1 : List Int) (l2 : List SRegOp) (l3 : List Int) : Ev (fun k => spec_RegCodePlan.f k a l1 l2 l3) (rcp a l1 l2 l3) := by
 obtain ⟨r, hr, hc⟩ := rePlan_ev a l1 l2 l3
 unfold spec_RegCodePlan.f rcp
 rcases hc with ⟨s, o, hc, rfl⟩ | ⟨hc, hf⟩
 ·rw [hc]
  exact bind hr (pos rfl (ret _))
 ·rw [hc]
  obtain ⟨n, s, o, b⟩ := r
  have : b = false := hf
  subst this
  exact bind hr (neg (by simp) (ret _))
theorem run_res {a : Int} {l1 : List Int} {l2 : List SRegOp} {l3 : List Int} {s : List SStep} {o : List Int} (hc : codeP a l1 l2 l3 = some (s, o)) {m : Int} {w r : List Int} {b : Bool} (h : Ev (fun k => impl_RunRegCode.f k a l1 l2 l3 m w) (r, b)) : Ev (fun k => impl_RunResidues.f k (l1.length : Int) s o m w) (r, b) := by
 have hp := plan_ev a l1 l2 l3
 rw [hc] at hp
 obtain ⟨K1, h1⟩ := hp
 obtain ⟨K2, h2⟩ := h
 refine ⟨max K1 K2, fun n hn => ?_⟩
 have e1 : impl_RegCode_plan.f n a l1 l2 l3 = some ((l1.length : Int), s, o, true) := h1 n (by omega)
 have e2 : impl_RunRegCode.f n a l1 l2 l3 m w = some (r, b) := h2 n (by omega)
 unfold impl_RunRegCode.f at e2
 rw [e1, Option.bind_some] at e2
 simp only [if_true] at e2
 show impl_RunResidues.f n (l1.length : Int) s o m w = some (r, b)
 cases c : impl_RunResidues.f n (l1.length : Int) s o m w with
 | none =>
  rw [c] at e2
  cases e2
 | some q =>
  rw [c, Option.bind_some] at e2
  exact congrArg some (Option.some.inj e2)
theorem run_none {a : Int} {l1 : List Int} {l2 : List SRegOp} {l3 : List Int} (hc : codeP a l1 l2 l3 = none) {m : Int} {w r : List Int} {b : Bool} (h : Ev (fun k => impl_RunRegCode.f k a l1 l2 l3 m w) (r, b)) : b = false := by
 have hp := plan_ev a l1 l2 l3
 rw [hc] at hp
 have : Ev (fun k => impl_RunRegCode.f k a l1 l2 l3 m w) ([], false) := by
  unfold impl_RunRegCode.f
  exact bind hp (neg (by simp [nul]) (ret _))
 have := uniq h this
 exact congrArg Prod.snd this
theorem check_both (a : Int) (l1 : List Int) (l2 : List SRegOp) (l3 : List Int) (i : Int) (s : List SStep) (o : List Int) : ∃ x b, Ev (fun k => impl_CheckRegCode.f k a l1 l2 l3 i s o) (x, b) ∧ Ev (fun k => spec_CheckRegCode.f k a l1 l2 l3 i s o) (x, b) ∧ (b = true → ∃ s' o', codeP a l1 l2 l3 = some (s', o') ∧ good (l1.length : Int) s' o' = true ∧ good i s o = true ∧ ∃ I : Nat, i = (I : Int) ∧ x = sameB l1.length s' o' I s o) := by
 obtain ⟨r, hr, hc⟩ := rePlan_ev a l1 l2 l3
 have hp := plan_ev a l1 l2 l3
 have g1 := isPlan_ev i s o
 have g2 := plGood_ev i s o
 unfold impl_CheckRegCode.f spec_CheckRegCode.f
 rcases hc with ⟨s', o', hc, rfl⟩ | ⟨hc, hf⟩
 ·rw [hc] at hp
  obtain ⟨n, rfl, hok, hform⟩ := codeP_ok hc
  have hgood : good (l1.length : Int) s' o' = true := by
   have := hc
   unfold codeP at this
   split at this
   ·split at this
    ·cases this
    ·split at this
     ·rename_i hg
      simp only [Option.some.injEq, Prod.mk.injEq] at this
      rw [← this.1, ← this.2]
      exact hg
     ·cases this
   ·cases this
  cases hg : good i s o with
  | false =>
   rw [hg] at g1 g2
   exact ⟨false, false, bind hp (pos rfl (bind g1 (neg (by simp) (ret _)))), bind hr (pos rfl (bind g2 (neg (by simp) (ret _)))), fun h => nomatch h⟩
  | true =>
   rw [hg] at g1 g2
   obtain ⟨I, rfl, hf2⟩ := good_form hg
   obtain ⟨x, b, f1, f2, f3, f4⟩ := spec_same (l1.length : Int) s' o' (I : Int) s o
   rw [hgood, hg] at f3
   subst f3
   obtain ⟨J, J', e1, e2, _, _, ex⟩ := f4 rfl
   obtain rfl : J = l1.length := by omega
   obtain rfl : J' = I := by omega
   subst ex
   exact ⟨_, true, bind hp (pos rfl (bind g1 (pos rfl (bind0 (impl_same hform hf2) (ret _))))), bind hr (pos rfl (bind g2 (pos rfl (bind f1 (ret _))))), fun _ => ⟨s', o', hc, hgood, rfl, J', rfl, rfl⟩⟩
 ·rw [hc] at hp
  obtain ⟨n, s', o', b⟩ := r
  have : b = false := hf
  subst this
  exact ⟨false, false, bind hp (neg (by simp [nul]) (ret _)), bind hr (neg (by simp) (ret _)), fun h => nomatch h⟩
theorem rSamePlan_refl (i : Int) (s : List SStep) (o : List Int) : laws_rSamePlan.f i s o i s o = some true := by
 have key : ∀ (d j : Nat), j + d = s.length → laws_rSamePlan.l0 s (s.drop j) (j : Int) = some (.inr ()) := by
  intro d
  induction d with
  | zero =>
   intro j hj
   rw [List.drop_eq_nil_of_le (by omega)]
   rfl
  | succ d ih =>
   intro j hj
   rw [List.drop_eq_getElem_cons (show j < s.length by omega)]
   simp only [laws_rSamePlan.l0]
   rw [gt_nat (show j < s.length by omega), Option.bind_some, if_pos (by simp), show (j : Int) + 1 = ((j + 1 : Nat) : Int) by omega]
   exact ih (j + 1) (by omega)
 unfold laws_rSamePlan.f
 rw [if_neg (by simp), if_neg (by simp), rSame_refl, Option.bind_some, if_pos rfl]
 have := key s.length 0 (by omega)
 rw [List.drop_zero] at this
 rw [show (0 : Int) = ((0 : Nat) : Int) from rfl, this]
 rfl
set_option maxHeartbeats 4000000 in
theorem FnCodesRun : laws_FnCodesRun.Pure := by
 intro c1 c2 h1 w1 h2 w2
 refine some_of ?_
 unfold laws_FnCodesRun.f
 obtain ⟨b, e0, hb⟩ := big_eq c1 c2 h1 h2
 refine bind0 e0 ?_
 cases b with
 | true => exact pos rfl (ret _)
 | false =>
  refine neg (by simp) ?_
  obtain ⟨k1, k2⟩ := hb rfl
  obtain ⟨i, l1, l2, l3, m, w, d1, lw⟩ := drawRun (byte_in w1) k1
  obtain ⟨r, b, f1, f2, f3⟩ := runRegCode_both i l1 l2 l3 m w (by omega)
  obtain ⟨i', q1, q2, q3, n, s, o, d2⟩ := drawCheck (byte_in w2) k2
  obtain ⟨x, b', g1, g2, g3⟩ := check_both i' q1 q2 q3 n s o
  have hbb : ∀ b : Bool, (b != b) = false := fun b => by cases b <;> rfl
  have p1 := rcp_impl i l1 l2 l3
  have p2 := rcp_spec i l1 l2 l3
  have p3 := isRegCode_ev i l1 l2 l3
  obtain ⟨⟨vi, vs, vo, vb⟩, hV⟩ : ∃ V, rcp i l1 l2 l3 = V := ⟨_, rfl⟩
  rw [hV] at p1 p2
  have hsome : (codeP i l1 l2 l3).isSome = vb := by
   have := congrArg (fun z => z.2.2.2) hV
   simp only at this
   rw [← this]
   unfold rcp
   cases codeP i l1 l2 l3 <;> rfl
  rw [hsome] at p3
  refine bind d1 (bind f2 (bind f1 (bind p1 (bind p2 ?_))))
  simp only [hbb]
  refine neg (by simp) (bind0 (rSame_refl r) (pos rfl (neg (by simp) (bind0 (rSamePlan_refl vi vs vo) (pos rfl (bind p3 ?_))))))
  simp only [hbb]
  refine neg (by simp) (bind (a := .inr ()) ?_ ?_)
  ·cases b with
   | false => exact neg (by simp) (ret _)
   | true =>
    refine pos rfl ?_
    cases hc : codeP i l1 l2 l3 with
    | none =>
     have := run_none hc f2
     cases this
    | some q =>
     obtain ⟨s', o'⟩ := q
     have hr := run_res hc f2
     have e : rcp i l1 l2 l3 = ((l1.length : Int), s', o', true) := by
      unfold rcp
      rw [hc]
     rw [hV] at e
     obtain ⟨rfl, rfl, rfl, rfl⟩ : vi = (l1.length : Int) ∧ vs = s' ∧ vo = o' ∧ vb = true := by
      simp only [Prod.mk.injEq] at e
      exact e
     exact bind hr (pos rfl (bind0 (rSame_refl r) (pos rfl (ret _))))
  ·refine bind d2 (bind g1 (bind g2 ?_))
   simp only [hbb]
   refine neg (by simp) (neg (by simp) ?_)
   cases b' with
   | false => exact neg (by simp) (ret _)
   | true =>
    obtain ⟨s', o', hc, hg1, hg2, I, rfl, rfl⟩ := g3 rfl
    have e : rcp i' q1 q2 q3 = ((q1.length : Int), s', o', true) := by
     unfold rcp
     rw [hc]
    have u1 := rcp_impl i' q1 q2 q3
    rw [e] at u1
    obtain ⟨x', b2, v1, v2, v3, v4⟩ := spec_same (q1.length : Int) s' o' (I : Int) s o
    rw [hg1, hg2] at v3
    subst v3
    obtain ⟨J, J', e1, e2, _, _, ex⟩ := v4 rfl
    obtain rfl : J = q1.length := by omega
    obtain rfl : J' = I := by omega
    subst ex
    exact pos rfl (bind u1 (bind v2 (pos rfl (pos rfl (now (by simp))))))
end Go.Proofs.Ytdicngjloiphkaa.Pure
