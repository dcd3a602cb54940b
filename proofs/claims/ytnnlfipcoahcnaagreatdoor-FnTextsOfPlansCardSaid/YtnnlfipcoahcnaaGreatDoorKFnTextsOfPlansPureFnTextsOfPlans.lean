/- Pure: the law of texts of plans. -/
import Derived.Test.YtnnlfipcoahcnaaGreatDoorKFnTextsOfPlansPtdr
import Derived.Test.YtnnlfipcoahcnaaGreatDoorKFnTextsOfPlansPtp
import Derived.Test.YtnnlfipcoahcnaaGreatDoorKFnTextsOfPlansPlaws
set_option linter.unusedVariables false
set_option linter.unusedSimpArgs false
namespace Go.Proofs.YtnnlfipcoahcnaaGreatDoor.Pure
open Go.RowKit Go.Proofs.YtnnlfipcoahcnaaGreatDoor.E Go.Proofs.YtnnlfipcoahcnaaGreatDoor.G2 Go.Proofs.YtnnlfipcoahcnaaGreatDoor.Hand Go.Proofs.YtnnlfipcoahcnaaGreatDoor.Frame Go.Proofs.YtnnlfipcoahcnaaGreatDoorW.PrintLast Go.Proofs.YtnnlfipcoahcnaaGreatDoorW.PrintMore Go.Lib Go.Proofs.YtnnlfipcoahcnaaGreatDoor.Txl
open Go.Proofs.YtnnlfipcoahcnaaGreatDoorW.PrintWords hiding mn mx
theorem ipR_cases (s : List UInt8) : (∃ i t o, good i t o = true ∧ ptx i t o = s ∧ ipR s = (i, t, o, true)) ∨ ipR s = (0, [], [], false) := by
  unfold ipR
  cases hi : ips s with
  | none => exact .inr rfl
  | some p =>
    obtain ⟨i, t, o⟩ := p
    show _ ∨ (if _ then _ else _) = _
    by_cases c : good i t o = true ∧ ptx i t o = s
    · exact .inl ⟨i, t, o, c.1, c.2, by show (if _ then _ else _) = _; rw [if_pos c]⟩
    · exact .inr (by rw [if_neg c])
theorem ipR_ptx {i : Int} {t : List SStep} {o : List Int} (h : good i t o = true) : ipR (ptx i t o) = (i, t, o, true) := by
  obtain ⟨a1, a2, a3, a4, a5⟩ := good_ge h
  unfold ipR
  rw [ips_ptx a1 a2 a3 a4 a5]
  show (if _ then _ else _) = _
  rw [if_pos ⟨h, rfl⟩]
theorem FnTextsOfPlans : laws_FnTextsOfPlans.Pure := by
  intro c1 c2 h1 w1 h2 w2
  obtain ⟨b, hb, hbig⟩ := big_eq c1 c2 h1 h2
  refine some_of ?_
  unfold laws_FnTextsOfPlans.f
  refine bind0 hb ?_
  cases b with
  | true => exact pos rfl (ret _)
  | false =>
    obtain ⟨l1, l2⟩ := hbig rfl
    obtain ⟨i, s, o, a', sd', e1, q1, q2, _⟩ := drawAny (byte_in w1) l1 0 0 3 8 (by omega) 100 (⟨by omega, by omega⟩)
    have e2 : Ev (fun k => spec_DrawPlanText.f k c1) (i, s, o) := by
      unfold spec_DrawPlanText.f
      exact bind e1 (ret _)
    obtain ⟨t, e3, ht⟩ := drawText (byte_in w2) l2
    have p1 := iparse_ev (s := t) (by omega)
    have p2 := sparse_ev (s := t) (by omega)
    have hsame := ip_sp t
    -- the second half
    have tail : Ev (fun k => (spec_DrawParsePlan.f k c2).bind fun s63 => (impl_ParsePlan.f k s63).bind fun (i65, l66, l67, b68) => (spec_ParsePlan.f k s63).bind fun (i76, l77, l78, b79) => if (b68 != b79) = true then (some false) else ((laws_pSamePlan.f i65 l66 l67 i76 l77 l78).bind fun b88 => if b88 = true then (if b68 = true then ((impl_PlanText.f k i65 l66 l67).bind fun (s92, b93) => if b93 = true then (some (decide (s92 = s63))) else (some false)) else (some true)) else (some false))) true := by
      refine bind e3 ?_
      rw [← hsame] at p2
      rcases ipR_cases t with ⟨i', t', o', g, x, r⟩ | r
      · rw [r] at p1 p2
        have e4 := iPlanText_ev i' t' o'
        unfold ptP at e4
        rw [if_pos g, x] at e4
        refine bind p1 (bind p2 (neg (by simp) (bind0 (pSamePlan_refl i' t' o') (pos rfl (pos rfl (bind e4 (pos rfl ?_)))))))
        rw [decide_eq_true rfl]
        exact ret _
      · rw [r] at p1 p2
        exact bind p1 (bind p2 (neg (by simp) (bind0 (pSamePlan_refl 0 [] []) (pos rfl (neg (by simp) (ret _))))))
    have a1 := iPlanText_ev i s o
    have a2 := sPlanText_ev i s o
    have a3 := isPlan_ev i s o
    unfold ptP at a1 a2
    refine neg (by simp) (bind e2 ?_)
    cases g : good i s o with
    | false =>
      rw [g] at a1 a2 a3
      rw [if_neg (by simp)] at a1 a2
      exact bind a1 (bind a2 (neg (by simp) (neg (by simp) (bind a3 (neg (by simp) (bind0 (a := Sum.inr ()) rfl tail))))))
    | true =>
      rw [g] at a1 a2 a3
      rw [if_pos rfl] at a1 a2
      obtain ⟨r1, r2, r3, r4, r5⟩ := good_ge g
      have hx := ptx_len r1 r2 (by omega) r4 (by omega)
      have a4 := iparse_ev (s := ptx i s o) (by omega)
      rw [ipR_ptx g] at a4
      refine bind a1 (bind a2 (neg (by simp) (neg (by simp) (bind a3 (neg (by simp) (bind (a := Sum.inr ()) (pos rfl (bind a4 (pos rfl (bind0 (pSamePlan_refl i s o) (pos rfl (ret _)))))) tail))))))
end Go.Proofs.YtnnlfipcoahcnaaGreatDoor.Pure
