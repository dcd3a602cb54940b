/- The row of a law. -/
import Derived.Test.YtpdpomjgfmdjfaaRows
import Derived.Test.YtpdpomjgfmdjfaaKFnExactTurnPlanPureFnExactTurnPlan
import Derived.Test.YtpdpomjgfmdjfaaKFnExactTurnPlanOpen
import Derived.Test.YtpdpomjgfmdjfaaKFnExactTurnPlanFacts1
import Derived.Test.YtpdpomjgfmdjfaaKFnExactTurnPlanFacts2
import Derived.Test.YtpdpomjgfmdjfaaKFnExactTurnPlanFacts3
import Derived.WalkKit
import Derived.ProofKit
import Derived.OpenShut
import Derived.ShutString
import Derived.ChangeOld
import Derived.Below
import Derived.SizedLaws
import Derived.JoinedOf
import Derived.KernelRfl
import Derived.Test.YtpdpomjgfmdjfaaKFnExactTurnPlanWSized
namespace Go.Proofs.Ytpdpomjgfmdjfaa.fnExactTurnPlan
open Go.ChangeShapes Go.WideShapes Go.ChangeAt Go.RowKit Go.Joins Go.Proofs.Ytpdpomjgfmdjfaa.V1 Go.Proofs.Ytpdpomjgfmdjfaa.Open Go.Proofs.YtpdpomjgfmdjfaaW.PrintWords
set_option linter.unusedVariables false
theorem own : ownKnob Try.prog.godebug = none := by kernel_rfl
theorem laidOut : laidOutB Try.prog = true := by kernel_rfl
set_option maxRecDepth 100000 in
theorem lifted (os : Os) (started : os.Started) (H : Type) (enc : TypeId × Value → H) :
    ReturnsInHanded {} Try.checked os 8 .any (Rows.fnExactTurnPlanSpec.pre6 enc Try.prog Try.f8 Rows.fnExactTurnPlanRow.domain false) (Rows.fnExactTurnPlanSpec.post enc Try.prog Try.f8 false true false false) := by
  refine returnsInHanded_of_change_sized (C := Try.checked) own started (by kernel_rfl) Try.func8
    (ChangeSpec.witness6 (enc := enc) (C := Try.checked) false ⟨#[], #[.agg #[.int .i64 0, .slice none 0 0, .slice none 0 0]], []⟩ 8 (by kernel_rfl) (by kernel_rfl) (by kernel_rfl) (by kernel_rfl)) ?_
  intro W base args ds gs before hval0 hW hcnd hsz0 _
  have hval : ∀ (j : Nat) t v, Try.f8.params[j]? = some t → args[j]? = some v → Value.okWide Try.prog W .any base t v := hval0
  have hW' := hW
  obtain ⟨p, q, hA0, hV, rfl, hfz, hnd⟩ := hW
  have hA : DataW.TrodAll enc Try.prog W 0 (fun _ => true) true Try.f8.params.toList args.toList ds p := hA0
  rw [Try.params8] at hA hval
  obtain ⟨v0, vs0, d0, ds0, p0, q0, hargs, rfl, rfl, h0, r0⟩ := trodAll_cons hA
  obtain ⟨rfl, rfl, rfl⟩ := trodAll_nil r0
  obtain rfl : args = #[v0] := by cases args; simp_all
  obtain ⟨rfl, rfl⟩ := trodVars_none hV
  have k0 := h0
  have lt0 : ∀ x ∈ p0, x.block < W.heap.size := by obtain ⟨m, hm⟩ := k0; exact DataW.trod_lt m _ _ _ hm
  obtain ⟨v0_0, v0_1, v0_2, y0_0, y0_1, y0_2, n0, rfl, _, _, t0_0, t0_1, t0_2⟩ := open_agg3 Try.underlying50 (by kernel_rfl) (by kernel_rfl) (hval 0 50 v0 rfl rfl) h0
  obtain ⟨a0_0, e0_0, _, w0_0⟩ := DataW.trod_int Try.underlying3 t0_0
  obtain rfl : v0_0 = .int .i64 a0_0 := by injection e0_0
  obtain ⟨A0_1, c0_1, l0_1, rfl, hc0_1, m0_1, hr0_1, w0_1⟩ := open_flat kStep (fun r => (⟨r.getD 0 0, r.getD 1 0⟩ : SStep)) (fun y => (Lit.int .i64 y.f0).wf = true ∧ (Lit.int .i64 y.f1).wf = true) Try.underlying48 Try.underlying137 (by kernel_rfl) (by kernel_rfl) (fun j f hf => by
    match j, hf with
    | 0, hf => injection hf with hf; subst hf; exact Try.underlying3
    | 1, hf => injection hf with hf; subst hf; exact Try.underlying3
    | j + 2, hf => simp at hf) rfl (fun W r hr => by
    match r, hr with
    | [r0, r1], _ => rfl) (fun r hr hw => by
    match r, hr with
    | [r0, r1], _ => exact ⟨hw _ (by simp), hw _ (by simp)⟩) t0_1
  obtain ⟨A0_2, c0_2, l0_2, rfl, hc0_2, m0_2, hr0_2, w0_2⟩ := open_intsC Try.underlying22 Try.underlying3 (by kernel_rfl) t0_2
  clear hA0 hval0 hsz0
  refine (laws_FnExactTurnPlan.walk Pure.FnExactTurnPlan a0_0 A0_1 c0_1 l0_1 A0_2 c0_2 l0_2 W hr0_1 hc0_1 hr0_2 hc0_2 w0_0 m0_1 w0_1 m0_2 w0_2).mono fun e W' ⟨he, bel⟩ => ?_
  subst he
  exact ⟨_, rfl, _, _, _, [], _, [], hW', trodAll_mk1 (shut_bool Try.underlying4 _), (trodAll_cons_mk (Below.trod laidOut (by kernel_rfl) (of_decide_eq_true (by kernel_rfl)) k0 bel lt0) trodAll_mk0), rfl, bel.frame _, fun h => by cases h⟩
theorem closed : joinedFacts Try.pinned.checked.prog 8 Try.f8 Rows.fnExactTurnPlanSpec Rows.fnExactTurnPlanRow = true := by
  unfold joinedFacts
  rw [Facts.mayEnter, Facts.lifts, Facts.make]
  kernel_rfl
theorem over : Rows.fnExactTurnPlanRow.holds Try.pinned (OpenSpec.ofChange Rows.fnExactTurnPlanSpec) :=
  OpenClaim.holds_of_wide 8 Try.f8 rfl rfl rfl rfl rfl rfl rfl ⟨rfl, rfl, rfl, rfl, rfl⟩ rfl rfl rfl rfl rfl (by kernel_rfl) Try.func8 closed
    (of_decide_eq_true (by kernel_rfl)) (by unfold Func.isWrapper; first | (rw [if_pos (by decide +kernel)]; kernel_rfl) | (rw [if_neg (by decide +kernel)]; exact ⟨rfl, rfl⟩))
    (fun os started H enc _ => lifted os started H enc)
theorem proved : Rows.FnExactTurnPlanSaid := over
#print axioms proved
end Go.Proofs.Ytpdpomjgfmdjfaa.fnExactTurnPlan
namespace Go.Proofs.Ytpdpomjgfmdjfaa
/-- The row, under a short name, for the claim. -/
theorem fnExactTurnPlan_holds : Rows.FnExactTurnPlanSaid := fnExactTurnPlan.proved
end Go.Proofs.Ytpdpomjgfmdjfaa
