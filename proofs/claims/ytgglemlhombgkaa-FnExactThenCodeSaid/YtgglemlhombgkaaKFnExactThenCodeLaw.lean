-- Written by a program of this session (wip/tools/stubprint.py): contracts by hand where the kit's print has none.
import Derived.Test.YtgglemlhombgkaaRows
import Derived.Test.YtgglemlhombgkaaKFnExactThenCodeQ0
import Derived.Test.YtgglemlhombgkaaKFnExactThenCodePureFnExactThenCode
import Derived.Test.YtgglemlhombgkaaKFnExactThenCodeOpen
import Derived.WalkKit
import Derived.ProofKit
import Derived.OpenShut
import Derived.ShutString
import Derived.ChangeOld
import Derived.Below
import Derived.SizedLaws
import Derived.Test.YtgglemlhombgkaaKFnExactThenCodeWSized
namespace Go.Proofs.Ytgglemlhombgkaa.fnExactThenCode
open Go.ChangeShapes Go.WideShapes Go.ChangeAt Go.RowKit Go.Joins Go.Proofs.Ytgglemlhombgkaa.T Go.Proofs.Ytgglemlhombgkaa.Open Go.Proofs.YtgglemlhombgkaaW.PrintWords
set_option linter.unusedVariables false
theorem own : ownKnob Try.prog.godebug = none := by kernel_rfl
theorem laidOut : laidOutB Try.prog = true := by kernel_rfl
set_option maxRecDepth 100000 in
theorem lifted (os : Os) (started : os.Started) (H : Type) (enc : TypeId × Value → H) :
  ReturnsInHanded {} Try.checked os 14 .any (Rows.fnExactThenCodeSpec.pre6 enc Try.prog Try.f14 Rows.fnExactThenCodeRow.domain false) (Rows.fnExactThenCodeSpec.post enc Try.prog Try.f14 false true false false) := by
 refine returnsInHanded_of_change_sized (C := Try.checked) own started (by kernel_rfl) Try.func14
  (ChangeSpec.witness6 (enc := enc) (C := Try.checked) false ⟨#[], #[.agg #[.slice none 0 0, .int .i64 0], .agg #[.slice none 0 0, .int .i64 0]], []⟩ 8 (by kernel_rfl) (by kernel_rfl) (by kernel_rfl) (by kernel_rfl)) ?_
 intro W base args ds gs before hval0 hW hcnd hsz0 _
 have hval : ∀ (j : Nat) t v, Try.f14.params[j]? = some t → args[j]? = some v → Value.okWide Try.prog W .any base t v := hval0
 have hW' := hW
 obtain ⟨p, q, hA0, hV, rfl, hfz, hnd⟩ := hW
 have hA : DataW.TrodAll enc Try.prog W 0 (fun _ => true) true Try.f14.params.toList args.toList ds p := hA0
 rw [Try.params14] at hA hval
 obtain ⟨v0, vs0, d0, ds0, p0, q0, hargs, rfl, rfl, h0, r0⟩ := trodAll_cons hA
 obtain ⟨v1, vs1, d1, ds1, p1, q1, rfl, rfl, rfl, h1, r1⟩ := trodAll_cons r0
 obtain ⟨rfl, rfl, rfl⟩ := trodAll_nil r1
 obtain rfl : args = #[v0, v1] := by cases args; simp_all
 obtain ⟨rfl, rfl⟩ := trodVars_none hV
 have k0 := h0
 have lt0 : ∀ x ∈ p0, x.block < W.heap.size := by obtain ⟨m, hm⟩ := k0; exact DataW.trod_lt m _ _ _ hm
 obtain ⟨v0_0, v0_1, y0_0, y0_1, n0, rfl, _, _, t0_0, t0_1⟩ := open_agg2 Try.underlying34 (by kernel_rfl) (by kernel_rfl) (hval 0 34 v0 rfl rfl) h0
 obtain ⟨A0_0, c0_0, l0_0, rfl, hc0_0, m0_0, hr0_0, w0_0⟩ := open_flat k93 (fun r => (⟨r.getD 0 0, r.getD 1 0, r.getD 2 0⟩ : S93)) (fun y => (Lit.int .i64 y.f0).wf = true ∧ (Lit.int .i64 y.f1).wf = true ∧ (Lit.int .i64 y.f2).wf = true) Try.underlying32 Try.underlying93 (by kernel_rfl) (by kernel_rfl) (fun j f hf => by
  match j, hf with
  | 0, hf => injection hf with hf; subst hf; exact Try.underlying3
  | 1, hf => injection hf with hf; subst hf; exact Try.underlying3
  | 2, hf => injection hf with hf; subst hf; exact Try.underlying3
  | j + 3, hf => simp at hf) rfl (fun W r hr => by
  match r, hr with
  | [r0, r1, r2], _ => exact k93_mk _ _) (fun r hr hw => by
  match r, hr with
  | [r0, r1, r2], _ => exact ⟨hw _ (by simp), hw _ (by simp), hw _ (by simp)⟩) t0_0
 obtain ⟨a0_1, e0_1, _, w0_1⟩ := DataW.trod_int Try.underlying3 t0_1
 obtain rfl : v0_1 = .int .i64 a0_1 := by injection e0_1
 have k1 := h1
 have lt1 : ∀ x ∈ p1, x.block < W.heap.size := by obtain ⟨m, hm⟩ := k1; exact DataW.trod_lt m _ _ _ hm
 obtain ⟨v1_0, v1_1, y1_0, y1_1, n1, rfl, _, _, t1_0, t1_1⟩ := open_agg2 Try.underlying34 (by kernel_rfl) (by kernel_rfl) (hval 1 34 v1 rfl rfl) h1
 obtain ⟨A1_0, c1_0, l1_0, rfl, hc1_0, m1_0, hr1_0, w1_0⟩ := open_flat k93 (fun r => (⟨r.getD 0 0, r.getD 1 0, r.getD 2 0⟩ : S93)) (fun y => (Lit.int .i64 y.f0).wf = true ∧ (Lit.int .i64 y.f1).wf = true ∧ (Lit.int .i64 y.f2).wf = true) Try.underlying32 Try.underlying93 (by kernel_rfl) (by kernel_rfl) (fun j f hf => by
  match j, hf with
  | 0, hf => injection hf with hf; subst hf; exact Try.underlying3
  | 1, hf => injection hf with hf; subst hf; exact Try.underlying3
  | 2, hf => injection hf with hf; subst hf; exact Try.underlying3
  | j + 3, hf => simp at hf) rfl (fun W r hr => by
  match r, hr with
  | [r0, r1, r2], _ => exact k93_mk _ _) (fun r hr hw => by
  match r, hr with
  | [r0, r1, r2], _ => exact ⟨hw _ (by simp), hw _ (by simp), hw _ (by simp)⟩) t1_0
 obtain ⟨a1_1, e1_1, _, w1_1⟩ := DataW.trod_int Try.underlying3 t1_1
 obtain rfl : v1_1 = .int .i64 a1_1 := by injection e1_1
 clear hA0 hval0 hsz0
 refine (T.laws_FnExactThenCode.walk Pure.FnExactThenCode A0_0 c0_0 l0_0 a0_1 A1_0 c1_0 l1_0 a1_1 W hr0_0 hc0_0 hr1_0 hc1_0 m0_0 w0_0 w0_1 m1_0 w1_0 w1_1).mono fun e W' ⟨he, bel⟩ => ?_
 subst he
 exact ⟨_, rfl, _, _, _, [], _, [], hW', trodAll_mk1 (shut_bool Try.underlying4 _), (trodAll_cons_mk (Below.trod laidOut (by kernel_rfl) (of_decide_eq_true (by kernel_rfl)) k0 bel lt0) (trodAll_cons_mk (Below.trod laidOut (by kernel_rfl) (of_decide_eq_true (by kernel_rfl)) k1 bel lt1) trodAll_mk0)), rfl, bel.frame _, fun h => by cases h⟩
theorem over : Rows.fnExactThenCodeRow.holds Try.pinned (OpenSpec.ofChange Rows.fnExactThenCodeSpec) :=
 OpenClaim.holds_of_wide 14 Try.f14 rfl rfl rfl rfl rfl rfl rfl ⟨rfl, rfl, rfl, rfl, rfl⟩ rfl rfl rfl rfl rfl (by kernel_rfl) Try.func14 (by kernel_rfl)
  (of_decide_eq_true (by kernel_rfl)) (by unfold Func.isWrapper; first | (rw [if_pos (by decide +kernel)]; kernel_rfl) | (rw [if_neg (by decide +kernel)]; exact ⟨rfl, rfl⟩))
  (fun os started H enc _ => lifted os started H enc)
theorem proved : Rows.FnExactThenCodeSaid := over
#print axioms proved
end Go.Proofs.Ytgglemlhombgkaa.fnExactThenCode
namespace Go.Proofs.Ytgglemlhombgkaa
/-- The row, under a short name, for the claim. -/
theorem fnExactThenCode_holds : Rows.FnExactThenCodeSaid := fnExactThenCode.proved
end Go.Proofs.Ytgglemlhombgkaa
