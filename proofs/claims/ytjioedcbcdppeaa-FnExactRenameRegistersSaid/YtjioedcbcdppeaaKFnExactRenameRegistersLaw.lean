/- The row of a law. -/
import Derived.Test.YtjioedcbcdppeaaRows
import Derived.Test.YtjioedcbcdppeaaKFnExactRenameRegistersPureFnExactRenameRegisters
import Derived.Test.YtjioedcbcdppeaaKFnExactRenameRegistersOpen
import Derived.Test.YtjioedcbcdppeaaKFnExactRenameRegistersFacts1
import Derived.Test.YtjioedcbcdppeaaKFnExactRenameRegistersFacts2
import Derived.Test.YtjioedcbcdppeaaKFnExactRenameRegistersFacts3
import Derived.WalkKit
import Derived.ProofKit
import Derived.OpenShut
import Derived.ShutString
import Derived.ChangeOld
import Derived.Below
import Derived.SizedLaws
import Derived.JoinedOf
import Derived.KernelRfl
import Derived.Test.YtjioedcbcdppeaaKFnExactRenameRegistersWSized
namespace Go.Proofs.Ytjioedcbcdppeaa.fnExactRenameRegisters
open Go.ChangeShapes Go.WideShapes Go.ChangeAt Go.RowKit Go.Joins Go.Proofs.Ytjioedcbcdppeaa.RS Go.Proofs.Ytjioedcbcdppeaa.Open Go.Proofs.YtjioedcbcdppeaaW.PrintWords
set_option linter.unusedVariables false
theorem own : ownKnob Try.prog.godebug = none := by kernel_rfl
theorem laidOut : laidOutB Try.prog = true := by kernel_rfl
set_option maxRecDepth 100000 in
theorem lifted (os : Os) (started : os.Started) (H : Type) (enc : TypeId × Value → H) :
    ReturnsInHanded {} Try.checked os 4 .any (Rows.fnExactRenameRegistersSpec.pre6 enc Try.prog Try.f4 Rows.fnExactRenameRegistersRow.domain false) (Rows.fnExactRenameRegistersSpec.post enc Try.prog Try.f4 false true false false) := by
  refine returnsInHanded_of_change_sized (C := Try.checked) own started (by kernel_rfl) Try.func4
    (ChangeSpec.witness6 (enc := enc) (C := Try.checked) false ⟨#[], #[.agg #[.int .i64 0, .slice none 0 0, .slice none 0 0, .slice none 0 0], .slice none 0 0], []⟩ 8 (by kernel_rfl) (by kernel_rfl) (by kernel_rfl) (by kernel_rfl)) ?_
  intro W base args ds gs before hval0 hW hcnd hsz0 _
  have hval : ∀ (j : Nat) t v, Try.f4.params[j]? = some t → args[j]? = some v → Value.okWide Try.prog W .any base t v := hval0
  have hW' := hW
  obtain ⟨p, q, hA0, hV, rfl, hfz, hnd⟩ := hW
  have hA : DataW.TrodAll enc Try.prog W 0 (fun _ => true) true Try.f4.params.toList args.toList ds p := hA0
  rw [Try.params4] at hA hval
  obtain ⟨v0, vs0, d0, ds0, p0, q0, hargs, rfl, rfl, h0, r0⟩ := trodAll_cons hA
  obtain ⟨v1, vs1, d1, ds1, p1, q1, rfl, rfl, rfl, h1, r1⟩ := trodAll_cons r0
  obtain ⟨rfl, rfl, rfl⟩ := trodAll_nil r1
  obtain rfl : args = #[v0, v1] := by cases args; simp_all
  obtain ⟨rfl, rfl⟩ := trodVars_none hV
  have k0 := h0
  have lt0 : ∀ x ∈ p0, x.block < W.heap.size := by obtain ⟨m, hm⟩ := k0; exact DataW.trod_lt m _ _ _ hm
  obtain ⟨v0_0, v0_1, v0_2, v0_3, y0_0, y0_1, y0_2, y0_3, n0, rfl, _, _, t0_0, t0_1, t0_2, t0_3⟩ := open_agg4 Try.underlying25 (by kernel_rfl) (by kernel_rfl) (hval 0 25 v0 rfl rfl) h0
  obtain ⟨a0_0, e0_0, _, w0_0⟩ := DataW.trod_int Try.underlying3 t0_0
  obtain rfl : v0_0 = .int .i64 a0_0 := by injection e0_0
  obtain ⟨A0_1, c0_1, l0_1, rfl, hc0_1, m0_1, hr0_1, w0_1⟩ := open_intsC Try.underlying22 Try.underlying3 (by kernel_rfl) t0_1
  obtain ⟨A0_2, c0_2, l0_2, rfl, hc0_2, m0_2, hr0_2, w0_2⟩ := open_flat zat (fun r => (⟨r.getD 0 0, r.getD 1 0, r.getD 2 0⟩ : SRegOp)) (fun y => (Lit.int .i64 y.f0).wf = true ∧ (Lit.int .i64 y.f1).wf = true ∧ (Lit.int .i64 y.f2).wf = true) Try.underlying23 Try.underlying96 (by kernel_rfl) (by kernel_rfl) (fun j f hf => by
    match j, hf with
    | 0, hf => injection hf with hf; subst hf; exact Try.underlying3
    | 1, hf => injection hf with hf; subst hf; exact Try.underlying3
    | 2, hf => injection hf with hf; subst hf; exact Try.underlying3
    | j + 3, hf => simp at hf) rfl (fun W r hr => by
    match r, hr with
    | [r0, r1, r2], _ => rfl) (fun r hr hw => by
    match r, hr with
    | [r0, r1, r2], _ => exact ⟨hw _ (by simp), hw _ (by simp), hw _ (by simp)⟩) t0_2
  obtain ⟨A0_3, c0_3, l0_3, rfl, hc0_3, m0_3, hr0_3, w0_3⟩ := open_intsC Try.underlying22 Try.underlying3 (by kernel_rfl) t0_3
  have k1 := h1
  have lt1 : ∀ x ∈ p1, x.block < W.heap.size := by obtain ⟨m, hm⟩ := k1; exact DataW.trod_lt m _ _ _ hm
  obtain ⟨fu1, hf1⟩ := h1
  obtain ⟨aa1, len1, cap1, rfl⟩ := okWide_slice Try.underlying22 (hval 1 22 v1 rfl rfl)
  simp only [Value.cells] at hf1
  obtain ⟨va1, hva1⟩ : ∃ z, Value.slice aa1 len1 cap1 = z := ⟨_, rfl⟩
  rw [hva1] at hf1 k1 hval hW' ⊢
  clear hva1
  obtain ⟨A1, c1, l1, rfl, hc1, m1, hr1, w1⟩ := open_intsC Try.underlying22 Try.underlying3 (by kernel_rfl) hf1
  clear hA0 hval0 hsz0
  refine (laws_FnExactRenameRegisters.walk Pure.FnExactRenameRegisters a0_0 A0_1 c0_1 l0_1 A0_2 c0_2 l0_2 A0_3 c0_3 l0_3 A1 c1 l1 W hr0_1 hc0_1 hr0_2 hc0_2 hr0_3 hc0_3 hr1 hc1 w0_0 m0_1 w0_1 m0_2 w0_2 m0_3 w0_3 m1 w1).mono fun e W' ⟨he, bel⟩ => ?_
  subst he
  exact ⟨_, rfl, _, _, _, [], _, [], hW', trodAll_mk1 (shut_bool Try.underlying4 _), (trodAll_cons_mk (Below.trod laidOut (by kernel_rfl) (of_decide_eq_true (by kernel_rfl)) k0 bel lt0) (trodAll_cons_mk (Below.trod laidOut (by kernel_rfl) (of_decide_eq_true (by kernel_rfl)) k1 bel lt1) trodAll_mk0)), rfl, bel.frame _, fun h => by cases h⟩
theorem closed : joinedFacts Try.pinned.checked.prog 4 Try.f4 Rows.fnExactRenameRegistersSpec Rows.fnExactRenameRegistersRow = true := by
  unfold joinedFacts
  rw [Facts.mayEnter, Facts.lifts, Facts.make]
  kernel_rfl
theorem over : Rows.fnExactRenameRegistersRow.holds Try.pinned (OpenSpec.ofChange Rows.fnExactRenameRegistersSpec) :=
  OpenClaim.holds_of_wide 4 Try.f4 rfl rfl rfl rfl rfl rfl rfl ⟨rfl, rfl, rfl, rfl, rfl⟩ rfl rfl rfl rfl rfl (by kernel_rfl) Try.func4 closed
    (of_decide_eq_true (by kernel_rfl)) (by unfold Func.isWrapper; first | (rw [if_pos (by decide +kernel)]; kernel_rfl) | (rw [if_neg (by decide +kernel)]; exact ⟨rfl, rfl⟩))
    (fun os started H enc _ => lifted os started H enc)
theorem proved : Rows.FnExactRenameRegistersSaid := over
#print axioms proved
end Go.Proofs.Ytjioedcbcdppeaa.fnExactRenameRegisters
namespace Go.Proofs.Ytjioedcbcdppeaa
/-- The row, under a short name, for the claim. -/
theorem fnExactRenameRegisters_holds : Rows.FnExactRenameRegistersSaid := fnExactRenameRegisters.proved
end Go.Proofs.Ytjioedcbcdppeaa
