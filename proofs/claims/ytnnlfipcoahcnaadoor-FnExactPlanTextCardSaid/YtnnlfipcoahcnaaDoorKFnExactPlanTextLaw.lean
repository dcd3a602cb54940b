/- The row of a law. -/
import Derived.Test.YtnnlfipcoahcnaaDoorRows
import Derived.Test.YtnnlfipcoahcnaaDoorKFnExactPlanTextPureFnExactPlanText
import Derived.Test.YtnnlfipcoahcnaaDoorKFnExactPlanTextOpen
import Derived.Test.YtnnlfipcoahcnaaDoorKFnExactPlanTextFacts1
import Derived.Test.YtnnlfipcoahcnaaDoorKFnExactPlanTextFacts2
import Derived.Test.YtnnlfipcoahcnaaDoorKFnExactPlanTextFacts3
import Derived.WalkKit
import Derived.ProofKit
import Derived.OpenShut
import Derived.ShutString
import Derived.ChangeOld
import Derived.Below
import Derived.SizedLaws
import Derived.JoinedOf
import Derived.KernelRfl
import Derived.Lay
import Derived.LaidOnce
import Derived.SevenTiedAt
import Derived.Stop.LaidErr
import Derived.ChangeMaps5
import Derived.Test.YtnnlfipcoahcnaaDoorKFnExactPlanTextDoor
import Derived.Test.YtnnlfipcoahcnaaDoorCards
import Derived.Test.YtnnlfipcoahcnaaDoorTie
import Derived.Test.YtnnlfipcoahcnaaDoorKFnExactPlanTextWSized
namespace Go.Proofs.YtnnlfipcoahcnaaDoor.fnExactPlanText
open Go.ChangeShapes Go.WideShapes Go.ChangeAt Go.RowKit Go.Joins Go.Proofs.YtnnlfipcoahcnaaDoor.P1 Go.Proofs.YtnnlfipcoahcnaaDoor.Open Go.Proofs.YtnnlfipcoahcnaaDoorW.PrintWords
open Go.ChangeMaps (open_string shut_string)
set_option linter.unusedVariables false
theorem own : ownKnob Tryd.prog.godebug = none := by kernel_rfl
theorem laidOut : laidOutB Tryd.prog = true := by kernel_rfl
set_option maxRecDepth 100000 in
theorem lifted (os : Os) (started : os.Started) (H : Type) (enc : TypeId × Value → H) :
    ReturnsInHanded {} Tryd.checked os 3 .any (fun w args => (Rows.fnExactPlanTextSpec.pre enc Tryd.prog Tryd.f3 Rows.fnExactPlanTextRow.domain false w args ∧ laidMetH Tryd.prog Rows.fnExactPlanTextRow.laid w) ∧ sizedMet enc Tryd.prog Tryd.f3 (OpenSpec.ofChange Rows.fnExactPlanTextSpec) false w args) (Rows.fnExactPlanTextSpec.post enc Tryd.prog Tryd.f3 false true false false) := by
  refine Door.handed_laid (C := Tryd.checked) (X := fun w _ => laidMetH Tryd.prog Rows.fnExactPlanTextRow.laid w) (fun _ _ _ hh h => h.of_heap hh) own started (by kernel_rfl) Tryd.func3
    (ChangeSpec.witness_shaped (enc := enc) (C := Tryd.checked) (os := os) (X := fun w _ => laidMetH Tryd.prog Rows.fnExactPlanTextRow.laid w) false (World.laidAll Tryd.prog os Rows.fnExactPlanTextRow.laid) #[.agg #[.int .i64 0, .slice none 0 0, .slice none 0 0]] 8 (World.laidAll_os _ _ _)
      (World.shaped_of_ZipB (by kernel_rfl) (by kernel_rfl)) (by kernel_rfl) (by kernel_rfl) (by kernel_rfl)
      (by rw [MakeChecks.laidMetH_plain _ _ _ (by kernel_rfl)]; exact laidMet_laidAll _ (by kernel_rfl) (by kernel_rfl))) ?_
  intro W base args ds gs before hval0 hW hcnd hsz0 hL hsh _
  have hval : ∀ (j : Nat) t v, Tryd.f3.params[j]? = some t → args[j]? = some v → Value.okWide Tryd.prog W .any base t v := hval0
  have hW' := hW
  obtain ⟨p, q, hA0, hV, rfl, hfz, hnd⟩ := hW
  have hA : DataW.TrodAll enc Tryd.prog W 0 (fun _ => true) true Tryd.f3.params.toList args.toList ds p := hA0
  rw [Tryd.params3] at hA hval
  obtain ⟨v0, vs0, d0, ds0, p0, q0, hargs, rfl, rfl, h0, r0⟩ := trodAll_cons hA
  obtain ⟨rfl, rfl, rfl⟩ := trodAll_nil r0
  obtain rfl : args = #[v0] := by cases args; simp_all
  obtain ⟨rfl, rfl⟩ := trodVars_none hV
  have k0 := h0
  have lt0 : ∀ x ∈ p0, x.block < W.heap.size := by obtain ⟨m, hm⟩ := k0; exact DataW.trod_lt m _ _ _ hm
  obtain ⟨v0_0, v0_1, v0_2, y0_0, y0_1, y0_2, n0, rfl, _, _, t0_0, t0_1, t0_2⟩ := open_agg3 Tryd.underlying25 (by kernel_rfl) (by kernel_rfl) (hval 0 25 v0 rfl rfl) h0
  obtain ⟨a0_0, e0_0, _, w0_0⟩ := DataW.trod_int Tryd.underlying3 t0_0
  obtain rfl : v0_0 = .int .i64 a0_0 := by injection e0_0
  obtain ⟨A0_1, c0_1, l0_1, rfl, hc0_1, m0_1, hr0_1, w0_1⟩ := open_flat kStep (fun r => (⟨r.getD 0 0, r.getD 1 0⟩ : SStep)) (fun y => (Lit.int .i64 y.f0).wf = true ∧ (Lit.int .i64 y.f1).wf = true) Tryd.underlying22 Tryd.underlying84 (by kernel_rfl) (by kernel_rfl) (fun j f hf => by
    match j, hf with
    | 0, hf => injection hf with hf; subst hf; exact Tryd.underlying3
    | 1, hf => injection hf with hf; subst hf; exact Tryd.underlying3
    | j + 2, hf => simp at hf) rfl (fun W r hr => by
    match r, hr with
    | [r0, r1], _ => rfl) (fun r hr hw => by
    match r, hr with
    | [r0, r1], _ => exact ⟨hw _ (by simp), hw _ (by simp)⟩) t0_1
  obtain ⟨A0_2, c0_2, l0_2, rfl, hc0_2, m0_2, hr0_2, w0_2⟩ := open_intsC Tryd.underlying23 Tryd.underlying3 (by kernel_rfl) t0_2
  clear hA0 hval0 hsz0
  refine (laws_FnExactPlanText.walk Pure.FnExactPlanText a0_0 A0_1 c0_1 l0_1 A0_2 c0_2 l0_2 W hr0_1 hc0_1 hr0_2 hc0_2 w0_0 m0_1 w0_1 m0_2 w0_2).mono fun e W' ⟨he, bel⟩ => ?_
  subst he
  exact ⟨_, rfl, _, _, _, [], _, [], hW', trodAll_mk1 (shut_bool Tryd.underlying4 _), (trodAll_cons_mk (Below.trod laidOut (by kernel_rfl) (of_decide_eq_true (by kernel_rfl)) k0 bel lt0) trodAll_mk0), rfl, bel.frame _, fun h => by cases h⟩
theorem closed : joinedFacts Tryd.pinned.checked.prog 3 Tryd.f3 Rows.fnExactPlanTextSpec Rows.fnExactPlanTextRow = true := by
  unfold joinedFacts
  rw [Facts.mayEnter, Facts.lifts, Facts.make]
  kernel_rfl
theorem over : Rows.fnExactPlanTextRow.holds Tryd.pinned (OpenSpec.ofChange Rows.fnExactPlanTextSpec) :=
  OpenClaim.holds_of_wide 3 Tryd.f3 rfl rfl rfl rfl rfl rfl rfl ⟨rfl, rfl, rfl, rfl, rfl⟩ rfl rfl rfl rfl rfl (by kernel_rfl) Tryd.func3 closed
    (of_decide_eq_true (by kernel_rfl)) (by unfold Func.isWrapper; first | (rw [if_pos (by decide +kernel)]; kernel_rfl) | (rw [if_neg (by decide +kernel)]; exact ⟨rfl, rfl⟩))
    (fun os started H enc _ => lifted os started H enc)
theorem proved : Rows.FnExactPlanTextCardSaid :=
  Claim7.holds_tied_plain_at .later [] [.data, .data, .data] true (true, "846a07225277b5e8ee54d68b2e5faf73bc5ce1b5e6838017103b7ab1e44d1922") true over (fun _ h => by cases h) (by kernel_rfl) (fun _ h => by cases h) fnExactPlanText_row_tie rfl ⟨rfl, rfl⟩ (by kernel_rfl) rfl
    (fun f fn hf hfn => by
      obtain rfl : f = 3 := Option.some.inj ((show Tryd.prog.funcNamed "loop.example/g01098/laws.FnExactPlanText" = some 3 by kernel_rfl).symm.trans hf) |>.symm
      obtain rfl : fn = Tryd.f3 := (Option.some.inj (Tryd.func3.symm.trans hfn)).symm
      exact ⟨by kernel_rfl, fun j t ht => by
        rw [Tryd.params3] at ht
        have hm : t ∈ [25] := by simpa using Array.mem_of_getElem? ht
        have hall : ([25].all fun u => !Tryd.prog.wantsStandIn u) = true := by kernel_rfl
        exact (show Tryd.prog.wantsStandIn t = false by simpa using List.all_eq_true.1 hall t hm)⟩)
    (by kernel_rfl)
#print axioms proved
end Go.Proofs.YtnnlfipcoahcnaaDoor.fnExactPlanText
namespace Go.Proofs.YtnnlfipcoahcnaaDoor
/-- The row, under a short name, for the claim. -/
theorem fnExactPlanText_holds : Rows.FnExactPlanTextCardSaid := fnExactPlanText.proved
end Go.Proofs.YtnnlfipcoahcnaaDoor
