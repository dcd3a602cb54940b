/- The row of a law. -/
import Derived.Test.YtnnlfipcoahcnaaDoorRows
import Derived.Test.YtnnlfipcoahcnaaDoorKFnExactRegCodeTextPureFnExactRegCodeText
import Derived.Test.YtnnlfipcoahcnaaDoorKFnExactRegCodeTextOpen
import Derived.Test.YtnnlfipcoahcnaaDoorKFnExactRegCodeTextFacts1
import Derived.Test.YtnnlfipcoahcnaaDoorKFnExactRegCodeTextFacts2
import Derived.Test.YtnnlfipcoahcnaaDoorKFnExactRegCodeTextFacts3
import Derived.WalkKit
import Derived.ProofKit
import Derived.OpenShut
import Derived.ShutString
import Derived.ChangeOld
import Derived.Below
import Derived.SizedLaws
import Derived.JoinedOf
import Derived.KernelRfl
import Derived.Lay
import Derived.LaidOnce
import Derived.SevenTiedAt
import Derived.Stop.LaidErr
import Derived.ChangeMaps5
import Derived.Test.YtnnlfipcoahcnaaDoorKFnExactRegCodeTextDoor
import Derived.Test.YtnnlfipcoahcnaaDoorCards
import Derived.Test.YtnnlfipcoahcnaaDoorTie
import Derived.Test.YtnnlfipcoahcnaaDoorKFnExactRegCodeTextWSized
namespace Go.Proofs.YtnnlfipcoahcnaaDoor.fnExactRegCodeText
open Go.ChangeShapes Go.WideShapes Go.ChangeAt Go.RowKit Go.Joins Go.Proofs.YtnnlfipcoahcnaaDoor.P3 Go.Proofs.YtnnlfipcoahcnaaDoor.Open Go.Proofs.YtnnlfipcoahcnaaDoorW.PrintWords
open Go.ChangeMaps (open_string shut_string)
set_option linter.unusedVariables false
theorem own : ownKnob Tryd.prog.godebug = none := by kernel_rfl
theorem laidOut : laidOutB Tryd.prog = true := by kernel_rfl
set_option maxRecDepth 100000 in
theorem lifted (os : Os) (started : os.Started) (H : Type) (enc : TypeId × Value → H) :
    ReturnsInHanded {} Tryd.checked os 4 .any (fun w args => (Rows.fnExactRegCodeTextSpec.pre enc Tryd.prog Tryd.f4 Rows.fnExactRegCodeTextRow.domain false w args ∧ laidMetH Tryd.prog Rows.fnExactRegCodeTextRow.laid w) ∧ sizedMet enc Tryd.prog Tryd.f4 (OpenSpec.ofChange Rows.fnExactRegCodeTextSpec) false w args) (Rows.fnExactRegCodeTextSpec.post enc Tryd.prog Tryd.f4 false true false false) := by
  refine Door.handed_laid (C := Tryd.checked) (X := fun w _ => laidMetH Tryd.prog Rows.fnExactRegCodeTextRow.laid w) (fun _ _ _ hh h => h.of_heap hh) own started (by kernel_rfl) Tryd.func4
    (ChangeSpec.witness_shaped (enc := enc) (C := Tryd.checked) (os := os) (X := fun w _ => laidMetH Tryd.prog Rows.fnExactRegCodeTextRow.laid w) false (World.laidAll Tryd.prog os Rows.fnExactRegCodeTextRow.laid) #[.agg #[.int .i64 0, .slice none 0 0, .slice none 0 0, .slice none 0 0]] 8 (World.laidAll_os _ _ _)
      (World.shaped_of_ZipB (by kernel_rfl) (by kernel_rfl)) (by kernel_rfl) (by kernel_rfl) (by kernel_rfl)
      (by rw [MakeChecks.laidMetH_plain _ _ _ (by kernel_rfl)]; exact laidMet_laidAll _ (by kernel_rfl) (by kernel_rfl))) ?_
  intro W base args ds gs before hval0 hW hcnd hsz0 hL hsh _
  have hval : ∀ (j : Nat) t v, Tryd.f4.params[j]? = some t → args[j]? = some v → Value.okWide Tryd.prog W .any base t v := hval0
  have hW' := hW
  obtain ⟨p, q, hA0, hV, rfl, hfz, hnd⟩ := hW
  have hA : DataW.TrodAll enc Tryd.prog W 0 (fun _ => true) true Tryd.f4.params.toList args.toList ds p := hA0
  rw [Tryd.params4] at hA hval
  obtain ⟨v0, vs0, d0, ds0, p0, q0, hargs, rfl, rfl, h0, r0⟩ := trodAll_cons hA
  obtain ⟨rfl, rfl, rfl⟩ := trodAll_nil r0
  obtain rfl : args = #[v0] := by cases args; simp_all
  obtain ⟨rfl, rfl⟩ := trodVars_none hV
  have k0 := h0
  have lt0 : ∀ x ∈ p0, x.block < W.heap.size := by obtain ⟨m, hm⟩ := k0; exact DataW.trod_lt m _ _ _ hm
  obtain ⟨v0_0, v0_1, v0_2, v0_3, y0_0, y0_1, y0_2, y0_3, n0, rfl, _, _, t0_0, t0_1, t0_2, t0_3⟩ := open_agg4 Tryd.underlying37 (by kernel_rfl) (by kernel_rfl) (hval 0 37 v0 rfl rfl) h0
  obtain ⟨a0_0, e0_0, _, w0_0⟩ := DataW.trod_int Tryd.underlying3 t0_0
  obtain rfl : v0_0 = .int .i64 a0_0 := by injection e0_0
  obtain ⟨A0_1, c0_1, l0_1, rfl, hc0_1, m0_1, hr0_1, w0_1⟩ := open_intsC Tryd.underlying23 Tryd.underlying3 (by kernel_rfl) t0_1
  obtain ⟨A0_2, c0_2, l0_2, rfl, hc0_2, m0_2, hr0_2, w0_2⟩ := open_flat kRegOp (fun r => (⟨r.getD 0 0, r.getD 1 0, r.getD 2 0⟩ : SRegOp)) (fun y => (Lit.int .i64 y.f0).wf = true ∧ (Lit.int .i64 y.f1).wf = true ∧ (Lit.int .i64 y.f2).wf = true) Tryd.underlying35 Tryd.underlying97 (by kernel_rfl) (by kernel_rfl) (fun j f hf => by
    match j, hf with
    | 0, hf => injection hf with hf; subst hf; exact Tryd.underlying3
    | 1, hf => injection hf with hf; subst hf; exact Tryd.underlying3
    | 2, hf => injection hf with hf; subst hf; exact Tryd.underlying3
    | j + 3, hf => simp at hf) rfl (fun W r hr => by
    match r, hr with
    | [r0, r1, r2], _ => rfl) (fun r hr hw => by
    match r, hr with
    | [r0, r1, r2], _ => exact ⟨hw _ (by simp), hw _ (by simp), hw _ (by simp)⟩) t0_2
  obtain ⟨A0_3, c0_3, l0_3, rfl, hc0_3, m0_3, hr0_3, w0_3⟩ := open_intsC Tryd.underlying23 Tryd.underlying3 (by kernel_rfl) t0_3
  clear hA0 hval0 hsz0
  refine (laws_FnExactRegCodeText.walk Pure.FnExactRegCodeText a0_0 A0_1 c0_1 l0_1 A0_2 c0_2 l0_2 A0_3 c0_3 l0_3 W hr0_1 hc0_1 hr0_2 hc0_2 hr0_3 hc0_3 w0_0 m0_1 w0_1 m0_2 w0_2 m0_3 w0_3).mono fun e W' ⟨he, bel⟩ => ?_
  subst he
  exact ⟨_, rfl, _, _, _, [], _, [], hW', trodAll_mk1 (shut_bool Tryd.underlying4 _), (trodAll_cons_mk (Below.trod laidOut (by kernel_rfl) (of_decide_eq_true (by kernel_rfl)) k0 bel lt0) trodAll_mk0), rfl, bel.frame _, fun h => by cases h⟩
theorem closed : joinedFacts Tryd.pinned.checked.prog 4 Tryd.f4 Rows.fnExactRegCodeTextSpec Rows.fnExactRegCodeTextRow = true := by
  unfold joinedFacts
  rw [Facts.mayEnter, Facts.lifts, Facts.make]
  kernel_rfl
theorem over : Rows.fnExactRegCodeTextRow.holds Tryd.pinned (OpenSpec.ofChange Rows.fnExactRegCodeTextSpec) :=
  OpenClaim.holds_of_wide 4 Tryd.f4 rfl rfl rfl rfl rfl rfl rfl ⟨rfl, rfl, rfl, rfl, rfl⟩ rfl rfl rfl rfl rfl (by kernel_rfl) Tryd.func4 closed
    (of_decide_eq_true (by kernel_rfl)) (by unfold Func.isWrapper; first | (rw [if_pos (by decide +kernel)]; kernel_rfl) | (rw [if_neg (by decide +kernel)]; exact ⟨rfl, rfl⟩))
    (fun os started H enc _ => lifted os started H enc)
theorem proved : Rows.FnExactRegCodeTextCardSaid :=
  Claim7.holds_tied_plain_at .later [] [.data, .data, .data] true (true, "846a07225277b5e8ee54d68b2e5faf73bc5ce1b5e6838017103b7ab1e44d1922") true over (fun _ h => by cases h) (by kernel_rfl) (fun _ h => by cases h) fnExactRegCodeText_row_tie rfl ⟨rfl, rfl⟩ (by kernel_rfl) rfl
    (fun f fn hf hfn => by
      obtain rfl : f = 4 := Option.some.inj ((show Tryd.prog.funcNamed "loop.example/g01098/laws.FnExactRegCodeText" = some 4 by kernel_rfl).symm.trans hf) |>.symm
      obtain rfl : fn = Tryd.f4 := (Option.some.inj (Tryd.func4.symm.trans hfn)).symm
      exact ⟨by kernel_rfl, fun j t ht => by
        rw [Tryd.params4] at ht
        have hm : t ∈ [37] := by simpa using Array.mem_of_getElem? ht
        have hall : ([37].all fun u => !Tryd.prog.wantsStandIn u) = true := by kernel_rfl
        exact (show Tryd.prog.wantsStandIn t = false by simpa using List.all_eq_true.1 hall t hm)⟩)
    (by kernel_rfl)
#print axioms proved
end Go.Proofs.YtnnlfipcoahcnaaDoor.fnExactRegCodeText
namespace Go.Proofs.YtnnlfipcoahcnaaDoor
/-- The row, under a short name, for the claim. -/
theorem fnExactRegCodeText_holds : Rows.FnExactRegCodeTextCardSaid := fnExactRegCodeText.proved
end Go.Proofs.YtnnlfipcoahcnaaDoor
