/- The row of a law. -/
import Derived.Test.YtnnlfipcoahcnaaDoorRows
import Derived.Test.YtnnlfipcoahcnaaDoorKFnExactParsePlanPureFnExactParsePlan
import Derived.Test.YtnnlfipcoahcnaaDoorKFnExactParsePlanOpen
import Derived.Test.YtnnlfipcoahcnaaDoorKFnExactParsePlanFacts1
import Derived.Test.YtnnlfipcoahcnaaDoorKFnExactParsePlanFacts2
import Derived.Test.YtnnlfipcoahcnaaDoorKFnExactParsePlanFacts3
import Derived.WalkKit
import Derived.ProofKit
import Derived.OpenShut
import Derived.ShutString
import Derived.ChangeOld
import Derived.Below
import Derived.SizedLaws
import Derived.JoinedOf
import Derived.KernelRfl
import Derived.Lay
import Derived.LaidOnce
import Derived.SevenTiedAt
import Derived.Stop.LaidErr
import Derived.ChangeMaps5
import Derived.Test.YtnnlfipcoahcnaaDoorKFnExactParsePlanDoor
import Derived.Test.YtnnlfipcoahcnaaDoorCards
import Derived.Test.YtnnlfipcoahcnaaDoorTie
import Derived.Test.YtnnlfipcoahcnaaDoorKFnExactParsePlanWSized
namespace Go.Proofs.YtnnlfipcoahcnaaDoor.fnExactParsePlan
open Go.ChangeShapes Go.WideShapes Go.ChangeAt Go.RowKit Go.Joins Go.Proofs.YtnnlfipcoahcnaaDoor.P2 Go.Proofs.YtnnlfipcoahcnaaDoor.Open Go.Proofs.YtnnlfipcoahcnaaDoorW.PrintWords Go.Proofs.YtnnlfipcoahcnaaDoor.Hand
open Go.ChangeMaps (open_string shut_string)
set_option linter.unusedVariables false
theorem own : ownKnob Tryd.prog.godebug = none := by kernel_rfl
theorem laidOut : laidOutB Tryd.prog = true := by kernel_rfl
theorem gS : Tryd.prog.globalNamed "strconv.ErrSyntax" = some (atoiL_ren.g 15) := by kernel_rfl
theorem gtS : (Tryd.prog.globals[atoiL_ren.g 15]?).map (·.type) = some 104 := by kernel_rfl
theorem gR : Tryd.prog.globalNamed "strconv.ErrRange" = some (atoiL_ren.g 16) := by kernel_rfl
theorem gtR : (Tryd.prog.globals[atoiL_ren.g 16]?).map (·.type) = some 104 := by kernel_rfl
theorem star : "*" ++ "errors.errorString" = "*errors.errorString" := by decide
theorem row (u : TypeId) (h : Tryd.prog.typeName? 3 u = some "*errors.errorString") : u = 171 := typeName_ptr_named (nm := "errors.errorString") (by rw [star]; kernel_rfl) (by kernel_rfl) (by decide) u (by rw [star]; exact h)
theorem c1 : Tryd.prog.cellsOf 173 = 1 := by kernel_rfl
theorem c2 : Tryd.prog.cellsOf 9 = 1 := by kernel_rfl
set_option maxRecDepth 100000 in
theorem lifted (os : Os) (started : os.Started) (H : Type) (enc : TypeId × Value → H) :
    ReturnsInHanded {} Tryd.checked os 5 .any (fun w args => (Rows.fnExactParsePlanSpec.pre enc Tryd.prog Tryd.f5 Rows.fnExactParsePlanRow.domain false w args ∧ laidMetH Tryd.prog Rows.fnExactParsePlanRow.laid w) ∧ sizedMet enc Tryd.prog Tryd.f5 (OpenSpec.ofChange Rows.fnExactParsePlanSpec) false w args) (Rows.fnExactParsePlanSpec.post enc Tryd.prog Tryd.f5 false true false false) := by
  refine Door.handed_laid (C := Tryd.checked) (X := fun w _ => laidMetH Tryd.prog Rows.fnExactParsePlanRow.laid w) (fun _ _ _ hh h => h.of_heap hh) own started (by kernel_rfl) Tryd.func5
    (ChangeSpec.witness_shaped (enc := enc) (C := Tryd.checked) (os := os) (X := fun w _ => laidMetH Tryd.prog Rows.fnExactParsePlanRow.laid w) false (World.laidAll Tryd.prog os Rows.fnExactParsePlanRow.laid) #[.string ⟨#[]⟩] 8 (World.laidAll_os _ _ _)
      (World.shaped_of_ZipB (by kernel_rfl) (by kernel_rfl)) (by kernel_rfl) (by kernel_rfl) (by kernel_rfl)
      (by rw [MakeChecks.laidMetH_plain _ _ _ (by kernel_rfl)]; exact laidMet_laidAll _ (by kernel_rfl) (by kernel_rfl))) ?_
  intro W base args ds gs before hval0 hW hcnd hsz0 hL hsh _
  have hP := hL
  rw [MakeChecks.laidMetH_plain _ _ _ (by kernel_rfl)] at hP
  have hG : GP W := by
    obtain ⟨aS, sS, hvS, -, -, -⟩ := laid_sentinel (P := Tryd.prog) hP.tail.tail.tail.tail.tail gS gtS Tryd.underlying104 row Tryd.underlying171 Tryd.underlying173 rfl rfl Tryd.underlying9 c1 c2
    obtain ⟨aR, sR, hvR, -, -, -⟩ := laid_sentinel (P := Tryd.prog) hP.tail.tail.tail.tail gR gtR Tryd.underlying104 row Tryd.underlying171 Tryd.underlying173 rfl rfl Tryd.underlying9 c1 c2
    exact ⟨splitL.s1_3 W hsh, ⟨_, by have h0 := World.var?_cell gS hvS 0; simpa using h0, Or.inr ⟨_, _, rfl⟩⟩, ⟨_, by have h0 := World.var?_cell gR hvR 0; simpa using h0, Or.inr ⟨_, _, rfl⟩⟩⟩
  have hval : ∀ (j : Nat) t v, Tryd.f5.params[j]? = some t → args[j]? = some v → Value.okWide Tryd.prog W .any base t v := hval0
  have hW' := hW
  obtain ⟨p, q, hA0, hV, rfl, hfz, hnd⟩ := hW
  have hA : DataW.TrodAll enc Tryd.prog W 0 (fun _ => true) true Tryd.f5.params.toList args.toList ds p := hA0
  rw [Tryd.params5] at hA hval
  obtain ⟨v0, vs0, d0, ds0, p0, q0, hargs, rfl, rfl, h0, r0⟩ := trodAll_cons hA
  obtain ⟨rfl, rfl, rfl⟩ := trodAll_nil r0
  obtain rfl : args = #[v0] := by cases args; simp_all
  obtain ⟨rfl, rfl⟩ := trodVars_none hV
  have k0 := h0
  have lt0 : ∀ x ∈ p0, x.block < W.heap.size := by obtain ⟨m, hm⟩ := k0; exact DataW.trod_lt m _ _ _ hm
  obtain ⟨a0, rfl, rfl, rfl, z0⟩ := open_string Tryd.underlying9 (hval 0 9 v0 rfl rfl) h0
  have w0 : a0.size ≤ 140737488355328 := by
    have h1 := sized_string hsz0 (j := 0) (t := 9) rfl rfl
    have h2 := reachBytes_lt
    have e1 : a0.size = a0.data.size := rfl
    have e2 : a0.data.toList.length = a0.data.size := Array.length_toList
    have e3 : (2 : Nat) ^ 47 = 140737488355328 := by decide
    omega
  clear hA0 hval0 hsz0
  refine (laws_FnExactParsePlan.walk Pure.FnExactParsePlan a0 W hG  w0).mono fun e W' ⟨he, bel⟩ => ?_
  subst he
  exact ⟨_, rfl, _, _, _, [], _, [], hW', trodAll_mk1 (shut_bool Tryd.underlying4 _), (trodAll_cons_mk (Below.trod laidOut (by kernel_rfl) (of_decide_eq_true (by kernel_rfl)) k0 bel lt0) trodAll_mk0), rfl, bel.frame _, fun h => by cases h⟩
theorem closed : joinedFacts Tryd.pinned.checked.prog 5 Tryd.f5 Rows.fnExactParsePlanSpec Rows.fnExactParsePlanRow = true := by
  unfold joinedFacts
  rw [Facts.mayEnter, Facts.lifts, Facts.make]
  kernel_rfl
theorem over : Rows.fnExactParsePlanRow.holds Tryd.pinned (OpenSpec.ofChange Rows.fnExactParsePlanSpec) :=
  OpenClaim.holds_of_wide 5 Tryd.f5 rfl rfl rfl rfl rfl rfl rfl ⟨rfl, rfl, rfl, rfl, rfl⟩ rfl rfl rfl rfl rfl (by kernel_rfl) Tryd.func5 closed
    (of_decide_eq_true (by kernel_rfl)) (by unfold Func.isWrapper; first | (rw [if_pos (by decide +kernel)]; kernel_rfl) | (rw [if_neg (by decide +kernel)]; exact ⟨rfl, rfl⟩))
    (fun os started H enc _ => lifted os started H enc)
theorem proved : Rows.FnExactParsePlanCardSaid :=
  Claim7.holds_tied_plain_at .later [] [.data, .data, .data, .data, .sentinel, .sentinel, .pinned] true (true, "846a07225277b5e8ee54d68b2e5faf73bc5ce1b5e6838017103b7ab1e44d1922") true over (fun _ h => by cases h) (by kernel_rfl) (fun _ h => by cases h) fnExactParsePlan_row_tie rfl ⟨rfl, rfl⟩ (by kernel_rfl) rfl
    (fun f fn hf hfn => by
      obtain rfl : f = 5 := Option.some.inj ((show Tryd.prog.funcNamed "loop.example/g01098/laws.FnExactParsePlan" = some 5 by kernel_rfl).symm.trans hf) |>.symm
      obtain rfl : fn = Tryd.f5 := (Option.some.inj (Tryd.func5.symm.trans hfn)).symm
      exact ⟨by kernel_rfl, fun j t ht => by
        rw [Tryd.params5] at ht
        have hm : t ∈ [9] := by simpa using Array.mem_of_getElem? ht
        have hall : ([9].all fun u => !Tryd.prog.wantsStandIn u) = true := by kernel_rfl
        exact (show Tryd.prog.wantsStandIn t = false by simpa using List.all_eq_true.1 hall t hm)⟩)
    (by kernel_rfl)
#print axioms proved
end Go.Proofs.YtnnlfipcoahcnaaDoor.fnExactParsePlan
namespace Go.Proofs.YtnnlfipcoahcnaaDoor
/-- The row, under a short name, for the claim. -/
theorem fnExactParsePlan_holds : Rows.FnExactParsePlanCardSaid := fnExactParsePlan.proved
end Go.Proofs.YtnnlfipcoahcnaaDoor
