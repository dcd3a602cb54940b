/- The row of a law. -/
import Derived.Test.YtnnlfipcoahcnaaGreatDoorRows
import Derived.Test.YtnnlfipcoahcnaaGreatDoorKFnRenamedRegistersPureFnRenamedRegisters
import Derived.Test.YtnnlfipcoahcnaaGreatDoorKFnRenamedRegistersOpen
import Derived.Test.YtnnlfipcoahcnaaGreatDoorKFnRenamedRegistersFacts1
import Derived.Test.YtnnlfipcoahcnaaGreatDoorKFnRenamedRegistersFacts2
import Derived.Test.YtnnlfipcoahcnaaGreatDoorKFnRenamedRegistersFacts3
import Derived.WalkKit
import Derived.ProofKit
import Derived.OpenShut
import Derived.ShutString
import Derived.ChangeOld
import Derived.Below
import Derived.SizedLaws
import Derived.JoinedOf
import Derived.KernelRfl
import Derived.Lay
import Derived.LaidOnce
import Derived.SevenTiedAt
import Derived.Stop.LaidErr
import Derived.ChangeMaps5
import Derived.Test.YtnnlfipcoahcnaaGreatDoorKFnRenamedRegistersDoor
import Derived.Test.YtnnlfipcoahcnaaGreatDoorCards
import Derived.Test.YtnnlfipcoahcnaaGreatDoorTie
import Derived.Test.YtnnlfipcoahcnaaGreatDoorKFnRenamedRegistersWSized
namespace Go.Proofs.YtnnlfipcoahcnaaGreatDoor.fnRenamedRegisters
open Go.ChangeShapes Go.WideShapes Go.ChangeAt Go.RowKit Go.Joins Go.Proofs.YtnnlfipcoahcnaaGreatDoor.G3 Go.Proofs.YtnnlfipcoahcnaaGreatDoor.Open Go.Proofs.YtnnlfipcoahcnaaGreatDoorW.PrintWords Go.Proofs.YtnnlfipcoahcnaaGreatDoor.Hand
open Go.ChangeMaps (open_string shut_string)
set_option linter.unusedVariables false
theorem own : ownKnob Tryz.prog.godebug = none := by kernel_rfl
theorem laidOut : laidOutB Tryz.prog = true := by kernel_rfl
theorem gS : Tryz.prog.globalNamed "strconv.ErrSyntax" = some (atoiL_ren.g 15) := by kernel_rfl
theorem gtS : (Tryz.prog.globals[atoiL_ren.g 15]?).map (·.type) = some 111 := by kernel_rfl
theorem gR : Tryz.prog.globalNamed "strconv.ErrRange" = some (atoiL_ren.g 16) := by kernel_rfl
theorem gtR : (Tryz.prog.globals[atoiL_ren.g 16]?).map (·.type) = some 111 := by kernel_rfl
theorem star : "*" ++ "errors.errorString" = "*errors.errorString" := by decide
theorem row (u : TypeId) (h : Tryz.prog.typeName? 3 u = some "*errors.errorString") : u = 190 := typeName_ptr_named (nm := "errors.errorString") (by rw [star]; kernel_rfl) (by kernel_rfl) (by decide) u (by rw [star]; exact h)
theorem c1 : Tryz.prog.cellsOf 192 = 1 := by kernel_rfl
theorem c2 : Tryz.prog.cellsOf 9 = 1 := by kernel_rfl
set_option maxRecDepth 100000 in
theorem lifted (os : Os) (started : os.Started) (H : Type) (enc : TypeId × Value → H) :
  ReturnsInHanded {} Tryz.checked os 5 .any (fun w args => (Rows.fnRenamedRegistersSpec.pre enc Tryz.prog Tryz.f5 Rows.fnRenamedRegistersRow.domain false w args ∧ laidMetH Tryz.prog Rows.fnRenamedRegistersRow.laid w) ∧ sizedMet enc Tryz.prog Tryz.f5 (OpenSpec.ofChange Rows.fnRenamedRegistersSpec) false w args) (Rows.fnRenamedRegistersSpec.post enc Tryz.prog Tryz.f5 false true false false) := by
 refine Door.handed_laid (C := Tryz.checked) (X := fun w _ => laidMetH Tryz.prog Rows.fnRenamedRegistersRow.laid w) (fun _ _ _ hh h => h.of_heap hh) own started (by kernel_rfl) Tryz.func5
  (ChangeSpec.witness_shaped (enc := enc) (C := Tryz.checked) (os := os) (X := fun w _ => laidMetH Tryz.prog Rows.fnRenamedRegistersRow.laid w) false (World.laidAll Tryz.prog os Rows.fnRenamedRegistersRow.laid) #[.slice none 0 0, .slice none 0 0] 8 (World.laidAll_os _ _ _)
   (World.shaped_of_ZipB (by kernel_rfl) (by kernel_rfl)) (by kernel_rfl) (by kernel_rfl) (by kernel_rfl)
   (by rw [MakeChecks.laidMetH_plain _ _ _ (by kernel_rfl)]; exact laidMet_laidAll _ (by kernel_rfl) (by kernel_rfl))) ?_
 intro W base args ds gs before hval0 hW hcnd hsz0 hL hsh _
 have hP := hL
 rw [MakeChecks.laidMetH_plain _ _ _ (by kernel_rfl)] at hP
 have hG : GP W := by
  obtain ⟨aS, sS, hvS, -, -, -⟩ := laid_sentinel (P := Tryz.prog) hP.tail.tail.tail.tail.tail gS gtS Tryz.underlying111 row Tryz.underlying190 Tryz.underlying192 rfl rfl Tryz.underlying9 c1 c2
  obtain ⟨aR, sR, hvR, -, -, -⟩ := laid_sentinel (P := Tryz.prog) hP.tail.tail.tail.tail gR gtR Tryz.underlying111 row Tryz.underlying190 Tryz.underlying192 rfl rfl Tryz.underlying9 c1 c2
  exact ⟨splitL.s1_3 W hsh, ⟨_, by have h0 := World.var?_cell gS hvS 0; simpa using h0, Or.inr ⟨_, _, rfl⟩⟩, ⟨_, by have h0 := World.var?_cell gR hvR 0; simpa using h0, Or.inr ⟨_, _, rfl⟩⟩⟩
 have hval : ∀ (j : Nat) t v, Tryz.f5.params[j]? = some t → args[j]? = some v → Value.okWide Tryz.prog W .any base t v := hval0
 have hW' := hW
 obtain ⟨p, q, hA0, hV, rfl, hfz, hnd⟩ := hW
 have hA : DataW.TrodAll enc Tryz.prog W 0 (fun _ => true) true Tryz.f5.params.toList args.toList ds p := hA0
 rw [Tryz.params5] at hA hval
 obtain ⟨v0, vs0, d0, ds0, p0, q0, hargs, rfl, rfl, h0, r0⟩ := trodAll_cons hA
 obtain ⟨v1, vs1, d1, ds1, p1, q1, rfl, rfl, rfl, h1, r1⟩ := trodAll_cons r0
 obtain ⟨rfl, rfl, rfl⟩ := trodAll_nil r1
 obtain rfl : args = #[v0, v1] := by cases args; simp_all
 obtain ⟨rfl, rfl⟩ := trodVars_none hV
 have k0 := h0
 have lt0 : ∀ x ∈ p0, x.block < W.heap.size := by obtain ⟨m, hm⟩ := k0; exact DataW.trod_lt m _ _ _ hm
 obtain ⟨fu0, hf0⟩ := h0
 obtain ⟨aa0, len0, cap0, rfl⟩ := okWide_slice Tryz.underlying22 (hval 0 22 v0 rfl rfl)
 simp only [Value.cells] at hf0
 obtain ⟨va0, hva0⟩ : ∃ z, Value.slice aa0 len0 cap0 = z := ⟨_, rfl⟩
 rw [hva0] at hf0 k0 hval hW' ⊢
 clear hva0
 obtain ⟨A0, c0, l0, rfl, hc0, m0, hr0, w0⟩ := open_intsC Tryz.underlying22 Tryz.underlying5 (by kernel_rfl) hf0
 have k1 := h1
 have lt1 : ∀ x ∈ p1, x.block < W.heap.size := by obtain ⟨m, hm⟩ := k1; exact DataW.trod_lt m _ _ _ hm
 obtain ⟨fu1, hf1⟩ := h1
 obtain ⟨aa1, len1, cap1, rfl⟩ := okWide_slice Tryz.underlying22 (hval 1 22 v1 rfl rfl)
 simp only [Value.cells] at hf1
 obtain ⟨va1, hva1⟩ : ∃ z, Value.slice aa1 len1 cap1 = z := ⟨_, rfl⟩
 rw [hva1] at hf1 k1 hval hW' ⊢
 clear hva1
 obtain ⟨A1, c1, l1, rfl, hc1, m1, hr1, w1⟩ := open_intsC Tryz.underlying22 Tryz.underlying5 (by kernel_rfl) hf1
 clear hA0 hval0 hsz0
 refine (laws_FnRenamedRegisters.walk Pure.FnRenamedRegisters A0 c0 l0 A1 c1 l1 W hG hr0 hc0 hr1 hc1 m0 w0 m1 w1).mono fun e W' ⟨he, bel⟩ => ?_
 subst he
 exact ⟨_, rfl, _, _, _, [], _, [], hW', trodAll_mk1 (shut_bool Tryz.underlying4 _), (trodAll_cons_mk (Below.trod laidOut (by kernel_rfl) (of_decide_eq_true (by kernel_rfl)) k0 bel lt0) (trodAll_cons_mk (Below.trod laidOut (by kernel_rfl) (of_decide_eq_true (by kernel_rfl)) k1 bel lt1) trodAll_mk0)), rfl, bel.frame _, fun h => by cases h⟩
theorem closed : joinedFacts Tryz.pinned.checked.prog 5 Tryz.f5 Rows.fnRenamedRegistersSpec Rows.fnRenamedRegistersRow = true := by
 unfold joinedFacts
 rw [Facts.mayEnter, Facts.lifts, Facts.make]
 kernel_rfl
theorem over : Rows.fnRenamedRegistersRow.holds Tryz.pinned (OpenSpec.ofChange Rows.fnRenamedRegistersSpec) :=
 OpenClaim.holds_of_wide 5 Tryz.f5 rfl rfl rfl rfl rfl rfl rfl ⟨rfl, rfl, rfl, rfl, rfl⟩ rfl rfl rfl rfl rfl (by kernel_rfl) Tryz.func5 closed
  (of_decide_eq_true (by kernel_rfl)) (by unfold Func.isWrapper; first | (rw [if_pos (by decide +kernel)]; kernel_rfl) | (rw [if_neg (by decide +kernel)]; exact ⟨rfl, rfl⟩))
  (fun os started H enc _ => lifted os started H enc)
theorem proved : Rows.FnRenamedRegistersCardSaid :=
 Claim7.holds_tied_plain_at .later [] [.data, .data, .data, .data, .sentinel, .sentinel, .pinned] true (true, "9b26949187ff3659e93a42f8bf6bf701de01e4cc39313fb035f40b25d157f879") true over (fun _ h => by cases h) (by kernel_rfl) (fun _ h => by cases h) fnRenamedRegisters_row_tie rfl ⟨rfl, rfl⟩ (by kernel_rfl) rfl
  (fun f fn hf hfn => by
   obtain rfl : f = 5 := Option.some.inj ((show Tryz.prog.funcNamed "loop.example/g01098/laws.FnRenamedRegisters" = some 5 by kernel_rfl).symm.trans hf) |>.symm
   obtain rfl : fn = Tryz.f5 := (Option.some.inj (Tryz.func5.symm.trans hfn)).symm
   exact ⟨by kernel_rfl, fun j t ht => by
    rw [Tryz.params5] at ht
    have hm : t ∈ [22, 22] := by simpa using Array.mem_of_getElem? ht
    have hall : ([22, 22].all fun u => !Tryz.prog.wantsStandIn u) = true := by kernel_rfl
    exact (show Tryz.prog.wantsStandIn t = false by simpa using List.all_eq_true.1 hall t hm)⟩)
  (by kernel_rfl)
#print axioms proved
end Go.Proofs.YtnnlfipcoahcnaaGreatDoor.fnRenamedRegisters
namespace Go.Proofs.YtnnlfipcoahcnaaGreatDoor
/-- The row, under a short name, for the claim. -/
theorem fnRenamedRegisters_holds : Rows.FnRenamedRegistersCardSaid := fnRenamedRegisters.proved
end Go.Proofs.YtnnlfipcoahcnaaGreatDoor
