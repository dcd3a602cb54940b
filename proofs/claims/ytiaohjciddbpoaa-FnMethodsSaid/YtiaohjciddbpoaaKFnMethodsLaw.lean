/- The row of a law. -/
import Derived.Test.YtiaohjciddbpoaaRows
import Derived.Test.YtiaohjciddbpoaaKFnMethodsPureFnMethods
import Derived.Test.YtiaohjciddbpoaaKFnMethodsOpen
import Derived.Test.YtiaohjciddbpoaaKFnMethodsFacts1
import Derived.Test.YtiaohjciddbpoaaKFnMethodsFacts2
import Derived.Test.YtiaohjciddbpoaaKFnMethodsFacts3
import Derived.WalkKit
import Derived.ProofKit
import Derived.OpenShut
import Derived.ShutString
import Derived.ChangeOld
import Derived.Below
import Derived.SizedLaws
import Derived.JoinedOf
import Derived.KernelRfl
import Derived.Test.YtiaohjciddbpoaaKFnMethodsWSized
namespace Go.Proofs.Ytiaohjciddbpoaa.fnMethods
open Go.ChangeShapes Go.WideShapes Go.ChangeAt Go.RowKit Go.Joins Go.Proofs.Ytiaohjciddbpoaa.M5 Go.Proofs.Ytiaohjciddbpoaa.Open Go.Proofs.YtiaohjciddbpoaaW.PrintWords
set_option linter.unusedVariables false
theorem own : ownKnob Try.prog.godebug = none := by kernel_rfl
theorem laidOut : laidOutB Try.prog = true := by kernel_rfl
set_option maxRecDepth 100000 in
theorem lifted (os : Os) (started : os.Started) (H : Type) (enc : TypeId × Value → H) :
  ReturnsInHanded {} Try.checked os 7 .any (Rows.fnMethodsSpec.pre6 enc Try.prog Try.f7 Rows.fnMethodsRow.domain false) (Rows.fnMethodsSpec.post enc Try.prog Try.f7 false true false false) := by
 refine returnsInHanded_of_change_sized (C := Try.checked) own started (by kernel_rfl) Try.func7
  (ChangeSpec.witness6 (enc := enc) (C := Try.checked) false ⟨#[], #[.slice none 0 0, .slice none 0 0], []⟩ 8 (by kernel_rfl) (by kernel_rfl) (by kernel_rfl) (by kernel_rfl)) ?_
 intro W base args ds gs before hval0 hW hcnd hsz0 _
 have hval : ∀ (j : Nat) t v, Try.f7.params[j]? = some t → args[j]? = some v → Value.okWide Try.prog W .any base t v := hval0
 have hW' := hW
 obtain ⟨p, q, hA0, hV, rfl, hfz, hnd⟩ := hW
 have hA : DataW.TrodAll enc Try.prog W 0 (fun _ => true) true Try.f7.params.toList args.toList ds p := hA0
 rw [Try.params7] at hA hval
 obtain ⟨v0, vs0, d0, ds0, p0, q0, hargs, rfl, rfl, h0, r0⟩ := trodAll_cons hA
 obtain ⟨v1, vs1, d1, ds1, p1, q1, rfl, rfl, rfl, h1, r1⟩ := trodAll_cons r0
 obtain ⟨rfl, rfl, rfl⟩ := trodAll_nil r1
 obtain rfl : args = #[v0, v1] := by cases args; simp_all
 obtain ⟨rfl, rfl⟩ := trodVars_none hV
 have k0 := h0
 have lt0 : ∀ x ∈ p0, x.block < W.heap.size := by obtain ⟨m, hm⟩ := k0; exact DataW.trod_lt m _ _ _ hm
 obtain ⟨fu0, hf0⟩ := h0
 obtain ⟨aa0, len0, cap0, rfl⟩ := okWide_slice Try.underlying36 (hval 0 36 v0 rfl rfl)
 simp only [Value.cells] at hf0
 obtain ⟨va0, hva0⟩ : ∃ z, Value.slice aa0 len0 cap0 = z := ⟨_, rfl⟩
 rw [hva0] at hf0 k0 hval hW' ⊢
 clear hva0
 obtain ⟨A0, c0, l0, rfl, hc0, m0, hr0, w0⟩ := open_intsC Try.underlying36 Try.underlying5 (by kernel_rfl) hf0
 have k1 := h1
 have lt1 : ∀ x ∈ p1, x.block < W.heap.size := by obtain ⟨m, hm⟩ := k1; exact DataW.trod_lt m _ _ _ hm
 obtain ⟨fu1, hf1⟩ := h1
 obtain ⟨aa1, len1, cap1, rfl⟩ := okWide_slice Try.underlying36 (hval 1 36 v1 rfl rfl)
 simp only [Value.cells] at hf1
 obtain ⟨va1, hva1⟩ : ∃ z, Value.slice aa1 len1 cap1 = z := ⟨_, rfl⟩
 rw [hva1] at hf1 k1 hval hW' ⊢
 clear hva1
 obtain ⟨A1, c1, l1, rfl, hc1, m1, hr1, w1⟩ := open_intsC Try.underlying36 Try.underlying5 (by kernel_rfl) hf1
 clear hA0 hval0 hsz0
 refine (laws_FnMethods.walk Pure.FnMethods A0 c0 l0 A1 c1 l1 W hr0 hc0 hr1 hc1 m0 w0 m1 w1).mono fun e W' ⟨he, bel⟩ => ?_
 subst he
 exact ⟨_, rfl, _, _, _, [], _, [], hW', trodAll_mk1 (shut_bool Try.underlying4 _), (trodAll_cons_mk (Below.trod laidOut (by kernel_rfl) (of_decide_eq_true (by kernel_rfl)) k0 bel lt0) (trodAll_cons_mk (Below.trod laidOut (by kernel_rfl) (of_decide_eq_true (by kernel_rfl)) k1 bel lt1) trodAll_mk0)), rfl, bel.frame _, fun h => by cases h⟩
theorem closed : joinedFacts Try.pinned.checked.prog 7 Try.f7 Rows.fnMethodsSpec Rows.fnMethodsRow = true := by
 unfold joinedFacts
 rw [Facts.mayEnter, Facts.lifts, Facts.make]
 kernel_rfl
theorem over : Rows.fnMethodsRow.holds Try.pinned (OpenSpec.ofChange Rows.fnMethodsSpec) :=
 OpenClaim.holds_of_wide 7 Try.f7 rfl rfl rfl rfl rfl rfl rfl ⟨rfl, rfl, rfl, rfl, rfl⟩ rfl rfl rfl rfl rfl (by kernel_rfl) Try.func7 closed
  (of_decide_eq_true (by kernel_rfl)) (by unfold Func.isWrapper; first | (rw [if_pos (by decide +kernel)]; kernel_rfl) | (rw [if_neg (by decide +kernel)]; exact ⟨rfl, rfl⟩))
  (fun os started H enc _ => lifted os started H enc)
theorem proved : Rows.FnMethodsSaid := over
#print axioms proved
end Go.Proofs.Ytiaohjciddbpoaa.fnMethods
namespace Go.Proofs.Ytiaohjciddbpoaa
/-- The row, under a short name, for the claim. -/
theorem fnMethods_holds : Rows.FnMethodsSaid := fnMethods.proved
end Go.Proofs.Ytiaohjciddbpoaa
