/- Contracts by hand of library functions, in the engine's form. -/
import Derived.Test.YtiaohjciddbpoaaProg
import Derived.Test.YtiaohjciddbpoaaKFnMethodsOpg
import Derived.Test.YtiaohjciddbpoaaKFnMethodsWApart
import Derived.Test.YtiaohjciddbpoaaKFnMethodsWArr
import Derived.Test.YtiaohjciddbpoaaKFnMethodsWAt
import Derived.Test.YtiaohjciddbpoaaKFnMethodsWFoot
import Derived.Test.YtiaohjciddbpoaaKFnMethodsWFootNe
import Derived.Test.YtiaohjciddbpoaaKFnMethodsWFour
import Derived.Test.YtiaohjciddbpoaaKFnMethodsWKept
import Derived.Test.YtiaohjciddbpoaaKFnMethodsWLast
import Derived.Test.YtiaohjciddbpoaaKFnMethodsWMore
import Derived.Test.YtiaohjciddbpoaaKFnMethodsWN
import Derived.Test.YtiaohjciddbpoaaKFnMethodsWQPut
import Derived.Test.YtiaohjciddbpoaaKFnMethodsWShare
import Derived.Test.YtiaohjciddbpoaaKFnMethodsWTab
import Derived.Test.YtiaohjciddbpoaaKFnMethodsWWords
import Derived.Test.YtiaohjciddbpoaaKFnMethodsWZeros
import Derived.Below
import Derived.Deep.Draws
import Derived.OwnWalk
import Derived.Laws.BytesArg
import Derived.Laws.MakeOwn
import Derived.Laws.OwnMore
import Derived.Tactics
import Derived.Laws.Slices
import Derived.WalkKit
import Derived.KernelRfl
import Derived.RowKit3
import Derived.Deep.LoopGhost
import Derived.Deep.QuietTactic
import Derived.BigQuiet
import Derived.WideLaws
import Derived.Deep.DeepCutAuto
import Derived.Deep.CutBlock
import Derived.Deep.RegionHeld3
import Derived.Laws.Rows
import Derived.Laws.IdiomCopy
import Derived.OrdersHeld
import Derived.Laws.BitsLemmas
import Derived.RowKit
import Derived.OwnWalkIn
import Derived.TacticsInMore
import Derived.LoopNIn
import Derived.LoopIn
import Derived.Lib.BitFns
import Derived.Laws.CopyOwn
namespace Go.Proofs.Ytiaohjciddbpoaa.Hand
open Go.RowKit Go.Proofs.Ytiaohjciddbpoaa.Frame Go.Proofs.YtiaohjciddbpoaaW.PrintWords Go.Proofs.YtiaohjciddbpoaaW.PrintLast Go.Proofs.YtiaohjciddbpoaaW.PrintMore
attribute [local go_sem] max2_int min2_int max_two min_two max_three min_three max_four min_four
set_option linter.unusedVariables false
set_option linter.unusedSimpArgs false
/-- how many binary digits, of a number below 2^24 -/
def math_bits_Len64.f (a0 : Int) : Option Int := if 0 ≤ a0 ∧ a0 ≤ 16777215 then some (Lib.bitLen a0.toNat) else none
theorem len8tab_size : (Lib.len8tab.size : Int) = 256 := by
  have : Lib.len8tab.size = 256 := by decide +kernel
  omega
theorem len_add (k a b : Nat) (hk : k ≤ 56) (ha : a ≤ 8) (hb : b = k + a) : wrap64 ((k : Int) + wrap64 (a : Int)) = (b : Int) := by
  unfold wrap64
  omega
theorem len_one (a : Nat) (ha : a ≤ 8) : wrap64 (a : Int) = (a : Int) := by
  unfold wrap64
  omega
theorem len_two (a : Nat) (ha : a ≤ 8) : wrap64 (wrap64 (a : Int)) = (a : Int) := by
  unfold wrap64
  omega
theorem len8_get (y : Int) (h : y.toNat < Lib.len8tab.size) : ((Lib.len8tab[y.toNat]'h).toNat : Int) = Lib.len8 y := by
  unfold Lib.len8
  rw [getElem?_pos Lib.len8tab y.toNat h]
  rfl
set_option maxHeartbeats 4000000 in
set_option maxRecDepth 100000 in
theorem math_bits_Len64.old (a0 : Int) (r : Int) (w : World) (h : math_bits_Len64.f a0 = some r) :
    Calls Try.prog 130 #[.int .u64 a0] w fun e w' => e = .returned (.int .i64 r) ∧ Drawn0 w w' := by
  unfold math_bits_Len64.f at h
  by_cases hc : 0 ≤ a0 ∧ a0 ≤ 16777215
  · rw [if_pos hc] at h
    obtain rfl := Option.some.inj h
    clear h
    obtain ⟨h0, h1⟩ := hc
    have c1 : decide (4294967296 ≤ a0) = false := decide_eq_false (by omega)
    go_enter Try.func130, Try.ntmps130
    go_wp2
    all_goals first
      | (go_ret; refine ⟨congrArg Ending.returned (congrArg (Value.int IntKind.i64) ?_), ⟨0, rfl⟩⟩)
      | (exfalso
         have hs := len8tab_size
         omega)
    all_goals first
      | (simp only [len8_get (a0 / 65536) _]
         rw [Lib.len8_of (a0 / 65536) (by omega) (by omega)]
         have e : (a0 / 65536).toNat = a0.toNat / 65536 := by omega
         have l := Lib.bitLen_le8' (a0 / 65536) (by omega) (by omega)
         have s := Lib.bitLen_shift16 a0.toNat (by omega) (by omega)
         rw [e] at l ⊢
         exact len_add 16 _ _ (by decide) l s)
      | (simp only [len8_get (a0 / 256) _]
         rw [Lib.len8_of (a0 / 256) (by omega) (by omega)]
         have e : (a0 / 256).toNat = a0.toNat / 256 := by omega
         have l := Lib.bitLen_le8' (a0 / 256) (by omega) (by omega)
         have s := Lib.bitLen_shift8 a0.toNat (by omega) (by omega)
         rw [e] at l ⊢
         exact len_add 8 _ _ (by decide) l s)
      | (simp only [len8_get (a0) _]
         rw [Lib.len8_of (a0) (by omega) (by omega)]
         have l := Lib.bitLen_le8' (a0) (by omega) (by omega)
         first | exact len_two _ l | exact len_add 0 _ _ (by decide) l (by omega) | exact len_one _ l)
  · rw [if_neg hc] at h
    cases h

theorem math_bits_Len64.calls {w0 ws : World} {P0 : Nat → Prop} (a0 : Int) (Z : Below w0.heap.size w0 ws) (hF : Fr w0 ws P0 [] ws) (r_1 : Int) (h : math_bits_Len64.f a0 = some r_1) :
    Calls Try.prog 130 #[.int .u64 a0] ws (Post1 w0 ws P0 (fun (_ : Unit) => .int .i64 r_1) (fun (_ : Unit) => [])) :=
  (math_bits_Len64.old a0 r_1 ws h).mono (fun e w' ⟨he, hd⟩ => ⟨(), he, hF.drawn hd⟩)
/-- not reached: a uint has 64 bits -/
def math_bits_Len32.f (_a0 : Int) : Option Int := none
theorem math_bits_Len32.old (a0 : Int) (r : Int) (w : World) (h : math_bits_Len32.f a0 = some r) :
    Calls Try.prog 129 #[.int .u32 a0] w fun e w' => e = .returned (.int .i64 r) ∧ Drawn0 w w' := by
  cases h

theorem math_bits_Len32.calls {w0 ws : World} {P0 : Nat → Prop} (a0 : Int) (Z : Below w0.heap.size w0 ws) (hF : Fr w0 ws P0 [] ws) (r_1 : Int) (h : math_bits_Len32.f a0 = some r_1) :
    Calls Try.prog 129 #[.int .u32 a0] ws (Post1 w0 ws P0 (fun (_ : Unit) => .int .i64 r_1) (fun (_ : Unit) => [])) :=
  (math_bits_Len32.old a0 r_1 ws h).mono (fun e w' ⟨he, hd⟩ => ⟨(), he, hF.drawn hd⟩)
end Go.Proofs.Ytiaohjciddbpoaa.Hand
