/- The engine: texts cut, bytes made a text. -/
import Derived.Test.YtnnlfipcoahcnaaDoorKFnExactParsePlanOpr
import Derived.Test.YtnnlfipcoahcnaaDoorKFnExactParsePlanWFour
import Derived.Laws.BytesArg
import Derived.Laws.Strings2
import Derived.Laws.Slices
set_option linter.unusedVariables false
set_option linter.unusedSimpArgs false
namespace Go.Proofs.YtnnlfipcoahcnaaDoor.Frame
open Go.RowKit Go.Proofs.YtnnlfipcoahcnaaDoorW.PrintWords Go.Proofs.YtnnlfipcoahcnaaDoorW.PrintLast
section
variable {P : Program} {N : Md} {S : World → Prop} {e : Nat → Value} {dst : Option Tmp} {ty : TypeId} {pos : String} {af : Array Edge} {g : Option (Nat × Bool)} {x y : Operand} {t : TypeId}
/-- a text cut -/
def cts (s : ByteArray) (l h : Int) : Option ByteArray := if 0 ≤ l ∧ l ≤ h ∧ h ≤ (s.size : Int) then some (s.extract l.toNat h.toNat) else none
theorem q_cts {s z : ByteArray} {lo hi : Option Operand} {l h : Int} (ht : P.underlying t = some .string) (hx : ev N e x = .string s) (hl : (match lo with | some o => ∃ k, ev N e o = .int k l | none => l = 0)) (hh : (match hi with | some o => ∃ k, ev N e o = .int k h | none => h = (s.size : Int))) (hc : cts s l h = some z) : Qt P N e S ⟨dst, .slice t x lo hi none, ty, pos, af, g⟩ (.string z) := fun w _ => by
  unfold cts at hc
  split at hc
  · rename_i h0
    obtain rfl := Option.some.inj hc
    cases lo with
    | none =>
      subst hl
      cases hi with
      | none =>
        subst hh
        have h1 := run_slice_string_all (P := P) w t s ht
        simp [execOp, hx, run_sliceAt_string (P := P) _ _ _ _ _ _ ht, h1]
      | some oh =>
        obtain ⟨kh, hh⟩ := hh
        have h1 := run_slice_string_h (P := P) w t s ht kh h (by omega) h0.2.2
        simp [execOp, hx, hh, run_sliceAt_string (P := P) _ _ _ _ _ _ ht, h1]
    | some ol =>
      obtain ⟨kl, hl⟩ := hl
      cases hi with
      | none =>
        subst hh
        have h1 := run_slice_string_l (P := P) w t s ht kl l h0.1 h0.2.1
        simp [execOp, hx, hl, run_sliceAt_string (P := P) _ _ _ _ _ _ ht, h1]
      | some oh =>
        obtain ⟨kh, hh⟩ := hh
        have h1 := run_slice_string (P := P) w t s kl kh l h ht h0.1 h0.2.1 h0.2.2
        simp [execOp, hx, hl, hh, run_sliceAt_string (P := P) _ _ _ _ _ _ ht, h1]
  · cases hc
end
section
variable {P : Program} {N : Md} {w0 ws : World} {P0 : Nat → Prop} {ops : Array Oper} {LS L : List (Thing w0.heap.size)} {ds : List Nat} {fuel : Nat} {l : Array Bool} {Q : Post} {e : Nat → Value}
end
/-! ### a range over slices.Backward, its state told with letters -/
def okB {β σ : Type} (f : β → σ → Option σ) (xs : List β) : Nat → σ → Bool
  | 0, _ => true
  | n + 1, s => xs.all fun x => match f x s with
    | none => false
    | some s' => okB f xs n s'
def stB {β σ : Type} (f : β → σ → Option σ) (s : σ) (x : β) : σ := (f x s).getD s
/-- What a range backward hands on: every round that might come must be right. -/
def rngB {α σ : Type} (zs : List α) (f : Int × α → σ → Option σ) (s0 : σ) : Option σ := if okB f (bwL zs) zs.length s0 = true then some ((bwL zs).foldl (stB f) s0) else none
section
variable {P : Program} {w0 w : World} {P1 : Nat → Prop} {nt : Nat} {e : Nat → Value} {g : Operand} {ps : Array Tmp} {assign body : Code} {Q : Post}
end
section
variable {P : Program} {w0 ws w : World} {P0 : Nat → Prop} {L L' : List (Thing w0.heap.size)} {e : Nat → Value}
end
end Go.Proofs.YtnnlfipcoahcnaaDoor.Frame
