/- The engine: texts cut, bytes made a text. -/
import Derived.Test.YtnnlfipcoahcnaaGreatDoorKFnRenamedRegistersOpr
import Derived.Test.YtnnlfipcoahcnaaGreatDoorKFnRenamedRegistersWFour
import Derived.Laws.BytesArg
import Derived.Laws.Strings2
import Derived.Laws.Slices
set_option linter.unusedVariables false
set_option linter.unusedSimpArgs false
namespace Go.Proofs.YtnnlfipcoahcnaaGreatDoor.Frame
open Go.RowKit Go.Proofs.YtnnlfipcoahcnaaGreatDoorW.PrintWords Go.Proofs.YtnnlfipcoahcnaaGreatDoorW.PrintLast
section
variable {P : Program} {N : Md} {S : World → Prop} {e : Nat → Value} {dst : Option Tmp} {ty : TypeId} {pos : String} {af : Array Edge} {g : Option (Nat × Bool)} {x y : Operand} {t : TypeId}
/-- a text cut -/
def cts (s : ByteArray) (l h : Int) : Option ByteArray := if 0 ≤ l ∧ l ≤ h ∧ h ≤ (s.size : Int) then some (s.extract l.toNat h.toNat) else none
theorem q_cts {s z : ByteArray} {lo hi : Option Operand} {l h : Int} (ht : P.underlying t = some .string) (hx : ev N e x = .string s) (hl : (match lo with | some o => ∃ k, ev N e o = .int k l | none => l = 0)) (hh : (match hi with | some o => ∃ k, ev N e o = .int k h | none => h = (s.size : Int))) (hc : cts s l h = some z) : Qt P N e S ⟨dst, .slice t x lo hi none, ty, pos, af, g⟩ (.string z) := fun w _ => by
 unfold cts at hc
 split at hc
 ·rename_i h0
  obtain rfl := Option.some.inj hc
  cases lo with
  | none =>
   subst hl
   cases hi with
   | none =>
    subst hh
    have h1 := run_slice_string_all (P := P) w t s ht
    simp [execOp, hx, run_sliceAt_string (P := P) _ _ _ _ _ _ ht, h1]
   | some oh =>
    obtain ⟨kh, hh⟩ := hh
    have h1 := run_slice_string_h (P := P) w t s ht kh h (by omega) h0.2.2
    simp [execOp, hx, hh, run_sliceAt_string (P := P) _ _ _ _ _ _ ht, h1]
  | some ol =>
   obtain ⟨kl, hl⟩ := hl
   cases hi with
   | none =>
    subst hh
    have h1 := run_slice_string_l (P := P) w t s ht kl l h0.1 h0.2.1
    simp [execOp, hx, hl, run_sliceAt_string (P := P) _ _ _ _ _ _ ht, h1]
   | some oh =>
    obtain ⟨kh, hh⟩ := hh
    have h1 := run_slice_string (P := P) w t s kl kh l h ht h0.1 h0.2.1 h0.2.2
    simp [execOp, hx, hl, hh, run_sliceAt_string (P := P) _ _ _ _ _ _ ht, h1]
 ·cases hc
theorem C_u8 {w : World} {A : Option Addr} {n : Nat} {xs : List Int} {b : Addr} (h : (Kd.int .u8).C w A n xs) (hA : A = some b) : ∀ q v, (xs.map (Value.int .u8))[q]? = some v → w.cell? (b.add q) = some v := fun q v hq => by
 obtain ⟨c1, c2, c3⟩ := h
 have hl := (List.getElem?_eq_some_iff.1 hq).1
 rw [List.length_map] at hl
 obtain ⟨ad, he, hh⟩ := c3 (by omega)
 rw [hA] at he
 cases he
 rw [List.getElem?_map] at hq
 obtain ⟨p, hp, rfl⟩ := Option.map_eq_some_iff.1 hq
 obtain ⟨cs, k1, k2, k3⟩ := hh _ _ hp
 have k2' : cs = [Value.int .u8 p] := k2
 subst k2'
 have := k3 0 _ rfl
 have h1 : (Kd.int .u8).sz = 1 := rfl
 rw [h1, Nat.mul_one, Nat.add_zero] at this
 exact this
/-- bytes as a text -/
theorem q_bstr {src u : TypeId} {A : Option Addr} {a c : Nat} {xs : List Int} (hs : P.underlying src = some (.slice u)) (he : P.underlying u = some (.int .u8)) (hd : P.underlying t = some .string) (hx : ev N e x = .slice A a c) (hC : ∀ w, S w → (Kd.int .u8).C w A a xs) (hA : 0 < xs.length) : Qt P N e S ⟨dst, .convert src t x, ty, pos, af, g⟩ (.string (strOfNums xs)) := fun w hS => by
 have hc := hC w hS
 obtain ⟨b, rfl, _⟩ := hc.2.2 (by have h2 : xs.length = a := hc.1; omega)
 have hl : (loadCells b a).run P w = .ok (xs.map (Value.int .u8)).toArray w := by
  have h1 := run_loadCells_list (P := P) w b (xs.map (Value.int .u8)) (C_u8 hc rfl)
  have h2 : xs.length = a := hc.1
  simpa [h2] using h1
 have h := run_convert_bytes_string (P := P) w src t u (some b) a c hs he hd
 rw [run_bytesToString w b a c xs hl, foldl_push_bytes] at h
 simp only [execOp, hx, Sem.run_bind, h]
 simp [Result.andThen, strOfNums, ByteArray.empty, ByteArray.emptyWithCapacity]
 rfl
end
section
variable {P : Program} {N : Md} {w0 ws : World} {P0 : Nat → Prop} {ops : Array Oper} {LS L : List (Thing w0.heap.size)} {ds : List Nat} {fuel : Nat} {l : Array Bool} {Q : Post} {e : Nat → Value}
end
/-! ### a range over slices.Backward, its state told with letters -/
def okB {β σ : Type} (f : β → σ → Option σ) (xs : List β) : Nat → σ → Bool
 | 0, _ => true
 | n + 1, s => xs.all fun x => match f x s with
  | none => false
  | some s' => okB f xs n s'
def stB {β σ : Type} (f : β → σ → Option σ) (s : σ) (x : β) : σ := (f x s).getD s
/-- What a range backward hands on: every round that might come must be right. -/
def rngB {α σ : Type} (zs : List α) (f : Int × α → σ → Option σ) (s0 : σ) : Option σ := if okB f (bwL zs) zs.length s0 = true then some ((bwL zs).foldl (stB f) s0) else none
section
variable {P : Program} {w0 w : World} {P1 : Nat → Prop} {nt : Nat} {e : Nat → Value} {g : Operand} {ps : Array Tmp} {assign body : Code} {Q : Post}
end
section
variable {P : Program} {w0 ws w : World} {P0 : Nat → Prop} {L L' : List (Thing w0.heap.size)} {e : Nat → Value}
end
end Go.Proofs.YtnnlfipcoahcnaaGreatDoor.Frame
