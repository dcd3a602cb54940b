/- The engine: ranges over functions. -/
import Derived.Test.YtnnlfipcoahcnaaGreatDoorKFnTextsOfPlansOpg
import Derived.RangeFuncNested
import Derived.RangeFuncLeaves
set_option linter.unusedVariables false
set_option linter.unusedSimpArgs false
namespace Go.Proofs.YtnnlfipcoahcnaaGreatDoor.Frame
open Go.RowKit Go.Proofs.YtnnlfipcoahcnaaGreatDoorW.PrintWords Go.Proofs.YtnnlfipcoahcnaaGreatDoorW.PrintLast
section
variable {P : Program} {w0 ws w : World} {P0 : Nat → Prop} {L : List (Thing w0.heap.size)}
/-- What is one's own from here on: what was read stays to be read; what was told of others stays told. -/
theorem Fr.here {Ts : List (Thing w0.heap.size)} (h : Fr w0 ws P0 (Ts ++ L) w) (Z : Below w0.heap.size w0 ws) : ∃ P1 : Nat → Prop, Fr w0 w P1 Ts w ∧ (∀ p, Stable ws P0 p → Stable w P1 p) ∧ (∀ (j : Nat) (T : Thing w0.heap.size), L[j]? = some T → Own w P1 T) ∧ (∀ k, P1 k → ∃ cs q, w.heap[k]? = some (.cells cs q (0, 0))) ∧
    ∀ (Ts' : List (Thing w0.heap.size)) w', Fr w0 w P1 Ts' w' → Fr w0 ws P0 Ts' w' := by
  have hkb := h.keptB Z
  obtain ⟨hb, hk, Fs, h1, h2, h3⟩ := h
  have hR : ∀ (j : Nat) (T : Thing w0.heap.size), L[j]? = some T → (Ts ++ L)[Ts.length + j]? = some T := fun j T hj => by
    rw [List.getElem?_append_right (by omega), Nat.add_sub_cancel_left]; exact hj
  refine ⟨fun k => ∃ i, i < Ts.length ∧ Fs i k, ⟨hb, Kept.refl _ _, fun i => if i < Ts.length then Fs i else fun _ => False, ?_, ?_, ?_⟩, ?_, ?_, fun k ⟨i, _, hF⟩ => (h2 i k hF).2.1, ?_⟩
  · intro i T hi
    have hil : i < Ts.length := (List.getElem?_eq_some_iff.1 hi).1
    show T.P (if i < Ts.length then Fs i else fun _ => False) w
    rw [if_pos hil]
    exact h1 i T (by rw [List.getElem?_append_left hil]; exact hi)
  · intro i k hF
    by_cases hil : i < Ts.length
    · rw [if_pos hil] at hF
      exact ⟨(h2 i k hF).1, (h2 i k hF).2.1, .inl ⟨i, hil, hF⟩⟩
    · rw [if_neg hil] at hF
      exact hF.elim
  · intro i j k hne hF hF'
    by_cases hil : i < Ts.length
    · by_cases hjl : j < Ts.length
      · rw [if_pos hil] at hF
        rw [if_pos hjl] at hF'
        exact h3 i j k hne hF hF'
      · rw [if_neg hjl] at hF'
        exact hF'.elim
    · rw [if_neg hil] at hF
      exact hF.elim
  · intro p hp W hW
    exact hp W (hkb.trans hW (fun k ⟨i, _, hF⟩ => (h2 i k hF).2.2))
  · intro j T hj
    refine ⟨Fs (Ts.length + j), h1 _ T (hR j T hj), fun k hF => ⟨fun ⟨i, hi, hF'⟩ => h3 i (Ts.length + j) k (by omega) hF' hF, zav (h2 _ k hF).2.1⟩⟩
  · rintro Ts' w' ⟨hb', hk', Gs, g1, g2, g3⟩
    refine ⟨hb', hk.then_ hk' (fun k ⟨i, _, hF⟩ => (h2 i k hF).2.2), Gs, g1, fun m k hG => ⟨(g2 m k hG).1, (g2 m k hG).2.1, ?_⟩, g3⟩
    rcases (g2 m k hG).2.2 with ⟨i, _, hF⟩ | hw
    · exact (h2 i k hF).2.2
    · exact .inr (Nat.le_trans hk.1 hw)
/-- What a round keeps. -/
def KpS (w : World) (P1 : Nat → Prop) (W W' : World) : Prop := KeptB w W P1 → KeptB w W' P1
theorem KeptB.put {P1 : Nat → Prop} {W : World} (h : KeptB w W P1) {l : Nat} {o : Obj} (o' : Obj) (hl : w.heap.size ≤ l) (ho : W.heap[l]? = some o) : KeptB w (W.putObj l o') P1 := by
  have hg := grownBy_putObj' W l o'
  refine ⟨⟨Nat.le_trans h.kept.1 hg.size, fun i hi hp => ?_⟩, ?_, ?_, ?_⟩
  · rw [hg.block i (Nat.lt_of_lt_of_le hi h.kept.1) (fun e => by have := Option.some.inj e; omega)]
    exact h.kept.2 i hi hp
  · rw [hg.os]; exact h.os
  · rw [hg.tape]; exact h.tape
  · rw [hg.output]; exact h.output
end
section
variable {P : Program} {w0 w : World} {P1 : Nat → Prop} {nt : Nat} {e : Nat → Value} {g : Operand} {ps : Array Tmp} {assign body : Code} {Q : Post}
end
/-! ### a slice from its end on -/
/-- The numbers and elements of a list, from the last one on. -/
def bwL {α : Type} (zs : List α) : List (Int × α) := (zs.zipIdx.map fun p => ((p.2 : Int), p.1)).reverse
/-- What may be yielded. -/
abbrev BackT {α : Type} (zs : List α) : Type := { x : Int × α // ∃ j : Nat, x.1 = (j : Int) ∧ zs[j]? = some x.2 }
section
variable {P : Program} {N : Md} {e : Nat → Value} {w : World} {Q : Post} {ops : Array Oper} {rest : List Oper} {o : Oper} {d : Tmp} {v : Value}
end
/-! ### a function that holds a range over a function -/
section
variable {P : Program} {w0 ws ws' w : World} {P0 P1 : Nat → Prop} {L : List (Thing w0.heap.size)} {e : Nat → Value}
end
/-! append of a fresh row of zeros -/
section
variable {P : Program}
end
/-- a row with n zeros behind it -/
def apm (xs : List Int) (n : Int) : Option (List Int) := if 0 ≤ n ∧ (xs.length : Int) + n ≤ 1000000000 then some (xs ++ List.replicate n.toNat 0) else none
section
variable {P : Program} {N : Md} {w0 ws : World} {P0 : Nat → Prop} {L : List (Thing w0.heap.size)} {e : Nat → Value} {x y : Operand} {d : Tmp} {t ti ty : TypeId} {pos : String} {af : Array Edge} {g : Option (Nat × Bool)} {u : Nat}
end
/-! a byte of a text -/
def gts (s : ByteArray) (i : Int) : Option Int := if 0 ≤ i then (s.data[i.toNat]?).map (fun b => (b.toNat : Int)) else none
theorem q_idxs {P : Program} {N : Md} {S : World → Prop} {e : Nat → Value} {dst : Option Tmp} {ty : TypeId} {pos : String} {af : Array Edge} {g : Option (Nat × Bool)} {x y : Operand} {t : TypeId} {s : ByteArray} {i r : Int} (ht : P.underlying t = some .string) (hx : ev N e x = .string s) (hy : ∃ k, ev N e y = .int k i) (hg : gts s i = some r) : Qt P N e S ⟨dst, .index t x y, ty, pos, af, g⟩ (.int .u8 r) := fun w _ => by
  obtain ⟨k, hy⟩ := hy
  unfold gts at hg
  split at hg
  · rename_i h0
    obtain ⟨b, hb, rfl⟩ := Option.map_eq_some_iff.1 hg
    obtain ⟨hl, rfl⟩ := Array.getElem?_eq_some_iff.1 hb
    have hi : 0 ≤ i ∧ i < (s.size : Int) := ⟨h0, by have : i.toNat < s.size := hl; omega⟩
    have h := run_index_string (P := P) (w := w) t s k i ht
    rw [dif_pos hi] at h
    simp [execOp, hx, hy, h]
    rfl
  · cases hg
end Go.Proofs.YtnnlfipcoahcnaaGreatDoor.Frame
