-- Written by a program of this session (wip/tools/stubprint.py): contracts by hand where the kit's print has none.
import Derived.Test.YtpdpomjgfmdjfaaProg
import Derived.Below
import Derived.Deep.Draws
import Derived.Deep.AppendLies
import Derived.Maps.AppendAt
import Derived.OwnWalk
import Derived.Laws.BytesArg
import Derived.Laws.MakeOwn
import Derived.Laws.OwnMore
import Derived.Deep.OwnRows
import Derived.Tactics
import Derived.Lib.ConvBytes
import Derived.Laws.Slices
import Derived.WalkKit
import Derived.KernelRfl
import Derived.RowKit3
import Derived.Deep.LoopGhost
import Derived.Deep.QuietTactic
import Derived.BigQuiet
import Derived.WideLaws
import Derived.Deep.DeepCutAuto
import Derived.Deep.CutBlock
import Derived.Deep.RegionHeld3
import Derived.Laws.Rows
import Derived.Lib.AppendStr
import Derived.ArgAppend
import Derived.Laws.IdiomCopy
import Derived.OrdersHeld
import Derived.Laws.BitsLemmas
import Derived.RowKit
import Derived.RangeFuncNested
import Derived.RangeFuncBound
import Derived.RangeFuncCalls
import Derived.RangeFuncLeaves
import Derived.RangeFuncFrom
import Derived.RangeFuncBox
import Derived.RangeFuncOwn
import Derived.Shelf.Abstract
import Derived.OwnWalkIn
import Derived.TacticsInMore
import Derived.LoopNIn
import Derived.LoopIn
import Derived.Lib.BitFns
import Derived.Laws.CopyOwn
import Derived.WalkSpells
import Derived.Test.YtpdpomjgfmdjfaaKFnExactCheckRegCodeWWords
import Derived.Test.YtpdpomjgfmdjfaaKFnExactCheckRegCodeWLast
import Derived.Test.YtpdpomjgfmdjfaaKFnExactCheckRegCodeWTab
import Derived.Test.YtpdpomjgfmdjfaaKFnExactCheckRegCodeWFour
import Derived.Test.YtpdpomjgfmdjfaaKFnExactCheckRegCodeWQPut
import Derived.Test.YtpdpomjgfmdjfaaKFnExactCheckRegCodeWApart
import Derived.Test.YtpdpomjgfmdjfaaKFnExactCheckRegCodeWArr
import Derived.Test.YtpdpomjgfmdjfaaKFnExactCheckRegCodeWZeros
import Derived.Test.YtpdpomjgfmdjfaaKFnExactCheckRegCodeWFoot
import Derived.Test.YtpdpomjgfmdjfaaKFnExactCheckRegCodeWKept
import Derived.Test.YtpdpomjgfmdjfaaKFnExactCheckRegCodeWShare
import Derived.Test.YtpdpomjgfmdjfaaKFnExactCheckRegCodeWN
import Derived.Test.YtpdpomjgfmdjfaaKFnExactCheckRegCodeWFootNe
import Derived.Test.YtpdpomjgfmdjfaaKFnExactCheckRegCodeWAt
import Derived.Test.YtpdpomjgfmdjfaaKFnExactCheckRegCodeWEqStruct
import Derived.Test.YtpdpomjgfmdjfaaKFnExactCheckRegCodeWRepsOne
import Derived.Test.YtpdpomjgfmdjfaaKFnExactCheckRegCodeWInv
import Derived.Test.YtpdpomjgfmdjfaaKFnExactCheckRegCodeWInvWords
import Derived.Test.YtpdpomjgfmdjfaaKFnExactCheckRegCodeWGuard
import Derived.Test.YtpdpomjgfmdjfaaKFnExactCheckRegCodeWNEv
import Derived.Test.YtpdpomjgfmdjfaaKFnExactCheckRegCodeWMore
namespace Go.Proofs.Ytpdpomjgfmdjfaa.Z
open Go.RowKit Go.Proofs.YtpdpomjgfmdjfaaW.PrintWords Go.Proofs.YtpdpomjgfmdjfaaW.PrintLast Go.Proofs.YtpdpomjgfmdjfaaW.PrintMore
attribute [local go_sem] max2_int min2_int max_two min_two max_three min_three max_four min_four   -- for this text's walks alone
set_option linter.unusedVariables false
set_option linter.unusedSimpArgs false



def errW : Option Int → Value
 | none => .nilIface
 | some c => .iface 0 (.int .i64 c)
theorem zab : errW none = .nilIface := rfl
theorem zaa (c : Int) : errW (some c) = .iface 0 (.int .i64 c) := rfl

theorem info3 : (Try.prog.info? 3).map (fun i => (i.zero, i.size, i.bytes)) = some (some (.int .i64 0), 1, 8) := by kernel_rfl
theorem info22 : (Try.prog.info? 22).map (fun i => (i.zero, i.size, i.bytes)) = some (some (.slice none 0 0), 1, 24) := by kernel_rfl
theorem info80 : (Try.prog.info? 80).map (fun i => (i.zero, i.size, i.bytes)) = some (some (.agg #[(.int .i64 0), (.int .i64 0), (.int .i64 0)]), 3, 24) := by kernel_rfl
theorem info117 : (Try.prog.info? 117).map (fun i => (i.zero, i.size, i.bytes)) = some (some (.agg #[(.int .i64 0), (.int .i64 0)]), 2, 16) := by kernel_rfl
-- the values' own types
/-! #### struct type 126 -/
structure S126 where
 f0 : Int
 f1 : Int
 f2 : Int
def z126 : S126 := ⟨(0 : Int), (0 : Int), (0 : Int)⟩
def k126 : Kd S126 := Kd.iso (Kd.pair (Kd.int .i64) (Kd.pair (Kd.int .i64) (Kd.int .i64))) (fun x : S126 => (x.f0, x.f1, x.f2))
theorem k126_open {w : World} {x : S126} {cs : List Value} (h : k126.K w x cs) : cs = [.int .i64 x.f0, .int .i64 x.f1, .int .i64 x.f2] := by
 obtain ⟨_, _, rfl, rfl, ⟨_, _, rfl, rfl, rfl⟩⟩ := h
 exact rfl
theorem k126_mk (w : World) (x : S126)  : k126.K w x [.int .i64 x.f0, .int .i64 x.f1, .int .i64 x.f2] := ⟨[.int .i64 x.f0], [.int .i64 x.f1, .int .i64 x.f2], rfl, rfl, ⟨[.int .i64 x.f1], [.int .i64 x.f2], rfl, rfl, rfl⟩⟩
def rd_T126 (xs : List S126) (i : Int) : S126 := xs.getD i.toNat z126
theorem at_T126 {w : World} {A : Option Addr} {n : Nat} {xs : List S126} (h : Kd.C k126 w A n xs) (i : Int) (h0 : 0 ≤ i) (h1 : i < n) : ∃ ad , A = some ad ∧ w.cell? (ad.add (i.toNat * 3)) = some (.int .i64 (rd_T126 xs i).f0) ∧ w.cell? ⟨(ad.add (i.toNat * 3)).block, (ad.add (i.toNat * 3)).off + 1, none⟩ = some (.int .i64 (rd_T126 xs i).f1) ∧ w.cell? ⟨(ad.add (i.toNat * 3)).block, (ad.add (i.toNat * 3)).off + 2, none⟩ = some (.int .i64 (rd_T126 xs i).f2) := by
 obtain ⟨ad, c, e, _, hK, hc0⟩ := Kd.C_get h z126 i h0 h1
 have hc : ∀ j u, c[j]? = some u → w.cell? (ad.add (i.toNat * 3 + j)) = some u := hc0
 obtain rfl := k126_open hK
 exact ⟨ad, e, hc 0 _ rfl, by rw [← add_field _ _ 1 (by omega)]; exact hc 1 _ rfl, by rw [← add_field _ _ 2 (by omega)]; exact hc 2 _ rfl⟩

/-! #### struct type 117 -/
structure S117 where
 f0 : Int
 f1 : Int
def z117 : S117 := ⟨(0 : Int), (0 : Int)⟩
def k117 : Kd S117 := Kd.iso (Kd.pair (Kd.int .i64) (Kd.int .i64)) (fun x : S117 => (x.f0, x.f1))
theorem k117_open {w : World} {x : S117} {cs : List Value} (h : k117.K w x cs) : cs = [.int .i64 x.f0, .int .i64 x.f1] := by
 obtain ⟨_, _, rfl, rfl, rfl⟩ := h
 exact rfl
theorem k117_openM {w : World} {base : Nat} {ok : Nat → Prop} {x : S117} {cs : List Value} (h : k117.M w base ok x cs) : cs = [.int .i64 x.f0, .int .i64 x.f1] := by
 obtain ⟨_, _, rfl, rfl, rfl⟩ := h
 exact rfl
theorem k117_mkM (w : World) (base : Nat) (ok : Nat → Prop) (x : S117)  : k117.M w base ok x [.int .i64 x.f0, .int .i64 x.f1] := ⟨[.int .i64 x.f0], [.int .i64 x.f1], rfl, rfl, rfl⟩
def za9 (xs : List S117) (i : Int) : S117 := xs.getD i.toNat z117
theorem at_T117 {w : World} {A : Option Addr} {n : Nat} {xs : List S117} (h : Kd.C k117 w A n xs) (i : Int) (h0 : 0 ≤ i) (h1 : i < n) : ∃ ad , A = some ad ∧ w.cell? (ad.add (i.toNat * 2)) = some (.int .i64 (za9 xs i).f0) ∧ w.cell? ⟨(ad.add (i.toNat * 2)).block, (ad.add (i.toNat * 2)).off + 1, none⟩ = some (.int .i64 (za9 xs i).f1) := by
 obtain ⟨ad, c, e, _, hK, hc0⟩ := Kd.C_get h z117 i h0 h1
 have hc : ∀ j u, c[j]? = some u → w.cell? (ad.add (i.toNat * 2 + j)) = some u := hc0
 obtain rfl := k117_open hK
 exact ⟨ad, e, hc 0 _ rfl, by rw [← add_field _ _ 1 (by omega)]; exact hc 1 _ rfl⟩

def rd_L3 (xs : List (List Int)) (i : Int) : (List Int) := xs.getD i.toNat ([] : List Int)
theorem at_L3 {w : World} {A : Option Addr} {n : Nat} {xs : List (List Int)} (h : Kd.C (Kd.slice 3 (Kd.int .i64)) w A n xs) (i : Int) (h0 : 0 ≤ i) (h1 : i < n) : ∃ ad A0 c0, A = some ad ∧ w.cell? (ad.add i.toNat) = some (.slice A0 (rd_L3 xs i).length c0) ∧ (rd_L3 xs i).length ≤ c0 ∧ (Kd.int .i64).C w A0 (rd_L3 xs i).length (rd_L3 xs i) := by
 obtain ⟨ad, c, e, _, hK, hc0⟩ := Kd.C_get h ([] : List Int) i h0 h1
 have hc : ∀ j u, c[j]? = some u → w.cell? (ad.add (i.toNat * 1 + j)) = some u := hc0
 obtain ⟨A0, c0, rfl, l0, g0⟩ := hK
 exact ⟨ad, A0, c0, e, by have hq := hc 0 _ rfl; rwa [Nat.mul_one, Nat.add_zero] at hq, l0, g0⟩

/-! #### struct type 80 -/
structure S80 where
 f0 : Int
 f1 : Int
 f2 : Int
def z80 : S80 := ⟨(0 : Int), (0 : Int), (0 : Int)⟩
def k80 : Kd S80 := Kd.iso (Kd.pair (Kd.int .i64) (Kd.pair (Kd.int .i64) (Kd.int .i64))) (fun x : S80 => (x.f0, x.f1, x.f2))
theorem k80_open {w : World} {x : S80} {cs : List Value} (h : k80.K w x cs) : cs = [.int .i64 x.f0, .int .i64 x.f1, .int .i64 x.f2] := by
 obtain ⟨_, _, rfl, rfl, ⟨_, _, rfl, rfl, rfl⟩⟩ := h
 exact rfl
theorem k80_openM {w : World} {base : Nat} {ok : Nat → Prop} {x : S80} {cs : List Value} (h : k80.M w base ok x cs) : cs = [.int .i64 x.f0, .int .i64 x.f1, .int .i64 x.f2] := by
 obtain ⟨_, _, rfl, rfl, ⟨_, _, rfl, rfl, rfl⟩⟩ := h
 exact rfl
theorem k80_mkM (w : World) (base : Nat) (ok : Nat → Prop) (x : S80)  : k80.M w base ok x [.int .i64 x.f0, .int .i64 x.f1, .int .i64 x.f2] := ⟨[.int .i64 x.f0], [.int .i64 x.f1, .int .i64 x.f2], rfl, rfl, ⟨[.int .i64 x.f1], [.int .i64 x.f2], rfl, rfl, rfl⟩⟩
def zae (xs : List S80) (i : Int) : S80 := xs.getD i.toNat z80
theorem at_T80 {w : World} {A : Option Addr} {n : Nat} {xs : List S80} (h : Kd.C k80 w A n xs) (i : Int) (h0 : 0 ≤ i) (h1 : i < n) : ∃ ad , A = some ad ∧ w.cell? (ad.add (i.toNat * 3)) = some (.int .i64 (zae xs i).f0) ∧ w.cell? ⟨(ad.add (i.toNat * 3)).block, (ad.add (i.toNat * 3)).off + 1, none⟩ = some (.int .i64 (zae xs i).f1) ∧ w.cell? ⟨(ad.add (i.toNat * 3)).block, (ad.add (i.toNat * 3)).off + 2, none⟩ = some (.int .i64 (zae xs i).f2) := by
 obtain ⟨ad, c, e, _, hK, hc0⟩ := Kd.C_get h z80 i h0 h1
 have hc : ∀ j u, c[j]? = some u → w.cell? (ad.add (i.toNat * 3 + j)) = some u := hc0
 obtain rfl := k80_open hK
 exact ⟨ad, e, hc 0 _ rfl, by rw [← add_field _ _ 1 (by omega)]; exact hc 1 _ rfl, by rw [← add_field _ _ 2 (by omega)]; exact hc 2 _ rfl⟩

def rd_L5 (xs : List (List S117)) (i : Int) : (List S117) := xs.getD i.toNat ([] : List S117)
/-! #### struct type 36 -/
structure S36 where
 f0 : Int
 f1 : (List S117)
 f2 : (List Int)
def z36 : S36 := ⟨(0 : Int), ([] : List S117), ([] : List Int)⟩
def k36 : Kd S36 := Kd.iso (Kd.pair (Kd.int .i64) (Kd.pair (Kd.slice 117 k117) (Kd.slice 3 (Kd.int .i64)))) (fun x : S36 => (x.f0, x.f1, x.f2))
def rd_T36 (xs : List S36) (i : Int) : S36 := xs.getD i.toNat z36
def rd_L7 (xs : List (List S126)) (i : Int) : (List S126) := xs.getD i.toNat ([] : List S126)
/-! #### struct type 25 -/
structure S25 where
 f0 : Int
 f1 : (List Int)
 f2 : (List S126)
 f3 : (List Int)
def z25 : S25 := ⟨(0 : Int), ([] : List Int), ([] : List S126), ([] : List Int)⟩
def k25 : Kd S25 := Kd.iso (Kd.pair (Kd.int .i64) (Kd.pair (Kd.slice 3 (Kd.int .i64)) (Kd.pair (Kd.slice 126 k126) (Kd.slice 3 (Kd.int .i64))))) (fun x : S25 => (x.f0, x.f1, x.f2, x.f3))
def rd_T25 (xs : List S25) (i : Int) : S25 := xs.getD i.toNat z25
/-! #### struct type 137 -/
structure S137 where
 f0 : Int
 f1 : Int
def z137 : S137 := ⟨(0 : Int), (0 : Int)⟩
def k137 : Kd S137 := Kd.iso (Kd.pair (Kd.int .i64) (Kd.int .i64)) (fun x : S137 => (x.f0, x.f1))
theorem k137_open {w : World} {x : S137} {cs : List Value} (h : k137.K w x cs) : cs = [.int .i64 x.f0, .int .i64 x.f1] := by
 obtain ⟨_, _, rfl, rfl, rfl⟩ := h
 exact rfl
theorem k137_mk (w : World) (x : S137)  : k137.K w x [.int .i64 x.f0, .int .i64 x.f1] := ⟨[.int .i64 x.f0], [.int .i64 x.f1], rfl, rfl, rfl⟩
def rd_T137 (xs : List S137) (i : Int) : S137 := xs.getD i.toNat z137
theorem at_T137 {w : World} {A : Option Addr} {n : Nat} {xs : List S137} (h : Kd.C k137 w A n xs) (i : Int) (h0 : 0 ≤ i) (h1 : i < n) : ∃ ad , A = some ad ∧ w.cell? (ad.add (i.toNat * 2)) = some (.int .i64 (rd_T137 xs i).f0) ∧ w.cell? ⟨(ad.add (i.toNat * 2)).block, (ad.add (i.toNat * 2)).off + 1, none⟩ = some (.int .i64 (rd_T137 xs i).f1) := by
 obtain ⟨ad, c, e, _, hK, hc0⟩ := Kd.C_get h z137 i h0 h1
 have hc : ∀ j u, c[j]? = some u → w.cell? (ad.add (i.toNat * 2 + j)) = some u := hc0
 obtain rfl := k137_open hK
 exact ⟨ad, e, hc 0 _ rfl, by rw [← add_field _ _ 1 (by omega)]; exact hc 1 _ rfl⟩

def rd_L10 (xs : List (List S80)) (i : Int) : (List S80) := xs.getD i.toNat ([] : List S80)
/-! #### struct type 30 -/
structure S30 where
 f0 : Int
 f1 : (List Int)
 f2 : (List S80)
 f3 : (List Int)
def z30 : S30 := ⟨(0 : Int), ([] : List Int), ([] : List S80), ([] : List Int)⟩
def k30 : Kd S30 := Kd.iso (Kd.pair (Kd.int .i64) (Kd.pair (Kd.slice 3 (Kd.int .i64)) (Kd.pair (Kd.slice 80 k80) (Kd.slice 3 (Kd.int .i64))))) (fun x : S30 => (x.f0, x.f1, x.f2, x.f3))
def rd_T30 (xs : List S30) (i : Int) : S30 := xs.getD i.toNat z30
def rd_L12 (xs : List (List S137)) (i : Int) : (List S137) := xs.getD i.toNat ([] : List S137)
/-! #### struct type 50 -/
structure S50 where
 f0 : Int
 f1 : (List S137)
 f2 : (List Int)
def z50 : S50 := ⟨(0 : Int), ([] : List S137), ([] : List Int)⟩
def k50 : Kd S50 := Kd.iso (Kd.pair (Kd.int .i64) (Kd.pair (Kd.slice 137 k137) (Kd.slice 3 (Kd.int .i64)))) (fun x : S50 => (x.f0, x.f1, x.f2))
def rd_T50 (xs : List S50) (i : Int) : S50 := xs.getD i.toNat z50
-- what several contracts by hand use

/-- A thing in memory: what is told of it, F being the blocks that are its own. -/
structure Thing (base : Nat) where
 P : (Nat → Prop) → World → Prop
 mono : ∀ {F F' : Nat → Prop} {w : World}, P F w → (∀ k, F k → F' k) → P F' w
 bound : ∀ {F : Nat → Prop} {w : World}, P F w → P (fun k => F k ∧ base ≤ k ∧ ∃ cs q, w.heap[k]? = some (.cells cs q (0, 0))) w
 move : ∀ {F : Nat → Prop} {w w1 : World}, P F w → (∀ k, F k → w1.heap[k]? = w.heap[k]?) → P F w1

section
variable {base : Nat}
def row {α : Type} (d : Kd α) (e : Nat) (v : Value) (xs : List α) : Thing base where
 P F w := d.R e w base F v xs
 mono h hok := Kd.zar h hok
 bound h := Kd.zar (Kd.R_bound h) (fun k ⟨h1, h2, _, q, _, cs, hc⟩ => ⟨h1, h2, cs, q, hc⟩)
 move h hm := Kd.R_move h hm
def box (g t : Nat) (cs : Array Value) : Thing base where
 P F w := F g ∧ base ≤ g ∧ w.heap[g]? = some (.cells cs t (0, 0))
 mono h hok := ⟨hok _ h.1, h.2⟩
 bound h := ⟨⟨h.1, h.2.1, _, _, h.2.2⟩, h.2⟩
 move h hm := ⟨h.1, h.2.1, (hm _ h.1).trans h.2.2⟩
/-- A box that holds a row of its own. -/
def obj {α : Type} (g t : Nat) (f : Value → Array Value) (d : Kd α) (e : Nat) (xs : List α) : Thing base where
 P F w := ∃ v, F g ∧ base ≤ g ∧ w.heap[g]? = some (.cells (f v) t (0, 0)) ∧ d.R e w base (fun k => F k ∧ k ≠ g) v xs
 mono := fun ⟨v, h1, h2, h3, h4⟩ hok => ⟨v, hok _ h1, h2, h3, Kd.zar h4 (fun k hk => ⟨hok k hk.1, hk.2⟩)⟩
 bound := fun ⟨v, h1, h2, h3, h4⟩ => ⟨v, ⟨h1, h2, _, _, h3⟩, h2, h3, Kd.zar (Kd.R_bound h4) (fun k ⟨hF, hb, _, q, _, cs, hc⟩ => ⟨⟨hF.1, hb, cs, q, hc⟩, hF.2⟩)⟩
 move := fun ⟨v, h1, h2, h3, h4⟩ hm => ⟨v, h1, h2, (hm _ h1).trans h3, Kd.R_move h4 (fun k hk => hm k hk.1)⟩
def gone : Thing base where
 P _ _ := True
 mono h _ := h
 bound h := h
 move h _ := h
end

structure Fr (w0 ws : World) (P0 : Nat → Prop) (L : List (Thing w0.heap.size)) (w : World) : Prop where
 bel : Below w0.heap.size w0 w
 kept : Kept ws w P0
 sep : ∃ Fs : Nat → Nat → Prop, (∀ (i : Nat) (T : Thing w0.heap.size), L[i]? = some T → T.P (Fs i) w) ∧ (∀ i k, Fs i k → w0.heap.size ≤ k ∧ (∃ cs q, w.heap[k]? = some (.cells cs q (0, 0))) ∧ (P0 k ∨ ws.heap.size ≤ k)) ∧ ∀ i j k, i ≠ j → Fs i k → ¬ Fs j k

theorem lt_of_cells {w : World} {k : Nat} (h : ∃ cs q, w.heap[k]? = some (.cells cs q (0, 0))) : k < w.heap.size := by
 obtain ⟨_, _, h⟩ := h
 exact zan h
theorem cells_same {w w' : World} {k : Nat} (h : ∃ cs q, w.heap[k]? = some (.cells cs q (0, 0))) (he : w'.heap[k]? = w.heap[k]?) : ∃ cs q, w'.heap[k]? = some (.cells cs q (0, 0)) := by
 obtain ⟨cs, q, h⟩ := h
 exact ⟨cs, q, he.trans h⟩
theorem below_of_grown {w w1 : World} (hg : w.grownBy w1 none) : Below w.heap.size w w1 := ⟨hg.os, hg.tape, hg.output, hg.size, fun k hk => hg.block k hk (by simp)⟩
theorem below_base {B : Nat} {w w1 : World} (h : Below w.heap.size w w1) (hB : B ≤ w.heap.size) : Below B w w1 := ⟨h.os, h.tape, h.output, h.size, fun k hk => h.block k (by omega)⟩
theorem below_of_kept {B : Nat} {w w1 : World} {row : Option Nat} (hg : w.grownBy w1 row) (hB : B ≤ w.heap.size) (hr : ∀ k, row = some k → B ≤ k) : Below B w w1 :=
 ⟨hg.os, hg.tape, hg.output, hg.size, fun k hk => hg.block k (by omega) (fun e => by have := hr k e.symm; omega)⟩
theorem kept_of_grown {w w1 : World} {F : Nat → Prop} {row : Option Nat} (hg : w.grownBy w1 row) (hr : ∀ k, row = some k → F k) : Kept w w1 F :=
 ⟨hg.size, fun i hi hn => hg.block i hi (fun e => hn (hr i e.symm))⟩

section
variable {w0 ws w w' : World} {P0 : Nat → Prop} {L : List (Thing w0.heap.size)} {i j g t : Nat} {T T' : Thing w0.heap.size} {cs : Array Value}

theorem Fr.start (w : World) : Fr w w (fun _ => False) [] w :=
 ⟨Below.refl _ _, Kept.refl _ _, fun _ _ => False, fun i T h => by simp at h, fun _ _ h => h.elim, fun _ _ _ _ h => h.elim⟩
theorem Fr.size (h : Fr w0 ws P0 L w) : w0.heap.size ≤ w.heap.size := h.bel.size

theorem Fr.focus (h : Fr w0 ws P0 L w) (hi : L[i]? = some T) : ∃ F, T.P F w ∧ (∀ k, F k → w0.heap.size ≤ k ∧ (∃ cs q, w.heap[k]? = some (.cells cs q (0, 0))) ∧ (P0 k ∨ ws.heap.size ≤ k)) ∧
  ∀ w' (T' : Thing w0.heap.size), Below w0.heap.size w w' → Kept w w' F → T'.P (fun k => F k ∨ w.heap.size ≤ k) w' → Fr w0 ws P0 (L.set i T') w' := by
 obtain ⟨hb, hk, Fs, h1, h2, h3⟩ := h
 refine ⟨Fs i, h1 i T hi, h2 i, fun w' T' hb' hk' hT' => ⟨hb.trans hb', ?_, ?_⟩⟩
 ·refine hk.then_ hk' (fun k hF => (h2 i k hF).2.2)
 ·have hil : i < L.length := (List.getElem?_eq_some_iff.1 hi).1
  refine ⟨fun j => if j = i then fun k => (Fs i k ∨ w.heap.size ≤ k) ∧ w0.heap.size ≤ k ∧ ∃ cs q, w'.heap[k]? = some (.cells cs q (0, 0)) else Fs j, ?_, ?_, ?_⟩
  ·intro j U hj
   by_cases e : j = i
   ·subst e
    rw [List.getElem?_set_self hil] at hj
    obtain rfl := Option.some.inj hj
    simp only [if_true]
    exact T'.bound hT'
   ·rw [List.getElem?_set_ne (fun e' => e e'.symm)] at hj
    simp only [if_neg e]
    exact U.move (h1 j U hj) (fun k hF => hk'.2 k (lt_of_cells (h2 j k hF).2.1) (fun hc => h3 j i k e hF hc))
  ·intro j k hF
   by_cases e : j = i
   ·subst e
    simp only [if_true] at hF
    refine ⟨hF.2.1, hF.2.2, ?_⟩
    rcases hF.1 with hF | hF
    ·exact (h2 j k hF).2.2
    ·exact .inr (Nat.le_trans hk.1 hF)
   ·simp only [if_neg e] at hF
    have := h2 j k hF
    exact ⟨this.1, cells_same this.2.1 (hk'.2 k (lt_of_cells this.2.1) (fun hc => h3 j i k e hF hc)), this.2.2⟩
  ·intro j j' k hne hF hF'
   by_cases e : j = i
   ·subst e
    simp only [if_true] at hF
    rw [if_neg (fun e => hne e.symm)] at hF'
    rcases hF.1 with hF | hF
    ·exact h3 j j' k hne hF hF'
    ·have := lt_of_cells (h2 j' k hF').2.1
     omega
   ·rw [if_neg e] at hF
    by_cases e' : j' = i
    ·subst e'
     simp only [if_true] at hF'
     rcases hF'.1 with hF' | hF'
     ·exact h3 j j' k hne hF hF'
     ·have := lt_of_cells (h2 j k hF).2.1
      omega
    ·rw [if_neg e'] at hF'
     exact h3 j j' k hne hF hF'

/-- Two things that are one another's neighbours: the second one is taken into the first. -/
theorem Fr.focus2 (h : Fr w0 ws P0 L w) (hij : i ≠ j) (hi : L[i]? = some T) (hj : L[j]? = some T') : ∃ F F', T.P F w ∧ T'.P F' w ∧ (∀ k, F k → ¬ F' k) ∧ (∀ k, F k ∨ F' k → w0.heap.size ≤ k ∧ (∃ cs q, w.heap[k]? = some (.cells cs q (0, 0))) ∧ (P0 k ∨ ws.heap.size ≤ k)) ∧
  ∀ w' (U : Thing w0.heap.size), Below w0.heap.size w w' → Kept w w' (fun k => F k ∨ F' k) → U.P (fun k => (F k ∨ F' k) ∨ w.heap.size ≤ k) w' → Fr w0 ws P0 ((L.set j gone).set i U) w' := by
 obtain ⟨hb, hk, Fs, h1, h2, h3⟩ := h
 refine ⟨Fs i, Fs j, h1 i T hi, h1 j T' hj, fun k hF hF' => h3 i j k hij hF hF', fun k hF => hF.elim (h2 i k) (h2 j k), fun w' U hb' hk' hU => ?_⟩
 have hil : i < L.length := (List.getElem?_eq_some_iff.1 hi).1
 have hjl : j < L.length := (List.getElem?_eq_some_iff.1 hj).1
 have h' : Fr w0 ws P0 (L.set j gone) w := by
  refine ⟨hb, hk, fun m => if m = j then fun _ => False else if m = i then fun k => Fs i k ∨ Fs j k else Fs m, ?_, ?_, ?_⟩
  ·intro m V hm
   by_cases e : m = j
   ·subst e
    rw [List.getElem?_set_self hjl] at hm
    obtain rfl := Option.some.inj hm
    exact trivial
   ·rw [List.getElem?_set_ne (fun e' => e e'.symm)] at hm
    simp only [if_neg e]
    by_cases e2 : m = i
    ·subst e2
     simp only [if_true]
     exact V.mono (h1 m V hm) (fun k hF => .inl hF)
    ·simp only [if_neg e2]
     exact h1 m V hm
  ·intro m k hF
   by_cases e : m = j
   ·simp [e] at hF
   ·simp only [if_neg e] at hF
    by_cases e2 : m = i
    ·simp only [if_pos e2] at hF
     exact hF.elim (h2 i k) (h2 j k)
    ·simp only [if_neg e2] at hF
     exact h2 m k hF
  ·intro m m' k hne hF hF'
   by_cases e : m = j
   ·simp [e] at hF
   ·simp only [if_neg e] at hF
    by_cases e' : m' = j
    ·simp [e'] at hF'
    ·simp only [if_neg e'] at hF'
     by_cases e2 : m = i
     ·subst e2
      rw [if_neg (fun e => hne e.symm)] at hF'
      simp only [if_true] at hF
      rcases hF with hF | hF
      ·exact h3 m m' k hne hF hF'
      ·exact h3 m' j k e' hF' hF
     ·rw [if_neg e2] at hF
      by_cases e3 : m' = i
      ·subst e3
       simp only [if_true] at hF'
       rcases hF' with hF' | hF'
       ·exact h3 m m' k hne hF hF'
       ·exact h3 m j k e hF hF'
      ·rw [if_neg e3] at hF'
       exact h3 m m' k hne hF hF'
 obtain ⟨_, _, Gs, g1, g2, g3⟩ := h'
 -- the same frame, with footprints that are known
 refine ⟨hb.trans hb', hk.then_ hk' (fun k hF => hF.elim (fun h => (h2 i k h).2.2) (fun h => (h2 j k h).2.2)), fun m => if m = j then fun _ => False else if m = i then fun k => ((Fs i k ∨ Fs j k) ∨ w.heap.size ≤ k) ∧ w0.heap.size ≤ k ∧ ∃ cs q, w'.heap[k]? = some (.cells cs q (0, 0)) else Fs m, ?_, ?_, ?_⟩
 ·intro m V hm
  by_cases e2 : m = i
  ·subst e2
   rw [List.getElem?_set_self (by simpa using hil)] at hm
   obtain rfl := Option.some.inj hm
   simp only [if_neg hij, if_true]
   exact U.bound hU
  ·rw [List.getElem?_set_ne (fun e' => e2 e'.symm)] at hm
   by_cases e : m = j
   ·subst e
    rw [List.getElem?_set_self hjl] at hm
    obtain rfl := Option.some.inj hm
    exact trivial
   ·rw [List.getElem?_set_ne (fun e' => e e'.symm)] at hm
    simp only [if_neg e, if_neg e2]
    exact V.move (h1 m V hm) (fun k hF => hk'.2 k (lt_of_cells (h2 m k hF).2.1) (fun hc => hc.elim (h3 m i k e2 hF) (h3 m j k e hF)))
 ·intro m k hF
  by_cases e : m = j
  ·simp [e] at hF
  ·simp only [if_neg e] at hF
   by_cases e2 : m = i
   ·simp only [if_pos e2] at hF
    refine ⟨hF.2.1, hF.2.2, ?_⟩
    rcases hF.1 with (hF | hF) | hF
    ·exact (h2 i k hF).2.2
    ·exact (h2 j k hF).2.2
    ·exact .inr (Nat.le_trans hk.1 hF)
   ·simp only [if_neg e2] at hF
    have := h2 m k hF
    exact ⟨this.1, cells_same this.2.1 (hk'.2 k (lt_of_cells this.2.1) (fun hc => hc.elim (h3 m i k e2 hF) (h3 m j k e hF))), this.2.2⟩
 ·intro m m' k hne hF hF'
  by_cases e : m = j
  ·simp [e] at hF
  ·simp only [if_neg e] at hF
   by_cases e' : m' = j
   ·simp [e'] at hF'
   ·simp only [if_neg e'] at hF'
    by_cases e2 : m = i
    ·subst e2
     rw [if_neg (fun e => hne e.symm)] at hF'
     simp only [if_true] at hF
     rcases hF.1 with (hF | hF) | hF
     ·exact h3 m m' k hne hF hF'
     ·exact h3 m' j k e' hF' hF
     ·have := lt_of_cells (h2 m' k hF').2.1
      omega
    ·rw [if_neg e2] at hF
     by_cases e3 : m' = i
     ·subst e3
      simp only [if_true] at hF'
      rcases hF'.1 with (hF' | hF') | hF'
      ·exact h3 m m' k hne hF hF'
      ·exact h3 m j k e hF hF'
      ·have := lt_of_cells (h2 m k hF).2.1
       omega
     ·rw [if_neg e3] at hF'
      exact h3 m m' k hne hF hF'

theorem Fr.new (h : Fr w0 ws P0 L w) (hB : Below w.heap.size w w') (hT : T.P (fun k => w.heap.size ≤ k) w') : Fr w0 ws P0 (T :: L) w' := by
 obtain ⟨hb, hk, Fs, h1, h2, h3⟩ := h
 refine ⟨hb.trans (below_base hB hb.size), hk.below hB, fun m => match m with | 0 => fun k => w.heap.size ≤ k ∧ w0.heap.size ≤ k ∧ ∃ cs q, w'.heap[k]? = some (.cells cs q (0, 0)) | m + 1 => Fs m, ?_, ?_, ?_⟩
 ·intro m V hm
  cases m with
  | zero =>
   obtain rfl : T = V := by simpa using hm
   exact T.bound hT
  | succ m =>
   have hm' : L[m]? = some V := by simpa using hm
   exact V.move (h1 m V hm') (fun k hF => hB.block k (lt_of_cells (h2 m k hF).2.1))
 ·intro m k hF
  cases m with
  | zero => exact ⟨hF.2.1, hF.2.2, .inr (Nat.le_trans hk.1 hF.1)⟩
  | succ m =>
   have := h2 m k hF
   exact ⟨this.1, cells_same this.2.1 (hB.block k (lt_of_cells this.2.1)), this.2.2⟩
 ·intro m m' k hne hF hF'
  cases m with
  | zero =>
   cases m' with
   | zero => exact hne rfl
   | succ m' =>
    have := lt_of_cells (h2 m' k hF').2.1
    have := hF.1
    omega
  | succ m =>
   cases m' with
   | zero =>
    have := lt_of_cells (h2 m k hF).2.1
    have := hF'.1
    omega
   | succ m' => exact h3 m m' k (fun e => hne (by rw [e])) hF hF'
theorem Fr.below (h : Fr w0 ws P0 L w) (hB : Below w.heap.size w w') : Fr w0 ws P0 L w' := by
 obtain ⟨hb, hk, Fs, h1, h2, h3⟩ := h
 exact ⟨hb.trans (below_base hB hb.size), hk.below hB, Fs, fun m V hm => V.move (h1 m V hm) (fun k hF => hB.block k (lt_of_cells (h2 m k hF).2.1)), fun m k hF => ⟨(h2 m k hF).1, cells_same (h2 m k hF).2.1 (hB.block k (lt_of_cells (h2 m k hF).2.1)), (h2 m k hF).2.2⟩, h3⟩
theorem Fr.drawn (h : Fr w0 ws P0 L w) (hd : Drawn0 w w') : Fr w0 ws P0 L w' := h.below hd.below
theorem Fr.drew (h : Fr w0 ws P0 L w) : Fr w0 ws P0 L w.drew := h.below ((Below.refl _ _).drew)
theorem Fr.drewN (h : Fr w0 ws P0 L w) (n : Nat) : Fr w0 ws P0 L (w.drewN n) := h.below (zaq (Below.refl _ _) n)
theorem Fr.alloc (h : Fr w0 ws P0 L w) (o : Obj) : Fr w0 ws P0 L (w.alloc o) := h.below (zay (Below.refl _ _) o)
theorem Fr.drop (h : Fr w0 ws P0 (T :: L) w) : Fr w0 ws P0 L w := by
 obtain ⟨hb, hk, Fs, h1, h2, h3⟩ := h
 exact ⟨hb, hk, fun m => Fs (m + 1), fun m V hm => h1 (m + 1) V (by simpa using hm), fun m k hF => h2 (m + 1) k hF, fun m m' k hne => h3 (m + 1) (m' + 1) k (by omega)⟩
/-- Some of the things, in another order, by their numbers. -/
theorem Fr.pick (h : Fr w0 ws P0 L w) (is : List Nat) (hn : is.Nodup) (hl : ∀ j ∈ is, j < L.length) : Fr w0 ws P0 (is.map fun j => L.getD j gone) w := by
 obtain ⟨hb, hk, Fs, h1, h2, h3⟩ := h
 refine ⟨hb, hk, fun m k => ∃ j, is[m]? = some j ∧ Fs j k, fun m V hm => ?_, fun m k hF => ?_, fun m m' k hne hF hF' => ?_⟩
 ·rw [List.getElem?_map] at hm
  obtain ⟨j, hj, rfl⟩ := Option.map_eq_some_iff.1 hm
  have hjl := hl j (List.mem_of_getElem? hj)
  refine Thing.mono _ (h1 j _ ?_) (fun k hF => ⟨j, hj, hF⟩)
  rw [List.getD_eq_getElem?_getD, List.getElem?_eq_getElem hjl]
  rfl
 ·obtain ⟨j, _, hF⟩ := hF
  exact h2 j k hF
 ·obtain ⟨j, hj, hF⟩ := hF
  obtain ⟨j', hj', hF'⟩ := hF'
  refine h3 j j' k (fun e => hne ?_) hF hF'
  subst e
  have a1 := (List.getElem?_eq_some_iff.1 hj)
  have a2 := (List.getElem?_eq_some_iff.1 hj')
  exact (List.getElem_inj (h₀ := a1.1) (h₁ := a2.1) hn).1 (a1.2.trans a2.2.symm)
theorem Fr.others {P1 : Nat → Prop} (h : Fr w0 w P1 L w') (hP : ∀ k, P1 k → ∃ cs q, w.heap[k]? = some (.cells cs q (0, 0))) : KeepsOthers w w' :=
 ⟨h.kept.1, fun k o hk ho => (h.kept.2 k ((Array.getElem?_eq_some_iff.1 hk).1) (fun hp => by
  obtain ⟨cs, q, hc⟩ := hP k hp
  rw [hk] at hc
  obtain rfl := Option.some.inj hc
  simp [Obj.isCells] at ho)).trans hk⟩
/-- Another object's change leaves it. -/
theorem Fr.grown {row : Option Nat} (h : Fr w0 ws P0 L w) (hg : w.grownBy w' row) (hr : ∀ r, row = some r → ws.heap.size ≤ r ∧ w0.heap.size ≤ r ∧ ∃ o : Obj, w.heap[r]? = some o ∧ o.isCells = false) : Fr w0 ws P0 L w' := by
 obtain ⟨hb, hk, Fs, h1, h2, h3⟩ := h
 have same : ∀ k, (∃ cs q, w.heap[k]? = some (Obj.cells cs q (0, 0))) → w'.heap[k]? = w.heap[k]? := fun k hc => hg.block k (lt_of_cells hc) (fun e => by
  obtain ⟨cs, q, hc⟩ := hc
  obtain ⟨_, _, o, ho, hn⟩ := hr k e.symm
  rw [hc] at ho
  obtain rfl := Option.some.inj ho
  simp [Obj.isCells] at hn)
 refine ⟨hb.grown hg hb.size (fun k e => (hr k e).2.1), ?_, Fs, fun i T hi => T.move (h1 i T hi) (fun k hF => same k (h2 i k hF).2.1), fun i k hF => ⟨(h2 i k hF).1, cells_same (h2 i k hF).2.1 (same k (h2 i k hF).2.1), (h2 i k hF).2.2⟩, h3⟩
 exact Kept.of_grown hg hk (fun k e => .inr (hr k e).1)
/-- One thing told otherwise, the world as it was. -/
theorem Fr.tell (h : Fr w0 ws P0 L w) (hi : L[i]? = some T) (hT : ∀ F, T.P F w → T'.P F w) : Fr w0 ws P0 (L.set i T') w := by
 obtain ⟨F, h1, _, h3⟩ := h.focus hi
 exact h3 w T' (Below.refl _ _) (Kept.refl _ _) (T'.mono (hT F h1) (fun k hk => .inl hk))

theorem Fr.zai (h : Fr w0 ws P0 L w) (hi : L[i]? = some (box g t cs)) : w.heap[g]? = some (.cells cs t (0, 0)) := by
 obtain ⟨F, h1, _⟩ := h.focus hi
 exact h1.2.2
theorem Fr.za5 (h : Fr w0 ws P0 L w) (hi : L[i]? = some (box g t cs)) (j : Nat) {v : Value} (hv : cs[j]? = some v) : w.cell? ⟨g, j, none⟩ = some v := (za1 (h.zai hi) j).trans hv
theorem Fr.box_ne {g' t' : Nat} {cs' : Array Value} (h : Fr w0 ws P0 L w) (hij : i ≠ j) (hi : L[i]? = some (box g t cs)) (hj : L[j]? = some (box g' t' cs')) : g ≠ g' := by
 obtain ⟨F, F', h1, h1', hd, _, _⟩ := h.focus2 hij hi hj
 exact fun e => hd g h1.1 (by rw [e]; exact h1'.1)
theorem Fr.zb6 (h : Fr w0 ws P0 L w) (hbox : w'.heap[g]? = some (.cells cs t (0, 0))) (hB : Below w.heap.size w w') (hg : g = w.heap.size) : Fr w0 ws P0 (box g t cs :: L) w' :=
 h.new hB ⟨by omega, by have := h.size; omega, hbox⟩
theorem Fr.zas (h : Fr w0 ws P0 L w) (hi : L[i]? = some (box g t cs)) (j : Nat) (u : Value) {cs' : Array Value} (e : cs.setIfInBounds j u = cs') : Fr w0 ws P0 (L.set i (box g t cs')) (w.setCell ⟨g, j, none⟩ u) := by
 obtain ⟨F, h1, h2, h3⟩ := h.focus hi
 exact h3 _ _ ((Below.refl _ w).setCell (p := ⟨g, j, none⟩) h1.2.1 u) (Kept.setCell (Kept.refl _ _) (.inl h1.1) u) ⟨.inl h1.1, h1.2.1, zao h1.2.2 j u e⟩

variable {α : Type} {d : Kd α} {e : Nat} {v : Value} {xs ys : List α}
theorem Fr.row_at (h : Fr w0 ws P0 L w) (hi : L[i]? = some (row d e v xs)) : ∃ ok, d.R e w w0.heap.size ok v xs := by
 obtain ⟨F, h1, _⟩ := h.focus hi
 exact ⟨F, h1⟩
theorem Fr.row_R (h : Fr w0 ws P0 L w) (hi : L[i]? = some (row d e v xs)) : d.R e w w0.heap.size (fun _ => True) v xs := by
 obtain ⟨F, h1, _⟩ := h.focus hi
 exact Kd.zar h1 (fun _ _ => trivial)
theorem Fr.row_reads (h : Fr w0 ws P0 L w) (hi : L[i]? = some (row d e v xs)) : ∃ A c, v = .slice A xs.length c ∧ xs.length ≤ c ∧ d.C w A xs.length xs := by
 obtain ⟨F, h1, _⟩ := h.focus hi
 exact Kd.R_reads h1
theorem Fr.row_new (h : Fr w0 ws P0 L w) {ok : Nat → Prop} (hr : d.R e w' w.heap.size ok v xs) (hB : Below w.heap.size w w') : Fr w0 ws P0 (row d e v xs :: L) w' :=
 h.new hB (Kd.R_lower (Kd.zar (Kd.R_bound hr) (fun k hk => hk.2.1)) h.size)
theorem Fr.row_lit (h : Fr w0 ws P0 L w) (hr : d.R e w' w0.heap.size (fun k => w.heap.size ≤ k) v xs) (hg : w.grownBy w' none) : Fr w0 ws P0 (row d e v xs :: L) w' :=
 h.new (below_of_grown hg) hr
theorem Fr.row_nil (h : Fr w0 ws P0 L w) (d : Kd α) (e : Nat) : Fr w0 ws P0 (row d e (.slice none 0 0) [] :: L) w :=
 h.new (Below.refl _ _) (Kd.R_nil _ _ _ _ _)
/-- For an append to a row. -/
theorem Fr.row_append (h : Fr w0 ws P0 L w) (hi : L[i]? = some (row d e v xs)) : ∃ ok : Nat → Prop, d.R e w w0.heap.size ok v xs ∧ (∀ k, w.heap.size ≤ k → ok k) ∧
  ∀ v1 w1 ys, d.R e w1 w0.heap.size ok v1 ys → w.grownBy w1 v.ownBlock → Fr w0 ws P0 (L.set i (row d e v1 ys)) w1 := by
 obtain ⟨F, h1, h2, h3⟩ := h.focus hi
 refine ⟨fun k => F k ∨ w.heap.size ≤ k, Kd.zar h1 (fun k hk => .inl hk), fun k hk => .inr hk, fun v1 w1 ys hr hg => ?_⟩
 exact h3 w1 _ (below_of_kept hg h.size (fun k hk => (h2 k (h1.1 k hk)).1)) (kept_of_grown hg (fun k hk => h1.1 k hk)) hr
/-! ### a box that holds a row -/
variable {f : Value → Array Value}
end

/-- A post that no panic meets. -/
def retOnly (Q : Exit → Act → World → Prop) : Exit → Act → World → Prop
 | .normal, a, w => Q .normal a w
 | .ret, a, w => Q .ret a w
 | _, _, _ => False
section
variable {w0 ws w w' : World} {P0 : Nat → Prop} {L : List (Thing w0.heap.size)} {i j g : Nat} {e n c : Nat} {α : Type} {enc : α → Value} {h1 : ∀ x : α, (enc x).oneCell' = true} {zs : List α}
/-- A row of one's own begins at its block's head. -/
theorem Fr.row_head {d : Kd α} {v : Value} {xs : List α} (h : Fr w0 ws P0 L w) (hi : L[i]? = some (row d e v xs)) (hp : 0 < xs.length) : ∃ g c, v = .slice (some ⟨g, 0, none⟩) xs.length c := by
 obtain ⟨ok, hR⟩ := h.row_at hi
 obtain ⟨g, c, he, _⟩ := Kd.R_form hR hp
 exact ⟨g, c, he⟩
theorem Fr.row_cell (d : α) (h : Fr w0 ws P0 L w) (hi : L[i]? = some (row (Kd.scalar enc h1) e (.slice (some ⟨g, 0, none⟩) n c) zs)) (x : Int) (h0 : 0 ≤ x) (hx : x < n) : w.cell? ⟨g, x.toNat, none⟩ = some (enc (rdOf d zs x)) ∧ w.frozen? ⟨g, x.toNat, none⟩ = false := by
 obtain ⟨ok, hR⟩ := h.row_at hi
 exact Kd.R_celln d hR x h0 hx
theorem Fr.zb0 {zs : List Int} (h : Fr w0 ws P0 L w) (hi : L[i]? = some (row (Kd.int .i64) e (.slice (some ⟨g, 0, none⟩) n c) zs)) (x : Int) (h0 : 0 ≤ x) (hx : x < n) : w.cell? ⟨g, x.toNat, none⟩ = some (.int .i64 (rd zs x)) ∧ w.frozen? ⟨g, x.toNat, none⟩ = false := h.row_cell (0 : Int) hi x h0 hx
theorem Fr.row_set (h : Fr w0 ws P0 L w) (hi : L[i]? = some (row (Kd.scalar enc h1) e (.slice (some ⟨g, 0, none⟩) n c) zs)) (x : Int) (u : α) : Fr w0 ws P0 (L.set i (row (Kd.scalar enc h1) e (.slice (some ⟨g, 0, none⟩) n c) (zs.set x.toNat u))) (w.setCell ⟨g, x.toNat, none⟩ (enc u)) := by
 obtain ⟨ok, hR, _, hX⟩ := h.row_append hi
 have h2 := Kd.R_putg hR x u
 exact hX _ _ _ h2.1 (by simpa [Value.ownBlock] using h2.2)
theorem Fr.int_set {zs : List Int} (h : Fr w0 ws P0 L w) (hi : L[i]? = some (row (Kd.int .i64) e (.slice (some ⟨g, 0, none⟩) n c) zs)) (x : Int) (u : Int) : Fr w0 ws P0 (L.set i (row (Kd.int .i64) e (.slice (some ⟨g, 0, none⟩) n c) (zs.set x.toNat u))) (w.setCell ⟨g, x.toNat, none⟩ (.int .i64 u)) := h.row_set hi x u
end

section
variable {base : Nat} {α β γ : Type}
/-- Two rows of a struct that came to us by value: their elements' types tell them apart. -/
def pair2 (d : Kd α) (e : Nat) (v : Value) (xs : List α) (d' : Kd β) (e' : Nat) (v' : Value) (ys : List β) : Thing base where
 P F w := d.R e w base F v xs ∧ d'.R e' w base F v' ys
 mono h hk := ⟨Kd.zar h.1 hk, Kd.zar h.2 hk⟩
 bound h := ⟨(row d e v xs).bound h.1, (row d' e' v' ys).bound h.2⟩
 move h hm := ⟨Kd.R_move h.1 hm, Kd.R_move h.2 hm⟩
/-- Three rows, the first and the last of one type, and apart. -/
def trip3 (d : Kd α) (e : Nat) (v : Value) (xs : List α) (d' : Kd β) (e' : Nat) (v' : Value) (ys : List β) (d'' : Kd γ) (e'' : Nat) (v'' : Value) (zs : List γ) : Thing base where
 P F w := d.R e w base (fun k => F k ∧ some k = v.ownBlock) v xs ∧ d'.R e' w base F v' ys ∧ d''.R e'' w base (fun k => F k ∧ some k = v''.ownBlock) v'' zs ∧ ∀ k, some k = v.ownBlock → some k ≠ v''.ownBlock
 mono h hk := ⟨Kd.zar h.1 (fun k g => ⟨hk k g.1, g.2⟩), Kd.zar h.2.1 hk, Kd.zar h.2.2.1 (fun k g => ⟨hk k g.1, g.2⟩), h.2.2.2⟩
 bound h := ⟨Kd.zar ((row d e v xs).bound h.1) (fun k g => ⟨⟨g.1.1, g.2⟩, g.1.2⟩), (row d' e' v' ys).bound h.2.1, Kd.zar ((row d'' e'' v'' zs).bound h.2.2.1) (fun k g => ⟨⟨g.1.1, g.2⟩, g.1.2⟩), h.2.2.2⟩
 move h hm := ⟨Kd.R_move h.1 (fun k g => hm k g.1), Kd.R_move h.2.1 hm, Kd.R_move h.2.2.1 (fun k g => hm k g.1), h.2.2.2⟩
end
section
variable {w0 ws w w' : World} {P0 : Nat → Prop} {L : List (Thing w0.heap.size)} {i : Nat} {α β γ : Type} {d : Kd α} {d' : Kd β} {d'' : Kd γ} {e e' e'' : Nat} {v v' v'' : Value} {xs : List α} {ys : List β} {zs : List γ} {ok ok' : Nat → Prop}
theorem Fr.pair_new (h : Fr w0 ws P0 L w) (hr : d.R e w' w.heap.size ok v xs) (hr' : d'.R e' w' w.heap.size ok' v' ys) (hB : Below w.heap.size w w') : Fr w0 ws P0 (pair2 d e v xs d' e' v' ys :: L) w' :=
 h.new hB ⟨Kd.R_lower (Kd.zar (Kd.R_bound hr) (fun k hk => hk.2.1)) h.size, Kd.R_lower (Kd.zar (Kd.R_bound hr') (fun k hk => hk.2.1)) h.size⟩
theorem Fr.pair_R (h : Fr w0 ws P0 L w) (hi : L[i]? = some (pair2 d e v xs d' e' v' ys)) : ∃ F, d.R e w w0.heap.size F v xs ∧ d'.R e' w w0.heap.size F v' ys := by
 obtain ⟨F, h1, _⟩ := h.focus hi
 exact ⟨F, h1.1, h1.2⟩
theorem Fr.pair_C {A A' : Option Addr} {n c n' c' : Nat} (h : Fr w0 ws P0 L w) (hi : L[i]? = some (pair2 d e (.slice A n c) xs d' e' (.slice A' n' c') ys)) : (d.C w A xs.length xs ∧ n = xs.length ∧ xs.length ≤ c) ∧ (d'.C w A' ys.length ys ∧ n' = ys.length ∧ ys.length ≤ c') := by
 obtain ⟨F, h1, h2⟩ := h.pair_R hi
 have g1 := Kd.R_reads' h1
 have g2 := Kd.R_reads' h2
 exact ⟨⟨g1.2.2, g1.1, by omega⟩, g2.2.2, g2.1, by omega⟩
theorem Fr.trip_new {ok'' : Nat → Prop} (hE : d.E = []) (hE'' : d''.E = []) (h : Fr w0 ws P0 L w) (hr : d.R e w' w.heap.size (fun k => some k ≠ v''.ownBlock) v xs) (hr' : d'.R e' w' w.heap.size ok' v' ys) (hr'' : d''.R e'' w' w.heap.size ok'' v'' zs) (hB : Below w.heap.size w w') : Fr w0 ws P0 (trip3 d e v xs d' e' v' ys d'' e'' v'' zs :: L) w' :=
 h.new hB ⟨Kd.R_lower (Kd.zar (Kd.R_bound (Kd.R_tight hE hr)) (fun k hk => ⟨hk.2.1, hk.1⟩)) h.size, Kd.R_lower (Kd.zar (Kd.R_bound hr') (fun k hk => hk.2.1)) h.size, Kd.R_lower (Kd.zar (Kd.R_bound (Kd.R_tight hE'' hr'')) (fun k hk => ⟨hk.2.1, hk.1⟩)) h.size, fun k hk => hr.1 k hk.symm⟩
theorem Fr.trip_C {A A' A'' : Option Addr} {n c n' c' n'' c'' : Nat} (h : Fr w0 ws P0 L w) (hi : L[i]? = some (trip3 d e (.slice A n c) xs d' e' (.slice A' n' c') ys d'' e'' (.slice A'' n'' c'') zs)) : (d.C w A xs.length xs ∧ n = xs.length ∧ xs.length ≤ c) ∧ (d'.C w A' ys.length ys ∧ n' = ys.length ∧ ys.length ≤ c') ∧ (d''.C w A'' zs.length zs ∧ n'' = zs.length ∧ zs.length ≤ c'') := by
 obtain ⟨F, h1, _⟩ := h.focus hi
 have g1 := Kd.R_reads' h1.1
 have g2 := Kd.R_reads' h1.2.1
 have g3 := Kd.R_reads' h1.2.2.1
 exact ⟨⟨g1.2.2, g1.1, by omega⟩, ⟨g2.2.2, g2.1, by omega⟩, g3.2.2, g3.1, by omega⟩
end

theorem entersAt {P : Program} {f : FuncId} {fn : Func} {c : Code} (hf : P.funcs[f]? = some fn) (hname : (fn.name == "runtime.NumGoroutine") = false) (hb : fn.body = some c) :
  ∀ (args : Array Value) (w : World), (callFunc f args).run P w = .ok (.enter f args) w := by
 intro args w
 have h1 : fn.name ≠ "runtime.NumGoroutine" := by simpa using hname
 simp [callFunc, hf, h1, hb, mark]

theorem bw_ {B : Nat} {w W : World} (h : Below B w W := by repeat (first | (with_reducible first | exact HB.out | apply zay | apply zaq | apply zav | refine below_set ?_ (Aside0.out (by assumption))) | exact HB.out)) : Below B w W := h
theorem sa_ {α : Type} (l : List α) (i : Nat) (v : α) : l.toArray.setIfInBounds i v = (l.set i v).toArray := by simp
theorem sb_ {α : Type} (a b : α) (l : List α) : (a :: l).set 0 b = b :: l := rfl
theorem sc_ {α : Type} (a b : α) (l : List α) (n : Nat) : (a :: l).set (n + 1) b = a :: l.set n b := rfl

end Go.Proofs.Ytpdpomjgfmdjfaa.Z
