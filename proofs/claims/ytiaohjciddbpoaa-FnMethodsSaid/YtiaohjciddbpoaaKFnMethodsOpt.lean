/- The engine's slices that are told cell by cell: literals as boxes, loops of so many rounds. -/
import Derived.Test.YtiaohjciddbpoaaKFnMethodsOpm
import Derived.LoopNIn
set_option linter.unusedVariables false
set_option linter.unusedSimpArgs false
namespace Go.Proofs.Ytiaohjciddbpoaa.Frame
open Go.RowKit Go.Proofs.YtiaohjciddbpoaaW.PrintWords
section
variable {P : Program} {N : Md} {w0 ws : World} {P0 : Nat → Prop} {ops : Array Oper} {Q : Post} {e : Nat → Value} {L : List (Thing w0.heap.size)} {c : Code}
/-- A loop of at most m rounds, walked round by round. -/
def Rn (P : Program) (N : Md) (w0 ws : World) (P0 : Nat → Prop) (c : Code) (Q : Post) (m : Nat) (e : Nat → Value) (L : List (Thing w0.heap.size)) : Prop := ∀ w, Fr w0 ws P0 L w → Code.roundsIn N.F 0 P c Q m (act N e) w
theorem c_rounds (m : Nat) (h : Rn P N w0 ws P0 c Q m e L) : C P N w0 ws P0 (.loop c) Q e L := fun w hw => wpIn_loop_rounds m (h w hw)
theorem rn_succ {m : Nat} (h : C P N w0 ws P0 c (Exit.then (Code.roundsIn N.F 0 P c Q m) Q) e L) : Rn P N w0 ws P0 c Q (m + 1) e L := h
theorem x_rn {m : Nat} (h : Rn P N w0 ws P0 c Q m e L) : X N w0 ws P0 .normal (Exit.then (Code.roundsIn N.F 0 P c Q m) Q) e L := h
end
section
variable {P : Program} {N : Md} {w0 ws : World} {P0 : Nat → Prop} {e : Nat → Value} {L : List (Thing w0.heap.size)} {d : Tmp} {ty t u : TypeId} {pos : String} {af : Array Edge} {g : Option (Nat × Bool)} {x : Operand} {v : Value}
/-- A literal whose cells are all told: a box. -/
theorem e_litB {n sz : Nat} {parts : List (Nat × Operand)} {vs : List (Nat × Value)} {bytes : Nat} {cs : List Value} {z : Value} (ht : P.underlying t = some (.slice u)) (hinfo : (P.info? u).map (fun i => (i.zero, i.size, i.bytes)) = some (some z, sz, bytes)) (hn0 : 0 < n * sz ∧ n * sz ≤ 16777216) (hp : parts.map (fun p => (p.1, ev N e p.2)) = vs) (hf : Instr.fill (fun i => some (i * sz, sz)) (((List.range (n * sz)).map (z.cells[· % z.cells.size]!)).toArray) vs = some cs.toArray) :
  Ev1 P N w0 ws P0 ⟨some d, .buildSlice t n parts.toArray, ty, pos, af, g⟩ e L (fun b : Nat => upd e d (.slice (some ⟨b, 0, none⟩) n n)) (fun b => box b u cs.toArray :: L) := fun w hF K Q k => by
 obtain ⟨ie, hie, hzz⟩ := Option.map_eq_some_iff.1 hinfo
 simp only [Prod.mk.injEq] at hzz
 obtain ⟨hz, hs, _⟩ := hzz
 have hp2 : parts.toArray.map (fun (i, x) => (i, ev N e x)) = vs.toArray := by subst hp; simp
 have hrg : ((Array.range (n * sz)).map (z.cells[· % z.cells.size]!)) = (((List.range (n * sz)).map (z.cells[· % z.cells.size]!)).toArray) := by rw [← List.toArray_range, List.map_toArray]
 have hrun := run_buildSlice (P := P) w t u n vs.toArray cs.toArray ie z ht hie hz (by rw [hs]; omega) (by rw [hs]; omega) (by rw [hs, hrg]; exact hf)
 refine val_ev (w1 := w.alloc (.cells cs.toArray u)) (v := .slice (some ⟨w.heap.size, 0, none⟩) n n) ?_ (k w.heap.size _ (hF.box_alloc cs.toArray u))
 simp only [execOp, hp2, Sem.run_bind, hrun]
 rfl
/-- Some cells of a box, as a struct. -/
theorem q_ldBo {dst : Option Tmp} {b bt n o : Nat} {cs : Array Value} {ls : List Value} (ht : aggTy (P.underlying t) = true) (hz : (P.info? t).map (·.size) = some n) (hx : ev N e x = .pointer (some ⟨b, o, none⟩)) {S : World → Prop} (hB : ∀ w, S w → w.heap[b]? = some (.cells cs bt (0, 0))) (hn : ls.length = n) (hl : (cs.toList.drop o).take n = ls) : Qt P N e S ⟨dst, .load t x, ty, pos, af, g⟩ (.agg ls.toArray) := fun w hS => by
 have h := loadVar_agg (P := P) (t := t) (w := w) (a := ⟨b, o, none⟩) (cs := ls) ht (by subst hn; simpa using hz) (fun j u hj => by
  have hlt := (List.getElem?_eq_some_iff.1 hj).1
  rw [show (⟨b, o, none⟩ : Addr).add j = ⟨b, o + j, none⟩ by simp [Addr.add], blk_cell (hB w hS) (o + j), ← hj, ← hl, List.getElem?_take, if_pos (by omega), List.getElem?_drop]
  simp)
 simp [execOp, hx, Instr.loadAt, Instr.sureAddr, h]
/-- The address of an element of a box that is a slice. -/
theorem q_ixB {dst : Option Tmp} {y : Operand} {k : IntKind} {m : Int} {sz a c b : Nat} (ht : P.underlying t = some (.slice u)) (hz : (P.info? u).map (·.size) = some sz) (hx : ev N e x = .slice (some ⟨b, 0, none⟩) a c) (hy : ev N e y = .int k m) (hm : 0 ≤ m ∧ m < (a : Int)) {S : World → Prop} : Qt P N e S ⟨dst, .indexAddr t x y, ty, pos, af, g⟩ (.pointer (some ⟨b, m.toNat * sz, none⟩)) := fun w hS => by
 obtain ⟨i, hi, hs⟩ := Option.map_eq_some_iff.1 hz
 have ha : (⟨b, 0, none⟩ : Addr).add (m.toNat * sz) = ⟨b, m.toNat * sz, none⟩ := add_plain b (m.toNat * sz)
 simp [execOp, hx, hy, Instr.indexAt, run_underlying ht w, asIntOf, sizeOf, typeInfo, hi, hs, hm, ha]
theorem q_addc {dst : Option Tmp} {y : Operand} {t' : TypeId} {S : World → Prop} {n m r : Int} (hx : ev N e x = .int .i64 n) (hy : ev N e y = .int .i64 m) (h : w64 (n + m) = r) : Qt P N e S ⟨dst, .binOp .add t x y t', ty, pos, af, g⟩ (.int .i64 r) := h ▸ zay hx hy
end
/-! longer rows of letters -/
theorem bindE22 {α0 α1 α2 α3 α4 α5 α6 α7 α8 α9 α10 α11 α12 α13 α14 α15 α16 α17 α18 α19 α20 α21 : Type} {β : Type} {o : Option (α0 × α1 × α2 × α3 × α4 × α5 × α6 × α7 × α8 × α9 × α10 × α11 × α12 × α13 × α14 × α15 × α16 × α17 × α18 × α19 × α20 × α21)} {f : (α0 × α1 × α2 × α3 × α4 × α5 × α6 × α7 × α8 × α9 × α10 × α11 × α12 × α13 × α14 × α15 × α16 × α17 × α18 × α19 × α20 × α21) → Option β} {r : Option β} {p : Prop} (h : o.bind f = r) (k : ∀ (x0 : α0) (x1 : α1) (x2 : α2) (x3 : α3) (x4 : α4) (x5 : α5) (x6 : α6) (x7 : α7) (x8 : α8) (x9 : α9) (x10 : α10) (x11 : α11) (x12 : α12) (x13 : α13) (x14 : α14) (x15 : α15) (x16 : α16) (x17 : α17) (x18 : α18) (x19 : α19) (x20 : α20) (x21 : α21), o = some (x0, x1, x2, x3, x4, x5, x6, x7, x8, x9, x10, x11, x12, x13, x14, x15, x16, x17, x18, x19, x20, x21) → f (x0, x1, x2, x3, x4, x5, x6, x7, x8, x9, x10, x11, x12, x13, x14, x15, x16, x17, x18, x19, x20, x21) = r → p) (hn : r.isSome = true) : p := by
 cases ho : o with
 | none => rw [ho] at h; subst h; cases hn
 | some z =>
  rw [ho] at h
  exact k z.1 z.2.1 z.2.2.1 z.2.2.2.1 z.2.2.2.2.1 z.2.2.2.2.2.1 z.2.2.2.2.2.2.1 z.2.2.2.2.2.2.2.1 z.2.2.2.2.2.2.2.2.1 z.2.2.2.2.2.2.2.2.2.1 z.2.2.2.2.2.2.2.2.2.2.1 z.2.2.2.2.2.2.2.2.2.2.2.1 z.2.2.2.2.2.2.2.2.2.2.2.2.1 z.2.2.2.2.2.2.2.2.2.2.2.2.2.1 z.2.2.2.2.2.2.2.2.2.2.2.2.2.2.1 z.2.2.2.2.2.2.2.2.2.2.2.2.2.2.2.1 z.2.2.2.2.2.2.2.2.2.2.2.2.2.2.2.2.1 z.2.2.2.2.2.2.2.2.2.2.2.2.2.2.2.2.2.1 z.2.2.2.2.2.2.2.2.2.2.2.2.2.2.2.2.2.2.1 z.2.2.2.2.2.2.2.2.2.2.2.2.2.2.2.2.2.2.2.1 z.2.2.2.2.2.2.2.2.2.2.2.2.2.2.2.2.2.2.2.2.1 z.2.2.2.2.2.2.2.2.2.2.2.2.2.2.2.2.2.2.2.2.2 ho h
theorem cur29 {α0 α1 α2 α3 α4 α5 α6 α7 α8 α9 α10 α11 α12 α13 α14 α15 α16 α17 α18 α19 α20 α21 α22 α23 α24 α25 α26 α27 α28 : Type} {p : (α0 × α1 × α2 × α3 × α4 × α5 × α6 × α7 × α8 × α9 × α10 × α11 × α12 × α13 × α14 × α15 × α16 × α17 × α18 × α19 × α20 × α21 × α22 × α23 × α24 × α25 × α26 × α27 × α28) → Prop} (h : ∀ (x0 : α0) (x1 : α1) (x2 : α2) (x3 : α3) (x4 : α4) (x5 : α5) (x6 : α6) (x7 : α7) (x8 : α8) (x9 : α9) (x10 : α10) (x11 : α11) (x12 : α12) (x13 : α13) (x14 : α14) (x15 : α15) (x16 : α16) (x17 : α17) (x18 : α18) (x19 : α19) (x20 : α20) (x21 : α21) (x22 : α22) (x23 : α23) (x24 : α24) (x25 : α25) (x26 : α26) (x27 : α27) (x28 : α28), p (x0, x1, x2, x3, x4, x5, x6, x7, x8, x9, x10, x11, x12, x13, x14, x15, x16, x17, x18, x19, x20, x21, x22, x23, x24, x25, x26, x27, x28)) : ∀ s, p s := fun ⟨x0, x1, x2, x3, x4, x5, x6, x7, x8, x9, x10, x11, x12, x13, x14, x15, x16, x17, x18, x19, x20, x21, x22, x23, x24, x25, x26, x27, x28⟩ => h x0 x1 x2 x3 x4 x5 x6 x7 x8 x9 x10 x11 x12 x13 x14 x15 x16 x17 x18 x19 x20 x21 x22 x23 x24 x25 x26 x27 x28
end Go.Proofs.Ytiaohjciddbpoaa.Frame
