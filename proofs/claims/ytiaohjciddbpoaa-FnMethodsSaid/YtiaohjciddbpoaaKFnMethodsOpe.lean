/- The engine's operations that make or write memory, and calls. -/
import Derived.Test.YtiaohjciddbpoaaKFnMethodsOpq
import Derived.Great.BuildSlice
set_option linter.unusedVariables false
set_option linter.unusedSimpArgs false
namespace Go.Proofs.Ytiaohjciddbpoaa.Frame
open Go.RowKit Go.Proofs.YtiaohjciddbpoaaW.PrintWords
/-- An event: from e and L on, whatever follows from e' and L' (for some letters) follows from it. -/
def Ev1 (P : Program) (N : Md) (w0 ws : World) (P0 : Nat → Prop) {σ : Type} (o : Oper) (e : Nat → Value) (L : List (Thing w0.heap.size)) (e' : σ → Nat → Value) (L' : σ → List (Thing w0.heap.size)) : Prop :=
 ∀ w, Fr w0 ws P0 L w → ∀ (K : Act → World → Prop) (Q : Post), (∀ s w', Fr w0 ws P0 (L' s) w' → K (act N (e' s)) w') → Oper.wp P o (act N e) w K Q
section
variable {P : Program} {N : Md} {w0 ws : World} {P0 : Nat → Prop} {ops : Array Oper} {Q : Post} {e : Nat → Value} {L : List (Thing w0.heap.size)} {o : Oper} {rest : List Oper} {σ : Type} {e' : σ → Nat → Value} {L' : σ → List (Thing w0.heap.size)}
theorem o_ew (hw : Region.wanted o (yielded ops (act N e).tmps) = true) (h : Ev1 P N w0 ws P0 o e L e' L') (k : ∀ s, O P N w0 ws P0 ops rest Q (e' s) (L' s)) : O P N w0 ws P0 ops (o :: rest) Q e L := by
 intro w hF hnd
 obtain ⟨hn1, hn2⟩ := noDL_cons hnd
 unfold wpListIn
 rw [if_pos hw]
 exact oper_in hn1 (h w hF _ _ (fun s w' hF' => k s w' hF' hn2))
theorem o_e (hg : o.guard = none) (h : Ev1 P N w0 ws P0 o e L e' L') (k : ∀ s, O P N w0 ws P0 ops rest Q (e' s) (L' s)) : O P N w0 ws P0 ops (o :: rest) Q e L := o_ew (zav hg _) h k
theorem o_nil {α : Type} (dk : Kd α) (u : Nat) (k : O P N w0 ws P0 ops rest Q e (row dk u (.slice none 0 0) [] :: L)) : O P N w0 ws P0 ops rest Q e L := fun w hF hd => k w (hF.row_nil dk u) hd
end
/-! ### pure words -/
section
variable {α : Type}
def ap (xs ys : List α) : Option (List α) := if xs.length + ys.length ≤ 1000000000 then some (xs ++ ys) else none
def mk0 (n : Int) (z : α) : Option (List α) := if 0 ≤ n ∧ n ≤ 1000000000 then some (List.replicate n.toNat z) else none
def st (xs : List α) (i : Int) (v : α) : Option (List α) := if 0 ≤ i ∧ i < xs.length then some (xs.set i.toNat v) else none
def ct (xs : List α) (l h : Int) : Option (List α) := if 0 ≤ l ∧ l ≤ h ∧ h ≤ xs.length then some ((xs.take h.toNat).drop l.toNat) else none
end
/-! ### plain kinds: an element is told by its cells alone -/
def flat {α : Type} (enc : α → List Value) (n : Nat) (hl : ∀ x, (enc x).length = n) (h1 : ∀ x, ∀ u ∈ enc x, u.oneCell' = true) : Kd α where
 sz := n
 E := []
 K := fun _ x cs => cs = enc x
 M := fun _ _ _ x cs => cs = enc x
 K_len := fun h => by rw [h]; exact hl _
 K_one := fun h u hu => by rw [h] at hu; exact h1 _ u hu
 K_below := fun _ h => h
 K_of_M := fun h => h
 M_mono := fun _ h => h
 M_bound := fun h => h
 M_move := fun _ h => h
 M_lower := fun _ h => h
section
variable {P : Program} {N : Md} {w0 ws : World} {P0 : Nat → Prop} {e : Nat → Value} {L : List (Thing w0.heap.size)} {d : Tmp} {ty : TypeId} {pos : String} {af : Array Edge} {g : Option (Nat × Bool)} {x y : Operand} {v : Value} {t u : TypeId}
theorem val_ev {o : Oper} {w w1 : World} {K : Act → World → Prop} {Q : Post} (hr : (execOp (ev N e) o).run P w = .ok (.value v) w1) (hk : K (act N (match o.dst with | some d => upd e d v | none => e)) w1) : Oper.wp P o (act N e) w K Q := by
 unfold Oper.wp
 rw [act_eval, hr]
 show K ((act N e).put o.dst v) w1
 cases hd : o.dst with
 | none => rw [hd] at hk; exact hk
 | some d => rw [hd] at hk; rw [act_put]; exact hk
theorem skip_ev {o : Oper} {w w1 : World} {K : Act → World → Prop} {Q : Post} (hd : o.dst = none) (hr : (execOp (ev N e) o).run P w = .ok .skip w1) (hk : K (act N e) w1) : Oper.wp P o (act N e) w K Q := by
 unfold Oper.wp
 rw [act_eval, hr]
 show K ((act N e).put o.dst undef) w1
 rw [hd]
 exact hk
theorem run_store1 {w : World} {a : Addr} (hz : (P.info? t).map (·.size) = some 1) (hv : v.oneCell' = true) (hc : (w.cell? a).isSome = true) (hf : w.frozen? a = false) : (storeVar t a v).run P w = .ok () (w.setCell a v) := by
 obtain ⟨ti, hti, hs⟩ := Option.map_eq_some_iff.1 hz
 have hcs : v.cells = #[v] := by cases v <;> first | rfl | cases hv
 obtain ⟨c, hc⟩ := Option.isSome_iff_exists.1 hc
 have h1 := run_store P w a v .plain hv
 rw [hc] at h1
 simp only [hf, Bool.false_eq_true, if_false] at h1
 have ha : a.add 0 = a := by simp [Addr.add]
 simp [storeVar, sizeOf, typeInfo, hti, hs, hcs, storeCells, ha, h1]
theorem e_box {cs : Array Value} (hx : (ev N e x).cells = cs) : Ev1 P N w0 ws P0 ⟨some d, .box t x, ty, pos, af, g⟩ e L (fun b : Nat => upd e d (.pointer (some ⟨b, 0, none⟩))) (fun b => box b t cs :: L) := fun w hF K Q k =>
 val_ev (w1 := w.alloc (.cells cs t (0, 0))) (v := .pointer (some ⟨w.heap.size, 0, none⟩)) (by subst hx; simp [execOp, Instr.box, newVar, newRow]) (k w.heap.size _ (hF.box_alloc cs t))
theorem zab {z : Value} {cs : Array Value} (hz : (P.info? t).bind (·.zero) = some z) (hc : z.cells = cs) : Ev1 P N w0 ws P0 ⟨some d, .alloc t, ty, pos, af, g⟩ e L (fun b : Nat => upd e d (.pointer (some ⟨b, 0, none⟩))) (fun b => box b t cs :: L) := fun w hF K Q k =>
 val_ev (w1 := w.alloc (.cells cs t (0, 0))) (v := .pointer (some ⟨w.heap.size, 0, none⟩)) (by
  subst hc
  obtain ⟨i, hi, hz⟩ := Option.bind_eq_some_iff.1 hz
  simp [execOp, Instr.alloc, zeroValue, typeInfo, hi, hz, newVar, newRow]) (k w.heap.size _ (hF.box_alloc cs t))
theorem za9 {i b bt j : Nat} {cs cs' : Array Value} (hi : L[i]? = some (box b bt cs)) (hx : ev N e x = .pointer (some ⟨b, j, none⟩)) (hy : ev N e y = v) (hv : v.oneCell' = true) (hz : (P.info? t).map (·.size) = some 1) (hj : (cs[j]?).isSome = true) (hc : cs.setIfInBounds j v = cs') : Ev1 P N w0 ws P0 ⟨none, .store t x y, ty, pos, af, g⟩ e L (fun _ : Unit => e) (fun _ => L.set i (box b bt cs')) := fun w hF K Q k =>
 skip_ev rfl (w1 := w.setCell ⟨b, j, none⟩ v) (by
  subst hy
  obtain ⟨ti, hti, hs⟩ := Option.map_eq_some_iff.1 hz
  have hb := hF.zb2 hi
  have hcell : (w.cell? ⟨b, j, none⟩).isSome = true := by rw [blk_cell hb j]; exact hj
  have hfr := blk_frozen hb j
  simp [execOp, hx, Instr.storeAt, Instr.sureAddr, run_store1 hz hv hcell hfr]) (k () _ (hF.box_set hi j v hc))
/-- A whole box is written. -/
theorem zac {i b bt : Nat} {cs : Array Value} {ls : List Value} (hi : L[i]? = some (box b bt cs)) (hx : ev N e x = .pointer (some ⟨b, 0, none⟩)) (hy : ev N e y = .agg ls.toArray) (hz : (P.info? t).map (·.size) = some ls.length) (ho : cs.size = ls.length) (h1 : ls.all (·.oneCell') = true) : Ev1 P N w0 ws P0 ⟨none, .store t x y, ty, pos, af, g⟩ e L (fun _ : Unit => e) (fun _ => L.set i (box b bt ls.toArray)) := fun w hF K Q k => by
 obtain ⟨F, f1, f2, f3⟩ := hF.focus hi
 refine skip_ev rfl (w1 := w.setRow b ls.toArray) ?_ (k () _ ?_)
 ·simp [execOp, hx, hy, Instr.storeAt, Instr.sureAddr, run_storeVar_row w b bt t cs ls.toArray f1.2.2 (by simpa using hz) (by simpa using ho) (by simpa using h1)]
 ·have hk : ∀ k, k ≠ b → (w.setRow b ls.toArray).heap[k]? = w.heap[k]? := fun k hk => by simp [World.setRow, Array.getElem?_modify, Ne.symm hk]
  have hs : (w.setRow b ls.toArray).heap.size = w.heap.size := by simp [World.setRow]
  have hb := f1.2.1
  refine f3 _ _ ⟨rfl, rfl, rfl, by omega, fun k hk2 => hk k (by omega)⟩ ⟨by omega, fun k _ hn => hk k (fun he => hn (by rw [he]; exact f1.1))⟩ ⟨.inl f1.1, f1.2.1, ?_⟩
  show (w.heap.modify b _)[b]? = _
  rw [Array.getElem?_modify, if_pos rfl, f1.2.2]
  rfl
/-- A cell of a row of scalars is written. -/
theorem e_set {α : Type} {enc : α → Value} {h1 : ∀ x : α, (enc x).oneCell' = true} {i eb n c : Nat} {A : Option Addr} {xs zs : List α} {q : α} {m : Int} (hi : L[i]? = some (row (Kd.scalar enc h1) eb (.slice A n c) xs)) (hx : ev N e x = .pointer (some ((adr A).add (m.toNat * 1)))) (hy : ev N e y = enc q) (hz : (P.info? t).map (·.size) = some 1) (hg : st xs m q = some zs) : Ev1 P N w0 ws P0 ⟨none, .store t x y, ty, pos, af, g⟩ e L (fun _ : Unit => e) (fun _ => L.set i (row (Kd.scalar enc h1) eb (.slice A n c) zs)) := fun w hF K Q k => by
 unfold st at hg
 split at hg
 ·rename_i hm
  obtain rfl := Option.some.inj hg
  obtain ⟨ok, hR, _, hX⟩ := hF.row_append hi
  obtain ⟨g0, c0, he, _⟩ := Kd.R_form hR (by omega)
  injection he with e1 e2 e3
  subst e1 e2 e3
  have hc := Kd.R_celln q hR m hm.1 (by omega)
  have hP := Kd.R_putg hR m q
  have ha : ((adr (some ⟨g0, 0, none⟩)).add (m.toNat * 1)) = ⟨g0, m.toNat, none⟩ := by rw [Nat.mul_one]; exact add_plain _ _
  rw [ha] at hx
  refine skip_ev rfl (w1 := w.setCell ⟨g0, m.toNat, none⟩ (enc q)) ?_ (k () _ (hX _ _ _ hP.1 (by simpa [Value.ownBlock] using hP.2)))
  simp [execOp, hx, hy, Instr.storeAt, Instr.sureAddr, run_store1 hz (h1 q) (by rw [hc.1]; rfl) hc.2]
 ·cases hg
/-! a struct in a row -/
theorem reps_flat {α : Type} {enc : α → List Value} {sz : Nat} {hl : ∀ x, (enc x).length = sz} {h1 : ∀ x, ∀ u ∈ enc x, u.oneCell' = true} {w : World} {base : Nat} {ok : Nat → Prop} (xs : List α) : Reps ((flat enc sz hl h1).M w base ok) sz xs (xs.flatMap enc) := by
 induction xs with
 | nil => exact Reps.none _ _
 | cons x xs ih =>
  have hlen : ∀ ys : List α, (ys.flatMap enc).length = ys.length * sz := fun ys => by
   induction ys with
   | nil => simp
   | cons y ys ih => simp [List.flatMap_cons, hl, ih, Nat.add_mul, Nat.add_comm]
  refine ⟨hlen (x :: xs), fun j p hj => ?_⟩
  cases j with
  | zero =>
   obtain rfl : x = p := by simpa using hj
   rw [List.flatMap_cons, Nat.zero_mul, List.drop_zero, List.take_append_of_le_length (by rw [hl]; exact Nat.le_refl _), List.take_of_length_le (by rw [hl]; exact Nat.le_refl _)]
   exact rfl
  | succ j =>
   have := ih.2 j p (by simpa using hj)
   rw [List.flatMap_cons, List.drop_append, List.drop_eq_nil_of_le (by rw [hl, Nat.succ_mul]; exact Nat.le_add_left _ _), List.nil_append, hl, show (j + 1) * sz - sz = j * sz by rw [Nat.succ_mul]; omega]
   exact this
/-- A literal: a row of its own. -/
theorem e_lit {α : Type} (dk : Kd α) (xs : List α) {n : Nat} {parts : List (Nat × Operand)} {vs : List (Nat × Value)} {bytes : Nat} {cs : List Value} {z : Value} (ht : P.underlying t = some (.slice u)) (hinfo : (P.info? u).map (fun i => (i.zero, i.size, i.bytes)) = some (some z, dk.sz, bytes)) (hs0 : 0 < dk.sz) (hn : n = xs.length) (hn0 : 0 < n ∧ n * dk.sz ≤ 16777216) (hp : parts.map (fun p => (p.1, ev N e p.2)) = vs) (hf : Instr.fill (fun i => some (i * dk.sz, dk.sz)) (((List.range (n * dk.sz)).map (z.cells[· % z.cells.size]!)).toArray) vs = some cs.toArray) (hr : ∀ w base, Reps (dk.M w base (fun _ => False)) dk.sz xs cs) :
  Ev1 P N w0 ws P0 ⟨some d, .buildSlice t n parts.toArray, ty, pos, af, g⟩ e L (fun s : Option Addr × Nat => upd e d (.slice s.1 xs.length s.2)) (fun s => row dk u (.slice s.1 xs.length s.2) xs :: L) := fun w hF K Q k => by
 obtain ⟨ie, hie, hzz⟩ := Option.map_eq_some_iff.1 hinfo
 simp only [Prod.mk.injEq] at hzz
 obtain ⟨hz, hs, _⟩ := hzz
 have hp2 : parts.toArray.map (fun (i, x) => (i, ev N e x)) = vs.toArray := by subst hp; simp
 have hrg : ((Array.range (n * dk.sz)).map (z.cells[· % z.cells.size]!)) = (((List.range (n * dk.sz)).map (z.cells[· % z.cells.size]!)).toArray) := by rw [← List.toArray_range, List.map_toArray]
 have hrun := run_buildSlice (P := P) w t u n vs.toArray cs.toArray ie z ht hie hz (by rw [hs]; omega) (by rw [hs]; have := Nat.mul_pos hn0.1 hs0; omega) (by rw [hs, hrg]; exact hf)
 subst hn
 have hR : dk.R u (w.alloc (.cells cs.toArray u)) w0.heap.size (fun k => w.heap.size ≤ k) (.slice (some ⟨w.heap.size, 0, none⟩) xs.length xs.length) xs := by
  refine ⟨fun k hk => ?_, cs, ?_, (hr _ _).imp_ (fun p c hp => dk.M_mono (fun k hk => hk.elim) hp)⟩
  ·have : w.heap.size = k := by simpa [Value.ownBlock] using hk
   omega
  ·have h2 := World.ownsRow_lit (base := w0.heap.size) (e := u) (size := dk.sz) w cs.toArray xs.length hF.size (by have := Nat.le_mul_of_pos_right xs.length hs0; simp [maxLen]; omega) (by have := (hr w 0).1; simpa using this)
   simpa using h2
 refine val_ev (w1 := w.alloc (.cells cs.toArray u)) (v := .slice (some ⟨w.heap.size, 0, none⟩) xs.length xs.length) ?_ (k (some ⟨w.heap.size, 0, none⟩, xs.length) _ (hF.row_lit hR (World.grownBy_alloc w _ none)))
 simp only [execOp, hp2, Sem.run_bind, hrun]
 rfl
/-- An empty literal. -/
theorem e_lit0 {α : Type} (dk : Kd α) {q : Option Value × Nat × Nat} (ht : P.underlying t = some (.slice u)) (hinfo : (P.info? u).map (fun i => (i.zero, i.size, i.bytes)) = some q) : Ev1 P N w0 ws P0 ⟨some d, .buildSlice t 0 #[], ty, pos, af, g⟩ e L (fun s : Option Addr × Nat => upd e d (.slice s.1 ([] : List α).length s.2)) (fun s => row dk u (.slice s.1 ([] : List α).length s.2) [] :: L) := fun w hF K Q k => by
 obtain ⟨ie, hie, _⟩ := Option.map_eq_some_iff.1 hinfo
 have hR : dk.R u (w.alloc (.cells #[] u)) w0.heap.size (fun k => w.heap.size ≤ k) (.slice (some ⟨w.heap.size, 0, none⟩) 0 0) [] := by
  refine ⟨fun k hk => ?_, [], ?_, Reps.none _ _⟩
  ·have : w.heap.size = k := by simpa [Value.ownBlock] using hk
   omega
  ·have h2 := World.ownsRow_lit (base := w0.heap.size) (e := u) (size := dk.sz) w #[] 0 hF.size (by simp [maxLen]) (by simp)
   simpa using h2
 refine val_ev (w1 := w.alloc (.cells #[] u)) (v := .slice (some ⟨w.heap.size, 0, none⟩) 0 0) ?_ (k (some ⟨w.heap.size, 0, none⟩, 0) _ (hF.row_lit hR (World.grownBy_alloc w _ none)))
 simp [execOp, Instr.buildSlice, run_underlying ht, sizeOf, typeInfo, hie, Instr.fill, newRow]
 rw [show (Array.range 0) = #[] from by simp, Array.map_empty]
/-- make -/
theorem e_make {α : Type} (dk : Kd α) (z0 : α) {zs : List α} {n : Int} {z : Value} {bytes : Nat} (ht : P.underlying t = some (.slice u)) (hinfo : (P.info? u).map (fun i => (i.zero, i.size, i.bytes)) = some (some z, dk.sz, bytes)) (hz : z.cells.size = dk.sz) (hs0 : 0 < dk.sz) (hb : 0 < bytes ∧ bytes ≤ 100000) (hzero : ∀ w base, dk.M w base (fun _ => False) z0 z.cells.toList) (hx : ev N e x = .int .i64 n) (hy : ev N e y = .int .i64 n) (hg : mk0 n z0 = some zs) :
  Ev1 P N w0 ws P0 ⟨some d, .makeSlice t x y, ty, pos, af, g⟩ e L (fun s : Option Addr × Nat => upd e d (.slice s.1 zs.length s.2)) (fun s => row dk u (.slice s.1 zs.length s.2) zs :: L) := fun w hF K Q k => by
 unfold mk0 at hg
 split at hg
 ·rename_i hn
  obtain rfl := Option.some.inj hg
  have h := Kd.R_make_step (P := P) (ops := #[⟨some d, .makeSlice t x y, ty, pos, af, none⟩]) (o := ⟨some d, .makeSlice t x y, ty, pos, af, none⟩) (a := act N e) (Q := Q) (Kc := K) dk (w0 := w0) (W := w) w0.heap.size u (zav rfl _) rfl t x y rfl n (by rw [act_eval]; exact hx) (by rw [act_eval]; exact hy) ht z bytes hinfo hz hs0 hb.1 z0 (ok := fun k => w.heap.size ≤ k) (okp := fun _ => False) (hzero _ _) (fun _ h => h.elim) (Nat.le_refl _) hn.1 (by
   have h1 : n.toNat ≤ 1000000000 := by omega
   have := Nat.mul_le_mul h1 hb.2
   omega) hF.bel hF.size (fun v1 w1 hr hB hgr _ => by
   obtain ⟨A, c, rfl⟩ := Kd.R_slice hr
   show K ((act N e).put (some d) _) w1
   rw [act_put]
   exact k (A, c) w1 (hF.row_lit hr hgr))
  rw [if_pos (zav rfl _)] at h
  exact h
 ·cases hg
/-- append of a row of one's own (its elements go over), or of any row of a plain kind -/
theorem e_app {α : Type} {dk : Kd α} {i j n c m cm : Nat} {A B : Option Addr} {xs ys zs : List α} {z : Value} {bytes : Nat} (ht : P.underlying t = some (.slice u)) (hinfo : (P.info? u).map (fun i => (i.zero, i.size, i.bytes)) = some (some z, dk.sz, bytes)) (hz : z.cells.size = dk.sz) (hs0 : 0 < dk.sz) (hb : 0 < bytes ∧ bytes ≤ 100000) (hij : Nat.beq i j = false) (hi : L[i]? = some (row dk u (.slice A n c) xs)) (hj : L[j]? = some (row dk u (.slice B m cm) ys)) (hx : ev N e x = .slice A n c) (hy : ev N e y = .slice B m cm) (hg : ap xs ys = some zs) :
  Ev1 P N w0 ws P0 ⟨some d, .call ⟨.builtin .append, #[x, y], #[t, t]⟩, ty, pos, af, g⟩ e L (fun s : Option Addr × Nat => upd e d (.slice s.1 zs.length s.2)) (fun s => (L.set j gone).set i (row dk u (.slice s.1 zs.length s.2) zs)) := fun w hF K Q k => by
 unfold ap at hg
 split at hg
 ·rename_i hn
  obtain rfl := Option.some.inj hg
  have hne : i ≠ j := fun he => by rw [he] at hij; simp at hij
  obtain ⟨ok, okp, hR, hR2, hok, hfresh, hX⟩ := hF.row_append2 hne hi hj
  have hm := Kd.R_reads' hR2
  obtain ⟨h0, inner, hown, hreps⟩ := hR2
  obtain ⟨A2, c2, he, hrd⟩ := own_reads_row hown hreps rfl
  injection he with e1 e2 e3
  subst e1 e2 e3
  have h := Kd.R_append_rows_step (P := P) (ops := #[⟨some d, .call ⟨.builtin .append, #[x, y], #[t, t]⟩, ty, pos, af, none⟩]) (o := ⟨some d, .call ⟨.builtin .append, #[x, y], #[t, t]⟩, ty, pos, af, none⟩) (a := act N e) (Q := Q) (Kc := K) dk (w0 := w0) (W := w) w0.heap.size (zav rfl _) x y t u z bytes rfl ht hinfo hz hs0 hb.1 (.slice A n c) xs ys B ys.length cm ok okp (by rw [act_eval]; exact hx) (by rw [act_eval]; exact hy) hR hrd (fun p cs hp => dk.M_mono (fun k hk => hk.1) hp) hok hfresh hF.bel hF.size (by
   have := Nat.mul_le_mul hn hb.2
   omega) (fun v1 w1 hr hB hgr _ => by
   obtain ⟨A1, c1, rfl⟩ := Kd.R_slice hr
   show K ((act N e).put (some d) _) w1
   rw [act_put]
   exact k (A1, c1) w1 (hX _ _ _ hr hgr))
  rw [if_pos (zav rfl _)] at h
  exact h
 ·cases hg
theorem e_appr {α : Type} {dk : Kd α} {i n c m cm : Nat} {A B : Option Addr} {xs ys zs : List α} {z : Value} {bytes : Nat} (ht : P.underlying t = some (.slice u)) (hinfo : (P.info? u).map (fun i => (i.zero, i.size, i.bytes)) = some (some z, dk.sz, bytes)) (hz : z.cells.size = dk.sz) (hs0 : 0 < dk.sz) (hb : 0 < bytes ∧ bytes ≤ 100000) (hKM : ∀ w base p cs, dk.K w p cs → dk.M w base (fun _ => False) p cs) (hi : L[i]? = some (row dk u (.slice A n c) xs)) (hC : ∀ w, Fr w0 ws P0 L w → dk.C w B m ys) (hx : ev N e x = .slice A n c) (hy : ev N e y = .slice B m cm) (hg : ap xs ys = some zs) :
  Ev1 P N w0 ws P0 ⟨some d, .call ⟨.builtin .append, #[x, y], #[t, t]⟩, ty, pos, af, g⟩ e L (fun s : Option Addr × Nat => upd e d (.slice s.1 zs.length s.2)) (fun s => L.set i (row dk u (.slice s.1 zs.length s.2) zs)) := fun w hF K Q k => by
 unfold ap at hg
 split at hg
 ·rename_i hn
  obtain rfl := Option.some.inj hg
  obtain ⟨ok, hR, hfresh, hX⟩ := hF.row_append hi
  have hrd := hC w hF
  have hm : ys.length = m := hrd.1
  have h := Kd.R_append_rows_step (P := P) (ops := #[⟨some d, .call ⟨.builtin .append, #[x, y], #[t, t]⟩, ty, pos, af, none⟩]) (o := ⟨some d, .call ⟨.builtin .append, #[x, y], #[t, t]⟩, ty, pos, af, none⟩) (a := act N e) (Q := Q) (Kc := K) dk (w0 := w0) (W := w) w0.heap.size (zav rfl _) x y t u z bytes rfl ht hinfo hz hs0 hb.1 (.slice A n c) xs ys B m cm ok (fun _ => False) (by rw [act_eval]; exact hx) (by rw [act_eval]; exact hy) hR hrd (hKM _ _) (fun _ h => h.elim) hfresh hF.bel hF.size (by
   have := Nat.mul_le_mul (show xs.length + m ≤ 1000000000 by omega) hb.2
   omega) (fun v1 w1 hr hB hgr _ => by
   obtain ⟨A1, c1, rfl⟩ := Kd.R_slice hr
   show K ((act N e).put (some d) _) w1
   rw [act_put]
   exact k (A1, c1) w1 (hX _ _ _ hr hgr))
  rw [if_pos (zav rfl _)] at h
  exact h
 ·cases hg
/-- A call: the things at the head go over to it. -/
theorem e_call {σ : Type} {f : FuncId} {fn : Func} {xs : List Operand} {ts : Array TypeId} {args : List Value} {callee : Operand} {first cap : List Value} (LR : σ → List (Thing w0.heap.size)) (v : σ → Value) (T0 : List (Thing w0.heap.size)) (Z : Below w0.heap.size w0 ws) (hfn : P.funcs[f]? = some fn) (hnm : (fn.name == "runtime.NumGoroutine") = false) (hbd : fn.body.isNone = false) (hc : ev N e callee = .func (.func f) first.toArray cap.toArray) (ha : first ++ xs.map (ev N e) ++ cap = args)
  (hcall : ∀ w P1, Fr w0 w P1 T0 w → Below w0.heap.size w0 w → (∀ p, Stable ws P0 p → Stable w P1 p) → (∀ (j : Nat) (T : Thing w0.heap.size), L[j]? = some T → Own w P1 T) → Calls P f args.toArray w (fun en w' => ∃ s, en = .returned (v s) ∧ Fr w0 w P1 (LR s) w')) :
  Ev1 P N w0 ws P0 ⟨some d, .call ⟨.value callee, xs.toArray, ts⟩, ty, pos, af, g⟩ e (T0 ++ L) (fun s => upd e d (v s)) (fun s => LR s ++ L) := fun w hF K Q k => by
 obtain ⟨P1, h1, h2, h3, h4⟩ := hF.call Z
 have hrun : (execOp (ev N e) (⟨some d, .call ⟨.value callee, xs.toArray, ts⟩, ty, pos, af, g⟩ : Oper)).run P w = .ok (.enter f args.toArray) w := by
  have hnm' : fn.name ≠ "runtime.NumGoroutine" := by simpa using hnm
  have hbd' : fn.body ≠ none := fun he => by rw [he] at hbd; cases hbd
  subst ha
  simp [execOp, resolve, hc, Deferred.ofValue, invoke, callFunc, hfn, hnm', hbd']
 unfold Oper.wp
 rw [act_eval, hrun]
 refine (hcall w P1 h1 hF.bel h2 h3).mono ?_
 rintro en w' ⟨s, rfl, hF'⟩
 show K ((act N e).put (some d) (v s)) w'
 rw [act_put]
 exact k s w' (h4 _ _ hF')
/-- The post of a contract: letters s. -/
def Post1 (w0 ws : World) (P0 : Nat → Prop) {σ : Type} (v : σ → Value) (LR : σ → List (Thing w0.heap.size)) : Ending → World → Prop := fun en w => ∃ s, en = .returned (v s) ∧ Fr w0 ws P0 (LR s) w
/-- A call: the first m things go over to it. -/
theorem za5 {σ : Type} {f : FuncId} {fn : Func} {xs : List Operand} {ts : Array TypeId} {args : List Value} {callee : Operand} {first cap : List Value} {LR : σ → List (Thing w0.heap.size)} {v : σ → Value} (m : Nat) (Z : Below w0.heap.size w0 ws) (hfn : P.funcs[f]? = some fn) (hnm : (fn.name == "runtime.NumGoroutine") = false) (hbd : fn.body.isNone = false) (hc : ev N e callee = .func (.func f) first.toArray cap.toArray) (ha : first ++ xs.map (ev N e) ++ cap = args)
  (hcall : ∀ w P1, Fr w0 w P1 (L.take m) w → Below w0.heap.size w0 w → (∀ p, Stable ws P0 p → Stable w P1 p) → (∀ (j : Nat) (T : Thing w0.heap.size), (L.drop m)[j]? = some T → Own w P1 T) → Calls P f args.toArray w (Post1 w0 w P1 v LR)) :
  Ev1 P N w0 ws P0 ⟨some d, .call ⟨.value callee, xs.toArray, ts⟩, ty, pos, af, g⟩ e L (fun s => upd e d (v s)) (fun s => LR s ++ L.drop m) := by
 have h := e_call (d := d) (ty := ty) (pos := pos) (af := af) (g := g) (ts := ts) (L := L.drop m) LR v (L.take m) Z hfn hnm hbd hc ha hcall
 rwa [List.take_append_drop] at h
theorem stab_nil {α : Type} (dk : Kd α) {w : World} {S : Nat → Prop} : Stable w S (fun W => dk.C W none ([] : List α).length []) := fun W _ => Kd.C_nil dk W
theorem Own.cap {α : Type} {dk : Kd α} {eb n c base : Nat} {A : Option Addr} {xs : List α} {w : World} {P1 : Nat → Prop} (h : Own w P1 (Frame.row (base := base) dk eb (.slice A n c) xs)) : n ≤ c := by
 obtain ⟨F, hF, _⟩ := h
 exact (Kd.R_reads' hF).2.1
end
def sap (a b : ByteArray) : Option ByteArray := if a.size + b.size ≤ 1000000000 then some (a ++ b) else none
end Go.Proofs.Ytiaohjciddbpoaa.Frame
