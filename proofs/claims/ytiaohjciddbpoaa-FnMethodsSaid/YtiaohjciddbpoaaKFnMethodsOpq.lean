/- The engine's operations that only compute or read. -/
import Derived.Test.YtiaohjciddbpoaaKFnMethodsEng
set_option linter.unusedVariables false
set_option linter.unusedSimpArgs false
namespace Go.Proofs.Ytiaohjciddbpoaa.Frame
open Go.RowKit Go.Proofs.YtiaohjciddbpoaaW.PrintWords
/-- An operation yields v and does nothing else, in each world that meets S. -/
def Qt (P : Program) (N : Md) (e : Nat → Value) (S : World → Prop) (o : Oper) (v : Value) : Prop := ∀ w, S w → (execOp (ev N e) o).run P w = .ok (.value v) w
section
variable {P : Program} {N : Md} {w0 ws : World} {P0 : Nat → Prop} {ops : Array Oper} {Q : Post} {e : Nat → Value} {L : List (Thing w0.heap.size)} {o : Oper} {rest : List Oper} {d : Tmp} {v : Value}
theorem zav (hg : o.guard = none) (tmps : Array Value) : Region.wanted o (yielded ops tmps) = true := by simp [Region.wanted, hg]
theorem yielded_act {j : Nat} {oj : Oper} {dj : Tmp} {b : Bool} (hj : ops[j]? = some oj) (hd : oj.dst = some dj) (hv : ev N e (.tmp dj) = .bool b) : yielded ops (act N e).tmps j = some b := by
 have h := act_get (N := N) (e := e) dj
 have h2 : (act N e).tmps[dj]? = some (.bool b) := by
  rw [Array.getD_eq_getD_getElem?] at h
  have h3 : ((act N e).tmps[dj]?).getD undef = .bool b := h.trans hv
  cases hc : (act N e).tmps[dj]? with
  | none => rw [hc] at h3; cases h3
  | some x => rw [hc] at h3; exact congrArg some h3
 unfold yielded
 simp [hj, hd, h2]
theorem za4 {j : Nat} {b : Bool} {oj : Oper} {dj : Tmp} (hg : o.guard = some (j, b)) (hj : ops[j]? = some oj) (hd : oj.dst = some dj) (hv : ev N e (.tmp dj) = .bool b) : Region.wanted o (yielded ops (act N e).tmps) = true := by
 simp [Region.wanted, hg, yielded_act hj hd hv]
theorem za3 {j : Nat} {b b' : Bool} {oj : Oper} {dj : Tmp} (hg : o.guard = some (j, b)) (hj : ops[j]? = some oj) (hd : oj.dst = some dj) (hv : ev N e (.tmp dj) = .bool b') (hne : (b' == b) = false) : Region.wanted o (yielded ops (act N e).tmps) = false := by
 have : b' ≠ b := by simpa using hne
 simp [Region.wanted, hg, yielded_act hj hd hv, this]
theorem o_w (hw : Region.wanted o (yielded ops (act N e).tmps) = true) (hd : o.dst = some d) (hv : Qt P N e (Fr w0 ws P0 L) o v) (k : O P N w0 ws P0 ops rest Q (upd e d v) L) : O P N w0 ws P0 ops (o :: rest) Q e L := by
 intro w hF hnd
 obtain ⟨hn1, hn2⟩ := noDL_cons hnd
 unfold wpListIn
 rw [if_pos hw]
 refine oper_in hn1 ?_
 unfold Oper.wp
 rw [act_eval, hv w hF]
 show wpListIn N.F 0 P ops Q rest ((act N e).put o.dst v) w
 rw [hd]
 show wpListIn N.F 0 P ops Q rest ((act N e).put (some d) v) w
 rw [act_put]
 exact k w hF hn2
theorem o_q (hg : o.guard = none) (hd : o.dst = some d) (hv : Qt P N e (Fr w0 ws P0 L) o v) (k : O P N w0 ws P0 ops rest Q (upd e d v) L) : O P N w0 ws P0 ops (o :: rest) Q e L := o_w (zav hg _) hd hv k
theorem o_n (hw : Region.wanted o (yielded ops (act N e).tmps) = false) (hd : o.dst = some d) (k : O P N w0 ws P0 ops rest Q (upd e d undef) L) : O P N w0 ws P0 ops (o :: rest) Q e L := by
 intro w hF hnd
 unfold wpListIn
 rw [if_neg (by rw [hw]; simp), hd, act_put]
 exact ⟨fun _ _ => trivial, k w hF (noDL_cons hnd).2⟩
end
section
variable {P : Program} {N : Md} {S : World → Prop} {e : Nat → Value} {dst : Option Tmp} {ty : TypeId} {pos : String} {af : Array Edge} {g : Option (Nat × Bool)} {x y : Operand} {v : Value} {k : IntKind} {n m : Int}
theorem za2 (hx : ev N e x = v) : Qt P N e S ⟨dst, .move x, ty, pos, af, g⟩ v := fun w _ => by subst hx; rfl
theorem q_asg (hx : ev N e x = v) : Qt P N e S ⟨dst, .assign x, ty, pos, af, g⟩ v := fun w _ => by subst hx; rfl
theorem zak {c : Operand} (b : Bool) (hc : ev N e c = .bool b) (hv : (if b then ev N e x else ev N e y) = v) : Qt P N e S ⟨dst, .pick c x y, ty, pos, af, g⟩ v := fun w _ => by
 subst hv
 simp only [execOp, hc]
 rfl
theorem q_nil {a : Addr} (hx : ev N e x = .pointer (some a)) : Qt P N e S ⟨dst, .nilCheck x, ty, pos, af, g⟩ (.pointer (some a)) := fun w _ => by
 simp only [execOp, hx]
 rfl
theorem q_not {b : Bool} {t : TypeId} (hx : ev N e x = .bool b) : Qt P N e S ⟨dst, .unOp .not t x, ty, pos, af, g⟩ (.bool (!b)) := fun w _ => by
 simp only [execOp, hx]
 rfl
theorem q_func {f : Fn} {a b : List Operand} {a' b' : List Value} (ha : a.map (ev N e) = a') (hb : b.map (ev N e) = b') : Qt P N e S ⟨dst, .makeFunc f a.toArray b.toArray, ty, pos, af, g⟩ (.func f a'.toArray b'.toArray) := fun w _ => by
 subst ha hb
 simp only [execOp, List.map_toArray]
 rfl
theorem q_ext {i : Nat} {vs : Array Value} (hx : ev N e x = .tuple vs) (hv : vs[i]? = some v) : Qt P N e S ⟨dst, .extract x i, ty, pos, af, g⟩ v := fun w _ => by
 simp only [execOp, hx, Instr.extract, hv]
 rfl
section
variable {t t' : TypeId} (hx : ev N e x = .int k n) (hy : ev N e y = .int k m)
include hx hy
theorem q_lss : Qt P N e S ⟨dst, .binOp .lss t x y t', ty, pos, af, g⟩ (.bool (decide (n < m))) := fun w _ => by simp [execOp, hx, hy, eqGuard, binOp, Op.intCmp, pure, bind, Sem.bind]
theorem q_leq : Qt P N e S ⟨dst, .binOp .leq t x y t', ty, pos, af, g⟩ (.bool (decide (n ≤ m))) := fun w _ => by simp [execOp, hx, hy, eqGuard, binOp, Op.intCmp, pure, bind, Sem.bind]
theorem q_gtr : Qt P N e S ⟨dst, .binOp .gtr t x y t', ty, pos, af, g⟩ (.bool (decide (m < n))) := fun w _ => by simp [execOp, hx, hy, eqGuard, binOp, Op.intCmp, pure, bind, Sem.bind]
theorem q_geq : Qt P N e S ⟨dst, .binOp .geq t x y t', ty, pos, af, g⟩ (.bool (decide (m ≤ n))) := fun w _ => by simp [execOp, hx, hy, eqGuard, binOp, Op.intCmp, pure, bind, Sem.bind]
theorem q_eql : Qt P N e S ⟨dst, .binOp .eql t x y t', ty, pos, af, g⟩ (.bool (decide (n = m))) := fun w _ => by simp [execOp, hx, hy, eqGuard, binOp, Op.intCmp, pure, bind, Sem.bind]; rfl
theorem q_neq : Qt P N e S ⟨dst, .binOp .neq t x y t', ty, pos, af, g⟩ (.bool (decide (n ≠ m))) := fun w _ => by simp [execOp, hx, hy, eqGuard, binOp, Op.intCmp, pure, bind, Sem.bind, bne]; rfl
theorem q_add : Qt P N e S ⟨dst, .binOp .add t x y t', ty, pos, af, g⟩ (.int k (k.wrap (n + m))) := fun w _ => by simp [execOp, hx, hy, eqGuard, binOp, Op.intArith, pure, bind, Sem.bind]
theorem q_sub : Qt P N e S ⟨dst, .binOp .sub t x y t', ty, pos, af, g⟩ (.int k (k.wrap (n - m))) := fun w _ => by simp [execOp, hx, hy, eqGuard, binOp, Op.intArith, pure, bind, Sem.bind]
theorem q_mul : Qt P N e S ⟨dst, .binOp .mul t x y t', ty, pos, af, g⟩ (.int k (k.wrap (n * m))) := fun w _ => by simp [execOp, hx, hy, eqGuard, binOp, Op.intArith, pure, bind, Sem.bind]
end
theorem q_rem {t t' : TypeId} (hx : ev N e x = .int k n) (hy : ev N e y = .int k m) (h : m ≠ 0) : Qt P N e S ⟨dst, .binOp .rem t x y t', ty, pos, af, g⟩ (.int k (n.tmod m)) := fun w _ => by simp [execOp, hx, hy, eqGuard, binOp, Op.intDiv, h, pure, bind, Sem.bind]
theorem q_quo {t t' : TypeId} (hx : ev N e x = .int k n) (hy : ev N e y = .int k m) (h : m ≠ 0) : Qt P N e S ⟨dst, .binOp .quo t x y t', ty, pos, af, g⟩ (.int k (k.wrap (n.tdiv m))) := fun w _ => by simp [execOp, hx, hy, eqGuard, binOp, Op.intDiv, h, pure, bind, Sem.bind]
def mn (a b : Int) : Int := if b < a then b else a
def mx (a b : Int) : Int := if a < b then b else a
section
variable {t t' : TypeId}
theorem run_equal_bool (ht : P.underlying t = some .bool) (a b : Bool) (w : World) : (Op.equal t (.bool a) (.bool b)).run P w = .ok (a == b) w := by
 show (Op.equalIn (9999 + 1) t (.bool a) (.bool b)).run P w = _
 rw [Op.equalIn]
 rw [Sem.run_bind, run_underlying ht w]
 rfl
theorem q_bneq (ht : P.underlying t = some .bool) {a b : Bool} (hx : ev N e x = .bool a) (hy : ev N e y = .bool b) : Qt P N e S ⟨dst, .binOp .neq t x y t', ty, pos, af, g⟩ (.bool (a != b)) := fun w _ => by
 simp only [execOp, hx, hy, eqGuard, binOp, Sem.run_bind, run_equal_bool ht]
 rfl
theorem q_len {u : TypeId} {A : Option Addr} {a c : Nat} (ht : P.underlying t = some (.slice u)) (hx : ev N e x = .slice A a c) : Qt P N e S ⟨dst, .call ⟨.builtin .len, #[x], #[t]⟩, ty, pos, af, g⟩ (.int .i64 a) := fun w _ => by
 simp [execOp, resolve, hx, invoke, builtin, Builtin.len_, run_underlying ht w, goInt, Sem.run_bind]
theorem q_min (hx : ev N e x = .int k n) (hy : ev N e y = .int k m) : Qt P N e S ⟨dst, .call ⟨.builtin .min, #[x, y], #[t, t']⟩, ty, pos, af, g⟩ (.int k (mn n m)) := fun w _ => by
 simp [execOp, resolve, hx, hy, invoke, builtin, Builtin.min_, Builtin.min2, mn]
theorem q_max (hx : ev N e x = .int k n) (hy : ev N e y = .int k m) : Qt P N e S ⟨dst, .call ⟨.builtin .max, #[x, y], #[t, t']⟩, ty, pos, af, g⟩ (.int k (mx n m)) := fun w _ => by
 simp [execOp, resolve, hx, hy, invoke, builtin, Builtin.max_, Builtin.max2, mx]
/-! places -/
theorem add_add (a : Addr) (m j : Nat) : (a.add m).add j = a.add (m + j) := by
 unfold Addr.add
 by_cases hm : m = 0 <;> by_cases hj : j = 0 <;> simp [hm, hj, Nat.add_assoc]
theorem q_fldg {f off : Nat} {fs : Array Field} {fd : Field} {a : Addr} (hs : P.underlying t = some (.struct fs)) (hf : fs[f]? = some fd) (ho : fd.offset = off) (hz : ((P.info? fd.type).map (fun i => Nat.blt 0 i.size)) = some true) (hx : ev N e x = .pointer (some a)) : Qt P N e S ⟨dst, .fieldAddr t x f, ty, pos, af, g⟩ (.pointer (some (a.add off))) := fun w _ => by
 subst ho
 obtain ⟨i, hi, hb⟩ := Option.map_eq_some_iff.1 hz
 have h0 : ¬ i.size = 0 := fun h => by rw [h] at hb; simp [Nat.blt] at hb
 simp [execOp, hx, Instr.fieldAt, run_underlying hs w, hf, Instr.sureAddr, fieldPlace, sizeOf, typeInfo, hi, h0]
/-- The place of a field: a box. -/
theorem q_fld {f off : Nat} {fs : Array Field} {fd : Field} {b : Nat} (hs : P.underlying t = some (.struct fs)) (hf : fs[f]? = some fd) (ho : fd.offset = off) (hz : ((P.info? fd.type).map (fun i => Nat.blt 0 i.size)) = some true) (hx : ev N e x = .pointer (some ⟨b, 0, none⟩)) : Qt P N e S ⟨dst, .fieldAddr t x f, ty, pos, af, g⟩ (.pointer (some ⟨b, off, none⟩)) := by
 have h := q_fldg (S := S) (dst := dst) (ty := ty) (pos := pos) (af := af) (g := g) hs hf ho hz hx
 rwa [add_plain] at h
/-- .. an element of a row. -/
theorem q_flde {f off : Nat} {fs : Array Field} {fd : Field} {a : Addr} {m : Nat} (hs : P.underlying t = some (.struct fs)) (hf : fs[f]? = some fd) (ho : fd.offset = off) (hz : ((P.info? fd.type).map (fun i => Nat.blt 0 i.size)) = some true) (hx : ev N e x = .pointer (some (a.add m))) : Qt P N e S ⟨dst, .fieldAddr t x f, ty, pos, af, g⟩ (.pointer (some (a.add (m + off)))) := by
 have h := q_fldg (S := S) (dst := dst) (ty := ty) (pos := pos) (af := af) (g := g) hs hf ho hz hx
 rwa [add_add] at h
def adr (A : Option Addr) : Addr := A.getD ⟨0, 0, none⟩
def gt {α : Type} (xs : List α) (i : Int) : Option α := if 0 ≤ i then xs[i.toNat]? else none
theorem gt_in {α : Type} {xs : List α} {i : Int} {v : α} (h : gt xs i = some v) : 0 ≤ i ∧ i.toNat < xs.length ∧ xs[i.toNat]? = some v := by
 unfold gt at h
 split at h
 ·exact ⟨by assumption, (List.getElem?_eq_some_iff.1 h).1, h⟩
 ·cases h
/-! reads -/
def cellTy (d : Option TypeDesc) : Bool := match d with | some (.struct _) | some (.array _ _) | none => false | _ => true
def aggTy (d : Option TypeDesc) : Bool := match d with | some (.struct _) | some (.array _ _) => true | _ => false
theorem loadVar_cell {w : World} {a : Addr} (ht : cellTy (P.underlying t) = true) (hc : w.cell? a = some v) : (loadVar t a).run P w = .ok v w := by
 cases hu : P.underlying t with
 | none => rw [hu] at ht; cases ht
 | some td =>
  rw [hu] at ht
  have hagg : (isAgg t).run P w = .ok false w := by
   unfold isAgg
   rw [Sem.run_bind, run_underlying hu w]
   cases td <;> first | rfl | cases ht
  simp [loadVar, Sem.run_bind, hagg, hc]
theorem loadVar_agg {w : World} {a : Addr} {cs : List Value} (ht : aggTy (P.underlying t) = true) (hz : (P.info? t).map (·.size) = some cs.length) (hc : ∀ j u, cs[j]? = some u → w.cell? (a.add j) = some u) : (loadVar t a).run P w = .ok (.agg cs.toArray) w := by
 cases hu : P.underlying t with
 | none => rw [hu] at ht; cases ht
 | some td =>
  rw [hu] at ht
  obtain ⟨i, hi, hs⟩ := Option.map_eq_some_iff.1 hz
  have hagg : (isAgg t).run P w = .ok true w := by
   unfold isAgg
   rw [Sem.run_bind, run_underlying hu w]
   cases td <;> first | rfl | cases ht
  have hl : (loadCells a cs.length).run P w = .ok cs.toArray w := run_loadCells_list (P := P) w a cs hc
  simp [loadVar, Sem.run_bind, hagg, sizeOf, typeInfo, hi, hs, hl]
/-- A cell of a box. -/
theorem q_ldb {b j bt : Nat} {cs : Array Value} (ht : cellTy (P.underlying t) = true) (hx : ev N e x = .pointer (some ⟨b, j, none⟩)) (hB : ∀ w, S w → w.heap[b]? = some (.cells cs bt (0, 0))) (hv : cs[j]? = some v) : Qt P N e S ⟨dst, .load t x, ty, pos, af, g⟩ v := fun w hS => by
 have hc : w.cell? ⟨b, j, none⟩ = some v := (blk_cell (hB w hS) j).trans hv
 simp [execOp, hx, Instr.loadAt, Instr.sureAddr, loadVar_cell ht hc]
/-- A whole box. -/
theorem q_ldB {b bt n : Nat} {cs : Array Value} (ht : aggTy (P.underlying t) = true) (hz : (P.info? t).map (·.size) = some n) (hx : ev N e x = .pointer (some ⟨b, 0, none⟩)) (hB : ∀ w, S w → w.heap[b]? = some (.cells cs bt (0, 0))) (hn : cs.size = n) : Qt P N e S ⟨dst, .load t x, ty, pos, af, g⟩ (.agg cs) := fun w hS => by
 have h := loadVar_agg (P := P) (t := t) (w := w) (a := ⟨b, 0, none⟩) (cs := cs.toList) ht (by subst hn; simpa using hz) (fun j u hj => by
  rw [add_plain, blk_cell (hB w hS) j]
  simpa using hj)
 simp at h
 simp [execOp, hx, Instr.loadAt, Instr.sureAddr, h]
/-- An element of a row: its cell. -/
theorem q_lde {α : Type} {dk : Kd α} {a sz : Nat} {A : Option Addr} {xs : List α} {u : α} {cs : List Value} {off : Nat} (ht : cellTy (P.underlying t) = true) (hz : dk.sz = sz) (hx : ev N e x = .pointer (some ((adr A).add (n.toNat * sz + off)))) (hC : ∀ w, S w → dk.C w A a xs) (hg : gt xs n = some u) (hK : ∀ w c, dk.K w u c → c = cs) (hv : cs[off]? = some v) : Qt P N e S ⟨dst, .load t x, ty, pos, af, g⟩ v := fun w hS => by
 obtain ⟨h0, h1, h2⟩ := gt_in hg
 have hc := hC w hS
 have hl : xs.length = a := hc.1
 obtain ⟨ad, rfl, hh⟩ := hc.2.2 (by omega)
 obtain ⟨c, _, hk, hcell⟩ := hh _ _ h2
 obtain rfl := hK w c hk
 subst hz
 have := hcell off v hv
 simp [execOp, hx, Instr.loadAt, Instr.sureAddr, adr, loadVar_cell ht this]
theorem q_ldE {α : Type} {dk : Kd α} {a sz m : Nat} {A : Option Addr} {xs : List α} {u : α} {cs : List Value} (ht : aggTy (P.underlying t) = true) (hi : (P.info? t).map (·.size) = some m) (hz : dk.sz = sz) (hx : ev N e x = .pointer (some ((adr A).add (n.toNat * sz)))) (hC : ∀ w, S w → dk.C w A a xs) (hg : gt xs n = some u) (hK : ∀ w c, dk.K w u c → c = cs) (hm : cs.length = m) : Qt P N e S ⟨dst, .load t x, ty, pos, af, g⟩ (.agg cs.toArray) := fun w hS => by
 subst hm
 obtain ⟨h0, h1, h2⟩ := gt_in hg
 have hc := hC w hS
 have hl : xs.length = a := hc.1
 obtain ⟨ad, rfl, hh⟩ := hc.2.2 (by omega)
 obtain ⟨c, _, hk, hcell⟩ := hh _ _ h2
 obtain rfl := hK w c hk
 subst hz
 have h := loadVar_agg (P := P) (t := t) (w := w) (a := ad.add (n.toNat * dk.sz)) (cs := c) ht hi (fun j u hj => by rw [add_add]; exact hcell j u hj)
 simp [execOp, hx, Instr.loadAt, Instr.sureAddr, adr, h]
/-! a slice cut -/
theorem q_cut {u : TypeId} {sz a c : Nat} {A : Option Addr} {lo hi : Option Operand} (l h : Int) (ht : P.underlying t = some (.slice u)) (hz : (P.info? u).map (·.size) = some sz) (hx : ev N e x = .slice A a c) (hl : (match lo with | some o => ∃ k, ev N e o = .int k l | none => l = 0)) (hh : (match hi with | some o => ∃ k, ev N e o = .int k h | none => h = (a : Int))) (h0 : 0 ≤ l ∧ l ≤ h ∧ h ≤ (c : Int)) : Qt P N e S ⟨dst, .slice t x lo hi none, ty, pos, af, g⟩ (.slice (if c = l.toNat then A else A.map (·.add (l.toNat * sz))) (h.toNat - l.toNat) (c - l.toNat)) := fun w _ => by
 obtain ⟨i, hi2, hs⟩ := Option.map_eq_some_iff.1 hz
 have hel : P.elem t = u := by simp [Program.elem, ht]
 have ht2 : P.underlying t = some (.slice (P.elem t)) := by rw [hel]; exact ht
 have hsz : ∀ w, (sizeOf (P.elem t)).run P w = .ok sz w := fun w => by rw [hel]; simp [sizeOf, typeInfo, hi2, hs]
 cases lo with
 | none =>
  cases hi with
  | none =>
   subst hl hh
   have := run_slice_all (P := P) w t A a c ht2
   simp [execOp, hx, run_sliceAt_slice _ _ _ _ _ _ ht2, this, hsz, sliced]
  | some oh =>
   subst hl
   obtain ⟨kh, hh⟩ := hh
   have := run_slice_h (P := P) w t A a c ht2 kh h h0.2.1 h0.2.2
   simp [execOp, hx, hh, run_sliceAt_slice _ _ _ _ _ _ ht2, this, hsz, sliced]
 | some ol =>
  obtain ⟨kl, hl⟩ := hl
  cases hi with
  | none =>
   subst hh
   have := run_slice_l (P := P) w t A a c ht2 kl l h0.1 h0.2.1
   simp [execOp, hx, hl, run_sliceAt_slice _ _ _ _ _ _ ht2, this, hsz, sliced]
  | some oh =>
   obtain ⟨kh, hh⟩ := hh
   have := run_slice_lh (P := P) w t A a c ht2 kl kh l h h0.1 h0.2.1 h0.2.2
   simp [execOp, hx, hl, hh, run_sliceAt_slice _ _ _ _ _ _ ht2, this, hsz, sliced]
theorem q_build {parts : List (Nat × Operand)} {vs : List (Nat × Value)} {cs : List Value} (hp : parts.map (fun p => (p.1, ev N e p.2)) = vs) (hb : P.built t vs = some cs.toArray) : Qt P N e S ⟨dst, .build t parts.toArray, ty, pos, af, g⟩ (.agg cs.toArray) := fun w _ => by
 have hp2 : parts.toArray.map (fun (i, x) => (i, ev N e x)) = vs.toArray := by subst hp; simp
 simp only [execOp, hp2, Sem.run_bind, run_build w t vs.toArray cs.toArray hb]
 rfl
end
end
end Go.Proofs.Ytiaohjciddbpoaa.Frame
