/- The engine: rules for walking code over frames, one lemma an operation. -/
import Derived.Test.YtiaohjciddbpoaaKFnMethodsFr
import Derived.OrdersHeld
import Derived.TacticsIn
import Derived.Sort.LoopGhostIn
set_option linter.unusedVariables false
set_option linter.unusedSimpArgs false
namespace Go.Proofs.Ytiaohjciddbpoaa.Frame
open Go.RowKit Go.Proofs.YtiaohjciddbpoaaW.PrintWords

/-! ### what stays while a call writes its own -/
structure KeptB (w W : World) (S : Nat → Prop) : Prop where
 kept : Kept w W S
 os : W.os = w.os
 tape : W.tape = w.tape
 output : W.output = w.output
def Stable (w : World) (S : Nat → Prop) (p : World → Prop) : Prop := ∀ W, KeptB w W S → p W
theorem KeptB.refl (w : World) (S : Nat → Prop) : KeptB w w S := ⟨Kept.refl _ _, rfl, rfl, rfl⟩
theorem KeptB.below {w W : World} (h : KeptB w W (fun _ => False)) : Below w.heap.size w W := ⟨h.os, h.tape, h.output, h.kept.1, fun i hi => h.kept.2 i hi (fun h => h)⟩
theorem KeptB.trans {w W W2 : World} {S S2 : Nat → Prop} (h : KeptB w W S) (k : KeptB W W2 S2) (hs : ∀ k, S2 k → S k ∨ w.heap.size ≤ k) : KeptB w W2 S :=
 ⟨h.kept.then_ k.kept hs, k.os.trans h.os, k.tape.trans h.tape, k.output.trans h.output⟩
section
variable {w0 ws w : World} {P0 : Nat → Prop} {L : List (Thing w0.heap.size)}
theorem Fr.keptB (h : Fr w0 ws P0 L w) (Z : Below w0.heap.size w0 ws) : KeptB ws w P0 :=
 ⟨h.kept, h.bel.os.trans Z.os.symm, h.bel.tape.trans Z.tape.symm, h.bel.output.trans Z.output.symm⟩
theorem Stable.now {p : World → Prop} (hp : Stable ws P0 p) (Z : Below w0.heap.size w0 ws) (h : Fr w0 ws P0 L w) : p w := hp w (h.keptB Z)
/-- What a caller keeps, told to its callee. -/
def Own (w : World) (P1 : Nat → Prop) {base : Nat} (T : Thing base) : Prop := ∃ F, T.P F w ∧ ∀ k, F k → ¬ P1 k ∧ k < w.heap.size
theorem Fr.call {Ts : List (Thing w0.heap.size)} (h : Fr w0 ws P0 (Ts ++ L) w) (Z : Below w0.heap.size w0 ws) : ∃ P1 : Nat → Prop, Fr w0 w P1 Ts w ∧ (∀ p, Stable ws P0 p → Stable w P1 p) ∧ (∀ (j : Nat) (T : Thing w0.heap.size), L[j]? = some T → Own w P1 T) ∧
  ∀ (Ts' : List (Thing w0.heap.size)) w', Fr w0 w P1 Ts' w' → Fr w0 ws P0 (Ts' ++ L) w' := by
 have hkb := h.keptB Z
 obtain ⟨hb, hk, Fs, h1, h2, h3⟩ := h
 have hR : ∀ (j : Nat) (T : Thing w0.heap.size), L[j]? = some T → (Ts ++ L)[Ts.length + j]? = some T := fun j T hj => by
  rw [List.getElem?_append_right (by omega), Nat.add_sub_cancel_left]; exact hj
 refine ⟨fun k => ∃ i, i < Ts.length ∧ Fs i k, ⟨hb, Kept.refl _ _, fun i => if i < Ts.length then Fs i else fun _ => False, ?_, ?_, ?_⟩, ?_, ?_, ?_⟩
 ·intro i T hi
  have hil : i < Ts.length := (List.getElem?_eq_some_iff.1 hi).1
  show T.P (if i < Ts.length then Fs i else fun _ => False) w
  rw [if_pos hil]
  exact h1 i T (by rw [List.getElem?_append_left hil]; exact hi)
 ·intro i k hF
  by_cases hil : i < Ts.length
  ·rw [if_pos hil] at hF
   exact ⟨(h2 i k hF).1, (h2 i k hF).2.1, .inl ⟨i, hil, hF⟩⟩
  ·rw [if_neg hil] at hF
   exact hF.elim
 ·intro i j k hne hF hF'
  by_cases hil : i < Ts.length
  ·by_cases hjl : j < Ts.length
   ·rw [if_pos hil] at hF
    rw [if_pos hjl] at hF'
    exact h3 i j k hne hF hF'
   ·rw [if_neg hjl] at hF'
    exact hF'.elim
  ·rw [if_neg hil] at hF
   exact hF.elim
 ·intro p hp W hW
  exact hp W (hkb.trans hW (fun k ⟨i, _, hF⟩ => (h2 i k hF).2.2))
 ·intro j T hj
  refine ⟨Fs (Ts.length + j), h1 _ T (hR j T hj), fun k hF => ⟨fun ⟨i, hi, hF'⟩ => h3 i (Ts.length + j) k (by omega) hF' hF, zb1 (h2 _ k hF).2.1⟩⟩
 ·rintro Ts' w' ⟨hb', hk', Gs, g1, g2, g3⟩
  have off : ∀ (m k : Nat), Fs (Ts.length + m) k → w'.heap[k]? = w.heap[k]? := fun m k hF => hk'.2 k (zb1 (h2 _ k hF).2.1) (fun ⟨i, hi, hF'⟩ => h3 i (Ts.length + m) k (by omega) hF' hF)
  have sep : ∀ (i m k : Nat), Gs i k → Fs (Ts.length + m) k → False := fun i m k hG hF => by
   rcases (g2 i k hG).2.2 with ⟨j, hj, hF'⟩ | hw
   ·exact h3 j (Ts.length + m) k (by omega) hF' hF
   ·have := zb1 (h2 _ k hF).2.1
    omega
  refine ⟨hb', hk.then_ hk' (fun k ⟨i, _, hF⟩ => (h2 i k hF).2.2), fun m => if m < Ts'.length then Gs m else Fs (Ts.length + (m - Ts'.length)), ?_, ?_, ?_⟩
  ·intro m V hm
   show V.P (if m < Ts'.length then Gs m else Fs (Ts.length + (m - Ts'.length))) w'
   by_cases hml : m < Ts'.length
   ·rw [if_pos hml]
    exact g1 m V (by rw [List.getElem?_append_left hml] at hm; exact hm)
   ·rw [if_neg hml]
    rw [List.getElem?_append_right (by omega)] at hm
    exact V.move (h1 _ V (hR _ V hm)) (fun k hF => off _ k hF)
  ·intro m k hF
   by_cases hml : m < Ts'.length
   ·rw [if_pos hml] at hF
    refine ⟨(g2 m k hF).1, (g2 m k hF).2.1, ?_⟩
    rcases (g2 m k hF).2.2 with ⟨j, _, hF'⟩ | hw
    ·exact (h2 j k hF').2.2
    ·exact .inr (Nat.le_trans hk.1 hw)
   ·rw [if_neg hml] at hF
    exact ⟨(h2 _ k hF).1, cells_same (h2 _ k hF).2.1 (off _ k hF), (h2 _ k hF).2.2⟩
  ·intro m m' k hne hF hF'
   by_cases hml : m < Ts'.length
   ·rw [if_pos hml] at hF
    by_cases hml' : m' < Ts'.length
    ·rw [if_pos hml'] at hF'
     exact g3 m m' k hne hF hF'
    ·rw [if_neg hml'] at hF'
     exact sep m _ k hF hF'
   ·rw [if_neg hml] at hF
    by_cases hml' : m' < Ts'.length
    ·rw [if_pos hml'] at hF'
     exact sep m' _ k hF' hF
    ·rw [if_neg hml'] at hF'
     exact h3 _ _ k (by omega) hF hF'
section
variable {α : Type} {d : Kd α} {e : Nat} {A : Option Addr} {n c : Nat} {xs : List α} {P1 : Nat → Prop} {base : Nat}
theorem Own.row (h : Own w P1 (row (base := base) d e (.slice A n c) xs)) : Stable w P1 (fun W => d.C W A n xs) := by
 obtain ⟨F, hF, hs⟩ := h
 exact fun W hW => Kd.C_kept_own hF (fun k hk => (hs k hk).1) W hW.kept
theorem Own.box {g t : Nat} {cs : Array Value} (h : Own w P1 (box (base := base) g t cs)) : Stable w P1 (fun W => W.heap[g]? = some (.cells cs t (0, 0))) := by
 obtain ⟨F, hF, hs⟩ := h
 exact fun W hW => (hW.kept.2 g (hs g hF.1).2 (hs g hF.1).1).trans hF.2.2
end
end

/-! ### a call's slots, as a function -/
def upd (e : Nat → Value) (d : Nat) (v : Value) : Nat → Value := fun t => bif Nat.beq t d then v else e t
/-- Where code runs: how many slots, the marks behind ranges over functions, the round. -/
structure Md where
 n : Nat
 ds : List Deferred
 rd : Option Nat
@[reducible] def Md.F (N : Md) : Fence := { Fence.wide with round := N.rd }
def act (N : Md) (e : Nat → Value) : Act := ⟨((List.range N.n).map e).toArray, N.ds⟩
def ev (N : Md) (e : Nat → Value) : Operand → Value
 | .tmp t => bif Nat.blt t N.n then e t else undef
 | .const v => v
 | .global g => .pointer (some ⟨g, 0, none⟩)
 | .func f => .func (.func f) #[] #[]
section
variable {N : Md} {e e' : Nat → Value}
theorem act_get (t : Nat) : (act N e).tmps.getD t undef = bif Nat.blt t N.n then e t else undef := by
 unfold act
 by_cases h : t < N.n
 ·have : Nat.blt t N.n = true := by simp [Nat.blt]; omega
  rw [this]
  simp [h]
 ·have : Nat.blt t N.n = false := by
   cases hb : Nat.blt t N.n with
   | false => rfl
   | true => simp [Nat.blt] at hb; omega
  rw [this]
  simp [h]
theorem act_eval : (act N e).eval = ev N e := by
 funext x
 cases x with
 | tmp t => exact act_get t
 | const v => rfl
 | global g => rfl
 | func f => rfl
theorem act_put (d : Nat) (v : Value) : (act N e).put (some d) v = act N (upd e d v) := by
 unfold act Act.put
 simp only [Act.mk.injEq, and_true]
 apply Array.ext'
 simp only [Array.toList_setIfInBounds]
 apply List.ext_getElem?
 intro i
 rw [List.getElem?_set]
 simp only [List.length_map, List.length_range, List.getElem?_map]
 unfold upd
 by_cases h : d = i
 ·subst h
  rw [if_pos rfl]
  by_cases hN : d < N.n
  ·simp [hN]
  ·rw [if_neg hN, List.getElem?_eq_none (by simp; omega)]
   rfl
 ·rw [if_neg h]
  by_cases hN : i < N.n
  ·rw [List.getElem?_range hN]
   have : Nat.beq i d = false := by
    cases hb : Nat.beq i d with
    | false => rfl
    | true => exact absurd (Nat.eq_of_beq_eq_true hb).symm h
   simp [this]
  ·rw [List.getElem?_eq_none (by simp; omega)]
   rfl
theorem act_congr (h : (List.range N.n).map e = (List.range N.n).map e') : act N e = act N e' := by unfold act; rw [h]
theorem act_enter (args : Array Value) (n : Nat) (h : args.size ≤ n) : (⟨args ++ Array.replicate (n - args.size) undef, []⟩ : Act) = act ⟨n, [], none⟩ (fun t => args.getD t undef) := by
 unfold act
 simp only [Act.mk.injEq, and_true]
 apply Array.ext'
 apply List.ext_getElem?
 intro i
 simp only [Array.toList_append, Array.toList_replicate, List.getElem?_map]
 by_cases hi : i < args.size
 ·rw [List.getElem?_append_left (by simpa using hi), List.getElem?_range (by omega)]
  simp [hi]
 ·rw [List.getElem?_append_right (by simpa using hi)]
  by_cases hn : i < n
  ·rw [List.getElem?_range hn, List.getElem?_replicate, if_pos (by simp; omega)]
   simp [hi]
  ·rw [List.getElem?_eq_none (by simp; omega), List.getElem?_eq_none (by simp; omega)]
   rfl
end

/-! ### the judgements: a piece of code, a region's rest, an exit -/
abbrev Post := Exit → Act → World → Prop
section
variable {P : Program} {N : Md} {w0 ws : World} {P0 : Nat → Prop}
/-- Code c, from slots e and the frame L on. -/
def C (P : Program) (N : Md) (w0 ws : World) (P0 : Nat → Prop) (c : Code) (Q : Post) (e : Nat → Value) (L : List (Thing w0.heap.size)) : Prop := ∀ w, Fr w0 ws P0 L w → c.wpIn N.F 0 P Q (act N e) w
/-- no statement 'defer' -/
def noDL (l : List Oper) : Bool := l.all fun o => match o.op with | .defer _ => false | _ => true
theorem noDL_cons {o : Oper} {l : List Oper} (h : noDL (o :: l) = true) : (∀ c, o.op ≠ .defer c) ∧ noDL l = true := by
 simp only [noDL, List.all_cons, Bool.and_eq_true] at h
 exact ⟨fun c hc => by rw [hc] at h; exact absurd h.1 (by simp), h.2⟩
theorem upon_in_ {N : Md} {n : Nat} {P : Program} {o : Oper} {a : Act} {next : Act → World → Prop} {Q : Exit → Act → World → Prop} {r : Result Next} (h : o.upon P a next Q r) : o.uponIn N.F n P a next Q r := by
 match r, h with
 | .ok (.value v) w', h => exact h
 | .ok .skip w', h => exact h
 | .ok (.defer d) w', h => exact h
 | .ok (.enter f args) w', h =>
  refine ⟨fun hd => by simp [Fence.wide] at hd, ?_⟩
  refine (show CallsIn Fence.wide (n - 1) P f args w' _ → _ from fun h => h) (callsIn_wide.2 (Calls.mono h ?_))
  intro e w'' he
  cases e <;> exact he
 | .ok (.row row args) w', h =>
  exact ⟨fun hd => by simp [Fence.wide] at hd, fun c cs _ => let ⟨v, w'', r, s⟩ := h c cs; ⟨v, w'', r, stepsIn_wide.2 s⟩⟩
 | .halt (.panic v) w', h => exact h
theorem oper_in {N : Md} {n : Nat} {P : Program} {o : Oper} {a : Act} {w : World} {K : Act → World → Prop} {Q : Exit → Act → World → Prop} (hnd : ∀ c, o.op ≠ .defer c) (h : Oper.wp P o a w K Q) : Oper.wpIn N.F n P o a w K Q := by
 refine ⟨fun _ _ => trivial, ?_⟩
 rw [Oper.semAt_eq _ _ _ hnd]
 exact upon_in_ h
/-- The rest of a region. -/
def O (P : Program) (N : Md) (w0 ws : World) (P0 : Nat → Prop) (ops : Array Oper) (l : List Oper) (Q : Post) (e : Nat → Value) (L : List (Thing w0.heap.size)) : Prop := ∀ w, Fr w0 ws P0 L w → noDL l = true → wpListIn N.F 0 P ops Q l (act N e) w
/-- What has been reached. -/
def X (N : Md) (w0 ws : World) (P0 : Nat → Prop) (x : Exit) (Q : Post) (e : Nat → Value) (L : List (Thing w0.heap.size)) : Prop := ∀ w, Fr w0 ws P0 L w → Q x (act N e) w
variable {c x y : Code} {ops : Array Oper} {Q : Post} {e e' : Nat → Value} {L L' : List (Thing w0.heap.size)}
theorem c_seq (h : C P N w0 ws P0 x (Exit.then (y.wpIn N.F 0 P Q) Q) e L) : C P N w0 ws P0 (x.seq y) Q e L := fun w hw => wpIn_seq (h w hw)
theorem zai (h : X N w0 ws P0 .normal Q e L) : C P N w0 ws P0 .skip Q e L := fun w hw => wpIn_skip (h w hw)
theorem c_ret (h : X N w0 ws P0 .ret Q e L) : C P N w0 ws P0 .ret Q e L := fun w hw => wpIn_ret (h w hw)
theorem zax {i : Nat} (h : X N w0 ws P0 (.exit i) Q e L) : C P N w0 ws P0 (.exit i) Q e L := fun w hw => wpIn_exit (h w hw)
theorem zae {i : Nat} (h : C P N w0 ws P0 c (Exit.inBlock i Q) e L) : C P N w0 ws P0 (.block i c) Q e L := fun w hw => wpIn_block (h w hw)
theorem zan {o : Operand} (b : Bool) (ho : ev N e o = .bool b) (ht : b = true → C P N w0 ws P0 x Q e L) (hf : b = false → C P N w0 ws P0 y Q e L) : C P N w0 ws P0 (.cond o x y) Q e L :=
 fun w hw => wpIn_cond_split (t := b) (by rw [act_eval]; exact ho) (fun h => ht h w hw) (fun h => hf h w hw)
theorem zar {o : Operand} (ho : ev N e o = .bool true) (h : C P N w0 ws P0 x Q e L) : C P N w0 ws P0 (.cond o x y) Q e L := fun w hw => wpIn_cond_true (by rw [act_eval]; exact ho) (h w hw)
theorem zaz {o : Operand} (ho : ev N e o = .bool false) (h : C P N w0 ws P0 y Q e L) : C P N w0 ws P0 (.cond o x y) Q e L := fun w hw => wpIn_cond_false (by rw [act_eval]; exact ho) (h w hw)
theorem za0 {id : Nat} (h : O P N w0 ws P0 ops ops.toList Q e L) (hnd : noDL ops.toList = true := by rfl) : C P N w0 ws P0 (.region id ops false) Q e L := fun w hw => wpIn_region_list (h w hw hnd)
theorem o_end (h : X N w0 ws P0 .normal Q e L) : O P N w0 ws P0 ops [] Q e L := fun w hw _ => wpListIn_nil (h w hw)
/-! exits find their way -/
theorem za1 (h : C P N w0 ws P0 y Q e L) : X N w0 ws P0 .normal (Exit.then (y.wpIn N.F 0 P Q) Q) e L := h
theorem za7 {n : Act → World → Prop} {i : Nat} (h : X N w0 ws P0 (.exit i) Q e L) : X N w0 ws P0 (.exit i) (Exit.then n Q) e L := h
theorem zaa {n : Act → World → Prop} (h : X N w0 ws P0 .ret Q e L) : X N w0 ws P0 .ret (Exit.then n Q) e L := h
theorem zaf {i : Nat} (h : X N w0 ws P0 .normal Q e L) : X N w0 ws P0 .normal (Exit.inBlock i Q) e L := h
theorem zao {i : Nat} (h : X N w0 ws P0 .ret Q e L) : X N w0 ws P0 .ret (Exit.inBlock i Q) e L := h
theorem x_hit {i : Nat} (h : X N w0 ws P0 .normal Q e L) : X N w0 ws P0 (.exit i) (Exit.inBlock i Q) e L := fun w hw => by
 show (if i = i then _ else _)
 rw [if_pos rfl]
 exact h w hw
/-! a loop: J k s, measure k and letters s -/
theorem c_loop {σ : Type} (J : Nat → σ → Prop) (eH : σ → (Nat → Value) → Nat → Value) (LH : σ → List (Thing w0.heap.size)) (k : Nat) (s : σ) (h0 : J k s) (U : Nat → Value) (he : (List.range N.n).map e = (List.range N.n).map (eH s U)) (hL : ∀ w, Fr w0 ws P0 L w → Fr w0 ws P0 (LH s) w)
  (round : ∀ k s U, J k s → C P N w0 ws P0 c (Exit.then (fun a w => ∃ k' s' U', k' < k ∧ J k' s' ∧ a = act N (eH s' U') ∧ Fr w0 ws P0 (LH s') w) Q) (eH s U) (LH s)) : C P N w0 ws P0 (.loop c) Q e L := by
 intro w hw
 have key : ∀ n s U w, J n s → Fr w0 ws P0 (LH s) w → (Code.loop c).wpIn N.F 0 P Q (act N (eH s U)) w := by
  intro n s U w hJ hF
  refine wpIn_loop_ghost (fun n a w => ∃ s U, J n s ∧ a = act N (eH s U) ∧ Fr w0 ws P0 (LH s) w) n ⟨s, U, hJ, rfl, hF⟩ ?_
  rintro n a w ⟨s, U, hJ, rfl, hF⟩
  refine wpIn_mono (round n s U hJ w hF) ?_
  intro x a w hq
  cases x with
  | normal =>
   obtain ⟨k', s', U', hk, hJ', ha, hF'⟩ := hq
   exact ⟨k', hk, s', U', hJ', ha, hF'⟩
  | _ => exact hq
 rw [act_congr he]
 exact key k s U w h0 (hL w hw)
/-! where ways meet -/
/-! the frame in another order, some things dropped -/
theorem f_pick (is : List Nat) (hn : is.Nodup) (hl : is.all (fun j => Nat.blt j L.length) = true) (w : World) (h : Fr w0 ws P0 L w) : Fr w0 ws P0 (is.map fun j => L.getD j gone) w :=
 h.pick is hn (fun j hj => by have := List.all_eq_true.1 hl j hj; simp [Nat.blt] at this; omega)
theorem o_pick {l : List Oper} (is : List Nat) (hn : is.Nodup) (hl : is.all (fun j => Nat.blt j L.length) = true) (h : O P N w0 ws P0 ops l Q e (is.map fun j => L.getD j gone)) : O P N w0 ws P0 ops l Q e L := fun w hw hd => h w (f_pick is hn hl w hw) hd
/-! a function's begin and end -/
theorem enter {fn : Func} {f : FuncId} {body : Code} {args : Array Value} {R : Ending → World → Prop} {m : Nat} (hf : P.funcs[f]? = some fn) (hb : fn.body = some body) (hn : fn.ntmps = m) (hs : Nat.ble args.size m = true) (hF : Fr w0 ws P0 L ws)
  (h : C P ⟨m, [], none⟩ w0 ws P0 body (retOnly (bodyPost P fn R)) (fun t => args.getD t undef) L) : Calls P f args ws R :=
 calls_of_wp hf hb (by
  subst hn
  rw [act_enter args fn.ntmps (Nat.le_of_ble_eq_true hs)]
  exact wp_mono (wpIn_wide.1 (h ws hF)) (fun _ _ _ hq => retOnly_imp hq))
theorem x_ret {fn : Func} {R : Ending → World → Prop} (v : Value) (hr : ∀ w, Fr w0 ws P0 L w → (results fn (act N e).tmps).run P w = .ok v w) (hR : ∀ w, Fr w0 ws P0 L w → R (.returned v) w) (hd : N.ds = [] := by rfl) : X N w0 ws P0 .ret (retOnly (bodyPost P fn R)) e L :=
 fun w hw => ⟨hd, v, hr w hw, hR w hw⟩
end
end Go.Proofs.Ytiaohjciddbpoaa.Frame
