/- The engine: ranges over functions. -/
import Derived.Test.YtiaohjciddbpoaaKFnMethodsOpg
import Derived.RangeFuncNested
import Derived.RangeFuncLeaves
set_option linter.unusedVariables false
set_option linter.unusedSimpArgs false
namespace Go.Proofs.Ytiaohjciddbpoaa.Frame
open Go.RowKit Go.Proofs.YtiaohjciddbpoaaW.PrintWords Go.Proofs.YtiaohjciddbpoaaW.PrintLast
section
variable {P : Program} {w0 ws w : World} {P0 : Nat → Prop} {L : List (Thing w0.heap.size)}
theorem wpIn_any {N : Md} {n m : Nat} {c : Code} {Q : Post} {a : Act} (h : c.wpIn N.F n P Q a w) : c.wpIn N.F m P Q a w := fun b k cs h1 h2 _ => h b k cs h1 h2 (fun d hd => by simp [Fence.wide] at hd)
/-- What is one's own from here on: what was read stays to be read; what was told of others stays told. -/
theorem Fr.here {Ts : List (Thing w0.heap.size)} (h : Fr w0 ws P0 (Ts ++ L) w) (Z : Below w0.heap.size w0 ws) : ∃ P1 : Nat → Prop, Fr w0 w P1 Ts w ∧ (∀ p, Stable ws P0 p → Stable w P1 p) ∧ (∀ (j : Nat) (T : Thing w0.heap.size), L[j]? = some T → Own w P1 T) ∧ (∀ k, P1 k → ∃ cs q, w.heap[k]? = some (.cells cs q (0, 0))) ∧
  ∀ (Ts' : List (Thing w0.heap.size)) w', Fr w0 w P1 Ts' w' → Fr w0 ws P0 Ts' w' := by
 have hkb := h.keptB Z
 obtain ⟨hb, hk, Fs, h1, h2, h3⟩ := h
 have hR : ∀ (j : Nat) (T : Thing w0.heap.size), L[j]? = some T → (Ts ++ L)[Ts.length + j]? = some T := fun j T hj => by
  rw [List.getElem?_append_right (by omega), Nat.add_sub_cancel_left]; exact hj
 refine ⟨fun k => ∃ i, i < Ts.length ∧ Fs i k, ⟨hb, Kept.refl _ _, fun i => if i < Ts.length then Fs i else fun _ => False, ?_, ?_, ?_⟩, ?_, ?_, fun k ⟨i, _, hF⟩ => (h2 i k hF).2.1, ?_⟩
 ·intro i T hi
  have hil : i < Ts.length := (List.getElem?_eq_some_iff.1 hi).1
  show T.P (if i < Ts.length then Fs i else fun _ => False) w
  rw [if_pos hil]
  exact h1 i T (by rw [List.getElem?_append_left hil]; exact hi)
 ·intro i k hF
  by_cases hil : i < Ts.length
  ·rw [if_pos hil] at hF
   exact ⟨(h2 i k hF).1, (h2 i k hF).2.1, .inl ⟨i, hil, hF⟩⟩
  ·rw [if_neg hil] at hF
   exact hF.elim
 ·intro i j k hne hF hF'
  by_cases hil : i < Ts.length
  ·by_cases hjl : j < Ts.length
   ·rw [if_pos hil] at hF
    rw [if_pos hjl] at hF'
    exact h3 i j k hne hF hF'
   ·rw [if_neg hjl] at hF'
    exact hF'.elim
  ·rw [if_neg hil] at hF
   exact hF.elim
 ·intro p hp W hW
  exact hp W (hkb.trans hW (fun k ⟨i, _, hF⟩ => (h2 i k hF).2.2))
 ·intro j T hj
  refine ⟨Fs (Ts.length + j), h1 _ T (hR j T hj), fun k hF => ⟨fun ⟨i, hi, hF'⟩ => h3 i (Ts.length + j) k (by omega) hF' hF, zb1 (h2 _ k hF).2.1⟩⟩
 ·rintro Ts' w' ⟨hb', hk', Gs, g1, g2, g3⟩
  refine ⟨hb', hk.then_ hk' (fun k ⟨i, _, hF⟩ => (h2 i k hF).2.2), Gs, g1, fun m k hG => ⟨(g2 m k hG).1, (g2 m k hG).2.1, ?_⟩, g3⟩
  rcases (g2 m k hG).2.2 with ⟨i, _, hF⟩ | hw
  ·exact (h2 i k hF).2.2
  ·exact .inr (Nat.le_trans hk.1 hw)
/-- What a round keeps. -/
def KpS (w : World) (P1 : Nat → Prop) (W W' : World) : Prop := KeptB w W P1 → KeptB w W' P1
theorem KeptB.put {P1 : Nat → Prop} {W : World} (h : KeptB w W P1) {l : Nat} {o : Obj} (o' : Obj) (hl : w.heap.size ≤ l) (ho : W.heap[l]? = some o) : KeptB w (W.putObj l o') P1 := by
 have hg := grownBy_putObj' W l o'
 refine ⟨⟨Nat.le_trans h.kept.1 hg.size, fun i hi hp => ?_⟩, ?_, ?_, ?_⟩
 ·rw [hg.block i (Nat.lt_of_lt_of_le hi h.kept.1) (fun e => by have := Option.some.inj e; omega)]
  exact h.kept.2 i hi hp
 ·rw [hg.os]; exact h.os
 ·rw [hg.tape]; exact h.tape
 ·rw [hg.output]; exact h.output
end
section
variable {P : Program} {w0 w : World} {P1 : Nat → Prop} {nt : Nat} {e : Nat → Value} {g : Operand} {ps : Array Tmp} {assign body : Code} {Q : Post}
/-- A range over a function: its rounds hand σ on, what is yielded is told by α (anything that may be yielded is walked). -/
theorem wp_range {σ α : Type} (encs : α → Array Value) (hps : ∀ x, (encs x).size = ps.size) {gf : Nat} {lb : Array Value} {S Sp : List α → Prop} {n : Nat} (s0 : σ) (step : σ → α → σ) (LH : σ → List (Thing w0.heap.size)) (LA : σ → α → Nat → List (Thing w0.heap.size)) (uP : α → List (Nat × Value)) (uA : α → Nat → List (Nat × Value))
  (hg : ev ⟨nt, [], none⟩ e g = .func (.func gf) #[] lb) (eg : ∀ args w, (callFunc gf args).run P w = .ok (.enter gf args) w)
  (hF : Fr w0 w P1 (LH s0) w) (hseq : SeqStopsK Fence.wide 2 P gf lb encs (KpS w P1) S Sp n w)
  (hP : ∀ x, ({ tmps := (ps.zip (encs x)).foldl (fun t (p, v) => t.setIfInBounds p v) (act ⟨nt, [], none⟩ e).tmps, defers := [] } : Act) = act ⟨nt, [], none⟩ (updL e (uP x)))
  (hdet : ∀ (s s' : σ) (W : World), Fr w0 w P1 (LH s) W → Fr w0 w P1 (LH s') W → s = s')
  (hdrop : ∀ (s : σ) (x : α) (q : Nat) (W : World) (P2 : Nat → Prop) (W' : World), Fr w0 W P2 (LA s x q) W' → Fr w0 W P2 (LH s) W')
  (hassign : ∀ (l : Nat) (s : σ) (x : α) (W : World) (P2 : Nat → Prop), Below w0.heap.size w0 W → (∀ p, Stable w P1 p → Stable W P2 p) → C P ⟨nt, [], some l⟩ w0 W P2 assign (Exit.then (fun a' W' => ∃ q, a' = act ⟨nt, [], none⟩ (updL e (uA x q)) ∧ Fr w0 W P2 (LA s x q) W') (fun _ _ _ => False)) (updL e (uP x)) (LH s))
  (hbody : ∀ (l : Nat) (pre : List α) (x : α) (q : Nat) (W : World) (P2 : Nat → Prop), Below w0.heap.size w0 W → (∀ p, Stable w P1 p → Stable W P2 p) → pre.length < n → C P ⟨nt, [], some l⟩ w0 W P2 body (Exit.then (fun _ W' => Fr w0 W P2 (LH (step (pre.foldl step s0) x)) W') (fun _ _ _ => False)) (updL e (uA x q)) (LA (pre.foldl step s0) x q))
  (hdone : ∀ (D : Nat) (xs : List α) (W : World), w.heap.size ≤ D → S xs → Fr w0 w P1 (LH (xs.foldl step s0)) W → W.heap[D]? = some (.deferred (some [])) → Q .normal (act ⟨nt, [{ target := .collected D, args := #[] }], none⟩ e) W) :
  (Code.rangeFunc g ps assign body).wpIn Fence.wide 3 P Q (act ⟨nt, [], none⟩ e) w := by
 have hZ : Below w0.heap.size w0 w := hF.bel
 have hkb : ∀ {L W}, Fr w0 w P1 L W → KeptB w W P1 := fun h => h.keptB hZ
 have hown : ∀ (L : List (Thing w0.heap.size)) W W' row, Fr w0 w P1 L W → W.grownBy W' row → (∀ r, row = some r → w.heap.size ≤ r ∧ ∃ o : Obj, W.heap[r]? = some o ∧ o.isCells = false) → Fr w0 w P1 L W' := fun L W W' row h hg hr =>
  h.grown hg (fun r e => ⟨(hr r e).1, Nat.le_trans hZ.size (hr r e).1, (hr r e).2⟩)
 have heq : ∀ {L : List (Thing w0.heap.size)}, L ++ [] = L := fun {L} => List.append_nil L
 refine wpIn_rangeFunc_ownH (n := 3) rfl (by omega) (gf := gf) (lb := lb) (by rw [act_eval]; exact hg) trivial eg hseq (fun h1 h2 h => h2 (h1 h)) (fun W l o o' hl ho _ _ h => h.put o' hl ho) (Below.refl _ _) hps
  (fun pre W => Fr w0 w P1 (LH (pre.foldl step s0)) W) (fun _ _ _ => False) (fun pre W W' row h hg hr => hown _ W W' row h hg hr) (fun c s W W' row h _ _ => h) hF
  (fun x a' W => ∃ s q, a' = act ⟨nt, [], none⟩ (updL e (uA x q)) ∧ Fr w0 w P1 (LA s x q) W)
  (fun x a' u W W' row ⟨s, q, ha, h⟩ hg hr => ⟨s, q, ha, hown _ W W' row h hg hr⟩) ?_ ?_ ?_ (fun _ _ _ _ _ _ h _ => h.elim)
 ·intro l pre x W K hI hK
  rw [hP x]
  obtain ⟨P2, hF2, hst, _, hc, hback⟩ := (show Fr w0 w P1 (LH (pre.foldl step s0) ++ []) W from by rw [heq]; exact hI).here hZ
  have h := hassign l (pre.foldl step s0) x W P2 hI.bel hst W hF2
  refine wpIn_any (N := ⟨nt, [], some l⟩) (n := 0) (wpIn_mono h ?_)
  intro z a' W' hq
  cases z with
  | normal =>
   obtain ⟨q, ha, hA⟩ := hq
   have hA' := hback _ _ hA
   exact hK a' W' ((hA.others hc).from _) (fun _ => hkb hA') (hback _ _ (hdrop _ x q _ _ _ hA)) ⟨_, q, ha, hA'⟩
  | _ => exact hq
 ·rintro l pre x a' W _ _ hI ⟨s, q, rfl, hA⟩ hlen
  have hs : s = pre.foldl step s0 := by
   obtain ⟨P2, hF2, hst, _, hc, hback⟩ := (show Fr w0 w P1 (LA s x q ++ []) W from by rw [heq]; exact hA).here hZ
   exact hdet _ _ W (hback _ _ (hdrop _ x q _ _ _ hF2)) hI
  subst hs
  obtain ⟨P2, hF2, hst, _, hc, hback⟩ := (show Fr w0 w P1 (LA (pre.foldl step s0) x q ++ []) W from by rw [heq]; exact hA).here hZ
  have h := hbody l pre x q W P2 hI.bel hst hlen W hF2
  refine wpIn_any (N := ⟨nt, [], some l⟩) (n := 0) (wpIn_mono h ?_)
  intro z a' W' hq
  cases z with
  | normal =>
   have hq' : Fr w0 W P2 (LH (step (pre.foldl step s0) x)) W' := hq
   have hb := hback _ _ hq'
   refine ⟨(hq'.others hc).from _, fun _ => hkb hb, ?_⟩
   show Fr w0 w P1 (LH ((pre ++ [x]).foldl step s0)) W'
   rw [List.foldl_append]
   exact hb
  | _ => exact hq.elim
 ·intro D xs W hD hS hI hdf
  exact hdone D xs W hD hS hI hdf
end
theorem bool_det {w : World} {A : Option Addr} {xs ys : List Bool} (hl : xs.length = ys.length) (h : Kd.C Kd.bool w A xs.length xs) (h' : Kd.C Kd.bool w A ys.length ys) : xs = ys := by
 refine List.ext_getElem hl fun i h1 h2 => ?_
 obtain ⟨ad, rfl, hh⟩ := h.2.2 (by omega)
 obtain ⟨ad', e, hh'⟩ := h'.2.2 (by omega)
 cases e
 obtain ⟨c, _, hk, hcell⟩ := hh i _ (List.getElem?_eq_getElem h1)
 obtain ⟨c', _, hk', hcell'⟩ := hh' i _ (List.getElem?_eq_getElem h2)
 obtain rfl : c = [Value.bool xs[i]] := hk
 obtain rfl : c' = [Value.bool ys[i]] := hk'
 have a := hcell 0 _ rfl
 have b := hcell' 0 _ rfl
 rw [a] at b
 injection b with b
 injection b
theorem enters9 {P : Program} {f : FuncId} {fn : Func} (hfn : P.funcs[f]? = some fn) (hnm : (fn.name == "runtime.NumGoroutine") = false) (hbd : fn.body.isNone = false) : ∀ args w, (callFunc f args).run P w = .ok (.enter f args) w := fun args w => by
 have hnm' : ¬ fn.name = "runtime.NumGoroutine" := by simpa using hnm
 have hbd' : ¬ fn.body = none := fun e => by rw [e] at hbd; cases hbd
 simp [callFunc, hfn, hnm', hbd']
theorem act_zip2 {nt a b : Nat} {e : Nat → Value} {v u : Value} : ({ tmps := ((#[a, b] : Array Tmp).zip #[v, u]).foldl (fun t (p, v) => t.setIfInBounds p v) (act ⟨nt, [], none⟩ e).tmps, defers := [] } : Act) = act ⟨nt, [], none⟩ (upd (upd e a v) b u) := by
 have h1 := congrArg Act.tmps (act_put (N := ⟨nt, [], none⟩) (e := e) a v)
 have h2 := congrArg Act.tmps (act_put (N := ⟨nt, [], none⟩) (e := upd e a v) b u)
 have h3 : ((#[a, b] : Array Tmp).zip #[v, u]).foldl (fun t (p, v) => t.setIfInBounds p v) (act ⟨nt, [], none⟩ e).tmps = ((act ⟨nt, [], none⟩ e).tmps.setIfInBounds a v).setIfInBounds b u := by simp
 rw [h3]
 have h4 : (act ⟨nt, [], none⟩ e).tmps.setIfInBounds a v = (act ⟨nt, [], none⟩ (upd e a v)).tmps := h1
 have h5 : (act ⟨nt, [], none⟩ (upd e a v)).tmps.setIfInBounds b u = (act ⟨nt, [], none⟩ (upd (upd e a v) b u)).tmps := h2
 rw [h4, h5]
 rfl
/-! ### a slice from its end on -/
/-- The numbers and elements of a list, from the last one on. -/
def bwL {α : Type} (zs : List α) : List (Int × α) := (zs.zipIdx.map fun p => ((p.2 : Int), p.1)).reverse
theorem bwL_len {α : Type} (zs : List α) : (bwL zs).length = zs.length := by simp [bwL]
theorem bwL_at {α : Type} (zs : List α) (k : Nat) (hk : k < zs.length) : (bwL zs)[k]? = some (((zs.length - 1 - k : Nat) : Int), zs[zs.length - 1 - k]) := by
 unfold bwL
 rw [List.getElem?_reverse (by simpa using hk)]
 simp [show zs.length - 1 - k < zs.length by omega]
theorem bwL_take {α : Type} (zs : List α) (k : Nat) (hk : k < zs.length) : (bwL zs).take (k + 1) = (bwL zs).take k ++ [(((zs.length - 1 - k : Nat) : Int), zs[zs.length - 1 - k])] := by
 rw [List.take_add_one, bwL_at zs k hk]
 rfl
theorem gt_at {α : Type} {xs : List α} {m : Nat} (h : m < xs.length) : gt xs (m : Int) = some xs[m] := by
 unfold gt
 rw [if_pos (by omega), Int.toNat_natCast, List.getElem?_eq_getElem h]
theorem inblk {i : Nat} {Q : Post} {a : Act} {w : World} (h : Q .normal a w) : Exit.inBlock i Q (.exit i) a w := by
 show (if i = i then _ else _)
 rw [if_pos rfl]
 exact h
theorem exth {i : Nat} {n : Act → World → Prop} {Q : Post} {a : Act} {w : World} (h : Q (.exit i) a w) : Exit.then n Q (.exit i) a w := h
/-- What may be yielded. -/
abbrev BackT {α : Type} (zs : List α) : Type := { x : Int × α // ∃ j : Nat, x.1 = (j : Int) ∧ zs[j]? = some x.2 }
section
variable {P : Program} {N : Md} {e : Nat → Value} {w : World} {Q : Post} {ops : Array Oper} {rest : List Oper} {o : Oper} {d : Tmp} {v : Value}
theorem g_q (hnd : ∀ c, o.op ≠ .defer c) (hg : o.guard = none) (hd : o.dst = some d) (hv : Qt P N e (fun w' => w' = w) o v) (k : wpListIn N.F 0 P ops Q rest (act N (upd e d v)) w) : wpListIn N.F 0 P ops Q (o :: rest) (act N e) w := by
 unfold wpListIn
 rw [if_pos (zav hg _)]
 refine oper_in hnd ?_
 unfold Oper.wp
 rw [act_eval, hv w rfl]
 show wpListIn N.F 0 P ops Q rest ((act N e).put o.dst v) w
 rw [hd, act_put]
 exact k
theorem g_yield {l m : Nat} {x y z : Operand} {ts : Array TypeId} {ty : TypeId} {pos : String} {af : Array Edge} {R : Ending → World → Prop} {vy vz : Value} (hrd : N.rd = none) (hx : ev N e x = .func (.yield l) #[] #[]) (hvy : ev N e y = vy) (hvz : ev N e z = vz) (hY : YieldAt Fence.wide m P l #[vy, vz] w R) (hR : ∀ e w', R e w' → ∃ v, e = .returned v)
  (k : ∀ v w', R (.returned v) w' → wpListIn N.F 0 P ops Q rest (act N (upd e d v)) w') : wpListIn N.F 0 P ops Q (⟨some d, .call ⟨.value x, #[y, z], ts⟩, ty, pos, af, none⟩ :: rest) (act N e) w := by
 obtain ⟨fn, tmps, assign, body, hy, hr⟩ := hY
 unfold wpListIn
 rw [if_pos (zav rfl _)]
 refine ⟨fun _ _ => trivial, ?_⟩
 rw [Oper.semAt_eq _ _ _ (fun c hc => by cases hc), act_eval]
 have hrun : (execOp (ev N e) (⟨some d, .call ⟨.value x, #[y, z], ts⟩, ty, pos, af, none⟩ : Oper)).run P w = .ok (.round l fn tmps assign body) w := by
  subst hvy hvz
  rw [← hy]
  simp [execOp, resolve, hx, Deferred.ofValue, invoke]
 rw [hrun]
 refine ⟨fun hd => by simp [Fence.wide] at hd, ?_⟩
 refine RoundIn.mono (R := R) ⟨trivial, fun c cs _ => hr.2 c cs (room_wide _)⟩ ?_
 intro e w' he
 obtain ⟨v, rfl⟩ := hR e w' he
 show wpListIn N.F 0 P ops Q rest ((act N _).put (some d) v) w'
 rw [act_put]
 exact k v w' he
end
/-! ### a function that holds a range over a function -/
section
variable {P : Program} {w0 ws ws' w : World} {P0 P1 : Nat → Prop} {L : List (Thing w0.heap.size)} {e : Nat → Value}
theorem enterM {fn : Func} {f : FuncId} {body : Code} {args : Array Value} {R : Ending → World → Prop} {m : Nat} (hf : P.funcs[f]? = some fn) (hb : fn.body = some body) (hn : fn.ntmps = m) (hs : Nat.ble args.size m = true) (hF : Fr w0 ws P0 L ws)
  (h : C P ⟨m, [], none⟩ w0 ws P0 body (retOnly (bodyPostM Fence.wide 3 P fn R)) (fun t => args.getD t undef) L) : Calls P f args ws R := by
 refine (callsIn_wide (n := 3)).1 (callsIn_of_wp_marks hf hb trivial ?_ rfl)
 subst hn
 rw [act_enter args fn.ntmps (Nat.le_of_ble_eq_true hs)]
 exact wpIn_mono (wpIn_any (N := ⟨fn.ntmps, [], none⟩) (h ws hF)) (fun _ _ _ hq => retOnly_imp hq)
theorem enterG {fn : Func} {f : FuncId} {body : Code} {args : Array Value} {R : Ending → World → Prop} {m k : Nat} {w : World} (hf : P.funcs[f]? = some fn) (hb : fn.body = some body) (hn : fn.ntmps = m) (hs : Nat.ble args.size m = true)
  (h : body.wpIn (Md.F ⟨m, [], none⟩) 0 P (retOnly (bodyPost P fn R)) (act ⟨m, [], none⟩ (fun t => args.getD t undef)) w) : CallsIn Fence.wide k P f args w R := by
 refine callsIn_of_wp hf hb trivial ?_ rfl
 subst hn
 rw [act_enter args fn.ntmps (Nat.le_of_ble_eq_true hs)]
 exact wpIn_mono (wpIn_any (N := ⟨fn.ntmps, [], none⟩) h) (fun _ _ _ hq => retOnly_imp hq)
/-- A return behind a range: the mark is taken. -/
theorem x_mark {fn : Func} {m D : Nat} {σ : Type} {v0 : σ → Value} {LR : σ → List (Thing w0.heap.size)} (Z : Below w0.heap.size w0 ws) (hD : ws.heap.size ≤ D) (hm : Stable ws' P1 (fun w => w.heap[D]? = some (.deferred (some [])))) (hZ : Below w0.heap.size w0 ws') (back : ∀ (Ts : List (Thing w0.heap.size)) w, Fr w0 ws' P1 Ts w → Fr w0 ws P0 Ts w)
  (h : X ⟨m, [], none⟩ w0 ws P0 .ret (retOnly (bodyPost P fn (Post1 w0 ws P0 v0 LR))) e L) : X ⟨m, [{ target := .collected D, args := #[] }], none⟩ w0 ws' P1 .ret (retOnly (bodyPostM Fence.wide 3 P fn (Post1 w0 ws P0 v0 LR))) e L := fun w hw => by
 have hk := hm.now hZ hw
 have hw' := back L w hw
 have h2 := hw'.grown (grownBy_putObj' w D (.deferred none)) (fun r e => by
  cases e
  exact ⟨hD, Nat.le_trans Z.size hD, _, hk, rfl⟩)
 obtain ⟨_, v, hr, hR⟩ := h _ h2
 exact ⟨by simp, .inl ⟨_, _, rfl, run_takeDeferred hk, v, hr, hR⟩⟩
end
/-! append of a fresh row of zeros -/
section
variable {P : Program}
end
/-- a row with n zeros behind it -/
def apm (xs : List Int) (n : Int) : Option (List Int) := if 0 ≤ n ∧ (xs.length : Int) + n ≤ 1000000000 then some (xs ++ List.replicate n.toNat 0) else none
section
variable {P : Program} {N : Md} {w0 ws : World} {P0 : Nat → Prop} {L : List (Thing w0.heap.size)} {e : Nat → Value} {x y : Operand} {d : Tmp} {t ti ty : TypeId} {pos : String} {af : Array Edge} {g : Option (Nat × Bool)} {u : Nat}
end
/-! a byte of a text -/
def gts (s : ByteArray) (i : Int) : Option Int := if 0 ≤ i then (s.data[i.toNat]?).map (fun b => (b.toNat : Int)) else none
end Go.Proofs.Ytiaohjciddbpoaa.Frame
