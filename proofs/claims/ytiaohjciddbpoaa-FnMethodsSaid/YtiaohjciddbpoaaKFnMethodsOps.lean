/- The engine: texts cut, bytes made a text. -/
import Derived.Test.YtiaohjciddbpoaaKFnMethodsOpr
import Derived.Test.YtiaohjciddbpoaaKFnMethodsWFour
import Derived.Laws.BytesArg
import Derived.Laws.Strings2
import Derived.Laws.Slices
set_option linter.unusedVariables false
set_option linter.unusedSimpArgs false
namespace Go.Proofs.Ytiaohjciddbpoaa.Frame
open Go.RowKit Go.Proofs.YtiaohjciddbpoaaW.PrintWords Go.Proofs.YtiaohjciddbpoaaW.PrintLast
section
variable {P : Program} {N : Md} {S : World → Prop} {e : Nat → Value} {dst : Option Tmp} {ty : TypeId} {pos : String} {af : Array Edge} {g : Option (Nat × Bool)} {x y : Operand} {t : TypeId}
/-- a text cut -/
def cts (s : ByteArray) (l h : Int) : Option ByteArray := if 0 ≤ l ∧ l ≤ h ∧ h ≤ (s.size : Int) then some (s.extract l.toNat h.toNat) else none
end
section
variable {P : Program} {N : Md} {w0 ws : World} {P0 : Nat → Prop} {ops : Array Oper} {LS L : List (Thing w0.heap.size)} {ds : List Nat} {fuel : Nat} {l : Array Bool} {Q : Post} {e : Nat → Value}
/-- Four events may come up. -/
theorem a_four {σ σ2 σ3 σ4 : Type} {e' : σ → Nat → Value} {L' : σ → List (Thing w0.heap.size)} {e2 : σ2 → Nat → Value} {L2 : σ2 → List (Thing w0.heap.size)} {e3 : σ3 → Nat → Value} {L3 : σ3 → List (Thing w0.heap.size)} {e4 : σ4 → Nat → Value} {L4 : σ4 → List (Thing w0.heap.size)} {o o2 o3 o4 : Oper} (i j m q : Nat) (hi : ops[i]? = some o) (hj : ops[j]? = some o2) (hm : ops[m]? = some o3) (hq : ops[q]? = some o4) (hgi : o.guard = none) (hgj : o2.guard = none) (hgm : o3.guard = none) (hgq : o4.guard = none) (hc : (Region.ready .any ops l == [i, j, m, q]) = true) (hdi : (ds.contains i) = false) (hdj : (ds.contains j) = false) (hdm : (ds.contains m) = false) (hdq : (ds.contains q) = false)
  (hE0 : Ev1 P N w0 ws P0 o e L e' L') (hS0 : ∀ s w, Fr w0 ws P0 (L' s) w → Fr w0 ws P0 LS w) (hE1 : Ev1 P N w0 ws P0 o2 e L e2 L2) (hS1 : ∀ s w, Fr w0 ws P0 (L2 s) w → Fr w0 ws P0 LS w) (hE2 : Ev1 P N w0 ws P0 o3 e L e3 L3) (hS2 : ∀ s w, Fr w0 ws P0 (L3 s) w → Fr w0 ws P0 LS w) (hE3 : Ev1 P N w0 ws P0 o4 e L e4 L4) (hS3 : ∀ s w, Fr w0 ws P0 (L4 s) w → Fr w0 ws P0 LS w) (k0 : ∀ s, A P N w0 ws P0 ops LS ds fuel (l.setIfInBounds i true) Q (e' s) (L' s)) (k1 : ∀ s, A P N w0 ws P0 ops LS ds fuel (l.setIfInBounds j true) Q (e2 s) (L2 s)) (k2 : ∀ s, A P N w0 ws P0 ops LS ds fuel (l.setIfInBounds m true) Q (e3 s) (L3 s)) (k3 : ∀ s, A P N w0 ws P0 ops LS ds fuel (l.setIfInBounds q true) Q (e4 s) (L4 s)) : A P N w0 ws P0 ops LS ds (fuel + 1) l Q e L := fun w hF =>
 four_ (l.setIfInBounds i true) (l.setIfInBounds j true) (l.setIfInBounds m true) (l.setIfInBounds q true) hi hj hm hq rfl rfl rfl rfl (by simpa using hc) (by simpa using hdi) (by simpa using hdj) (by simpa using hdm) (by simpa using hdq) (fun K hK => by
  rw [if_pos (zav hgi _)]
  exact hE0 w hF K Q (fun s w' hF' => hK _ _ (hS0 s w' hF') (fun _ => k0 s w' hF'))) (fun K hK => by
  rw [if_pos (zav hgj _)]
  exact hE1 w hF K Q (fun s w' hF' => hK _ _ (hS1 s w' hF') (fun _ => k1 s w' hF'))) (fun K hK => by
  rw [if_pos (zav hgm _)]
  exact hE2 w hF K Q (fun s w' hF' => hK _ _ (hS2 s w' hF') (fun _ => k2 s w' hF'))) (fun K hK => by
  rw [if_pos (zav hgq _)]
  exact hE3 w hF K Q (fun s w' hF' => hK _ _ (hS3 s w' hF') (fun _ => k3 s w' hF')))
end
/-! ### a range over slices.Backward, its state told with letters -/
def okB {β σ : Type} (f : β → σ → Option σ) (xs : List β) : Nat → σ → Bool
 | 0, _ => true
 | n + 1, s => xs.all fun x => match f x s with
  | none => false
  | some s' => okB f xs n s'
def stB {β σ : Type} (f : β → σ → Option σ) (s : σ) (x : β) : σ := (f x s).getD s
/-- What a range backward hands on: every round that might come must be right. -/
def rngB {α σ : Type} (zs : List α) (f : Int × α → σ → Option σ) (s0 : σ) : Option σ := if okB f (bwL zs) zs.length s0 = true then some ((bwL zs).foldl (stB f) s0) else none
theorem okB_some {β σ : Type} {f : β → σ → Option σ} {xs : List β} : ∀ {n : Nat} {s : σ} (_ : okB f xs n s = true) (pre : List β) (x : β), (∀ y ∈ pre, y ∈ xs) → x ∈ xs → pre.length < n → ∃ s', f x (pre.foldl (stB f) s) = some s'
 | 0, _, _, pre, _, _, _, hl => by omega
 | n + 1, s, h, pre, x, hp, hx, hl => by
  unfold okB at h
  rw [List.all_eq_true] at h
  cases pre with
  | nil =>
   have := h x hx
   show ∃ s', f x s = some s'
   cases hf : f x s with
   | none => rw [hf] at this; cases this
   | some s' => exact ⟨s', rfl⟩
  | cons y pre =>
   have := h y (hp y (by simp))
   cases hf : f y s with
   | none => rw [hf] at this; cases this
   | some s' =>
    rw [hf] at this
    have e : stB f s y = s' := by unfold stB; rw [hf]; rfl
    rw [List.foldl_cons, e]
    exact okB_some this pre x (fun z hz => hp z (List.mem_cons_of_mem _ hz)) hx (by simpa using hl)
theorem backT_mem {α : Type} {zs : List α} (x : BackT zs) : x.1 ∈ bwL zs := by
 obtain ⟨⟨i, y⟩, j, hj, hg⟩ := x
 have hj' : i = (j : Int) := hj
 subst hj'
 unfold bwL
 rw [List.mem_reverse, List.mem_map]
 refine ⟨(y, j), ?_, rfl⟩
 rw [List.mem_zipIdx_iff_getElem?]
 exact hg
theorem rng_round {α σ : Type} {zs : List α} {f : Int × α → σ → Option σ} {s0 s1 : σ} (h : rngB zs f s0 = some s1) (pre : List (BackT zs)) (x : BackT zs) (hl : pre.length < zs.length) : ∃ s', f x.1 (pre.foldl (fun s (x : BackT zs) => stB f s x.1) s0) = some s' ∧ stB f (pre.foldl (fun s (x : BackT zs) => stB f s x.1) s0) x.1 = s' := by
 unfold rngB at h
 split at h
 ·rename_i hok
  obtain ⟨s', hs⟩ := okB_some hok (pre.map Subtype.val) x.1 (fun y hy => by obtain ⟨z, _, rfl⟩ := List.mem_map.1 hy; exact backT_mem z) (backT_mem x) (by rw [List.length_map]; exact hl)
  rw [List.foldl_map] at hs
  exact ⟨s', hs, by unfold stB; rw [show f x.1 (List.foldl (fun s (x : BackT zs) => (f x.1 s).getD s) s0 pre) = some s' from hs]; rfl⟩
 ·cases h
theorem rng_done {α σ : Type} {zs : List α} {f : Int × α → σ → Option σ} {s0 s1 : σ} (h : rngB zs f s0 = some s1) {xs : List (BackT zs)} (hx : xs.map Subtype.val = bwL zs) : xs.foldl (fun s (x : BackT zs) => stB f s x.1) s0 = s1 := by
 unfold rngB at h
 split at h
 ·have e := Option.some.inj h
  rw [← hx, List.foldl_map] at e
  exact e
 ·cases h
section
variable {P : Program} {w0 w : World} {P1 : Nat → Prop} {nt : Nat} {e : Nat → Value} {g : Operand} {ps : Array Tmp} {assign body : Code} {Q : Post}
theorem wp_rangeE {σ τ α : Type} (encs : α → Array Value) (hps : ∀ x, (encs x).size = ps.size) {gf : Nat} {lb : Array Value} {S Sp : List α → Prop} {n : Nat} (s0 : σ) (t0 : τ) (step : σ → α → σ) (LH : σ → τ → List (Thing w0.heap.size)) (uP : α → List (Nat × Value)) (uA : α → List (Nat × Value))
  (hg : ev ⟨nt, [], none⟩ e g = .func (.func gf) #[] lb) (eg : ∀ args w, (callFunc gf args).run P w = .ok (.enter gf args) w)
  (hF : Fr w0 w P1 (LH s0 t0) w) (hseq : SeqStopsK Fence.wide 2 P gf lb encs (KpS w P1) S Sp n w)
  (hP : ∀ x, ({ tmps := (ps.zip (encs x)).foldl (fun t (p, v) => t.setIfInBounds p v) (act ⟨nt, [], none⟩ e).tmps, defers := [] } : Act) = act ⟨nt, [], none⟩ (updL e (uP x)))
  (hdet : ∀ (s s' : σ) (t t' : τ) (W : World), Fr w0 w P1 (LH s t) W → Fr w0 w P1 (LH s' t') W → s = s')
  (hassign : ∀ (l : Nat) (s : σ) (t : τ) (x : α) (W : World) (P2 : Nat → Prop), Below w0.heap.size w0 W → (∀ p, Stable w P1 p → Stable W P2 p) → C P ⟨nt, [], some l⟩ w0 W P2 assign (Exit.then (fun a' W' => a' = act ⟨nt, [], none⟩ (updL e (uA x)) ∧ Fr w0 W P2 (LH s t) W') (fun _ _ _ => False)) (updL e (uP x)) (LH s t))
  (hbody : ∀ (l : Nat) (pre : List α) (x : α) (t : τ) (W : World) (P2 : Nat → Prop), Below w0.heap.size w0 W → (∀ p, Stable w P1 p → Stable W P2 p) → pre.length < n → ∀ s, s = pre.foldl step s0 → ∀ s', step s x = s' → C P ⟨nt, [], some l⟩ w0 W P2 body (Exit.then (fun _ W' => ∃ t', Fr w0 W P2 (LH s' t') W') (fun _ _ _ => False)) (updL e (uA x)) (LH s t))
  (hdone : ∀ (D : Nat) (xs : List α) (W : World) (t : τ) (s : σ), s = xs.foldl step s0 → w.heap.size ≤ D → S xs → Fr w0 w P1 (LH s t) W → W.heap[D]? = some (.deferred (some [])) → Q .normal (act ⟨nt, [{ target := .collected D, args := #[] }], none⟩ e) W) :
  (Code.rangeFunc g ps assign body).wpIn Fence.wide 3 P Q (act ⟨nt, [], none⟩ e) w := by
 have hZ : Below w0.heap.size w0 w := hF.bel
 have hkb : ∀ {L W}, Fr w0 w P1 L W → KeptB w W P1 := fun h => h.keptB hZ
 have hown : ∀ (L : List (Thing w0.heap.size)) W W' row, Fr w0 w P1 L W → W.grownBy W' row → (∀ r, row = some r → w.heap.size ≤ r ∧ ∃ o : Obj, W.heap[r]? = some o ∧ o.isCells = false) → Fr w0 w P1 L W' := fun L W W' row h hg hr =>
  h.grown hg (fun r e => ⟨(hr r e).1, Nat.le_trans hZ.size (hr r e).1, (hr r e).2⟩)
 have heq : ∀ {L : List (Thing w0.heap.size)}, L ++ [] = L := fun {L} => List.append_nil L
 refine wpIn_rangeFunc_ownH (n := 3) rfl (by omega) (gf := gf) (lb := lb) (by rw [act_eval]; exact hg) trivial eg hseq (fun h1 h2 h => h2 (h1 h)) (fun W l o o' hl ho _ _ h => h.put o' hl ho) (Below.refl _ _) hps
  (fun pre W => ∃ t, Fr w0 w P1 (LH (pre.foldl step s0) t) W) (fun _ _ _ => False) (fun pre W W' row ⟨t, h⟩ hg hr => ⟨t, hown _ W W' row h hg hr⟩) (fun c s W W' row h _ _ => h) ⟨t0, hF⟩
  (fun x a' W => ∃ s t, a' = act ⟨nt, [], none⟩ (updL e (uA x)) ∧ Fr w0 w P1 (LH s t) W)
  (fun x a' u W W' row ⟨s, t, ha, h⟩ hg hr => ⟨s, t, ha, hown _ W W' row h hg hr⟩) ?_ ?_ ?_ (fun _ _ _ _ _ _ h _ => h.elim)
 ·intro l pre x W K ⟨t, hI⟩ hK
  rw [hP x]
  obtain ⟨P2, hF2, hst, _, hc, hback⟩ := (show Fr w0 w P1 (LH (pre.foldl step s0) t ++ []) W from by rw [heq]; exact hI).here hZ
  have h := hassign l (pre.foldl step s0) t x W P2 hI.bel hst W hF2
  refine wpIn_any (N := ⟨nt, [], some l⟩) (n := 0) (wpIn_mono h ?_)
  intro z a' W' hq
  cases z with
  | normal =>
   obtain ⟨ha, hA⟩ := hq
   have hA' := hback _ _ hA
   exact hK a' W' ((hA.others hc).from _) (fun _ => hkb hA') ⟨t, hA'⟩ ⟨_, t, ha, hA'⟩
  | _ => exact hq
 ·rintro l pre x a' W _ _ ⟨t0', hI⟩ ⟨s, t, rfl, hA⟩ hlen
  have hs : s = pre.foldl step s0 := hdet _ _ _ _ W hA hI
  obtain ⟨P2, hF2, hst, _, hc, hback⟩ := (show Fr w0 w P1 (LH s t ++ []) W from by rw [heq]; exact hA).here hZ
  have h := hbody l pre x t W P2 hI.bel hst hlen s hs _ rfl W hF2
  refine wpIn_any (N := ⟨nt, [], some l⟩) (n := 0) (wpIn_mono h ?_)
  intro z a' W' hq
  cases z with
  | normal =>
   obtain ⟨t', hq'⟩ : ∃ t', Fr w0 W P2 (LH (step s x) t') W' := hq
   have hb := hback _ _ hq'
   refine ⟨(hq'.others hc).from _, fun _ => hkb hb, t', ?_⟩
   show Fr w0 w P1 (LH ((pre ++ [x]).foldl step s0) t') W'
   rw [List.foldl_append, ← hs]
   exact hb
  | _ => exact hq.elim
 ·rintro D xs W hD hS ⟨t, hI⟩ hdf
  exact hdone D xs W t _ rfl hD hS hI hdf
end
section
variable {P : Program} {w0 ws w : World} {P0 : Nat → Prop} {L L' : List (Thing w0.heap.size)} {e : Nat → Value}
theorem x_plainM {fn : Func} {m : Nat} {x : Exit} (hx : x = .ret ∨ x = .normal) {σ : Type} {v0 : σ → Value} {LR : σ → List (Thing w0.heap.size)} (h : X ⟨m, [], none⟩ w0 ws P0 x (retOnly (bodyPost P fn (Post1 w0 ws P0 v0 LR))) e L) : X ⟨m, [], none⟩ w0 ws P0 x (retOnly (bodyPostM Fence.wide 3 P fn (Post1 w0 ws P0 v0 LR))) e L := fun w hw => by
 rcases hx with rfl | rfl
 ·obtain ⟨_, v, hr, hR⟩ := h w hw
  exact ⟨v, hr, hR⟩
 ·obtain ⟨_, v, hr, hR⟩ := h w hw
  exact ⟨v, hr, hR⟩
theorem mark_stab {P4 : Nat → Prop} {D : Nat} (hc : ∀ k, P4 k → ∃ cs q, w.heap[k]? = some (.cells cs q (0, 0))) (hd : w.heap[D]? = some (.deferred (some []))) : Stable w P4 (fun w => w.heap[D]? = some (.deferred (some []))) := fun W' hk => by
 show W'.heap[D]? = _
 rw [hk.kept.2 D (Array.getElem?_eq_some_iff.1 hd).1 (fun hp => by
  obtain ⟨cs, q, hcc⟩ := hc D hp
  rw [hd] at hcc
  cases hcc)]
 exact hd
theorem box_det {i i' g t t' : Nat} {cs cs' : Array Value} (h1 : Fr w0 ws P0 L w) (h2 : Fr w0 ws P0 L' w) (hi : L[i]? = some (box g t cs)) (hi' : L'[i']? = some (box g t' cs')) : cs = cs' := by
 have e := (h1.zb2 hi).symm.trans (h2.zb2 hi')
 injection e with e
 injection e
theorem C_det {α : Type} {dk : Kd α} (hd : ∀ w x y cs, dk.K w x cs → dk.K w y cs → x = y) {w : World} {A : Option Addr} {xs ys : List α} (hl : xs.length = ys.length) (h : dk.C w A xs.length xs) (h' : dk.C w A ys.length ys) : xs = ys := by
 refine List.ext_getElem hl fun i h1 h2 => ?_
 obtain ⟨ad, rfl, hh⟩ := h.2.2 (by omega)
 obtain ⟨ad', e, hh'⟩ := h'.2.2 (by omega)
 cases e
 obtain ⟨c, _, hk, hcell⟩ := hh i _ (List.getElem?_eq_getElem h1)
 obtain ⟨c', _, hk', hcell'⟩ := hh' i _ (List.getElem?_eq_getElem h2)
 have ec : c = c' := by
  refine List.ext_getElem ((dk.K_len hk).trans (dk.K_len hk').symm) fun j k1 k2 => ?_
  have a := hcell j _ (List.getElem?_eq_getElem k1)
  have b := hcell' j _ (List.getElem?_eq_getElem k2)
  rw [a] at b
  exact Option.some.inj b
 subst ec
 exact hd _ _ _ _ hk hk'
end
end Go.Proofs.Ytiaohjciddbpoaa.Frame
