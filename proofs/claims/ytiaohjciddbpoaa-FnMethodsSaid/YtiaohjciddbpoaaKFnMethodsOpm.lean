/- The engine's maps of whole numbers: the map's block is no cells, so it stays while frames are written; at a store the frame begins anew. -/
import Derived.Test.YtiaohjciddbpoaaKFnMethodsOps
import Derived.Maps.OwnIn
import Derived.Maps.Views
set_option linter.unusedVariables false
set_option linter.unusedSimpArgs false
namespace Go.Proofs.Ytiaohjciddbpoaa.Frame
open Go.RowKit Go.Proofs.YtiaohjciddbpoaaW.PrintWords
/-- What a map says: its entries, the latest first. -/
def mlk : List (Int × Int) → Int → Int
 | [], _ => 0
 | h :: t, x => if x = h.1 then h.2 else mlk t x
def mget (m : List (Int × Int)) (x : Int) : Option Int := if (Lit.int .i64 x).wf = true then some (mlk m x) else none
def mput (m : List (Int × Int)) (x v : Int) : Option (List (Int × Int)) := if (Lit.int .i64 x).wf = true ∧ (Lit.int .i64 v).wf = true ∧ m.length < 1000000 then some ((x, v) :: m) else none
def MapAt (P : Program) (k e : TypeId) (b : Nat) (m : List (Int × Int)) (w : World) : Prop := ∃ D : DataW Unit, w.ownsMap P k (plainElem P e) b m.length D ∧ Maps.IsMap D ∧ ∀ x, (Lit.int .i64 x).wf = true → D.atKey (.int .i64 x) (.lit (.int .i64 0)) = .lit (.int .i64 (mlk m x))
section
variable {P : Program} {N : Md} {w0 ws wo : World} {P0 Po : Nat → Prop} {ops : Array Oper} {Q : Post} {ev_ : Nat → Value} {L : List (Thing w0.heap.size)} {o : Oper} {rest : List Oper} {k e t : TypeId} {b : Nat} {m : List (Int × Int)} {w : World}
/-- The frame begins anew; what it comes to is told from where it began first. -/
def Cv (w0 ws : World) (P0 : Nat → Prop) (wo : World) (Po : Nat → Prop) : Prop := ∀ (w' : World) (L' : List (Thing w0.heap.size)), Fr w0 ws P0 L' w' → Fr w0 wo Po L' w'
theorem Cv.refl : Cv w0 ws P0 ws P0 := fun _ _ h => h
theorem rebM (hF : Fr w0 ws P0 L w) (cv : Cv w0 ws P0 wo Po) (hM : MapAt P k e b m w) : ∃ P1, Fr w0 w P1 L w ∧ Below w0.heap.size w0 w ∧ Stable w P1 (MapAt P k e b m) ∧ Cv w0 w P1 wo Po := by
 obtain ⟨P1, h1, h2, h3⟩ := hF.rebase
 refine ⟨P1, h1, hF.bel, fun W hW => ?_, fun w' L' h => cv w' L' (h3 w' L' h)⟩
 obtain ⟨D, ⟨es, clock, hb, F, hs, hD⟩, d1, d2⟩ := hM
 have hlt := (Array.getElem?_eq_some_iff.1 hb).1
 have hn : ¬ P1 b := fun hp => by
  obtain ⟨cs, q, hc⟩ := h2 b hp
  rw [hb] at hc
  cases hc
 exact ⟨D, ⟨es, clock, (hW.kept.2 b hlt hn).trans hb, F, hs, hD⟩, d1, d2⟩
theorem o_mkMap {d : Tmp} {ty : TypeId} {pos : String} {af : Array Edge} (hcv : Cv w0 ws P0 wo Po) (h : ∀ b w1 P1, ws.heap.size ≤ b → w0.heap.size ≤ b → Below w0.heap.size w0 w1 → Stable w1 P1 (MapAt P k e b []) → Cv w0 w1 P1 wo Po → O P N w0 w1 P1 ops rest Q (upd ev_ d (.map (some b))) L) : O P N w0 ws P0 ops (⟨some d, .makeMap t none, ty, pos, af, none⟩ :: rest) Q ev_ L := by
 intro w hF hnd
 obtain ⟨hn1, hn2⟩ := noDL_cons hnd
 unfold wpListIn
 rw [if_pos (zav rfl _)]
 have hM : MapAt P k e w.heap.size [] (w.alloc (.map #[] 0)) := ⟨.map [], World.ownsMap_made w P k _, ⟨[], rfl⟩, fun x _ => rfl⟩
 obtain ⟨P1, r1, r2, r3, r4⟩ := rebM (hF.alloc (.map #[] 0)) hcv hM
 refine oper_in hn1 (val_ev (w1 := w.alloc (.map #[] 0)) (v := .map (some w.heap.size)) ?_ (h w.heap.size _ P1 hF.kept.1 hF.size r2 r3 r4 _ r1 hn2))
 simp [execOp, Instr.makeMap, newObj]
 rfl
theorem int_key (hk : P.underlying k = some (.int .i64)) {x : Int} (hx : (Lit.int .i64 x).wf = true) : keyOf P k (.int .i64 x) = some (.int .i64 x) := Maps.keyOf_int_mk hk hx
theorem o_mapUpd {x v : Int} {m' : List (Int × Int)} {mo ko vo : Operand} {ty : TypeId} {pos : String} {af : Array Edge} {op : Op} (ht : P.underlying t = some (.map k e)) (hk : P.underlying k = some (.int .i64)) (he : P.underlying e = some (.int .i64)) (hop : op = Op.mapUpdate t mo ko vo ∨ op = Op.insert t mo ko vo) (hm : ev N ev_ mo = .map (some b)) (hx : ev N ev_ ko = .int .i64 x) (hv : ev N ev_ vo = .int .i64 v) (hp : mput m x v = some m') (Z : Below w0.heap.size w0 ws) (GM : Stable ws P0 (MapAt P k e b m)) (cv : Cv w0 ws P0 wo Po) (hb : wo.heap.size ≤ b) (hb0 : w0.heap.size ≤ b)
  (h : ∀ w1 P1, Below w0.heap.size w0 w1 → Stable w1 P1 (MapAt P k e b m') → Cv w0 w1 P1 wo Po → O P N w0 w1 P1 ops rest Q ev_ L) : O P N w0 ws P0 ops (⟨none, op, ty, pos, af, none⟩ :: rest) Q ev_ L := by
 intro w hF hnd
 obtain ⟨hn1, hn2⟩ := noDL_cons hnd
 unfold wpListIn
 rw [if_pos (zav rfl _)]
 unfold mput at hp
 split at hp
 ·rename_i hw
  obtain rfl := Option.some.inj hp
  obtain ⟨D, d1, d2, d3⟩ := GM.now Z hF
  obtain ⟨w', hrun, u1, u2⟩ := d1.update (Maps.int_keyed hk) ht (Nat.lt_trans hw.2.2 (by decide)) (int_key hk hw.1) (plainElem_int he hw.2.1)
  have hM : MapAt P k e b ((x, v) :: m) w' := ⟨_, u1, d2.put _ _, fun y hy => by
   unfold mlk
   by_cases c : y = x
   ·subst c
    rw [if_pos rfl]
    exact Maps.atKey_put_same d2 (by simp [WideAt.IsKeyLit]) _ _
   ·rw [if_neg c]
    rw [Maps.atKey_put_other (by simpa using c)]
    exact d3 y hy⟩
  have hlt := d1.lt
  obtain ⟨es, clock, hbk, _⟩ := d1
  have hF' : Fr w0 wo Po L w' := (cv w L hF).grown u2 (fun r hr => by
   obtain rfl := Option.some.inj hr
   exact ⟨hb, hb0, _, hbk, rfl⟩)
  obtain ⟨P1, r1, r2, r3, r4⟩ := rebM hF' Cv.refl hM
  refine oper_in hn1 (skip_ev rfl (w1 := w') ?_ (h w' P1 r2 r3 r4 _ r1 hn2))
  rcases hop with rfl | rfl <;> simp [execOp, hm, hx, hv, hrun]
 ·cases hp
theorem q_look {x y : Int} {mo ko : Operand} {dst : Option Tmp} {ty : TypeId} {pos : String} {af : Array Edge} {g : Option (Nat × Bool)} (ht : P.underlying t = some (.map k e)) (hk : P.underlying k = some (.int .i64)) (he : P.underlying e = some (.int .i64)) (hz : (P.info? e).bind (·.zero) = some (.int .i64 0)) (hm : ev N ev_ mo = .map (some b)) (hx : ev N ev_ ko = .int .i64 x) (hp : mget m x = some y) (Z : Below w0.heap.size w0 ws) (GM : Stable ws P0 (MapAt P k e b m)) : Qt P N ev_ (Fr w0 ws P0 L) ⟨dst, .lookup t mo ko false, ty, pos, af, g⟩ (.int .i64 y) := fun w hF => by
 unfold mget at hp
 split at hp
 ·rename_i hw
  obtain rfl := Option.some.inj hp
  obtain ⟨D, d1, d2, d3⟩ := GM.now Z hF
  have hz' : (zeroValue e).run P w = .ok (.int .i64 0) w := by
   obtain ⟨i, hi, hz⟩ := Option.bind_eq_some_iff.1 hz
   simp [zeroValue, typeInfo, hi, hz]
  obtain ⟨c, hrun, hat, hwc⟩ := d1.lookup_int (Maps.int_keyed hk) ht he hz' (int_key hk hw)
  rw [d3 x hw] at hat
  have hc : mlk m x = c := by
   injection hat with h1
   injection h1
  rw [hc]
  simp [execOp, hm, hx, hrun]
 ·cases hp
/-! a loop that stores into the map -/
theorem c_loopM {σ : Type} {c : Code} (J : Nat → σ → Prop) (W : List Nat) (up : σ → List (Nat × Value)) (LH : σ → List (Thing w0.heap.size)) (mp : σ → List (Int × Int)) (kk : Nat) (s : σ) (h0 : J kk s) (hu : upOk ev_ (up s)) (hL : ∀ w, Fr w0 ws P0 L w → Fr w0 ws P0 (LH s) w) (Z : Below w0.heap.size w0 ws) (GM : Stable ws P0 (MapAt P k e b (mp s))) (cv : Cv w0 ws P0 wo Po)
  (round : ∀ kk s U, J kk s → ∀ w1 P1, Below w0.heap.size w0 w1 → Stable w1 P1 (MapAt P k e b (mp s)) → Cv w0 w1 P1 wo Po → C P N w0 w1 P1 c (Exit.then (fun a w => ∃ k' s' U', k' < kk ∧ J k' s' ∧ a = act N (updL (mixW W U' ev_) (up s')) ∧ Fr w0 wo Po (LH s') w ∧ MapAt P k e b (mp s') w) Q) (updL (mixW W U ev_) (up s)) (LH s)) : C P N w0 ws P0 (.loop c) Q ev_ L := by
 intro w hw
 have key : ∀ n s U w, J n s → Fr w0 wo Po (LH s) w → MapAt P k e b (mp s) w → (Code.loop c).wpIn N.F 0 P Q (act N (updL (mixW W U ev_) (up s))) w := by
  intro n s U w hJ hF hM
  refine wpIn_loop_ghost (fun n a w => ∃ s U, J n s ∧ a = act N (updL (mixW W U ev_) (up s)) ∧ Fr w0 wo Po (LH s) w ∧ MapAt P k e b (mp s) w) n ⟨s, U, hJ, rfl, hF, hM⟩ ?_
  rintro n a w ⟨s, U, hJ, rfl, hF, hM⟩
  obtain ⟨P1, r1, r2, r3, r4⟩ := rebM hF Cv.refl hM
  refine wpIn_mono (round n s U hJ w P1 r2 r3 r4 w r1) ?_
  intro x a w hq
  cases x with
  | normal =>
   obtain ⟨k', s', U', hk, hJ', ha, hF', hM'⟩ := hq
   exact ⟨k', hk, s', U', hJ', ha, hF', hM'⟩
  | _ => exact hq
 have he : act N ev_ = act N (updL (mixW W ev_ ev_) (up s)) := by rw [updL_eq (off_refl W ev_) hu]
 rw [he]
 exact key kk s ev_ w h0 (cv _ _ (hL w hw)) (GM.now Z hw)
theorem x_roundM {σ : Type} {J : Nat → σ → Prop} {W : List Nat} {up : σ → List (Nat × Value)} {LH : σ → List (Thing w0.heap.size)} {mp : σ → List (Int × Int)} {e0 : Nat → Value} {kk : Nat} (k' : Nat) (s' : σ) (hk : k' < kk) (hJ : J k' s') (hu : upOk ev_ (up s')) (hL : ∀ w, Fr w0 ws P0 L w → Fr w0 ws P0 (LH s') w) (Z : Below w0.heap.size w0 ws) (GM : Stable ws P0 (MapAt P k e b (mp s'))) (cv : Cv w0 ws P0 wo Po) (ho : Off W ev_ e0) :
  X N w0 ws P0 .normal (Exit.then (fun a w => ∃ k' s' U', k' < kk ∧ J k' s' ∧ a = act N (updL (mixW W U' e0) (up s')) ∧ Fr w0 wo Po (LH s') w ∧ MapAt P k e b (mp s') w) Q) ev_ L :=
 fun w hw => ⟨k', s', ev_, hk, hJ, by rw [updL_eq ho hu], cv _ _ (hL w hw), GM.now Z hw⟩
/-! ways meet -/
theorem c_cutM {σ : Type} {x y : Code} (J : σ → Prop) (W : List Nat) (up : σ → List (Nat × Value)) (LJ : σ → List (Thing w0.heap.size)) (mp : σ → List (Int × Int)) (cv : Cv w0 ws P0 wo Po) (hx : C P N w0 ws P0 x (Exit.then (fun a w => ∃ s U, J s ∧ a = act N (updL (mixW W U ev_) (up s)) ∧ Fr w0 wo Po (LJ s) w ∧ MapAt P k e b (mp s) w) Q) ev_ L) (hy : ∀ s U, J s → ∀ w1 P1, Below w0.heap.size w0 w1 → Stable w1 P1 (MapAt P k e b (mp s)) → Cv w0 w1 P1 wo Po → C P N w0 w1 P1 y Q (updL (mixW W U ev_) (up s)) (LJ s)) : C P N w0 ws P0 (x.seq y) Q ev_ L := by
 refine fun w hw => wpIn_seq (wpIn_mono (hx w hw) ?_)
 intro z a w hq
 cases z with
 | normal =>
  obtain ⟨s, U, hJ, rfl, hF, hM⟩ := hq
  obtain ⟨P1, r1, r2, r3, r4⟩ := rebM hF Cv.refl hM
  exact hy s U hJ w P1 r2 r3 r4 w r1
 | _ => exact hq
theorem x_meetM {σ : Type} {J : σ → Prop} {W : List Nat} {up : σ → List (Nat × Value)} {LJ : σ → List (Thing w0.heap.size)} {mp : σ → List (Int × Int)} {e0 : Nat → Value} (s : σ) (hJ : J s) (hu : upOk ev_ (up s)) (hL : ∀ w, Fr w0 ws P0 L w → Fr w0 ws P0 (LJ s) w) (Z : Below w0.heap.size w0 ws) (GM : Stable ws P0 (MapAt P k e b (mp s))) (cv : Cv w0 ws P0 wo Po) (ho : Off W ev_ e0) :
  X N w0 ws P0 .normal (Exit.then (fun a w => ∃ s U, J s ∧ a = act N (updL (mixW W U e0) (up s)) ∧ Fr w0 wo Po (LJ s) w ∧ MapAt P k e b (mp s) w) Q) ev_ L :=
 fun w hw => ⟨s, ev_, hJ, by rw [updL_eq ho hu], cv _ _ (hL w hw), GM.now Z hw⟩
/-- What is handed back is told from where the frame began first. -/
theorem x_cv {x : Exit} (cv : Cv w0 ws P0 wo Po) (h : X N w0 wo Po x Q ev_ L) : X N w0 ws P0 x Q ev_ L := fun w hw => h w (cv _ _ hw)
end
end Go.Proofs.Ytiaohjciddbpoaa.Frame
