/- The engine: regions whose order is open. -/
import Derived.Test.YtiaohjciddbpoaaKFnMethodsOpe
import Derived.Test.YtiaohjciddbpoaaKFnMethodsWLast
import Derived.OrdersIn
set_option linter.unusedVariables false
set_option linter.unusedSimpArgs false
namespace Go.Proofs.Ytiaohjciddbpoaa.Frame
open Go.RowKit Go.Proofs.YtiaohjciddbpoaaW.PrintWords Go.Proofs.YtiaohjciddbpoaaW.PrintLast
/-- What is left of a region of open order: LS is what stays behind each operation that is none of ds. -/
def A (P : Program) (N : Md) (w0 ws : World) (P0 : Nat → Prop) (ops : Array Oper) (LS : List (Thing w0.heap.size)) (ds : List Nat) (fuel : Nat) (l : Array Bool) (Q : Post) (e : Nat → Value) (L : List (Thing w0.heap.size)) : Prop :=
 ∀ w, Fr w0 ws P0 L w → zaq P .any ops Q (Fr w0 ws P0 LS) ds fuel l (act N e) w
theorem wpOp_in_ {Nm : Md} {n : Nat} {P : Program} {ops : Array Oper} {Q : Post} {i : Nat} {K : Act → World → Prop} {a : Act} {w : World} (hnd : ∀ (j : Nat) o c, ops[j]? = some o → o.op ≠ .defer c) (hL : ¬ LetsOut Q) (h : wpOp P ops Q i K a w) : wpOpIn Nm.F n P ops Q i K a w := by
 unfold wpOp at h
 unfold wpOpIn
 cases ho : ops[i]? with
 | none => rw [ho] at h; exact h
 | some o =>
  rw [ho] at h
  dsimp only at h ⊢
  split at h
  ·rename_i hw
   rw [if_pos hw]
   rcases h with h | ⟨_, h⟩
   ·exact oper_in (fun c => hnd i o c ho) h
   ·exact absurd h hL
  ·rename_i hw
   rw [if_neg hw]
   exact ⟨fun _ _ => trivial, h⟩
theorem wpAny_in_ {Nm : Md} {n : Nat} {P : Program} {ops : Array Oper} {Q : Post} {md : Region.Mode} (hnd : ∀ (j : Nat) o c, ops[j]? = some o → o.op ≠ .defer c) (hL : ¬ LetsOut Q) : ∀ (fuel : Nat) (listed : Array Bool) (a : Act) (w : World), wpAny P md ops Q fuel listed a w → wpAnyIn Nm.F n P md ops Q fuel listed a w
 | 0, _, _, _, h => h
 | fuel + 1, listed, a, w, h => ⟨h.1, fun i hi => wpOpIn_mono (fun a w hk => wpAny_in_ hnd hL fuel _ a w hk) (wpOp_in_ hnd hL (h.2 i hi))⟩
theorem noDL_spec {ops : Array Oper} (h : noDL ops.toList = true) : ∀ (j : Nat) o c, ops[j]? = some o → o.op ≠ .defer c := fun j o c ho hc => by
 have h1 := List.all_eq_true.1 h o (by rw [Array.mem_toList_iff]; exact Array.mem_of_getElem? ho)
 rw [hc] at h1
 cases h1
theorem region_any_ {Nm : Md} {n : Nat} {P : Program} {ops : Array Oper} {Q : Post} {S : World → Prop} {ds : List Nat} {id k : Nat} {a : Act} {w : World} (hm : P.follows .mixedOrders = true) (hn : ops.size = k) (hnd : noDL ops.toList = true) (hL : ¬ LetsOut Q)
  (h : zaq P .any ops Q S ds k (Array.replicate k false) a w.drew) : (Code.region id ops true).wpIn Nm.F n P Q a w := by
 subst hn
 exact wpIn_region_any hm (wpAny_in_ (noDL_spec hnd) hL _ _ _ _ (wpAny_of_last _ _ _ _ h))
/-- No panic is let by. -/
def NoP (Q : Post) : Prop := ∀ c a w, Q (.panic c) a w → False
section
variable {P : Program} {N : Md} {w0 ws : World} {P0 : Nat → Prop} {ops : Array Oper} {LS L : List (Thing w0.heap.size)} {ds : List Nat} {fuel : Nat} {l : Array Bool} {Q : Post} {e : Nat → Value} {o : Oper} {d : Tmp} {v : Value} {id n : Nat}
theorem a_startS (is : List (Option Nat)) (hm : P.follows .mixedOrders = true) (hn : ops.size = n) (h : A P N w0 ws P0 ops (is.map fun | some j => L.getD j gone | none => gone) ds n (Array.replicate n false) Q e L) (hnd : noDL ops.toList = true := by rfl) (hL : ¬ LetsOut Q := by exact fun h => Exists.elim h fun _ h => Exists.elim h fun _ h => h) : C P N w0 ws P0 (.region id ops true) Q e L := fun w hF =>
 region_any_ hm hn hnd hL (h w.drew hF.drew)
theorem a_start (hm : P.follows .mixedOrders = true) (hn : ops.size = n) (h : A P N w0 ws P0 ops L ds n (Array.replicate n false) Q e L) (hnd : noDL ops.toList = true := by rfl) (hL : ¬ LetsOut Q := by exact fun h => Exists.elim h fun _ h => Exists.elim h fun _ h => h) : C P N w0 ws P0 (.region id ops true) Q e L := fun w hF =>
 region_any_ hm hn hnd hL (h w.drew hF.drew)
theorem a_takew (i : Nat) (hi : ops[i]? = some o) (hd : o.dst = some d) (hw : Region.wanted o (yielded ops (act N e).tmps) = true) (hc : takeB .any ops ds l (l.setIfInBounds i true) i = true) (hQ : NoP Q) (hS : ∀ w, Fr w0 ws P0 L w → Fr w0 ws P0 LS w) (hq : Qt P N e (Fr w0 ws P0 LS) o v) (k : A P N w0 ws P0 ops LS ds fuel (l.setIfInBounds i true) Q (upd e d v) L) : A P N w0 ws P0 ops LS ds (fuel + 1) l Q e L := fun w hF =>
 take_ (l.setIfInBounds i true) hi hd hc (fun c a w h => (hQ c _ _ h).elim) (.inl ⟨hw, fun w' h' => by rw [act_eval]; exact hq w' h'⟩) (hS w hF) (act_put d v) (k w hF)
theorem a_take (i : Nat) (hi : ops[i]? = some o) (hd : o.dst = some d) (hg : o.guard = none) (hc : takeB .any ops ds l (l.setIfInBounds i true) i = true) (hQ : NoP Q) (hS : ∀ w, Fr w0 ws P0 L w → Fr w0 ws P0 LS w) (hq : Qt P N e (Fr w0 ws P0 LS) o v) (k : A P N w0 ws P0 ops LS ds fuel (l.setIfInBounds i true) Q (upd e d v) L) : A P N w0 ws P0 ops LS ds (fuel + 1) l Q e L := a_takew i hi hd (zav hg _) hc hQ hS hq k
theorem a_purew (i : Nat) (hi : ops[i]? = some o) (hd : o.dst = some d) (hw : Region.wanted o (yielded ops (act N e).tmps) = true) (hc : anyB .any ops l (l.setIfInBounds i true) i = true) (hQ : NoP Q) (hq : Qt P N e (fun _ => True) o v) (k : A P N w0 ws P0 ops LS ds fuel (l.setIfInBounds i true) Q (upd e d v) L) : A P N w0 ws P0 ops LS ds (fuel + 1) l Q e L := fun w hF =>
 pure_ (l.setIfInBounds i true) hi hd hc (fun c a w h => (hQ c _ _ h).elim) (.inl ⟨hw, fun w' => by rw [act_eval]; exact hq w' trivial⟩) (act_put d v) (k w hF)
theorem a_pure (i : Nat) (hi : ops[i]? = some o) (hd : o.dst = some d) (hg : o.guard = none) (hc : anyB .any ops l (l.setIfInBounds i true) i = true) (hQ : NoP Q) (hq : Qt P N e (fun _ => True) o v) (k : A P N w0 ws P0 ops LS ds fuel (l.setIfInBounds i true) Q (upd e d v) L) : A P N w0 ws P0 ops LS ds (fuel + 1) l Q e L := a_purew i hi hd (zav hg _) hc hQ hq k
/-- A guard says no. -/
theorem a_no (i : Nat) (hi : ops[i]? = some o) (hd : o.dst = some d) (hw : Region.wanted o (yielded ops (act N e).tmps) = false) (hc : anyB .any ops l (l.setIfInBounds i true) i = true) (hQ : NoP Q) (k : A P N w0 ws P0 ops LS ds fuel (l.setIfInBounds i true) Q (upd e d undef) L) : A P N w0 ws P0 ops LS ds (fuel + 1) l Q e L := fun w hF =>
 pure_ (l.setIfInBounds i true) hi hd hc (fun c a w h => (hQ c _ _ h).elim) (.inr ⟨hw, rfl⟩) (act_put d undef) (k w hF)
section
variable {σ : Type} {e' : σ → Nat → Value} {L' : σ → List (Thing w0.heap.size)}
/-- One event alone may come up. -/
theorem a_onew (i : Nat) (hi : ops[i]? = some o) (hw : Region.wanted o (yielded ops (act N e).tmps) = true) (hc : readyB .any ops l (l.setIfInBounds i true) i = true) (hd : (ds.contains i) = false) (hE : Ev1 P N w0 ws P0 o e L e' L') (hS : ∀ s w, Fr w0 ws P0 (L' s) w → Fr w0 ws P0 LS w) (k : ∀ s, A P N w0 ws P0 ops LS ds fuel (l.setIfInBounds i true) Q (e' s) (L' s)) : A P N w0 ws P0 ops LS ds (fuel + 1) l Q e L := fun w hF =>
 one_ (l.setIfInBounds i true) hi rfl hc (by simpa using hd) (fun K hK => by
  rw [if_pos hw]
  exact hE w hF K Q (fun s w' hF' => hK _ _ (hS s w' hF') (fun _ => k s w' hF')))
theorem a_one (i : Nat) (hi : ops[i]? = some o) (hg : o.guard = none) (hc : readyB .any ops l (l.setIfInBounds i true) i = true) (hd : (ds.contains i) = false) (hE : Ev1 P N w0 ws P0 o e L e' L') (hS : ∀ s w, Fr w0 ws P0 (L' s) w → Fr w0 ws P0 LS w) (k : ∀ s, A P N w0 ws P0 ops LS ds fuel (l.setIfInBounds i true) Q (e' s) (L' s)) : A P N w0 ws P0 ops LS ds (fuel + 1) l Q e L := a_onew i hi (zav hg _) hc hd hE hS k
end
/-- A quiet operation as an event: behind ds. -/
theorem ev_q (hd : o.dst = some d) (hq : Qt P N e (Fr w0 ws P0 L) o v) : Ev1 P N w0 ws P0 o e L (fun _ : Unit => upd e d v) (fun _ => L) := fun w hF K Q k =>
 val_ev (hq w hF) (by rw [hd]; exact k () w hF)
theorem ev_pick {σ : Type} {e' : σ → Nat → Value} {L' : σ → List (Thing w0.heap.size)} (is : List Nat) (hn : is.Nodup) (hl : is.all (fun j => Nat.blt j L.length) = true) (h : Ev1 P N w0 ws P0 o e (is.map fun j => L.getD j gone) e' L') : Ev1 P N w0 ws P0 o e L e' L' := fun w hF => h w (f_pick is hn hl w hF)
/-- Two events may come up. -/
theorem a_two {σ σ2 : Type} {e' : σ → Nat → Value} {L' : σ → List (Thing w0.heap.size)} {e2 : σ2 → Nat → Value} {L2 : σ2 → List (Thing w0.heap.size)} {o2 : Oper} (i j : Nat) (hi : ops[i]? = some o) (hj : ops[j]? = some o2) (hgi : o.guard = none) (hgj : o2.guard = none) (hc : (Region.ready .any ops l == [i, j]) = true) (hdi : (ds.contains i) = false) (hdj : (ds.contains j) = false)
  (hE : Ev1 P N w0 ws P0 o e L e' L') (hS : ∀ s w, Fr w0 ws P0 (L' s) w → Fr w0 ws P0 LS w) (hE2 : Ev1 P N w0 ws P0 o2 e L e2 L2) (hS2 : ∀ s w, Fr w0 ws P0 (L2 s) w → Fr w0 ws P0 LS w) (k : ∀ s, A P N w0 ws P0 ops LS ds fuel (l.setIfInBounds i true) Q (e' s) (L' s)) (k2 : ∀ s, A P N w0 ws P0 ops LS ds fuel (l.setIfInBounds j true) Q (e2 s) (L2 s)) : A P N w0 ws P0 ops LS ds (fuel + 1) l Q e L := fun w hF =>
 two_ (l.setIfInBounds i true) (l.setIfInBounds j true) hi hj rfl rfl (by simpa using hc) (by simpa using hdi) (by simpa using hdj) (fun K hK => by
  rw [if_pos (zav hgi _)]
  exact hE w hF K Q (fun s w' hF' => hK _ _ (hS s w' hF') (fun _ => k s w' hF'))) (fun K hK => by
  rw [if_pos (zav hgj _)]
  exact hE2 w hF K Q (fun s w' hF' => hK _ _ (hS2 s w' hF') (fun _ => k2 s w' hF')))
/-- Three events may come up. -/
theorem a_three {σ σ2 σ3 : Type} {e' : σ → Nat → Value} {L' : σ → List (Thing w0.heap.size)} {e2 : σ2 → Nat → Value} {L2 : σ2 → List (Thing w0.heap.size)} {e3 : σ3 → Nat → Value} {L3 : σ3 → List (Thing w0.heap.size)} {o2 o3 : Oper} (i j m : Nat) (hi : ops[i]? = some o) (hj : ops[j]? = some o2) (hm : ops[m]? = some o3) (hgi : o.guard = none) (hgj : o2.guard = none) (hgm : o3.guard = none) (hc : (Region.ready .any ops l == [i, j, m]) = true) (hdi : (ds.contains i) = false) (hdj : (ds.contains j) = false) (hdm : (ds.contains m) = false)
  (hE : Ev1 P N w0 ws P0 o e L e' L') (hS : ∀ s w, Fr w0 ws P0 (L' s) w → Fr w0 ws P0 LS w) (hE2 : Ev1 P N w0 ws P0 o2 e L e2 L2) (hS2 : ∀ s w, Fr w0 ws P0 (L2 s) w → Fr w0 ws P0 LS w) (hE3 : Ev1 P N w0 ws P0 o3 e L e3 L3) (hS3 : ∀ s w, Fr w0 ws P0 (L3 s) w → Fr w0 ws P0 LS w) (k : ∀ s, A P N w0 ws P0 ops LS ds fuel (l.setIfInBounds i true) Q (e' s) (L' s)) (k2 : ∀ s, A P N w0 ws P0 ops LS ds fuel (l.setIfInBounds j true) Q (e2 s) (L2 s)) (k3 : ∀ s, A P N w0 ws P0 ops LS ds fuel (l.setIfInBounds m true) Q (e3 s) (L3 s)) : A P N w0 ws P0 ops LS ds (fuel + 1) l Q e L := fun w hF =>
 three_ (l.setIfInBounds i true) (l.setIfInBounds j true) (l.setIfInBounds m true) hi hj hm rfl rfl rfl (by simpa using hc) (by simpa using hdi) (by simpa using hdj) (by simpa using hdm) (fun K hK => by
  rw [if_pos (zav hgi _)]
  exact hE w hF K Q (fun s w' hF' => hK _ _ (hS s w' hF') (fun _ => k s w' hF'))) (fun K hK => by
  rw [if_pos (zav hgj _)]
  exact hE2 w hF K Q (fun s w' hF' => hK _ _ (hS2 s w' hF') (fun _ => k2 s w' hF'))) (fun K hK => by
  rw [if_pos (zav hgm _)]
  exact hE3 w hF K Q (fun s w' hF' => hK _ _ (hS3 s w' hF') (fun _ => k3 s w' hF')))
theorem zaj (hr : (Region.ready .any ops l == []) = true) (h : X N w0 ws P0 .normal Q e L) : A P N w0 ws P0 ops LS ds fuel l Q e L := fun w hF => done_ hr (h w hF)
theorem a_fact {p : Prop} (hp : ∀ w, Fr w0 ws P0 L w → p) (k : p → A P N w0 ws P0 ops LS ds fuel l Q e L) : A P N w0 ws P0 ops LS ds fuel l Q e L := fun w hw => k (hp w hw) w hw
theorem a_pick (is : List Nat) (hn : is.Nodup) (hl : is.all (fun j => Nat.blt j L.length) = true) (h : A P N w0 ws P0 ops LS ds fuel l Q e (is.map fun j => L.getD j gone)) : A P N w0 ws P0 ops LS ds fuel l Q e L := fun w hw => h w (f_pick is hn hl w hw)
end
/-! ### loops and meetings, told by what changes -/
def updL (e : Nat → Value) : List (Nat × Value) → Nat → Value
 | [] => e
 | (d, v) :: r => upd (updL e r) d v
def memN : List Nat → Nat → Bool
 | [], _ => false
 | a :: l, t => bif Nat.beq a t then true else memN l t
def mixW (W : List Nat) (U e : Nat → Value) : Nat → Value := fun t => bif memN W t then U t else e t
def setT {α : Type} (L : List α) : List (Nat × α) → List α
 | [] => L
 | (i, T) :: r => (setT L r).set i T
section
variable {P : Program} {N : Md} {w0 ws : World} {P0 : Nat → Prop} {L : List (Thing w0.heap.size)} {Q : Post} {e : Nat → Value} {c x y : Code}
/-- Outside of W as in e0. -/
def Off (W : List Nat) (e e0 : Nat → Value) : Prop := ∀ t, memN W t = false → e t = e0 t
theorem off_refl (W : List Nat) (e : Nat → Value) : Off W e e := fun _ _ => rfl
theorem off_upd {W : List Nat} {e e0 : Nat → Value} {d : Nat} {v : Value} (hd : memN W d = true) (h : Off W e e0) : Off W (upd e d v) e0 := fun t ht => by
 unfold upd
 cases hb : Nat.beq t d with
 | true =>
  have := Nat.eq_of_beq_eq_true hb
  subst this
  rw [ht] at hd
  cases hd
 | false => exact h t ht
theorem off_mix {W W' : List Nat} {U e e0 : Nat → Value} (hW : W'.all (memN W) = true) (h : Off W e e0) : Off W (mixW W' U e) e0 := fun t ht => by
 unfold mixW
 cases hb : memN W' t with
 | true =>
  exfalso
  have key : ∀ l : List Nat, memN l t = true → t ∈ l := fun l => by
   induction l with
   | nil => intro h; cases h
   | cons a l ih =>
    intro h
    unfold memN at h
    cases hc : Nat.beq a t with
    | true => exact List.mem_cons.2 (.inl (Nat.eq_of_beq_eq_true hc).symm)
    | false => rw [hc] at h; exact List.mem_cons.2 (.inr (ih h))
  have := List.all_eq_true.1 hW t (key _ hb)
  rw [ht] at this
  cases this
 | false => exact h t ht
theorem off_updL {W : List Nat} {e e0 : Nat → Value} {up : List (Nat × Value)} (hu : up.all (fun p => memN W p.1) = true) (h : Off W e e0) : Off W (updL e up) e0 := by
 induction up with
 | nil => exact h
 | cons p up ih =>
  obtain ⟨d, v⟩ := p
  simp only [List.all_cons, Bool.and_eq_true] at hu
  exact off_upd hu.1 (ih hu.2)
/-- The slots of up hold what it says. -/
def upOk (e : Nat → Value) : List (Nat × Value) → Prop
 | [] => True
 | (d, v) :: r => e d = v ∧ upOk e r
theorem updL_eq {W : List Nat} {e e0 : Nat → Value} {up : List (Nat × Value)} (h : Off W e e0) (hu : upOk e up) : updL (mixW W e e0) up = e := by
 induction up with
 | nil =>
  funext t
  show (bif memN W t then e t else e0 t) = e t
  cases hb : memN W t with
  | true => rfl
  | false => exact (h t hb).symm
 | cons p up ih =>
  obtain ⟨d, v⟩ := p
  obtain ⟨h1, h2⟩ := hu
  funext t
  show upd (updL (mixW W e e0) up) d v t = e t
  rw [ih h2]
  unfold upd
  cases hb : Nat.beq t d with
  | true => rw [Nat.eq_of_beq_eq_true hb]; exact h1.symm
  | false => rfl
theorem zas {σ : Type} (J : Nat → σ → Prop) (W : List Nat) (up : σ → List (Nat × Value)) (LH : σ → List (Thing w0.heap.size)) (k : Nat) (s : σ) (h0 : J k s) (hu : upOk e (up s)) (hL : ∀ w, Fr w0 ws P0 L w → Fr w0 ws P0 (LH s) w)
  (round : ∀ k s U, J k s → C P N w0 ws P0 c (Exit.then (fun a w => ∃ k' s' U', k' < k ∧ J k' s' ∧ a = act N (updL (mixW W U' e) (up s')) ∧ Fr w0 ws P0 (LH s') w) Q) (updL (mixW W U e) (up s)) (LH s)) : C P N w0 ws P0 (.loop c) Q e L :=
 c_loop J (fun s U => updL (mixW W U e) (up s)) LH k s h0 e (by rw [updL_eq (off_refl W e) hu]) hL round
theorem zal {σ : Type} {J : Nat → σ → Prop} {W : List Nat} {up : σ → List (Nat × Value)} {LH : σ → List (Thing w0.heap.size)} {e0 : Nat → Value} {k : Nat} (k' : Nat) (s' : σ) (hk : k' < k) (hJ : J k' s') (hu : upOk e (up s')) (hL : ∀ w, Fr w0 ws P0 L w → Fr w0 ws P0 (LH s') w) (ho : Off W e e0) :
  X N w0 ws P0 .normal (Exit.then (fun a w => ∃ k' s' U', k' < k ∧ J k' s' ∧ a = act N (updL (mixW W U' e0) (up s')) ∧ Fr w0 ws P0 (LH s') w) Q) e L :=
 fun w hw => ⟨k', s', e, hk, hJ, by rw [updL_eq ho hu], hL w hw⟩
theorem c_cutJ {σ : Type} (J : σ → Prop) (W : List Nat) (up : σ → List (Nat × Value)) (LJ : σ → List (Thing w0.heap.size)) (hx : C P N w0 ws P0 x (Exit.then (fun a w => ∃ s U, J s ∧ a = act N (updL (mixW W U e) (up s)) ∧ Fr w0 ws P0 (LJ s) w) Q) e L) (hy : ∀ s U, J s → C P N w0 ws P0 y Q (updL (mixW W U e) (up s)) (LJ s)) : C P N w0 ws P0 (x.seq y) Q e L := by
 refine fun w hw => wpIn_seq (wpIn_mono (hx w hw) ?_)
 intro z a w hq
 cases z with
 | normal =>
  obtain ⟨s, U, hJ, rfl, hF⟩ := hq
  exact hy s U hJ w hF
 | _ => exact hq
theorem zah {σ : Type} {J : σ → Prop} {W : List Nat} {up : σ → List (Nat × Value)} {LJ : σ → List (Thing w0.heap.size)} {e0 : Nat → Value} (s : σ) (hJ : J s) (hu : upOk e (up s)) (hL : ∀ w, Fr w0 ws P0 L w → Fr w0 ws P0 (LJ s) w) (ho : Off W e e0) :
  X N w0 ws P0 .normal (Exit.then (fun a w => ∃ s U, J s ∧ a = act N (updL (mixW W U e0) (up s)) ∧ Fr w0 ws P0 (LJ s) w) Q) e L :=
 fun w hw => ⟨s, e, hJ, by rw [updL_eq ho hu], hL w hw⟩
theorem c_fact {p : Prop} (hp : ∀ w, Fr w0 ws P0 L w → p) (k : p → C P N w0 ws P0 c Q e L) : C P N w0 ws P0 c Q e L := fun w hw => k (hp w hw) w hw
theorem x_fact {p : Prop} {z : Exit} (hp : ∀ w, Fr w0 ws P0 L w → p) (k : p → X N w0 ws P0 z Q e L) : X N w0 ws P0 z Q e L := fun w hw => k (hp w hw) w hw
theorem c_nil {α : Type} (dk : Kd α) (u : Nat) (k : C P N w0 ws P0 c Q e (row dk u (.slice none 0 0) [] :: L)) : C P N w0 ws P0 c Q e L := fun w hF => k w (hF.row_nil dk u)
theorem x_nil {α : Type} {z : Exit} (dk : Kd α) (u : Nat) (k : X N w0 ws P0 z Q e (row dk u (.slice none 0 0) [] :: L)) : X N w0 ws P0 z Q e L := fun w hF => k w (hF.row_nil dk u)
end
/-! ### steps that touch no goal -/
theorem za6 {α0 : Type} {β : Type} {o : Option α0} {f : α0 → Option β} {r : Option β} {p : Prop} (h : o.bind f = r) (k : ∀ (x0 : α0), o = some x0 → f x0 = r → p) (hn : r.isSome = true) : p := by
 cases ho : o with
 | none => rw [ho] at h; subst h; cases hn
 | some z =>
  rw [ho] at h
  exact k z ho h
theorem bindE2 {α0 α1 : Type} {β : Type} {o : Option (α0 × α1)} {f : (α0 × α1) → Option β} {r : Option β} {p : Prop} (h : o.bind f = r) (k : ∀ (x0 : α0) (x1 : α1), o = some (x0, x1) → f (x0, x1) = r → p) (hn : r.isSome = true) : p := by
 cases ho : o with
 | none => rw [ho] at h; subst h; cases hn
 | some z =>
  rw [ho] at h
  exact k z.1 z.2 ho h
theorem cur2 {α0 α1 : Type} {p : (α0 × α1) → Prop} (h : ∀ (x0 : α0) (x1 : α1), p (x0, x1)) : ∀ s, p s := fun ⟨x0, x1⟩ => h x0 x1
theorem bindE3 {α0 α1 α2 : Type} {β : Type} {o : Option (α0 × α1 × α2)} {f : (α0 × α1 × α2) → Option β} {r : Option β} {p : Prop} (h : o.bind f = r) (k : ∀ (x0 : α0) (x1 : α1) (x2 : α2), o = some (x0, x1, x2) → f (x0, x1, x2) = r → p) (hn : r.isSome = true) : p := by
 cases ho : o with
 | none => rw [ho] at h; subst h; cases hn
 | some z =>
  rw [ho] at h
  exact k z.1 z.2.1 z.2.2 ho h
theorem cur3 {α0 α1 α2 : Type} {p : (α0 × α1 × α2) → Prop} (h : ∀ (x0 : α0) (x1 : α1) (x2 : α2), p (x0, x1, x2)) : ∀ s, p s := fun ⟨x0, x1, x2⟩ => h x0 x1 x2
theorem bindE4 {α0 α1 α2 α3 : Type} {β : Type} {o : Option (α0 × α1 × α2 × α3)} {f : (α0 × α1 × α2 × α3) → Option β} {r : Option β} {p : Prop} (h : o.bind f = r) (k : ∀ (x0 : α0) (x1 : α1) (x2 : α2) (x3 : α3), o = some (x0, x1, x2, x3) → f (x0, x1, x2, x3) = r → p) (hn : r.isSome = true) : p := by
 cases ho : o with
 | none => rw [ho] at h; subst h; cases hn
 | some z =>
  rw [ho] at h
  exact k z.1 z.2.1 z.2.2.1 z.2.2.2 ho h
theorem cur4 {α0 α1 α2 α3 : Type} {p : (α0 × α1 × α2 × α3) → Prop} (h : ∀ (x0 : α0) (x1 : α1) (x2 : α2) (x3 : α3), p (x0, x1, x2, x3)) : ∀ s, p s := fun ⟨x0, x1, x2, x3⟩ => h x0 x1 x2 x3
theorem cur5 {α0 α1 α2 α3 α4 : Type} {p : (α0 × α1 × α2 × α3 × α4) → Prop} (h : ∀ (x0 : α0) (x1 : α1) (x2 : α2) (x3 : α3) (x4 : α4), p (x0, x1, x2, x3, x4)) : ∀ s, p s := fun ⟨x0, x1, x2, x3, x4⟩ => h x0 x1 x2 x3 x4
theorem cur6 {α0 α1 α2 α3 α4 α5 : Type} {p : (α0 × α1 × α2 × α3 × α4 × α5) → Prop} (h : ∀ (x0 : α0) (x1 : α1) (x2 : α2) (x3 : α3) (x4 : α4) (x5 : α5), p (x0, x1, x2, x3, x4, x5)) : ∀ s, p s := fun ⟨x0, x1, x2, x3, x4, x5⟩ => h x0 x1 x2 x3 x4 x5
theorem cur7 {α0 α1 α2 α3 α4 α5 α6 : Type} {p : (α0 × α1 × α2 × α3 × α4 × α5 × α6) → Prop} (h : ∀ (x0 : α0) (x1 : α1) (x2 : α2) (x3 : α3) (x4 : α4) (x5 : α5) (x6 : α6), p (x0, x1, x2, x3, x4, x5, x6)) : ∀ s, p s := fun ⟨x0, x1, x2, x3, x4, x5, x6⟩ => h x0 x1 x2 x3 x4 x5 x6
theorem cur8 {α0 α1 α2 α3 α4 α5 α6 α7 : Type} {p : (α0 × α1 × α2 × α3 × α4 × α5 × α6 × α7) → Prop} (h : ∀ (x0 : α0) (x1 : α1) (x2 : α2) (x3 : α3) (x4 : α4) (x5 : α5) (x6 : α6) (x7 : α7), p (x0, x1, x2, x3, x4, x5, x6, x7)) : ∀ s, p s := fun ⟨x0, x1, x2, x3, x4, x5, x6, x7⟩ => h x0 x1 x2 x3 x4 x5 x6 x7
theorem cur10 {α0 α1 α2 α3 α4 α5 α6 α7 α8 α9 : Type} {p : (α0 × α1 × α2 × α3 × α4 × α5 × α6 × α7 × α8 × α9) → Prop} (h : ∀ (x0 : α0) (x1 : α1) (x2 : α2) (x3 : α3) (x4 : α4) (x5 : α5) (x6 : α6) (x7 : α7) (x8 : α8) (x9 : α9), p (x0, x1, x2, x3, x4, x5, x6, x7, x8, x9)) : ∀ s, p s := fun ⟨x0, x1, x2, x3, x4, x5, x6, x7, x8, x9⟩ => h x0 x1 x2 x3 x4 x5 x6 x7 x8 x9
theorem bindE14 {α0 α1 α2 α3 α4 α5 α6 α7 α8 α9 α10 α11 α12 α13 : Type} {β : Type} {o : Option (α0 × α1 × α2 × α3 × α4 × α5 × α6 × α7 × α8 × α9 × α10 × α11 × α12 × α13)} {f : (α0 × α1 × α2 × α3 × α4 × α5 × α6 × α7 × α8 × α9 × α10 × α11 × α12 × α13) → Option β} {r : Option β} {p : Prop} (h : o.bind f = r) (k : ∀ (x0 : α0) (x1 : α1) (x2 : α2) (x3 : α3) (x4 : α4) (x5 : α5) (x6 : α6) (x7 : α7) (x8 : α8) (x9 : α9) (x10 : α10) (x11 : α11) (x12 : α12) (x13 : α13), o = some (x0, x1, x2, x3, x4, x5, x6, x7, x8, x9, x10, x11, x12, x13) → f (x0, x1, x2, x3, x4, x5, x6, x7, x8, x9, x10, x11, x12, x13) = r → p) (hn : r.isSome = true) : p := by
 cases ho : o with
 | none => rw [ho] at h; subst h; cases hn
 | some z =>
  rw [ho] at h
  exact k z.1 z.2.1 z.2.2.1 z.2.2.2.1 z.2.2.2.2.1 z.2.2.2.2.2.1 z.2.2.2.2.2.2.1 z.2.2.2.2.2.2.2.1 z.2.2.2.2.2.2.2.2.1 z.2.2.2.2.2.2.2.2.2.1 z.2.2.2.2.2.2.2.2.2.2.1 z.2.2.2.2.2.2.2.2.2.2.2.1 z.2.2.2.2.2.2.2.2.2.2.2.2.1 z.2.2.2.2.2.2.2.2.2.2.2.2.2 ho h
theorem byB (b : Bool) {p : Prop} (t : b = true → p) (f : b = false → p) : p := by
 cases b
 ·exact f rfl
 ·exact t rfl
theorem listC {α : Type} {p : List α → Prop} (h0 : p []) (h1 : ∀ y ys, p (y :: ys)) : ∀ l, p l
 | [] => h0
 | y :: ys => h1 y ys
theorem natC {p : Nat → Prop} (h0 : p 0) (h1 : ∀ d, p (d + 1)) : ∀ d, p d
 | 0 => h0
 | d + 1 => h1 d
theorem noneE {α : Type} {r : α} {p : Prop} (h : (none : Option α) = some r) : p := nomatch h
/-! ### pure words for tests and rounds -/
section
variable {α β : Type}
theorem br_t {p : Prop} [Decidable p] {x y : Option α} {r : Option α} (hb : decide p = true) (h : (if p then x else y) = r) : x = r := by rwa [if_pos (of_decide_eq_true hb)] at h
theorem br_f {p : Prop} [Decidable p] {x y : Option α} {r : Option α} (hb : decide p = false) (h : (if p then x else y) = r) : y = r := by rwa [if_neg (of_decide_eq_false hb)] at h
theorem bb_t {b : Bool} {x y : Option α} {r : Option α} (hb : b = true) (h : (if b = true then x else y) = r) : x = r := by rwa [if_pos hb] at h
theorem bb_f {b : Bool} {x y : Option α} {r : Option α} (hb : b = false) (h : (if b = true then x else y) = r) : y = r := by rwa [if_neg (by rw [hb]; simp)] at h
theorem nt_t {b : Bool} (h : (!b) = true) : b = false := by simpa using h
theorem nt_f {b : Bool} (h : (!b) = false) : b = true := by simpa using h
def w64 (x : Int) : Int := IntKind.i64.wrap x
theorem zam {x : Int} (h : -9223372036854775808 ≤ x ∧ x ≤ 9223372036854775807) : w64 x = x := IntWalk.i64_in x h
/-- A range over a list: index i, what is left ys. -/
def Rg (xs : List α) (i : Int) (ys : List α) : Prop := 0 ≤ i ∧ i.toNat ≤ xs.length ∧ xs.drop i.toNat = ys
theorem Rg.start (xs : List α) : Rg xs 0 xs := ⟨Int.le_refl 0, Nat.zero_le _, rfl⟩
theorem Rg.len {xs ys : List α} {i : Int} (h : Rg xs i ys) : i + (ys.length : Int) = xs.length := by
 obtain ⟨h0, h1, rfl⟩ := h
 rw [List.length_drop]
 omega
theorem Rg.get {xs ys : List α} {i : Int} {y : α} (h : Rg xs i (y :: ys)) : gt xs i = some y := by
 obtain ⟨h0, h1, h2⟩ := h
 unfold gt
 rw [if_pos h0]
 have h3 : (xs.drop i.toNat)[0]? = some y := by rw [h2]; rfl
 rw [List.getElem?_drop] at h3
 simpa using h3
theorem Rg.step {xs ys : List α} {i : Int} {y : α} (h : Rg xs i (y :: ys)) : Rg xs (i + 1) ys := by
 have hl := h.len
 obtain ⟨h0, h1, h2⟩ := h
 simp only [List.length_cons] at hl
 have h3 : (i + 1).toNat = i.toNat + 1 := by omega
 refine ⟨by omega, by omega, ?_⟩
 rw [h3, ← List.drop_drop, h2]
 rfl
theorem Rg.lt {xs ys : List α} {i : Int} {y : α} (h : Rg xs i (y :: ys)) : decide (i < (xs.length : Int)) = true := by
 have hl := h.len
 simp only [List.length_cons] at hl
 exact decide_eq_true (by omega)
theorem Rg.ge {xs : List α} {i : Int} (h : Rg xs i []) : decide (i < (xs.length : Int)) = false := by
 have hl := h.len
 simp only [List.length_nil] at hl
 exact decide_eq_false (by omega)
theorem Rg.up {xs ys : List α} {i : Int} {y : α} (h : Rg xs i (y :: ys)) (hm : xs.length ≤ 9223372036854775807) : IntKind.i64.wrap (i + 1) = i + 1 := by
 have hl := h.len
 have h0 := h.1
 simp only [List.length_cons] at hl
 exact IntWalk.i64_in _ (by omega)
def bd (n : Int) : Option Unit := if n ≤ 9223372036854775807 then some () else none
theorem bd_le {n : Int} {u : Unit} (h : bd n = some u) : n ≤ 9223372036854775807 := by
 unfold bd at h
 split at h
 ·assumption
 ·cases h
/-- A range over a number: index i, d rounds are left. -/
def Cn (n i : Int) (d : Nat) : Prop := 0 ≤ i ∧ d = (n - i).toNat ∧ n ≤ 9223372036854775807
theorem Cn.start {n : Int} (h : n ≤ 9223372036854775807) : Cn n 0 n.toNat := ⟨Int.le_refl 0, by rw [Int.sub_zero], h⟩
theorem Cn.step {n i : Int} {d : Nat} (h : Cn n i (d + 1)) : Cn n (i + 1) d := by
 obtain ⟨h0, h1, h2⟩ := h
 exact ⟨by omega, by omega, h2⟩
theorem Cn.lt {n i : Int} {d : Nat} (h : Cn n i (d + 1)) : decide (i < n) = true := by
 obtain ⟨h0, h1, h2⟩ := h
 exact decide_eq_true (by omega)
theorem Cn.ge {n i : Int} (h : Cn n i 0) : decide (i < n) = false := by
 obtain ⟨h0, h1, h2⟩ := h
 exact decide_eq_false (by omega)
theorem Cn.up {n i : Int} {d : Nat} (h : Cn n i (d + 1)) : IntKind.i64.wrap (i + 1) = i + 1 := by
 obtain ⟨h0, h1, h2⟩ := h
 exact IntWalk.i64_in _ (by omega)
end
/-! ### facts of types, computed -/
def fldOff (P : Program) (t f : Nat) : Option Nat := match P.underlying t with
 | some (.struct fs) => match fs[f]? with
  | some fd => match P.info? fd.type with
   | some i => bif Nat.blt 0 i.size then some fd.offset else none
   | none => none
  | none => none
 | _ => none
theorem fldOff_spec {P : Program} {t f off : Nat} (h : fldOff P t f = some off) : ∃ fs fd, P.underlying t = some (.struct fs) ∧ fs[f]? = some fd ∧ fd.offset = off ∧ ((P.info? fd.type).map (fun i => Nat.blt 0 i.size)) = some true := by
 unfold fldOff at h
 split at h
 ·rename_i fs hs
  split at h
  ·rename_i fd hf
   split at h
   ·rename_i i hi
    cases hb : Nat.blt 0 i.size with
    | false => rw [hb] at h; cases h
    | true =>
     rw [hb] at h
     exact ⟨fs, fd, hs, hf, Option.some.inj h, by rw [hi]; simp [hb]⟩
   ·cases h
  ·cases h
 ·cases h
section
variable {P : Program} {N : Md} {S : World → Prop} {e : Nat → Value} {dst : Option Tmp} {ty : TypeId} {pos : String} {af : Array Edge} {g : Option (Nat × Bool)} {x : Operand} {t f off : Nat}
theorem q_f {b : Nat} (h : fldOff P t f = some off) (hx : ev N e x = .pointer (some ⟨b, 0, none⟩)) : Qt P N e S ⟨dst, .fieldAddr t x f, ty, pos, af, g⟩ (.pointer (some ⟨b, off, none⟩)) := by
 obtain ⟨fs, fd, h1, h2, h3, h4⟩ := fldOff_spec h
 exact q_fld h1 h2 h3 h4 hx
theorem q_fe {a : Addr} {m : Nat} (h : fldOff P t f = some off) (hx : ev N e x = .pointer (some (a.add m))) : Qt P N e S ⟨dst, .fieldAddr t x f, ty, pos, af, g⟩ (.pointer (some (a.add (m + off)))) := by
 obtain ⟨fs, fd, h1, h2, h3, h4⟩ := fldOff_spec h
 exact q_flde h1 h2 h3 h4 hx
end
theorem nodup_id {is : List (Option Nat)} (hn : (is.filterMap id).Nodup) {m m' j : Nat} (h : is[m]? = some (some j)) (h' : is[m']? = some (some j)) : m = m' := by
 induction is generalizing m m' with
 | nil => simp at h
 | cons o is ih =>
  have key : ∀ q, is[q]? = some (some j) → o = some j → False := fun q hq ho => by
   subst ho
   have : (some j :: is).filterMap id = j :: is.filterMap id := by simp
   rw [this, List.nodup_cons] at hn
   exact hn.1 (List.mem_filterMap.2 ⟨some j, List.mem_of_getElem? hq, rfl⟩)
  have hn2 : (is.filterMap id).Nodup := by
   cases o with
   | none => simpa using hn
   | some a =>
    have : (some a :: is).filterMap id = a :: is.filterMap id := by simp
    rw [this, List.nodup_cons] at hn
    exact hn.2
  cases m with
  | zero =>
   cases m' with
   | zero => rfl
   | succ m' => exact (key m' (by simpa using h') (by simpa using h)).elim
  | succ m =>
   cases m' with
   | zero => exact (key m (by simpa using h) (by simpa using h')).elim
   | succ m' => exact congrArg (· + 1) (ih hn2 (by simpa using h) (by simpa using h'))
/-! ### what a function hands back -/
def rvS (tmps : Array Value) : ResultVar → Sem Value
 | .tmp t => pure (tmps.getD t undef)
 | .cell a t => do loadVar t (← asAddr (tmps.getD a undef))
theorem results_eq (fn : Func) (tmps : Array Value) : results fn tmps = (do
 let vs ← fn.results.mapM (rvS tmps)
 pure (if h : vs.size = 1 then vs[0] else .tuple vs)) := rfl
def Rv (P : Program) (N : Md) (e : Nat → Value) (S : World → Prop) (rv : ResultVar) (v : Value) : Prop := ∀ w, S w → (rvS (act N e).tmps rv).run P w = .ok v w
section
variable {P : Program} {N : Md} {S : World → Prop} {e : Nat → Value} {t a : Nat} {v : Value} {w0 ws : World} {P0 : Nat → Prop} {L : List (Thing w0.heap.size)} {fn : Func}
theorem zad (hx : ev N e (.tmp t) = v) : Rv P N e S (.tmp t) v := fun w _ => by
 show Result.ok ((act N e).tmps.getD t undef) w = _
 rw [act_get]
 exact congrArg (fun v => Result.ok v w) hx
theorem zb0 {g bt n : Nat} {cs : Array Value} (hx : ev N e (.tmp a) = .pointer (some ⟨g, 0, none⟩)) (ht : aggTy (P.underlying t) = true) (hz : (P.info? t).map (·.size) = some n) (hB : ∀ w, S w → w.heap[g]? = some (.cells cs bt (0, 0))) (hn : cs.size = n) : Rv P N e S (.cell a t) (.agg cs) := fun w hS => by
 have h := loadVar_agg (P := P) (t := t) (w := w) (a := ⟨g, 0, none⟩) (cs := cs.toList) ht (by subst hn; simpa using hz) (fun j u hj => by
  rw [add_plain, blk_cell (hB w hS) j]
  simpa using hj)
 have h2 : (act N e).tmps.getD a undef = .pointer (some ⟨g, 0, none⟩) := (act_get a).trans hx
 simp at h
 simp [rvS, h2, asAddr, h]
theorem run_res1 {r : ResultVar} {v : Value} (h : fn.results = #[r]) (h1 : Rv P N e S r v) (w : World) (hS : S w) : (results fn (act N e).tmps).run P w = .ok v w := by
 simp [results_eq, h, Sem.run_bind, h1 w hS]
theorem run_res2 {r r2 : ResultVar} {v v2 : Value} (h : fn.results = #[r, r2]) (h1 : Rv P N e S r v) (h2 : Rv P N e S r2 v2) (w : World) (hS : S w) : (results fn (act N e).tmps).run P w = .ok (.tuple #[v, v2]) w := by
 simp [results_eq, h, Sem.run_bind, h1 w hS, h2 w hS]
variable {σ : Type} {v0 : σ → Value} {LR : σ → List (Thing w0.heap.size)}
theorem x_r1 {r : ResultVar} {v : Value} (s : σ) (h : fn.results = #[r]) (h1 : Rv P N e (Fr w0 ws P0 L) r v) (hv : v0 s = v) (hF : ∀ w, Fr w0 ws P0 L w → Fr w0 ws P0 (LR s) w) (hd : N.ds = [] := by rfl) : X N w0 ws P0 .ret (retOnly (bodyPost P fn (Post1 w0 ws P0 v0 LR))) e L :=
 x_ret v (fun w hw => run_res1 h h1 w hw) (fun w hw => ⟨s, by rw [hv], hF w hw⟩) hd
theorem x_r2 {r r2 : ResultVar} {v v2 : Value} (s : σ) (h : fn.results = #[r, r2]) (h1 : Rv P N e (Fr w0 ws P0 L) r v) (h2 : Rv P N e (Fr w0 ws P0 L) r2 v2) (hv : v0 s = .tuple #[v, v2]) (hF : ∀ w, Fr w0 ws P0 L w → Fr w0 ws P0 (LR s) w) (hd : N.ds = [] := by rfl) : X N w0 ws P0 .ret (retOnly (bodyPost P fn (Post1 w0 ws P0 v0 LR))) e L :=
 x_ret _ (fun w hw => run_res2 h h1 h2 w hw) (fun w hw => ⟨s, by rw [hv], hF w hw⟩) hd
theorem f_sel {L : List (Thing w0.heap.size)} (is : List (Option Nat)) (hn : (is.filterMap id).Nodup) (w : World) (h : Fr w0 ws P0 L w) : Fr w0 ws P0 (is.map fun | some j => L.getD j gone | none => gone) w := by
 obtain ⟨hb, hk, Fs, h1, h2, h3⟩ := h
 refine ⟨hb, hk, fun m k => ∃ j, is[m]? = some (some j) ∧ j < L.length ∧ Fs j k, fun m V hm => ?_, fun m k hF => ?_, fun m m' k hne hF hF' => ?_⟩
 ·rw [List.getElem?_map] at hm
  obtain ⟨o, ho, hV⟩ := Option.map_eq_some_iff.1 hm
  cases o with
  | none =>
   subst hV
   exact trivial
  | some j =>
   subst hV
   by_cases hjl : j < L.length
   ·refine Thing.mono _ (h1 j (L.getD j gone) ?_) (fun k hF => ⟨j, ho, hjl, hF⟩)
    rw [List.getD_eq_getElem?_getD, List.getElem?_eq_getElem hjl]
    rfl
   ·have : L.getD j gone = gone := by rw [List.getD_eq_getElem?_getD, List.getElem?_eq_none (by omega)]; rfl
    show (L.getD j gone).P _ _
    rw [this]
    exact trivial
 ·obtain ⟨j, _, _, hF⟩ := hF
  exact h2 j k hF
 ·obtain ⟨j, hj, _, hF⟩ := hF
  obtain ⟨j', hj', _, hF'⟩ := hF'
  refine h3 j j' k (fun he => hne ?_) hF hF'
  subst he
  exact nodup_id hn hj hj'
theorem f_pickE {LR L L1 : List (Thing w0.heap.size)} (e1 : L = L1) (is : List Nat) (hn : is.Nodup) (hl : is.all (fun j => Nat.blt j L1.length) = true) (e2 : (is.map fun j => L1.getD j gone) = LR) (w : World) (h : Fr w0 ws P0 L w) : Fr w0 ws P0 LR w := by
 subst e1 e2
 exact f_pick is hn hl w h
theorem f_selE {LS L : List (Thing w0.heap.size)} (is : List (Option Nat)) (hn : (is.filterMap id).Nodup) (w : World) (h : Fr w0 ws P0 L w) (he : (is.map fun | some j => L.getD j gone | none => gone) = LS) : Fr w0 ws P0 LS w := by
 subst he
 exact f_sel is hn w h
theorem Fr.row_Cn {α : Type} {d : Kd α} {eb n c i : Nat} {A : Option Addr} {xs : List α} {w : World} (h : Fr w0 ws P0 L w) (hi : L[i]? = some (row d eb (.slice A n c) xs)) : d.C w A n xs := by
 obtain ⟨h1, h2, _⟩ := h.row_C hi
 rw [h2]
 exact h1
section
variable {dst : Option Tmp} {ty : TypeId} {pos : String} {af : Array Edge} {g : Option (Nat × Bool)} {x y : Operand} {n m : Int} {t1 t2 : TypeId}
theorem zay (hx : ev N e x = .int .i64 n) (hy : ev N e y = .int .i64 m) : Qt P N e S ⟨dst, .binOp .add t1 x y t2, ty, pos, af, g⟩ (.int .i64 (w64 (n + m))) := q_add hx hy
theorem zat (hx : ev N e x = .int .i64 n) (hy : ev N e y = .int .i64 m) : Qt P N e S ⟨dst, .binOp .sub t1 x y t2, ty, pos, af, g⟩ (.int .i64 (w64 (n - m))) := q_sub hx hy
theorem q_mul64 (hx : ev N e x = .int .i64 n) (hy : ev N e y = .int .i64 m) : Qt P N e S ⟨dst, .binOp .mul t1 x y t2, ty, pos, af, g⟩ (.int .i64 (w64 (n * m))) := q_mul hx hy
theorem q_quo64 (hx : ev N e x = .int .i64 n) (hy : ev N e y = .int .i64 m) (h : m ≠ 0) : Qt P N e S ⟨dst, .binOp .quo t1 x y t2, ty, pos, af, g⟩ (.int .i64 (w64 (n.tdiv m))) := q_quo hx hy h
theorem q_up (hx : ev N e x = .int .i64 n) (hy : ev N e y = .int .i64 1) (h : IntKind.i64.wrap (n + 1) = n + 1) : Qt P N e S ⟨dst, .binOp .add t1 x y t2, ty, pos, af, g⟩ (.int .i64 (n + 1)) := by
 have h2 := q_add (P := P) (S := S) (dst := dst) (ty := ty) (pos := pos) (af := af) (g := g) (t := t1) (t' := t2) hx hy
 rwa [h] at h2
def nz (m : Int) : Option Unit := if m = 0 then none else some ()
theorem nz_ne {m : Int} {u : Unit} (h : nz m = some u) : m ≠ 0 := fun he => by rw [nz, if_pos he] at h; cases h
end
end
section
variable {P : Program} {N : Md} {w0 ws : World} {P0 : Nat → Prop} {L : List (Thing w0.heap.size)} {Q : Post} {e : Nat → Value} {ops : Array Oper} {ds : List Nat} {fuel : Nat} {l : Array Bool}
theorem zaw {rest : List Oper} {p : Prop} (hp : ∀ w, Fr w0 ws P0 L w → p) (k : p → O P N w0 ws P0 ops rest Q e L) : O P N w0 ws P0 ops rest Q e L := fun w hw => k (hp w hw) w hw
end
theorem Fr.row_nc {w0 ws : World} {P0 : Nat → Prop} {L : List (Thing w0.heap.size)} {α : Type} {d : Kd α} {eb n c i : Nat} {A : Option Addr} {xs : List α} {w : World} (h : Fr w0 ws P0 L w) (hi : L[i]? = some (row d eb (.slice A n c) xs)) : n = xs.length ∧ n ≤ c := by
 obtain ⟨ok, hR⟩ := h.row_at hi
 have := Kd.R_reads' hR
 exact ⟨this.1, this.2.1⟩
/-! cuts -/
def cutA (A : Option Addr) (c l sz : Nat) : Option Addr := if c = l then A else A.map (·.add (l * sz))
theorem ct_in {α : Type} {xs z : List α} {l h : Int} (hz : ct xs l h = some z) : 0 ≤ l ∧ l ≤ h ∧ h ≤ xs.length ∧ z = (xs.take h.toNat).drop l.toNat ∧ z.length = h.toNat - l.toNat := by
 unfold ct at hz
 split at hz
 ·rename_i hc
  obtain rfl := Option.some.inj hz
  refine ⟨hc.1, hc.2.1, hc.2.2, rfl, ?_⟩
  rw [List.length_drop, List.length_take]
  omega
 ·cases hz
theorem ct_cap {α : Type} {xs z : List α} {l h : Int} {c n : Nat} (hz : ct xs l h = some z) (hn : n = xs.length) (hc : n ≤ c) : z.length ≤ c - l.toNat := by
 have := ct_in hz
 omega
theorem C_cut {α : Type} {dk : Kd α} {sz : Nat} (hsz : dk.sz = sz) {xs z : List α} {l h : Int} {c n : Nat} {A : Option Addr} {w : World} (hz : ct xs l h = some z) (hc : n ≤ c) (hC : dk.C w A n xs) : dk.C w (cutA A c l.toNat sz) z.length z := by
 obtain ⟨h0, h1, h2, he, hl⟩ := ct_in hz
 obtain ⟨c1, c2, c3⟩ := hC
 refine ⟨rfl, by omega, fun hn => ?_⟩
 obtain ⟨ad, rfl, hh⟩ := c3 (by omega)
 unfold cutA
 rw [if_neg (by omega)]
 refine ⟨ad.add (l.toNat * sz), rfl, fun j p hj => ?_⟩
 have hjl : j < z.length := (List.getElem?_eq_some_iff.1 hj).1
 have hx : xs[l.toNat + j]? = some p := by
  rw [he, List.getElem?_drop, List.getElem?_take, if_pos (by omega)] at hj
  exact hj
 obtain ⟨cs, k1, k2, k3⟩ := hh _ _ hx
 refine ⟨cs, k1, k2, fun i u hi => ?_⟩
 rw [add_add, ← k3 i u hi]
 subst hsz
 congr 2
 rw [Nat.add_mul]
 omega
theorem stab_cut {α : Type} {dk : Kd α} {sz : Nat} (hsz : dk.sz = sz) {xs z : List α} {l h : Int} {c n : Nat} {A : Option Addr} {w : World} {S : Nat → Prop} (hz : ct xs l h = some z) (hc : n ≤ c) (hS : Stable w S (fun W => dk.C W A n xs)) : Stable w S (fun W => dk.C W (cutA A c l.toNat sz) z.length z) := fun W hW => C_cut hsz hz hc (hS W hW)
theorem q_ctv {P : Program} {N : Md} {S : World → Prop} {e : Nat → Value} {dst : Option Tmp} {ty : TypeId} {pos : String} {af : Array Edge} {g : Option (Nat × Bool)} {x : Operand} {t : TypeId} {α : Type} {u : TypeId} {sz n c : Nat} {A : Option Addr} {lo hi : Option Operand} {xs z : List α} {l h : Int} (ht : P.underlying t = some (.slice u)) (hi' : (P.info? u).map (·.size) = some sz) (hx : ev N e x = .slice A n c) (hl : (match lo with | some o => ∃ k, ev N e o = .int k l | none => l = 0)) (hh : (match hi with | some o => ∃ k, ev N e o = .int k h | none => h = (xs.length : Int))) (hn : n = xs.length) (hc : n ≤ c) (hz : ct xs l h = some z) :
  Qt P N e S ⟨dst, .slice t x lo hi none, ty, pos, af, g⟩ (.slice (cutA A c l.toNat sz) z.length (c - l.toNat)) := by
 subst hn
 obtain ⟨h0, h1, h2, he, hl2⟩ := ct_in hz
 rw [hl2]
 exact q_cut l h ht hi' hx hl hh ⟨h0, h1, by omega⟩
/-- A slice's shape: it has an address where it is not empty. -/
def Sh (A : Option Addr) (n m : Nat) : Prop := m = n ∧ (0 < n → A.isSome = true)
theorem C_sh {α : Type} {dk : Kd α} {w : World} {A : Option Addr} {n : Nat} {xs : List α} (h : dk.C w A n xs) : Sh A n xs.length := ⟨h.1, fun hn => by obtain ⟨ad, rfl, _⟩ := h.2.2 hn; rfl⟩
theorem f_sh {w0 ws : World} {P0 : Nat → Prop} {L : List (Thing w0.heap.size)} {α : Type} {dk : Kd α} {A : Option Addr} {n : Nat} {xs : List α} {w : World} (hF : Fr w0 ws P0 L w) (h : ∀ w, Fr w0 ws P0 L w → dk.C w A n xs) : Sh A n xs.length := C_sh (h w hF)
theorem q_ix {P : Program} {N : Md} {S : World → Prop} {e : Nat → Value} {dst : Option Tmp} {ty : TypeId} {pos : String} {af : Array Edge} {g : Option (Nat × Bool)} {x y : Operand} {k : IntKind} {n : Int} {t : TypeId} {α : Type} {u : TypeId} {sz a c : Nat} {A : Option Addr} {xs : List α} {v : α} (ht : P.underlying t = some (.slice u)) (hz : (P.info? u).map (·.size) = some sz) (hx : ev N e x = .slice A a c) (hy : ev N e y = .int k n) (hC : Sh A a xs.length) (hg : gt xs n = some v) : Qt P N e S ⟨dst, .indexAddr t x y, ty, pos, af, g⟩ (.pointer (some ((adr A).add (n.toNat * sz)))) := fun w hS => by
 obtain ⟨h0, h1, _⟩ := gt_in hg
 have hl : xs.length = a := hC.1
 obtain ⟨ad, hA⟩ := Option.isSome_iff_exists.1 (hC.2 (by omega))
 subst hA
 obtain ⟨i, hi, hs⟩ := Option.map_eq_some_iff.1 hz
 have hn : 0 ≤ n ∧ n < (a : Int) := ⟨h0, by omega⟩
 simp [execOp, hx, hy, Instr.indexAt, run_underlying ht w, asIntOf, sizeOf, typeInfo, hi, hs, hn, adr]
end Go.Proofs.Ytiaohjciddbpoaa.Frame
