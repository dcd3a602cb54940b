/- Frames: what a call owns, thing by thing, apart from each other; an event that touches one thing leaves the others as they are. -/
import Derived.Test.YtiaohjciddbpoaaKFnMethodsWWords
import Derived.Test.YtiaohjciddbpoaaKFnMethodsWKept
import Derived.RangeFuncOwn
namespace Go.Proofs.Ytiaohjciddbpoaa.Frame
open Go.RowKit Go.Proofs.YtiaohjciddbpoaaW.PrintWords

/-- A thing in memory: what is told of it, F being the blocks that are its own. -/
structure Thing (base : Nat) where
 P : (Nat → Prop) → World → Prop
 mono : ∀ {F F' : Nat → Prop} {w : World}, P F w → (∀ k, F k → F' k) → P F' w
 bound : ∀ {F : Nat → Prop} {w : World}, P F w → P (fun k => F k ∧ base ≤ k ∧ ∃ cs q, w.heap[k]? = some (.cells cs q (0, 0))) w
 move : ∀ {F : Nat → Prop} {w w1 : World}, P F w → (∀ k, F k → w1.heap[k]? = w.heap[k]?) → P F w1

section
variable {base : Nat}
def row {α : Type} (d : Kd α) (e : Nat) (v : Value) (xs : List α) : Thing base where
 P F w := d.R e w base F v xs
 mono h hok := Kd.R_mono h hok
 bound h := Kd.R_mono (Kd.R_bound h) (fun k ⟨h1, h2, _, q, _, cs, hc⟩ => ⟨h1, h2, cs, q, hc⟩)
 move h hm := Kd.R_move h hm
def box (g t : Nat) (cs : Array Value) : Thing base where
 P F w := F g ∧ base ≤ g ∧ w.heap[g]? = some (.cells cs t (0, 0))
 mono h hok := ⟨hok _ h.1, h.2⟩
 bound h := ⟨⟨h.1, h.2.1, _, _, h.2.2⟩, h.2⟩
 move h hm := ⟨h.1, h.2.1, (hm _ h.1).trans h.2.2⟩
/-- A box that holds a row of its own. -/
def obj {α : Type} (g t : Nat) (f : Value → Array Value) (d : Kd α) (e : Nat) (xs : List α) : Thing base where
 P F w := ∃ v, F g ∧ base ≤ g ∧ w.heap[g]? = some (.cells (f v) t (0, 0)) ∧ d.R e w base (fun k => F k ∧ k ≠ g) v xs
 mono := fun ⟨v, h1, h2, h3, h4⟩ hok => ⟨v, hok _ h1, h2, h3, Kd.R_mono h4 (fun k hk => ⟨hok k hk.1, hk.2⟩)⟩
 bound := fun ⟨v, h1, h2, h3, h4⟩ => ⟨v, ⟨h1, h2, _, _, h3⟩, h2, h3, Kd.R_mono (Kd.R_bound h4) (fun k ⟨hF, hb, _, q, _, cs, hc⟩ => ⟨⟨hF.1, hb, cs, q, hc⟩, hF.2⟩)⟩
 move := fun ⟨v, h1, h2, h3, h4⟩ hm => ⟨v, h1, h2, (hm _ h1).trans h3, Kd.R_move h4 (fun k hk => hm k hk.1)⟩
def gone : Thing base where
 P _ _ := True
 mono h _ := h
 bound h := h
 move h _ := h
end

structure Fr (w0 ws : World) (P0 : Nat → Prop) (L : List (Thing w0.heap.size)) (w : World) : Prop where
 bel : Below w0.heap.size w0 w
 kept : Kept ws w P0
 sep : ∃ Fs : Nat → Nat → Prop, (∀ (i : Nat) (T : Thing w0.heap.size), L[i]? = some T → T.P (Fs i) w) ∧ (∀ i k, Fs i k → w0.heap.size ≤ k ∧ (∃ cs q, w.heap[k]? = some (.cells cs q (0, 0))) ∧ (P0 k ∨ ws.heap.size ≤ k)) ∧ ∀ i j k, i ≠ j → Fs i k → ¬ Fs j k

theorem zb1 {w : World} {k : Nat} (h : ∃ cs q, w.heap[k]? = some (.cells cs q (0, 0))) : k < w.heap.size := by
 obtain ⟨_, _, h⟩ := h
 exact blk_lt h
theorem cells_same {w w' : World} {k : Nat} (h : ∃ cs q, w.heap[k]? = some (.cells cs q (0, 0))) (he : w'.heap[k]? = w.heap[k]?) : ∃ cs q, w'.heap[k]? = some (.cells cs q (0, 0)) := by
 obtain ⟨cs, q, h⟩ := h
 exact ⟨cs, q, he.trans h⟩
theorem below_of_grown {w w1 : World} (hg : w.grownBy w1 none) : Below w.heap.size w w1 := ⟨hg.os, hg.tape, hg.output, hg.size, fun k hk => hg.block k hk (by simp)⟩
theorem below_base {B : Nat} {w w1 : World} (h : Below w.heap.size w w1) (hB : B ≤ w.heap.size) : Below B w w1 := ⟨h.os, h.tape, h.output, h.size, fun k hk => h.block k (by omega)⟩
theorem below_of_kept {B : Nat} {w w1 : World} {row : Option Nat} (hg : w.grownBy w1 row) (hB : B ≤ w.heap.size) (hr : ∀ k, row = some k → B ≤ k) : Below B w w1 :=
 ⟨hg.os, hg.tape, hg.output, hg.size, fun k hk => hg.block k (by omega) (fun e => by have := hr k e.symm; omega)⟩
theorem kept_of_grown {w w1 : World} {F : Nat → Prop} {row : Option Nat} (hg : w.grownBy w1 row) (hr : ∀ k, row = some k → F k) : Kept w w1 F :=
 ⟨hg.size, fun i hi hn => hg.block i hi (fun e => hn (hr i e.symm))⟩

section
variable {w0 ws w w' : World} {P0 : Nat → Prop} {L : List (Thing w0.heap.size)} {i j g t : Nat} {T T' : Thing w0.heap.size} {cs : Array Value}

theorem Fr.start (w : World) : Fr w w (fun _ => False) [] w :=
 ⟨Below.refl _ _, Kept.refl _ _, fun _ _ => False, fun i T h => by simp at h, fun _ _ h => h.elim, fun _ _ _ _ h => h.elim⟩
theorem Fr.size (h : Fr w0 ws P0 L w) : w0.heap.size ≤ w.heap.size := h.bel.size

theorem Fr.focus (h : Fr w0 ws P0 L w) (hi : L[i]? = some T) : ∃ F, T.P F w ∧ (∀ k, F k → w0.heap.size ≤ k ∧ (∃ cs q, w.heap[k]? = some (.cells cs q (0, 0))) ∧ (P0 k ∨ ws.heap.size ≤ k)) ∧
  ∀ w' (T' : Thing w0.heap.size), Below w0.heap.size w w' → Kept w w' F → T'.P (fun k => F k ∨ w.heap.size ≤ k) w' → Fr w0 ws P0 (L.set i T') w' := by
 obtain ⟨hb, hk, Fs, h1, h2, h3⟩ := h
 refine ⟨Fs i, h1 i T hi, h2 i, fun w' T' hb' hk' hT' => ⟨hb.trans hb', ?_, ?_⟩⟩
 ·refine hk.then_ hk' (fun k hF => (h2 i k hF).2.2)
 ·have hil : i < L.length := (List.getElem?_eq_some_iff.1 hi).1
  refine ⟨fun j => if j = i then fun k => (Fs i k ∨ w.heap.size ≤ k) ∧ w0.heap.size ≤ k ∧ ∃ cs q, w'.heap[k]? = some (.cells cs q (0, 0)) else Fs j, ?_, ?_, ?_⟩
  ·intro j U hj
   by_cases e : j = i
   ·subst e
    rw [List.getElem?_set_self hil] at hj
    obtain rfl := Option.some.inj hj
    simp only [if_true]
    exact T'.bound hT'
   ·rw [List.getElem?_set_ne (fun e' => e e'.symm)] at hj
    simp only [if_neg e]
    exact U.move (h1 j U hj) (fun k hF => hk'.2 k (zb1 (h2 j k hF).2.1) (fun hc => h3 j i k e hF hc))
  ·intro j k hF
   by_cases e : j = i
   ·subst e
    simp only [if_true] at hF
    refine ⟨hF.2.1, hF.2.2, ?_⟩
    rcases hF.1 with hF | hF
    ·exact (h2 j k hF).2.2
    ·exact .inr (Nat.le_trans hk.1 hF)
   ·simp only [if_neg e] at hF
    have := h2 j k hF
    exact ⟨this.1, cells_same this.2.1 (hk'.2 k (zb1 this.2.1) (fun hc => h3 j i k e hF hc)), this.2.2⟩
  ·intro j j' k hne hF hF'
   by_cases e : j = i
   ·subst e
    simp only [if_true] at hF
    rw [if_neg (fun e => hne e.symm)] at hF'
    rcases hF.1 with hF | hF
    ·exact h3 j j' k hne hF hF'
    ·have := zb1 (h2 j' k hF').2.1
     omega
   ·rw [if_neg e] at hF
    by_cases e' : j' = i
    ·subst e'
     simp only [if_true] at hF'
     rcases hF'.1 with hF' | hF'
     ·exact h3 j j' k hne hF hF'
     ·have := zb1 (h2 j k hF).2.1
      omega
    ·rw [if_neg e'] at hF'
     exact h3 j j' k hne hF hF'

/-- Two things that are one another's neighbours: the second one is taken into the first. -/
theorem Fr.focus2 (h : Fr w0 ws P0 L w) (hij : i ≠ j) (hi : L[i]? = some T) (hj : L[j]? = some T') : ∃ F F', T.P F w ∧ T'.P F' w ∧ (∀ k, F k → ¬ F' k) ∧ (∀ k, F k ∨ F' k → w0.heap.size ≤ k ∧ (∃ cs q, w.heap[k]? = some (.cells cs q (0, 0))) ∧ (P0 k ∨ ws.heap.size ≤ k)) ∧
  ∀ w' (U : Thing w0.heap.size), Below w0.heap.size w w' → Kept w w' (fun k => F k ∨ F' k) → U.P (fun k => (F k ∨ F' k) ∨ w.heap.size ≤ k) w' → Fr w0 ws P0 ((L.set j gone).set i U) w' := by
 obtain ⟨hb, hk, Fs, h1, h2, h3⟩ := h
 refine ⟨Fs i, Fs j, h1 i T hi, h1 j T' hj, fun k hF hF' => h3 i j k hij hF hF', fun k hF => hF.elim (h2 i k) (h2 j k), fun w' U hb' hk' hU => ?_⟩
 have hil : i < L.length := (List.getElem?_eq_some_iff.1 hi).1
 have hjl : j < L.length := (List.getElem?_eq_some_iff.1 hj).1
 have h' : Fr w0 ws P0 (L.set j gone) w := by
  refine ⟨hb, hk, fun m => if m = j then fun _ => False else if m = i then fun k => Fs i k ∨ Fs j k else Fs m, ?_, ?_, ?_⟩
  ·intro m V hm
   by_cases e : m = j
   ·subst e
    rw [List.getElem?_set_self hjl] at hm
    obtain rfl := Option.some.inj hm
    exact trivial
   ·rw [List.getElem?_set_ne (fun e' => e e'.symm)] at hm
    simp only [if_neg e]
    by_cases e2 : m = i
    ·subst e2
     simp only [if_true]
     exact V.mono (h1 m V hm) (fun k hF => .inl hF)
    ·simp only [if_neg e2]
     exact h1 m V hm
  ·intro m k hF
   by_cases e : m = j
   ·simp [e] at hF
   ·simp only [if_neg e] at hF
    by_cases e2 : m = i
    ·simp only [if_pos e2] at hF
     exact hF.elim (h2 i k) (h2 j k)
    ·simp only [if_neg e2] at hF
     exact h2 m k hF
  ·intro m m' k hne hF hF'
   by_cases e : m = j
   ·simp [e] at hF
   ·simp only [if_neg e] at hF
    by_cases e' : m' = j
    ·simp [e'] at hF'
    ·simp only [if_neg e'] at hF'
     by_cases e2 : m = i
     ·subst e2
      rw [if_neg (fun e => hne e.symm)] at hF'
      simp only [if_true] at hF
      rcases hF with hF | hF
      ·exact h3 m m' k hne hF hF'
      ·exact h3 m' j k e' hF' hF
     ·rw [if_neg e2] at hF
      by_cases e3 : m' = i
      ·subst e3
       simp only [if_true] at hF'
       rcases hF' with hF' | hF'
       ·exact h3 m m' k hne hF hF'
       ·exact h3 m j k e hF hF'
      ·rw [if_neg e3] at hF'
       exact h3 m m' k hne hF hF'
 obtain ⟨_, _, Gs, g1, g2, g3⟩ := h'
 -- the same frame, with footprints that are known
 refine ⟨hb.trans hb', hk.then_ hk' (fun k hF => hF.elim (fun h => (h2 i k h).2.2) (fun h => (h2 j k h).2.2)), fun m => if m = j then fun _ => False else if m = i then fun k => ((Fs i k ∨ Fs j k) ∨ w.heap.size ≤ k) ∧ w0.heap.size ≤ k ∧ ∃ cs q, w'.heap[k]? = some (.cells cs q (0, 0)) else Fs m, ?_, ?_, ?_⟩
 ·intro m V hm
  by_cases e2 : m = i
  ·subst e2
   rw [List.getElem?_set_self (by simpa using hil)] at hm
   obtain rfl := Option.some.inj hm
   simp only [if_neg hij, if_true]
   exact U.bound hU
  ·rw [List.getElem?_set_ne (fun e' => e2 e'.symm)] at hm
   by_cases e : m = j
   ·subst e
    rw [List.getElem?_set_self hjl] at hm
    obtain rfl := Option.some.inj hm
    exact trivial
   ·rw [List.getElem?_set_ne (fun e' => e e'.symm)] at hm
    simp only [if_neg e, if_neg e2]
    exact V.move (h1 m V hm) (fun k hF => hk'.2 k (zb1 (h2 m k hF).2.1) (fun hc => hc.elim (h3 m i k e2 hF) (h3 m j k e hF)))
 ·intro m k hF
  by_cases e : m = j
  ·simp [e] at hF
  ·simp only [if_neg e] at hF
   by_cases e2 : m = i
   ·simp only [if_pos e2] at hF
    refine ⟨hF.2.1, hF.2.2, ?_⟩
    rcases hF.1 with (hF | hF) | hF
    ·exact (h2 i k hF).2.2
    ·exact (h2 j k hF).2.2
    ·exact .inr (Nat.le_trans hk.1 hF)
   ·simp only [if_neg e2] at hF
    have := h2 m k hF
    exact ⟨this.1, cells_same this.2.1 (hk'.2 k (zb1 this.2.1) (fun hc => hc.elim (h3 m i k e2 hF) (h3 m j k e hF))), this.2.2⟩
 ·intro m m' k hne hF hF'
  by_cases e : m = j
  ·simp [e] at hF
  ·simp only [if_neg e] at hF
   by_cases e' : m' = j
   ·simp [e'] at hF'
   ·simp only [if_neg e'] at hF'
    by_cases e2 : m = i
    ·subst e2
     rw [if_neg (fun e => hne e.symm)] at hF'
     simp only [if_true] at hF
     rcases hF.1 with (hF | hF) | hF
     ·exact h3 m m' k hne hF hF'
     ·exact h3 m' j k e' hF' hF
     ·have := zb1 (h2 m' k hF').2.1
      omega
    ·rw [if_neg e2] at hF
     by_cases e3 : m' = i
     ·subst e3
      simp only [if_true] at hF'
      rcases hF'.1 with (hF' | hF') | hF'
      ·exact h3 m m' k hne hF hF'
      ·exact h3 m j k e hF hF'
      ·have := zb1 (h2 m k hF).2.1
       omega
     ·rw [if_neg e3] at hF'
      exact h3 m m' k hne hF hF'

theorem Fr.new (h : Fr w0 ws P0 L w) (hB : Below w.heap.size w w') (hT : T.P (fun k => w.heap.size ≤ k) w') : Fr w0 ws P0 (T :: L) w' := by
 obtain ⟨hb, hk, Fs, h1, h2, h3⟩ := h
 refine ⟨hb.trans (below_base hB hb.size), hk.below hB, fun m => match m with | 0 => fun k => w.heap.size ≤ k ∧ w0.heap.size ≤ k ∧ ∃ cs q, w'.heap[k]? = some (.cells cs q (0, 0)) | m + 1 => Fs m, ?_, ?_, ?_⟩
 ·intro m V hm
  cases m with
  | zero =>
   obtain rfl : T = V := by simpa using hm
   exact T.bound hT
  | succ m =>
   have hm' : L[m]? = some V := by simpa using hm
   exact V.move (h1 m V hm') (fun k hF => hB.block k (zb1 (h2 m k hF).2.1))
 ·intro m k hF
  cases m with
  | zero => exact ⟨hF.2.1, hF.2.2, .inr (Nat.le_trans hk.1 hF.1)⟩
  | succ m =>
   have := h2 m k hF
   exact ⟨this.1, cells_same this.2.1 (hB.block k (zb1 this.2.1)), this.2.2⟩
 ·intro m m' k hne hF hF'
  cases m with
  | zero =>
   cases m' with
   | zero => exact hne rfl
   | succ m' =>
    have := zb1 (h2 m' k hF').2.1
    have := hF.1
    omega
  | succ m =>
   cases m' with
   | zero =>
    have := zb1 (h2 m k hF).2.1
    have := hF'.1
    omega
   | succ m' => exact h3 m m' k (fun e => hne (by rw [e])) hF hF'
theorem Fr.below (h : Fr w0 ws P0 L w) (hB : Below w.heap.size w w') : Fr w0 ws P0 L w' := by
 obtain ⟨hb, hk, Fs, h1, h2, h3⟩ := h
 exact ⟨hb.trans (below_base hB hb.size), hk.below hB, Fs, fun m V hm => V.move (h1 m V hm) (fun k hF => hB.block k (zb1 (h2 m k hF).2.1)), fun m k hF => ⟨(h2 m k hF).1, cells_same (h2 m k hF).2.1 (hB.block k (zb1 (h2 m k hF).2.1)), (h2 m k hF).2.2⟩, h3⟩
theorem Fr.drawn (h : Fr w0 ws P0 L w) (hd : Drawn0 w w') : Fr w0 ws P0 L w' := h.below hd.below
theorem Fr.drew (h : Fr w0 ws P0 L w) : Fr w0 ws P0 L w.drew := h.below ((Below.refl _ _).drew)
theorem Fr.drewN (h : Fr w0 ws P0 L w) (n : Nat) : Fr w0 ws P0 L (w.drewN n) := h.below (pw_below_drewN (Below.refl _ _) n)
theorem Fr.alloc (h : Fr w0 ws P0 L w) (o : Obj) : Fr w0 ws P0 L (w.alloc o) := h.below (below_alloc (Below.refl _ _) o)
theorem Fr.drop (h : Fr w0 ws P0 (T :: L) w) : Fr w0 ws P0 L w := by
 obtain ⟨hb, hk, Fs, h1, h2, h3⟩ := h
 exact ⟨hb, hk, fun m => Fs (m + 1), fun m V hm => h1 (m + 1) V (by simpa using hm), fun m k hF => h2 (m + 1) k hF, fun m m' k hne => h3 (m + 1) (m' + 1) k (by omega)⟩
/-- Some of the things, in another order. -/
theorem Fr.sub {L' : List (Thing w0.heap.size)} (h : Fr w0 ws P0 L w) (f : Nat → Nat) (hf : ∀ i j, f i = f j → i = j) (hL : ∀ i T, L'[i]? = some T → L[f i]? = some T) : Fr w0 ws P0 L' w := by
 obtain ⟨hb, hk, Fs, h1, h2, h3⟩ := h
 exact ⟨hb, hk, fun m => Fs (f m), fun m V hm => h1 (f m) V (hL m V hm), fun m k hF => h2 (f m) k hF, fun m m' k hne => h3 (f m) (f m') k (fun e => hne (hf m m' e))⟩
/-- Some of the things, in another order, by their numbers. -/
theorem Fr.pick (h : Fr w0 ws P0 L w) (is : List Nat) (hn : is.Nodup) (hl : ∀ j ∈ is, j < L.length) : Fr w0 ws P0 (is.map fun j => L.getD j gone) w := by
 obtain ⟨hb, hk, Fs, h1, h2, h3⟩ := h
 refine ⟨hb, hk, fun m k => ∃ j, is[m]? = some j ∧ Fs j k, fun m V hm => ?_, fun m k hF => ?_, fun m m' k hne hF hF' => ?_⟩
 ·rw [List.getElem?_map] at hm
  obtain ⟨j, hj, rfl⟩ := Option.map_eq_some_iff.1 hm
  have hjl := hl j (List.mem_of_getElem? hj)
  refine Thing.mono _ (h1 j _ ?_) (fun k hF => ⟨j, hj, hF⟩)
  rw [List.getD_eq_getElem?_getD, List.getElem?_eq_getElem hjl]
  rfl
 ·obtain ⟨j, _, hF⟩ := hF
  exact h2 j k hF
 ·obtain ⟨j, hj, hF⟩ := hF
  obtain ⟨j', hj', hF'⟩ := hF'
  refine h3 j j' k (fun e => hne ?_) hF hF'
  subst e
  have a1 := (List.getElem?_eq_some_iff.1 hj)
  have a2 := (List.getElem?_eq_some_iff.1 hj')
  exact (List.getElem_inj (h₀ := a1.1) (h₁ := a2.1) hn).1 (a1.2.trans a2.2.symm)
/-- The frame from this world on: what has been written since lies in blocks of cells. -/
theorem Fr.rebase (h : Fr w0 ws P0 L w) : ∃ P1 : Nat → Prop, Fr w0 w P1 L w ∧ (∀ k, P1 k → ∃ cs q, w.heap[k]? = some (.cells cs q (0, 0))) ∧ ∀ w' (L' : List (Thing w0.heap.size)), Fr w0 w P1 L' w' → Fr w0 ws P0 L' w' := by
 obtain ⟨hb, hk, Fs, h1, h2, h3⟩ := h
 refine ⟨fun k => ∃ i, Fs i k, ⟨hb, Kept.refl _ _, Fs, h1, fun i k hF => ⟨(h2 i k hF).1, (h2 i k hF).2.1, .inl ⟨i, hF⟩⟩, h3⟩, fun k ⟨i, hF⟩ => (h2 i k hF).2.1, ?_⟩
 rintro w' L' ⟨hb', hk', Gs, g1, g2, g3⟩
 refine ⟨hb', hk.then_ hk' (fun k ⟨i, hF⟩ => (h2 i k hF).2.2), Gs, g1, fun i k hG => ⟨(g2 i k hG).1, (g2 i k hG).2.1, ?_⟩, g3⟩
 rcases (g2 i k hG).2.2 with ⟨j, hF⟩ | hw
 ·exact (h2 j k hF).2.2
 ·exact .inr (Nat.le_trans hk.1 hw)
theorem Fr.others {P1 : Nat → Prop} (h : Fr w0 w P1 L w') (hP : ∀ k, P1 k → ∃ cs q, w.heap[k]? = some (.cells cs q (0, 0))) : KeepsOthers w w' :=
 ⟨h.kept.1, fun k o hk ho => (h.kept.2 k ((Array.getElem?_eq_some_iff.1 hk).1) (fun hp => by
  obtain ⟨cs, q, hc⟩ := hP k hp
  rw [hk] at hc
  obtain rfl := Option.some.inj hc
  simp [Obj.isCells] at ho)).trans hk⟩
/-- Another object's change leaves it. -/
theorem Fr.grown {row : Option Nat} (h : Fr w0 ws P0 L w) (hg : w.grownBy w' row) (hr : ∀ r, row = some r → ws.heap.size ≤ r ∧ w0.heap.size ≤ r ∧ ∃ o : Obj, w.heap[r]? = some o ∧ o.isCells = false) : Fr w0 ws P0 L w' := by
 obtain ⟨hb, hk, Fs, h1, h2, h3⟩ := h
 have same : ∀ k, (∃ cs q, w.heap[k]? = some (Obj.cells cs q (0, 0))) → w'.heap[k]? = w.heap[k]? := fun k hc => hg.block k (zb1 hc) (fun e => by
  obtain ⟨cs, q, hc⟩ := hc
  obtain ⟨_, _, o, ho, hn⟩ := hr k e.symm
  rw [hc] at ho
  obtain rfl := Option.some.inj ho
  simp [Obj.isCells] at hn)
 refine ⟨hb.grown hg hb.size (fun k e => (hr k e).2.1), ?_, Fs, fun i T hi => T.move (h1 i T hi) (fun k hF => same k (h2 i k hF).2.1), fun i k hF => ⟨(h2 i k hF).1, cells_same (h2 i k hF).2.1 (same k (h2 i k hF).2.1), (h2 i k hF).2.2⟩, h3⟩
 exact Kept.of_grown hg hk (fun k e => .inr (hr k e).1)
theorem Fr.zb2 (h : Fr w0 ws P0 L w) (hi : L[i]? = some (box g t cs)) : w.heap[g]? = some (.cells cs t (0, 0)) := by
 obtain ⟨F, h1, _⟩ := h.focus hi
 exact h1.2.2
theorem Fr.box_new (h : Fr w0 ws P0 L w) (hbox : w'.heap[g]? = some (.cells cs t (0, 0))) (hB : Below w.heap.size w w') (hg : g = w.heap.size) : Fr w0 ws P0 (box g t cs :: L) w' :=
 h.new hB ⟨by omega, by have := h.size; omega, hbox⟩
theorem Fr.box_alloc (h : Fr w0 ws P0 L w) (cs : Array Value) (t : Nat) : Fr w0 ws P0 (box w.heap.size t cs :: L) (w.alloc (.cells cs t (0, 0))) :=
 h.box_new (blk_new _ _) (below_alloc (Below.refl _ _) _) rfl
theorem Fr.box_set (h : Fr w0 ws P0 L w) (hi : L[i]? = some (box g t cs)) (j : Nat) (u : Value) {cs' : Array Value} (e : cs.setIfInBounds j u = cs') : Fr w0 ws P0 (L.set i (box g t cs')) (w.setCell ⟨g, j, none⟩ u) := by
 obtain ⟨F, h1, h2, h3⟩ := h.focus hi
 exact h3 _ _ ((Below.refl _ w).setCell (p := ⟨g, j, none⟩) h1.2.1 u) (Kept.setCell (Kept.refl _ _) (.inl h1.1) u) ⟨.inl h1.1, h1.2.1, blk_put h1.2.2 j u e⟩

variable {α : Type} {d : Kd α} {e : Nat} {v : Value} {xs ys : List α}
theorem Fr.row_at (h : Fr w0 ws P0 L w) (hi : L[i]? = some (row d e v xs)) : ∃ ok, d.R e w w0.heap.size ok v xs := by
 obtain ⟨F, h1, _⟩ := h.focus hi
 exact ⟨F, h1⟩
theorem Fr.row_reads (h : Fr w0 ws P0 L w) (hi : L[i]? = some (row d e v xs)) : ∃ A c, v = .slice A xs.length c ∧ xs.length ≤ c ∧ d.C w A xs.length xs := by
 obtain ⟨F, h1, _⟩ := h.focus hi
 exact Kd.R_reads h1
theorem Fr.row_C (h : Fr w0 ws P0 L w) {A : Option Addr} {n c : Nat} (hi : L[i]? = some (row d e (.slice A n c) xs)) : d.C w A xs.length xs ∧ n = xs.length ∧ xs.length ≤ c := by
 obtain ⟨A', c', he, hc, hC⟩ := h.row_reads hi
 injection he with e1 e2 e3
 subst e1 e2 e3
 exact ⟨hC, rfl, hc⟩
theorem Fr.row_lit (h : Fr w0 ws P0 L w) (hr : d.R e w' w0.heap.size (fun k => w.heap.size ≤ k) v xs) (hg : w.grownBy w' none) : Fr w0 ws P0 (row d e v xs :: L) w' :=
 h.new (below_of_grown hg) hr
theorem Fr.row_nil (h : Fr w0 ws P0 L w) (d : Kd α) (e : Nat) : Fr w0 ws P0 (row d e (.slice none 0 0) [] :: L) w :=
 h.new (Below.refl _ _) (Kd.R_nil _ _ _ _ _)
/-- For an append to a row. -/
theorem Fr.row_append (h : Fr w0 ws P0 L w) (hi : L[i]? = some (row d e v xs)) : ∃ ok : Nat → Prop, d.R e w w0.heap.size ok v xs ∧ (∀ k, w.heap.size ≤ k → ok k) ∧
  ∀ v1 w1 ys, d.R e w1 w0.heap.size ok v1 ys → w.grownBy w1 v.ownBlock → Fr w0 ws P0 (L.set i (row d e v1 ys)) w1 := by
 obtain ⟨F, h1, h2, h3⟩ := h.focus hi
 refine ⟨fun k => F k ∨ w.heap.size ≤ k, Kd.R_mono h1 (fun k hk => .inl hk), fun k hk => .inr hk, fun v1 w1 ys hr hg => ?_⟩
 exact h3 w1 _ (below_of_kept hg h.size (fun k hk => (h2 k (h1.1 k hk)).1)) (kept_of_grown hg (fun k hk => h1.1 k hk)) hr
/-- For an append of a row to a row of rows: the inner one is taken in. -/
theorem Fr.row_append2 {β : Type} {d' : Kd β} {e' : Nat} {v' : Value} {zs : List β} (h : Fr w0 ws P0 L w) (hij : i ≠ j) (hi : L[i]? = some (row d e v xs)) (hj : L[j]? = some (row d' e' v' zs)) :
  ∃ ok okp : Nat → Prop, d.R e w w0.heap.size ok v xs ∧ d'.R e' w w0.heap.size okp v' zs ∧ (∀ k, okp k → ok k ∧ some k ≠ v.ownBlock) ∧ (∀ k, w.heap.size ≤ k → ok k) ∧
  ∀ v1 w1 ys, d.R e w1 w0.heap.size ok v1 ys → w.grownBy w1 v.ownBlock → Fr w0 ws P0 ((L.set j gone).set i (row d e v1 ys)) w1 := by
 obtain ⟨F, F', h1, h1', hd, h2, h3⟩ := h.focus2 hij hi hj
 refine ⟨fun k => (F k ∨ F' k) ∨ w.heap.size ≤ k, F', Kd.R_mono h1 (fun k hk => .inl (.inl hk)), h1', fun k hk => ⟨.inl (.inr hk), fun he => hd k (h1.1 k he.symm) hk⟩, fun k hk => .inr hk, fun v1 w1 ys hr hg => ?_⟩
 exact h3 w1 _ (below_of_kept hg h.size (fun k hk => (h2 k (.inl (h1.1 k hk))).1)) (kept_of_grown hg (fun k hk => .inl (h1.1 k hk))) hr

/-! ### a box that holds a row -/
variable {f : Value → Array Value}
end

/-- A post that no panic meets. -/
def retOnly (Q : Exit → Act → World → Prop) : Exit → Act → World → Prop
 | .normal, a, w => Q .normal a w
 | .ret, a, w => Q .ret a w
 | _, _, _ => False
theorem retOnly_imp {Q : Exit → Act → World → Prop} {e : Exit} {a : Act} {w : World} (h : retOnly Q e a w) : Q e a w := by
 cases e <;> first | exact h | exact h.elim
end Go.Proofs.Ytiaohjciddbpoaa.Frame
