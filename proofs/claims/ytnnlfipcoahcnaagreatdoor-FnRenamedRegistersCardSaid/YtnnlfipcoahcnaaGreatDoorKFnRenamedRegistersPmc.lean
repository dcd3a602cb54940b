/- Pure: Ppos, Ppack, Porder, Pren, Pdraw, Psame, Pchk, Prnl. -/
import Derived.Test.YtnnlfipcoahcnaaGreatDoorKFnRenamedRegistersPma
import Derived.Test.YtnnlfipcoahcnaaGreatDoorKFnRenamedRegistersPmb
set_option linter.unusedVariables false
set_option linter.unusedSimpArgs false
namespace Go.Proofs.YtnnlfipcoahcnaaGreatDoor.Pure
open Go.RowKit Go.Proofs.YtnnlfipcoahcnaaGreatDoor.E Go.Proofs.YtnnlfipcoahcnaaGreatDoor.G3 Go.Proofs.YtnnlfipcoahcnaaGreatDoor.Frame Go.Proofs.YtnnlfipcoahcnaaGreatDoorW.PrintLast Go.Proofs.YtnnlfipcoahcnaaGreatDoorW.PrintMore
open Go.Proofs.YtnnlfipcoahcnaaGreatDoorW.PrintWords hiding mn mx
open Go.Proofs.YtnnlfipcoahcnaaGreatDoor.Hand
/-- The place of a number in a list, or -1. -/
def pos_ : List Int → Int → Int
 | [], _ => -1
 | y :: ys, r => if y = r then 0 else if pos_ ys r = -1 then -1 else pos_ ys r + 1
theorem pos_ge (T : List Int) (r : Int) : -1 ≤ pos_ T r := by
 induction T with
 | nil => exact Int.le_refl _
 | cons y ys ih =>
  simp only [pos_]
  split
  ·omega
  ·split <;> omega
theorem pos_none {T : List Int} {r : Int} : pos_ T r = -1 ↔ r ∉ T := by
 induction T with
 | nil => simp [pos_]
 | cons y ys ih =>
  have := pos_ge ys r
  simp only [pos_]
  by_cases e : y = r
  ·rw [if_pos e]
   simp [e]
  ·rw [if_neg e]
   have e' : ¬ r = y := fun q => e q.symm
   by_cases c : pos_ ys r = -1
   ·rw [if_pos c]
    simp [e', ih.1 c]
   ·rw [if_neg c]
    have : r ∈ ys := Classical.byContradiction fun q => c (ih.2 q)
    simp [this]
    omega
theorem pos_app (T : List Int) (y r : Int) : pos_ (T ++ [y]) r = if r ∈ T then pos_ T r else if y = r then (T.length : Int) else -1 := by
 induction T with
 | nil => simp [pos_]
 | cons z T ih =>
  simp only [List.cons_append, pos_, ih, List.length_cons]
  by_cases e : z = r
  ·simp [e]
  ·have e' : ¬ r = z := fun q => e q.symm
   rw [if_neg e, if_neg e]
   by_cases m : r ∈ T
   ·rw [if_pos m, if_pos (List.mem_cons_of_mem _ m)]
   ·have m' : r ∉ z :: T := by simp [e', m]
    simp only [if_neg m, if_neg m']
    by_cases c : y = r
    ·simp only [if_pos c]
     rw [if_neg (by omega)]
     omega
    ·simp only [if_neg c]
     rfl
theorem place_eq (l : List Int) (x : Int) : spec_plPlace.f l x = some (pos_ l x) := by
 have key : ∀ (l : List Int) (j : Int), spec_plPlace.l0 x l j = some (if pos_ l x = -1 then .inr () else .inl (j + pos_ l x)) := by
  intro l
  induction l with
  | nil => intro j; rfl
  | cons y ys ih =>
   intro j
   have h0 := pos_ge ys x
   by_cases h : y = x
   ·have e : pos_ (y :: ys) x = 0 := if_pos h
    simp only [spec_plPlace.l0, if_pos h, e]
    simp
   ·have e : pos_ (y :: ys) x = if pos_ ys x = -1 then -1 else pos_ ys x + 1 := if_neg h
    simp only [spec_plPlace.l0, if_neg h, ih, e]
    by_cases c : pos_ ys x = -1
    ·simp [c]
    ·have c2 : ¬ (pos_ ys x + 1 = -1) := by omega
     simp only [if_neg c, if_neg c2]
     congr 2
     omega
 unfold spec_plPlace.f
 rw [key]
 have h0 := pos_ge l x
 by_cases c : pos_ l x = -1
 ·rw [if_pos c, c]
  rfl
 ·rw [if_neg c]
  simp
theorem pos_first {l : List Int} {v : Int} {p : Nat} (h : l[p]? = some v) (hu : ∀ q, l[q]? = some v → q = p) : pos_ l v = (p : Int) := by
 induction l generalizing p with
 | nil => simp at h
 | cons y ys ih =>
  simp only [pos_]
  by_cases e : y = v
  ·rw [if_pos e]
   have := hu 0 (by simp [e])
   omega
  ·rw [if_neg e]
   cases p with
   | zero => exact absurd (by simpa using h) e
   | succ p =>
    have := ih (p := p) (by simpa using h) (fun q hq => by have := hu (q + 1) (by simpa using hq); omega)
    rw [if_neg (by omega)]
    omega
theorem pos_at {l : List Int} {v : Int} (h : v ∈ l) : ∃ p : Nat, pos_ l v = (p : Int) ∧ l[p]? = some v := by
 induction l with
 | nil => cases h
 | cons y ys ih =>
  simp only [pos_]
  by_cases e : y = v
  ·exact ⟨0, by rw [if_pos e]; rfl, by simp [e]⟩
  ·obtain ⟨p, h1, h2⟩ := ih ((List.mem_cons.1 h).resolve_left (fun q => e q.symm))
   refine ⟨p + 1, ?_, by simpa using h2⟩
   rw [if_neg e, if_neg (by omega)]
   omega
def tell (T : List Int) (y : Int) : List Int := if y ∈ T then T else T ++ [y]
def tells (ys T : List Int) : List Int := ys.foldl tell T
def tops (ys : List SRegOp) (T : List Int) : List Int := ys.foldl (fun T y => tells [y.f1, y.f2, y.f0] T) T
theorem tell_mem {T : List Int} {y r : Int} : r ∈ tell T y ↔ r ∈ T ∨ r = y := by
 unfold tell
 by_cases c : y ∈ T
 ·rw [if_pos c]
  exact ⟨.inl, fun h => h.elim id (fun e => by rw [e]; exact c)⟩
 ·rw [if_neg c]
  simp
theorem tells_mem {ys T : List Int} {r : Int} : r ∈ tells ys T ↔ r ∈ T ∨ r ∈ ys := by
 unfold tells
 induction ys generalizing T with
 | nil => simp
 | cons y ys ih =>
  rw [List.foldl_cons, ih, tell_mem, List.mem_cons, or_assoc]
theorem tops_mem {ys : List SRegOp} {T : List Int} {r : Int} : r ∈ tops ys T ↔ r ∈ T ∨ ∃ y ∈ ys, r = y.f1 ∨ r = y.f2 ∨ r = y.f0 := by
 unfold tops
 induction ys generalizing T with
 | nil => simp
 | cons y ys ih =>
  rw [List.foldl_cons, ih, tells_mem]
  simp only [List.mem_cons, List.not_mem_nil, or_false, exists_eq_or_imp, or_assoc]
theorem tell_nodup {T : List Int} {y : Int} (h : T.Nodup) : (tell T y).Nodup := by
 unfold tell
 by_cases c : y ∈ T
 ·rwa [if_pos c]
 ·rw [if_neg c, List.nodup_append]
  exact ⟨h, by simp, fun a ha b hb => by rw [List.mem_singleton.1 hb]; exact fun e => c (e ▸ ha)⟩
theorem tells_nodup {ys T : List Int} (h : T.Nodup) : (tells ys T).Nodup := by
 unfold tells
 induction ys generalizing T with
 | nil => exact h
 | cons y ys ih => exact ih (tell_nodup h)
theorem tops_nodup {ys : List SRegOp} {T : List Int} (h : T.Nodup) : (tops ys T).Nodup := by
 unfold tops
 induction ys generalizing T with
 | nil => exact h
 | cons y ys ih => exact ih (tells_nodup h)
theorem tell_len (T : List Int) (y : Int) : (tell T y).length ≤ T.length + 1 := by
 unfold tell
 split
 ·omega
 ·simp
theorem tells_len (ys T : List Int) : (tells ys T).length ≤ T.length + ys.length := by
 unfold tells
 induction ys generalizing T with
 | nil => simp
 | cons y ys ih =>
  rw [List.foldl_cons, List.length_cons]
  have := ih (tell T y)
  have := tell_len T y
  omega
theorem tops_len (ys : List SRegOp) (T : List Int) : (tops ys T).length ≤ T.length + 3 * ys.length := by
 unfold tops
 induction ys generalizing T with
 | nil => simp
 | cons y ys ih =>
  rw [List.foldl_cons, List.length_cons]
  have := ih (tells [y.f1, y.f2, y.f0] T)
  have := tells_len [y.f1, y.f2, y.f0] T
  simp only [List.length_cons, List.length_nil] at this
  omega
theorem dst_tells (p ys : List Int) (h : dst p ys = true) : tells ys p = p ++ ys := by
 unfold tells
 induction ys generalizing p with
 | nil => simp
 | cons y ys ih =>
  simp only [dst, Bool.and_eq_true, Bool.not_eq_true', decide_eq_false_iff_not] at h
  rw [List.foldl_cons, tell, if_neg h.1, ih _ h.2]
  simp
/-- The program's names: each register's place among those that are told. -/
structure Nm (n : Nat) (v T : List Int) : Prop where
 len : v.length = n
 at_ : ∀ r, hs n r = true → rg v r = pos_ T r
theorem impl_tells (n : Nat) (ys v T : List Int) (j : Int) (h : Nm n v T) (hy : ∀ y ∈ ys, hs n y = true) (hb : T.length + ys.length ≤ 1000) : ∃ v', impl_PackRegisters_1.l0 ys v (T.length : Int) j = some (v', ((tells ys T).length : Int)) ∧ Nm n v' (tells ys T) := by
 induction ys generalizing v T j with
 | nil => exact ⟨v, rfl, h⟩
 | cons y ys ih =>
  simp only [List.length_cons] at hb
  have q := hs_iff.1 (hy y List.mem_cons_self)
  have hv := h.len
  have hr := fun z hz => hy z (List.mem_cons_of_mem _ hz)
  simp only [impl_PackRegisters_1.l0]
  rw [rg_gt q.1 (by omega)]
  simp only [Option.bind_some]
  have e := h.at_ y (hy y List.mem_cons_self)
  by_cases c : y ∈ T
  ·have e2 : rg v y ≠ -1 := by rw [e]; exact fun g => pos_none.1 g c
   have e3 : tells (y :: ys) T = tells ys T := by
    unfold tells
    rw [List.foldl_cons, tell, if_pos c]
   rw [if_neg e2, e3]
   exact ih v T (j + 1) h hr (by omega)
  ·have e2 : rg v y = -1 := by rw [e]; exact pos_none.2 c
   have e3 : tells (y :: ys) T = tells ys (T ++ [y]) := by
    unfold tells
    rw [List.foldl_cons, tell, if_neg c]
   rw [if_pos e2, rg_st q.1 (by omega), Option.bind_some, e3, zb6 (by omega)]
   have := ih (v.set y.toNat (T.length : Int)) (T ++ [y]) (j + 1) ⟨by simpa using hv, fun r hr1 => by
    have qr := hs_iff.1 hr1
    rw [rg_set qr.1 (by omega) q.1, pos_app]
    by_cases e : y = r
    ·rw [if_pos e, if_neg (e ▸ c), if_pos e]
    ·rw [if_neg e, if_neg e, h.at_ r hr1]
     by_cases m : r ∈ T
     ·rw [if_pos m]
     ·rw [if_neg m, pos_none.2 m]⟩ hr (by rw [List.length_append, List.length_singleton]; omega)
   rw [List.length_append, List.length_singleton, show ((T.length + 1 : Nat) : Int) = (T.length : Int) + 1 by omega] at this
   exact this
theorem impl_tops (n : Nat) (ys : List SRegOp) (v T : List Int) (j : Int) (h : Nm n v T) (hy : ∀ y ∈ ys, hs n y.f0 = true ∧ hs n y.f1 = true ∧ hs n y.f2 = true) (hb : T.length + 3 * ys.length ≤ 1000) : ∃ v', impl_PackRegisters.l0 ys v (T.length : Int) j = some (v', ((tops ys T).length : Int)) ∧ Nm n v' (tops ys T) := by
 induction ys generalizing v T j with
 | nil => exact ⟨v, rfl, h⟩
 | cons y ys ih =>
  simp only [List.length_cons] at hb
  have hq := hy y List.mem_cons_self
  obtain ⟨v', e1, h1⟩ := impl_tells n [y.f1, y.f2, y.f0] v T 0 h (fun z hz => by
   rcases List.mem_cons.1 hz with e | hz
   ·rw [e]; exact hq.2.1
   ·rcases List.mem_cons.1 hz with e | hz
    ·rw [e]; exact hq.2.2
    ·rw [List.mem_singleton.1 hz]; exact hq.1) (by simp; omega)
  have hl := tells_len [y.f1, y.f2, y.f0] T
  simp only [List.length_cons, List.length_nil] at hl
  obtain ⟨v2, e2, h2⟩ := ih v' (tells [y.f1, y.f2, y.f0] T) (j + 1) h1 (fun z hz => hy z (List.mem_cons_of_mem _ hz)) (by omega)
  refine ⟨v2, ?_, h2⟩
  simp only [impl_PackRegisters.l0, impl_PackRegisters_1.f]
  rw [e1]
  simp only [Option.bind_some]
  rw [e2]
  rfl
theorem spec_tells (ys T : List Int) (j : Int) (hb : T.length + ys.length ≤ 1000) : spec_PackRegisters.l2 ys T j = some (tells ys T) := by
 induction ys generalizing T j with
 | nil => rfl
 | cons y ys ih =>
  simp only [List.length_cons] at hb
  simp only [spec_PackRegisters.l2, l1Has_eq, Option.bind_some]
  unfold tells
  rw [List.foldl_cons]
  by_cases c : y ∈ T
  ·rw [if_pos (decide_eq_true c), tell, if_pos c]
   exact ih T (j + 1) (by omega)
  ·rw [if_neg (by simpa using c), ap_ok (by simp; omega), Option.bind_some, tell, if_neg c]
   exact ih (T ++ [y]) (j + 1) (by rw [List.length_append, List.length_singleton]; omega)
theorem spec_tops (ys : List SRegOp) (T : List Int) (j : Int) (hb : T.length + 3 * ys.length ≤ 1000) : spec_PackRegisters.l0 ys T j = some (tops ys T) := by
 induction ys generalizing T j with
 | nil => rfl
 | cons y ys ih =>
  simp only [List.length_cons] at hb
  have hl := tells_len [y.f1, y.f2, y.f0] T
  simp only [List.length_cons, List.length_nil] at hl
  simp only [spec_PackRegisters.l0]
  rw [spec_tells _ _ _ (by simp; omega), Option.bind_some]
  exact ih _ (j + 1) (by omega)
theorem spec_names (n : Nat) (ys p v : List Int) (hv : v.length = n) (hy : ∀ y ∈ ys, hs n y = true) (hd : (p ++ ys).Nodup) (h : ∀ r ∈ p, hs n r = true → rg v r = pos_ p r) : ∃ v', spec_PackRegisters.l1 ys v (p.length : Int) = some v' ∧ v'.length = n ∧ ∀ r ∈ p ++ ys, hs n r = true → rg v' r = pos_ (p ++ ys) r := by
 induction ys generalizing p v with
 | nil => exact ⟨v, rfl, hv, by simpa using h⟩
 | cons y ys ih =>
  have q := hs_iff.1 (hy y List.mem_cons_self)
  have hn : y ∉ p := fun hm => by
   rw [List.nodup_append] at hd
   exact hd.2.2 y hm y List.mem_cons_self rfl
  simp only [spec_PackRegisters.l1]
  rw [rg_gt q.1 (by omega), rg_st q.1 (by omega)]
  simp only [Option.bind_some]
  have := ih (p ++ [y]) (v.set y.toNat (p.length : Int)) (by simpa using hv) (fun z hz => hy z (List.mem_cons_of_mem _ hz)) (by simpa using hd) (fun r hr hr1 => by
   have qr := hs_iff.1 hr1
   rw [rg_set qr.1 (by omega) q.1, pos_app]
   by_cases e : y = r
   ·rw [if_pos e, if_neg (e ▸ hn), if_pos e]
   ·have hm : r ∈ p := by
     rcases List.mem_append.1 hr with g | g
     ·exact g
     ·exact absurd (List.mem_singleton.1 g).symm e
    rw [if_neg e, if_pos hm]
    exact h r hm hr1)
  rw [List.length_append, List.length_singleton, show ((p.length + 1 : Nat) : Int) = (p.length : Int) + 1 by omega, List.append_assoc] at this
  exact this
/-- Each of the first n numbers, once. -/
def IsO (n : Nat) (l : List Int) : Prop := l.length = n ∧ (∀ x ∈ l, 0 ≤ x ∧ x < (n : Int)) ∧ l.Nodup
instance (n : Nat) (l : List Int) : Decidable (IsO n l) := by unfold IsO; infer_instance
theorem iota_lt (n : Nat) : (iota n).Pairwise (· < ·) := by
 unfold iota
 rw [List.pairwise_map]
 exact List.Pairwise.imp (fun h => by omega) List.pairwise_lt_range
theorem iota_length (n : Nat) : (iota n).length = n := by simp [iota]
theorem rise_eq (L : List Int) (a : Int) (h : L.Pairwise (· < ·)) (hb : ∀ x ∈ L, a ≤ x ∧ x < a + (L.length : Int)) (M : List Int) (hM : M.Pairwise (· < ·)) (hl : L.length = M.length) (hb' : ∀ x ∈ M, a ≤ x ∧ x < a + (M.length : Int)) : L = M := by
 induction L generalizing a M with
 | nil => exact (List.length_eq_zero_iff.1 hl.symm).symm
 | cons x xs ih =>
  cases M with
  | nil => simp at hl
  | cons y ys =>
   obtain ⟨h1, h2⟩ := List.pairwise_cons.1 h
   obtain ⟨m1, m2⟩ := List.pairwise_cons.1 hM
   simp only [List.length_cons] at hl hb hb'
   have hx := hb x List.mem_cons_self
   have hy := hb' y List.mem_cons_self
   have e : xs = ys := by
    refine ih (a + 1) h2 (fun z hz => ?_) ys m2 (by omega) (fun z hz => ?_)
    ·have := h1 z hz
     have := hb z (List.mem_cons_of_mem _ hz)
     omega
    ·have := m1 z hz
     have := hb' z (List.mem_cons_of_mem _ hz)
     omega
   subst e
   congr 1
   cases xs with
   | nil => simp at hx hy; omega
   | cons z zs =>
    have hz : z = a + 1 := by
     -- the head of what rises through all of its room
     have key : ∀ (L : List Int) (b : Int), L.Pairwise (· < ·) → (∀ x ∈ L, b ≤ x ∧ x < b + (L.length : Int)) → ∀ w ws, L = w :: ws → w = b := by
      intro L
      induction L with
      | nil => intro b _ _ w ws e; cases e
      | cons p ps ih2 =>
       intro b hp hbb w ws e
       injection e with e1 e2
       subst e1 e2
       obtain ⟨p1, p2⟩ := List.pairwise_cons.1 hp
       simp only [List.length_cons] at hbb
       have hpb := hbb p List.mem_cons_self
       cases ps with
       | nil => simp at hpb; omega
       | cons q qs =>
        have := ih2 (b + 1) p2 (fun x hx => by
         have := p1 x hx
         have := hbb x (List.mem_cons_of_mem _ hx)
         omega) q qs rfl
        have := p1 q List.mem_cons_self
        omega
     exact key (z :: zs) (a + 1) h2 (fun x hx => by
      have := h1 x hx
      have := hb x (List.mem_cons_of_mem _ hx)
      simp only [List.length_cons] at this ⊢
      omega) z zs rfl
    have := h1 z List.mem_cons_self
    have := m1 z List.mem_cons_self
    omega
theorem sorted_iff (n : Nat) (l : List Int) : (l.mergeSort fun x y => decide (x ≤ y)) = iota n ↔ IsO n l := by
 have hp := List.mergeSort_perm l (fun x y : Int => decide (x ≤ y))
 have hs := List.pairwise_mergeSort (le := fun x y : Int => decide (x ≤ y)) (fun a b c h1 h2 => by simp at *; omega) (fun a b => by simp; omega) l
 constructor
 ·intro e
  rw [e] at hp
  refine ⟨by rw [← hp.length_eq, iota_length], fun x hx => iota_mem.1 (hp.mem_iff.2 hx), hp.nodup_iff.1 ?_⟩
  exact (iota_lt n).imp fun h => by omega
 ·rintro ⟨h1, h2, h3⟩
  have hnd := hp.nodup_iff.2 h3
  generalize l.mergeSort (fun x y => decide (x ≤ y)) = L at hp hs hnd
  have hlen : L.length = n := by rw [hp.length_eq, h1]
  have hlt : L.Pairwise (· < ·) := by
   have := List.Pairwise.and hs hnd
   exact this.imp fun h => by
    have := of_decide_eq_true h.1
    have := h.2
    omega
  refine rise_eq L 0 hlt (fun x hx => ?_) (iota n) (iota_lt n) (by rw [hlen, iota_length]) (fun x hx => ?_)
  ·have := h2 x (hp.mem_iff.1 hx)
   omega
  ·have := iota_mem.1 hx
   rw [iota_length]
   omega
theorem eqInts_l0 (l m : List Int) (j : Nat) (h : j + l.length = m.length) : slices_Equal_int_int.l0 m l (j : Int) = some (if l = m.drop j then Sum.inr () else Sum.inl false) := by
 induction l generalizing j with
 | nil =>
  rw [List.drop_eq_nil_of_le (by simp at h; omega)]
  rfl
 | cons y ys ih =>
  simp only [List.length_cons] at h
  have hj : j < m.length := by omega
  simp only [slices_Equal_int_int.l0]
  rw [gt_nat hj, Option.bind_some, List.drop_eq_getElem_cons hj]
  by_cases c : y = m[j]
  ·rw [if_neg (by simp [c]), show (j : Int) + 1 = ((j + 1 : Nat) : Int) by omega, ih (j + 1) (by omega)]
   by_cases d : ys = m.drop (j + 1)
   ·rw [if_pos d, if_pos (by rw [c, d])]
   ·rw [if_neg d, if_neg (fun e => d (List.cons.inj e).2)]
  ·rw [if_pos c, if_neg (fun e => c (List.cons.inj e).1)]
theorem eqInts_eq (l m : List Int) : slices_Equal_int_int.f l m = some (decide (l = m)) := by
 unfold slices_Equal_int_int.f
 by_cases h : l.length = m.length
 ·rw [if_neg (by omega)]
  have := eqInts_l0 l m 0 (by omega)
  rw [List.drop_zero, show ((0 : Nat) : Int) = 0 from rfl] at this
  rw [this]
  by_cases c : l = m
  ·simp [c]
  ·simp [c]
 ·rw [if_pos (by omega)]
  have : ¬ l = m := fun e => h (by rw [e])
  simp [this]
theorem isOrder_eq (l : List Int) (n : Nat) (hn : n ≤ 1000) (hl : l.length ≤ 100000000) : impl_isOrder.f l (n : Int) = some (decide (IsO n l)) := by
 unfold impl_isOrder.f
 rw [if_pos hl, firsts_eq n hn, Option.bind_some, eqInts_eq, Option.bind_some]
 congr 1
 exact decide_eq_decide.2 (sorted_iff n l)
theorem nodup_l0 (l : List Int) : ∀ (d j : Nat), j + d = l.length → (l.take j).Nodup → spec_RenameRegisters.l0 l (l.drop j) (j : Int) = some (if l.Nodup then Sum.inr () else Sum.inl (0, [], [], [], false)) := by
 intro d
 induction d with
 | zero =>
  intro j hj hn
  rw [List.drop_eq_nil_of_le (by omega)]
  rw [List.take_of_length_le (by omega)] at hn
  rw [if_pos hn]
  rfl
 | succ d ih =>
  intro j hj hn
  have hjl : j < l.length := by omega
  rw [List.drop_eq_getElem_cons hjl]
  simp only [spec_RenameRegisters.l0]
  rw [ct_take l j (by omega), Option.bind_some, l1Has_eq, Option.bind_some]
  have ht : l.take (j + 1) = l.take j ++ [l[j]] := by rw [List.take_add_one, List.getElem?_eq_getElem hjl]; rfl
  by_cases c : l[j] ∈ l.take j
  ·rw [if_pos (decide_eq_true c), if_neg]
   intro hnd
   have := List.Nodup.sublist (List.take_sublist (j + 1) l) hnd
   rw [ht, List.nodup_append] at this
   exact this.2.2 l[j] c l[j] List.mem_cons_self rfl
  ·rw [if_neg (by simpa using c), show (j : Int) + 1 = ((j + 1 : Nat) : Int) by omega]
   refine ih (j + 1) (by omega) ?_
   rw [ht, List.nodup_append]
   refine ⟨hn, by simp, fun a ha b hb => ?_⟩
   rw [List.mem_singleton.1 hb]
   exact fun e => c (by rw [← e]; exact ha)
def Bytes (c : List Int) : Prop := ∀ y ∈ c, 0 ≤ y ∧ y ≤ 255
/-- So many picks may still be made. -/
def Bud (a : Int) (m : Nat) : Prop := 0 ≤ a ∧ a + 2 * (m : Int) ≤ 1000000000
theorem Bud.le {a : Int} {m m' : Nat} (h : Bud a m) (hm : m' ≤ m) : Bud a m' := ⟨h.1, by have := h.2; omega⟩
theorem byte_in {c : List Int} (h : ∀ y ∈ c, (Lit.int .u8 y).wf = true) : Bytes c := fun y hy => by
 have h2 := h y hy
 simp [Lit.wf, IntKind.min, IntKind.max, IntKind.signed, IntKind.bits] at h2
 omega
theorem and255 (x : Int) : 0 ≤ Go.bits .and .u64 x 255 ∧ Go.bits .and .u64 x 255 ≤ 255 := by
 have hw : ∀ n : Nat, n ≤ 255 → 0 ≤ IntKind.u64.wrap (n : Int) ∧ IntKind.u64.wrap (n : Int) ≤ 255 := fun n hn => by
  unfold IntKind.wrap
  simp [IntKind.signed, IntKind.bits]
  omega
 have h : (BitVec.ofInt IntKind.u64.bits x &&& BitVec.ofInt IntKind.u64.bits 255).toNat ≤ 255 := by
  rw [BitVec.toNat_and]
  exact Nat.le_trans Nat.and_le_right (by decide)
 exact hw _ h
theorem next_ev {c : List Int} (hc : Bytes c) (hl : c.length ≤ 1048576) {a : Int} (ha : 0 ≤ a ∧ a ≤ 1000000000) (sd : Int) : ∃ x sd', spec_l1Cur_next.f c a sd = some (x, sd') ∧ 0 ≤ x ∧ x ≤ 255 := by
 have hv : ∃ v, (if a < (c.length : Int) then ((gt c a).bind fun y14 => some (w64 y14)) else (some 0)) = some v ∧ 0 ≤ v ∧ v ≤ 255 := by
  by_cases h : a < (c.length : Int)
  ·rw [if_pos h]
   have hj : a.toNat < c.length := by omega
   have hg : gt c a = some c[a.toNat] := by
    unfold gt
    rw [if_pos ha.1, List.getElem?_eq_getElem hj]
   have hb := hc _ (List.getElem_mem hj)
   rw [hg, Option.bind_some, zb6 (by omega)]
   exact ⟨_, rfl, hb⟩
  ·rw [if_neg h]
   exact ⟨0, rfl, by omega, by omega⟩
 obtain ⟨v, e, hv⟩ := hv
 unfold spec_l1Cur_next.f
 rw [e, Option.bind_some]
 split
 ·exact ⟨_, _, rfl, hv⟩
 ·refine ⟨_, _, rfl, ?_⟩
  have := and255 ((IntKind.u64.wrap (IntKind.u64.wrap (IntKind.u64.wrap (sd * 6364136223846793005) + (IntKind.u64.wrap v)) + 1442695040888963407)) / 2 ^ min (40 : Int).toNat IntKind.u64.bits)
  rw [zb6 (by omega)]
  exact this
theorem pick_ev {c : List Int} (hc : Bytes c) (hl : c.length ≤ 1048576) {a : Int} {m : Nat} (ha : Bud a (m + 1)) (sd n : Int) : ∃ x a' sd', spec_l1Cur_pick.f c a sd n = some (x, a', sd') ∧ 0 ≤ x ∧ (x = 0 ∨ x < n) ∧ Bud a' m := by
 unfold spec_l1Cur_pick.f
 have h0 := ha.1
 have h1 := ha.2
 by_cases hn : n ≤ 1
 ·rw [if_pos hn]
  exact ⟨0, a, sd, rfl, by omega, .inl rfl, ha.le (by omega)⟩
 ·rw [if_neg hn]
  obtain ⟨x, s1, e1, x0, x1⟩ := next_ev hc hl (a := a) (by omega) sd
  have hz : nz n = some () := by
   unfold nz
   rw [if_neg (by omega)]
  rw [e1, Option.bind_some]
  simp only
  by_cases h2 : 200 < n
  ·rw [if_pos h2, zb6 (x := a + 1) (by omega)]
   obtain ⟨y, s2, e2, y0, y1⟩ := next_ev hc hl (a := a + 1) (by omega) s1
   rw [e2, Option.bind_some, hz, zb6 (x := x * 256) (by omega), zb6 (x := x * 256 + y) (by omega), zb6 (x := a + 1 + 1) (by omega)]
   refine ⟨_, _, _, rfl, Int.tmod_nonneg _ (by omega), .inr (Int.tmod_lt_of_pos _ (by omega)), by omega, by omega⟩
  ·rw [if_neg h2, hz, zb6 (x := a + 1) (by omega)]
   exact ⟨_, _, _, rfl, Int.tmod_nonneg _ (by omega), .inr (Int.tmod_lt_of_pos _ (by omega)), by omega, by omega⟩
theorem one_ev {c : List Int} (hc : Bytes c) (hl : c.length ≤ 1048576) {a : Int} {m : Nat} (ha : Bud a (m + 1)) (sd n : Int) : ∃ b a' sd', spec_l1Cur_one.f c a sd n = some (b, a', sd') ∧ Bud a' m := by
 obtain ⟨x, a', sd', e, _, _, hb⟩ := pick_ev hc hl ha sd n
 unfold spec_l1Cur_one.f
 rw [e]
 exact ⟨_, _, _, rfl, hb⟩
theorem among_ev {c : List Int} (hc : Bytes c) (hl : c.length ≤ 1048576) {a : Int} {m : Nat} (ha : Bud a (m + 1)) (sd : Int) (l : List Int) (hne : 0 < l.length) : ∃ y a' sd', spec_l1Cur_among.f c a sd l = some (y, a', sd') ∧ y ∈ l ∧ Bud a' m := by
 obtain ⟨x, a', sd', e, x0, x1, hb⟩ := pick_ev hc hl ha sd (l.length : Int)
 unfold spec_l1Cur_among.f
 rw [e, Option.bind_some]
 have hj : x.toNat < l.length := by omega
 have hg : gt l x = some l[x.toNat] := by
  unfold gt
  rw [if_pos x0, List.getElem?_eq_getElem hj]
 simp only [hg, Option.bind_some]
 exact ⟨_, _, _, rfl, List.getElem_mem hj, hb⟩
theorem plStep_some (a b : Int) : ∃ z, spec_plStep.f a b = some z := by
 unfold spec_plStep.f spec_l1Least.f spec_l1Most.f
 split <;> split <;> exact ⟨_, rfl⟩
theorem least_some (a b : Int) : ∃ z, spec_l1Least.f a b = some z := by
 unfold spec_l1Least.f
 split <;> exact ⟨_, rfl⟩
theorem dplan_l0 {c : List Int} (hc : Bytes c) (hl : c.length ≤ 1048576) (i : Int) (d : Nat) (s : List SStep) (a sd : Int) (m : Nat) (ha : Bud a (m + 3 * d)) (hd : s.length + d ≤ 1000) : ∃ s' a' sd', Ev (fun k => spec_l1Cur_plan.l0 c i k s a sd (d : Int)) (s', a', sd') ∧ s'.length = s.length + d ∧ Bud a' m := by
 induction d generalizing s a sd with
 | zero =>
  refine ⟨s, a, sd, shift ?_, rfl, ha.le (by omega)⟩
  simp only [spec_l1Cur_plan.l0]
  exact neg (by omega) (ret _)
 | succ d ih =>
  obtain ⟨x, a1, s1, e1, _, _, b1⟩ := pick_ev hc hl (m := m + 3 * d + 2) (ha.le (by omega)) sd (w64 (w64 (1 + i) + (s.length : Int)))
  obtain ⟨b, a2, s2, e2, b2⟩ := one_ev hc hl (m := m + 3 * d + 1) b1 s1 2
  have e3 : ∃ v, ((spec_l1Cur_one.f c a1 s1 2).bind fun (b49, i50, i51) => if b49 = true then (some (i50, i51, w64 (w64 (w64 (1 + i) + (s.length : Int)) - 1))) else (some (i50, i51, x))) = some (a2, s2, v) := by
   rw [e2, Option.bind_some]
   cases b
   ·exact ⟨_, rfl⟩
   ·exact ⟨_, rfl⟩
  obtain ⟨v, e3⟩ := e3
  obtain ⟨y, a4, s4, e4, _, _, b4⟩ := pick_ev hc hl (m := m + 3 * d) b2 s2 (w64 (w64 (1 + i) + (s.length : Int)))
  obtain ⟨z, e5⟩ := plStep_some v y
  obtain ⟨s', a', sd', e6, l6, b6⟩ := ih (s ++ [z]) a4 s4 b4 (by rw [List.length_append, List.length_singleton]; omega)
  refine ⟨s', a', sd', shift ?_, by rw [l6, List.length_append, List.length_singleton]; omega, b6⟩
  simp only [spec_l1Cur_plan.l0]
  refine pos (by omega) (bind0 e1 (bind0 e3 (bind0 e4 (bind0 e5 (bind0 (ap_ok (by simp; omega)) ?_)))))
  rw [zb6 (by omega), show ((d + 1 : Nat) : Int) - 1 = (d : Int) by omega]
  exact e6
theorem dplan_l1 {c : List Int} (hc : Bytes c) (hl : c.length ≤ 1048576) (i : Int) (s : List SStep) (d : Nat) (o : List Int) (a sd : Int) (m : Nat) (ha : Bud a (m + d)) (hd : o.length + d ≤ 1000) : ∃ o' a' sd', Ev (fun k => spec_l1Cur_plan.l1 c i s k o a sd (d : Int)) (o', a', sd') ∧ o'.length = o.length + d ∧ Bud a' m := by
 induction d generalizing o a sd with
 | zero =>
  refine ⟨o, a, sd, shift ?_, rfl, ha.le (by omega)⟩
  simp only [spec_l1Cur_plan.l1]
  exact neg (by omega) (ret _)
 | succ d ih =>
  obtain ⟨z, e0⟩ := least_some (w64 (w64 (1 + i) + (s.length : Int))) 4
  obtain ⟨x, a1, s1, e1, _, _, b1⟩ := pick_ev hc hl (m := m + d) (ha.le (by omega)) sd z
  obtain ⟨o', a', sd', e6, l6, b6⟩ := ih (o ++ [w64 (w64 (w64 (w64 (1 + i) + (s.length : Int)) - 1) - x)]) a1 s1 b1 (by rw [List.length_append, List.length_singleton]; omega)
  refine ⟨o', a', sd', shift ?_, by rw [l6, List.length_append, List.length_singleton]; omega, b6⟩
  simp only [spec_l1Cur_plan.l1]
  refine pos (by omega) (bind0 e0 (bind0 e1 (bind0 (ap_ok (by simp; omega)) ?_)))
  rw [zb6 (x := ((d + 1 : Nat) : Int) - 1) (by omega), show ((d + 1 : Nat) : Int) - 1 = (d : Int) by omega]
  exact e6
/-- A plan is drawn. -/
theorem drawPlan {c : List Int} (hc : Bytes c) (hl : c.length ≤ 1048576) (a sd n t : Int) (ht : 0 ≤ t ∧ t ≤ 40) (m : Nat) (ha : Bud a (m + 200)) : ∃ i s o a' sd', Ev (fun k => spec_l1Cur_plan.f k c a sd n t) (i, s, o, a', sd') ∧ s.length ≤ 40 ∧ o.length ≤ 3 ∧ Bud a' m := by
 obtain ⟨x, a1, s1, e1, _, _, b1⟩ := pick_ev hc hl (m := m + 199) (ha.le (by omega)) sd n
 obtain ⟨y, a2, s2, e2, y0, y1, b2⟩ := pick_ev hc hl (m := m + 198) b1 s1 (w64 (t + 1))
 rw [zb6 (by omega)] at e2 y1
 obtain ⟨d, rfl⟩ := Int.eq_ofNat_of_zero_le y0
 obtain ⟨s', a3, s3, e3, l3, b3⟩ := dplan_l0 hc hl x d [] a2 s2 (m + 70) (b2.le (by omega)) (by simp; omega)
 obtain ⟨z, a4, s4, e4, z0, z1, b4⟩ := pick_ev hc hl (m := m + 60) (b3.le (by omega)) s3 3
 obtain ⟨q, rfl⟩ := Int.eq_ofNat_of_zero_le z0
 obtain ⟨o', a5, s5, e5, l5, b5⟩ := dplan_l1 hc hl x s' (1 + q) [] a4 s4 (m + 30) (b4.le (by omega)) (by simp; omega)
 obtain ⟨b, a6, s6, e6, b6⟩ := one_ev hc hl (m := m + 20) (b5.le (by omega)) s5 12
 have e7 : ∃ o, o.length ≤ 3 ∧ ((spec_l1Cur_one.f c a5 s5 12).bind fun (b1653, i1654, i1655) => if b1653 = true then (some (([] : List Int), i1654, i1655)) else (some (o', i1654, i1655))) = some (o, a6, s6) := by
  rw [e6, Option.bind_some]
  cases b
  ·exact ⟨o', by rw [l5]; simp; omega, rfl⟩
  ·exact ⟨[], by simp, rfl⟩
 obtain ⟨o, lo, e7⟩ := e7
 refine ⟨w64 (1 + x), s', o, a6, s6, ?_, by rw [l3]; simp; omega, lo, b6.le (by omega)⟩
 unfold spec_l1Cur_plan.f
 rw [zb6 (x := t + 1) (by omega)]
 refine bind0 e1 (bind0 e2 (bind e3 (bind0 e4 (bind (a := (o', a5, s5)) ?_ (bind0 e7 (ret _))))))
 rw [zb6 (by omega), show (1 : Int) + (q : Int) = ((1 + q : Nat) : Int) by omega]
 exact e5
theorem rSame_refl (l : List Int) : laws_rSame.f l l = some true := by
 have key : ∀ (d j : Nat), j + d = l.length → laws_rSame.l0 l (l.drop j) (j : Int) = some (.inr ()) := by
  intro d
  induction d with
  | zero =>
   intro j hj
   rw [List.drop_eq_nil_of_le (by omega)]
   rfl
  | succ d ih =>
   intro j hj
   rw [List.drop_eq_getElem_cons (show j < l.length by omega)]
   simp only [laws_rSame.l0]
   rw [gt_nat (show j < l.length by omega), Option.bind_some, if_neg (by simp), show (j : Int) + 1 = ((j + 1 : Nat) : Int) by omega]
   exact ih (j + 1) (by omega)
 unfold laws_rSame.f
 rw [if_neg (by simp)]
 have := key l.length 0 (by omega)
 rw [List.drop_zero] at this
 rw [show (0 : Int) = ((0 : Nat) : Int) from rfl, this]
 rfl
/-- The powers of the outputs. -/
def pw (I : Nat) (s : List SStep) (o : List Int) : List (List Int) := o.map fun v => (exps I s).getD v.toNat []
/-- Are the powers of two plans the same? -/
def sameB (I : Nat) (s : List SStep) (o : List Int) (I' : Nat) (s' : List SStep) (o' : List Int) : Bool := decide (I = I') && decide (pw I s o = pw I' s' o')
/-- What RegCodePlan hands back. -/
def rcp (a : Int) (l1 : List Int) (l2 : List SRegOp) (l3 : List Int) : Int × List SStep × List Int × Bool := match codeP a l1 l2 l3 with | none => nul | some (s, o) => ((l1.length : Int), s, o, true)
theorem rcp_impl (a : Int) (l1 : List Int) (l2 : List SRegOp) (l3 : List Int) : Ev (fun k => impl_RegCodePlan.f k a l1 l2 l3) (rcp a l1 l2 l3) := by
 unfold impl_RegCodePlan.f
 exact bind (plan_ev a l1 l2 l3) (ret _)
theorem rSamePlan_refl (i : Int) (s : List SStep) (o : List Int) : laws_rSamePlan.f i s o i s o = some true := by
 have key : ∀ (d j : Nat), j + d = s.length → laws_rSamePlan.l0 s (s.drop j) (j : Int) = some (.inr ()) := by
  intro d
  induction d with
  | zero =>
   intro j hj
   rw [List.drop_eq_nil_of_le (by omega)]
   rfl
  | succ d ih =>
   intro j hj
   rw [List.drop_eq_getElem_cons (show j < s.length by omega)]
   simp only [laws_rSamePlan.l0]
   rw [gt_nat (show j < s.length by omega), Option.bind_some, if_pos (by simp), show (j : Int) + 1 = ((j + 1 : Nat) : Int) by omega]
   exact ih (j + 1) (by omega)
 unfold laws_rSamePlan.f
 rw [if_neg (by simp), if_neg (by simp), rSame_refl, Option.bind_some, if_pos rfl]
 have := key s.length 0 (by omega)
 rw [List.drop_zero] at this
 rw [show (0 : Int) = ((0 : Nat) : Int) from rfl, this]
 rfl
def opF (f : Int → Int) (y : SRegOp) : SRegOp := ⟨f y.f0, f y.f1, f y.f2⟩
def pkf (l1 : List Int) (l2 : List SRegOp) (r : Int) : Int := pos_ (tops l2 l1) r
def pkR (a : Int) (l1 : List Int) (l2 : List SRegOp) (l3 : List Int) : Int × List Int × List SRegOp × List Int × Bool := match codeP a l1 l2 l3 with
 | none => (0, [], [], [], false)
 | some _ => (((tops l2 l1).length : Int), l1.map (pkf l1 l2), l2.map (opF (pkf l1 l2)), l3.map (pkf l1 l2), true)
theorem pack_res (a : Int) (l1 : List Int) (l2 : List SRegOp) (l3 : List Int) : Ev (fun k => spec_PackRegisters.f k a l1 l2 l3) (pkR a l1 l2 l3) ∧ Ev (fun k => impl_PackRegisters.f k a l1 l2 l3) (pkR a l1 l2 l3) := by
 have e1 := reCode_ev a l1 l2 l3
 have e2 := isRegCode_ev a l1 l2 l3
 unfold spec_PackRegisters.f impl_PackRegisters.f pkR
 cases hc : codeP a l1 l2 l3 with
 | none =>
  rw [hc] at e1 e2
  exact ⟨bind e1 (neg (by simp) (ret _)), bind e2 (neg (by simp) (ret _))⟩
 | some q =>
  obtain ⟨s, o⟩ := q
  rw [hc] at e1 e2
  obtain ⟨n, rfl, h, _⟩ := codeP_ok hc
  have b0 := h.reg
  have b1 := h.len1
  have b2 := h.len2
  have b3 := h.len3
  have hT := dst_tells [] l1 h.dist
  rw [List.nil_append] at hT
  have hnd0 : l1.Nodup := by rw [← hT]; exact tells_nodup List.nodup_nil
  have hnd : (tops l2 l1).Nodup := tops_nodup hnd0
  have hlen := tops_len l2 l1
  have hin : ∀ r ∈ tops l2 l1, hs n r = true := fun r hr => by
   rcases tops_mem.1 hr with g | ⟨y, hy, g⟩
   ·exact h.ins r g
   ·have := h.ops y hy
    rcases g with g | g | g <;> rw [g]
    ·exact this.2.1
    ·exact this.2.2
    ·exact this.1
  -- the reference
  have f1 := l1Own_eq l1 (by omega)
  have f2 := spec_tops l2 l1 0 (by omega)
  have f3 : mk0 ((n : Nat) : Int) (0 : Int) = some (List.replicate n 0) := by
   unfold mk0
   rw [if_pos (by omega), Int.toNat_natCast]
  obtain ⟨sv, f4, f5, f6⟩ := spec_names n (tops l2 l1) [] (List.replicate n 0) (by simp) hin (by simpa using hnd) (fun r hr => nomatch hr)
  rw [show (([] : List Int).length : Int) = 0 from rfl] at f4
  rw [List.nil_append] at f6
  have f7 := (called_eq h sv f5 (n : Int) ((tops l2 l1).length : Int)).2
  -- the program
  have g1 : slices_Repeat_int_int.f ([(-1)] : List Int) ((n : Nat) : Int) = some (no n) := by
   unfold slices_Repeat_int_int.f
   rw [if_pos ⟨rfl, by omega, by omega⟩]
   rfl
  obtain ⟨v1, g2, g3⟩ := impl_tells n l1 (no n) [] 0 ⟨by simp [no], fun r hr => no_rg hr⟩ h.ins (by simp; omega)
  rw [show (([] : List Int).length : Int) = 0 from rfl, hT] at g2
  rw [hT] at g3
  obtain ⟨v2, g4, g5⟩ := impl_tops n l2 v1 l1 0 g3 h.ops (by omega)
  have g6 := (called_eq h v2 g5.len (n : Int) ((tops l2 l1).length : Int)).1
  have same : ∀ r ∈ tops l2 l1, rg v2 r = rg sv r := fun r hr => by rw [g5.at_ r (hin r hr), f6 r hr (hin r hr)]
  have m1 : l1.map (rg v2) = l1.map (rg sv) := List.map_congr_left fun r hr => same r (tops_mem.2 (.inl hr))
  have m2 : l2.map (opMap v2) = l2.map (opMap sv) := List.map_congr_left fun y hy => by
   unfold opMap
   rw [same _ (tops_mem.2 (.inr ⟨y, hy, .inr (.inr rfl)⟩)), same _ (tops_mem.2 (.inr ⟨y, hy, .inl rfl⟩)), same _ (tops_mem.2 (.inr ⟨y, hy, .inr (.inl rfl)⟩))]
  have m3 : l3.map (rg v2) = l3.map (rg sv) := List.map_congr_left fun r hr => same r (by
   rcases h.full r hr with g | ⟨y, hy, g⟩
   ·exact tops_mem.2 (.inl g)
   ·exact tops_mem.2 (.inr ⟨y, hy, .inr (.inr g.symm)⟩))
  rw [m1, m2, m3] at g6
  have g2' : impl_PackRegisters_1.f l1 (no n) 0 = some (v1, (l1.length : Int)) := by
   unfold impl_PackRegisters_1.f
   rw [g2]
   rfl
  have t1 : l1.map (rg sv) = l1.map (pkf l1 l2) := List.map_congr_left fun r hr => f6 r (tops_mem.2 (.inl hr)) (h.ins r hr)
  have t2 : l2.map (opMap sv) = l2.map (opF (pkf l1 l2)) := List.map_congr_left fun y hy => by
   have q := h.ops y hy
   unfold opMap opF pkf
   rw [f6 _ (tops_mem.2 (.inr ⟨y, hy, .inr (.inr rfl)⟩)) q.1, f6 _ (tops_mem.2 (.inr ⟨y, hy, .inl rfl⟩)) q.2.1, f6 _ (tops_mem.2 (.inr ⟨y, hy, .inr (.inl rfl)⟩)) q.2.2]
  have t3 : l3.map (rg sv) = l3.map (pkf l1 l2) := List.map_congr_left fun r hr => f6 r (by
   rcases h.full r hr with g | ⟨y, hy, g⟩
   ·exact tops_mem.2 (.inl g)
   ·exact tops_mem.2 (.inr ⟨y, hy, .inr (.inr g.symm)⟩)) (h.outs r hr)
  rw [t1, t2, t3] at f7 g6
  exact ⟨bind e1 (pos rfl (bind0 f1 (bind0 f2 (bind0 f3 (bind0 f4 (bind0 f7 (ret _))))))), bind e2 (pos rfl (bind0 g1 (bind0 g2' (bind0 g4 (bind0 g6 (ret _))))))⟩
def rnR (a : Int) (l1 : List Int) (l2 : List SRegOp) (l3 l : List Int) : Int × List Int × List SRegOp × List Int × Bool := match codeP a l1 l2 l3 with
 | none => (0, [], [], [], false)
 | some _ => if IsO a.toNat l then (a, l1.map (rg l), l2.map (opF (rg l)), l3.map (rg l), true) else (0, [], [], [], false)
theorem ren_res (a : Int) (l1 : List Int) (l2 : List SRegOp) (l3 l : List Int) (hl : l.length ≤ 100000000) : Ev (fun k => spec_RenameRegisters.f k a l1 l2 l3 l) (rnR a l1 l2 l3 l) ∧ Ev (fun k => impl_RenameRegisters.f k a l1 l2 l3 l) (rnR a l1 l2 l3 l) := by
 have e1 := reCode_ev a l1 l2 l3
 have e2 := isRegCode_ev a l1 l2 l3
 unfold spec_RenameRegisters.f impl_RenameRegisters.f rnR
 cases hc : codeP a l1 l2 l3 with
 | none =>
  rw [hc] at e1 e2
  exact ⟨bind (a := true) (bind e1 (neg (by simp) (ret _))) (pos rfl (ret _)), bind (a := true) (bind e2 (neg (by simp) (ret _))) (pos rfl (ret _))⟩
 | some so =>
  rw [hc] at e1 e2
  obtain ⟨s, o⟩ := so
  obtain ⟨n, rfl, hok, hf⟩ := codeP_ok hc
  have hr := hok.reg
  have q1 := hok.len1
  have q2 := hok.len2
  have q3 := hok.len3
  have hio := isOrder_eq l n (by omega) hl
  have hno : Ev (fun k => ((impl_IsRegCode.f k (n : Int) l1 l2 l3).bind fun b17 => if b17 = true then ((impl_isOrder.f l (n : Int)).bind fun b20 => some (!b20)) else (some true))) (!decide (IsO n l)) := bind e2 (pos rfl (bind0 hio (ret _)))
  show Ev _ (if IsO ((n : Int)).toNat l then _ else _) ∧ Ev _ (if IsO ((n : Int)).toNat l then _ else _)
  rw [Int.toNat_natCast]
  by_cases hO : IsO n l
  ·rw [decide_eq_true hO] at hno
   rw [if_pos hO]
   obtain ⟨o1, o2, o3⟩ := hO
   obtain ⟨c1, c2⟩ := called_eq hok l o1 (n : Int) (n : Int)
   have hall : aB 0 (w64 ((n : Int) - 1)) l = true := by
    unfold aB
    rw [zb6 (by omega)]
    exact List.all_eq_true.2 fun x hx => decide_eq_true (by have := o2 x hx; omega)
   have hnd := nodup_l0 l l.length 0 (by omega) (by simp)
   rw [List.drop_zero, if_pos o3, show ((0 : Nat) : Int) = 0 from rfl] at hnd
   exact ⟨bind (a := false) (bind e1 (pos rfl (neg (by omega) (bind0 (by rw [l1All_eq, hall]) (ret _))))) (neg (by simp) (bind0 hnd (bind0 c2 (ret _)))), bind hno (neg (by simp) (bind0 c1 (ret _)))⟩
  ·rw [decide_eq_false hO] at hno
   rw [if_neg hO]
   refine ⟨?_, bind hno (pos rfl (ret _))⟩
   by_cases h1 : l.length = n
   ·cases hall : aB 0 (w64 ((n : Int) - 1)) l with
    | false => exact bind (a := true) (bind e1 (pos rfl (neg (by omega) (bind0 (by rw [l1All_eq, hall]) (ret _))))) (pos rfl (ret _))
    | true =>
     have hnd := nodup_l0 l l.length 0 (by omega) (by simp)
     have : ¬ l.Nodup := fun h3 => hO ⟨h1, fun x hx => by
      have := of_decide_eq_true (List.all_eq_true.1 hall x hx)
      rw [zb6 (by omega)] at this
      omega, h3⟩
     rw [List.drop_zero, if_neg this, show ((0 : Nat) : Int) = 0 from rfl] at hnd
     exact bind (a := false) (bind e1 (pos rfl (neg (by omega) (bind0 (by rw [l1All_eq, hall]) (ret _))))) (neg (by simp) (bind0 hnd (ret _)))
   ·exact bind (a := true) (bind e1 (pos rfl (pos (by omega) (ret _)))) (pos rfl (ret _))
/-! names that are told apart -/
def Inj (S : List Int) (f : Int → Int) : Prop := ∀ x ∈ S, ∀ y ∈ S, f x = f y → x = y
theorem mem_map_inj {S T : List Int} {f : Int → Int} (hf : Inj S f) (hT : ∀ x ∈ T, x ∈ S) {y : Int} (hy : y ∈ S) : f y ∈ T.map f ↔ y ∈ T := by
 constructor
 ·intro h
  obtain ⟨x, hx, e⟩ := List.mem_map.1 h
  rw [← hf x (hT x hx) y hy e]
  exact hx
 ·exact fun h => List.mem_map_of_mem h
theorem tell_map {S T : List Int} {f : Int → Int} (hf : Inj S f) (hT : ∀ x ∈ T, x ∈ S) {y : Int} (hy : y ∈ S) : tell (T.map f) (f y) = (tell T y).map f := by
 unfold tell
 by_cases c : y ∈ T
 ·rw [if_pos c, if_pos ((mem_map_inj hf hT hy).2 c)]
 ·rw [if_neg c, if_neg (fun h => c ((mem_map_inj hf hT hy).1 h)), List.map_append]
  rfl
theorem tells_map {S : List Int} {f : Int → Int} (hf : Inj S f) (ys T : List Int) (hT : ∀ x ∈ T, x ∈ S) (hy : ∀ y ∈ ys, y ∈ S) : tells (ys.map f) (T.map f) = (tells ys T).map f := by
 induction ys generalizing T with
 | nil => rfl
 | cons y ys ih =>
  show tells (ys.map f) (tell (T.map f) (f y)) = (tells ys (tell T y)).map f
  rw [tell_map hf hT (hy y (by simp))]
  exact ih (tell T y) (fun x hx => by
   rcases tell_mem.1 hx with g | g
   ·exact hT x g
   ·rw [g]; exact hy y (by simp)) (fun z hz => hy z (List.mem_cons_of_mem _ hz))
theorem tops_map {S : List Int} {f : Int → Int} (hf : Inj S f) (ys : List SRegOp) (T : List Int) (hT : ∀ x ∈ T, x ∈ S) (hy : ∀ y ∈ ys, y.f0 ∈ S ∧ y.f1 ∈ S ∧ y.f2 ∈ S) : tops (ys.map (opF f)) (T.map f) = (tops ys T).map f := by
 induction ys generalizing T with
 | nil => rfl
 | cons y ys ih =>
  have q := hy y (by simp)
  show tops (ys.map (opF f)) (tells ([y.f1, y.f2, y.f0].map f) (T.map f)) = (tops ys (tells [y.f1, y.f2, y.f0] T)).map f
  have h3 : ∀ z ∈ [y.f1, y.f2, y.f0], z ∈ S := fun z hz => by
   simp only [List.mem_cons, List.not_mem_nil, or_false] at hz
   rcases hz with rfl | rfl | rfl
   ·exact q.2.1
   ·exact q.2.2
   ·exact q.1
  rw [tells_map hf _ T hT h3]
  exact ih _ (fun x hx => by
   rcases tells_mem.1 hx with g | g
   ·exact hT x g
   ·exact h3 x g) (fun z hz => hy z (List.mem_cons_of_mem _ hz))
theorem pos_map {S : List Int} {f : Int → Int} (hf : Inj S f) {r : Int} (hr : r ∈ S) : ∀ T : List Int, (∀ x ∈ T, x ∈ S) → pos_ (T.map f) (f r) = pos_ T r := by
 suffices h : ∀ T : List Int, (∀ x ∈ T, x ∈ S) → pos_ (T.reverse.map f) (f r) = pos_ T.reverse r by
  intro T hT
  have := h T.reverse (fun x hx => hT x (List.mem_reverse.1 hx))
  rwa [List.reverse_reverse] at this
 intro T
 induction T with
 | nil => intro _; rfl
 | cons t T ih =>
  intro hT
  have ih := ih (fun x hx => hT x (List.mem_cons_of_mem _ hx))
  rw [List.reverse_cons, List.map_append, List.map_cons, List.map_nil, pos_app, pos_app, ih, List.length_map]
  have hm := mem_map_inj hf (T := T.reverse) (fun x hx => hT x (List.mem_cons_of_mem _ (List.mem_reverse.1 hx))) hr
  have ht : f t = f r ↔ t = r := ⟨hf t (hT t (by simp)) r hr, fun e => by rw [e]⟩
  by_cases c : r ∈ T.reverse
  ·rw [if_pos c, if_pos (hm.2 c)]
  ·rw [if_neg c, if_neg (fun h => c (hm.1 h))]
   by_cases d : t = r
   ·rw [if_pos d, if_pos (ht.2 d)]
   ·rw [if_neg d, if_neg (fun h => d (ht.1 h))]
structure Sm (n b : Nat) (S : List Int) (f : Int → Int) (l l' : List Int) : Prop where
 a : l.length = n
 b : l'.length = b
 c : ∀ r ∈ S, rg l' (f r) = rg l r
theorem Sm.set {n b : Nat} {S : List Int} {f : Int → Int} {l l' : List Int} (h : Sm n b S f l l') (hf : Inj S f) (hS : ∀ r ∈ S, hs n r = true ∧ hs b (f r) = true) {y v : Int} (hy : y ∈ S) : Sm n b S f (l.set y.toNat v) (l'.set (f y).toNat v) := by
 refine ⟨by rw [List.length_set]; exact h.a, by rw [List.length_set]; exact h.b, fun r hr => ?_⟩
 have q := hS r hr
 have p := hS y hy
 have q1 := hs_iff.1 q.1
 have q2 := hs_iff.1 q.2
 have p1 := hs_iff.1 p.1
 have p2 := hs_iff.1 p.2
 have ha := h.a
 have hb := h.b
 rw [rg_set q2.1 (by omega) p2.1, rg_set q1.1 (by omega) p1.1, h.c r hr]
 by_cases c : y = r
 ·rw [if_pos c, if_pos (by rw [c])]
 ·rw [if_neg c, if_neg (fun e => c (hf y hy r hr e))]
theorem ins_sim {n b : Nat} {S : List Int} {f : Int → Int} (hf : Inj S f) (hS : ∀ r ∈ S, hs n r = true ∧ hs b (f r) = true) (ys l l' : List Int) (i : Int) (hy : ∀ y ∈ ys, y ∈ S) (h : Sm n b S f l l') (a : List Int) (e : insGo n ys l i = some a) : ∃ a', insGo b (ys.map f) l' i = some a' ∧ Sm n b S f a a' := by
 induction ys generalizing l l' i with
 | nil =>
  simp only [insGo] at e
  obtain rfl := Option.some.inj e
  exact ⟨l', rfl, h⟩
 | cons y ys ih =>
  have hyS := hy y (by simp)
  simp only [insGo] at e
  split at e
  ·rename_i c
   obtain ⟨a', e', s'⟩ := ih _ _ _ (fun z hz => hy z (List.mem_cons_of_mem _ hz)) (h.set hf hS (v := i) hyS) e
   refine ⟨a', ?_, s'⟩
   simp only [List.map_cons, insGo]
   rw [if_pos ⟨(hS y hyS).2, by rw [h.c y hyS]; exact c.2⟩]
   exact e'
  ·cases e
theorem ops_sim {n b : Nat} {S : List Int} {f : Int → Int} (hf : Inj S f) (hS : ∀ r ∈ S, hs n r = true ∧ hs b (f r) = true) (m : Int) (ys : List SRegOp) (l l' : List Int) (s : List SStep) (hy : ∀ y ∈ ys, y.f0 ∈ S ∧ y.f1 ∈ S ∧ y.f2 ∈ S) (h : Sm n b S f l l') (a : List Int) (t : List SStep) (e : opsGo n m ys l s = some (a, t)) : ∃ a', opsGo b m (ys.map (opF f)) l' s = some (a', t) ∧ Sm n b S f a a' := by
 induction ys generalizing l l' s with
 | nil =>
  simp only [opsGo] at e
  obtain ⟨rfl, rfl⟩ := Prod.mk.inj (Option.some.inj e)
  exact ⟨l', rfl, h⟩
 | cons y ys ih =>
  obtain ⟨y0, y1, y2⟩ := hy y (by simp)
  simp only [opsGo] at e
  split at e
  ·rename_i c
   obtain ⟨a', e', s'⟩ := ih _ _ _ (fun z hz => hy z (List.mem_cons_of_mem _ hz)) (h.set hf hS (v := m + (s.length : Int)) y0) e
   refine ⟨a', ?_, s'⟩
   simp only [List.map_cons, opsGo]
   show (if (hs b (f y.f0) = true ∧ hs b (f y.f1) = true ∧ hs b (f y.f2) = true) ∧ rg l' (f y.f1) ≠ -1 ∧ rg l' (f y.f2) ≠ -1 then opsGo b m (ys.map (opF f)) (l'.set (f y.f0).toNat (m + (s.length : Int))) (s ++ [⟨mn (rg l' (f y.f1)) (rg l' (f y.f2)), mx (rg l' (f y.f1)) (rg l' (f y.f2))⟩]) else none) = _
   rw [h.c _ y1, h.c _ y2, if_pos ⟨⟨(hS _ y0).2, (hS _ y1).2, (hS _ y2).2⟩, c.2⟩]
   exact e'
  ·cases e
theorem outs_sim {n b : Nat} {S : List Int} {f : Int → Int} (hS : ∀ r ∈ S, hs n r = true ∧ hs b (f r) = true) (ys l l' o : List Int) (hy : ∀ y ∈ ys, y ∈ S) (h : Sm n b S f l l') (a : List Int) (e : outsGo n l ys o = some a) : outsGo b l' (ys.map f) o = some a := by
 induction ys generalizing o with
 | nil => exact e
 | cons y ys ih =>
  have hyS := hy y (by simp)
  simp only [outsGo] at e
  split at e
  ·rename_i c
   simp only [List.map_cons, outsGo]
   rw [h.c y hyS, if_pos ⟨(hS y hyS).2, c.2⟩]
   exact ih _ (fun z hz => hy z (List.mem_cons_of_mem _ hz)) e
  ·cases e
theorem codeP_map {n : Nat} {l1 : List Int} {l2 : List SRegOp} {l3 : List Int} {s : List SStep} {o : List Int} (hok : CodeOk n l1 l2 l3) (hc : codeP (n : Int) l1 l2 l3 = some (s, o)) {f : Int → Int} {b : Nat} (hb : 1 ≤ b ∧ b ≤ 46) (hf : Inj (tops l2 l1) f) (hr : ∀ r ∈ tops l2 l1, 0 ≤ f r ∧ f r < (b : Int)) : codeP (b : Int) (l1.map f) (l2.map (opF f)) (l3.map f) = some (s, o) := by
 have hn := hok.reg
 have m1 : ∀ y ∈ l1, y ∈ tops l2 l1 := fun y hy => tops_mem.2 (.inl hy)
 have m2 : ∀ y ∈ l2, y.f0 ∈ tops l2 l1 ∧ y.f1 ∈ tops l2 l1 ∧ y.f2 ∈ tops l2 l1 := fun y hy => ⟨tops_mem.2 (.inr ⟨y, hy, .inr (.inr rfl)⟩), tops_mem.2 (.inr ⟨y, hy, .inl rfl⟩), tops_mem.2 (.inr ⟨y, hy, .inr (.inl rfl)⟩)⟩
 have m3 : ∀ y ∈ l3, y ∈ tops l2 l1 := fun y hy => by
  rcases hok.full y hy with g | ⟨q, hq, g⟩
  ·exact m1 y g
  ·rw [← g]; exact (m2 q hq).1
 have hS : ∀ r ∈ tops l2 l1, hs n r = true ∧ hs b (f r) = true := fun r h => by
  refine ⟨?_, hs_iff.2 (hr r h)⟩
  rcases tops_mem.1 h with g | ⟨y, hy, g⟩
  ·exact hok.ins r g
  ·have := hok.ops y hy
   rcases g with g | g | g <;> rw [g]
   ·exact this.2.1
   ·exact this.2.2
   ·exact this.1
 have r1 : regs (n : Int) = n := by have := regs_in (a := (n : Int)) (by omega); omega
 have r2 : regs (b : Int) = b := by have := regs_in (a := (b : Int)) (by omega); omega
 unfold codeP at hc ⊢
 split at hc
 ·rename_i c
  rw [if_pos ⟨by simpa using c.1, by omega⟩]
  cases hrd : rdGo (n : Int) l1 l2 l3 with
  | none => rw [hrd] at hc; cases hc
  | some p =>
   obtain ⟨s', o'⟩ := p
   rw [hrd] at hc
   have key : rdGo (b : Int) (l1.map f) (l2.map (opF f)) (l3.map f) = some (s', o') := by
    unfold rdGo at hrd ⊢
    rw [r1] at hrd
    rw [r2]
    have h0 : Sm n b (tops l2 l1) f (no n) (no b) := ⟨by simp [no], by simp [no], fun r h => by rw [no_rg (hS r h).1, no_rg (hS r h).2]⟩
    cases h1 : insGo n l1 (no n) 0 with
    | none => rw [h1] at hrd; cases hrd
    | some a1 =>
     obtain ⟨a1', e1, q1⟩ := ins_sim hf hS l1 _ _ 0 m1 h0 a1 h1
     rw [h1] at hrd
     rw [e1]
     simp only at hrd ⊢
     rw [List.length_map]
     cases h2 : opsGo n (l1.length : Int) l2 a1 [] with
     | none => rw [h2] at hrd; cases hrd
     | some a2 =>
      obtain ⟨a2, t2⟩ := a2
      obtain ⟨a2', e2, q2⟩ := ops_sim hf hS _ l2 _ _ [] m2 q1 a2 t2 h2
      rw [h2] at hrd
      rw [e2]
      simp only at hrd ⊢
      cases h3 : outsGo n a2 l3 [] with
      | none => rw [h3] at hrd; cases hrd
      | some a3 =>
       rw [h3] at hrd
       rw [outs_sim hS l3 _ _ [] m3 q2 a3 h3]
       exact hrd
   rw [key]
   simp only [List.length_map] at hc ⊢
   exact hc
 ·cases hc
theorem told_in {n : Nat} {l1 : List Int} {l2 : List SRegOp} {l3 : List Int} (hok : CodeOk n l1 l2 l3) : ∀ r ∈ tops l2 l1, 0 ≤ r ∧ r < (n : Int) := fun r h => by
 refine hs_iff.1 ?_
 rcases tops_mem.1 h with g | ⟨y, hy, g⟩
 ·exact hok.ins r g
 ·have := hok.ops y hy
  rcases g with g | g | g <;> rw [g]
  ·exact this.2.1
  ·exact this.2.2
  ·exact this.1
theorem told_nodup {n : Nat} {l1 : List Int} {l2 : List SRegOp} {l3 : List Int} (hok : CodeOk n l1 l2 l3) : (tops l2 l1).Nodup := by
 have hT := dst_tells [] l1 hok.dist
 rw [List.nil_append] at hT
 exact tops_nodup (by rw [← hT]; exact tells_nodup List.nodup_nil)
theorem nodup_leN : ∀ (n : Nat) (T : List Int), T.Nodup → (∀ x ∈ T, 0 ≤ x ∧ x < (n : Int)) → T.length ≤ n
 | 0, T, _, h => by
  cases T with
  | nil => simp
  | cons x t => have := h x (by simp); omega
 | n + 1, T, hn, h => by
  have ih := nodup_leN n (T.erase (n : Int)) (hn.erase _) (fun x hx => by
   have h1 := h x (List.mem_of_mem_erase hx)
   have h2 : x ≠ (n : Int) := fun e => by
    rw [e] at hx
    exact ((List.Nodup.mem_erase_iff hn).1 hx).1 rfl
   omega)
  by_cases c : (n : Int) ∈ T
  ·rw [List.length_erase_of_mem c] at ih
   omega
  ·rw [List.erase_of_not_mem c] at ih
   omega
theorem pkf_inj (l1 : List Int) (l2 : List SRegOp) : Inj (tops l2 l1) (pkf l1 l2) := fun x hx y hy e => by
 obtain ⟨p, e1, g1⟩ := pos_at hx
 obtain ⟨q, e2, g2⟩ := pos_at hy
 unfold pkf at e
 rw [e1, e2] at e
 obtain rfl : p = q := by omega
 rw [g1] at g2
 exact Option.some.inj g2
theorem pkf_in (l1 : List Int) (l2 : List SRegOp) : ∀ r ∈ tops l2 l1, 0 ≤ pkf l1 l2 r ∧ pkf l1 l2 r < ((tops l2 l1).length : Int) := fun r hr => by
 obtain ⟨p, e1, g1⟩ := pos_at hr
 have := (List.getElem?_eq_some_iff.1 g1).1
 unfold pkf
 rw [e1]
 omega
/-- Renamed code is packed alike. -/
theorem pkR_map {n : Nat} {l1 : List Int} {l2 : List SRegOp} {l3 : List Int} {s : List SStep} {o : List Int} (hok : CodeOk n l1 l2 l3) (hc : codeP (n : Int) l1 l2 l3 = some (s, o)) {f : Int → Int} {b : Nat} (hb : 1 ≤ b ∧ b ≤ 46) (hf : Inj (tops l2 l1) f) (hr : ∀ r ∈ tops l2 l1, 0 ≤ f r ∧ f r < (b : Int)) : pkR (b : Int) (l1.map f) (l2.map (opF f)) (l3.map f) = pkR (n : Int) l1 l2 l3 := by
 have m1 : ∀ y ∈ l1, y ∈ tops l2 l1 := fun y hy => tops_mem.2 (.inl hy)
 have m2 : ∀ y ∈ l2, y.f0 ∈ tops l2 l1 ∧ y.f1 ∈ tops l2 l1 ∧ y.f2 ∈ tops l2 l1 := fun y hy => ⟨tops_mem.2 (.inr ⟨y, hy, .inr (.inr rfl)⟩), tops_mem.2 (.inr ⟨y, hy, .inl rfl⟩), tops_mem.2 (.inr ⟨y, hy, .inr (.inl rfl)⟩)⟩
 have m3 : ∀ y ∈ l3, y ∈ tops l2 l1 := fun y hy => by
  rcases hok.full y hy with g | ⟨q, hq, g⟩
  ·exact m1 y g
  ·rw [← g]; exact (m2 q hq).1
 have hT : tops (l2.map (opF f)) (l1.map f) = (tops l2 l1).map f := tops_map hf l2 l1 m1 m2
 have hp : ∀ r ∈ tops l2 l1, pkf (l1.map f) (l2.map (opF f)) (f r) = pkf l1 l2 r := fun r h => by
  unfold pkf
  rw [hT]
  exact pos_map hf h _ (fun x hx => hx)
 unfold pkR
 rw [hc, codeP_map hok hc hb hf hr]
 simp only [hT, List.length_map, List.map_map]
 refine Prod.ext rfl (Prod.ext ?_ (Prod.ext ?_ (Prod.ext ?_ rfl)))
 ·exact List.map_congr_left fun y hy => hp y (m1 y hy)
 ·exact List.map_congr_left fun y hy => by
   show (⟨_, _, _⟩ : SRegOp) = ⟨_, _, _⟩
   have q := m2 y hy
   rw [← hp _ q.1, ← hp _ q.2.1, ← hp _ q.2.2]
   rfl
 ·exact List.map_congr_left fun y hy => hp y (m3 y hy)
theorem told_pos {n : Nat} {l1 : List Int} {l2 : List SRegOp} {l3 : List Int} (hok : CodeOk n l1 l2 l3) : 1 ≤ (tops l2 l1).length ∧ (tops l2 l1).length ≤ n := by
 refine ⟨?_, nodup_leN n _ (told_nodup hok) (told_in hok)⟩
 have h1 := hok.len1
 cases l1 with
 | nil => simp at h1
 | cons y t => exact List.length_pos_of_mem (tops_mem.2 (.inl List.mem_cons_self))
theorem rg_inj {n : Nat} {l : List Int} (h : IsO n l) : ∀ x y : Int, 0 ≤ x → x < (n : Int) → 0 ≤ y → y < (n : Int) → rg l x = rg l y → x = y := fun x y x0 x1 y0 y1 e => by
 obtain ⟨h1, _, h3⟩ := h
 unfold rg at e
 rw [List.getD_eq_getElem?_getD, List.getD_eq_getElem?_getD, List.getElem?_eq_getElem (by omega), List.getElem?_eq_getElem (by omega)] at e
 have q := List.pairwise_iff_getElem.1 h3
 have e' : l[x.toNat]'(by omega) = l[y.toNat]'(by omega) := by simpa using e
 rcases Nat.lt_trichotomy x.toNat y.toNat with c | c | c
 ·exact absurd e' (q _ _ _ _ c)
 ·omega
 ·exact absurd e'.symm (q _ _ _ _ c)
theorem rg_in {n : Nat} {l : List Int} (h : IsO n l) {x : Int} (x0 : 0 ≤ x) (x1 : x < (n : Int)) : 0 ≤ rg l x ∧ rg l x < (n : Int) := by
 obtain ⟨h1, h2, _⟩ := h
 refine h2 _ ?_
 unfold rg
 rw [List.getD_eq_getElem?_getD, List.getElem?_eq_getElem (by omega)]
 exact List.getElem_mem _
end Go.Proofs.YtnnlfipcoahcnaaGreatDoor.Pure
