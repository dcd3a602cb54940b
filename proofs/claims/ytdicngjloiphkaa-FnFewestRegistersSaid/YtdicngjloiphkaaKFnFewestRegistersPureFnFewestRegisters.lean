/- Pure: Porder, Preord, Preo, Pfew. -/
import Derived.Test.YtdicngjloiphkaaKFnFewestRegistersPreg
import Derived.Test.YtdicngjloiphkaaKFnFewestRegistersPiota
import Derived.Test.YtdicngjloiphkaaKFnFewestRegistersPsplit
import Derived.Test.YtdicngjloiphkaaKFnFewestRegistersPtrim
import Derived.Test.YtdicngjloiphkaaKFnFewestRegistersPpw
import Derived.Test.YtdicngjloiphkaaKFnFewestRegistersPordB
import Derived.Test.YtdicngjloiphkaaKFnFewestRegistersPlow
import Derived.Test.YtdicngjloiphkaaKFnFewestRegistersPdraw
set_option linter.unusedVariables false
set_option linter.unusedSimpArgs false
namespace Go.Proofs.Ytdicngjloiphkaa.Pure
open Go.RowKit Go.Proofs.Ytdicngjloiphkaa.E Go.Proofs.Ytdicngjloiphkaa.FW Go.Proofs.Ytdicngjloiphkaa.Frame Go.Proofs.YtdicngjloiphkaaW.PrintLast Go.Proofs.YtdicngjloiphkaaW.PrintMore
open Go.Proofs.YtdicngjloiphkaaW.PrintWords hiding mn mx
/-- Each of the first n numbers, once. -/
def IsO (n : Nat) (l : List Int) : Prop := l.length = n ∧ (∀ x ∈ l, 0 ≤ x ∧ x < (n : Int)) ∧ l.Nodup
instance (n : Nat) (l : List Int) : Decidable (IsO n l) := by unfold IsO; infer_instance
theorem iota_lt (n : Nat) : (iota n).Pairwise (· < ·) := by
  unfold iota
  rw [List.pairwise_map]
  exact List.Pairwise.imp (fun h => by omega) List.pairwise_lt_range
theorem iota_length (n : Nat) : (iota n).length = n := by simp [iota]
theorem rise_eq (L : List Int) (a : Int) (h : L.Pairwise (· < ·)) (hb : ∀ x ∈ L, a ≤ x ∧ x < a + (L.length : Int)) (M : List Int) (hM : M.Pairwise (· < ·)) (hl : L.length = M.length) (hb' : ∀ x ∈ M, a ≤ x ∧ x < a + (M.length : Int)) : L = M := by
  induction L generalizing a M with
  | nil => exact (List.length_eq_zero_iff.1 hl.symm).symm
  | cons x xs ih =>
    cases M with
    | nil => simp at hl
    | cons y ys =>
      obtain ⟨h1, h2⟩ := List.pairwise_cons.1 h
      obtain ⟨m1, m2⟩ := List.pairwise_cons.1 hM
      simp only [List.length_cons] at hl hb hb'
      have hx := hb x List.mem_cons_self
      have hy := hb' y List.mem_cons_self
      have e : xs = ys := by
        refine ih (a + 1) h2 (fun z hz => ?_) ys m2 (by omega) (fun z hz => ?_)
        · have := h1 z hz
          have := hb z (List.mem_cons_of_mem _ hz)
          omega
        · have := m1 z hz
          have := hb' z (List.mem_cons_of_mem _ hz)
          omega
      subst e
      congr 1
      cases xs with
      | nil => simp at hx hy; omega
      | cons z zs =>
        have hz : z = a + 1 := by
          -- the head of what rises through all of its room
          have key : ∀ (L : List Int) (b : Int), L.Pairwise (· < ·) → (∀ x ∈ L, b ≤ x ∧ x < b + (L.length : Int)) → ∀ w ws, L = w :: ws → w = b := by
            intro L
            induction L with
            | nil => intro b _ _ w ws e; cases e
            | cons p ps ih2 =>
              intro b hp hbb w ws e
              injection e with e1 e2
              subst e1 e2
              obtain ⟨p1, p2⟩ := List.pairwise_cons.1 hp
              simp only [List.length_cons] at hbb
              have hpb := hbb p List.mem_cons_self
              cases ps with
              | nil => simp at hpb; omega
              | cons q qs =>
                have := ih2 (b + 1) p2 (fun x hx => by
                  have := p1 x hx
                  have := hbb x (List.mem_cons_of_mem _ hx)
                  omega) q qs rfl
                have := p1 q List.mem_cons_self
                omega
          exact key (z :: zs) (a + 1) h2 (fun x hx => by
            have := h1 x hx
            have := hb x (List.mem_cons_of_mem _ hx)
            simp only [List.length_cons] at this ⊢
            omega) z zs rfl
        have := h1 z List.mem_cons_self
        have := m1 z List.mem_cons_self
        omega
theorem sorted_iff (n : Nat) (l : List Int) : (l.mergeSort fun x y => decide (x ≤ y)) = iota n ↔ IsO n l := by
  have hp := List.mergeSort_perm l (fun x y : Int => decide (x ≤ y))
  have hs := List.pairwise_mergeSort (le := fun x y : Int => decide (x ≤ y)) (fun a b c h1 h2 => by simp at *; omega) (fun a b => by simp; omega) l
  constructor
  · intro e
    rw [e] at hp
    refine ⟨by rw [← hp.length_eq, iota_length], fun x hx => iota_mem.1 (hp.mem_iff.2 hx), hp.nodup_iff.1 ?_⟩
    exact (iota_lt n).imp fun h => by omega
  · rintro ⟨h1, h2, h3⟩
    have hnd := hp.nodup_iff.2 h3
    generalize l.mergeSort (fun x y => decide (x ≤ y)) = L at hp hs hnd
    have hlen : L.length = n := by rw [hp.length_eq, h1]
    have hlt : L.Pairwise (· < ·) := by
      have := List.Pairwise.and hs hnd
      exact this.imp fun h => by
        have := of_decide_eq_true h.1
        have := h.2
        omega
    refine rise_eq L 0 hlt (fun x hx => ?_) (iota n) (iota_lt n) (by rw [hlen, iota_length]) (fun x hx => ?_)
    · have := h2 x (hp.mem_iff.1 hx)
      omega
    · have := iota_mem.1 hx
      rw [iota_length]
      omega
theorem eqInts_l0 (l m : List Int) (j : Nat) (h : j + l.length = m.length) : slices_Equal_int_int.l0 m l (j : Int) = some (if l = m.drop j then Sum.inr () else Sum.inl false) := by
  induction l generalizing j with
  | nil =>
    rw [List.drop_eq_nil_of_le (by simp at h; omega)]
    rfl
  | cons y ys ih =>
    simp only [List.length_cons] at h
    have hj : j < m.length := by omega
    simp only [slices_Equal_int_int.l0]
    rw [gt_nat hj, Option.bind_some, List.drop_eq_getElem_cons hj]
    by_cases c : y = m[j]
    · rw [if_neg (by simp [c]), show (j : Int) + 1 = ((j + 1 : Nat) : Int) by omega, ih (j + 1) (by omega)]
      by_cases d : ys = m.drop (j + 1)
      · rw [if_pos d, if_pos (by rw [c, d])]
      · rw [if_neg d, if_neg (fun e => d (List.cons.inj e).2)]
    · rw [if_pos c, if_neg (fun e => c (List.cons.inj e).1)]
theorem eqInts_eq (l m : List Int) : slices_Equal_int_int.f l m = some (decide (l = m)) := by
  unfold slices_Equal_int_int.f
  by_cases h : l.length = m.length
  · rw [if_neg (by omega)]
    have := eqInts_l0 l m 0 (by omega)
    rw [List.drop_zero, show ((0 : Nat) : Int) = 0 from rfl] at this
    rw [this]
    by_cases c : l = m
    · simp [c]
    · simp [c]
  · rw [if_pos (by omega)]
    have : ¬ l = m := fun e => h (by rw [e])
    simp [this]
theorem isOrder_eq (l : List Int) (n : Nat) (hn : n ≤ 1000) (hl : l.length ≤ 100000000) : impl_isOrder.f l (n : Int) = some (decide (IsO n l)) := by
  unfold impl_isOrder.f
  rw [if_pos hl, firsts_eq n hn, Option.bind_some, eqInts_eq, Option.bind_some]
  congr 1
  exact decide_eq_decide.2 (sorted_iff n l)
theorem idx_nd {l : List Int} (h : l.Nodup) {m : Nat} {v : Int} (hm : l[m]? = some v) (j : Int) : idx l v j = j + (m : Int) := by
  induction l generalizing m j with
  | nil => simp at hm
  | cons y ys ih =>
    obtain ⟨h1, h2⟩ := List.nodup_cons.1 h
    cases m with
    | zero =>
      obtain rfl : y = v := by simpa using hm
      simp [idx]
    | succ m =>
      have hm' : ys[m]? = some v := by simpa using hm
      have hv := List.mem_of_getElem? hm'
      simp only [idx]
      rw [if_neg (fun e : y = v => h1 (by rw [e]; exact hv)), ih h2 hm']
      omega
theorem IsO.perm {n : Nat} {l : List Int} (h : IsO n l) : l.Perm (iota n) := by
  have := (sorted_iff n l).2 h
  rw [← this]
  exact (List.mergeSort_perm l _).symm
theorem IsO.mem {n : Nat} {l : List Int} (h : IsO n l) {x : Int} (h0 : 0 ≤ x) (h1 : x < (n : Int)) : ∃ k : Nat, k < n ∧ l[k]? = some x := by
  have hx : x ∈ l := h.perm.mem_iff.2 (iota_mem.2 ⟨h0, h1⟩)
  obtain ⟨k, hk, rfl⟩ := List.getElem_of_mem hx
  exact ⟨k, by rw [← h.1]; exact hk, List.getElem?_eq_getElem hk⟩
theorem IsO.at {n : Nat} {l : List Int} (h : IsO n l) {k : Nat} (hk : k < n) : ∃ x : Nat, x < n ∧ l[k]? = some (x : Int) := by
  have hl : k < l.length := by rw [h.1]; exact hk
  have := h.2.1 l[k] (List.getElem_mem hl)
  refine ⟨l[k].toNat, by omega, ?_⟩
  rw [List.getElem?_eq_getElem hl, Int.toNat_of_nonneg this.1]
/-- A value's number in the other order. -/
def og (I : Nat) (l : List Int) (v : Int) : Int := if v < (I : Int) then v else (I : Int) + idx l (v - (I : Int)) 0
theorem og_low {I : Nat} {l : List Int} {v : Int} (h : v < (I : Int)) : og I l v = v := by unfold og; rw [if_pos h]
theorem og_at {n : Nat} {l : List Int} (h : IsO n l) (I : Nat) {k : Nat} {x : Int} (hk : l[k]? = some x) : og I l ((I : Int) + x) = (I : Int) + (k : Int) := by
  have := h.2.1 x (List.mem_of_getElem? hk)
  unfold og
  rw [if_neg (by omega), show (I : Int) + x - (I : Int) = x by omega, idx_nd h.2.2 hk]
  omega
theorem og_high {n : Nat} {l : List Int} (h : IsO n l) (I : Nat) {v : Int} (h0 : (I : Int) ≤ v) (h1 : v < ((I + n : Nat) : Int)) : ∃ k : Nat, k < n ∧ l[k]? = some (v - (I : Int)) ∧ og I l v = (I : Int) + (k : Int) := by
  obtain ⟨k, hk, e⟩ := h.mem (x := v - (I : Int)) (by omega) (by omega)
  have := og_at h I e
  rw [show (I : Int) + (v - (I : Int)) = v by omega] at this
  exact ⟨k, hk, e, this⟩
theorem og_in {n : Nat} {l : List Int} (h : IsO n l) (I : Nat) {v : Int} (h0 : 0 ≤ v) (h1 : v < ((I + n : Nat) : Int)) : 0 ≤ og I l v ∧ og I l v < ((I + n : Nat) : Int) := by
  by_cases c : v < (I : Int)
  · rw [og_low c]; omega
  · obtain ⟨k, hk, _, e⟩ := og_high h I (by omega) h1
    rw [e]; omega
theorem og_inj {n : Nat} {l : List Int} (h : IsO n l) (I : Nat) {v w : Int} (h1 : v < ((I + n : Nat) : Int)) (h2 : w < ((I + n : Nat) : Int)) (e : og I l v = og I l w) : v = w := by
  by_cases c : v < (I : Int)
  · by_cases d : w < (I : Int)
    · rwa [og_low c, og_low d] at e
    · obtain ⟨k, hk, _, e2⟩ := og_high h I (by omega) h2
      rw [og_low c, e2] at e
      omega
  · obtain ⟨k, hk, p1, e1⟩ := og_high h I (by omega) h1
    by_cases d : w < (I : Int)
    · rw [og_low d, e1] at e
      omega
    · obtain ⟨m, hm, p2, e2⟩ := og_high h I (by omega) h2
      rw [e1, e2] at e
      obtain rfl : k = m := by omega
      rw [p1] at p2
      have := Option.some.inj p2
      omega
theorem og_onto {n : Nat} {l : List Int} (h : IsO n l) (I : Nat) {w : Int} (h0 : 0 ≤ w) (h1 : w < ((I + n : Nat) : Int)) : ∃ v : Int, 0 ≤ v ∧ v < ((I + n : Nat) : Int) ∧ og I l v = w := by
  by_cases c : w < (I : Int)
  · exact ⟨w, h0, h1, og_low c⟩
  · obtain ⟨k, rfl⟩ : ∃ k : Nat, w = (I : Int) + (k : Int) := ⟨(w - (I : Int)).toNat, by omega⟩
    obtain ⟨x, hx, e⟩ := h.at (k := k) (by omega)
    exact ⟨(I : Int) + (x : Int), by omega, by omega, og_at h I e⟩
theorem og_lt {n : Nat} {l : List Int} (h : IsO n l) (I : Nat) {v : Int} (h1 : v < ((I + n : Nat) : Int)) (k : Nat) : og I l v < (I : Int) + (k : Int) ↔ v < (I : Int) ∨ v - (I : Int) ∈ l.take k := by
  by_cases c : v < (I : Int)
  · rw [og_low c]
    exact ⟨fun _ => .inl c, fun _ => by omega⟩
  · obtain ⟨m, hm, p, e⟩ := og_high h I (by omega) h1
    rw [e]
    constructor
    · intro hk
      refine .inr (List.mem_iff_getElem?.2 ⟨m, ?_⟩)
      rw [List.getElem?_take, if_pos (by omega), p]
    · rintro (hk | hk)
      · exact absurd hk c
      · obtain ⟨m', hm'⟩ := List.mem_iff_getElem?.1 hk
        rw [List.getElem?_take] at hm'
        split at hm'
        · rename_i q
          have := idx_nd h.2.2 p 0
          have := idx_nd h.2.2 hm' 0
          omega
        · cases hm'
/-- The steps in the other order. -/
def rSt (I : Nat) (l : List Int) (y : SStep) : SStep := ⟨mn (og I l y.f0) (og I l y.f1), mx (og I l y.f0) (og I l y.f1)⟩
def rS (I : Nat) (s : List SStep) (l : List Int) : List SStep := l.map fun i => rSt I l (s.getD i.toNat ⟨0, 0⟩)
def rO (I : Nat) (l : List Int) (o : List Int) : List Int := o.map (og I l)
theorem rS_len (I : Nat) (s : List SStep) (l : List Int) : (rS I s l).length = l.length := by simp [rS]
theorem rS_at {I : Nat} {s : List SStep} {l : List Int} {k x : Nat} {y : SStep} (hk : l[k]? = some (x : Int)) (hy : s[x]? = some y) : (rS I s l)[k]? = some (rSt I l y) := by
  unfold rS
  rw [List.getElem?_map, hk, Option.map_some, Int.toNat_natCast, List.getD_eq_getElem?_getD, hy]
  rfl
theorem Ok.of_at {n : Nat} {s : List SStep} (h : ∀ (m : Nat) (y : SStep), s[m]? = some y → 0 ≤ y.f0 ∧ y.f0 ≤ y.f1 ∧ y.f1 < ((n + m : Nat) : Int)) : Ok n s := by
  induction s generalizing n with
  | nil => trivial
  | cons y ys ih =>
    refine ⟨h 0 y rfl, ih fun m z hz => ?_⟩
    have := h (m + 1) z (by simpa using hz)
    rw [show n + 1 + m = n + (m + 1) by omega]
    exact this
theorem mnmx (a b : Int) : mn a b ≤ mx a b ∧ (mn a b = a ∧ mx a b = b ∨ mn a b = b ∧ mx a b = a) := by
  unfold mn mx
  split <;> split <;> omega
/-- What a step needs stands ahead of it. -/
def Nd (I : Nat) (s : List SStep) (l : List Int) : Prop := ∀ (k x : Nat) (y : SStep), l[k]? = some (x : Int) → s[x]? = some y → (y.f0 < (I : Int) ∨ y.f0 - (I : Int) ∈ l.take k) ∧ (y.f1 < (I : Int) ∨ y.f1 - (I : Int) ∈ l.take k)
theorem rS_ok {I : Nat} {s : List SStep} {l : List Int} (hs : Ok I s) (h : IsO s.length l) : Ok I (rS I s l) ↔ Nd I s l := by
  constructor
  · intro hr k x y hk hy
    have hxl := (List.getElem?_eq_some_iff.1 hy).1
    have q := hs.at hy
    have r := hr.at (rS_at hk hy)
    have m := mnmx (og I l y.f0) (og I l y.f1)
    unfold rSt at r
    simp only at r
    exact ⟨(og_lt h I (by omega) k).1 (by omega), (og_lt h I (by omega) k).1 (by omega)⟩
  · intro hn
    refine Ok.of_at fun k z hz => ?_
    have hkl : k < s.length := by
      have := (List.getElem?_eq_some_iff.1 hz).1
      rw [rS_len, h.1] at this
      exact this
    obtain ⟨x, hx, hk⟩ := h.at hkl
    have hy := List.getElem?_eq_getElem hx
    rw [rS_at hk hy] at hz
    obtain rfl := Option.some.inj hz
    have q := hs.at hy
    have m := mnmx (og I l s[x].f0) (og I l s[x].f1)
    obtain ⟨n0, n1⟩ := hn k x _ hk hy
    have i0 := og_in h I q.1 (by omega : s[x].f0 < ((I + s.length : Nat) : Int))
    have i1 := og_in h I (by omega : 0 ≤ s[x].f1) (by omega)
    have l0 := (og_lt h I (by omega) k).2 n0
    have l1 := (og_lt h I (by omega) k).2 n1
    unfold rSt
    simp only
    omega
/-! values of any kind -/
def vf (f : Int → Int → Int) : List SStep → List Int → List Int
  | [], l => l
  | y :: ys, l => vf f ys (l ++ [f (rg l y.f0) (rg l y.f1)])
theorem vf_add (s : List SStep) (l : List Int) : vf (· + ·) s l = vl s l := by
  induction s generalizing l with
  | nil => rfl
  | cons y ys ih => exact ih _
theorem vf_pre (f : Int → Int → Int) (s : List SStep) (l : List Int) {v : Int} (h0 : 0 ≤ v) (h1 : v < (l.length : Int)) : rg (vf f s l) v = rg l v := by
  induction s generalizing l with
  | nil => rfl
  | cons y ys ih => rw [vf, ih _ (by rw [List.length_append]; omega), rg_app h0 h1]
theorem vf_at (f : Int → Int → Int) {s : List SStep} {l : List Int} (h : Ok l.length s) {m : Nat} {y : SStep} (hm : s[m]? = some y) : rg (vf f s l) ((l.length + m : Nat) : Int) = f (rg (vf f s l) y.f0) (rg (vf f s l) y.f1) := by
  induction s generalizing l m with
  | nil => simp at hm
  | cons z s ih =>
    have h1 := h.1
    have h2 := h.2
    have hl : ∀ x : Int, (l ++ [x]).length = l.length + 1 := fun x => by rw [List.length_append, List.length_singleton]
    cases m with
    | zero =>
      obtain rfl : z = y := by simpa using hm
      rw [vf, vf_pre _ _ _ (by omega) (by rw [hl]; omega), vf_pre _ _ _ (by omega) (by rw [hl]; omega), vf_pre _ _ _ (by omega) (by rw [hl]; omega), rg_new (by omega), rg_app (by omega) (by omega), rg_app (by omega) (by omega)]
    | succ m =>
      rw [vf]
      have := ih (l := l ++ [f (rg l z.f0) (rg l z.f1)]) (by rw [hl]; exact h2) (m := m) (by simpa using hm)
      rw [hl, show l.length + 1 + m = l.length + (m + 1) by omega] at this
      exact this
/-- Values stay as they are under another order. -/
theorem rS_vf (f : Int → Int → Int) (hf : ∀ a b, f a b = f b a) {I : Nat} {s : List SStep} {l u : List Int} (hu : u.length = I) (hs : Ok I s) (h : IsO s.length l) (hr : Ok I (rS I s l)) (v : Int) (h0 : 0 ≤ v) (h1 : v < ((I + s.length : Nat) : Int)) : rg (vf f (rS I s l) u) (og I l v) = rg (vf f s u) v := by
  obtain ⟨n, hn⟩ : ∃ n, v.toNat = n := ⟨_, rfl⟩
  induction n using Nat.strongRecOn generalizing v with
  | _ n ih =>
    by_cases c : v < (I : Int)
    · rw [og_low c, vf_pre _ _ _ h0 (by omega), vf_pre _ _ _ h0 (by omega)]
    · obtain ⟨k, hk, p, e⟩ := og_high h I (by omega) h1
      obtain ⟨x, hx⟩ : ∃ x : Nat, v - (I : Int) = (x : Int) := ⟨(v - (I : Int)).toNat, by omega⟩
      have hxl : x < s.length := by omega
      have hy := List.getElem?_eq_getElem hxl
      rw [hx] at p
      have q := hs.at hy
      have a1 := vf_at f (l := u) (by rw [hu]; exact hs) hy
      have a2 := vf_at f (l := u) (by rw [hu]; exact hr) (rS_at p hy)
      rw [hu, show ((I + x : Nat) : Int) = v by omega] at a1
      rw [hu, show ((I + k : Nat) : Int) = og I l v by omega] at a2
      have e0 := ih s[x].f0.toNat (by omega) s[x].f0 (by omega) (by omega) rfl
      have e1 := ih s[x].f1.toNat (by omega) s[x].f1 (by omega) (by omega) rfl
      rw [a1, a2]
      unfold rSt
      simp only
      rcases (mnmx (og I l s[x].f0) (og I l s[x].f1)).2 with ⟨m1, m2⟩ | ⟨m1, m2⟩
      · rw [m1, m2, e0, e1]
      · rw [m1, m2, e0, e1, hf]
theorem rS_vl {I : Nat} {s : List SStep} {l u : List Int} (hu : u.length = I) (hs : Ok I s) (h : IsO s.length l) (hr : Ok I (rS I s l)) (v : Int) (h0 : 0 ≤ v) (h1 : v < ((I + s.length : Nat) : Int)) : rg (vl (rS I s l) u) (og I l v) = rg (vl s u) v := by
  rw [← vf_add, ← vf_add]
  exact rS_vf _ (fun a b => Int.add_comm a b) hu hs h hr v h0 h1
theorem rS_good {I : Nat} {s : List SStep} {o l : List Int} (h : Good I s o) (hl : IsO s.length l) : Good I (rS I s l) (rO I l o) ↔ Nd I s l := by
  constructor
  · intro hg
    exact (rS_ok h.ok hl).1 hg.ok
  · intro hn
    have hr := (rS_ok h.ok hl).2 hn
    have hlen : (rS I s l).length = s.length := by rw [rS_len, hl.1]
    refine ⟨h.inp, by rw [hlen]; exact h.stp, by unfold rO; rw [List.length_map]; exact h.out, hr, ?_, ?_⟩
    · intro y hy
      obtain ⟨v, hv, rfl⟩ := List.mem_map.1 hy
      have q := h.os v hv
      rw [hlen]
      exact og_in hl I q.1 q.2
    · intro j hj w w0 w1
      rw [hlen] at w1
      obtain ⟨v, v0, v1, rfl⟩ := og_onto hl I w0 w1
      rw [rS_vl (unitR_len I j) h.ok hl hr v v0 v1]
      exact h.le j hj v v0 v1
theorem apm_ok {xs : List Int} {n : Nat} (h : xs.length + n ≤ 1000000) : apm xs (n : Int) = some (xs ++ List.replicate n 0) := by
  unfold apm
  rw [if_pos (by omega), Int.toNat_natCast]
theorem reo_l0 {I n : Nat} {l : List Int} (h : IsO n l) (hI : I ≤ 1000) (hn : n ≤ 1000) : ∀ (d j : Nat) (L : List Int), j + d = n → L.length = I + n → (∀ v : Int, 0 ≤ v → v < (I : Int) → rg L v = v) → (∀ (m : Nat) (x : Int), m < j → l[m]? = some x → rg L ((I : Int) + x) = (I : Int) + (m : Int)) → ∃ L', impl_ReorderSteps.l0 (I : Int) (l.drop j) L (j : Int) = some L' ∧ L'.length = I + n ∧ ∀ v : Int, 0 ≤ v → v < ((I + n : Nat) : Int) → rg L' v = og I l v := by
  intro d
  induction d with
  | zero =>
    intro j L hj hL h1 h2
    refine ⟨L, ?_, hL, fun v v0 v1 => ?_⟩
    · rw [List.drop_of_length_le (by rw [h.1]; omega)]
      rfl
    · by_cases c : v < (I : Int)
      · rw [og_low c, h1 v v0 c]
      · obtain ⟨k, hk, p, e⟩ := og_high h I (by omega) v1
        have := h2 k _ (by omega) p
        rw [show (I : Int) + (v - (I : Int)) = v by omega] at this
        rw [e, this]
  | succ d ih =>
    intro j L hj hL h1 h2
    have hjl : j < l.length := by rw [h.1]; omega
    obtain ⟨x, hx, e⟩ := h.at (k := j) (by omega)
    have ex : l[j] = (x : Int) := by
      rw [List.getElem?_eq_getElem hjl] at e
      exact Option.some.inj e
    rw [List.drop_eq_getElem_cons hjl, ex]
    simp only [impl_ReorderSteps.l0]
    rw [w64_id (x := (I : Int) + (x : Int)) (by omega), rg_gt (by omega) (by omega), Option.bind_some, w64_id (by omega), rg_st (by omega) (by omega), Option.bind_some, show (j : Int) + 1 = ((j + 1 : Nat) : Int) by omega]
    refine ih (j + 1) _ (by omega) (by rw [List.length_set]; exact hL) ?_ ?_
    · intro v v0 v1
      rw [rg_set v0 (by omega) (by omega), if_neg (by omega)]
      exact h1 v v0 v1
    · intro m z hm hz
      have hzr := h.2.1 z (List.mem_of_getElem? hz)
      rw [rg_set (by omega) (by omega) (by omega)]
      by_cases c : m = j
      · subst c
        rw [e] at hz
        obtain rfl := Option.some.inj hz
        rw [if_pos rfl]
      · have a1 := idx_nd h.2.2 e 0
        have a2 := idx_nd h.2.2 hz 0
        rw [if_neg (fun q => by
          have : (x : Int) = z := by omega
          subst this
          omega)]
        exact h2 m z (by omega) hz
theorem reo_l1 {I : Nat} {s : List SStep} {l L : List Int} (hs : Ok I s) (hL : L.length = I + s.length) (hg : ∀ v : Int, 0 ≤ v → v < ((I + s.length : Nat) : Int) → rg L v = og I l v) (ys : List Int) (acc : List SStep) (j : Int) (hy : ∀ y ∈ ys, 0 ≤ y ∧ y < (s.length : Int)) (hb : acc.length + ys.length ≤ 100000) : impl_ReorderSteps.l1 s L ys acc j = some (acc ++ ys.map fun i => rSt I l (s.getD i.toNat ⟨0, 0⟩)) := by
  induction ys generalizing acc j with
  | nil => simp [impl_ReorderSteps.l1]
  | cons y ys ih =>
    obtain ⟨y0, y1⟩ := hy y List.mem_cons_self
    obtain ⟨m, rfl⟩ := Int.eq_ofNat_of_zero_le y0
    have hm : m < s.length := by omega
    simp only [List.length_cons] at hb
    have q := hs.at (List.getElem?_eq_getElem hm)
    simp only [impl_ReorderSteps.l1]
    rw [gt_nat hm, Option.bind_some, rg_gt q.1 (by omega), Option.bind_some, Option.bind_some, rg_gt (by omega) (by omega), Option.bind_some]
    unfold impl_step.f
    rw [Option.bind_some, ap_ok (by simp; omega), Option.bind_some, ih _ _ (fun z hz => hy z (List.mem_cons_of_mem _ hz)) (by rw [List.length_append, List.length_singleton]; omega), hg _ q.1 (by omega), hg _ (by omega) (by omega)]
    simp [rSt, hm]
/-! is it an order? -/
def gd1 (I : Nat) (s : List SStep) (p : List Int) (y : Int) : Bool :=
  decide (0 ≤ y ∧ y < (s.length : Int)) && (!decide (y ∈ p) && ((decide ((s.getD y.toNat ⟨0, 0⟩).f0 < (I : Int)) || decide ((s.getD y.toNat ⟨0, 0⟩).f0 - (I : Int) ∈ p)) && (decide ((s.getD y.toNat ⟨0, 0⟩).f1 < (I : Int)) || decide ((s.getD y.toNat ⟨0, 0⟩).f1 - (I : Int) ∈ p))))
def chk (I : Nat) (s : List SStep) : List Int → List Int → Bool
  | _, [] => true
  | p, y :: ys => gd1 I s p y && chk I s (p ++ [y]) ys
theorem chk_iff (I : Nat) (s : List SStep) (l : List Int) (ys p : List Int) (hl : l = p ++ ys) : chk I s p ys = true ↔ ∀ (k : Nat) (y : Int), p.length ≤ k → l[k]? = some y → gd1 I s (l.take k) y = true := by
  induction ys generalizing p with
  | nil =>
    refine ⟨fun _ k y hk hy => ?_, fun _ => rfl⟩
    have := (List.getElem?_eq_some_iff.1 hy).1
    rw [hl, List.append_nil] at this
    omega
  | cons y ys ih =>
    have hl' : l = (p ++ [y]) ++ ys := by rw [hl]; simp
    have e0 : l[p.length]? = some y := by rw [hl, List.getElem?_append_right (Nat.le_refl _), Nat.sub_self]; rfl
    have t0 : l.take p.length = p := by rw [hl, List.take_left]
    simp only [chk, Bool.and_eq_true]
    rw [ih (p ++ [y]) hl']
    constructor
    · rintro ⟨h1, h2⟩ k z hk hz
      by_cases c : k = p.length
      · subst c
        rw [e0] at hz
        obtain rfl := Option.some.inj hz
        rw [t0]
        exact h1
      · exact h2 k z (by rw [List.length_append, List.length_singleton]; omega) hz
    · intro h
      refine ⟨?_, fun k z hk hz => h k z (by rw [List.length_append] at hk; omega) hz⟩
      have := h p.length y (Nat.le_refl _) e0
      rwa [t0] at this
theorem chk_order {I : Nat} {s : List SStep} {l : List Int} (hs : Ok I s) (hl : l.length = s.length) : chk I s [] l = true ↔ IsO s.length l ∧ Nd I s l := by
  rw [chk_iff I s l l [] rfl]
  constructor
  · intro h
    have h' : ∀ (k : Nat) (y : Int), l[k]? = some y → gd1 I s (l.take k) y = true := fun k y hy => h k y (Nat.zero_le _) hy
    simp only [gd1, Bool.and_eq_true, Bool.or_eq_true, Bool.not_eq_true', decide_eq_true_eq, decide_eq_false_iff_not] at h'
    refine ⟨⟨hl, fun x hx => ?_, ?_⟩, ?_⟩
    · obtain ⟨k, hk⟩ := List.mem_iff_getElem?.1 hx
      exact (h' k x hk).1
    · refine List.pairwise_iff_getElem.2 fun i j hi hj hij e => ?_
      have := (h' j l[j] (List.getElem?_eq_getElem hj)).2.1
      refine this (List.mem_iff_getElem?.2 ⟨i, ?_⟩)
      rw [List.getElem?_take, if_pos hij, List.getElem?_eq_getElem hi, e]
    · intro k x y hk hy
      have := (h' k _ hk).2.2
      rw [Int.toNat_natCast, List.getD_eq_getElem?_getD, hy] at this
      exact this
  · rintro ⟨hO, hn⟩ k y _ hy
    have hr := hO.2.1 y (List.mem_of_getElem? hy)
    obtain ⟨x, rfl⟩ := Int.eq_ofNat_of_zero_le hr.1
    have hx := List.getElem?_eq_getElem (show x < s.length by omega)
    have hd := hn k x _ hy hx
    simp only [gd1, Bool.and_eq_true, Bool.or_eq_true, Bool.not_eq_true', decide_eq_true_eq, decide_eq_false_iff_not]
    refine ⟨hr, ?_, ?_⟩
    · intro hm
      obtain ⟨m, hm⟩ := List.mem_iff_getElem?.1 hm
      rw [List.getElem?_take] at hm
      split at hm
      · rename_i q
        have := idx_nd hO.2.2 hy 0
        have := idx_nd hO.2.2 hm 0
        omega
      · cases hm
    · rw [Int.toNat_natCast, List.getD_eq_getElem?_getD, hx]
      exact hd
/-! ReorderSteps -/
/-! counts and depths -/
def sqs (s : List SStep) : Int := ((s.countP fun y => decide (y.f0 = y.f1) : Nat) : Int)
def dmx (a b : Int) : Int := mx a b + 1
def dps (I : Nat) (s : List SStep) : List Int := vf dmx s (List.replicate I 0)
def mxo (L : List Int) (ys : List Int) (m : Int) : Int := ys.foldl (fun m y => mx m (rg L y)) m
theorem vals_count (M : Nat) (p : Int → Bool) : (vals M p).length = (iota M).countP p := by
  unfold vals iota
  rw [List.countP_eq_length_filter]
theorem og_perm {n : Nat} {l : List Int} (h : IsO n l) (I : Nat) : ((iota (I + n)).map (og I l)).Perm (iota (I + n)) := by
  refine IsO.perm (n := I + n) ⟨by rw [List.length_map, iota_length], fun x hx => ?_, ?_⟩
  · obtain ⟨v, hv, rfl⟩ := List.mem_map.1 hx
    have := iota_mem.1 hv
    exact og_in h I this.1 this.2
  · refine List.pairwise_map.2 (((iota_lt (I + n))).imp_of_mem fun {a b} ha hb hab e => ?_)
    have h1 := iota_mem.1 ha
    have h2 := iota_mem.1 hb
    have := og_inj h I h1.2 h2.2 e
    omega
theorem vals_og {n : Nat} {l : List Int} (h : IsO n l) (I : Nat) (p p' : Int → Bool) (e : ∀ v : Int, 0 ≤ v → v < ((I + n : Nat) : Int) → p' (og I l v) = p v) : (vals (I + n) p').length = (vals (I + n) p).length := by
  rw [vals_count, vals_count, ← (og_perm h I).countP_eq, List.countP_map]
  refine List.countP_congr fun v hv => ?_
  have := iota_mem.1 hv
  rw [Function.comp_apply, e v this.1 this.2]
theorem use_iff (ds : List Int) (ys : List SStep) (j v : Int) : use ds ys j v = true ↔ ∃ (k : Nat) (y : SStep), ys[k]? = some y ∧ j + (k : Int) ∉ ds ∧ (y.f0 = v ∨ y.f1 = v) := by
  induction ys generalizing j with
  | nil => simp [use]
  | cons y ys ih =>
    simp only [use, Bool.or_eq_true, Bool.and_eq_true, Bool.not_eq_true', decide_eq_true_eq, decide_eq_false_iff_not]
    rw [ih]
    constructor
    · rintro (⟨h1, h2⟩ | ⟨k, z, h1, h2, h3⟩)
      · exact ⟨0, y, rfl, by rw [show j + ((0 : Nat) : Int) = j by omega]; exact h1, h2⟩
      · exact ⟨k + 1, z, by simpa using h1, by rw [show j + ((k + 1 : Nat) : Int) = j + 1 + (k : Int) by omega]; exact h2, h3⟩
    · rintro ⟨k, z, h1, h2, h3⟩
      cases k with
      | zero =>
        obtain rfl : y = z := by simpa using h1
        rw [show j + ((0 : Nat) : Int) = j by omega] at h2
        exact .inl ⟨h2, h3⟩
      | succ k =>
        rw [show j + ((k + 1 : Nat) : Int) = j + 1 + (k : Int) by omega] at h2
        exact .inr ⟨k, z, by simpa using h1, h2, h3⟩
theorem take_iff {n : Nat} {l : List Int} (h : IsO n l) {x : Int} {k : Nat} (hk : l[k]? = some x) (j : Nat) : x ∈ l.take j ↔ k < j := by
  constructor
  · intro hx
    obtain ⟨m, hm⟩ := List.mem_iff_getElem?.1 hx
    rw [List.getElem?_take] at hm
    split at hm
    · have := idx_nd h.2.2 hk 0
      have := idx_nd h.2.2 hm 0
      omega
    · cases hm
  · intro c
    refine List.mem_iff_getElem?.2 ⟨k, ?_⟩
    rw [List.getElem?_take, if_pos c, hk]
theorem nd_og {I : Nat} {s : List SStep} {o l : List Int} (h : Good I s o) (hO : IsO s.length l) (j : Nat) {v : Int} (h0 : 0 ≤ v) (h1 : v < ((I + s.length : Nat) : Int)) : nd (I : Int) (rS I s l) (rO I l o) (iota j) (og I l v) = nd (I : Int) s o (l.take j) v := by
  refine Bool.eq_iff_iff.2 ?_
  have hi := og_in hO I h0 h1
  unfold nd
  simp only [Bool.or_eq_true, Bool.and_eq_true, decide_eq_true_eq, use_iff]
  have a1 : (og I l v < (I : Int) ∨ og I l v - (I : Int) ∈ iota j) ↔ (v < (I : Int) ∨ v - (I : Int) ∈ l.take j) := by
    rw [← og_lt hO I h1 j, iota_mem]
    omega
  have a2 : og I l v ∈ rO I l o ↔ v ∈ o := by
    unfold rO
    rw [List.mem_map]
    constructor
    · rintro ⟨u, hu, e⟩
      have := h.os u hu
      have := og_inj hO I (by omega) h1 e
      exact this ▸ hu
    · exact fun hv => ⟨v, hv, rfl⟩
  have a3 : (∃ (k : Nat) (y : SStep), (rS I s l)[k]? = some y ∧ (0 : Int) + (k : Int) ∉ iota j ∧ (y.f0 = og I l v ∨ y.f1 = og I l v)) ↔ ∃ (k : Nat) (y : SStep), s[k]? = some y ∧ (0 : Int) + (k : Int) ∉ l.take j ∧ (y.f0 = v ∨ y.f1 = v) := by
    constructor
    · rintro ⟨k, y', h2, h3, h4⟩
      have hk : k < s.length := by
        have := (List.getElem?_eq_some_iff.1 h2).1
        rw [rS_len, hO.1] at this
        exact this
      obtain ⟨x, hx, e⟩ := hO.at hk
      have hy := List.getElem?_eq_getElem hx
      rw [rS_at e hy] at h2
      obtain rfl := Option.some.inj h2
      have q := h.ok.at hy
      refine ⟨x, s[x], hy, ?_, ?_⟩
      · rw [Int.zero_add, take_iff hO e]
        intro c
        exact h3 (iota_mem.2 (by omega))
      · have m := mnmx (og I l s[x].f0) (og I l s[x].f1)
        unfold rSt at h4
        simp only at h4
        have : og I l s[x].f0 = og I l v ∨ og I l s[x].f1 = og I l v := by omega
        rcases this with e' | e'
        · exact .inl (og_inj hO I (by omega) h1 e')
        · exact .inr (og_inj hO I (by omega) h1 e')
    · rintro ⟨x, y, h2, h3, h4⟩
      have hx := (List.getElem?_eq_some_iff.1 h2).1
      obtain ⟨k, hk, e⟩ := hO.mem (x := (x : Int)) (by omega) (by omega)
      refine ⟨k, rSt I l y, rS_at e h2, ?_, ?_⟩
      · intro c
        have c' := iota_mem.1 c
        rw [Int.zero_add, take_iff hO e] at h3
        omega
      · have m := mnmx (og I l y.f0) (og I l y.f1)
        unfold rSt
        simp only
        rcases h4 with e' | e'
        · rw [e'] at m ⊢
          omega
        · rw [e'] at m ⊢
          omega
  rw [a1, a2, a3]
theorem hC_og {I : Nat} {s : List SStep} {o l : List Int} (h : Good I s o) (hO : IsO s.length l) (j : Nat) {k : Nat} {x : Int} (hk : l[k]? = some x) : hC I (rS I s l) (rO I l o) (iota j) (k : Int) = hC I s o (l.take j) x := by
  have hx := hO.2.1 x (List.mem_of_getElem? hk)
  have hkl := (List.getElem?_eq_some_iff.1 hk).1
  have hlen : (rS I s l).length = s.length := by rw [rS_len, hO.1]
  rw [hO.1] at hkl
  unfold hC
  rw [hlen, ← vals_one _ _ _ (by omega) (by omega), ← vals_one _ _ _ (by omega) (by omega)]
  congr 1
  refine vals_og hO I _ _ fun v v0 v1 => ?_
  have e := og_at hO I hk
  by_cases c : v = (I : Int) + x
  · subst c
    rw [if_pos e, if_pos rfl]
  · rw [if_neg (fun q => c (og_inj hO I v1 (by omega) (q.trans e.symm))), if_neg c]
    exact nd_og h hO j v0 v1
theorem prGo_og {I : Nat} {s : List SStep} {o l : List Int} (h : Good I s o) (hO : IsO s.length l) : ∀ (d j : Nat) (m : Int), j + d = s.length → prGo I (rS I s l) (rO I l o) (iota j) ((iota s.length).drop j) m = prGo I s o (l.take j) (l.drop j) m := by
  intro d
  induction d with
  | zero =>
    intro j m hj
    rw [List.drop_of_length_le (by rw [iota_length]; omega), List.drop_of_length_le (by rw [hO.1]; omega)]
    rfl
  | succ d ih =>
    intro j m hj
    have hjl : j < l.length := by rw [hO.1]; omega
    have hji : j < (iota s.length).length := by rw [iota_length]; omega
    have ei : (iota s.length)[j] = (j : Int) := by simp [iota]
    have et : l.take j ++ [l[j]] = l.take (j + 1) := by simp
    rw [List.drop_eq_getElem_cons hjl, List.drop_eq_getElem_cons hji, ei]
    unfold prGo
    rw [et, ← iota_succ, hC_og h hO (j + 1) (List.getElem?_eq_getElem hjl)]
    exact ih (j + 1) _ (by omega)
theorem press_og {I : Nat} {s : List SStep} {o l : List Int} (h : Good I s o) (hO : IsO s.length l) : press I (rS I s l) (rO I l o) (iota s.length) = press I s o l := by
  have := prGo_og h hO s.length 0 (I : Int) (by omega)
  rw [List.drop_zero, List.drop_zero, List.take_zero] at this
  exact this
/-! orders are orders -/
theorem chk_snoc (I : Nat) (s : List SStep) (ys p : List Int) (x : Int) : chk I s p (ys ++ [x]) = (chk I s p ys && gd1 I s (p ++ ys) x) := by
  induction ys generalizing p with
  | nil => simp [chk]
  | cons y ys ih =>
    simp only [List.cons_append, chk]
    rw [ih, List.append_assoc, List.singleton_append, Bool.and_assoc]
theorem ordsGo_ok {i : Int} {f : List Int → List (List Int)} {ds l : List Int} {ys : List SStep} {j : Int} (h : l ∈ ordsGo i f ds ys j) : ∃ (m : Nat) (y : SStep), ys[m]? = some y ∧ okB i ds y (j + (m : Int)) = true ∧ l ∈ f (ds ++ [j + (m : Int)]) := by
  induction ys generalizing j with
  | nil => cases h
  | cons y ys ih =>
    unfold ordsGo at h
    rcases List.mem_append.1 h with h | h
    · by_cases c : okB i ds y j = true
      · rw [if_pos c] at h
        exact ⟨0, y, rfl, by rw [show j + ((0 : Nat) : Int) = j by omega]; exact c, by rw [show j + ((0 : Nat) : Int) = j by omega]; exact h⟩
      · rw [if_neg c] at h
        cases h
    · obtain ⟨m, z, h1, h2, h3⟩ := ih h
      have e : j + 1 + (m : Int) = j + ((m + 1 : Nat) : Int) := by omega
      rw [e] at h2 h3
      exact ⟨m + 1, z, by simpa using h1, h2, h3⟩
theorem ords_chk {I : Nat} {s : List SStep} (d : Nat) (ds : List Int) (hc : chk I s [] ds = true) {l : List Int} (h : l ∈ ords (I : Int) s d ds) : chk I s [] l = true := by
  induction d generalizing ds with
  | zero =>
    rw [List.mem_singleton.1 h]
    exact hc
  | succ d ih =>
    obtain ⟨m, y, h1, h2, h3⟩ := ordsGo_ok h
    refine ih _ ?_ h3
    have hm := (List.getElem?_eq_some_iff.1 h1).1
    rw [Int.zero_add] at h2 ⊢
    rw [chk_snoc, hc, Bool.true_and, List.nil_append]
    unfold gd1
    rw [Int.toNat_natCast, List.getD_eq_getElem?_getD, h1, decide_eq_true (by omega), Bool.true_and]
    exact h2
theorem iota_ords {I : Nat} {s : List SStep} {o : List Int} (h : Form I s o) (d j : Nat) (hd : j + d = s.length) : iota s.length ∈ ords (I : Int) s d (iota j) := by
  induction d generalizing j with
  | zero =>
    rw [show s.length = j by omega]
    exact List.mem_singleton.2 rfl
  | succ d ih =>
    have hl : j < s.length := by omega
    have hy : s[j]? = some s[j] := List.getElem?_eq_getElem hl
    have hst := h.step hy
    have hm := ih (j + 1) (by omega)
    rw [iota_succ] at hm
    have : iota s.length ∈ ordsGo (I : Int) (ords (I : Int) s d) (iota j) s ((0 : Nat) : Int) := by
      refine ordsGo_at s 0 j s[j] hy ?_ ?_
      · rw [Nat.zero_add]
        unfold okB
        have c1 : (j : Int) ∉ iota j := fun q => by have := iota_mem.1 q; omega
        have c2 : (decide (s[j].f0 < (I : Int)) || decide (s[j].f0 - (I : Int) ∈ iota j)) = true := by
          by_cases c : s[j].f0 < (I : Int)
          · simp [c]
          · rw [decide_eq_true (show s[j].f0 - (I : Int) ∈ iota j from iota_mem.2 (by omega)), Bool.or_true]
        have c3 : (decide (s[j].f1 < (I : Int)) || decide (s[j].f1 - (I : Int) ∈ iota j)) = true := by
          by_cases c : s[j].f1 < (I : Int)
          · simp [c]
          · rw [decide_eq_true (show s[j].f1 - (I : Int) ∈ iota j from iota_mem.2 (by omega)), Bool.or_true]
        rw [c2, c3, decide_eq_false c1]
        rfl
      · rw [Nat.zero_add]
        exact hm
    exact this
theorem foldB_min (I : Nat) (s : List SStep) (o : List Int) (ls : List (List Int)) (z : List Int × Int) : (ls.foldl (stepB I s o) z).2 ≤ z.2 ∧ (∀ l ∈ ls, (ls.foldl (stepB I s o) z).2 ≤ press I s o l) ∧ (ls.foldl (stepB I s o) z = z ∨ ((ls.foldl (stepB I s o) z).1 ∈ ls ∧ (ls.foldl (stepB I s o) z).2 = press I s o (ls.foldl (stepB I s o) z).1)) := by
  induction ls generalizing z with
  | nil => exact ⟨Int.le_refl _, fun l hl => by (cases hl), .inl rfl⟩
  | cons q ls ih =>
    rw [List.foldl_cons]
    obtain ⟨h1, h2, h3⟩ := ih (stepB I s o z q)
    have hz : (stepB I s o z q).2 ≤ z.2 ∧ (stepB I s o z q).2 ≤ press I s o q ∧ (stepB I s o z q = z ∨ stepB I s o z q = (q, press I s o q)) := by
      unfold stepB
      by_cases c : press I s o q < z.2
      · rw [if_pos c]
        exact ⟨by simp only; omega, Int.le_refl _, .inr rfl⟩
      · rw [if_neg c]
        exact ⟨Int.le_refl _, by omega, .inl rfl⟩
    refine ⟨by omega, fun l hl => ?_, ?_⟩
    · rcases List.mem_cons.1 hl with e | hl
      · subst e
        omega
      · exact h2 l hl
    · rcases h3 with h3 | ⟨h3, h4⟩
      · rw [h3]
        rcases hz.2.2 with e | e
        · exact .inl e
        · rw [e]
          exact .inr ⟨List.mem_cons_self, rfl⟩
      · exact .inr ⟨List.mem_cons_of_mem _ h3, h4⟩
theorem best_is {I : Nat} {s : List SStep} {o : List Int} (h : Form I s o) (h8 : s.length ≤ 8) : ∃ b n, Ev (fun k => spec_reBest.f k (I : Int) s o) (b, n) ∧ Ev (fun k => impl_Plan_best.f k (I : Int) s o) (b, n) ∧ b ∈ ords (I : Int) s s.length [] ∧ n = press I s o b ∧ (∀ l ∈ ords (I : Int) s s.length [], n ≤ press I s o l) ∧ n ≤ 46 := by
  have hi := h.inp
  have hm : ∀ l ∈ ords (I : Int) s s.length [], l.length = s.length ∧ ∀ y ∈ l, 0 ≤ y ∧ y < (s.length : Int) := fun l hl => by
    have := ords_mem (fun y hy => by cases hy) hl
    exact ⟨by rw [this.1]; simp, this.2⟩
  have hin : iota s.length ∈ ords (I : Int) s s.length [] := iota_ords h s.length 0 (by omega)
  have hne : ords (I : Int) s s.length [] ≠ [] := List.ne_nil_of_mem hin
  have hp : ∀ l ∈ ords (I : Int) s s.length [], 0 ≤ press I s o l ∧ press I s o l ≤ 46 := fun l hl => prGo_le h h8 [] l _ (by omega)
  obtain ⟨f1, f2, f3⟩ := foldB_min I s o (ords (I : Int) s s.length []) ([], 47)
  have hlt := f2 _ hin
  have h46 := (hp _ hin).2
  have f3' := f3.resolve_left fun e => by
    rw [e] at hlt
    simp only at hlt
    omega
  refine ⟨((ords (I : Int) s s.length []).foldl (stepB I s o) ([], 47)).1, ((ords (I : Int) s s.length []).foldl (stepB I s o) ([], 47)).2, ?_, ?_, f3'.1, f3'.2, f2, by omega⟩
  · unfold spec_reBest.f
    exact bind (reOrders_ev h h8 s.length [] (by simp)) (bind (spec_foldB h _ (fun l hl => ⟨by rw [(hm l hl).1]; omega, (hm l hl).2⟩) [] 0 47) (ret _))
  · unfold impl_Plan_best.f
    have := ordersB_ev h s.length [] (-1) [] (by simp) (fun y hy => by cases hy)
    rw [fold_first I s o _ hne hp] at this
    exact bind this (ret _)
theorem press_ge {I : Nat} {s : List SStep} {o : List Int} (l : List Int) : (I : Int) ≤ press I s o l := by
  have key : ∀ (l p : List Int) (m : Int), m ≤ prGo I s o p l m := by
    intro l
    induction l with
    | nil => exact fun p m => Int.le_refl _
    | cons y ys ih =>
      intro p m
      have := ih (p ++ [y]) (mx m (hC I s o (p ++ [y]) y))
      have := mnmx m (hC I s o (p ++ [y]) y)
      unfold prGo
      omega
  exact key l [] (I : Int)
theorem within_ev {I : Nat} {s : List SStep} {o : List Int} (h : Form I s o) (h8 : s.length ≤ 8) (r : Int) : Ev (fun k => impl_Plan_within.f k (I : Int) s o r) (cnt I s o r : Int) := by
  have hlen := ords_len (I : Int) s s.length []
  have hpow := pow_small h8 h8
  have hc := fold_cnt I s o r (ords (I : Int) s s.length []) 0 (by omega)
  have e := ordersW_ev h r s.length [] 0 (by simp) (fun y hy => by cases hy)
  rw [show (0 : Int) = ((0 : Nat) : Int) from rfl, hc, Nat.zero_add] at e
  unfold impl_Plan_within.f
  exact bind e (ret _)
theorem cnt_pos {I : Nat} {s : List SStep} {o : List Int} {r : Int} {l : List Int} (hl : l ∈ ords (I : Int) s s.length []) (h : press I s o l ≤ r) : 0 < cnt I s o r := by
  unfold cnt
  exact List.length_pos_of_mem (List.mem_filter.2 ⟨hl, decide_eq_true h⟩)
theorem cnt_zero {I : Nat} {s : List SStep} {o : List Int} {r : Int} (h : ∀ l ∈ ords (I : Int) s s.length [], r < press I s o l) : cnt I s o r = 0 := by
  unfold cnt
  rw [List.length_eq_zero_iff, List.filter_eq_nil_iff]
  intro l hl
  have := h l hl
  rw [decide_eq_false (by omega)]
  simp
theorem reo_yesI {I : Nat} {s : List SStep} {o l : List Int} (h : Good I s o) (hO : IsO s.length l) (hn : Nd I s l) : Ev (fun k => impl_ReorderSteps.f k (I : Int) s o l) ((I : Int), rS I s l, rO I l o, true) := by
  have h1 := h.inp
  have h2 := h.stp
  have h3 := h.out
  have p2 := isPlan_ev (I : Int) s o
  rw [good_iff.2 h] at p2
  unfold impl_ReorderSteps.f
  refine bind (bind p2 (pos rfl (bind0 (isOrder_eq l s.length (by omega) (by have := hO.1; omega)) (ret _)))) ?_
  rw [decide_eq_true hO]
  refine neg (by simp) ?_
  obtain ⟨L, e1, e2, e3⟩ := reo_l0 (I := I) hO (by omega) (by omega) s.length 0 (iota I ++ List.replicate s.length 0) (by omega) (by simp [iota_length]) (fun v v0 v1 => by
    have hi : ((iota I).length : Int) = (I : Int) := by rw [iota_length]
    rw [rg_app v0 (by omega)]
    obtain ⟨u, rfl⟩ := Int.eq_ofNat_of_zero_le v0
    rw [rg_nat (by rw [iota_length]; omega)]
    simp [iota]) (fun m x hm => absurd hm (Nat.not_lt_zero _))
  rw [List.drop_zero, show ((0 : Nat) : Int) = 0 from rfl] at e1
  have hren : impl_renamed.f o L = some (rO I l o) := by
    rw [ren_eq L o (fun y hy => by have := h.os y hy; omega) (by omega)]
    congr 1
    unfold rO
    exact List.map_congr_left fun y hy => by have := h.os y hy; exact e3 y (by omega) (by omega)
  have hst := reo_l1 (l := l) h.ok e2 e3 l [] 0 (fun y hy => hO.2.1 y hy) (by have := hO.1; simp; omega)
  rw [List.nil_append] at hst
  refine bind0 (firsts_eq I (by omega)) (bind0 (apm_ok (by rw [iota_length]; omega)) (bind0 e1 (bind (bind0 hren (ret _)) (bind0 hst (bind (told_ev _ _ _) ?_)))))
  have e : toldP (I : Int) (rS I s l) (rO I l o) = ((I : Int), rS I s l, rO I l o, true) := by
    unfold toldP
    rw [if_pos (good_iff.2 ((rS_good h hO).2 hn))]
  show Ev (fun _ => some (toldP (I : Int) (rS I s l) (rO I l o))) _
  rw [e]
  exact ret _
theorem pressureOf_ev {I : Nat} {s : List SStep} {o : List Int} (h : Good I s o) : Ev (fun k => impl_PressureOf.f k (I : Int) s o) (press I s o (iota s.length), true) := by
  have p2 := isPlan_ev (I : Int) s o
  have h2 := h.stp
  rw [good_iff.2 h] at p2
  unfold impl_PressureOf.f
  exact bind p2 (pos rfl (bind0 (firsts_eq s.length (by omega)) (bind0 (pressure_eq h.form _ fun y hy => iota_mem.1 hy) (ret _))))
theorem drawFew {c : List Int} (hc : Bytes c) (hl : c.length ≤ 1048576) : ∃ i s o, Ev (fun k => spec_DrawBestOrder.f k c) (i, s, o) := by
  have fin : (∃ i s o a' sd', Ev (fun k => spec_l1Cur_few.f k c 0 0) (i, s, o, a', sd')) → ∃ i s o, Ev (fun k => spec_DrawBestOrder.f k c) (i, s, o) := by
    rintro ⟨i, s, o, a', sd', e⟩
    refine ⟨i, s, o, ?_⟩
    unfold spec_DrawBestOrder.f spec_DrawCountOrders.f
    exact bind (bind e (ret _)) (ret _)
  refine fin ?_
  obtain ⟨b, a1, s1, e1, b1⟩ := one_ev hc hl (a := 0) (m := 1000) ⟨by omega, by omega⟩ 0 15
  unfold spec_l1Cur_few.f
  cases b with
  | true =>
    obtain ⟨y, a2, s2, e2, hy, b2⟩ := drawInputs hc hl (m := 999) b1 s1
    obtain ⟨i, s, o, a3, s3, e3, ls, lo, b3⟩ := drawAny hc hl a2 s2 y 12 (by omega) 1 (b2.le (by omega))
    exact ⟨i, s, o, a3, s3, bind0 e1 (pos rfl (bind0 e2 (bind e3 (ret _))))⟩
  | false =>
    obtain ⟨y, a2, s2, e2, hy, b2⟩ := among_ev hc hl (m := 999) b1 s1 [1, 2, 2, 3] (by simp)
    obtain ⟨z, a3, s3, e3, hz, b3⟩ := among_ev hc hl (m := 998) b2 s2 [3, 5, 6, 7] (by simp)
    simp only [List.mem_cons, List.not_mem_nil, or_false] at hz
    obtain ⟨i, s, o, a4, s4, e4, ls, lo, b4⟩ := drawAny hc hl a3 s3 y z (by omega) 1 (b3.le (by omega))
    exact ⟨i, s, o, a4, s4, bind0 e1 (neg (by simp) (bind0 e2 (bind0 e3 (bind e4 (ret _)))))⟩
theorem FnFewestRegisters : laws_FnFewestRegisters.Pure := by
  intro l0 l1 hl0 hb0 hl1 hb1
  refine some_of ?_
  unfold laws_FnFewestRegisters.f
  obtain ⟨b, e0, hb⟩ := big_eq l0 l1 hl0 hl1
  refine bind0 e0 ?_
  cases b with
  | true => exact pos rfl (ret _)
  | false =>
    refine neg (by simp) ?_
    obtain ⟨i, s, o, e1⟩ := drawFew (byte_in hb0) (hb rfl).1
    refine bind e1 ?_
    have r1 := few_ev i s o
    have r2 := orderable_ev i s o
    cases hg : (good i s o && decide (s.length ≤ 8)) with
    | false =>
      rw [hg] at r1 r2
      have d1 : Ev (fun k => impl_BestOrder.f k i s o) ([], false) := by
        unfold impl_BestOrder.f
        exact bind r2 (neg (by simp) (ret _))
      have d2 : Ev (fun k => spec_BestOrder.f k i s o) ([], false) := by
        unfold spec_BestOrder.f
        exact bind r1 (neg (by simp) (ret _))
      have d3 : Ev (fun k => impl_FewestRegisters.f k i s o) (0, false) := by
        unfold impl_FewestRegisters.f
        exact bind r2 (neg (by simp) (ret _))
      have d4 : Ev (fun k => impl_CountOrders.f k i s o) (0, false) := by
        unfold impl_CountOrders.f
        exact bind r2 (neg (by simp) (ret _))
      exact bind d1 (bind d2 (neg (by simp) (bind0 (rSame_refl _) (pos rfl (neg (by simp) (bind d3 (bind d4 (neg (by simp) (ret _)))))))))
    | true =>
      obtain ⟨I, rfl, hf, h8⟩ := few_form hg
      rw [hg] at r1 r2
      have h := good_iff.1 (Bool.and_eq_true _ _ ▸ hg).1
      have g1 := h.inp
      obtain ⟨b, n, b1, b2, b3, b4, b5, b6⟩ := best_is hf h8
      have hbl := ords_mem (fun y hy => by cases hy) b3
      rw [List.length_nil, Nat.zero_add] at hbl
      obtain ⟨hO, hn⟩ := (chk_order h.ok hbl.1).1 (ords_chk s.length [] rfl b3)
      have hin : iota s.length ∈ ords (I : Int) s s.length [] := iota_ords hf s.length 0 (by omega)
      have hge := press_ge (I := I) (s := s) (o := o) b
      have hr := (rS_good h hO).2 hn
      have hlen : (rS I s b).length = s.length := by rw [rS_len, hO.1]
      have d1 : Ev (fun k => impl_BestOrder.f k (I : Int) s o) (b, true) := by
        unfold impl_BestOrder.f
        exact bind r2 (pos rfl (bind b2 (ret _)))
      have d2 : Ev (fun k => spec_BestOrder.f k (I : Int) s o) (b, true) := by
        unfold spec_BestOrder.f
        exact bind r1 (pos rfl (bind b1 (ret _)))
      have d3 : Ev (fun k => impl_FewestRegisters.f k (I : Int) s o) (n, true) := by
        unfold impl_FewestRegisters.f
        exact bind r2 (pos rfl (bind b2 (ret _)))
      have d4 := pressureOf_ev hr
      rw [hlen, press_og h hO, ← b4] at d4
      have d5 := pressureOf_ev h
      have d6 : Ev (fun k => impl_CountOrders.f k (I : Int) s o) ((cnt I s o 46 : Int), true) := by
        unfold impl_CountOrders.f
        exact bind r2 (pos rfl (bind (within_ev hf h8 46) (ret _)))
      have d7 : ∀ r : Int, 0 ≤ r → r ≤ 46 → Ev (fun k => impl_OrdersWithin.f k (I : Int) s o r) ((cnt I s o r : Int), true) := fun r q0 q1 => by
        have l2 := in_eq r 0 46
        rw [decide_eq_true ⟨q0, q1⟩] at l2
        unfold impl_OrdersWithin.f
        exact bind r2 (pos rfl (bind0 l2 (pos rfl (bind (within_ev hf h8 r) (ret _)))))
      have z := cnt_zero (I := I) (s := s) (o := o) (r := n - 1) fun l hl => by have := b5 l hl; omega
      have d8 := d7 (n - 1) (by omega) (by omega)
      rw [z] at d8
      have p1 := cnt_pos (o := o) (r := n) b3 (by omega)
      have p2 := cnt_pos (o := o) (r := 46) b3 (by omega)
      refine bind d1 (bind d2 (neg (by simp) (bind0 (rSame_refl _) (pos rfl (pos rfl ?_)))))
      refine bind d3 (bind (reo_yesI h hO hn) (bind d4 (bind d5 (bind d6 (bind (d7 46 (by omega) (by omega)) (bind (d7 n (by omega) b6) ?_))))))
      rw [w64_id (x := n - 1) (by omega)]
      refine bind d8 (pos rfl (pos rfl (pos rfl (pos rfl (pos rfl (pos rfl (pos rfl (pos rfl (pos rfl (pos (b5 _ hin) (pos rfl (pos (by omega) (pos rfl ?_)))))))))))))
      rw [decide_eq_true (by omega)]
      exact ret _
end Go.Proofs.Ytdicngjloiphkaa.Pure
