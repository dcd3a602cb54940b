/- Pure: a plan whose steps stand in another order. -/
import Derived.Test.YtoegbcbdiggbjaaKFnReorderedPlansPsplit
import Derived.Test.YtoegbcbdiggbjaaKFnReorderedPlansPtrim
import Derived.Test.YtoegbcbdiggbjaaKFnReorderedPlansPorder
set_option linter.unusedVariables false
set_option linter.unusedSimpArgs false
namespace Go.Proofs.Ytoegbcbdiggbjaa.Pure
open Go.RowKit Go.Proofs.Ytoegbcbdiggbjaa.E Go.Proofs.Ytoegbcbdiggbjaa.RO Go.Proofs.Ytoegbcbdiggbjaa.Frame Go.Proofs.YtoegbcbdiggbjaaW.PrintLast Go.Proofs.YtoegbcbdiggbjaaW.PrintMore
open Go.Proofs.YtoegbcbdiggbjaaW.PrintWords hiding mn mx
theorem idx_nd {l : List Int} (h : l.Nodup) {m : Nat} {v : Int} (hm : l[m]? = some v) (j : Int) : idx l v j = j + (m : Int) := by
  induction l generalizing m j with
  | nil => simp at hm
  | cons y ys ih =>
    obtain ⟨h1, h2⟩ := List.nodup_cons.1 h
    cases m with
    | zero =>
      obtain rfl : y = v := by simpa using hm
      simp [idx]
    | succ m =>
      have hm' : ys[m]? = some v := by simpa using hm
      have hv := List.mem_of_getElem? hm'
      simp only [idx]
      rw [if_neg (fun e : y = v => h1 (by rw [e]; exact hv)), ih h2 hm']
      omega
theorem IsO.perm {n : Nat} {l : List Int} (h : IsO n l) : l.Perm (iota n) := by
  have := (sorted_iff n l).2 h
  rw [← this]
  exact (List.mergeSort_perm l _).symm
theorem IsO.mem {n : Nat} {l : List Int} (h : IsO n l) {x : Int} (h0 : 0 ≤ x) (h1 : x < (n : Int)) : ∃ k : Nat, k < n ∧ l[k]? = some x := by
  have hx : x ∈ l := h.perm.mem_iff.2 (iota_mem.2 ⟨h0, h1⟩)
  obtain ⟨k, hk, rfl⟩ := List.getElem_of_mem hx
  exact ⟨k, by rw [← h.1]; exact hk, List.getElem?_eq_getElem hk⟩
theorem IsO.at {n : Nat} {l : List Int} (h : IsO n l) {k : Nat} (hk : k < n) : ∃ x : Nat, x < n ∧ l[k]? = some (x : Int) := by
  have hl : k < l.length := by rw [h.1]; exact hk
  have := h.2.1 l[k] (List.getElem_mem hl)
  refine ⟨l[k].toNat, by omega, ?_⟩
  rw [List.getElem?_eq_getElem hl, Int.toNat_of_nonneg this.1]
/-- A value's number in the other order. -/
def og (I : Nat) (l : List Int) (v : Int) : Int := if v < (I : Int) then v else (I : Int) + idx l (v - (I : Int)) 0
theorem og_low {I : Nat} {l : List Int} {v : Int} (h : v < (I : Int)) : og I l v = v := by unfold og; rw [if_pos h]
theorem og_at {n : Nat} {l : List Int} (h : IsO n l) (I : Nat) {k : Nat} {x : Int} (hk : l[k]? = some x) : og I l ((I : Int) + x) = (I : Int) + (k : Int) := by
  have := h.2.1 x (List.mem_of_getElem? hk)
  unfold og
  rw [if_neg (by omega), show (I : Int) + x - (I : Int) = x by omega, idx_nd h.2.2 hk]
  omega
theorem og_high {n : Nat} {l : List Int} (h : IsO n l) (I : Nat) {v : Int} (h0 : (I : Int) ≤ v) (h1 : v < ((I + n : Nat) : Int)) : ∃ k : Nat, k < n ∧ l[k]? = some (v - (I : Int)) ∧ og I l v = (I : Int) + (k : Int) := by
  obtain ⟨k, hk, e⟩ := h.mem (x := v - (I : Int)) (by omega) (by omega)
  have := og_at h I e
  rw [show (I : Int) + (v - (I : Int)) = v by omega] at this
  exact ⟨k, hk, e, this⟩
theorem og_in {n : Nat} {l : List Int} (h : IsO n l) (I : Nat) {v : Int} (h0 : 0 ≤ v) (h1 : v < ((I + n : Nat) : Int)) : 0 ≤ og I l v ∧ og I l v < ((I + n : Nat) : Int) := by
  by_cases c : v < (I : Int)
  · rw [og_low c]; omega
  · obtain ⟨k, hk, _, e⟩ := og_high h I (by omega) h1
    rw [e]; omega
theorem og_inj {n : Nat} {l : List Int} (h : IsO n l) (I : Nat) {v w : Int} (h1 : v < ((I + n : Nat) : Int)) (h2 : w < ((I + n : Nat) : Int)) (e : og I l v = og I l w) : v = w := by
  by_cases c : v < (I : Int)
  · by_cases d : w < (I : Int)
    · rwa [og_low c, og_low d] at e
    · obtain ⟨k, hk, _, e2⟩ := og_high h I (by omega) h2
      rw [og_low c, e2] at e
      omega
  · obtain ⟨k, hk, p1, e1⟩ := og_high h I (by omega) h1
    by_cases d : w < (I : Int)
    · rw [og_low d, e1] at e
      omega
    · obtain ⟨m, hm, p2, e2⟩ := og_high h I (by omega) h2
      rw [e1, e2] at e
      obtain rfl : k = m := by omega
      rw [p1] at p2
      have := Option.some.inj p2
      omega
theorem og_onto {n : Nat} {l : List Int} (h : IsO n l) (I : Nat) {w : Int} (h0 : 0 ≤ w) (h1 : w < ((I + n : Nat) : Int)) : ∃ v : Int, 0 ≤ v ∧ v < ((I + n : Nat) : Int) ∧ og I l v = w := by
  by_cases c : w < (I : Int)
  · exact ⟨w, h0, h1, og_low c⟩
  · obtain ⟨k, rfl⟩ : ∃ k : Nat, w = (I : Int) + (k : Int) := ⟨(w - (I : Int)).toNat, by omega⟩
    obtain ⟨x, hx, e⟩ := h.at (k := k) (by omega)
    exact ⟨(I : Int) + (x : Int), by omega, by omega, og_at h I e⟩
theorem og_lt {n : Nat} {l : List Int} (h : IsO n l) (I : Nat) {v : Int} (h1 : v < ((I + n : Nat) : Int)) (k : Nat) : og I l v < (I : Int) + (k : Int) ↔ v < (I : Int) ∨ v - (I : Int) ∈ l.take k := by
  by_cases c : v < (I : Int)
  · rw [og_low c]
    exact ⟨fun _ => .inl c, fun _ => by omega⟩
  · obtain ⟨m, hm, p, e⟩ := og_high h I (by omega) h1
    rw [e]
    constructor
    · intro hk
      refine .inr (List.mem_iff_getElem?.2 ⟨m, ?_⟩)
      rw [List.getElem?_take, if_pos (by omega), p]
    · rintro (hk | hk)
      · exact absurd hk c
      · obtain ⟨m', hm'⟩ := List.mem_iff_getElem?.1 hk
        rw [List.getElem?_take] at hm'
        split at hm'
        · rename_i q
          have := idx_nd h.2.2 p 0
          have := idx_nd h.2.2 hm' 0
          omega
        · cases hm'
/-- The steps in the other order. -/
def rSt (I : Nat) (l : List Int) (y : SStep) : SStep := ⟨mn (og I l y.f0) (og I l y.f1), mx (og I l y.f0) (og I l y.f1)⟩
def rS (I : Nat) (s : List SStep) (l : List Int) : List SStep := l.map fun i => rSt I l (s.getD i.toNat ⟨0, 0⟩)
def rO (I : Nat) (l : List Int) (o : List Int) : List Int := o.map (og I l)
theorem rS_len (I : Nat) (s : List SStep) (l : List Int) : (rS I s l).length = l.length := by simp [rS]
theorem rS_at {I : Nat} {s : List SStep} {l : List Int} {k x : Nat} {y : SStep} (hk : l[k]? = some (x : Int)) (hy : s[x]? = some y) : (rS I s l)[k]? = some (rSt I l y) := by
  unfold rS
  rw [List.getElem?_map, hk, Option.map_some, Int.toNat_natCast, List.getD_eq_getElem?_getD, hy]
  rfl
theorem Ok.of_at {n : Nat} {s : List SStep} (h : ∀ (m : Nat) (y : SStep), s[m]? = some y → 0 ≤ y.f0 ∧ y.f0 ≤ y.f1 ∧ y.f1 < ((n + m : Nat) : Int)) : Ok n s := by
  induction s generalizing n with
  | nil => trivial
  | cons y ys ih =>
    refine ⟨h 0 y rfl, ih fun m z hz => ?_⟩
    have := h (m + 1) z (by simpa using hz)
    rw [show n + 1 + m = n + (m + 1) by omega]
    exact this
theorem mnmx (a b : Int) : mn a b ≤ mx a b ∧ (mn a b = a ∧ mx a b = b ∨ mn a b = b ∧ mx a b = a) := by
  unfold mn mx
  split <;> split <;> omega
/-- What a step needs stands ahead of it. -/
def Nd (I : Nat) (s : List SStep) (l : List Int) : Prop := ∀ (k x : Nat) (y : SStep), l[k]? = some (x : Int) → s[x]? = some y → (y.f0 < (I : Int) ∨ y.f0 - (I : Int) ∈ l.take k) ∧ (y.f1 < (I : Int) ∨ y.f1 - (I : Int) ∈ l.take k)
theorem rS_ok {I : Nat} {s : List SStep} {l : List Int} (hs : Ok I s) (h : IsO s.length l) : Ok I (rS I s l) ↔ Nd I s l := by
  constructor
  · intro hr k x y hk hy
    have hxl := (List.getElem?_eq_some_iff.1 hy).1
    have q := hs.at hy
    have r := hr.at (rS_at hk hy)
    have m := mnmx (og I l y.f0) (og I l y.f1)
    unfold rSt at r
    simp only at r
    exact ⟨(og_lt h I (by omega) k).1 (by omega), (og_lt h I (by omega) k).1 (by omega)⟩
  · intro hn
    refine Ok.of_at fun k z hz => ?_
    have hkl : k < s.length := by
      have := (List.getElem?_eq_some_iff.1 hz).1
      rw [rS_len, h.1] at this
      exact this
    obtain ⟨x, hx, hk⟩ := h.at hkl
    have hy := List.getElem?_eq_getElem hx
    rw [rS_at hk hy] at hz
    obtain rfl := Option.some.inj hz
    have q := hs.at hy
    have m := mnmx (og I l s[x].f0) (og I l s[x].f1)
    obtain ⟨n0, n1⟩ := hn k x _ hk hy
    have i0 := og_in h I q.1 (by omega : s[x].f0 < ((I + s.length : Nat) : Int))
    have i1 := og_in h I (by omega : 0 ≤ s[x].f1) (by omega)
    have l0 := (og_lt h I (by omega) k).2 n0
    have l1 := (og_lt h I (by omega) k).2 n1
    unfold rSt
    simp only
    omega
/-! values of any kind -/
def vf (f : Int → Int → Int) : List SStep → List Int → List Int
  | [], l => l
  | y :: ys, l => vf f ys (l ++ [f (rg l y.f0) (rg l y.f1)])
theorem vf_add (s : List SStep) (l : List Int) : vf (· + ·) s l = vl s l := by
  induction s generalizing l with
  | nil => rfl
  | cons y ys ih => exact ih _
theorem vf_len (f : Int → Int → Int) (s : List SStep) (l : List Int) : (vf f s l).length = l.length + s.length := by
  induction s generalizing l with
  | nil => rfl
  | cons y ys ih =>
    rw [vf, ih, List.length_append, List.length_singleton, List.length_cons]
    omega
theorem vf_pre (f : Int → Int → Int) (s : List SStep) (l : List Int) {v : Int} (h0 : 0 ≤ v) (h1 : v < (l.length : Int)) : rg (vf f s l) v = rg l v := by
  induction s generalizing l with
  | nil => rfl
  | cons y ys ih => rw [vf, ih _ (by rw [List.length_append]; omega), rg_app h0 h1]
theorem vf_at (f : Int → Int → Int) {s : List SStep} {l : List Int} (h : Ok l.length s) {m : Nat} {y : SStep} (hm : s[m]? = some y) : rg (vf f s l) ((l.length + m : Nat) : Int) = f (rg (vf f s l) y.f0) (rg (vf f s l) y.f1) := by
  induction s generalizing l m with
  | nil => simp at hm
  | cons z s ih =>
    have h1 := h.1
    have h2 := h.2
    have hl : ∀ x : Int, (l ++ [x]).length = l.length + 1 := fun x => by rw [List.length_append, List.length_singleton]
    cases m with
    | zero =>
      obtain rfl : z = y := by simpa using hm
      rw [vf, vf_pre _ _ _ (by omega) (by rw [hl]; omega), vf_pre _ _ _ (by omega) (by rw [hl]; omega), vf_pre _ _ _ (by omega) (by rw [hl]; omega), rg_new (by omega), rg_app (by omega) (by omega), rg_app (by omega) (by omega)]
    | succ m =>
      rw [vf]
      have := ih (l := l ++ [f (rg l z.f0) (rg l z.f1)]) (by rw [hl]; exact h2) (m := m) (by simpa using hm)
      rw [hl, show l.length + 1 + m = l.length + (m + 1) by omega] at this
      exact this
/-- Values stay as they are under another order. -/
theorem rS_vf (f : Int → Int → Int) (hf : ∀ a b, f a b = f b a) {I : Nat} {s : List SStep} {l u : List Int} (hu : u.length = I) (hs : Ok I s) (h : IsO s.length l) (hr : Ok I (rS I s l)) (v : Int) (h0 : 0 ≤ v) (h1 : v < ((I + s.length : Nat) : Int)) : rg (vf f (rS I s l) u) (og I l v) = rg (vf f s u) v := by
  obtain ⟨n, hn⟩ : ∃ n, v.toNat = n := ⟨_, rfl⟩
  induction n using Nat.strongRecOn generalizing v with
  | _ n ih =>
    by_cases c : v < (I : Int)
    · rw [og_low c, vf_pre _ _ _ h0 (by omega), vf_pre _ _ _ h0 (by omega)]
    · obtain ⟨k, hk, p, e⟩ := og_high h I (by omega) h1
      obtain ⟨x, hx⟩ : ∃ x : Nat, v - (I : Int) = (x : Int) := ⟨(v - (I : Int)).toNat, by omega⟩
      have hxl : x < s.length := by omega
      have hy := List.getElem?_eq_getElem hxl
      rw [hx] at p
      have q := hs.at hy
      have a1 := vf_at f (l := u) (by rw [hu]; exact hs) hy
      have a2 := vf_at f (l := u) (by rw [hu]; exact hr) (rS_at p hy)
      rw [hu, show ((I + x : Nat) : Int) = v by omega] at a1
      rw [hu, show ((I + k : Nat) : Int) = og I l v by omega] at a2
      have e0 := ih s[x].f0.toNat (by omega) s[x].f0 (by omega) (by omega) rfl
      have e1 := ih s[x].f1.toNat (by omega) s[x].f1 (by omega) (by omega) rfl
      rw [a1, a2]
      unfold rSt
      simp only
      rcases (mnmx (og I l s[x].f0) (og I l s[x].f1)).2 with ⟨m1, m2⟩ | ⟨m1, m2⟩
      · rw [m1, m2, e0, e1]
      · rw [m1, m2, e0, e1, hf]
theorem rS_vl {I : Nat} {s : List SStep} {l u : List Int} (hu : u.length = I) (hs : Ok I s) (h : IsO s.length l) (hr : Ok I (rS I s l)) (v : Int) (h0 : 0 ≤ v) (h1 : v < ((I + s.length : Nat) : Int)) : rg (vl (rS I s l) u) (og I l v) = rg (vl s u) v := by
  rw [← vf_add, ← vf_add]
  exact rS_vf _ (fun a b => Int.add_comm a b) hu hs h hr v h0 h1
theorem rS_good {I : Nat} {s : List SStep} {o l : List Int} (h : Good I s o) (hl : IsO s.length l) : Good I (rS I s l) (rO I l o) ↔ Nd I s l := by
  constructor
  · intro hg
    exact (rS_ok h.ok hl).1 hg.ok
  · intro hn
    have hr := (rS_ok h.ok hl).2 hn
    have hlen : (rS I s l).length = s.length := by rw [rS_len, hl.1]
    refine ⟨h.inp, by rw [hlen]; exact h.stp, by unfold rO; rw [List.length_map]; exact h.out, hr, ?_, ?_⟩
    · intro y hy
      obtain ⟨v, hv, rfl⟩ := List.mem_map.1 hy
      have q := h.os v hv
      rw [hlen]
      exact og_in hl I q.1 q.2
    · intro j hj w w0 w1
      rw [hlen] at w1
      obtain ⟨v, v0, v1, rfl⟩ := og_onto hl I w0 w1
      rw [rS_vl (unitR_len I j) h.ok hl hr v v0 v1]
      exact h.le j hj v v0 v1
end Go.Proofs.Ytoegbcbdiggbjaa.Pure
