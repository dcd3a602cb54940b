/- Texts as lists of bytes: cuts, joins, numerals. -/
import Derived.Lib.Split
import Derived.Lib.Join
import Derived.Lib.ItoaNum
import Derived.Lib.AtoiAll
namespace Go.Proofs.YtnnlfipcoahcnaaGreatDoor.Txl
open Go Go.Lib
/-- a text cut at each byte b -/
def spl (b : UInt8) : List UInt8 → List (List UInt8)
 | [] => [[]]
 | c :: r => if c = b then [] :: spl b r else (c :: (spl b r).headD []) :: (spl b r).tail
theorem spl_ne (b : UInt8) (s : List UInt8) : spl b s ≠ [] := by
 cases s with
 | nil => simp [spl]
 | cons c r => unfold spl; split <;> simp
theorem spl_hit (b : UInt8) (r : List UInt8) : spl b (b :: r) = [] :: spl b r := by simp [spl]
theorem spl_miss {b c : UInt8} (h : c ≠ b) (r : List UInt8) : spl b (c :: r) = (c :: (spl b r).headD []) :: (spl b r).tail := by simp [spl, h]
theorem spl_app {b : UInt8} : ∀ {u : List UInt8} (v : List UInt8), b ∉ u → spl b (u ++ v) = (u ++ (spl b v).headD []) :: (spl b v).tail
 | [], v, _ => by
  cases h : spl b v with
  | nil => exact absurd h (spl_ne b v)
  | cons x t => simp [h]
 | c :: u, v, hb => by
  have hc : c ≠ b := fun e => hb (by simp [e])
  rw [List.cons_append, spl_miss hc, spl_app v (fun h => hb (List.mem_cons_of_mem _ h))]
  simp
theorem spl_one {b : UInt8} {u : List UInt8} (h : b ∉ u) : spl b u = [u] := by
 have := spl_app (b := b) (u := u) [] h
 simpa [spl] using this
theorem spl_cut {b : UInt8} {u : List UInt8} (v : List UInt8) (h : b ∉ u) : spl b (u ++ b :: v) = u :: spl b v := by
 rw [spl_app _ h, spl_hit]
 simp
/-- texts with a byte between them -/
def jn (b : UInt8) : List (List UInt8) → List UInt8
 | [] => []
 | [x] => x
 | x :: y :: t => x ++ b :: jn b (y :: t)
theorem jn_cons (b : UInt8) (x : List UInt8) {t : List (List UInt8)} (h : t ≠ []) : jn b (x :: t) = x ++ b :: jn b t := by
 cases t with
 | nil => exact absurd rfl h
 | cons y t => rfl
theorem spl_jn {b : UInt8} : ∀ {ps : List (List UInt8)}, ps ≠ [] → (∀ p ∈ ps, b ∉ p) → spl b (jn b ps) = ps
 | [], h, _ => absurd rfl h
 | [x], _, h => spl_one (h x (by simp))
 | x :: y :: t, _, h => by
  show spl b (x ++ b :: jn b (y :: t)) = _
  rw [spl_cut _ (h x (by simp)), spl_jn (by simp) (fun p hp => h p (List.mem_cons_of_mem _ hp))]
theorem spl_len (b : UInt8) : ∀ s : List UInt8, (spl b s).length ≤ s.length + 1
 | [] => by simp [spl]
 | c :: r => by
  have := spl_len b r
  by_cases h : c = b
  ·subst h; rw [spl_hit]; simp; omega
  ·rw [spl_miss h]; simp; omega
theorem jn_join (b : UInt8) (ps : List (List UInt8)) : Lib.join ps [b] = jn b ps := by
 induction ps with
 | nil => rfl
 | cons x t ih =>
  cases t with
  | nil => exact join_one x [b]
  | cons y t =>
   rw [jn_cons _ _ (by simp), ← ih, join_cons, join_cons]
   simp [joinTail]
theorem jn_append (b : UInt8) : ∀ {ps : List (List UInt8)} (x : List UInt8), ps ≠ [] → jn b (ps ++ [x]) = jn b ps ++ b :: x
 | [], x, h => absurd rfl h
 | [y], x, _ => rfl
 | y :: z :: t, x, _ => by
  show y ++ b :: jn b ((z :: t) ++ [x]) = (y ++ b :: jn b (z :: t)) ++ b :: x
  rw [jn_append b x (by simp)]
  simp
/-! cuts of the library -/
theorem occAt_one (b : UInt8) (s : List UInt8) (i : Nat) : occAt s [b] i = (s[i]? == some b) := by
 unfold occAt
 cases h : s.drop i with
 | nil =>
  have : s.length ≤ i := by simpa using h
  rw [List.getElem?_eq_none this]
  rfl
 | cons c r =>
  have e : s[i]? = some c := by
   have := congrArg List.head? h
   simpa using this
  rw [e]
  by_cases hc : b = c
  ·simp [List.isPrefixOf, hc]
  ·have h1 : (b == c) = false := by simpa using hc
   have h2 : (c == b) = false := by simpa using Ne.symm hc
   simp [List.isPrefixOf, h1, h2]
theorem index_miss {b : UInt8} {s : List UInt8} (h : b ∉ s) : Lib.index s [b] = -1 := by
 refine index_none fun j hj => ?_
 rw [occAt_one]
 cases hg : s[j]? with
 | none => rfl
 | some c =>
  have : c ≠ b := fun e => h (e ▸ List.mem_of_getElem? hg)
  simp [this]
theorem index_cut {b : UInt8} {u v : List UInt8} (h : b ∉ u) : Lib.index (u ++ b :: v) [b] = u.length := by
 refine index_first (by simp) ?_ fun j hj => ?_
 ·rw [occAt_one, List.getElem?_append_right (by omega)]
  simp
 ·rw [occAt_one, List.getElem?_append_left hj, List.getElem?_eq_getElem hj]
  have : u[j] ≠ b := fun e => h (e ▸ List.getElem_mem hj)
  simp [this]
theorem split_at {b : UInt8} : ∀ {s : List UInt8}, b ∈ s → ∃ u v, s = u ++ b :: v ∧ b ∉ u
 | [], h => by simp at h
 | c :: r, h => by
  by_cases hc : c = b
  ·exact ⟨[], r, by simp [hc], by simp⟩
  ·obtain ⟨u, v, e, hu⟩ := split_at (s := r) (by rcases List.mem_cons.1 h with e | h; exact absurd e.symm hc; exact h)
   exact ⟨c :: u, v, by rw [e]; rfl, by simp [Ne.symm hc, hu]⟩
theorem splitK_eq {b : UInt8} : ∀ (k : Nat) (s : List UInt8), (spl b s).length ≤ k + 1 → splitK [b] 0 k s = spl b s
 | 0, s, h => by
  by_cases hb : b ∈ s
  ·obtain ⟨u, v, e, hu⟩ := split_at hb
   rw [e, spl_cut _ hu] at h
   have := spl_ne b v
   cases hs : spl b v with
   | nil => exact absurd hs this
   | cons x t => rw [hs] at h; simp at h
  ·rw [spl_one hb]; rfl
 | k + 1, s, h => by
  by_cases hb : b ∈ s
  ·obtain ⟨u, v, e, hu⟩ := split_at hb
   rw [e, spl_cut _ hu] at h ⊢
   have hi := index_cut (v := v) hu
   unfold splitK
   rw [hi, if_neg (by simp only [beq_iff_eq]; omega)]
   have e1 : ((u.length : Int)).toNat = u.length := by omega
   rw [e1, splitK_eq k]
   ·congr 1
    ·simp
    ·congr 1
     simp
   ·have e2 : (u ++ b :: v).drop (u.length + [b].length) = v := by simp
    rw [e2]
    simpa using h
  ·rw [spl_one hb]
   unfold splitK
   rw [index_miss hb]
   rfl
theorem cut_hit {b : UInt8} {u v : List UInt8} (h : b ∉ u) : Lib.cut (u ++ b :: v) [b] = (u, v, true) := by
 unfold Lib.cut
 rw [index_cut h, if_pos (by omega)]
 have e1 : ((u.length : Int)).toNat = u.length := by omega
 rw [e1]
 simp
/-! numerals -/
def dig (c : UInt8) : Bool := decide (48 ≤ c.toNat) && decide (c.toNat ≤ 57)
def val (l : List UInt8) : Nat := l.foldl (fun n c => 10 * n + (c.toNat - 48)) 0
theorem u8_48 {d : Nat} (h : d < 10) : (UInt8.ofNat (48 + d)).toNat = 48 + d := by
 rw [UInt8.toNat_ofNat']
 omega
theorem dig_of {d : Nat} (h : d < 10) : dig (UInt8.ofNat (48 + d)) = true := by
 unfold dig
 rw [u8_48 h]
 simp
 omega
theorem dec_dig (n : Nat) : ∀ c ∈ decDigits n, dig c = true := by
 induction n using Nat.strongRecOn with
 | _ n ih =>
  rw [decDigits]
  split
  ·intro c hc
   have e : c = UInt8.ofNat (48 + n) := List.mem_singleton.1 hc
   rw [e]
   exact dig_of (by omega)
  ·intro c hc
   rcases List.mem_append.1 hc with hc | hc
   ·exact ih _ (by omega) c hc
   ·rw [List.mem_singleton.1 hc]
    exact dig_of (by omega)
theorem dec_ne (n : Nat) : decDigits n ≠ [] := by
 rw [decDigits]
 split <;> simp
theorem val_snoc (l : List UInt8) (c : UInt8) : val (l ++ [c]) = 10 * val l + (c.toNat - 48) := by simp [val, List.foldl_append]
theorem val_dec (n : Nat) : val (decDigits n) = n := by
 induction n using Nat.strongRecOn with
 | _ n ih =>
  rw [decDigits]
  split
  ·rename_i h
   show 10 * 0 + ((UInt8.ofNat (48 + n)).toNat - 48) = n
   rw [u8_48 h]
   omega
  ·rename_i h
   rw [val_snoc, ih _ (by omega), u8_48 (by omega)]
   omega
theorem dec_head (n : Nat) : (decDigits n).head? = some 48 → n = 0 := by
 induction n using Nat.strongRecOn with
 | _ n ih =>
  rw [decDigits]
  split
  ·rename_i h
   intro e
   have e1 : UInt8.ofNat (48 + n) = 48 := by simpa using e
   have e2 := congrArg UInt8.toNat e1
   rw [u8_48 h] at e2
   have e3 : (48 : UInt8).toNat = 48 := rfl
   omega
  ·rename_i h
   intro e
   have hn := dec_ne (n / 10)
   rw [List.head?_append] at e
   cases hd : decDigits (n / 10) with
   | nil => exact absurd hd hn
   | cons a t =>
    rw [hd] at e
    have := ih (n / 10) (by omega) (by rw [hd]; simpa using e)
    omega
/-- a numeral as it is written -/
def canon (l : List UInt8) : Prop := l ≠ [] ∧ (∀ c ∈ l, dig c = true) ∧ (l.head? = some 48 → l.length = 1)
theorem canon_dec (n : Nat) : canon (decDigits n) := ⟨dec_ne n, dec_dig n, fun h => by
 have := dec_head n h
 subst this
 rw [decDigits]
 rfl⟩
theorem dig_bounds {c : UInt8} (h : dig c = true) : 48 ≤ c.toNat ∧ c.toNat ≤ 57 := by
 unfold dig at h
 simpa using h
theorem val_lt : ∀ (l : List UInt8) (n : Nat), (∀ c ∈ l, dig c = true) → l.foldl (fun n c => 10 * n + (c.toNat - 48)) n < (n + 1) * 10 ^ l.length
 | [], n, _ => by simp
 | c :: r, n, h => by
  have hb := dig_bounds (h c (by simp))
  have := val_lt r (10 * n + (c.toNat - 48)) (fun x hx => h x (List.mem_cons_of_mem _ hx))
  rw [List.foldl_cons, List.length_cons, Nat.pow_succ]
  refine Nat.lt_of_lt_of_le this ?_
  rw [show (n + 1) * (10 ^ r.length * 10) = (10 * (n + 1)) * 10 ^ r.length by rw [Nat.mul_comm (10 ^ _), ← Nat.mul_assoc, Nat.mul_comm (n + 1)]]
  exact Nat.mul_le_mul_right _ (by omega)
theorem dec_len {n : Nat} (h : n < 1000000) : (decDigits n).length ≤ 6 := by
 rw [decDigits_length]
 have h6 : nDigits n ≤ 6 := by
  have low : ∀ (j u : Nat), u < 10 ^ (j + 1) → nDigits u ≤ j + 1 := by
   intro j
   induction j with
   | zero => intro u hu; rw [nDigits_small (by simpa using hu)]; exact Nat.le_refl _
   | succ j ih =>
    intro u hu
    by_cases h10 : u < 10
    ·rw [nDigits_small h10]; omega
    ·rw [nDigits_big h10]
     have := ih (u / 10) (by rw [Nat.pow_succ] at hu; omega)
     omega
  exact low 5 n (by omega)
 exact h6
theorem parse_snoc : ∀ (l : List UInt8) (acc : Nat), (∀ c ∈ l, dig c = true) → l.foldl (fun n c => 10 * n + (c.toNat - 48)) acc < 1000000000000 → parseUint10 acc l = .ok (l.foldl (fun n c => 10 * n + (c.toNat - 48)) acc)
 | [], acc, _, _ => rfl
 | c :: r, acc, h, hl => by
  have hb := dig_bounds (h c (by simp))
  have hge : ∀ (r : List UInt8) (n : Nat), n ≤ r.foldl (fun n c => 10 * n + (c.toNat - 48)) n := by
   intro r
   induction r with
   | nil => intro n; exact Nat.le_refl _
   | cons a t ih => intro n; rw [List.foldl_cons]; exact Nat.le_trans (by omega) (ih _)
  rw [List.foldl_cons] at hl ⊢
  have h1 := hge r (10 * acc + (c.toNat - 48))
  unfold parseUint10
  rw [if_pos hb, if_neg (by omega), if_neg (by omega), Nat.mul_comm acc 10]
  exact parse_snoc r _ (fun x hx => h x (List.mem_cons_of_mem _ hx)) hl
theorem atoi_dec {n : Nat} (h : n < 1000000) : atoiAll (decDigits n) = .ok (n : Int) := by
 have hp := parse_snoc (decDigits n) 0 (dec_dig n) (by have := val_dec n; unfold val at this; rw [this]; omega)
 have hv : (decDigits n).foldl (fun n c => 10 * n + (c.toNat - 48)) 0 = n := val_dec n
 rw [hv] at hp
 have hm : parseMag (decDigits n) = .ok n := by unfold parseMag; rw [if_neg (dec_ne n)]; exact hp
 cases hd : decDigits n with
 | nil => exact absurd hd (dec_ne n)
 | cons c r =>
  have hb := dig_bounds (dec_dig n c (by rw [hd]; simp))
  rw [hd] at hm
  have e43 : ¬ c.toNat = 43 := by omega
  have e45 : ¬ c.toNat = 45 := by omega
  unfold atoiAll
  simp only [e43, e45, or_self, false_and, if_false, not_false_eq_true, true_and]
  rw [hm]
  show (if 9223372036854775808 ≤ n then NumEnd.range else NumEnd.ok (n : Int)) = _
  rw [if_neg (by omega)]
theorem not_dig {b : UInt8} (h : dig b = false) {l : List UInt8} (hl : ∀ c ∈ l, dig c = true) : b ∉ l := fun hm => by
 rw [hl b hm] at h
 cases h
end Go.Proofs.YtnnlfipcoahcnaaGreatDoor.Txl
