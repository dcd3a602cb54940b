/- Pure: Pals, Pdrs. -/
import Derived.Test.YtnnlfipcoahcnaaGreatDoorKFnRenamedRegistersPma
import Derived.Test.YtnnlfipcoahcnaaGreatDoorKFnRenamedRegistersPmc
import Derived.Test.YtnnlfipcoahcnaaGreatDoorKFnRenamedRegistersPmb
set_option linter.unusedVariables false
set_option linter.unusedSimpArgs false
namespace Go.Proofs.YtnnlfipcoahcnaaGreatDoor.Pure
open Go.RowKit Go.Proofs.YtnnlfipcoahcnaaGreatDoor.E Go.Proofs.YtnnlfipcoahcnaaGreatDoor.G3 Go.Proofs.YtnnlfipcoahcnaaGreatDoor.Frame Go.Proofs.YtnnlfipcoahcnaaGreatDoorW.PrintLast Go.Proofs.YtnnlfipcoahcnaaGreatDoorW.PrintMore
open Go.Proofs.YtnnlfipcoahcnaaGreatDoorW.PrintWords hiding mn mx
open Go.Proofs.YtnnlfipcoahcnaaGreatDoor.Hand
def at' (l : List Int) (r : Int) : Int := l.getD r.toNat 0
theorem at_gt {l : List Int} {r : Int} (h0 : 0 ≤ r) (h1 : r < (l.length : Int)) : gt l r = some (at' l r) := by
 unfold gt at'
 rw [if_pos h0, List.getD_eq_getElem?_getD, List.getElem?_eq_getElem (by omega)]
 rfl
theorem at_st {l : List Int} {r v : Int} (h0 : 0 ≤ r) (h1 : r < (l.length : Int)) : st l r v = some (l.set r.toNat v) := by
 unfold st
 rw [if_pos (by omega)]
theorem at_set {l : List Int} {x r v : Int} (h0 : 0 ≤ r) (h1 : r < (l.length : Int)) (hx : 0 ≤ x) : at' (l.set x.toNat v) r = if x = r then v else at' l r := by
 unfold at'
 rw [List.getD_eq_getElem?_getD, List.getD_eq_getElem?_getD, List.getElem?_set]
 by_cases h : x = r
 ·subst h
  rw [if_pos rfl, if_pos (by omega), if_pos rfl]
  rfl
 ·rw [if_neg (by omega), if_neg h]
/-- What is not needed is let go. -/
def kp (f : Int → Bool) (v : Int) : Int := if v ≠ -1 ∧ f v = true then v else -1
def clean (f : Int → Bool) (R : List Int) : List Int := R.map (kp f)
theorem take_drop_same {l m : List Int} {j : Nat} (hj : j < l.length) (hm : m.length = l.length) (h : m[j]? = l[j]?) : m.take j ++ l.drop j = m.take (j + 1) ++ l.drop (j + 1) := by
 have h1 : m[j]? = some l[j] := by rw [h, List.getElem?_eq_getElem hj]
 rw [← set_take (v := l[j]) hj hm h1]
 have hl : j < (m.take j ++ l.drop j).length := by rw [List.length_append, List.length_take, List.length_drop]; omega
 have hx : (m.take j ++ l.drop j)[j] = l[j] := by
  rw [List.getElem_append_right (by rw [List.length_take]; omega)]
  simp [show min j m.length = j by omega]
 rw [← hx]
 exact (List.set_getElem_self hl).symm
theorem spec_clean (M : Nat) (f : Int → Bool) (R : List Int) (hR : ∀ v ∈ R, v = -1 ∨ (0 ≤ v ∧ v < (M : Int))) : ∀ (d j : Nat), j + d = R.length → spec_AllocatePlan.l3 (vals M f) d ((clean f R).take j ++ R.drop j) (j : Int) = some (clean f R) := by
 have hm : (clean f R).length = R.length := by simp [clean]
 intro d
 induction d with
 | zero =>
  intro j hj
  obtain rfl : j = R.length := by omega
  rw [List.drop_eq_nil_of_le (Nat.le_refl _), List.append_nil, List.take_of_length_le (by omega)]
  rfl
 | succ d ih =>
  intro j hj
  have hjl : j < R.length := by omega
  have hl : j < ((clean f R).take j ++ R.drop j).length := by rw [List.length_append, List.length_take, List.length_drop]; omega
  have hg : ((clean f R).take j ++ R.drop j)[j] = R[j] := by
   rw [List.getElem_append_right (by rw [List.length_take]; omega)]
   simp [hm, show min j R.length = j by omega]
  have hc : (clean f R)[j]? = some (kp f R[j]) := by
   unfold clean
   rw [List.getElem?_map, List.getElem?_eq_getElem hjl]
   rfl
  simp only [spec_AllocatePlan.l3, l1Has_eq]
  rw [gt_nat hl, hg, show (j : Int) + 1 = ((j + 1 : Nat) : Int) by omega]
  simp only [Option.bind_some]
  have hcase := hR _ (List.getElem_mem hjl)
  by_cases c : R[j] ∈ vals M f
  ·have q := vals_mem.1 c
   have e : kp f R[j] = R[j] := by unfold kp; rw [if_pos ⟨by omega, q.2⟩]
   rw [if_pos (decide_eq_true c), take_drop_same hjl hm (by rw [hc, e, List.getElem?_eq_getElem hjl])]
   exact ih (j + 1) (by omega)
  ·have e : kp f R[j] = -1 := by
    unfold kp
    rw [if_neg (fun q => c (vals_mem.2 ⟨hcase.resolve_left q.1, q.2⟩))]
   rw [if_neg (by simpa using c), st_nat hl, Option.bind_some, set_take (v := -1) hjl hm (by rw [hc, e])]
   exact ih (j + 1) (by omega)
/-! counting -/
theorem put_mem {l : List Int} {a x : Int} : x ∈ put l a ↔ x = a ∨ x ∈ l := by
 induction l with
 | nil => simp [put]
 | cons y ys ih =>
  simp only [put]
  by_cases c1 : y < a
  ·rw [if_pos c1, List.mem_cons, ih, List.mem_cons]
   constructor
   ·rintro (h | h | h)
    ·exact .inr (.inl h)
    ·exact .inl h
    ·exact .inr (.inr h)
   ·rintro (h | h | h)
    ·exact .inr (.inl h)
    ·exact .inl h
    ·exact .inr (.inr h)
  ·rw [if_neg c1]
   by_cases c2 : y = a
   ·rw [if_pos c2, c2]
    simp
   ·rw [if_neg c2, List.mem_cons]
theorem nodup_le (l m : List Int) (h : l.Nodup) (hm : ∀ x ∈ l, x ∈ m) : l.length ≤ m.length := by
 induction l generalizing m with
 | nil => exact Nat.zero_le _
 | cons x l ih =>
  rw [List.nodup_cons] at h
  have hx := hm x List.mem_cons_self
  have := ih (m.erase x) h.2 (fun y hy => by
   have hne : y ≠ x := fun e => h.1 (e ▸ hy)
   exact (List.mem_erase_of_ne hne).2 (hm y (List.mem_cons_of_mem _ hy)))
  have h2 := List.length_erase_of_mem hx
  have h3 := List.length_pos_of_mem hx
  rw [List.length_cons]
  omega
theorem prGo_ge (I : Nat) (s : List SStep) (o : List Int) (p ys : List Int) (m : Int) : m ≤ prGo I s o p ys m := by
 induction ys generalizing p m with
 | nil => exact Int.le_refl _
 | cons y ys ih =>
  simp only [prGo]
  refine Int.le_trans ?_ (ih _ _)
  unfold mx
  split <;> omega
theorem prGo_at (I : Nat) (s : List SStep) (o : List Int) (p a b : List Int) (y m : Int) : hC I s o (p ++ a ++ [y]) y ≤ prGo I s o p (a ++ y :: b) m := by
 induction a generalizing p m with
 | nil =>
  simp only [List.nil_append, List.append_nil, prGo]
  refine Int.le_trans ?_ (prGo_ge _ _ _ _ _ _)
  unfold mx
  split <;> omega
 | cons z a ih =>
  simp only [List.cons_append, prGo]
  have := ih (p ++ [z]) (mx m (hC I s o (p ++ [z]) z))
  rw [List.append_assoc, List.append_assoc] at this
  rw [List.append_assoc]
  simpa using this
theorem iota_split (n j : Nat) (h : j < n) : ∃ b, iota n = iota j ++ (j : Int) :: b := by
 refine ⟨(iota n).drop (j + 1), ?_⟩
 have hl : (iota n).length = n := by simp [iota]
 have h1 : (iota n)[j]'(by omega) = (j : Int) := by simp [iota]
 have h2 : (iota n).take j = iota j := by
  unfold iota
  rw [← List.map_take, List.take_range, Nat.min_eq_left (by omega)]
 conv => lhs; rw [← List.take_append_drop j (iota n)]
 rw [h2, List.drop_eq_getElem_cons (by omega), h1]
/-- The registers that are needed for the steps in order. -/
def prs (I : Nat) (s : List SStep) (o : List Int) : Int := press I s o (iota s.length)
theorem prs_ge {I : Nat} {s : List SStep} {o : List Int} (j : Nat) (h : j < s.length) : hC I s o (iota (j + 1)) (j : Int) ≤ prs I s o := by
 obtain ⟨b, hb⟩ := iota_split s.length j h
 have := prGo_at I s o [] (iota j) b (j : Int) (I : Int)
 rw [List.nil_append, ← hb, ← iota_succ] at this
 exact this
theorem prs_in {I : Nat} {s : List SStep} {o : List Int} (h : Form I s o) : (I : Int) ≤ prs I s o ∧ prs I s o ≤ 64 := by
 refine ⟨prGo_ge _ _ _ _ _ _, ?_⟩
 have key : ∀ (ys p : List Int) (m : Int), m ≤ 64 → prGo I s o p ys m ≤ 64 := by
  intro ys
  induction ys with
  | nil => exact fun p m h => h
  | cons y ys ih =>
   intro p m hm
   simp only [prGo]
   refine ih _ _ ?_
   have h1 := h.inp
   have h2 := h.stp
   have hv := vals_len (I + s.length) (nd (I : Int) s o (p ++ [y]))
   have hp : (hC I s o (p ++ [y]) y) ≤ (I : Int) + (s.length : Int) + 1 := by
    unfold hC
    rw [put_len _ _ (vals_sorted _ _)]
    split <;> omega
   unfold mx
   split <;> omega
 exact key _ _ _ (by have := h.inp; omega)
/-! the invariant -/
structure AInv (I : Nat) (s : List SStep) (o : List Int) (j : Nat) (R A : List Int) : Prop where
 len : (R.length : Int) = prs I s o
 alen : A.length = I + s.length
 rng : ∀ v ∈ R, v = -1 ∨ (0 ≤ v ∧ v < (I : Int) + (j : Int))
 uni : ∀ (p q : Nat) (v : Int), R[p]? = some v → R[q]? = some v → v ≠ -1 → p = q
 plc : ∀ v, 0 ≤ v → v < (I : Int) + (j : Int) → nd (I : Int) s o (iota j) v = true → ∃ p : Nat, at' A v = (p : Int) ∧ R[p]? = some v
theorem AInv.pos {I : Nat} {s : List SStep} {o : List Int} {j : Nat} {R A : List Int} (h : AInv I s o j R A) {v : Int} (h0 : 0 ≤ v) (h1 : v < (I : Int) + (j : Int)) (hn : nd (I : Int) s o (iota j) v = true) : pos_ R v = at' A v := by
 obtain ⟨p, e, hp⟩ := h.plc v h0 h1 hn
 rw [e]
 exact pos_first hp (fun q hq => h.uni q p v hq hp (by omega))
theorem use_le {ds es : List Int} (hd : ∀ x ∈ ds, x ∈ es) (ys : List SStep) (j v : Int) (h : use es ys j v = true) : use ds ys j v = true := by
 induction ys generalizing j with
 | nil => exact h
 | cons y ys ih =>
  simp only [use, Bool.or_eq_true, Bool.and_eq_true, Bool.not_eq_true', decide_eq_false_iff_not] at h ⊢
  rcases h with ⟨h1, h2⟩ | h
  ·exact .inl ⟨fun q => h1 (hd _ q), h2⟩
  ·exact .inr (ih (j + 1) h)
theorem nd_back {I : Nat} {s : List SStep} {o : List Int} {j : Nat} {v : Int} (h1 : v < (I : Int) + (j : Int)) (h0 : 0 ≤ v) (h : nd (I : Int) s o (iota (j + 1)) v = true) : nd (I : Int) s o (iota j) v = true := by
 unfold nd at h ⊢
 rw [Bool.and_eq_true, Bool.or_eq_true, Bool.or_eq_true] at h ⊢
 refine ⟨?_, h.2.imp id (use_le (fun x hx => iota_mem.2 (by have := iota_mem.1 hx; omega)) s 0 v)⟩
 by_cases c : v < (I : Int)
 ·exact .inl (decide_eq_true c)
 ·exact .inr (decide_eq_true (iota_mem.2 (by omega)))
theorem use_at {ds : List Int} {ys : List SStep} {j m : Nat} {y : SStep} (hy : ys[m]? = some y) (hn : ((j + m : Nat) : Int) ∉ ds) {v : Int} (hv : y.f0 = v ∨ y.f1 = v) : use ds ys (j : Int) v = true := by
 induction ys generalizing j m with
 | nil => simp at hy
 | cons z ys ih =>
  simp only [use, Bool.or_eq_true, Bool.and_eq_true, Bool.not_eq_true', decide_eq_false_iff_not, decide_eq_true_eq]
  cases m with
  | zero =>
   obtain rfl : z = y := by simpa using hy
   exact .inl ⟨by simpa using hn, hv⟩
  | succ m =>
   refine .inr ?_
   rw [show (j : Int) + 1 = ((j + 1 : Nat) : Int) by omega]
   exact ih (by simpa using hy) (by rwa [show j + 1 + m = j + (m + 1) by omega])
theorem nd_factor {I : Nat} {s : List SStep} {o : List Int} (h : Form I s o) {j : Nat} {y : SStep} (hy : s[j]? = some y) {v : Int} (hv : y.f0 = v ∨ y.f1 = v) : (0 ≤ v ∧ v < (I : Int) + (j : Int)) ∧ nd (I : Int) s o (iota j) v = true := by
 have hst := h.step hy
 have hr : 0 ≤ v ∧ v < (I : Int) + (j : Int) := by rcases hv with e | e <;> omega
 refine ⟨hr, ?_⟩
 unfold nd
 have hu : use (iota j) s 0 v = true := by
  have := use_at (j := 0) (m := j) hy (ds := iota j) (fun q => by have := iota_mem.1 q; omega) hv
  exact this
 rw [hu, Bool.or_true, Bool.and_true]
 by_cases c : v < (I : Int)
 ·rw [decide_eq_true c, Bool.true_or]
 ·rw [decide_eq_true (show v - (I : Int) ∈ iota j from iota_mem.2 (by omega)), Bool.or_true]
/-- One step more. -/
theorem AInv.step {I : Nat} {s : List SStep} {o : List Int} (hf : Form I s o) {j : Nat} (hj : j < s.length) {R A : List Int} (h : AInv I s o j R A) : ∃ t : Nat, pos_ (clean (nd (I : Int) s o (iota (j + 1))) R) (-1) = (t : Int) ∧ t < R.length ∧ AInv I s o (j + 1) ((clean (nd (I : Int) s o (iota (j + 1))) R).set t ((I : Int) + (j : Int))) (A.set (I + j) (t : Int)) := by
 have hlen := h.len
 have hcl : (clean (nd (I : Int) s o (iota (j + 1))) R).length = R.length := by simp [clean]
 have hcg : ∀ (p : Nat) (v : Int), (clean (nd (I : Int) s o (iota (j + 1))) R)[p]? = some v → v ≠ -1 → R[p]? = some v ∧ nd (I : Int) s o (iota (j + 1)) v = true := by
  intro p v hp hv
  unfold clean at hp
  rw [List.getElem?_map] at hp
  obtain ⟨w, hw, e⟩ := Option.map_eq_some_iff.1 hp
  unfold kp at e
  split at e
  ·rename_i c
   subst e
   exact ⟨hw, c.2⟩
  ·exact absurd e.symm hv
 have hm : (-1 : Int) ∈ clean (nd (I : Int) s o (iota (j + 1))) R := by
  refine Classical.byContradiction fun hno => ?_
  have hall : ∀ v ∈ clean (nd (I : Int) s o (iota (j + 1))) R, v ≠ -1 := fun v hv e => hno (e ▸ hv)
  have hnd : (clean (nd (I : Int) s o (iota (j + 1))) R ++ [(I : Int) + (j : Int)]).Nodup := by
   rw [List.nodup_append]
   refine ⟨?_, by simp, fun a ha b hb => ?_⟩
   ·rw [List.Nodup, List.pairwise_iff_getElem]
    intro p q hp hq hpq e
    have e1 : (clean (nd (I : Int) s o (iota (j + 1))) R)[p]? = some (clean (nd (I : Int) s o (iota (j + 1))) R)[p] := List.getElem?_eq_getElem hp
    have e2 : (clean (nd (I : Int) s o (iota (j + 1))) R)[q]? = some (clean (nd (I : Int) s o (iota (j + 1))) R)[p] := by rw [e]; exact List.getElem?_eq_getElem hq
    have n1 := hall _ (List.getElem_mem hp)
    have := h.uni p q _ (hcg p _ e1 n1).1 (hcg q _ e2 n1).1 n1
    omega
   ·rw [List.mem_singleton.1 hb]
    obtain ⟨p, hp, e⟩ := List.getElem_of_mem ha
    have n1 := hall _ ha
    have h1 := (hcg p a (by rw [List.getElem?_eq_getElem hp, e]) n1).1
    have h2 := h.rng a (List.mem_of_getElem? h1)
    omega
  have hsub : ∀ x ∈ clean (nd (I : Int) s o (iota (j + 1))) R ++ [(I : Int) + (j : Int)], x ∈ put (vals (I + s.length) (nd (I : Int) s o (iota (j + 1)))) ((I : Int) + (j : Int)) := fun x hx => by
   rcases List.mem_append.1 hx with hx | hx
   ·obtain ⟨p, hp, e⟩ := List.getElem_of_mem hx
    have n1 := hall _ hx
    have h1 := hcg p x (by rw [List.getElem?_eq_getElem hp, e]) n1
    have h2 := h.rng x (List.mem_of_getElem? h1.1)
    exact put_mem.2 (.inr (vals_mem.2 ⟨by omega, h1.2⟩))
   ·exact put_mem.2 (.inl (List.mem_singleton.1 hx))
  have hle := nodup_le _ _ hnd hsub
  have hpr := prs_ge (I := I) (s := s) (o := o) j hj
  unfold hC at hpr
  rw [List.length_append, List.length_singleton, hcl] at hle
  omega
 obtain ⟨t, ht, htg⟩ := pos_at hm
 have htl : t < R.length := by
  have := (List.getElem?_eq_some_iff.1 htg).1
  omega
 have halen := h.alen
 refine ⟨t, ht, htl, ⟨by rw [List.length_set, hcl]; exact hlen, by rw [List.length_set]; exact halen, ?_, ?_, ?_⟩⟩
 ·intro v hv
  rcases List.mem_or_eq_of_mem_set hv with g | g
  ·by_cases c : v = -1
   ·exact .inl c
   ·obtain ⟨p, hp, e⟩ := List.getElem_of_mem g
    have h1 := (hcg p v (by rw [List.getElem?_eq_getElem hp, e]) c).1
    have h2 := h.rng v (List.mem_of_getElem? h1)
    omega
  ·omega
 ·intro p q v hp hq hv
  rw [List.getElem?_set] at hp hq
  by_cases cp : t = p
  ·by_cases cq : t = q
   ·omega
   ·rw [if_pos cp, if_pos (by omega)] at hp
    rw [if_neg cq] at hq
    have h1 := (hcg q v hq hv).1
    have h2 := h.rng v (List.mem_of_getElem? h1)
    have := Option.some.inj hp
    omega
  ·rw [if_neg cp] at hp
   by_cases cq : t = q
   ·rw [if_pos cq, if_pos (by omega)] at hq
    have h1 := (hcg p v hp hv).1
    have h2 := h.rng v (List.mem_of_getElem? h1)
    have := Option.some.inj hq
    omega
   ·rw [if_neg cq] at hq
    exact h.uni p q v (hcg p v hp hv).1 (hcg q v hq hv).1 hv
 ·intro v h0 h1 hn
  have hset : at' (A.set (I + j) (t : Int)) v = if ((I + j : Nat) : Int) = v then (t : Int) else at' A v := by
   have := at_set (l := A) (x := ((I + j : Nat) : Int)) (r := v) (v := (t : Int)) h0 (by omega) (by omega)
   rwa [Int.toNat_natCast] at this
  rw [hset]
  by_cases c : v = (I : Int) + (j : Int)
  ·rw [if_pos (by omega)]
   exact ⟨t, rfl, by rw [List.getElem?_set, if_pos rfl, if_pos (by omega), c]⟩
  ·rw [if_neg (by omega)]
   have hb := nd_back (by omega) h0 hn
   obtain ⟨p, e, hp⟩ := h.plc v h0 (by omega) hb
   refine ⟨p, e, ?_⟩
   have hcp : (clean (nd (I : Int) s o (iota (j + 1))) R)[p]? = some v := by
    unfold clean
    rw [List.getElem?_map, hp]
    simp only [Option.map_some, kp]
    rw [if_pos ⟨by omega, hn⟩]
   rw [List.getElem?_set, if_neg (fun e => ?_)]
   ·exact hcp
   ·subst e
    rw [htg] at hcp
    have := Option.some.inj hcp
    omega
/-! both loops -/
theorem alloc_loops {I : Nat} {s : List SStep} {o : List Int} (hf : Form I s o) (R1 : List Int) (ys : List SStep) (j : Nat) (hs : s.drop j = ys) (hj : j ≤ s.length) (R A : List Int) (C : List SRegOp) (hC : C.length = j) (hR1 : R1.length = R.length) (h : AInv I s o j R A) : ∃ R' A' C', Ev (fun k => spec_AllocatePlan.l1 k (I : Int) s o R1 ys R C (j : Int)) (R', C') ∧ AInv I s o s.length R' A' ∧ C'.length = s.length := by
 have hin := hf.inp
 have hst := hf.stp
 induction ys generalizing j R A C with
 | nil =>
  have : j = s.length := by
   have := congrArg List.length hs
   simp at this
   omega
  subst this
  refine ⟨R, A, C, ?_, h, hC⟩
  simp only [spec_AllocatePlan.l1]
  exact ret _
 | cons y ys ih =>
  have hy : s[j]? = some y := by
   have : (s.drop j)[0]? = some y := by rw [hs]; rfl
   rw [List.getElem?_drop] at this
   simpa using this
  have hjl := (List.getElem?_eq_some_iff.1 hy).1
  have hd : s.drop (j + 1) = ys := by
   rw [← List.drop_drop, hs]
   rfl
  have ec : (j : Int) + 1 = ((j + 1 : Nat) : Int) := by omega
  obtain ⟨r0, n0⟩ := nd_factor hf hy (.inl rfl)
  obtain ⟨r1, n1⟩ := nd_factor hf hy (.inr rfl)
  have p0 := h.pos r0.1 r0.2 n0
  have p1 := h.pos r1.1 r1.2 n1
  obtain ⟨t, ht, htl, hnext⟩ := h.step hf hjl
  have halen := h.alen
  have hlen := h.len
  have hprs := prs_in hf
  have hcl : (clean (nd (I : Int) s o (iota (j + 1))) R).length = R.length := by simp [clean]
  have hrng : ∀ v ∈ R, v = -1 ∨ (0 ≤ v ∧ v < ((I + s.length : Nat) : Int)) := fun v hv => by
   have := h.rng v hv
   omega
  have sc := spec_clean (I + s.length) (nd (I : Int) s o (iota (j + 1))) R hrng R.length 0 (by omega)
  rw [List.take_zero, List.drop_zero, List.nil_append, show ((0 : Nat) : Int) = 0 from rfl] at sc
  obtain ⟨R', A', C', e2, e3, e4⟩ := ih (j + 1) hd (by omega) _ _ (C ++ [⟨(t : Int), at' A y.f0, at' A y.f1⟩]) (by rw [List.length_append, List.length_singleton]; omega) (by rw [List.length_set, hcl]; exact hR1) hnext
  refine ⟨R', A', C', ?_, e3, e4⟩
  ·simp only [spec_AllocatePlan.l1]
   have ab : ((spec_plPlace.f R y.f0).bind fun i3158 => (spec_plPlace.f R y.f1).bind fun i3398 => some (i3158, i3398)) = some (at' A y.f0, at' A y.f1) := by
    rw [place_eq, place_eq, p0, p1]
    rfl
   rw [ec]
   refine bind0 ab (bind (upTo_ev (j + 1) (by omega)) (bind (reNeeded_ev I (by omega) s (by omega) o (iota (j + 1))) ?_))
   rw [hR1, Int.toNat_natCast]
   refine bind0 sc (bind0 ((place_eq _ _).trans (congrArg some ht)) ?_)
   refine bind0 (at_gt (l := clean (nd (I : Int) s o (iota (j + 1))) R) (by omega) (by omega)) ?_
   rw [zb6 (by omega)]
   refine bind0 (at_st (l := clean (nd (I : Int) s o (iota (j + 1))) R) (by omega) (by omega)) (bind0 (ap_ok (by simp; omega)) ?_)
   rw [Int.toNat_natCast]
   exact e2
/-! the beginning -/
def ini (P j : Nat) : List Int := (List.range P).map fun (r : Nat) => if r < j then (r : Int) else -1
def zer (M j : Nat) : List Int := (List.range M).map fun (r : Nat) => if r < j then (r : Int) else 0
theorem ini_take (P j I : Nat) (h : j < P) : (ini P I).take (j + 1) = (ini P I).take j ++ [if (j : Int) < (I : Int) then (j : Int) else -1] := by
 rw [List.take_add_one, List.getElem?_eq_getElem (by simp [ini]; omega)]
 simp only [Option.toList_some, ini, List.getElem_map, List.getElem_range]
 by_cases c : j < I
 ·rw [if_pos c, if_pos (by omega)]
 ·rw [if_neg c, if_neg (by omega)]
theorem spec_ini (P I : Nat) (hP : P ≤ 1000) : Ev (fun k => spec_AllocatePlan.l0 (I : Int) (P : Int) k [] 0) (ini P I) := by
 have hlen : (ini P I).length = P := by simp [ini]
 have key : ∀ (d j : Nat), j + d = P → Ev (fun k => spec_AllocatePlan.l0 (I : Int) (P : Int) k ((ini P I).take j) (j : Int)) (ini P I) := by
  intro d
  induction d with
  | zero =>
   intro j hj
   obtain rfl : j = P := by omega
   refine shift ?_
   simp only [spec_AllocatePlan.l0]
   rw [List.take_of_length_le (by omega)]
   exact neg (by omega) (ret _)
  | succ d ih =>
   intro j hj
   have hn := ih (j + 1) (by omega)
   rw [ini_take P j I (by omega)] at hn
   refine shift ?_
   simp only [spec_AllocatePlan.l0]
   rw [w64_succ (by omega)]
   refine pos (by omega) ?_
   by_cases c : (j : Int) < (I : Int)
   ·rw [if_pos c] at hn
    exact pos c (bind0 (ap_ok (by simp; omega)) hn)
   ·rw [if_neg c] at hn
    exact neg c (bind0 (ap_ok (by simp; omega)) hn)
 exact key P 0 (by omega)
theorem inv_ini {I : Nat} {s : List SStep} {o : List Int} (hf : Form I s o) (P : Nat) (hP : (P : Int) = prs I s o) : AInv I s o 0 (ini P I) (zer (I + s.length) I) := by
 have hp := prs_in hf
 have hg : ∀ (p : Nat) (v : Int), (ini P I)[p]? = some v → p < P ∧ v = if p < I then (p : Int) else -1 := by
  intro p v h
  have hl := (List.getElem?_eq_some_iff.1 h).1
  rw [List.getElem?_eq_getElem hl] at h
  have := Option.some.inj h
  simp only [ini, List.getElem_map, List.getElem_range] at this
  exact ⟨by simpa [ini] using hl, this.symm⟩
 refine ⟨by simp [ini]; exact hP, by simp [zer], fun v hv => ?_, fun p q v hp hq hv => ?_, fun v h0 h1 _ => ?_⟩
 ·obtain ⟨p, hpl, e⟩ := List.getElem_of_mem hv
  obtain ⟨_, h2⟩ := hg p v (by rw [List.getElem?_eq_getElem hpl, e])
  split at h2
  ·exact .inr (by omega)
  ·exact .inl h2
 ·obtain ⟨_, h1⟩ := hg p v hp
  obtain ⟨_, h2⟩ := hg q v hq
  split at h1
  ·split at h2
   ·omega
   ·exact absurd h2 hv
  ·exact absurd h1 hv
 ·refine ⟨v.toNat, ?_, ?_⟩
  ·unfold at'
   rw [List.getD_eq_getElem?_getD, List.getElem?_eq_getElem (by simp [zer]; omega)]
   simp only [zer, List.getElem_map, List.getElem_range, Option.getD_some]
   rw [if_pos (by omega)]
  ·rw [List.getElem?_eq_getElem (by simp [ini]; omega)]
   simp only [ini, List.getElem_map, List.getElem_range]
   rw [if_pos (by omega)]
   congr 1
   omega
theorem alloc_l2 (R ys a : List Int) (j : Int) (hb : a.length + ys.length ≤ 1000) : spec_AllocatePlan.l2 R ys a j = some (a ++ ys.map (pos_ R)) := by
 induction ys generalizing a j with
 | nil => simp [spec_AllocatePlan.l2]
 | cons y ys ih =>
  simp only [List.length_cons] at hb
  simp only [spec_AllocatePlan.l2, place_eq, Option.bind_some]
  rw [ap_ok (by simp; omega), Option.bind_some, ih _ _ (by rw [List.length_append, List.length_singleton]; omega)]
  simp
theorem alloc_both (i : Int) (s : List SStep) (o : List Int) : ∃ n r1 r2 r3 b, Ev (fun k => spec_AllocatePlan.f k i s o) (n, r1, r2, r3, b) ∧ r1.length ≤ 1000 ∧ r2.length ≤ 1000 ∧ r3.length ≤ 1000 := by
 have e1 := plGood_ev i s o
 unfold spec_AllocatePlan.f
 cases hg : good i s o with
 | false =>
  rw [hg] at e1
  exact ⟨0, [], [], [], false, bind e1 (neg (by simp) (ret _)), by simp, by simp, by simp⟩
 | true =>
  rw [hg] at e1
  obtain ⟨I, rfl, hf⟩ := good_form hg
  have hin := hf.inp
  have hst := hf.stp
  have hou := hf.out
  have hp := prs_in hf
  obtain ⟨P, hP⟩ := Int.eq_ofNat_of_zero_le (show 0 ≤ prs I s o by omega)
  have hi : ∀ y ∈ iota s.length, 0 ≤ y ∧ y < (s.length : Int) := fun y hy => iota_mem.1 hy
  have ps := rePressure_ev hf (iota s.length) (by simp [iota]; omega) hi
  have hpe : press I s o (iota s.length) = (P : Int) := hP
  rw [hpe] at ps
  have hinv := inv_ini hf P hP.symm
  obtain ⟨R', A', C', a2, a3, a4⟩ := alloc_loops hf (ini P I) s 0 rfl (Nat.zero_le _) (ini P I) (zer (I + s.length) I) [] rfl rfl hinv
  rw [show ((0 : Nat) : Int) = 0 from rfl] at a2
  have hal := a3.alen
  -- outputs
  have hout : ∀ y ∈ o, pos_ R' y = at' A' y := fun y hy => by
   have hr := hf.os y hy
   refine a3.pos hr.1 (by omega) ?_
   unfold nd
   rw [decide_eq_true hy, Bool.true_or, Bool.and_true]
   by_cases c : y < (I : Int)
   ·rw [decide_eq_true c, Bool.true_or]
   ·rw [decide_eq_true (show y - (I : Int) ∈ iota s.length from iota_mem.2 (by omega)), Bool.or_true]
  have hmap : o.map (pos_ R') = o.map (at' A') := List.map_congr_left hout
  have o1 := alloc_l2 R' o [] 0 (by simp; omega)
  rw [List.nil_append, hmap] at o1
  refine ⟨(P : Int), iota I, C', o.map (at' A'), true, bind e1 (pos rfl (bind (a := ((P : Int), iota I)) (bind (upTo_ev s.length (by omega)) (bind ps (bind (upTo_ev I (by omega)) (ret _)))) (bind (spec_ini P I (by omega)) (bind a2 (bind0 o1 (ret _)))))), by simp [iota]; omega, by omega, by simp; omega⟩
theorem drawInputs {c : List Int} (hc : Bytes c) (hl : c.length ≤ 1048576) {a : Int} {m : Nat} (ha : Bud a (m + 1)) (sd : Int) : ∃ y a' sd', spec_l1Cur_inputs.f c a sd = some (y, a', sd') ∧ (1 ≤ y ∧ y ≤ 4) ∧ Bud a' m := by
 obtain ⟨y, a', sd', e, hy, hb⟩ := among_ev hc hl ha sd [1, 1, 2, 2, 3, 4] (by simp)
 unfold spec_l1Cur_inputs.f
 rw [e]
 refine ⟨_, _, _, rfl, ?_, hb⟩
 simp only [List.mem_cons, List.not_mem_nil, or_false] at hy
 omega
theorem put_len2 (l : List Int) (a : Int) : 0 < (put l a).length ∧ (put l a).length ≤ l.length + 1 := by
 induction l with
 | nil => simp [put]
 | cons y ys ih =>
  simp only [put]
  split
  ·simp only [List.length_cons]
   omega
  ·split
   ·simp
   ·simp
theorem code_l0 {c : List Int} (hc : Bytes c) (hl : c.length ≤ 1048576) (q : Int) (d : Nat) (f : List Int) (ops : List SRegOp) (a sd : Int) (m : Nat) (ha : Bud a (m + 3 * d)) (hf : 0 < f.length ∧ f.length + d ≤ 1000) (ho : ops.length + d ≤ 1000) : ∃ f' ops' a' sd', (∃ K, ∀ n, K ≤ n → ∀ e, d < e → spec_l1Cur_code9.l0 n c q e f ops a sd (d : Int) = some (f', ops', a', sd')) ∧ 0 < f'.length ∧ ops'.length = ops.length + d ∧ Bud a' m := by
 induction d generalizing f ops a sd with
 | zero =>
  refine ⟨f, ops, a, sd, ⟨0, fun n _ e he => ?_⟩, hf.1, rfl, ha.le (by omega)⟩
  obtain ⟨e, rfl⟩ : ∃ k, e = k + 1 := ⟨e - 1, by omega⟩
  simp only [spec_l1Cur_code9.l0]
  rw [if_neg (by omega)]
 | succ d ih =>
  obtain ⟨x, a1, s1, e1, _, _, b1⟩ := pick_ev hc hl (m := m + 3 * d + 2) (ha.le (by omega)) sd (w64 (2 + q))
  obtain ⟨y, a2, s2, e2, _, b2⟩ := among_ev hc hl (m := m + 3 * d + 1) b1 s1 f hf.1
  obtain ⟨z, a3, s3, e3, _, b3⟩ := among_ev hc hl (m := m + 3 * d) b2 s2 f hf.1
  have hp := put_len2 f x
  obtain ⟨f', ops', a', sd', ⟨K2, k2⟩, l1, l2, b4⟩ := ih (put f x) (ops ++ [⟨x, y, z⟩]) a3 s3 b3 (by omega) (by rw [List.length_append, List.length_singleton]; omega)
  obtain ⟨K1, k1⟩ := put_ev f x (by omega)
  refine ⟨f', ops', a', sd', ⟨max K1 K2, fun n hn e he => ?_⟩, l1, by rw [l2, List.length_append, List.length_singleton]; omega, b4⟩
  obtain ⟨e, rfl⟩ : ∃ k, e = k + 1 := ⟨e - 1, by omega⟩
  simp only [spec_l1Cur_code9.l0]
  rw [if_pos (by omega), e1, Option.bind_some]
  simp only
  rw [e2, Option.bind_some]
  simp only
  rw [e3, Option.bind_some]
  simp only
  have k1n : spec_l1Put.f n f x = some (put f x) := k1 n (by omega)
  rw [ap_ok (by simp; omega), Option.bind_some, k1n, Option.bind_some, zb6 (x := ((d + 1 : Nat) : Int) - 1) (by omega), show ((d + 1 : Nat) : Int) - 1 = (d : Int) by omega]
  exact k2 n (by omega) e (by omega)
/-- Code is drawn. -/
theorem drawCode {c : List Int} (hc : Bytes c) (hl : c.length ≤ 1048576) (a sd : Int) (m : Nat) (ha : Bud a (m + 400)) : ∃ i l1 l2 l3 a' sd', Ev (fun k => spec_l1Cur_code9.f k c a sd) (i, l1, l2, l3, a', sd') ∧ l1.length ≤ 1001 ∧ l2.length ≤ 1001 ∧ l3.length ≤ 1001 ∧ Bud a' m := by
 have first : ∃ a1 s1 i l1 l2 l3, Ev (fun k => ((spec_l1Cur_one.f c a sd 2).bind fun (b128, i129, i130) => if b128 = true then ((spec_l1Cur_inputs.f c i129 i130).bind fun (i133, i134, i135) => (spec_l1Cur_among.f c i134 i135 ([2, 5, 9] : List Int)).bind fun (i140, i141, i142) => (spec_l1Cur_plan.f k c i141 i142 i133 i140).bind fun (i144, l145, l146, i147, i148) => (spec_AllocatePlan.f k i144 l145 l146).bind fun (i154, l155, l156, l157, b158) => some (i147, i148, i154, l155, l156, l157)) else ((spec_l1Cur_pick.f c i129 i130 4).bind fun (i166, i167, i168) => (spec_l1Cur_pick.f c i167 i168 7).bind fun (i176, i177, i178) => (spec_l1Cur_code9.l0 k c i166 k ([0] : List Int) ([] : List SRegOp) i177 i178 i176).bind fun (l180, l183, i186, i187) => (spec_l1Cur_among.f c i186 i187 l180).bind fun (i226, i227, i228) => some (i227, i228, w64 (2 + i166), ([0] : List Int), l183, ([i226] : List Int))))) (a1, s1, i, l1, l2, l3) ∧ l1.length ≤ 1000 ∧ l2.length ≤ 1000 ∧ l3.length ≤ 1000 ∧ Bud a1 (m + 50) := by
  obtain ⟨b, a1, s1, e1, b1⟩ := one_ev hc hl (m := m + 399) ha sd 2
  cases b with
  | true =>
   obtain ⟨y, a2, s2, e2, hy, b2⟩ := drawInputs hc hl (m := m + 398) b1 s1
   obtain ⟨z, a3, s3, e3, hz, b3⟩ := among_ev hc hl (m := m + 397) b2 s2 [2, 5, 9] (by simp)
   simp only [List.mem_cons, List.not_mem_nil, or_false] at hz
   obtain ⟨i, s, o, a4, s4, e4, ls, lo, b4⟩ := drawPlan hc hl a3 s3 y z (by omega) (m + 50) (b3.le (by omega))
   obtain ⟨n, r1, r2, r3, b, f1, f3, f4, f5⟩ := alloc_both i s o
   exact ⟨a4, s4, n, r1, r2, r3, bind0 e1 (pos rfl (bind0 e2 (bind0 e3 (bind e4 (bind f1 (ret _)))))), f3, f4, f5, b4⟩
  | false =>
   obtain ⟨x, a2, s2, e2, x0, x1, b2⟩ := pick_ev hc hl (m := m + 398) b1 s1 4
   obtain ⟨y, a3, s3, e3, y0, y1, b3⟩ := pick_ev hc hl (m := m + 397) b2 s2 7
   obtain ⟨d, rfl⟩ := Int.eq_ofNat_of_zero_le y0
   obtain ⟨f', ops', a4, s4, ⟨K, e4⟩, l1, l2, b4⟩ := code_l0 hc hl x d [0] [] a3 s3 (m + 300) (b3.le (by omega)) (by simp; omega) (by simp; omega)
   obtain ⟨w, a5, s5, e5, _, b5⟩ := among_ev hc hl (m := m + 299) b4 s4 f' l1
   have e4' : Ev (fun k => spec_l1Cur_code9.l0 k c x k ([0] : List Int) ([] : List SRegOp) a3 s3 (d : Int)) (f', ops', a4, s4) := ⟨max K (d + 1), fun n hn => e4 n (by omega) n (by omega)⟩
   exact ⟨a5, s5, _, _, _, _, bind0 e1 (neg (by simp) (bind0 e2 (bind0 e3 (bind e4' (bind0 e5 (ret _)))))), by simp, by rw [l2]; simp; omega, by simp, b5.le (by omega)⟩
 obtain ⟨a1, s1, i, l1, l2, l3, e1, q1, q2, q3, b1⟩ := first
 obtain ⟨x, a2, s2, e2, x0, x1, b2⟩ := pick_ev hc hl (m := m + 49) b1 s1 24
 unfold spec_l1Cur_code9.f
 by_cases c0 : x = 0
 ·obtain ⟨y, a3, s3, e3, _, b3⟩ := among_ev hc hl (m := m + 48) b2 s2 [0, 1, (-1), 46, 47] (by simp)
  exact ⟨_, _, _, _, _, _, bind e1 (bind (a := (y, l1, l2, l3, a3, s3)) (bind0 e2 (pos c0 (bind0 e3 (ret _)))) (ret _)), by omega, by omega, by omega, b3.le (by omega)⟩
 ·by_cases c1 : x = 1
  ·obtain ⟨y, a3, s3, e3, _, _, b3⟩ := pick_ev hc hl (m := m + 48) b2 s2 4
   obtain ⟨z, a4, s4, e4, _, b4⟩ := among_ev hc hl (m := m + 47) b3 s3 [0, 1, (-1), 99] (by simp)
   exact ⟨_, _, _, _, _, _, bind e1 (bind (a := (i, l1, l2 ++ [⟨0, y, z⟩], l3, a4, s4)) (bind0 e2 (neg c0 (pos c1 (bind0 e3 (bind0 e4 (bind0 (ap_ok (by simp; omega)) (ret _))))))) (ret _)), by omega, by simp; omega, by omega, b4.le (by omega)⟩
  ·by_cases c2 : x = 2
   ·obtain ⟨y, a3, s3, e3, _, _, b3⟩ := pick_ev hc hl (m := m + 48) b2 s2 3
    exact ⟨_, _, _, _, _, _, bind e1 (bind (a := (i, l1 ++ [y], l2, l3, a3, s3)) (bind0 e2 (neg c0 (neg c1 (pos c2 (bind0 e3 (bind0 (ap_ok (by simp; omega)) (ret _))))))) (ret _)), by simp; omega, by omega, by omega, b3.le (by omega)⟩
   ·by_cases c3 : x = 3
    ·obtain ⟨y, a3, s3, e3, _, _, b3⟩ := pick_ev hc hl (m := m + 48) b2 s2 6
     exact ⟨_, _, _, _, _, _, bind e1 (bind (a := (i, l1, l2, l3 ++ [y], a3, s3)) (bind0 e2 (neg c0 (neg c1 (neg c2 (pos c3 (bind0 e3 (bind0 (ap_ok (by simp; omega)) (ret _)))))))) (ret _)), by omega, by omega, by simp; omega, b3.le (by omega)⟩
    ·exact ⟨_, _, _, _, _, _, bind e1 (bind (a := (i, l1, l2, l3, a2, s2)) (bind0 e2 (neg c0 (neg c1 (neg c2 (neg c3 (ret _)))))) (ret _)), by omega, by omega, by omega, b2.le (by omega)⟩
end Go.Proofs.YtnnlfipcoahcnaaGreatDoor.Pure
