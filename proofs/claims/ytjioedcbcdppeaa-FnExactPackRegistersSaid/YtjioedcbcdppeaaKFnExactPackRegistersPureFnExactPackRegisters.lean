/- Pure: registers packed. -/
import Derived.Test.YtjioedcbcdppeaaKFnExactPackRegistersPcf
set_option linter.unusedVariables false
set_option linter.unusedSimpArgs false
namespace Go.Proofs.Ytjioedcbcdppeaa.Pure
open Go.RowKit Go.Proofs.Ytjioedcbcdppeaa.E Go.Proofs.Ytjioedcbcdppeaa.G3 Go.Proofs.Ytjioedcbcdppeaa.Frame Go.Proofs.YtjioedcbcdppeaaW.PrintLast Go.Proofs.YtjioedcbcdppeaaW.PrintMore
open Go.Proofs.YtjioedcbcdppeaaW.PrintWords hiding mn mx
open Go.Proofs.Ytjioedcbcdppeaa.Hand
/-- The place of a number in a list, or -1. -/
def pos_ : List Int → Int → Int
  | [], _ => -1
  | y :: ys, r => if y = r then 0 else if pos_ ys r = -1 then -1 else pos_ ys r + 1
theorem pos_ge (T : List Int) (r : Int) : -1 ≤ pos_ T r := by
  induction T with
  | nil => exact Int.le_refl _
  | cons y ys ih =>
    simp only [pos_]
    split
    · omega
    · split <;> omega
theorem pos_none {T : List Int} {r : Int} : pos_ T r = -1 ↔ r ∉ T := by
  induction T with
  | nil => simp [pos_]
  | cons y ys ih =>
    have := pos_ge ys r
    simp only [pos_]
    by_cases e : y = r
    · rw [if_pos e]
      simp [e]
    · rw [if_neg e]
      have e' : ¬ r = y := fun q => e q.symm
      by_cases c : pos_ ys r = -1
      · rw [if_pos c]
        simp [e', ih.1 c]
      · rw [if_neg c]
        have : r ∈ ys := Classical.byContradiction fun q => c (ih.2 q)
        simp [this]
        omega
theorem pos_app (T : List Int) (y r : Int) : pos_ (T ++ [y]) r = if r ∈ T then pos_ T r else if y = r then (T.length : Int) else -1 := by
  induction T with
  | nil => simp [pos_]
  | cons z T ih =>
    simp only [List.cons_append, pos_, ih, List.length_cons]
    by_cases e : z = r
    · simp [e]
    · have e' : ¬ r = z := fun q => e q.symm
      rw [if_neg e, if_neg e]
      by_cases m : r ∈ T
      · rw [if_pos m, if_pos (List.mem_cons_of_mem _ m)]
      · have m' : r ∉ z :: T := by simp [e', m]
        simp only [if_neg m, if_neg m']
        by_cases c : y = r
        · simp only [if_pos c]
          rw [if_neg (by omega)]
          omega
        · simp only [if_neg c]
          rfl
def tell (T : List Int) (y : Int) : List Int := if y ∈ T then T else T ++ [y]
def tells (ys T : List Int) : List Int := ys.foldl tell T
def tops (ys : List SRegOp) (T : List Int) : List Int := ys.foldl (fun T y => tells [y.f1, y.f2, y.f0] T) T
theorem tell_mem {T : List Int} {y r : Int} : r ∈ tell T y ↔ r ∈ T ∨ r = y := by
  unfold tell
  by_cases c : y ∈ T
  · rw [if_pos c]
    exact ⟨.inl, fun h => h.elim id (fun e => by rw [e]; exact c)⟩
  · rw [if_neg c]
    simp
theorem tells_mem {ys T : List Int} {r : Int} : r ∈ tells ys T ↔ r ∈ T ∨ r ∈ ys := by
  unfold tells
  induction ys generalizing T with
  | nil => simp
  | cons y ys ih =>
    rw [List.foldl_cons, ih, tell_mem, List.mem_cons, or_assoc]
theorem tops_mem {ys : List SRegOp} {T : List Int} {r : Int} : r ∈ tops ys T ↔ r ∈ T ∨ ∃ y ∈ ys, r = y.f1 ∨ r = y.f2 ∨ r = y.f0 := by
  unfold tops
  induction ys generalizing T with
  | nil => simp
  | cons y ys ih =>
    rw [List.foldl_cons, ih, tells_mem]
    simp only [List.mem_cons, List.not_mem_nil, or_false, exists_eq_or_imp, or_assoc]
theorem tell_nodup {T : List Int} {y : Int} (h : T.Nodup) : (tell T y).Nodup := by
  unfold tell
  by_cases c : y ∈ T
  · rwa [if_pos c]
  · rw [if_neg c, List.nodup_append]
    exact ⟨h, by simp, fun a ha b hb => by rw [List.mem_singleton.1 hb]; exact fun e => c (e ▸ ha)⟩
theorem tells_nodup {ys T : List Int} (h : T.Nodup) : (tells ys T).Nodup := by
  unfold tells
  induction ys generalizing T with
  | nil => exact h
  | cons y ys ih => exact ih (tell_nodup h)
theorem tops_nodup {ys : List SRegOp} {T : List Int} (h : T.Nodup) : (tops ys T).Nodup := by
  unfold tops
  induction ys generalizing T with
  | nil => exact h
  | cons y ys ih => exact ih (tells_nodup h)
theorem tell_len (T : List Int) (y : Int) : (tell T y).length ≤ T.length + 1 := by
  unfold tell
  split
  · omega
  · simp
theorem tells_len (ys T : List Int) : (tells ys T).length ≤ T.length + ys.length := by
  unfold tells
  induction ys generalizing T with
  | nil => simp
  | cons y ys ih =>
    rw [List.foldl_cons, List.length_cons]
    have := ih (tell T y)
    have := tell_len T y
    omega
theorem tops_len (ys : List SRegOp) (T : List Int) : (tops ys T).length ≤ T.length + 3 * ys.length := by
  unfold tops
  induction ys generalizing T with
  | nil => simp
  | cons y ys ih =>
    rw [List.foldl_cons, List.length_cons]
    have := ih (tells [y.f1, y.f2, y.f0] T)
    have := tells_len [y.f1, y.f2, y.f0] T
    simp only [List.length_cons, List.length_nil] at this
    omega
theorem dst_tells (p ys : List Int) (h : dst p ys = true) : tells ys p = p ++ ys := by
  unfold tells
  induction ys generalizing p with
  | nil => simp
  | cons y ys ih =>
    simp only [dst, Bool.and_eq_true, Bool.not_eq_true', decide_eq_false_iff_not] at h
    rw [List.foldl_cons, tell, if_neg h.1, ih _ h.2]
    simp
/-- The program's names: each register's place among those that are told. -/
structure Nm (n : Nat) (v T : List Int) : Prop where
  len : v.length = n
  at_ : ∀ r, hs n r = true → rg v r = pos_ T r
theorem impl_tells (n : Nat) (ys v T : List Int) (j : Int) (h : Nm n v T) (hy : ∀ y ∈ ys, hs n y = true) (hb : T.length + ys.length ≤ 1000) : ∃ v', impl_PackRegisters_1.l0 ys v (T.length : Int) j = some (v', ((tells ys T).length : Int)) ∧ Nm n v' (tells ys T) := by
  induction ys generalizing v T j with
  | nil => exact ⟨v, rfl, h⟩
  | cons y ys ih =>
    simp only [List.length_cons] at hb
    have q := hs_iff.1 (hy y List.mem_cons_self)
    have hv := h.len
    have hr := fun z hz => hy z (List.mem_cons_of_mem _ hz)
    simp only [impl_PackRegisters_1.l0]
    rw [rg_gt q.1 (by omega)]
    simp only [Option.bind_some]
    have e := h.at_ y (hy y List.mem_cons_self)
    by_cases c : y ∈ T
    · have e2 : rg v y ≠ -1 := by rw [e]; exact fun g => pos_none.1 g c
      have e3 : tells (y :: ys) T = tells ys T := by
        unfold tells
        rw [List.foldl_cons, tell, if_pos c]
      rw [if_neg e2, e3]
      exact ih v T (j + 1) h hr (by omega)
    · have e2 : rg v y = -1 := by rw [e]; exact pos_none.2 c
      have e3 : tells (y :: ys) T = tells ys (T ++ [y]) := by
        unfold tells
        rw [List.foldl_cons, tell, if_neg c]
      rw [if_pos e2, rg_st q.1 (by omega), Option.bind_some, e3, w64_id (by omega)]
      have := ih (v.set y.toNat (T.length : Int)) (T ++ [y]) (j + 1) ⟨by simpa using hv, fun r hr1 => by
        have qr := hs_iff.1 hr1
        rw [rg_set qr.1 (by omega) q.1, pos_app]
        by_cases e : y = r
        · rw [if_pos e, if_neg (e ▸ c), if_pos e]
        · rw [if_neg e, if_neg e, h.at_ r hr1]
          by_cases m : r ∈ T
          · rw [if_pos m]
          · rw [if_neg m, pos_none.2 m]⟩ hr (by rw [List.length_append, List.length_singleton]; omega)
      rw [List.length_append, List.length_singleton, show ((T.length + 1 : Nat) : Int) = (T.length : Int) + 1 by omega] at this
      exact this
theorem impl_tops (n : Nat) (ys : List SRegOp) (v T : List Int) (j : Int) (h : Nm n v T) (hy : ∀ y ∈ ys, hs n y.f0 = true ∧ hs n y.f1 = true ∧ hs n y.f2 = true) (hb : T.length + 3 * ys.length ≤ 1000) : ∃ v', impl_PackRegisters.l0 ys v (T.length : Int) j = some (v', ((tops ys T).length : Int)) ∧ Nm n v' (tops ys T) := by
  induction ys generalizing v T j with
  | nil => exact ⟨v, rfl, h⟩
  | cons y ys ih =>
    simp only [List.length_cons] at hb
    have hq := hy y List.mem_cons_self
    obtain ⟨v', e1, h1⟩ := impl_tells n [y.f1, y.f2, y.f0] v T 0 h (fun z hz => by
      rcases List.mem_cons.1 hz with e | hz
      · rw [e]; exact hq.2.1
      · rcases List.mem_cons.1 hz with e | hz
        · rw [e]; exact hq.2.2
        · rw [List.mem_singleton.1 hz]; exact hq.1) (by simp; omega)
    have hl := tells_len [y.f1, y.f2, y.f0] T
    simp only [List.length_cons, List.length_nil] at hl
    obtain ⟨v2, e2, h2⟩ := ih v' (tells [y.f1, y.f2, y.f0] T) (j + 1) h1 (fun z hz => hy z (List.mem_cons_of_mem _ hz)) (by omega)
    refine ⟨v2, ?_, h2⟩
    simp only [impl_PackRegisters.l0, impl_PackRegisters_1.f]
    rw [e1]
    simp only [Option.bind_some]
    rw [e2]
    rfl
theorem spec_tells (ys T : List Int) (j : Int) (hb : T.length + ys.length ≤ 1000) : spec_PackRegisters.l2 ys T j = some (tells ys T) := by
  induction ys generalizing T j with
  | nil => rfl
  | cons y ys ih =>
    simp only [List.length_cons] at hb
    simp only [spec_PackRegisters.l2, l1Has_eq, Option.bind_some]
    unfold tells
    rw [List.foldl_cons]
    by_cases c : y ∈ T
    · rw [if_pos (decide_eq_true c), tell, if_pos c]
      exact ih T (j + 1) (by omega)
    · rw [if_neg (by simpa using c), ap_ok (by simp; omega), Option.bind_some, tell, if_neg c]
      exact ih (T ++ [y]) (j + 1) (by rw [List.length_append, List.length_singleton]; omega)
theorem spec_tops (ys : List SRegOp) (T : List Int) (j : Int) (hb : T.length + 3 * ys.length ≤ 1000) : spec_PackRegisters.l0 ys T j = some (tops ys T) := by
  induction ys generalizing T j with
  | nil => rfl
  | cons y ys ih =>
    simp only [List.length_cons] at hb
    have hl := tells_len [y.f1, y.f2, y.f0] T
    simp only [List.length_cons, List.length_nil] at hl
    simp only [spec_PackRegisters.l0]
    rw [spec_tells _ _ _ (by simp; omega), Option.bind_some]
    exact ih _ (j + 1) (by omega)
theorem spec_names (n : Nat) (ys p v : List Int) (hv : v.length = n) (hy : ∀ y ∈ ys, hs n y = true) (hd : (p ++ ys).Nodup) (h : ∀ r ∈ p, hs n r = true → rg v r = pos_ p r) : ∃ v', spec_PackRegisters.l1 ys v (p.length : Int) = some v' ∧ v'.length = n ∧ ∀ r ∈ p ++ ys, hs n r = true → rg v' r = pos_ (p ++ ys) r := by
  induction ys generalizing p v with
  | nil => exact ⟨v, rfl, hv, by simpa using h⟩
  | cons y ys ih =>
    have q := hs_iff.1 (hy y List.mem_cons_self)
    have hn : y ∉ p := fun hm => by
      rw [List.nodup_append] at hd
      exact hd.2.2 y hm y List.mem_cons_self rfl
    simp only [spec_PackRegisters.l1]
    rw [rg_gt q.1 (by omega), rg_st q.1 (by omega)]
    simp only [Option.bind_some]
    have := ih (p ++ [y]) (v.set y.toNat (p.length : Int)) (by simpa using hv) (fun z hz => hy z (List.mem_cons_of_mem _ hz)) (by simpa using hd) (fun r hr hr1 => by
      have qr := hs_iff.1 hr1
      rw [rg_set qr.1 (by omega) q.1, pos_app]
      by_cases e : y = r
      · rw [if_pos e, if_neg (e ▸ hn), if_pos e]
      · have hm : r ∈ p := by
          rcases List.mem_append.1 hr with g | g
          · exact g
          · exact absurd (List.mem_singleton.1 g).symm e
        rw [if_neg e, if_pos hm]
        exact h r hm hr1)
    rw [List.length_append, List.length_singleton, show ((p.length + 1 : Nat) : Int) = (p.length : Int) + 1 by omega, List.append_assoc] at this
    exact this
theorem pack_both (a : Int) (l1 : List Int) (l2 : List SRegOp) (l3 : List Int) : ∃ i r1 r2 r3 b, Ev (fun k => spec_PackRegisters.f k a l1 l2 l3) (i, r1, r2, r3, b) ∧ Ev (fun k => impl_PackRegisters.f k a l1 l2 l3) (i, r1, r2, r3, b) ∧ r1.length ≤ 1000 ∧ r2.length ≤ 1000 ∧ r3.length ≤ 1000 := by
  have e1 := reCode_ev a l1 l2 l3
  have e2 := isRegCode_ev a l1 l2 l3
  unfold spec_PackRegisters.f impl_PackRegisters.f
  cases hc : codeP a l1 l2 l3 with
  | none =>
    rw [hc] at e1 e2
    exact ⟨0, [], [], [], false, bind e1 (neg (by simp) (ret _)), bind e2 (neg (by simp) (ret _)), by simp, by simp, by simp⟩
  | some q =>
    obtain ⟨s, o⟩ := q
    rw [hc] at e1 e2
    obtain ⟨n, rfl, h, _⟩ := codeP_ok hc
    have b0 := h.reg
    have b1 := h.len1
    have b2 := h.len2
    have b3 := h.len3
    have hT := dst_tells [] l1 h.dist
    rw [List.nil_append] at hT
    have hnd0 : l1.Nodup := by rw [← hT]; exact tells_nodup List.nodup_nil
    have hnd : (tops l2 l1).Nodup := tops_nodup hnd0
    have hlen := tops_len l2 l1
    have hin : ∀ r ∈ tops l2 l1, hs n r = true := fun r hr => by
      rcases tops_mem.1 hr with g | ⟨y, hy, g⟩
      · exact h.ins r g
      · have := h.ops y hy
        rcases g with g | g | g <;> rw [g]
        · exact this.2.1
        · exact this.2.2
        · exact this.1
    -- the reference
    have f1 := l1Own_eq l1 (by omega)
    have f2 := spec_tops l2 l1 0 (by omega)
    have f3 : mk0 ((n : Nat) : Int) (0 : Int) = some (List.replicate n 0) := by
      unfold mk0
      rw [if_pos (by omega), Int.toNat_natCast]
    obtain ⟨sv, f4, f5, f6⟩ := spec_names n (tops l2 l1) [] (List.replicate n 0) (by simp) hin (by simpa using hnd) (fun r hr => nomatch hr)
    rw [show (([] : List Int).length : Int) = 0 from rfl] at f4
    rw [List.nil_append] at f6
    have f7 := (called_eq h sv f5 (n : Int) ((tops l2 l1).length : Int)).2
    -- the program
    have g1 : slices_Repeat_int_int.f ([(-1)] : List Int) ((n : Nat) : Int) = some (no n) := by
      unfold slices_Repeat_int_int.f
      rw [if_pos ⟨rfl, by omega, by omega⟩]
      rfl
    obtain ⟨v1, g2, g3⟩ := impl_tells n l1 (no n) [] 0 ⟨by simp [no], fun r hr => no_rg hr⟩ h.ins (by simp; omega)
    rw [show (([] : List Int).length : Int) = 0 from rfl, hT] at g2
    rw [hT] at g3
    obtain ⟨v2, g4, g5⟩ := impl_tops n l2 v1 l1 0 g3 h.ops (by omega)
    have g6 := (called_eq h v2 g5.len (n : Int) ((tops l2 l1).length : Int)).1
    have same : ∀ r ∈ tops l2 l1, rg v2 r = rg sv r := fun r hr => by rw [g5.at_ r (hin r hr), f6 r hr (hin r hr)]
    have m1 : l1.map (rg v2) = l1.map (rg sv) := List.map_congr_left fun r hr => same r (tops_mem.2 (.inl hr))
    have m2 : l2.map (opMap v2) = l2.map (opMap sv) := List.map_congr_left fun y hy => by
      unfold opMap
      rw [same _ (tops_mem.2 (.inr ⟨y, hy, .inr (.inr rfl)⟩)), same _ (tops_mem.2 (.inr ⟨y, hy, .inl rfl⟩)), same _ (tops_mem.2 (.inr ⟨y, hy, .inr (.inl rfl)⟩))]
    have m3 : l3.map (rg v2) = l3.map (rg sv) := List.map_congr_left fun r hr => same r (by
      rcases h.full r hr with g | ⟨y, hy, g⟩
      · exact tops_mem.2 (.inl g)
      · exact tops_mem.2 (.inr ⟨y, hy, .inr (.inr g.symm)⟩))
    rw [m1, m2, m3] at g6
    have g2' : impl_PackRegisters_1.f l1 (no n) 0 = some (v1, (l1.length : Int)) := by
      unfold impl_PackRegisters_1.f
      rw [g2]
      rfl
    exact ⟨((tops l2 l1).length : Int), l1.map (rg sv), l2.map (opMap sv), l3.map (rg sv), true, bind e1 (pos rfl (bind0 f1 (bind0 f2 (bind0 f3 (bind0 f4 (bind0 f7 (ret _))))))), bind e2 (pos rfl (bind0 g1 (bind0 g2' (bind0 g4 (bind0 g6 (ret _)))))), by simp; omega, by simp; omega, by simp; omega⟩
set_option maxHeartbeats 4000000 in
theorem FnExactPackRegisters : laws_FnExactPackRegisters.Pure := by
  intro a l1 l2 l3 _ h1 _ h2 _ h3 _
  refine some_of ?_
  unfold laws_FnExactPackRegisters.f
  obtain ⟨v, e1, e2⟩ := szCode_eq a l1 l2 l3 h1 h2 h3
  refine bind0 e1 ?_
  by_cases c : v < 0
  · exact pos c (ret _)
  · refine neg c ?_
    obtain ⟨k1, k2, k3⟩ := e2 (by omega)
    have ht := toCode_ev a l1 l2 l3 (by omega) (by omega) (by omega)
    have hqc := eqCode_refl a l1 l2 l3 (by omega) (by omega) (by omega)
    have hmc := markCode_ev a l1 l2 l3 1 (by omega) (by omega)
    obtain ⟨i, r1, r2, r3, b, b1, b2, b3, b4, b5⟩ := pack_both a l1 l2 l3
    have he := eqCode_refl i r1 r2 r3 (by omega) (by omega) (by omega)
    have hk := markCode_ev i r1 r2 r3 1 (by omega) (by omega)
    have hh := heldCode_ev i r1.length r2.length r3.length 1 (by omega) (by omega)
    have hb : (b != b) = false := by cases b <;> rfl
    refine bind ht (bind b1 (bind ht (bind b2 (bind he (pos rfl ?_)))))
    simp only [hb]
    refine neg (by simp) (bind ht (bind hqc (pos rfl (bind hmc (neg (by omega) (bind he (pos rfl (bind hk (bind hh (neg (by omega) (neg (by simp) (bind ht (bind b2 (bind he (pos rfl ?_)))))))))))))))
    simp only [hb]
    exact neg (by simp) (bind hh (neg (by omega) (neg (by simp) (ret _))))
end Go.Proofs.Ytjioedcbcdppeaa.Pure
