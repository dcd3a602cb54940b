/- Pure: Prnlaw. -/
import Derived.Test.YtnnlfipcoahcnaaGreatDoorKFnRenamedRegistersPme
import Derived.Test.YtnnlfipcoahcnaaGreatDoorKFnRenamedRegistersPmd
import Derived.Test.YtnnlfipcoahcnaaGreatDoorKFnRenamedRegistersPmc
set_option linter.unusedVariables false
set_option linter.unusedSimpArgs false
namespace Go.Proofs.YtnnlfipcoahcnaaGreatDoor.Pure
open Go.RowKit Go.Proofs.YtnnlfipcoahcnaaGreatDoor.E Go.Proofs.YtnnlfipcoahcnaaGreatDoor.G3 Go.Proofs.YtnnlfipcoahcnaaGreatDoor.Hand Go.Proofs.YtnnlfipcoahcnaaGreatDoor.Frame Go.Proofs.YtnnlfipcoahcnaaGreatDoorW.PrintLast Go.Proofs.YtnnlfipcoahcnaaGreatDoorW.PrintMore Go.Lib Go.Proofs.YtnnlfipcoahcnaaGreatDoor.Txl
open Go.Proofs.YtnnlfipcoahcnaaGreatDoorW.PrintWords hiding mn mx
theorem strOf_one (x : Int) : strOfNums ([x] : List Int) = bs [UInt8.ofNat x.toNat] := rfl
/-- A text is spoilt. -/
theorem spoil_l0 {c : List Int} (hc : Bytes c) (hl : c.length ≤ 1048576) (w : List UInt8) (hw : 0 < w.length) (d : Nat) (l : List UInt8) (a sd : Int) (m : Nat) (ha : Bud a (m + 3 * d)) (hd : l.length + d ≤ 1000000) : ∃ l' a' sd', Ev (fun k => spec_l1Cur_spoilt.l0 c (bs w) k a sd (bs l) (d : Int)) (bs l', a', sd') ∧ l'.length ≤ l.length + d := by
 induction d generalizing l a sd with
 | zero =>
  refine ⟨l, a, sd, shift ?_, by omega⟩
  simp only [spec_l1Cur_spoilt.l0]
  exact neg (by omega) (ret _)
 | succ d ih =>
  by_cases h0 : l.length = 0
  ·refine ⟨l, a, sd, shift ?_, by omega⟩
   simp only [spec_l1Cur_spoilt.l0]
   rw [bs_size]
   exact pos (by omega) (neg (by omega) (ret _))
  ·obtain ⟨x, a1, s1, e1, x0, x1, b1⟩ := pick_ev hc hl (m := m + 3 * d + 2) (ha.le (by omega)) sd (l.length : Int)
   obtain ⟨j, rfl⟩ := Int.eq_ofNat_of_zero_le x0
   have hj : j < l.length := by omega
   obtain ⟨y, a2, s2, e2, y0, y1, b2⟩ := pick_ev hc hl (m := m + 3 * d + 1) b1 s1 (w.length : Int)
   obtain ⟨q, rfl⟩ := Int.eq_ofNat_of_zero_le y0
   have hq : q < w.length := by omega
   have e3 := gts_bs (l := w) (j := q) hq
   obtain ⟨z, a4, s4, e4, z0, z1, b4⟩ := pick_ev hc hl (m := m + 3 * d) b2 s2 3
   have c1 : cts (bs l) 0 (j : Int) = some (bs ((l.drop 0).take (j - 0))) := cts_bs (a := 0) (by omega) (by omega)
   have c2 : cts (bs l) (j : Int) (l.length : Int) = some (bs ((l.drop j).take (l.length - j))) := cts_bs (by omega) (by omega)
   have c3 : cts (bs l) (w64 ((j : Int) + 1)) (l.length : Int) = some (bs ((l.drop (j + 1)).take (l.length - (j + 1)))) := by
    rw [zb6 (by omega), show (j : Int) + 1 = ((j + 1 : Nat) : Int) by omega]
    exact cts_bs (by omega) (by omega)
   have hd1 : w64 (((d + 1 : Nat) : Int) - 1) = (d : Int) := by rw [zb6 (by omega)]; omega
   by_cases c4 : z = 0
   ·obtain ⟨l', a', sd', h1, h2⟩ := ih (((l.drop 0).take (j - 0) ++ [UInt8.ofNat ((w[q].toNat : Nat) : Int).toNat]) ++ (l.drop j).take (l.length - j)) a4 s4 b4 (by simp; omega)
    refine ⟨l', a', sd', shift ?_, Nat.le_trans h2 (by simp; omega)⟩
    simp only [spec_l1Cur_spoilt.l0, hd1, strOf_one]
    rw [bs_size, bs_size]
    exact pos (by omega) (pos (by omega) (bind0 e1 (bind0 e2 (bind0 e3 (bind0 e4 (pos c4 (bind0 c1 (bind0 (sap_bs (by simp; omega)) (bind0 c2 (bind0 (sap_bs (by simp; omega)) h1))))))))))
   ·by_cases c5 : z = 1
    ·obtain ⟨l', a', sd', h1, h2⟩ := ih (((l.drop 0).take (j - 0) ++ [UInt8.ofNat ((w[q].toNat : Nat) : Int).toNat]) ++ (l.drop (j + 1)).take (l.length - (j + 1))) a4 s4 b4 (by simp; omega)
     refine ⟨l', a', sd', shift ?_, Nat.le_trans h2 (by simp; omega)⟩
     simp only [spec_l1Cur_spoilt.l0, hd1, strOf_one]
     rw [bs_size, bs_size]
     exact pos (by omega) (pos (by omega) (bind0 e1 (bind0 e2 (bind0 e3 (bind0 e4 (neg c4 (pos c5 (bind0 c1 (bind0 (sap_bs (by simp; omega)) (bind0 c3 (bind0 (sap_bs (by simp; omega)) h1)))))))))))
    ·obtain ⟨l', a', sd', h1, h2⟩ := ih ((l.drop 0).take (j - 0) ++ (l.drop (j + 1)).take (l.length - (j + 1))) a4 s4 b4 (by simp; omega)
     refine ⟨l', a', sd', shift ?_, Nat.le_trans h2 (by simp; omega)⟩
     simp only [spec_l1Cur_spoilt.l0, hd1, strOf_one]
     rw [bs_size, bs_size]
     exact pos (by omega) (pos (by omega) (bind0 e1 (bind0 e2 (bind0 e3 (bind0 e4 (neg c4 (neg c5 (bind0 c1 (bind0 c3 (bind0 (sap_bs (by simp; omega)) h1))))))))))
theorem spoil_ev {c : List Int} (hc : Bytes c) (hl : c.length ≤ 1048576) (w : List UInt8) (hw : 0 < w.length) (l : List UInt8) (a sd : Int) (ha : Bud a 20) (hd : l.length ≤ 900000) : ∃ l' a' sd', Ev (fun k => spec_l1Cur_spoilt.f k c a sd (bs l) (bs w)) (bs l', a', sd') ∧ l'.length ≤ 1000000 := by
 obtain ⟨x, a1, s1, e1, x0, x1, b1⟩ := pick_ev hc hl (m := 19) (ha.le (by omega)) sd 2
 obtain ⟨q, rfl⟩ := Int.eq_ofNat_of_zero_le x0
 obtain ⟨l', a', sd', h1, h2⟩ := spoil_l0 hc hl w hw (1 + q) l a1 s1 0 (b1.le (by omega)) (by omega)
 refine ⟨l', a', sd', ?_, by omega⟩
 unfold spec_l1Cur_spoilt.f
 refine bind0 e1 ?_
 show Ev (fun n => spec_l1Cur_spoilt.l0 c (bs w) n a1 s1 (bs l) (w64 (1 + (q : Int)))) _
 rw [zb6 (by omega), show (1 : Int) + (q : Int) = ((1 + q : Nat) : Int) by omega]
 exact h1
theorem ctx_len {a : Int} {l1 : List Int} {l2 : List SRegOp} {l3 : List Int} (h : LoC a l1 l2 l3) : (ctx a l1 l2 l3).length ≤ 100000 := by
 have k1 := dn_len h.a
 have k2 := lsd_len (sop_le h.c)
 have k3 := lsd_len (dn_le h.b)
 have k4 := lsd_len (dn_le h.d)
 have q1 := h.lb
 have q2 := h.lc
 have q3 := h.ld
 rw [List.length_map] at k2 k3 k4
 unfold ctx
 simp only [List.length_append, List.length_cons]
 omega
/-- A text of register code is drawn. -/
theorem drawCText {c : List Int} (hc : Bytes c) (hl : c.length ≤ 1048576) : ∃ l, Ev (fun k => spec_DrawParseRegCode.f k c) (bs l) ∧ l.length ≤ 1000000 := by
 obtain ⟨i, l1, l2, l3, a1, s1, e1, _, _, _, b1⟩ := drawCode hc hl 0 0 100 (⟨by omega, by omega⟩)
 have e2 := reCode_ev i l1 l2 l3
 obtain ⟨t, ht, e3⟩ : ∃ t : List UInt8, t.length ≤ 100000 ∧ Ev (fun k => (spec_reCode.f k i l1 l2 l3).bind fun b30 => if b30 = true then ((spec_reText.f k i l1 l2 l3).bind fun s33 => some s33) else (some (⟨#[49, 58, 48, 58, 45, 58, 48]⟩ : ByteArray))) (bs t) := by
  cases hk : (codeP i l1 l2 l3).isSome with
  | true =>
   rw [hk] at e2
   have hlo := cok_lo (a := i) (l1 := l1) (l2 := l2) (l3 := l3) hk
   exact ⟨_, ctx_len hlo, bind e2 (pos rfl (bind (reText_ev hlo) (ret _)))⟩
  | false =>
   rw [hk] at e2
   exact ⟨[49, 58, 48, 58, 45, 58, 48], by simp, bind e2 (neg (by simp) (ret _))⟩
 obtain ⟨b, a2, s2, e4, b2⟩ := one_ev hc hl (m := 99) b1 s1 3
 cases b with
 | false =>
  refine ⟨t, ?_, by omega⟩
  unfold spec_DrawParseRegCode.f
  exact bind e1 (bind e3 (bind0 e4 (neg (by simp) (ret _))))
 | true =>
  obtain ⟨l', a3, s3, e5, h5⟩ := spoil_ev hc hl [48, 49, 50, 51, 58, 44, 61, 42, 45] (by simp) t a2 s2 (b2.le (by omega)) (by omega)
  refine ⟨l', ?_, h5⟩
  unfold spec_DrawParseRegCode.f
  exact bind e1 (bind e3 (bind0 e4 (pos rfl (bind e5 (ret _)))))
theorem perm_l0 {c : List Int} (hc : Bytes c) (hl : c.length ≤ 1048576) (n : Nat) (hn : n ≤ 50) (d : Nat) (l : List Int) (a sd : Int) (m : Nat) (ha : Bud a (m + d)) (hd : l.length + d = n) : ∃ l' a' sd', Ev (fun k => spec_l1Cur_permutation.l0 c (n : Int) k l a sd (l.length : Int)) (l', a', sd') ∧ l'.length = n ∧ Bud a' m := by
 induction d generalizing l a sd with
 | zero =>
  refine ⟨l, a, sd, shift ?_, by omega, ha.le (by omega)⟩
  simp only [spec_l1Cur_permutation.l0]
  exact neg (by omega) (ret _)
 | succ d ih =>
  obtain ⟨x, a1, s1, e1, x0, x1, b1⟩ := pick_ev hc hl (m := m + d) (ha.le (by omega)) sd ((l.length : Int) + 1)
  obtain ⟨j, rfl⟩ := Int.eq_ofNat_of_zero_le x0
  have hj : j ≤ l.length := by omega
  obtain ⟨l', a', sd', e, q, b⟩ := ih ((l.take j ++ [(l.length : Int)]) ++ l.drop j) a1 s1 b1 (by simp; omega)
  have hlen : (((l.take j ++ [(l.length : Int)]) ++ l.drop j).length : Int) = (l.length : Int) + 1 := by simp; omega
  rw [hlen] at e
  refine ⟨l', a', sd', shift ?_, q, b⟩
  simp only [spec_l1Cur_permutation.l0]
  rw [zb6 (by omega)]
  refine pos (by omega) (bind0 e1 (bind0 (ct_take l j hj) (bind0 (ap_ok (by simp; omega)) (bind0 (ap_ok (by simp; omega)) (bind0 (ct_drop l j hj) (bind0 (ap_ok (by simp; omega)) ?_))))))
  rw [List.nil_append]
  exact e
theorem perm_ev {c : List Int} (hc : Bytes c) (hl : c.length ≤ 1048576) (n : Nat) (hn : n ≤ 50) (a sd : Int) (m : Nat) (ha : Bud a (m + 60)) : ∃ l a' sd', Ev (fun k => spec_l1Cur_permutation.f k c a sd (n : Int)) (l, a', sd') ∧ l.length = n ∧ Bud a' m := by
 obtain ⟨l, a1, s1, e1, q1, b1⟩ := perm_l0 hc hl n hn n [] a sd (m + 10) (ha.le (by omega)) (by simp)
 unfold spec_l1Cur_permutation.f
 by_cases h : 0 < (l.length : Int)
 ·obtain ⟨b, a2, s2, e2, b2⟩ := one_ev hc hl (m := m + 9) b1 s1 40
  have e3 : ((if 0 < (l.length : Int) then ((spec_l1Cur_one.f c a1 s1 40).bind fun (b62, i63, i64) => some (i63, i64, b62)) else (some (a1, s1, false))) : Option (Int × Int × Bool)) = some (a2, s2, b) := by
   rw [if_pos h, e2]
   rfl
  cases b with
  | true =>
   obtain ⟨x, a3, s3, e4, x0, x1, b3⟩ := pick_ev hc hl (m := m + 8) b2 s2 (l.length : Int)
   obtain ⟨y, a4, s4, e5, _, b4⟩ := among_ev hc hl (m := m + 7) b3 s3 [(-1), 0, (n : Int), 4611686018427387904] (by simp)
   obtain ⟨j, rfl⟩ := Int.eq_ofNat_of_zero_le x0
   have hj : j < l.length := by omega
   have hst : st l (j : Int) y = some (l.set j y) := by
    unfold st
    rw [if_pos (by omega)]
    rfl
   exact ⟨l.set j y, a4, s4, bind e1 (bind0 e3 (pos rfl (bind0 e4 (bind0 e5 (bind0 (gt_nat hj) (bind0 hst (ret _))))))), by simp [q1], b4.le (by omega)⟩
  | false => exact ⟨l, a2, s2, bind e1 (bind0 e3 (neg (by simp) (ret _))), q1, b2.le (by omega)⟩
 ·have e3 : ((if 0 < (l.length : Int) then ((spec_l1Cur_one.f c a1 s1 40).bind fun (b62, i63, i64) => some (i63, i64, b62)) else (some (a1, s1, false))) : Option (Int × Int × Bool)) = some (a1, s1, false) := by rw [if_neg h]
  exact ⟨l, a1, s1, bind e1 (bind0 e3 (neg (by simp) (ret _))), q1, b1.le (by omega)⟩
/-- Code and names are drawn. -/
theorem drawRen {c : List Int} (hc : Bytes c) (hl : c.length ≤ 1048576) : ∃ i l1 l2 l3 l, Ev (fun k => spec_DrawRenameRegisters.f k c) (i, l1, l2, l3, l) ∧ l.length ≤ 100 := by
 obtain ⟨i, l1, l2, l3, a1, s1, e1, _, _, _, b1⟩ := drawCode hc hl 0 0 200 (⟨by omega, by omega⟩)
 obtain ⟨x, e2, hx⟩ : ∃ x, spec_l1Least.f i 50 = some x ∧ x ≤ 50 := by
  unfold spec_l1Least.f
  split
  ·exact ⟨_, rfl, by omega⟩
  ·exact ⟨_, rfl, by omega⟩
 obtain ⟨n, e3, hn⟩ : ∃ n : Nat, spec_l1Most.f 0 x = some (n : Int) ∧ n ≤ 50 := by
  unfold spec_l1Most.f
  split
  ·exact ⟨0, rfl, by omega⟩
  ·obtain ⟨n, rfl⟩ := Int.eq_ofNat_of_zero_le (show 0 ≤ x by omega)
   exact ⟨n, rfl, by omega⟩
 obtain ⟨l, a2, s2, e4, q, b2⟩ := perm_ev hc hl n hn a1 s1 100 (b1.le (by omega))
 obtain ⟨b, a3, s3, e5, b3⟩ := one_ev hc hl (m := 99) b2 s2 10
 obtain ⟨l', e6, hl'⟩ : ∃ l', ((spec_l1Cur_one.f c a2 s2 10).bind fun (b53, i54, i55) => if b53 = true then ((ap l ([0] : List Int)).bind fun l60 => some (l60, i54, i55)) else (some (l, i54, i55))) = some (l', a3, s3) ∧ l'.length ≤ 100 := by
  rw [e5, Option.bind_some]
  cases b
  ·exact ⟨l, rfl, by omega⟩
  ·exact ⟨l ++ [0], by simp only [if_true]; rw [ap_ok (by simp; omega)]; rfl, by simp; omega⟩
 refine ⟨i, l1, l2, l3, l', ?_, hl'⟩
 unfold spec_DrawRenameRegisters.f
 exact bind e1 (bind0 e2 (bind0 e3 (bind e4 (bind0 e6 (ret _)))))
theorem rSameCode_refl (i : Int) (l1 : List Int) (l2 : List SRegOp) (l3 : List Int) : laws_rSameCode.f i l1 l2 l3 i l1 l2 l3 = some true := by
 have key : ∀ (d j : Nat), j + d = l2.length → laws_rSameCode.l0 l2 (l2.drop j) (j : Int) = some (.inr ()) := by
  intro d
  induction d with
  | zero =>
   intro j hj
   rw [List.drop_eq_nil_of_le (by omega)]
   rfl
  | succ d ih =>
   intro j hj
   rw [List.drop_eq_getElem_cons (show j < l2.length by omega)]
   simp only [laws_rSameCode.l0]
   rw [gt_nat (show j < l2.length by omega), Option.bind_some, if_pos (by simp), show (j : Int) + 1 = ((j + 1 : Nat) : Int) by omega]
   exact ih (j + 1) (by omega)
 unfold laws_rSameCode.f
 rw [if_neg (by simp), rSame_refl, Option.bind_some, if_pos rfl, if_neg (by simp), rSame_refl, Option.bind_some, if_pos rfl]
 have := key l2.length 0 (by omega)
 rw [List.drop_zero] at this
 rw [show (0 : Int) = ((0 : Nat) : Int) from rfl, this]
 rfl
/-! the law -/
theorem law_end {c : List Int} (hc : Bytes c) (hl : c.length ≤ 1048576) : Ev (fun k => (spec_DrawParseRegCode.f k c).bind fun s377 => (impl_ParseRegCode.f k s377).bind fun (i379, l380, l381, l382, b383) => (spec_ParseRegCode.f k s377).bind fun (i393, l394, l395, l396, b397) => if (b383 != b397) = true then (some false) else ((laws_rSameCode.f i379 l380 l381 l382 i393 l394 l395 l396).bind fun b408 => if b408 = true then (if b383 = true then ((impl_RegCodeText.f k i379 l380 l381 l382).bind fun (s412, b413) => if b413 = true then (some (decide (s412 = s377))) else (some false)) else (some true)) else (some false))) true := by
 obtain ⟨t, e1, ht⟩ := drawCText hc hl
 have p1 := icode_ev (s := t) (by omega)
 have p2 := scode_ev (s := t) (by omega)
 refine bind e1 ?_
 rw [← ic_sc t] at p2
 rcases icR_cases t with ⟨a, l1, l2, l3, g, x, r⟩ | r
 ·rw [r] at p1 p2
  have e4 := iCodeText_ev a l1 l2 l3
  unfold ctP at e4
  rw [if_pos g, x] at e4
  refine bind p1 (bind p2 (neg (by simp) (bind0 (rSameCode_refl a l1 l2 l3) (pos rfl (pos rfl (bind e4 (pos rfl ?_)))))))
  rw [decide_eq_true rfl]
  exact ret _
 ·rw [r] at p1 p2
  exact bind p1 (bind p2 (neg (by simp) (bind0 (rSameCode_refl 0 [] [] []) (pos rfl (neg (by simp) (ret _))))))
theorem law_text {a : Int} {l1 : List Int} {l2 : List SRegOp} {l3 : List Int} (g : cok a l1 l2 l3 = true) : Ev (fun k => (impl_RegCodeText.f k a l1 l2 l3).bind fun (s355, b356) => (impl_ParseRegCode.f k s355).bind fun (i358, l359, l360, l361, b362) => if b356 = true then (if b362 = true then ((laws_rSameCode.f i358 l359 l360 l361 a l1 l2 l3).bind fun b374 => if b374 = true then (some (.inr ())) else (some (.inl false))) else (some (.inl false))) else (some (.inl false))) (Sum.inr () : Bool ⊕ Unit) := by
 have e4 := iCodeText_ev a l1 l2 l3
 unfold ctP at e4
 rw [if_pos g] at e4
 have hx := ctx_len (cok_lo g)
 have p1 := icode_ev (s := ctx a l1 l2 l3) (by omega)
 rw [icR_ctx g] at p1
 exact bind e4 (bind p1 (pos rfl (pos rfl (bind0 (rSameCode_refl a l1 l2 l3) (pos rfl (ret _))))))
set_option maxHeartbeats 4000000 in
theorem FnRenamedRegisters : laws_FnRenamedRegisters.Pure := by
 intro c1 c2 l1_ w1 l2_ w2
 refine some_of ?_
 unfold laws_FnRenamedRegisters.f
 have hbig : ∃ b, laws_big.f c1 c2 = some b ∧ (b = false → c1.length ≤ 1048576 ∧ c2.length ≤ 1048576) := by
  unfold laws_big.f
  by_cases c : 1048576 < (c1.length : Int)
  ·exact ⟨true, by rw [if_pos c], fun h => nomatch h⟩
  ·refine ⟨_, by rw [if_neg c], fun h => ?_⟩
   have := of_decide_eq_false h
   rw [zb6 (by omega)] at this
   omega
 obtain ⟨b, hb1, hb2⟩ := hbig
 refine bind0 hb1 ?_
 cases b with
 | true => exact pos rfl (ret _)
 | false =>
  obtain ⟨hl1, hl2⟩ := hb2 rfl
  obtain ⟨i, l1, l2, l3, l, e1, hlen⟩ := drawRen (byte_in w1) hl1
  have tail := law_end (byte_in w2) hl2
  obtain ⟨sr, ir⟩ := ren_res i l1 l2 l3 l (by omega)
  obtain ⟨sp, ip⟩ := pack_res i l1 l2 l3
  have isr := isRegCode_ev i l1 l2 l3
  refine neg (by simp) (bind e1 ?_)
  cases hcp : codeP i l1 l2 l3 with
  | none =>
   rw [hcp] at isr
   have h1 : rnR i l1 l2 l3 l = (0, [], [], [], false) := by unfold rnR; rw [hcp]
   have h2 : pkR i l1 l2 l3 = (0, [], [], [], false) := by unfold pkR; rw [hcp]
   rw [h1] at sr ir
   rw [h2] at sp ip
   exact bind ir (bind sr (bind ip (bind sp (neg (by simp) (bind0 (rSameCode_refl 0 [] [] []) (pos rfl (neg (by simp) (bind0 (rSameCode_refl 0 [] [] []) (pos rfl (bind isr (neg (by simp) (bind (a := (Sum.inr () : Bool ⊕ Unit)) (neg (by simp) (ret _)) tail))))))))))))
  | some so =>
   obtain ⟨s, o⟩ := so
   rw [hcp] at isr
   obtain ⟨n, rfl, hok, hform⟩ := codeP_ok hcp
   have hr := hok.reg
   have htp := told_pos hok
   have hcok : cok (n : Int) l1 l2 l3 = true := by unfold cok; rw [hcp]; rfl
   -- packed
   have k1 := codeP_map hok hcp (f := pkf l1 l2) (b := (tops l2 l1).length) (by omega) (pkf_inj l1 l2) (pkf_in l1 l2)
   have k2 := pkR_map hok hcp (f := pkf l1 l2) (b := (tops l2 l1).length) (by omega) (pkf_inj l1 l2) (pkf_in l1 l2)
   have h2 : pkR (n : Int) l1 l2 l3 = (((tops l2 l1).length : Int), l1.map (pkf l1 l2), l2.map (opF (pkf l1 l2)), l3.map (pkf l1 l2), true) := by unfold pkR; rw [hcp]
   have r0 := rcp_impl (n : Int) l1 l2 l3
   unfold rcp at r0
   rw [hcp] at r0
   have r1 := rcp_impl ((tops l2 l1).length : Int) (l1.map (pkf l1 l2)) (l2.map (opF (pkf l1 l2))) (l3.map (pkf l1 l2))
   unfold rcp at r1
   rw [k1, List.length_map] at r1
   have p1 := (pack_res ((tops l2 l1).length : Int) (l1.map (pkf l1 l2)) (l2.map (opF (pkf l1 l2))) (l3.map (pkf l1 l2))).2
   rw [k2, h2] at p1
   rw [h2] at sp ip
   have sp0 := rSamePlan_refl (l1.length : Int) s o
   have sc0 := rSameCode_refl ((tops l2 l1).length : Int) (l1.map (pkf l1 l2)) (l2.map (opF (pkf l1 l2))) (l3.map (pkf l1 l2))
   have text := law_text hcok
   by_cases hO : IsO n l
   ·have h1 : rnR (n : Int) l1 l2 l3 l = ((n : Int), l1.map (rg l), l2.map (opF (rg l)), l3.map (rg l), true) := by
     unfold rnR
     rw [hcp]
     simp only [Int.toNat_natCast]
     rw [if_pos hO]
    rw [h1] at sr ir
    have hin := told_in hok
    have g1 : Inj (tops l2 l1) (rg l) := fun x hx y hy e => rg_inj hO x y (hin x hx).1 (hin x hx).2 (hin y hy).1 (hin y hy).2 e
    have g2 : ∀ r ∈ tops l2 l1, 0 ≤ rg l r ∧ rg l r < (n : Int) := fun r hr => rg_in hO (hin r hr).1 (hin r hr).2
    have k3 := codeP_map hok hcp (f := rg l) (b := n) (by omega) g1 g2
    have k4 := pkR_map hok hcp (f := rg l) (b := n) (by omega) g1 g2
    have r2 := rcp_impl (n : Int) (l1.map (rg l)) (l2.map (opF (rg l))) (l3.map (rg l))
    unfold rcp at r2
    rw [k3, List.length_map] at r2
    have p2 := (pack_res (n : Int) (l1.map (rg l)) (l2.map (opF (rg l))) (l3.map (rg l))).2
    rw [k4, h2] at p2
    exact bind ir (bind sr (bind ip (bind sp (neg (by simp) (bind0 (rSameCode_refl _ _ _ _) (pos rfl (neg (by simp) (bind0 sc0 (pos rfl (bind isr (neg (by simp) (bind (a := (Sum.inr () : Bool ⊕ Unit)) (pos rfl (bind r0 (bind r1 (bind p1 (pos rfl (pos rfl (bind0 sp0 (pos rfl (neg (by omega) (pos rfl (bind0 sc0 (pos rfl (bind (a := (Sum.inr () : Bool ⊕ Unit)) (pos rfl (bind r2 (bind p2 (pos rfl (bind0 sp0 (pos rfl (pos rfl (bind0 sc0 (pos rfl (ret _)))))))))) text))))))))))))) tail))))))))))))
   ·have h1 : rnR (n : Int) l1 l2 l3 l = (0, [], [], [], false) := by
     unfold rnR
     rw [hcp]
     simp only [Int.toNat_natCast]
     rw [if_neg hO]
    rw [h1] at sr ir
    exact bind ir (bind sr (bind ip (bind sp (neg (by simp) (bind0 (rSameCode_refl _ _ _ _) (pos rfl (neg (by simp) (bind0 sc0 (pos rfl (bind isr (neg (by simp) (bind (a := (Sum.inr () : Bool ⊕ Unit)) (pos rfl (bind r0 (bind r1 (bind p1 (pos rfl (pos rfl (bind0 sp0 (pos rfl (neg (by omega) (pos rfl (bind0 sc0 (pos rfl (bind (a := (Sum.inr () : Bool ⊕ Unit)) (neg (by simp) (ret _)) text))))))))))))) tail))))))))))))
end Go.Proofs.YtnnlfipcoahcnaaGreatDoor.Pure
