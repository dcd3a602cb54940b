/- Pure: plans drawn are small; texts drawn come to an end. -/
import Derived.Test.YtnnlfipcoahcnaaGreatDoorKFnTextsOfPlansPtxr
import Derived.Test.YtnnlfipcoahcnaaGreatDoorKFnTextsOfPlansPdraw
set_option linter.unusedVariables false
set_option linter.unusedSimpArgs false
namespace Go.Proofs.YtnnlfipcoahcnaaGreatDoor.Pure
open Go.RowKit Go.Proofs.YtnnlfipcoahcnaaGreatDoor.E Go.Proofs.YtnnlfipcoahcnaaGreatDoor.G2 Go.Proofs.YtnnlfipcoahcnaaGreatDoor.Hand Go.Proofs.YtnnlfipcoahcnaaGreatDoor.Frame Go.Proofs.YtnnlfipcoahcnaaGreatDoorW.PrintLast Go.Proofs.YtnnlfipcoahcnaaGreatDoorW.PrintMore Go.Lib Go.Proofs.YtnnlfipcoahcnaaGreatDoor.Txl
open Go.Proofs.YtnnlfipcoahcnaaGreatDoorW.PrintWords hiding mn mx
theorem plStep_in {a b T : Int} (ha : 0 ≤ a ∧ a < T) (hb : 0 ≤ b ∧ b < T) (hT : T ≤ 100) : ∃ z, spec_plStep.f a b = some z ∧ (0 ≤ z.f0 ∧ z.f0 < 100) ∧ (0 ≤ z.f1 ∧ z.f1 < 100) := by
  unfold spec_plStep.f spec_l1Least.f spec_l1Most.f
  by_cases c : a < b <;> by_cases d : b < a
  · omega
  · exact ⟨⟨a, b⟩, by rw [if_pos c, if_neg d]; rfl, by simp; omega, by simp; omega⟩
  · exact ⟨⟨b, a⟩, by rw [if_neg c, if_pos d]; rfl, by simp; omega, by simp; omega⟩
  · exact ⟨⟨b, b⟩, by rw [if_neg c, if_neg d]; rfl, by simp; omega, by simp; omega⟩
theorem least_in (a b : Int) : ∃ z, spec_l1Least.f a b = some z ∧ z ≤ a := by
  unfold spec_l1Least.f
  split
  · exact ⟨_, rfl, Int.le_refl _⟩
  · exact ⟨_, rfl, by omega⟩
theorem splan_l0 {c : List Int} (hc : Bytes c) (hl : c.length ≤ 1048576) (i : Int) (hi : 0 ≤ i ∧ i ≤ 10) (d : Nat) (s : List SStep) (hs : Lo s) (a sd : Int) (m : Nat) (ha : Bud a (m + 3 * d)) (hd : s.length + d ≤ 80) : ∃ s' a' sd', Ev (fun k => spec_l1Cur_plan.l0 c i k s a sd (d : Int)) (s', a', sd') ∧ s'.length = s.length + d ∧ Lo s' ∧ Bud a' m := by
  induction d generalizing s a sd with
  | zero =>
    refine ⟨s, a, sd, shift ?_, rfl, hs, ha.le (by omega)⟩
    simp only [spec_l1Cur_plan.l0]
    exact neg (by omega) (ret _)
  | succ d ih =>
    have hT : w64 (w64 (1 + i) + (s.length : Int)) = 1 + i + (s.length : Int) := by rw [zas (x := 1 + i) (by omega), zas (by omega)]
    obtain ⟨x, a1, s1, e1, x0, x1, b1⟩ := pick_ev hc hl (m := m + 3 * d + 2) (ha.le (by omega)) sd (1 + i + (s.length : Int))
    obtain ⟨b, a2, s2, e2, b2⟩ := one_ev hc hl (m := m + 3 * d + 1) b1 s1 2
    have e3 : ∃ v, (0 ≤ v ∧ v < 1 + i + (s.length : Int)) ∧ ((spec_l1Cur_one.f c a1 s1 2).bind fun (b49, i50, i51) => if b49 = true then (some (i50, i51, w64 (1 + i + (s.length : Int) - 1))) else (some (i50, i51, x))) = some (a2, s2, v) := by
      rw [e2, Option.bind_some, zas (by omega)]
      cases b
      · exact ⟨x, by omega, rfl⟩
      · exact ⟨1 + i + (s.length : Int) - 1, by omega, rfl⟩
    obtain ⟨v, hv, e3⟩ := e3
    obtain ⟨y, a4, s4, e4, y0, y1, b4⟩ := pick_ev hc hl (m := m + 3 * d) b2 s2 (1 + i + (s.length : Int))
    obtain ⟨z, e5, hz⟩ := plStep_in (a := v) (b := y) (T := 1 + i + (s.length : Int)) hv (by omega) (by omega)
    obtain ⟨s', a', sd', e6, l6, o6, b6⟩ := ih (s ++ [z]) (fun q hq => by
      rcases List.mem_append.1 hq with hq | hq
      · exact hs q hq
      · rw [List.mem_singleton.1 hq]; exact hz) a4 s4 b4 (by rw [List.length_append, List.length_singleton]; omega)
    refine ⟨s', a', sd', shift ?_, by rw [l6, List.length_append, List.length_singleton]; omega, o6, b6⟩
    simp only [spec_l1Cur_plan.l0, hT]
    refine pos (by omega) (bind0 e1 (bind0 e3 (bind0 e4 (bind0 e5 (bind0 (ap_ok (by simp; omega)) ?_)))))
    rw [zas (by omega), show ((d + 1 : Nat) : Int) - 1 = (d : Int) by omega]
    exact e6
theorem splan_l1 {c : List Int} (hc : Bytes c) (hl : c.length ≤ 1048576) (i : Int) (hi : 0 ≤ i ∧ i ≤ 10) (s : List SStep) (hs : s.length ≤ 80) (d : Nat) (o : List Int) (ho : ∀ y ∈ o, 0 ≤ y ∧ y < 100) (a sd : Int) (m : Nat) (ha : Bud a (m + d)) (hd : o.length + d ≤ 1000) : ∃ o' a' sd', Ev (fun k => spec_l1Cur_plan.l1 c i s k o a sd (d : Int)) (o', a', sd') ∧ o'.length = o.length + d ∧ (∀ y ∈ o', 0 ≤ y ∧ y < 100) ∧ Bud a' m := by
  induction d generalizing o a sd with
  | zero =>
    refine ⟨o, a, sd, shift ?_, rfl, ho, ha.le (by omega)⟩
    simp only [spec_l1Cur_plan.l1]
    exact neg (by omega) (ret _)
  | succ d ih =>
    have hT : w64 (w64 (1 + i) + (s.length : Int)) = 1 + i + (s.length : Int) := by rw [zas (x := 1 + i) (by omega), zas (by omega)]
    obtain ⟨z, e0, z0⟩ := least_in (1 + i + (s.length : Int)) 4
    obtain ⟨x, a1, s1, e1, x0, x1, b1⟩ := pick_ev hc hl (m := m + d) (ha.le (by omega)) sd z
    obtain ⟨o', a', sd', e6, l6, o6, b6⟩ := ih (o ++ [1 + i + (s.length : Int) - 1 - x]) (fun q hq => by
      rcases List.mem_append.1 hq with hq | hq
      · exact ho q hq
      · rw [List.mem_singleton.1 hq]; omega) a1 s1 b1 (by rw [List.length_append, List.length_singleton]; omega)
    refine ⟨o', a', sd', shift ?_, by rw [l6, List.length_append, List.length_singleton]; omega, o6, b6⟩
    simp only [spec_l1Cur_plan.l1, hT]
    refine pos (by omega) (bind0 e0 (bind0 e1 (bind0 (ap_ok (by simp; omega)) ?_)))
    rw [zas (x := ((d + 1 : Nat) : Int) - 1) (by omega), show ((d + 1 : Nat) : Int) - 1 = (d : Int) by omega, zas (x := 1 + i + (s.length : Int) - 1) (by omega), zas (x := 1 + i + (s.length : Int) - 1 - x) (by omega)]
    exact e6
/-- A small plan is drawn. -/
theorem drawSmall {c : List Int} (hc : Bytes c) (hl : c.length ≤ 1048576) (a sd n t : Int) (hn : n ≤ 6) (ht : 0 ≤ t ∧ t ≤ 40) (m : Nat) (ha : Bud a (m + 200)) : ∃ i s o a' sd', Ev (fun k => spec_l1Cur_plan.f k c a sd n t) (i, s, o, a', sd') ∧ (0 ≤ i ∧ i < 100) ∧ Lo s ∧ s.length ≤ 40 ∧ (∀ y ∈ o, 0 ≤ y ∧ y < 100) ∧ o.length ≤ 3 ∧ Bud a' m := by
  obtain ⟨x, a1, s1, e1, x0, x1, b1⟩ := pick_ev hc hl (m := m + 199) (ha.le (by omega)) sd n
  obtain ⟨y, a2, s2, e2, y0, y1, b2⟩ := pick_ev hc hl (m := m + 198) b1 s1 (w64 (t + 1))
  rw [zas (by omega)] at e2 y1
  obtain ⟨d, rfl⟩ := Int.eq_ofNat_of_zero_le y0
  obtain ⟨s', a3, s3, e3, l3, o3, b3⟩ := splan_l0 hc hl x (by omega) d [] (fun _ h => by simp at h) a2 s2 (m + 70) (b2.le (by omega)) (by simp; omega)
  simp only [List.length_nil, Nat.zero_add] at l3
  obtain ⟨z, a4, s4, e4, z0, z1, b4⟩ := pick_ev hc hl (m := m + 60) (b3.le (by omega)) s3 3
  obtain ⟨q, rfl⟩ := Int.eq_ofNat_of_zero_le z0
  obtain ⟨o', a5, s5, e5, l5, o5, b5⟩ := splan_l1 hc hl x (by omega) s' (by omega) (1 + q) [] (fun _ h => by simp at h) a4 s4 (m + 30) (b4.le (by omega)) (by simp; omega)
  obtain ⟨b, a6, s6, e6, b6⟩ := one_ev hc hl (m := m + 20) (b5.le (by omega)) s5 12
  have e7 : ∃ o, o.length ≤ 3 ∧ (∀ y ∈ o, 0 ≤ y ∧ y < 100) ∧ ((spec_l1Cur_one.f c a5 s5 12).bind fun (b1653, i1654, i1655) => if b1653 = true then (some (([] : List Int), i1654, i1655)) else (some (o', i1654, i1655))) = some (o, a6, s6) := by
    rw [e6, Option.bind_some]
    cases b
    · exact ⟨o', by rw [l5]; simp; omega, o5, rfl⟩
    · exact ⟨[], by simp, by simp, rfl⟩
  obtain ⟨o, lo, lo2, e7⟩ := e7
  refine ⟨w64 (1 + x), s', o, a6, s6, ?_, by rw [zas (by omega)]; omega, o3, by omega, lo2, lo, b6.le (by omega)⟩
  unfold spec_l1Cur_plan.f
  rw [zas (x := t + 1) (by omega)]
  refine bind0 e1 (bind0 e2 (bind e3 (bind0 e4 (bind (a := (o', a5, s5)) ?_ (bind0 e7 (ret _))))))
  rw [zas (by omega), show (1 : Int) + (q : Int) = ((1 + q : Nat) : Int) by omega]
  exact e5
theorem strOf_one (x : Int) : strOfNums ([x] : List Int) = bs [UInt8.ofNat x.toNat] := rfl
/-- A text is spoilt. -/
theorem spoil_l0 {c : List Int} (hc : Bytes c) (hl : c.length ≤ 1048576) (w : List UInt8) (hw : 0 < w.length) (d : Nat) (l : List UInt8) (a sd : Int) (m : Nat) (ha : Bud a (m + 3 * d)) (hd : l.length + d ≤ 1000000) : ∃ l' a' sd', Ev (fun k => spec_l1Cur_spoilt.l0 c (bs w) k a sd (bs l) (d : Int)) (bs l', a', sd') ∧ l'.length ≤ l.length + d := by
  induction d generalizing l a sd with
  | zero =>
    refine ⟨l, a, sd, shift ?_, by omega⟩
    simp only [spec_l1Cur_spoilt.l0]
    exact neg (by omega) (ret _)
  | succ d ih =>
    by_cases h0 : l.length = 0
    · refine ⟨l, a, sd, shift ?_, by omega⟩
      simp only [spec_l1Cur_spoilt.l0]
      rw [bs_size]
      exact pos (by omega) (neg (by omega) (ret _))
    · obtain ⟨x, a1, s1, e1, x0, x1, b1⟩ := pick_ev hc hl (m := m + 3 * d + 2) (ha.le (by omega)) sd (l.length : Int)
      obtain ⟨j, rfl⟩ := Int.eq_ofNat_of_zero_le x0
      have hj : j < l.length := by omega
      obtain ⟨y, a2, s2, e2, y0, y1, b2⟩ := pick_ev hc hl (m := m + 3 * d + 1) b1 s1 (w.length : Int)
      obtain ⟨q, rfl⟩ := Int.eq_ofNat_of_zero_le y0
      have hq : q < w.length := by omega
      have e3 := gts_bs (l := w) (j := q) hq
      obtain ⟨z, a4, s4, e4, z0, z1, b4⟩ := pick_ev hc hl (m := m + 3 * d) b2 s2 3
      have c1 : cts (bs l) 0 (j : Int) = some (bs ((l.drop 0).take (j - 0))) := cts_bs (a := 0) (by omega) (by omega)
      have c2 : cts (bs l) (j : Int) (l.length : Int) = some (bs ((l.drop j).take (l.length - j))) := cts_bs (by omega) (by omega)
      have c3 : cts (bs l) (w64 ((j : Int) + 1)) (l.length : Int) = some (bs ((l.drop (j + 1)).take (l.length - (j + 1)))) := by
        rw [zas (by omega), show (j : Int) + 1 = ((j + 1 : Nat) : Int) by omega]
        exact cts_bs (by omega) (by omega)
      have hd1 : w64 (((d + 1 : Nat) : Int) - 1) = (d : Int) := by rw [zas (by omega)]; omega
      by_cases c4 : z = 0
      · obtain ⟨l', a', sd', h1, h2⟩ := ih (((l.drop 0).take (j - 0) ++ [UInt8.ofNat ((w[q].toNat : Nat) : Int).toNat]) ++ (l.drop j).take (l.length - j)) a4 s4 b4 (by simp; omega)
        refine ⟨l', a', sd', shift ?_, Nat.le_trans h2 (by simp; omega)⟩
        simp only [spec_l1Cur_spoilt.l0, hd1, strOf_one]
        rw [bs_size, bs_size]
        exact pos (by omega) (pos (by omega) (bind0 e1 (bind0 e2 (bind0 e3 (bind0 e4 (pos c4 (bind0 c1 (bind0 (sap_bs (by simp; omega)) (bind0 c2 (bind0 (sap_bs (by simp; omega)) h1))))))))))
      · by_cases c5 : z = 1
        · obtain ⟨l', a', sd', h1, h2⟩ := ih (((l.drop 0).take (j - 0) ++ [UInt8.ofNat ((w[q].toNat : Nat) : Int).toNat]) ++ (l.drop (j + 1)).take (l.length - (j + 1))) a4 s4 b4 (by simp; omega)
          refine ⟨l', a', sd', shift ?_, Nat.le_trans h2 (by simp; omega)⟩
          simp only [spec_l1Cur_spoilt.l0, hd1, strOf_one]
          rw [bs_size, bs_size]
          exact pos (by omega) (pos (by omega) (bind0 e1 (bind0 e2 (bind0 e3 (bind0 e4 (neg c4 (pos c5 (bind0 c1 (bind0 (sap_bs (by simp; omega)) (bind0 c3 (bind0 (sap_bs (by simp; omega)) h1)))))))))))
        · obtain ⟨l', a', sd', h1, h2⟩ := ih ((l.drop 0).take (j - 0) ++ (l.drop (j + 1)).take (l.length - (j + 1))) a4 s4 b4 (by simp; omega)
          refine ⟨l', a', sd', shift ?_, Nat.le_trans h2 (by simp; omega)⟩
          simp only [spec_l1Cur_spoilt.l0, hd1, strOf_one]
          rw [bs_size, bs_size]
          exact pos (by omega) (pos (by omega) (bind0 e1 (bind0 e2 (bind0 e3 (bind0 e4 (neg c4 (neg c5 (bind0 c1 (bind0 c3 (bind0 (sap_bs (by simp; omega)) h1))))))))))
theorem spoil_ev {c : List Int} (hc : Bytes c) (hl : c.length ≤ 1048576) (w : List UInt8) (hw : 0 < w.length) (l : List UInt8) (a sd : Int) (ha : Bud a 20) (hd : l.length ≤ 900000) : ∃ l' a' sd', Ev (fun k => spec_l1Cur_spoilt.f k c a sd (bs l) (bs w)) (bs l', a', sd') ∧ l'.length ≤ 1000000 := by
  obtain ⟨x, a1, s1, e1, x0, x1, b1⟩ := pick_ev hc hl (m := 19) (ha.le (by omega)) sd 2
  obtain ⟨q, rfl⟩ := Int.eq_ofNat_of_zero_le x0
  obtain ⟨l', a', sd', h1, h2⟩ := spoil_l0 hc hl w hw (1 + q) l a1 s1 0 (b1.le (by omega)) (by omega)
  refine ⟨l', a', sd', ?_, by omega⟩
  unfold spec_l1Cur_spoilt.f
  refine bind0 e1 ?_
  show Ev (fun n => spec_l1Cur_spoilt.l0 c (bs w) n a1 s1 (bs l) (w64 (1 + (q : Int)))) _
  rw [zas (by omega), show (1 : Int) + (q : Int) = ((1 + q : Nat) : Int) by omega]
  exact h1
theorem ptx_len {i : Int} {s : List SStep} {o : List Int} (hi : 0 ≤ i ∧ i < 100) (hs : Lo s) (hl : s.length ≤ 1000) (ho : ∀ y ∈ o, 0 ≤ y ∧ y < 100) (hm : o.length ≤ 1000) : (ptx i s o).length ≤ 100000 := by
  have k1 := dn_len hi
  have k2 := lsd_len (sst_le hs)
  have k3 := lsd_len (dn_le ho)
  rw [List.length_map] at k2 k3
  unfold ptx
  simp only [List.length_append, List.length_cons]
  omega
/-- A text of a plan is drawn. -/
theorem drawText {c : List Int} (hc : Bytes c) (hl : c.length ≤ 1048576) : ∃ l, Ev (fun k => spec_DrawParsePlan.f k c) (bs l) ∧ l.length ≤ 1000000 := by
  obtain ⟨i, s, o, a', sd', e1, q1, q2, q3, q4, q5, b1⟩ := drawSmall hc hl 0 0 3 7 (by omega) (by omega) 100 (⟨by omega, by omega⟩)
  have e2 := plText_ev q1 q2 (by omega) q4 (by omega)
  have hx := ptx_len q1 q2 (by omega) q4 (by omega)
  obtain ⟨b, a2, s2, e3, b2⟩ := one_ev hc hl (m := 99) b1 sd' 3
  cases b with
  | false =>
    refine ⟨ptx i s o, ?_, by omega⟩
    unfold spec_DrawParsePlan.f
    exact bind e1 (bind e2 (bind0 e3 (neg (by simp) (ret _))))
  | true =>
    obtain ⟨l', a3, s3, e4, h4⟩ := spoil_ev hc hl [48, 49, 58, 42, 44, 45, 57] (by simp) (ptx i s o) a2 s2 (b2.le (by omega)) (by omega)
    refine ⟨l', ?_, h4⟩
    unfold spec_DrawParsePlan.f
    exact bind e1 (bind e2 (bind0 e3 (pos rfl (bind e4 (ret _)))))
end Go.Proofs.YtnnlfipcoahcnaaGreatDoor.Pure
