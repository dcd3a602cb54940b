/- Pure: draws come to an end. -/
import Derived.Test.YtnnlfipcoahcnaaGreatDoorKFnTextsOfPlansParg
set_option linter.unusedVariables false
set_option linter.unusedSimpArgs false
namespace Go.Proofs.YtnnlfipcoahcnaaGreatDoor.Pure
open Go.RowKit Go.Proofs.YtnnlfipcoahcnaaGreatDoor.E Go.Proofs.YtnnlfipcoahcnaaGreatDoor.G2 Go.Proofs.YtnnlfipcoahcnaaGreatDoor.Frame Go.Proofs.YtnnlfipcoahcnaaGreatDoorW.PrintLast Go.Proofs.YtnnlfipcoahcnaaGreatDoorW.PrintMore
open Go.Proofs.YtnnlfipcoahcnaaGreatDoorW.PrintWords hiding mn mx
def Bytes (c : List Int) : Prop := ∀ y ∈ c, 0 ≤ y ∧ y ≤ 255
/-- So many picks may still be made. -/
def Bud (a : Int) (m : Nat) : Prop := 0 ≤ a ∧ a + 2 * (m : Int) ≤ 1000000000
theorem Bud.le {a : Int} {m m' : Nat} (h : Bud a m) (hm : m' ≤ m) : Bud a m' := ⟨h.1, by have := h.2; omega⟩
theorem byte_in {c : List Int} (h : ∀ y ∈ c, (Lit.int .u8 y).wf = true) : Bytes c := fun y hy => by
  have h2 := h y hy
  simp [Lit.wf, IntKind.min, IntKind.max, IntKind.signed, IntKind.bits] at h2
  omega
theorem and255 (x : Int) : 0 ≤ Go.bits .and .u64 x 255 ∧ Go.bits .and .u64 x 255 ≤ 255 := by
  have hw : ∀ n : Nat, n ≤ 255 → 0 ≤ IntKind.u64.wrap (n : Int) ∧ IntKind.u64.wrap (n : Int) ≤ 255 := fun n hn => by
    unfold IntKind.wrap
    simp [IntKind.signed, IntKind.bits]
    omega
  have h : (BitVec.ofInt IntKind.u64.bits x &&& BitVec.ofInt IntKind.u64.bits 255).toNat ≤ 255 := by
    rw [BitVec.toNat_and]
    exact Nat.le_trans Nat.and_le_right (by decide)
  exact hw _ h
theorem next_ev {c : List Int} (hc : Bytes c) (hl : c.length ≤ 1048576) {a : Int} (ha : 0 ≤ a ∧ a ≤ 1000000000) (sd : Int) : ∃ x sd', spec_l1Cur_next.f c a sd = some (x, sd') ∧ 0 ≤ x ∧ x ≤ 255 := by
  have hv : ∃ v, (if a < (c.length : Int) then ((gt c a).bind fun y14 => some (w64 y14)) else (some 0)) = some v ∧ 0 ≤ v ∧ v ≤ 255 := by
    by_cases h : a < (c.length : Int)
    · rw [if_pos h]
      have hj : a.toNat < c.length := by omega
      have hg : gt c a = some c[a.toNat] := by
        unfold gt
        rw [if_pos ha.1, List.getElem?_eq_getElem hj]
      have hb := hc _ (List.getElem_mem hj)
      rw [hg, Option.bind_some, zas (by omega)]
      exact ⟨_, rfl, hb⟩
    · rw [if_neg h]
      exact ⟨0, rfl, by omega, by omega⟩
  obtain ⟨v, e, hv⟩ := hv
  unfold spec_l1Cur_next.f
  rw [e, Option.bind_some]
  split
  · exact ⟨_, _, rfl, hv⟩
  · refine ⟨_, _, rfl, ?_⟩
    have := and255 ((IntKind.u64.wrap (IntKind.u64.wrap (IntKind.u64.wrap (sd * 6364136223846793005) + (IntKind.u64.wrap v)) + 1442695040888963407)) / 2 ^ min (40 : Int).toNat IntKind.u64.bits)
    rw [zas (by omega)]
    exact this
theorem pick_ev {c : List Int} (hc : Bytes c) (hl : c.length ≤ 1048576) {a : Int} {m : Nat} (ha : Bud a (m + 1)) (sd n : Int) : ∃ x a' sd', spec_l1Cur_pick.f c a sd n = some (x, a', sd') ∧ 0 ≤ x ∧ (x = 0 ∨ x < n) ∧ Bud a' m := by
  unfold spec_l1Cur_pick.f
  have h0 := ha.1
  have h1 := ha.2
  by_cases hn : n ≤ 1
  · rw [if_pos hn]
    exact ⟨0, a, sd, rfl, by omega, .inl rfl, ha.le (by omega)⟩
  · rw [if_neg hn]
    obtain ⟨x, s1, e1, x0, x1⟩ := next_ev hc hl (a := a) (by omega) sd
    have hz : nz n = some () := by
      unfold nz
      rw [if_neg (by omega)]
    rw [e1, Option.bind_some]
    simp only
    by_cases h2 : 200 < n
    · rw [if_pos h2, zas (x := a + 1) (by omega)]
      obtain ⟨y, s2, e2, y0, y1⟩ := next_ev hc hl (a := a + 1) (by omega) s1
      rw [e2, Option.bind_some, hz, zas (x := x * 256) (by omega), zas (x := x * 256 + y) (by omega), zas (x := a + 1 + 1) (by omega)]
      refine ⟨_, _, _, rfl, Int.tmod_nonneg _ (by omega), .inr (Int.tmod_lt_of_pos _ (by omega)), by omega, by omega⟩
    · rw [if_neg h2, hz, zas (x := a + 1) (by omega)]
      exact ⟨_, _, _, rfl, Int.tmod_nonneg _ (by omega), .inr (Int.tmod_lt_of_pos _ (by omega)), by omega, by omega⟩
theorem one_ev {c : List Int} (hc : Bytes c) (hl : c.length ≤ 1048576) {a : Int} {m : Nat} (ha : Bud a (m + 1)) (sd n : Int) : ∃ b a' sd', spec_l1Cur_one.f c a sd n = some (b, a', sd') ∧ Bud a' m := by
  obtain ⟨x, a', sd', e, _, _, hb⟩ := pick_ev hc hl ha sd n
  unfold spec_l1Cur_one.f
  rw [e]
  exact ⟨_, _, _, rfl, hb⟩
theorem among_ev {c : List Int} (hc : Bytes c) (hl : c.length ≤ 1048576) {a : Int} {m : Nat} (ha : Bud a (m + 1)) (sd : Int) (l : List Int) (hne : 0 < l.length) : ∃ y a' sd', spec_l1Cur_among.f c a sd l = some (y, a', sd') ∧ y ∈ l ∧ Bud a' m := by
  obtain ⟨x, a', sd', e, x0, x1, hb⟩ := pick_ev hc hl ha sd (l.length : Int)
  unfold spec_l1Cur_among.f
  rw [e, Option.bind_some]
  have hj : x.toNat < l.length := by omega
  have hg : gt l x = some l[x.toNat] := by
    unfold gt
    rw [if_pos x0, List.getElem?_eq_getElem hj]
  simp only [hg, Option.bind_some]
  exact ⟨_, _, _, rfl, List.getElem_mem hj, hb⟩
theorem plStep_some (a b : Int) : ∃ z, spec_plStep.f a b = some z := by
  unfold spec_plStep.f spec_l1Least.f spec_l1Most.f
  split <;> split <;> exact ⟨_, rfl⟩
theorem least_some (a b : Int) : ∃ z, spec_l1Least.f a b = some z := by
  unfold spec_l1Least.f
  split <;> exact ⟨_, rfl⟩
theorem dplan_l0 {c : List Int} (hc : Bytes c) (hl : c.length ≤ 1048576) (i : Int) (d : Nat) (s : List SStep) (a sd : Int) (m : Nat) (ha : Bud a (m + 3 * d)) (hd : s.length + d ≤ 1000) : ∃ s' a' sd', Ev (fun k => spec_l1Cur_plan.l0 c i k s a sd (d : Int)) (s', a', sd') ∧ s'.length = s.length + d ∧ Bud a' m := by
  induction d generalizing s a sd with
  | zero =>
    refine ⟨s, a, sd, shift ?_, rfl, ha.le (by omega)⟩
    simp only [spec_l1Cur_plan.l0]
    exact neg (by omega) (ret _)
  | succ d ih =>
    obtain ⟨x, a1, s1, e1, _, _, b1⟩ := pick_ev hc hl (m := m + 3 * d + 2) (ha.le (by omega)) sd (w64 (w64 (1 + i) + (s.length : Int)))
    obtain ⟨b, a2, s2, e2, b2⟩ := one_ev hc hl (m := m + 3 * d + 1) b1 s1 2
    have e3 : ∃ v, ((spec_l1Cur_one.f c a1 s1 2).bind fun (b49, i50, i51) => if b49 = true then (some (i50, i51, w64 (w64 (w64 (1 + i) + (s.length : Int)) - 1))) else (some (i50, i51, x))) = some (a2, s2, v) := by
      rw [e2, Option.bind_some]
      cases b
      · exact ⟨_, rfl⟩
      · exact ⟨_, rfl⟩
    obtain ⟨v, e3⟩ := e3
    obtain ⟨y, a4, s4, e4, _, _, b4⟩ := pick_ev hc hl (m := m + 3 * d) b2 s2 (w64 (w64 (1 + i) + (s.length : Int)))
    obtain ⟨z, e5⟩ := plStep_some v y
    obtain ⟨s', a', sd', e6, l6, b6⟩ := ih (s ++ [z]) a4 s4 b4 (by rw [List.length_append, List.length_singleton]; omega)
    refine ⟨s', a', sd', shift ?_, by rw [l6, List.length_append, List.length_singleton]; omega, b6⟩
    simp only [spec_l1Cur_plan.l0]
    refine pos (by omega) (bind0 e1 (bind0 e3 (bind0 e4 (bind0 e5 (bind0 (ap_ok (by simp; omega)) ?_)))))
    rw [zas (by omega), show ((d + 1 : Nat) : Int) - 1 = (d : Int) by omega]
    exact e6
theorem dplan_l1 {c : List Int} (hc : Bytes c) (hl : c.length ≤ 1048576) (i : Int) (s : List SStep) (d : Nat) (o : List Int) (a sd : Int) (m : Nat) (ha : Bud a (m + d)) (hd : o.length + d ≤ 1000) : ∃ o' a' sd', Ev (fun k => spec_l1Cur_plan.l1 c i s k o a sd (d : Int)) (o', a', sd') ∧ o'.length = o.length + d ∧ Bud a' m := by
  induction d generalizing o a sd with
  | zero =>
    refine ⟨o, a, sd, shift ?_, rfl, ha.le (by omega)⟩
    simp only [spec_l1Cur_plan.l1]
    exact neg (by omega) (ret _)
  | succ d ih =>
    obtain ⟨z, e0⟩ := least_some (w64 (w64 (1 + i) + (s.length : Int))) 4
    obtain ⟨x, a1, s1, e1, _, _, b1⟩ := pick_ev hc hl (m := m + d) (ha.le (by omega)) sd z
    obtain ⟨o', a', sd', e6, l6, b6⟩ := ih (o ++ [w64 (w64 (w64 (w64 (1 + i) + (s.length : Int)) - 1) - x)]) a1 s1 b1 (by rw [List.length_append, List.length_singleton]; omega)
    refine ⟨o', a', sd', shift ?_, by rw [l6, List.length_append, List.length_singleton]; omega, b6⟩
    simp only [spec_l1Cur_plan.l1]
    refine pos (by omega) (bind0 e0 (bind0 e1 (bind0 (ap_ok (by simp; omega)) ?_)))
    rw [zas (x := ((d + 1 : Nat) : Int) - 1) (by omega), show ((d + 1 : Nat) : Int) - 1 = (d : Int) by omega]
    exact e6
/-- A plan is drawn. -/
theorem drawPlan {c : List Int} (hc : Bytes c) (hl : c.length ≤ 1048576) (a sd n t : Int) (ht : 0 ≤ t ∧ t ≤ 40) (m : Nat) (ha : Bud a (m + 200)) : ∃ i s o a' sd', Ev (fun k => spec_l1Cur_plan.f k c a sd n t) (i, s, o, a', sd') ∧ s.length ≤ 40 ∧ o.length ≤ 3 ∧ Bud a' m := by
  obtain ⟨x, a1, s1, e1, _, _, b1⟩ := pick_ev hc hl (m := m + 199) (ha.le (by omega)) sd n
  obtain ⟨y, a2, s2, e2, y0, y1, b2⟩ := pick_ev hc hl (m := m + 198) b1 s1 (w64 (t + 1))
  rw [zas (by omega)] at e2 y1
  obtain ⟨d, rfl⟩ := Int.eq_ofNat_of_zero_le y0
  obtain ⟨s', a3, s3, e3, l3, b3⟩ := dplan_l0 hc hl x d [] a2 s2 (m + 70) (b2.le (by omega)) (by simp; omega)
  obtain ⟨z, a4, s4, e4, z0, z1, b4⟩ := pick_ev hc hl (m := m + 60) (b3.le (by omega)) s3 3
  obtain ⟨q, rfl⟩ := Int.eq_ofNat_of_zero_le z0
  obtain ⟨o', a5, s5, e5, l5, b5⟩ := dplan_l1 hc hl x s' (1 + q) [] a4 s4 (m + 30) (b4.le (by omega)) (by simp; omega)
  obtain ⟨b, a6, s6, e6, b6⟩ := one_ev hc hl (m := m + 20) (b5.le (by omega)) s5 12
  have e7 : ∃ o, o.length ≤ 3 ∧ ((spec_l1Cur_one.f c a5 s5 12).bind fun (b1653, i1654, i1655) => if b1653 = true then (some (([] : List Int), i1654, i1655)) else (some (o', i1654, i1655))) = some (o, a6, s6) := by
    rw [e6, Option.bind_some]
    cases b
    · exact ⟨o', by rw [l5]; simp; omega, rfl⟩
    · exact ⟨[], by simp, rfl⟩
  obtain ⟨o, lo, e7⟩ := e7
  refine ⟨w64 (1 + x), s', o, a6, s6, ?_, by rw [l3]; simp; omega, lo, b6.le (by omega)⟩
  unfold spec_l1Cur_plan.f
  rw [zas (x := t + 1) (by omega)]
  refine bind0 e1 (bind0 e2 (bind e3 (bind0 e4 (bind (a := (o', a5, s5)) ?_ (bind0 e7 (ret _))))))
  rw [zas (by omega), show (1 : Int) + (q : Int) = ((1 + q : Nat) : Int) by omega]
  exact e5
theorem any_l0 (d : Nat) (s : List SStep) (hd : s.length + d ≤ 1000) : ∃ s', Ev (fun k => spec_l1Cur_anyPlan.l0 k s (d : Int)) s' ∧ s'.length = s.length + d := by
  induction d generalizing s with
  | zero =>
    refine ⟨s, shift ?_, rfl⟩
    simp only [spec_l1Cur_anyPlan.l0]
    exact neg (by omega) (ret _)
  | succ d ih =>
    obtain ⟨s', e, l⟩ := ih (s ++ [⟨(s.length : Int), (s.length : Int)⟩]) (by rw [List.length_append, List.length_singleton]; omega)
    refine ⟨s', shift ?_, by rw [l, List.length_append, List.length_singleton]; omega⟩
    simp only [spec_l1Cur_anyPlan.l0]
    refine pos (by omega) (bind0 (ap_ok (by simp; omega)) ?_)
    rw [zas (by omega), show ((d + 1 : Nat) : Int) - 1 = (d : Int) by omega]
    exact e
theorem any_l2 (d : Nat) (s : List SStep) (hd : s.length + d ≤ 1000) : ∃ s', Ev (fun k => spec_l1Cur_anyPlan.l2 k s (d : Int)) s' ∧ s'.length = s.length + d := by
  induction d generalizing s with
  | zero =>
    refine ⟨s, shift ?_, rfl⟩
    simp only [spec_l1Cur_anyPlan.l2]
    exact neg (by omega) (ret _)
  | succ d ih =>
    obtain ⟨s', e, l⟩ := ih (s ++ [⟨0, w64 (1 + (s.length : Int))⟩]) (by rw [List.length_append, List.length_singleton]; omega)
    refine ⟨s', shift ?_, by rw [l, List.length_append, List.length_singleton]; omega⟩
    simp only [spec_l1Cur_anyPlan.l2]
    refine pos (by omega) (bind0 (ap_ok (by simp; omega)) ?_)
    rw [zas (x := ((d + 1 : Nat) : Int) - 1) (by omega), show ((d + 1 : Nat) : Int) - 1 = (d : Int) by omega]
    exact e
theorem any_l1 {c : List Int} (hc : Bytes c) (hl : c.length ≤ 1048576) (i : Int) (s : List SStep) (d : Nat) (o : List Int) (a sd : Int) (m : Nat) (ho : o.length + d = 8) (ha : Bud a (m + d + 1)) : ∃ o' a' sd', Ev (fun k => spec_l1Cur_anyPlan.l1 c i s k o a sd) (i, s, o', a', sd') ∧ o'.length ≤ 8 ∧ Bud a' m := by
  induction d generalizing o a sd with
  | zero =>
    obtain ⟨x, a1, s1, e1, x0, x1, b1⟩ := pick_ev hc hl (m := m) (ha.le (by omega)) sd 2
    refine ⟨o, a1, s1, shift ?_, by omega, b1⟩
    simp only [spec_l1Cur_anyPlan.l1]
    refine bind0 e1 ?_
    rw [zas (by omega)]
    exact neg (by omega) (ret _)
  | succ d ih =>
    obtain ⟨x, a1, s1, e1, x0, x1, b1⟩ := pick_ev hc hl (m := m + d + 1) (ha.le (by omega)) sd 2
    by_cases h : (o.length : Int) < 6 + x
    · obtain ⟨o', a', sd', e, l, b⟩ := ih (o ++ [0]) a1 s1 (by rw [List.length_append, List.length_singleton]; omega) b1
      refine ⟨o', a', sd', shift ?_, l, b⟩
      simp only [spec_l1Cur_anyPlan.l1]
      refine bind0 e1 ?_
      rw [zas (by omega)]
      exact pos h (bind0 (ap_ok (by simp; omega)) e)
    · refine ⟨o, a1, s1, shift ?_, by omega, b1.le (by omega)⟩
      simp only [spec_l1Cur_anyPlan.l1]
      refine bind0 e1 ?_
      rw [zas (by omega)]
      exact neg h (ret _)
/-- A plan, or something near one, is drawn. -/
theorem drawAny {c : List Int} (hc : Bytes c) (hl : c.length ≤ 1048576) (a sd n t : Int) (ht : 0 ≤ t ∧ t ≤ 40) (m : Nat) (ha : Bud a (m + 300)) : ∃ i s o a' sd', Ev (fun k => spec_l1Cur_anyPlan.f k c a sd n t) (i, s, o, a', sd') ∧ s.length ≤ 60 ∧ o.length ≤ 60 ∧ Bud a' m := by
  obtain ⟨i, s, o, a1, s1, e1, ls, lo, b1⟩ := drawPlan hc hl a sd n t ht (m + 100) ha
  obtain ⟨x, a2, s2, e2, x0, x1, b2⟩ := pick_ev hc hl (m := m + 99) b1 s1 16
  have fin : ∀ (g : Nat → Option (Int × List SStep × List Int × Int × Int)), (∃ i' s' o' a' sd', Ev g (i', s', o', a', sd') ∧ s'.length ≤ 60 ∧ o'.length ≤ 60 ∧ Bud a' m) → (∀ k, ((spec_l1Cur_pick.f c a1 s1 16).bind fun (i753, i754, i755) => if i753 = 0 then ((spec_l1Cur_among.f c i754 i755 ([(-1), 0, 1, 6, 7] : List Int)).bind fun (i761, i762, i763) => some (i761, s, o, i762, i763)) else (if i753 = 1 then (if 0 < (s.length : Int) then ((spec_l1Cur_pick.f c i754 i755 (s.length : Int)).bind fun (i767, i768, i769) => (spec_l1Cur_pick.f c i768 i769 5).bind fun (i771, i772, i773) => (spec_l1Cur_pick.f c i772 i773 8).bind fun (i775, i776, i777) => (gt s i767).bind fun y780 => (st s i767 (⟨w64 (i771 - 1), i775⟩ : SStep)).bind fun l781 => some (i, l781, o, i776, i777)) else (some (i, s, o, i754, i755))) else (if i753 = 2 then ((spec_l1Cur_pick.f c i754 i755 12).bind fun (i967, i968, i969) => (ap o ([w64 (i967 - 1)] : List Int)).bind fun l1146 => some (i, s, l1146, i968, i969)) else (if i753 = 3 then ((spec_l1Cur_pick.f c i754 i755 4).bind fun (i1388, i1389, i1390) => (spec_l1Cur_anyPlan.l0 k ([] : List SStep) (w64 (18 + i1388))).bind fun l1392 => some (1, l1392, ([(l1392.length : Int)] : List Int), i1389, i1390)) else (if i753 = 4 then ((spec_l1Cur_anyPlan.l1 c i s k o i754 i755)) else (if i753 = 5 then ((spec_l1Cur_pick.f c i754 i755 2).bind fun (i1447, i1448, i1449) => (spec_l1Cur_anyPlan.l2 k ([] : List SStep) (w64 (40 + i1447))).bind fun l1451 => some (2, l1451, ([5] : List Int), i1448, i1449)) else (some (i, s, o, i754, i755)))))))) = g k) → ∃ i s o a' sd', Ev (fun k => spec_l1Cur_anyPlan.f k c a sd n t) (i, s, o, a', sd') ∧ s.length ≤ 60 ∧ o.length ≤ 60 ∧ Bud a' m := by
    rintro g ⟨i', s', o', a', sd', eg, q1, q2, q3⟩ hg
    refine ⟨i', s', o', a', sd', ?_, q1, q2, q3⟩
    unfold spec_l1Cur_anyPlan.f
    refine bind e1 ?_
    simp only [hg]
    exact bind eg (ret _)
  refine fin _ ?_ (fun k => rfl)
  by_cases c0 : x = 0
  · obtain ⟨y, a3, s3, e3, _, b3⟩ := among_ev hc hl (m := m + 98) b2 s2 [(-1), 0, 1, 6, 7] (by simp)
    exact ⟨_, _, _, _, _, bind0 e2 (pos c0 (bind0 e3 (ret _))), by omega, by omega, b3.le (by omega)⟩
  · by_cases c1 : x = 1
    · by_cases h0 : 0 < (s.length : Int)
      · obtain ⟨y, a3, s3, e3, y0, y1, b3⟩ := pick_ev hc hl (m := m + 98) b2 s2 (s.length : Int)
        obtain ⟨z, a4, s4, e4, _, _, b4⟩ := pick_ev hc hl (m := m + 97) b3 s3 5
        obtain ⟨w, a5, s5, e5, _, _, b5⟩ := pick_ev hc hl (m := m + 96) b4 s4 8
        have hj : y.toNat < s.length := by omega
        have hg : gt s y = some s[y.toNat] := by
          unfold gt
          rw [if_pos y0, List.getElem?_eq_getElem hj]
        have hst : st s y (⟨w64 (z - 1), w⟩ : SStep) = some (s.set y.toNat ⟨w64 (z - 1), w⟩) := by
          unfold st
          rw [if_pos (by omega)]
        exact ⟨_, _, _, _, _, bind0 e2 (neg c0 (pos c1 (pos h0 (bind0 e3 (bind0 e4 (bind0 e5 (bind0 hg (bind0 hst (ret _))))))))), by simp; omega, by omega, b5.le (by omega)⟩
      · exact ⟨_, _, _, _, _, bind0 e2 (neg c0 (pos c1 (neg h0 (ret _)))), by omega, by omega, b2.le (by omega)⟩
    · by_cases c2 : x = 2
      · obtain ⟨y, a3, s3, e3, _, _, b3⟩ := pick_ev hc hl (m := m + 98) b2 s2 12
        exact ⟨_, _, _, _, _, bind0 e2 (neg c0 (neg c1 (pos c2 (bind0 e3 (bind0 (ap_ok (by simp; omega)) (ret _)))))), by omega, by simp; omega, b3.le (by omega)⟩
      · by_cases c3 : x = 3
        · obtain ⟨y, a3, s3, e3, y0, y1, b3⟩ := pick_ev hc hl (m := m + 98) b2 s2 4
          obtain ⟨d, rfl⟩ := Int.eq_ofNat_of_zero_le y0
          obtain ⟨s', e4, l4⟩ := any_l0 (18 + d) [] (by simp; omega)
          refine ⟨_, _, _, _, _, bind0 e2 (neg c0 (neg c1 (neg c2 (pos c3 (bind0 e3 (bind (a := s') ?_ (ret _))))))), by rw [l4]; simp; omega, by simp, b3.le (by omega)⟩
          rw [zas (by omega), show (18 : Int) + (d : Int) = ((18 + d : Nat) : Int) by omega]
          exact e4
        · by_cases c4 : x = 4
          · obtain ⟨o', a3, s3, e3, l3, b3⟩ := any_l1 hc hl i s (8 - o.length) o a2 s2 (m + 50) (by omega) (b2.le (by omega))
            exact ⟨_, _, _, _, _, bind0 e2 (neg c0 (neg c1 (neg c2 (neg c3 (pos c4 e3))))), by omega, by omega, b3.le (by omega)⟩
          · by_cases c5 : x = 5
            · obtain ⟨y, a3, s3, e3, y0, y1, b3⟩ := pick_ev hc hl (m := m + 98) b2 s2 2
              obtain ⟨d, rfl⟩ := Int.eq_ofNat_of_zero_le y0
              obtain ⟨s', e4, l4⟩ := any_l2 (40 + d) [] (by simp; omega)
              refine ⟨_, _, _, _, _, bind0 e2 (neg c0 (neg c1 (neg c2 (neg c3 (neg c4 (pos c5 (bind0 e3 (bind (a := s') ?_ (ret _))))))))), by rw [l4]; simp; omega, by simp, b3.le (by omega)⟩
              rw [zas (by omega), show (40 : Int) + (d : Int) = ((40 + d : Nat) : Int) by omega]
              exact e4
            · exact ⟨_, _, _, _, _, bind0 e2 (neg c0 (neg c1 (neg c2 (neg c3 (neg c4 (neg c5 (ret _))))))), by omega, by omega, b2.le (by omega)⟩
theorem big_eq (l m : List Int) (hl : l.length ≤ maxLen) (hm : m.length ≤ maxLen) : ∃ b, laws_big.f l m = some b ∧ (b = false → l.length ≤ 1048576 ∧ m.length ≤ 1048576) := by
  have h1 : l.length ≤ 9223372036854775807 := hl
  have h2 : m.length ≤ 9223372036854775807 := hm
  unfold laws_big.f
  by_cases c : 1048576 < (l.length : Int)
  · rw [if_pos c]
    exact ⟨true, rfl, fun h => nomatch h⟩
  · rw [if_neg c, zas (by omega)]
    refine ⟨_, rfl, fun h => ?_⟩
    simp only [decide_eq_false_iff_not] at h
    omega
end Go.Proofs.YtnnlfipcoahcnaaGreatDoor.Pure
