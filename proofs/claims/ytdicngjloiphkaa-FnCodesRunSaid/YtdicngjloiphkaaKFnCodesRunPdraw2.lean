/- Pure: code of registers is drawn. -/
import Derived.Test.YtdicngjloiphkaaKFnCodesRunPdraw
import Derived.Test.YtdicngjloiphkaaKFnCodesRunPalloc
import Derived.Test.YtdicngjloiphkaaKFnCodesRunPreg2
set_option linter.unusedVariables false
set_option linter.unusedSimpArgs false
namespace Go.Proofs.Ytdicngjloiphkaa.Pure
open Go.RowKit Go.Proofs.Ytdicngjloiphkaa.E Go.Proofs.Ytdicngjloiphkaa.L6 Go.Proofs.Ytdicngjloiphkaa.Frame Go.Proofs.YtdicngjloiphkaaW.PrintLast Go.Proofs.YtdicngjloiphkaaW.PrintMore
open Go.Proofs.YtdicngjloiphkaaW.PrintWords hiding mn mx
theorem drawInputs {c : List Int} (hc : Bytes c) (hl : c.length ≤ 1048576) {a : Int} {m : Nat} (ha : Bud a (m + 1)) (sd : Int) : ∃ y a' sd', spec_l1Cur_inputs.f c a sd = some (y, a', sd') ∧ (1 ≤ y ∧ y ≤ 4) ∧ Bud a' m := by
 obtain ⟨y, a', sd', e, hy, hb⟩ := among_ev hc hl ha sd [1, 1, 2, 2, 3, 4] (by simp)
 unfold spec_l1Cur_inputs.f
 rw [e]
 refine ⟨_, _, _, rfl, ?_, hb⟩
 simp only [List.mem_cons, List.not_mem_nil, or_false] at hy
 omega
theorem put_len2 (l : List Int) (a : Int) : 0 < (put l a).length ∧ (put l a).length ≤ l.length + 1 := by
 induction l with
 | nil => simp [put]
 | cons y ys ih =>
  simp only [put]
  split
  ·simp only [List.length_cons]
   omega
  ·split
   ·simp
   ·simp
theorem code_l0 {c : List Int} (hc : Bytes c) (hl : c.length ≤ 1048576) (q : Int) (d : Nat) (f : List Int) (ops : List SRegOp) (a sd : Int) (m : Nat) (ha : Bud a (m + 3 * d)) (hf : 0 < f.length ∧ f.length + d ≤ 1000) (ho : ops.length + d ≤ 1000) : ∃ f' ops' a' sd', (∃ K, ∀ n, K ≤ n → ∀ e, d < e → spec_l1Cur_code9.l0 n c q e f ops a sd (d : Int) = some (f', ops', a', sd')) ∧ 0 < f'.length ∧ ops'.length = ops.length + d ∧ Bud a' m := by
 induction d generalizing f ops a sd with
 | zero =>
  refine ⟨f, ops, a, sd, ⟨0, fun n _ e he => ?_⟩, hf.1, rfl, ha.le (by omega)⟩
  obtain ⟨e, rfl⟩ : ∃ k, e = k + 1 := ⟨e - 1, by omega⟩
  simp only [spec_l1Cur_code9.l0]
  rw [if_neg (by omega)]
 | succ d ih =>
  obtain ⟨x, a1, s1, e1, _, _, b1⟩ := pick_ev hc hl (m := m + 3 * d + 2) (ha.le (by omega)) sd (w64 (2 + q))
  obtain ⟨y, a2, s2, e2, _, b2⟩ := among_ev hc hl (m := m + 3 * d + 1) b1 s1 f hf.1
  obtain ⟨z, a3, s3, e3, _, b3⟩ := among_ev hc hl (m := m + 3 * d) b2 s2 f hf.1
  have hp := put_len2 f x
  obtain ⟨f', ops', a', sd', ⟨K2, k2⟩, l1, l2, b4⟩ := ih (put f x) (ops ++ [⟨x, y, z⟩]) a3 s3 b3 (by omega) (by rw [List.length_append, List.length_singleton]; omega)
  obtain ⟨K1, k1⟩ := put_ev f x (by omega)
  refine ⟨f', ops', a', sd', ⟨max K1 K2, fun n hn e he => ?_⟩, l1, by rw [l2, List.length_append, List.length_singleton]; omega, b4⟩
  obtain ⟨e, rfl⟩ : ∃ k, e = k + 1 := ⟨e - 1, by omega⟩
  simp only [spec_l1Cur_code9.l0]
  rw [if_pos (by omega), e1, Option.bind_some]
  simp only
  rw [e2, Option.bind_some]
  simp only
  rw [e3, Option.bind_some]
  simp only
  have k1n : spec_l1Put.f n f x = some (put f x) := k1 n (by omega)
  rw [ap_ok (by simp; omega), Option.bind_some, k1n, Option.bind_some, w64_id (x := ((d + 1 : Nat) : Int) - 1) (by omega), show ((d + 1 : Nat) : Int) - 1 = (d : Int) by omega]
  exact k2 n (by omega) e (by omega)
/-- Code is drawn. -/
theorem drawCode {c : List Int} (hc : Bytes c) (hl : c.length ≤ 1048576) (a sd : Int) (m : Nat) (ha : Bud a (m + 400)) : ∃ i l1 l2 l3 a' sd', Ev (fun k => spec_l1Cur_code9.f k c a sd) (i, l1, l2, l3, a', sd') ∧ l1.length ≤ 1001 ∧ l2.length ≤ 1001 ∧ l3.length ≤ 1001 ∧ Bud a' m := by
 have first : ∃ a1 s1 i l1 l2 l3, Ev (fun k => ((spec_l1Cur_one.f c a sd 2).bind fun (b128, i129, i130) => if b128 = true then ((spec_l1Cur_inputs.f c i129 i130).bind fun (i133, i134, i135) => (spec_l1Cur_among.f c i134 i135 ([2, 5, 9] : List Int)).bind fun (i140, i141, i142) => (spec_l1Cur_plan.f k c i141 i142 i133 i140).bind fun (i144, l145, l146, i147, i148) => (spec_AllocatePlan.f k i144 l145 l146).bind fun (i154, l155, l156, l157, b158) => some (i147, i148, i154, l155, l156, l157)) else ((spec_l1Cur_pick.f c i129 i130 4).bind fun (i166, i167, i168) => (spec_l1Cur_pick.f c i167 i168 7).bind fun (i176, i177, i178) => (spec_l1Cur_code9.l0 k c i166 k ([0] : List Int) ([] : List SRegOp) i177 i178 i176).bind fun (l180, l183, i186, i187) => (spec_l1Cur_among.f c i186 i187 l180).bind fun (i226, i227, i228) => some (i227, i228, w64 (2 + i166), ([0] : List Int), l183, ([i226] : List Int))))) (a1, s1, i, l1, l2, l3) ∧ l1.length ≤ 1000 ∧ l2.length ≤ 1000 ∧ l3.length ≤ 1000 ∧ Bud a1 (m + 50) := by
  obtain ⟨b, a1, s1, e1, b1⟩ := one_ev hc hl (m := m + 399) ha sd 2
  cases b with
  | true =>
   obtain ⟨y, a2, s2, e2, hy, b2⟩ := drawInputs hc hl (m := m + 398) b1 s1
   obtain ⟨z, a3, s3, e3, hz, b3⟩ := among_ev hc hl (m := m + 397) b2 s2 [2, 5, 9] (by simp)
   simp only [List.mem_cons, List.not_mem_nil, or_false] at hz
   obtain ⟨i, s, o, a4, s4, e4, ls, lo, b4⟩ := drawPlan hc hl a3 s3 y z (by omega) (m + 50) (b3.le (by omega))
   obtain ⟨n, r1, r2, r3, b, f1, _, f3, f4, f5⟩ := alloc_both i s o
   exact ⟨a4, s4, n, r1, r2, r3, bind0 e1 (pos rfl (bind0 e2 (bind0 e3 (bind e4 (bind f1 (ret _)))))), f3, f4, f5, b4⟩
  | false =>
   obtain ⟨x, a2, s2, e2, x0, x1, b2⟩ := pick_ev hc hl (m := m + 398) b1 s1 4
   obtain ⟨y, a3, s3, e3, y0, y1, b3⟩ := pick_ev hc hl (m := m + 397) b2 s2 7
   obtain ⟨d, rfl⟩ := Int.eq_ofNat_of_zero_le y0
   obtain ⟨f', ops', a4, s4, ⟨K, e4⟩, l1, l2, b4⟩ := code_l0 hc hl x d [0] [] a3 s3 (m + 300) (b3.le (by omega)) (by simp; omega) (by simp; omega)
   obtain ⟨w, a5, s5, e5, _, b5⟩ := among_ev hc hl (m := m + 299) b4 s4 f' l1
   have e4' : Ev (fun k => spec_l1Cur_code9.l0 k c x k ([0] : List Int) ([] : List SRegOp) a3 s3 (d : Int)) (f', ops', a4, s4) := ⟨max K (d + 1), fun n hn => e4 n (by omega) n (by omega)⟩
   exact ⟨a5, s5, _, _, _, _, bind0 e1 (neg (by simp) (bind0 e2 (bind0 e3 (bind e4' (bind0 e5 (ret _)))))), by simp, by rw [l2]; simp; omega, by simp, b5.le (by omega)⟩
 obtain ⟨a1, s1, i, l1, l2, l3, e1, q1, q2, q3, b1⟩ := first
 obtain ⟨x, a2, s2, e2, x0, x1, b2⟩ := pick_ev hc hl (m := m + 49) b1 s1 24
 unfold spec_l1Cur_code9.f
 by_cases c0 : x = 0
 ·obtain ⟨y, a3, s3, e3, _, b3⟩ := among_ev hc hl (m := m + 48) b2 s2 [0, 1, (-1), 46, 47] (by simp)
  exact ⟨_, _, _, _, _, _, bind e1 (bind (a := (y, l1, l2, l3, a3, s3)) (bind0 e2 (pos c0 (bind0 e3 (ret _)))) (ret _)), by omega, by omega, by omega, b3.le (by omega)⟩
 ·by_cases c1 : x = 1
  ·obtain ⟨y, a3, s3, e3, _, _, b3⟩ := pick_ev hc hl (m := m + 48) b2 s2 4
   obtain ⟨z, a4, s4, e4, _, b4⟩ := among_ev hc hl (m := m + 47) b3 s3 [0, 1, (-1), 99] (by simp)
   exact ⟨_, _, _, _, _, _, bind e1 (bind (a := (i, l1, l2 ++ [⟨0, y, z⟩], l3, a4, s4)) (bind0 e2 (neg c0 (pos c1 (bind0 e3 (bind0 e4 (bind0 (ap_ok (by simp; omega)) (ret _))))))) (ret _)), by omega, by simp; omega, by omega, b4.le (by omega)⟩
  ·by_cases c2 : x = 2
   ·obtain ⟨y, a3, s3, e3, _, _, b3⟩ := pick_ev hc hl (m := m + 48) b2 s2 3
    exact ⟨_, _, _, _, _, _, bind e1 (bind (a := (i, l1 ++ [y], l2, l3, a3, s3)) (bind0 e2 (neg c0 (neg c1 (pos c2 (bind0 e3 (bind0 (ap_ok (by simp; omega)) (ret _))))))) (ret _)), by simp; omega, by omega, by omega, b3.le (by omega)⟩
   ·by_cases c3 : x = 3
    ·obtain ⟨y, a3, s3, e3, _, _, b3⟩ := pick_ev hc hl (m := m + 48) b2 s2 6
     exact ⟨_, _, _, _, _, _, bind e1 (bind (a := (i, l1, l2, l3 ++ [y], a3, s3)) (bind0 e2 (neg c0 (neg c1 (neg c2 (pos c3 (bind0 e3 (bind0 (ap_ok (by simp; omega)) (ret _)))))))) (ret _)), by omega, by omega, by simp; omega, b3.le (by omega)⟩
    ·exact ⟨_, _, _, _, _, _, bind e1 (bind (a := (i, l1, l2, l3, a2, s2)) (bind0 e2 (neg c0 (neg c1 (neg c2 (neg c3 (ret _)))))) (ret _)), by omega, by omega, by omega, b2.le (by omega)⟩
theorem modulus_ev {c : List Int} (hc : Bytes c) (hl : c.length ≤ 1048576) {a : Int} {m : Nat} (ha : Bud a (m + 3)) (sd : Int) : ∃ x a' sd', spec_l1Cur_modulus6.f c a sd = some (x, a', sd') ∧ Bud a' m := by
 obtain ⟨b, a1, s1, e1, b1⟩ := one_ev hc hl (m := m + 2) ha sd 12
 unfold spec_l1Cur_modulus6.f
 rw [e1, Option.bind_some]
 cases b with
 | true =>
  obtain ⟨y, a2, s2, e2, _, b2⟩ := among_ev hc hl (m := m + 1) b1 s1 [(-1), 0, 1, 2, 10000, 10001] (by simp)
  simp only [if_true]
  rw [e2]
  exact ⟨_, _, _, rfl, b2.le (by omega)⟩
 | false =>
  obtain ⟨y, a2, s2, e2, _, b2⟩ := among_ev hc hl (m := m + 1) b1 s1 [6, 30, 1000] (by simp)
  obtain ⟨z, a3, s3, e3, _, _, b3⟩ := pick_ev hc hl (m := m) b2 s2 y
  simp only [Bool.false_eq_true, if_false]
  rw [e2, Option.bind_some]
  simp only
  rw [e3]
  exact ⟨_, _, _, rfl, b3⟩
theorem residue_ev {c : List Int} (hc : Bytes c) (hl : c.length ≤ 1048576) {a : Int} {m : Nat} (ha : Bud a (m + 2)) (sd n : Int) : ∃ x a' sd', spec_l1Cur_residue.f c a sd n = some (x, a', sd') ∧ Bud a' m := by
 obtain ⟨b, a1, s1, e1, b1⟩ := one_ev hc hl (m := m + 1) ha sd 40
 unfold spec_l1Cur_residue.f
 rw [e1, Option.bind_some]
 cases b with
 | true =>
  obtain ⟨y, a2, s2, e2, _, b2⟩ := among_ev hc hl (m := m) b1 s1 [(-1), n, 4611686018427387904] (by simp)
  simp only [if_true]
  rw [e2]
  exact ⟨_, _, _, rfl, b2⟩
 | false =>
  obtain ⟨z, a3, s3, e3, _, _, b3⟩ := pick_ev hc hl (m := m) b1 s1 (mx 1 (mn n 20000))
  simp only [Bool.false_eq_true, if_false]
  rw [least_eq, Option.bind_some, most_eq, Option.bind_some, e3]
  exact ⟨_, _, _, rfl, b3⟩
theorem residues_l0 {c : List Int} (hc : Bytes c) (hl : c.length ≤ 1048576) (n : Int) (d : Nat) (l : List Int) (a sd : Int) (m : Nat) (ha : Bud a (m + 2 * d)) (hd : l.length + d ≤ 5000) : ∃ l' a' sd', Ev (fun k => spec_l1Cur_residues.l0 c n k l a sd (d : Int)) (l', a', sd') ∧ l'.length = l.length + d ∧ Bud a' m := by
 induction d generalizing l a sd with
 | zero =>
  refine ⟨l, a, sd, shift ?_, rfl, ha.le (by omega)⟩
  simp only [spec_l1Cur_residues.l0]
  exact neg (by omega) (ret _)
 | succ d ih =>
  obtain ⟨x, a1, s1, e1, b1⟩ := residue_ev hc hl (m := m + 2 * d) (ha.le (by omega)) sd n
  obtain ⟨l', a', sd', e2, l2, b2⟩ := ih (l ++ [x]) a1 s1 b1 (by rw [List.length_append, List.length_singleton]; omega)
  refine ⟨l', a', sd', shift ?_, by rw [l2, List.length_append, List.length_singleton]; omega, b2⟩
  simp only [spec_l1Cur_residues.l0]
  refine pos (by omega) (bind0 e1 (bind0 (ap_ok (by simp; omega)) ?_))
  rw [w64_id (x := ((d + 1 : Nat) : Int) - 1) (by omega), show ((d + 1 : Nat) : Int) - 1 = (d : Int) by omega]
  exact e2
theorem residues_ev {c : List Int} (hc : Bytes c) (hl : c.length ≤ 1048576) (t : Nat) (n : Int) (ht : t ≤ 2000) (a sd : Int) (m : Nat) (ha : Bud a (m + 5000)) : ∃ l' a' sd', Ev (fun k => spec_l1Cur_residues.f k c a sd (t : Int) n) (l', a', sd') ∧ l'.length ≤ 2001 ∧ Bud a' m := by
 obtain ⟨b, a1, s1, e1, b1⟩ := one_ev hc hl (m := m + 4999) ha sd 30
 have e2 : ∃ u : Nat, u ≤ t + 1 ∧ ((spec_l1Cur_one.f c a sd 30).bind fun (b15, i16, i17) => if b15 = true then (some (i16, i17, w64 ((t : Int) + 1))) else (some (i16, i17, (t : Int)))) = some (a1, s1, (u : Int)) := by
  rw [e1, Option.bind_some]
  cases b
  ·exact ⟨t, by omega, rfl⟩
  ·exact ⟨t + 1, by omega, by simp only [if_true]; rw [w64_id (by omega)]; rfl⟩
 obtain ⟨u, hu, e2⟩ := e2
 obtain ⟨l', a2, s2, e3, l3, b3⟩ := residues_l0 hc hl n u [] a1 s1 m (b1.le (by omega)) (by simp; omega)
 unfold spec_l1Cur_residues.f
 exact ⟨l', a2, s2, bind0 e2 (bind e3 (ret _)), by rw [l3]; simp; omega, b3⟩
theorem drawRun {c : List Int} (hc : Bytes c) (hl : c.length ≤ 1048576) : ∃ i l1 l2 l3 m w, Ev (fun k => spec_DrawRunRegCode.f k c) (i, l1, l2, l3, m, w) ∧ w.length ≤ 2001 := by
 obtain ⟨i, l1, l2, l3, a1, s1, e1, q1, q2, q3, b1⟩ := drawCode hc hl 0 0 10000 ⟨by omega, by omega⟩
 obtain ⟨x, a2, s2, e2, b2⟩ := modulus_ev hc hl (m := 9000) (b1.le (by omega)) s1
 obtain ⟨w, a3, s3, e3, lw, _⟩ := residues_ev hc hl l1.length x (by omega) a2 s2 1000 (b2.le (by omega))
 unfold spec_DrawRunRegCode.f
 exact ⟨i, l1, l2, l3, x, w, bind e1 (bind0 e2 (bind e3 (ret _))), lw⟩
theorem drawCheck {c : List Int} (hc : Bytes c) (hl : c.length ≤ 1048576) : ∃ i l1 l2 l3 n s o, Ev (fun k => spec_DrawCheckRegCode.f k c) (i, l1, l2, l3, n, s, o) := by
 obtain ⟨i, l1, l2, l3, a1, s1, e1, q1, q2, q3, b1⟩ := drawCode hc hl 0 0 10000 ⟨by omega, by omega⟩
 obtain ⟨⟨n, s, o, b⟩, e2, _⟩ := rePlan_ev i l1 l2 l3
 have e3 : ∃ a2 s2 q, (if b = true then ((spec_l1Cur_one.f c a1 s1 3).bind fun (b48, i49, i50) => some (i49, i50, b48)) else (some (a1, s1, true))) = some (a2, s2, q) ∧ Bud a2 5000 := by
  cases b with
  | true =>
   obtain ⟨b, a2, s2, e, b2⟩ := one_ev hc hl (m := 9000) (b1.le (by omega)) s1 3
   rw [if_pos rfl, e]
   exact ⟨_, _, _, rfl, b2.le (by omega)⟩
  | false => exact ⟨a1, s1, true, rfl, b1.le (by omega)⟩
 obtain ⟨a2, s2, q, e3, b2⟩ := e3
 unfold spec_DrawCheckRegCode.f
 cases q with
 | true =>
  obtain ⟨y, a3, s3, e4, hy, b3⟩ := drawInputs hc hl (m := 4000) (b2.le (by omega)) s2
  obtain ⟨n', s', o', a4, s4, e5, _, _, _⟩ := drawAny hc hl a3 s3 y 5 (by omega) 0 (b3.le (by omega))
  exact ⟨_, _, _, _, _, _, _, bind e1 (bind e2 (bind0 e3 (pos rfl (bind0 e4 (bind e5 (ret _))))))⟩
 | false => exact ⟨_, _, _, _, _, _, _, bind e1 (bind e2 (bind0 e3 (neg (by simp) (ret _))))⟩
end Go.Proofs.Ytdicngjloiphkaa.Pure
