/- Pure: the law of allocated code. -/
import Derived.Test.YtdicngjloiphkaaKFnAllocatedCodePread
import Derived.Test.YtdicngjloiphkaaKFnAllocatedCodePchk
set_option linter.unusedVariables false
set_option linter.unusedSimpArgs false
namespace Go.Proofs.Ytdicngjloiphkaa.Pure
open Go.RowKit Go.Proofs.Ytdicngjloiphkaa.E Go.Proofs.Ytdicngjloiphkaa.L7 Go.Proofs.Ytdicngjloiphkaa.Frame Go.Proofs.YtdicngjloiphkaaW.PrintLast Go.Proofs.YtdicngjloiphkaaW.PrintMore
open Go.Proofs.YtdicngjloiphkaaW.PrintWords hiding mn mx
theorem check_impl {a : Int} {l1 : List Int} {l2 : List SRegOp} {l3 : List Int} {s' : List SStep} {o' : List Int} (hc : codeP a l1 l2 l3 = some (s', o')) (hf' : Form l1.length s' o') {I : Nat} {s : List SStep} {o : List Int} (hf : Form I s o) (hg : good (I : Int) s o = true) : Ev (fun k => impl_CheckRegCode.f k a l1 l2 l3 (I : Int) s o) (sameB l1.length s' o' I s o, true) := by
  have hp := plan_ev a l1 l2 l3
  rw [hc] at hp
  have g1 := isPlan_ev (I : Int) s o
  rw [hg] at g1
  unfold impl_CheckRegCode.f
  exact bind hp (pos rfl (bind g1 (pos rfl (bind0 (impl_same hf' hf) (ret _)))))
theorem rSameCode_refl (i : Int) (l1 : List Int) (l2 : List SRegOp) (l3 : List Int) : laws_rSameCode.f i l1 l2 l3 i l1 l2 l3 = some true := by
  have key : ∀ (d j : Nat), j + d = l2.length → laws_rSameCode.l0 l2 (l2.drop j) (j : Int) = some (.inr ()) := by
    intro d
    induction d with
    | zero =>
      intro j hj
      rw [List.drop_eq_nil_of_le (by omega)]
      rfl
    | succ d ih =>
      intro j hj
      rw [List.drop_eq_getElem_cons (show j < l2.length by omega)]
      simp only [laws_rSameCode.l0]
      rw [gt_nat (show j < l2.length by omega), Option.bind_some, if_pos (by simp), show (j : Int) + 1 = ((j + 1 : Nat) : Int) by omega]
      exact ih (j + 1) (by omega)
  unfold laws_rSameCode.f
  rw [if_neg (by simp), rSame_refl, Option.bind_some, if_pos rfl, if_neg (by simp), rSame_refl, Option.bind_some, if_pos rfl]
  have := key l2.length 0 (by omega)
  rw [List.drop_zero] at this
  rw [show (0 : Int) = ((0 : Nat) : Int) from rfl, this]
  rfl
theorem pressureOf_both (i : Int) (s : List SStep) (o : List Int) : ∃ n, Ev (fun k => spec_PressureOf.f k i s o) (n, good i s o) ∧ Ev (fun k => impl_PressureOf.f k i s o) (n, good i s o) ∧ (good i s o = true → n = prs i.toNat s o) := by
  have e1 := plGood_ev i s o
  have e2 := isPlan_ev i s o
  unfold spec_PressureOf.f impl_PressureOf.f
  cases hg : good i s o with
  | false =>
    rw [hg] at e1 e2
    exact ⟨_, bind e1 (neg (by simp) (ret _)), bind e2 (neg (by simp) (ret _)), fun h => nomatch h⟩
  | true =>
    rw [hg] at e1 e2
    obtain ⟨I, rfl, hf⟩ := good_form hg
    have hst := hf.stp
    have hi : ∀ y ∈ iota s.length, 0 ≤ y ∧ y < (s.length : Int) := fun y hy => iota_mem.1 hy
    exact ⟨prs I s o, bind e1 (pos rfl (bind (upTo_ev s.length (by omega)) (bind (rePressure_ev hf (iota s.length) (by simp [iota]; omega) hi) (ret _)))), bind e2 (pos rfl (bind0 (firsts_eq s.length (by omega)) (bind0 (pressure_eq hf (iota s.length) hi) (ret _)))), fun _ => by rw [Int.toNat_natCast]⟩
theorem runRes_ok {I : Nat} {s : List SStep} {o : List Int} (hg : good (I : Int) s o = true) (hf : Form I s o) (m : Int) (hm : 2 ≤ m ∧ m ≤ 10000) (w : List Int) (hw : w.length = I) (hr : aB 0 (w64 (m - 1)) w = true) : ∃ r, Ev (fun k => impl_RunResidues.f k (I : Int) s o m w) (r, true) := by
  have h1 := hf.inp
  have h2 := hf.stp
  have h3 := hf.out
  have hgood := isPlan_ev (I : Int) s o
  rw [hg] at hgood
  have hrok := residuesOk_eq m w
  rw [hr, decide_eq_true hm] at hrok
  have f1 := impl_runP m (by omega) s w 0 I s o hf 0 rfl (by omega)
  have f2 : impl_run_int.f (I : Int) s o w m = some (runP m s w) := by
    unfold impl_run_int.f slices_Clone_int_int.f
    rw [ap_ok (by simp; omega)]
    simp only [Option.bind_some, List.nil_append]
    rw [f1]
    rfl
  have hl := runP_len m s w
  have f3 := outputsOf_l0 (runP m s w) o [] 0 (fun y hy => by have := hf.os y hy; omega) (by simp; omega)
  have f4 : impl_outputsOf_int.f (I : Int) s o (runP m s w) = some (o.map (rg (runP m s w))) := by
    unfold impl_outputsOf_int.f
    rw [f3]
    simp
  unfold impl_RunResidues.f
  exact ⟨_, bind hgood (pos rfl (neg (by omega) (bind0 hrok (pos rfl (bind0 f2 (bind0 f4 (ret _)))))))⟩
theorem numberOf_eq (l : List Int) (hl : Bytes l) : ∃ n, laws_numberOf.f l = some n ∧ 0 ≤ n ∧ n < 1000003 := by
  have key : ∀ (l : List Int) (n j : Int), Bytes l → 0 ≤ n → n < 1000003 → ∃ n', laws_numberOf.l0 l n j = some n' ∧ 0 ≤ n' ∧ n' < 1000003 := by
    intro l
    induction l with
    | nil => exact fun n j _ h0 h1 => ⟨n, rfl, h0, h1⟩
    | cons y ys ih =>
      intro n j hb h0 h1
      have hy := hb y List.mem_cons_self
      simp only [laws_numberOf.l0]
      rw [zb7 (x := 31 * n) (by omega), zb7 (x := y) (by omega), zb7 (by omega)]
      exact ih _ _ (fun z hz => hb z (List.mem_cons_of_mem _ hz)) (Int.tmod_nonneg _ (by omega)) (Int.tmod_lt_of_pos _ (by omega))
  obtain ⟨n, e, h0, h1⟩ := key l 0 0 hl (by omega) (by omega)
  unfold laws_numberOf.f
  rw [e]
  exact ⟨n, rfl, h0, h1⟩
theorem inputs_ev (I : Nat) (hI : I ≤ 6) (n : Int) (hn : 0 ≤ n ∧ n < 1000003) : ∃ w, Ev (fun k => laws_FnAllocatedCode.l0 (I : Int) n k [] 0) w ∧ w.length = I ∧ aB 0 (w64 (97 - 1)) w = true := by
  have key : ∀ (d j : Nat) (l : List Int), j + d = I → l.length = j → aB 0 (w64 (97 - 1)) l = true → ∃ w, Ev (fun k => laws_FnAllocatedCode.l0 (I : Int) n k l (j : Int)) w ∧ w.length = I ∧ aB 0 (w64 (97 - 1)) w = true := by
    intro d
    induction d with
    | zero =>
      intro j l hj hl ha
      refine ⟨l, shift ?_, by omega, ha⟩
      simp only [laws_FnAllocatedCode.l0]
      exact neg (by omega) (ret _)
    | succ d ih =>
      intro j l hj hl ha
      have hjj : (j : Int) ≤ 6 := by omega
      have h5 : 0 ≤ 5 * (j : Int) * (j : Int) ∧ 5 * (j : Int) * (j : Int) ≤ 180 := by
        have hj6 : j ≤ 6 := by omega
        have : j = 0 ∨ j = 1 ∨ j = 2 ∨ j = 3 ∨ j = 4 ∨ j = 5 ∨ j = 6 := by omega
        rcases this with h | h | h | h | h | h | h <;> subst h <;> decide
      have hx0 : 0 ≤ (w64 (w64 (n + (w64 (w64 (5 * (j : Int)) * (j : Int)))) + (j : Int))).tmod 97 ∧ (w64 (w64 (n + (w64 (w64 (5 * (j : Int)) * (j : Int)))) + (j : Int))).tmod 97 ≤ 96 := by
        rw [zb7 (x := 5 * (j : Int)) (by omega), zb7 (x := 5 * (j : Int) * (j : Int)) (by omega), zb7 (x := n + 5 * (j : Int) * (j : Int)) (by omega), zb7 (by omega)]
        have := Int.tmod_lt_of_pos (n + 5 * (j : Int) * (j : Int) + (j : Int)) (show (0 : Int) < 97 by omega)
        have := Int.tmod_nonneg (a := n + 5 * (j : Int) * (j : Int) + (j : Int)) 97 (by omega)
        omega
      obtain ⟨w, e, hw, hwa⟩ := ih (j + 1) (l ++ [(w64 (w64 (n + (w64 (w64 (5 * (j : Int)) * (j : Int)))) + (j : Int))).tmod 97]) (by omega) (by rw [List.length_append, List.length_singleton]; omega) (by
        unfold aB at ha ⊢
        rw [List.all_append, ha, Bool.true_and]
        rw [zb7 (x := 97 - 1) (by omega)]
        simp only [List.all_cons, List.all_nil, Bool.and_true]
        exact decide_eq_true (by omega))
      refine ⟨w, shift ?_, hw, hwa⟩
      simp only [laws_FnAllocatedCode.l0]
      refine pos (by omega) (bind0 (ap_ok (by simp; omega)) ?_)
      rw [zb7 (x := (j : Int) + 1) (by omega), show (j : Int) + 1 = ((j + 1 : Nat) : Int) by omega]
      exact e
  exact key I 0 [] (by omega) rfl rfl
theorem drawAlloc {c : List Int} (hc : Bytes c) (hl : c.length ≤ 1048576) : ∃ i s o, Ev (fun k => spec_DrawAllocatePlan.f k c) (i, s, o) := by
  obtain ⟨y, a2, s2, e2, hy, b2⟩ := among_ev hc hl (a := 0) (m := 999) ⟨by omega, by omega⟩ 0 [1, 1, 2, 2, 3, 4] (by simp)
  obtain ⟨z, a3, s3, e3, hz, b3⟩ := among_ev hc hl (m := 998) b2 s2 [3, 6, 12] (by simp)
  simp only [List.mem_cons, List.not_mem_nil, or_false] at hz
  obtain ⟨i, s, o, a4, s4, e4, ls, lo, b4⟩ := drawAny hc hl a3 s3 y z (by omega) 1 (b3.le (by omega))
  have e2' : spec_l1Cur_inputs.f c 0 0 = some (y, a2, s2) := by
    unfold spec_l1Cur_inputs.f
    rw [e2]
    rfl
  refine ⟨i, s, o, ?_⟩
  unfold spec_DrawAllocatePlan.f spec_DrawPressureOf.f
  exact bind (bind0 e2' (bind0 e3 (bind e4 (ret _)))) (ret _)
set_option maxHeartbeats 4000000 in
theorem FnAllocatedCode : laws_FnAllocatedCode.Pure := by
  intro c1 c2 h1 w1 h2 w2
  refine some_of ?_
  unfold laws_FnAllocatedCode.f
  obtain ⟨b, e0, hb⟩ := big_eq c1 c2 h1 h2
  refine bind0 e0 ?_
  cases b with
  | true => exact pos rfl (ret _)
  | false =>
    refine neg (by simp) ?_
    obtain ⟨k1, k2⟩ := hb rfl
    obtain ⟨i, s, o, d1⟩ := drawAlloc (byte_in w1) k1
    obtain ⟨n, r1, r2, r3, b, f1, f2, _, _, _⟩ := alloc_both i s o
    obtain ⟨pn, p1, p2, p3⟩ := pressureOf_both i s o
    have hbb : ∀ b : Bool, (b != b) = false := fun b => by cases b <;> rfl
    have hbg : b = good i s o := by
      cases hg : good i s o with
      | false =>
        have : Ev (fun k => impl_AllocatePlan.f k i s o) (0, [], [], [], false) := by
          have e := isPlan_ev i s o
          rw [hg] at e
          unfold impl_AllocatePlan.f
          exact bind e (neg (by simp) (ret _))
        exact congrArg (fun z => z.2.2.2.2) (uniq f2 this)
      | true =>
        obtain ⟨I, rfl, hf⟩ := good_form hg
        obtain ⟨C, O, e, _⟩ := alloc_code hg hf
        exact congrArg (fun z => z.2.2.2.2) (uniq f2 e)
    subst hbg
    refine bind d1 (bind f2 (bind f1 ?_))
    simp only [hbb]
    refine neg (by simp) (bind0 (rSameCode_refl n r1 r2 r3) (pos rfl (bind p2 (bind p1 ?_))))
    simp only [hbb]
    refine neg (by simp) (neg (by simp) (neg (by simp) ?_))
    cases hg : good i s o with
    | false => exact neg (by simp) (ret _)
    | true =>
      obtain ⟨I, rfl, hf⟩ := good_form hg
      obtain ⟨C, O, e, hc⟩ := alloc_code hg hf
      have hu := uniq f2 e
      simp only [Prod.mk.injEq] at hu
      obtain ⟨rfl, rfl, rfl, rfl, _⟩ := hu
      have hin := hf.inp
      have hil : (iota I).length = I := by simp [iota]
      have u1 := rcp_impl (prs I s o) (iota I) r2 r3
      have hrcp : rcp (prs I s o) (iota I) r2 r3 = ((I : Int), s, o, true) := by
        unfold rcp
        rw [hc]
        simp only [hil]
      rw [hrcp] at u1
      have g1 := check_impl hc (by rw [hil]; exact hf) hf hg
      have hsame : sameB (iota I).length s o I s o = true := by
        rw [hil]
        unfold sameB
        simp
      rw [hsame] at g1
      have hpn := p3 hg
      rw [Int.toNat_natCast] at hpn
      have e5 := isRegCode_ev (prs I s o) (iota I) r2 r3
      rw [hc] at e5
      obtain ⟨kn, n1, n2, n3⟩ := numberOf_eq c2 (byte_in w2)
      obtain ⟨w, i1, i2, i3⟩ := inputs_ev I hin.2 kn ⟨n2, n3⟩
      obtain ⟨r, hr⟩ := runRes_ok hg hf 97 (by omega) w i2 i3
      have hrun : Ev (fun k => impl_RunRegCode.f k (prs I s o) (iota I) r2 r3 97 w) (r, true) := by
        have hp := plan_ev (prs I s o) (iota I) r2 r3
        rw [hc] at hp
        simp only [hil] at hp
        unfold impl_RunRegCode.f
        exact bind hp (pos rfl (bind hr (ret _)))
      refine pos rfl (bind u1 (bind g1 (pos rfl (bind0 (rSamePlan_refl (I : Int) s o) (pos rfl (pos rfl (pos rfl (neg (by rw [hpn]; simp) (bind e5 (pos rfl (bind0 n1 (bind i1 (bind hrun (bind hr (pos rfl (pos rfl (bind0 (rSame_refl r) (ret _))))))))))))))))))
end Go.Proofs.Ytdicngjloiphkaa.Pure
