/- Pure: code run on residues, and its plan. -/
import Derived.Test.YtdicngjloiphkaaKFnCodesRunPreg2
import Derived.Test.YtdicngjloiphkaaKFnCodesRunPcode
set_option linter.unusedVariables false
set_option linter.unusedSimpArgs false
namespace Go.Proofs.Ytdicngjloiphkaa.Pure
open Go.RowKit Go.Proofs.Ytdicngjloiphkaa.E Go.Proofs.Ytdicngjloiphkaa.L6 Go.Proofs.Ytdicngjloiphkaa.Frame Go.Proofs.YtdicngjloiphkaaW.PrintLast Go.Proofs.YtdicngjloiphkaaW.PrintMore
open Go.Proofs.YtdicngjloiphkaaW.PrintWords hiding mn mx
def mulM (m x y : Int) : Int := (w64 (x * y)).tmod m
def runP (m : Int) : List SStep → List Int → List Int
 | [], v => v
 | y :: ys, v => runP m ys (v ++ [mulM m (rg v y.f0) (rg v y.f1)])
def runR (m : Int) : List SRegOp → List Int → List Int
 | [], v => v
 | y :: ys, v => runR m ys (v.set y.f0.toNat (mulM m (rg v y.f1) (rg v y.f2)))
theorem rg_append {v w : List Int} {r : Int} (h0 : 0 ≤ r) (h1 : r < (v.length : Int)) : rg (v ++ w) r = rg v r := by
 unfold rg
 rw [List.getD_eq_getElem?_getD, List.getD_eq_getElem?_getD, List.getElem?_append_left (by omega)]
theorem rg_last {v : List Int} {x : Int} : rg (v ++ [x]) (v.length : Int) = x := by
 unfold rg
 rw [List.getD_eq_getElem?_getD, Int.toNat_natCast, List.getElem?_append_right (Nat.le_refl _), Nat.sub_self]
 rfl
/-- Registers hold the values that the code tells. -/
structure Rel (n : Nat) (l reg v : List Int) : Prop where
 len : l.length = n
 len2 : reg.length = n
 at_ : ∀ r, hs n r = true → rg l r ≠ -1 → (0 ≤ rg l r ∧ rg l r < (v.length : Int)) ∧ rg reg r = rg v (rg l r)
theorem mulM_mn (m : Int) (v : List Int) (a b : Int) : mulM m (rg v (mn a b)) (rg v (mx a b)) = mulM m (rg v a) (rg v b) := by
 unfold mn mx
 by_cases h : b < a
 ·rw [if_pos h, if_neg (by omega)]
  unfold mulM
  rw [Int.mul_comm]
 ·rw [if_neg h]
  by_cases h2 : a < b
  ·rw [if_pos h2]
  ·rw [if_neg h2]
   obtain rfl : a = b := by omega
   rfl
theorem rel_ops (n : Nat) (m k : Int) (ys : List SRegOp) (l reg v : List Int) (s : List SStep) (hr : Rel n l reg v) (hv : (v.length : Int) = k + (s.length : Int)) (a : List Int × List SStep) (h : opsGo n k ys l s = some a) : ∃ t, a.2 = s ++ t ∧ Rel n a.1 (runR m ys reg) (runP m t v) := by
 induction ys generalizing l reg v s with
 | nil =>
  simp only [opsGo, Option.some.injEq] at h
  subst h
  exact ⟨[], by simp, hr⟩
 | cons y ys ih =>
  simp only [opsGo] at h
  split at h
  ·rename_i c
   have q0 := hs_iff.1 c.1.1
   have q1 := hs_iff.1 c.1.2.1
   have q2 := hs_iff.1 c.1.2.2
   obtain ⟨x1, x1e⟩ := hr.at_ _ c.1.2.1 c.2.1
   obtain ⟨x2, x2e⟩ := hr.at_ _ c.1.2.2 c.2.2
   have hl := hr.len
   have hl2 := hr.len2
   have hrel : Rel n (l.set y.f0.toNat (k + (s.length : Int))) (reg.set y.f0.toNat (mulM m (rg reg y.f1) (rg reg y.f2))) (v ++ [mulM m (rg v (rg l y.f1)) (rg v (rg l y.f2))]) := by
    refine ⟨by simpa using hl, by simpa using hl2, fun r hr1 hne => ?_⟩
    have qr := hs_iff.1 hr1
    rw [rg_set qr.1 (by omega) q0.1] at hne ⊢
    rw [rg_set qr.1 (by omega) q0.1, List.length_append, List.length_singleton]
    by_cases e : y.f0 = r
    ·rw [if_pos e, if_pos e, ← hv, rg_last, x1e, x2e]
     exact ⟨by omega, rfl⟩
    ·rw [if_neg e] at hne
     rw [if_neg e, if_neg e]
     obtain ⟨z1, z2⟩ := hr.at_ r hr1 hne
     rw [rg_append z1.1 z1.2]
     exact ⟨by omega, z2⟩
   obtain ⟨t, ht, hR⟩ := ih _ _ _ _ hrel (by simp only [List.length_append, List.length_singleton]; omega) h
   refine ⟨⟨mn (rg l y.f1) (rg l y.f2), mx (rg l y.f1) (rg l y.f2)⟩ :: t, by rw [ht]; simp, ?_⟩
   rw [runR, runP, mulM_mn]
   exact hR
  ·cases h
def insR : List Int → List Int → List Int → List Int
 | [], _, reg => reg
 | y :: ys, v, reg => insR ys (v.drop 1) (reg.set y.toNat (v.getD 0 0))
theorem rel_ins (n : Nat) (v ys l reg : List Int) (i : Nat) (hi : i + ys.length = v.length) (hr : Rel n l reg v) (h : ys.all (hs n) = true) : Rel n (insS ys l (i : Int)) (insR ys (v.drop i) reg) v := by
 induction ys generalizing l reg i with
 | nil => exact hr
 | cons y ys ih =>
  simp only [List.all_cons, Bool.and_eq_true] at h
  simp only [List.length_cons] at hi
  have q := hs_iff.1 h.1
  have hl := hr.len
  have hl2 := hr.len2
  rw [insS, insR, List.drop_drop]
  have e : (i : Int) + 1 = ((i + 1 : Nat) : Int) := by omega
  rw [e]
  refine ih _ _ (i + 1) (by omega) ⟨by simpa using hl, by simpa using hl2, fun r hr1 hne => ?_⟩ h.2
  have qr := hs_iff.1 hr1
  rw [rg_set qr.1 (by omega) q.1] at hne ⊢
  rw [rg_set qr.1 (by omega) q.1]
  by_cases e : y = r
  ·rw [if_pos e, if_pos e]
   refine ⟨by omega, ?_⟩
   unfold rg
   rw [Int.toNat_natCast, List.getD_eq_getElem?_getD, List.getD_eq_getElem?_getD, List.getElem?_drop, Nat.add_zero]
  ·rw [if_neg e] at hne
   rw [if_neg e, if_neg e]
   exact hr.at_ r hr1 hne
theorem rel_outs (n : Nat) (l reg v ys o a : List Int) (hr : Rel n l reg v) (h : outsGo n l ys o = some a) : ∃ t, a = o ++ t ∧ (∀ y ∈ t, 0 ≤ y ∧ y < (v.length : Int)) ∧ t.map (rg v) = ys.map (rg reg) := by
 induction ys generalizing o with
 | nil =>
  simp only [outsGo, Option.some.injEq] at h
  subst h
  exact ⟨[], by simp, fun y hy => (nomatch hy), rfl⟩
 | cons y ys ih =>
  simp only [outsGo] at h
  split at h
  ·rename_i c
   obtain ⟨t, h1, h2, h3⟩ := ih _ h
   obtain ⟨z1, z2⟩ := hr.at_ _ c.1 c.2
   refine ⟨rg l y :: t, by rw [h1]; simp, fun x hx => ?_, by rw [List.map_cons, List.map_cons, h3, z2]⟩
   rcases List.mem_cons.1 hx with e | e
   ·rw [e]
    exact z1
   ·exact h2 x e
  ·cases h
/-! the programs run -/
theorem impl_runP (m : Int) (hm : m ≠ 0) (ys : List SStep) (v : List Int) (i : Int) (I : Nat) (s : List SStep) (o : List Int) (hf : Form I s o) (j : Nat) (hs : s.drop j = ys) (hv : v.length = I + j) : impl_run_int.l0 m ys v i = some (runP m ys v) := by
 have hi := hf.inp
 have hn := hf.stp
 induction ys generalizing v i j with
 | nil => rfl
 | cons y ys ih =>
  have hy : s[j]? = some y := by
   have : (s.drop j)[0]? = some y := by rw [hs]; rfl
   rw [List.getElem?_drop] at this
   simpa using this
  have hj := (List.getElem?_eq_some_iff.1 hy).1
  have hst := hf.step hy
  have hd : s.drop (j + 1) = ys := by
   rw [← List.drop_drop, hs]
   rfl
  simp only [impl_run_int.l0, impl_RunResidues_1.f, runP]
  have hnz : nz m = some () := by
   unfold nz
   rw [if_neg hm]
  rw [rg_gt (by omega) (by omega), rg_gt (by omega) (by omega), hnz]
  simp only [Option.bind_some]
  rw [ap_ok (by simp; omega), Option.bind_some]
  exact ih _ _ (j + 1) hd (by rw [List.length_append, List.length_singleton]; omega)
theorem spec_runR (m : Int) (hm : m ≠ 0) (n : Nat) (ys : List SRegOp) (v : List Int) (i : Int) (hv : v.length = n) (h : ys.all (opIn n) = true) : spec_RunRegCode.l1 m ys v i = some (runR m ys v) := by
 induction ys generalizing v i with
 | nil => rfl
 | cons y ys ih =>
  simp only [List.all_cons, Bool.and_eq_true] at h
  have h0 := h.1
  simp only [opIn, Bool.and_eq_true] at h0
  have q0 := hs_iff.1 h0.1
  have q1 := hs_iff.1 h0.2.1
  have q2 := hs_iff.1 h0.2.2
  have hnz : nz m = some () := by
   unfold nz
   rw [if_neg hm]
  simp only [spec_RunRegCode.l1, runR]
  rw [rg_gt (l := v) q1.1 (by omega), rg_gt (l := v) q2.1 (by omega), rg_gt (l := v) q0.1 (by omega), hnz]
  simp only [Option.bind_some]
  rw [rg_st q0.1 (by omega), Option.bind_some]
  exact ih _ _ (by simpa using hv) h.2
theorem spec_insR (n : Nat) (w ys v : List Int) (j : Nat) (hj : j + ys.length = w.length) (hv : v.length = n) (h : ys.all (hs n) = true) : spec_RunRegCode.l0 w ys v (j : Int) = some (insR ys (w.drop j) v) := by
 induction ys generalizing v j with
 | nil => rfl
 | cons y ys ih =>
  simp only [List.all_cons, Bool.and_eq_true] at h
  simp only [List.length_cons] at hj
  have q := hs_iff.1 h.1
  simp only [spec_RunRegCode.l0, insR]
  rw [gt_nat (show j < w.length by omega), rg_gt q.1 (by omega)]
  simp only [Option.bind_some]
  rw [rg_st q.1 (by omega), Option.bind_some, show (j : Int) + 1 = ((j + 1 : Nat) : Int) by omega, ih _ (j + 1) (by omega) (by simpa using hv) h.2, List.drop_drop]
  congr 3
  rw [List.getD_eq_getElem?_getD, List.getElem?_drop, Nat.add_zero, List.getElem?_eq_getElem (by omega)]
  rfl
theorem pick_l0 (v ys o : List Int) (j : Int) (h : ∀ y ∈ ys, 0 ≤ y ∧ y < (v.length : Int)) (hb : o.length + ys.length ≤ 1000) : spec_moPick.l0 v ys o j = some (o ++ ys.map (rg v)) := by
 induction ys generalizing o j with
 | nil => simp [spec_moPick.l0]
 | cons y ys ih =>
  simp only [List.length_cons] at hb
  have q := h y List.mem_cons_self
  simp only [spec_moPick.l0]
  rw [rg_gt q.1 q.2, Option.bind_some, ap_ok (by simp; omega), Option.bind_some, ih _ _ (fun z hz => h z (List.mem_cons_of_mem _ hz)) (by rw [List.length_append, List.length_singleton]; omega)]
  simp
theorem outputsOf_l0 (v ys o : List Int) (j : Int) (h : ∀ y ∈ ys, 0 ≤ y ∧ y < (v.length : Int)) (hb : o.length + ys.length ≤ 1000) : impl_outputsOf_int.l0 v ys o j = some (o ++ ys.map (rg v)) := by
 induction ys generalizing o j with
 | nil => simp [impl_outputsOf_int.l0]
 | cons y ys ih =>
  simp only [List.length_cons] at hb
  have q := h y List.mem_cons_self
  simp only [impl_outputsOf_int.l0]
  rw [rg_gt q.1 q.2, Option.bind_some, ap_ok (by simp; omega), Option.bind_some, ih _ _ (fun z hz => h z (List.mem_cons_of_mem _ hz)) (by rw [List.length_append, List.length_singleton]; omega)]
  simp
theorem res_l0 (m : Int) (l : List Int) (j : Int) (hj : 0 ≤ j) : ∃ r, slices_IndexFunc_int_int_3.l0 m l j = some r ∧ (aB 0 (w64 (m - 1)) l = true → r = .inr ()) ∧ (aB 0 (w64 (m - 1)) l = false → ∃ q, r = .inl q ∧ 0 ≤ q) := by
 induction l generalizing j with
 | nil => exact ⟨_, rfl, fun _ => rfl, fun h => by simp [aB] at h⟩
 | cons y ys ih =>
  simp only [slices_IndexFunc_int_int_3.l0, impl_residuesOk_1.f, in_eq, Option.bind_some]
  by_cases h : 0 ≤ y ∧ y ≤ w64 (m - 1)
  ·obtain ⟨r, h1, h2, h3⟩ := ih (j + 1) (by omega)
   refine ⟨r, by simpa [h] using h1, fun ha => h2 ?_, fun ha => h3 ?_⟩
   ·simpa [aB, h] using ha
   ·simpa [aB, h] using ha
  ·refine ⟨.inl j, by simp [decide_eq_false h], fun ha => ?_, fun _ => ⟨j, rfl, hj⟩⟩
   have : decide (0 ≤ y ∧ y ≤ w64 (m - 1)) = false := decide_eq_false h
   simp only [aB, List.all_cons, this, Bool.false_and] at ha
   cases ha
theorem residuesOk_eq (m : Int) (l : List Int) : impl_residuesOk.f l m = some (decide (2 ≤ m ∧ m ≤ 10000) && aB 0 (w64 (m - 1)) l) := by
 unfold impl_residuesOk.f impl_modulusOk.f slices_ContainsFunc_int_int_3.f slices_IndexFunc_int_int_3.f
 rw [in_eq]
 obtain ⟨r, h1, h2, h3⟩ := res_l0 m l 0 (by omega)
 rw [h1]
 by_cases c : 2 ≤ m ∧ m ≤ 10000
 ·rw [decide_eq_true c]
  cases hb : aB 0 (w64 (m - 1)) l with
  | true =>
   obtain rfl := h2 hb
   rfl
  | false =>
   obtain ⟨q, rfl, hq⟩ := h3 hb
   simp [hq]
 ·rw [decide_eq_false c]
  rfl
theorem runRegCode_both (a : Int) (l1 : List Int) (l2 : List SRegOp) (l3 : List Int) (m : Int) (w : List Int) (hw : w.length ≤ 1048576) : ∃ r b, Ev (fun k => spec_RunRegCode.f k a l1 l2 l3 m w) (r, b) ∧ Ev (fun k => impl_RunRegCode.f k a l1 l2 l3 m w) (r, b) ∧ r.length ≤ 1000 := by
 obtain ⟨r, hr, hc⟩ := rePlan_ev a l1 l2 l3
 have hp := plan_ev a l1 l2 l3
 have hcode : Ev (fun k => spec_reCode.f k a l1 l2 l3) r.2.2.2 := by
  unfold spec_reCode.f
  exact bind hr (ret _)
 unfold spec_RunRegCode.f impl_RunRegCode.f
 rcases hc with ⟨s, o, hc, rfl⟩ | ⟨hc, hf⟩
 ·rw [hc] at hp
  -- what the code bears
  have hcc := hc
  unfold codeP at hcc
  split at hcc
  ·rename_i hlen
   split at hcc
   ·cases hcc
   ·rename_i s' o' hrd
    split at hcc
    ·rename_i hg
     obtain ⟨rfl, rfl⟩ : s' = s ∧ o' = o := by
      simp only [Option.some.injEq, Prod.mk.injEq] at hcc
      exact hcc
     obtain ⟨n, rfl⟩ := Int.eq_ofNat_of_zero_le (show 0 ≤ a by omega)
     have hreg : regs (n : Int) = n := by have := regs_in hlen.2; omega
     unfold rdGo at hrd
     rw [hreg] at hrd
     split at hrd
     ·cases hrd
     ·rename_i la hi
      split at hrd
      ·cases hrd
      ·rename_i lb sb hop
       split at hrd
       ·cases hrd
       ·rename_i ob hu
        obtain ⟨rfl, rfl⟩ : sb = s' ∧ ob = o' := by
         simp only [Option.some.injEq, Prod.mk.injEq] at hrd
         exact hrd
        obtain ⟨i1, i2⟩ := insGo_in n l1 (no n) [] 0 (by omega) (by simp [no]) (fun r hm => by cases hm) la hi
        have i3 := opsGo_in n _ l2 la [] _ hop
        have i4 := outsGo_in n lb l3 [] ob hu
        have ei := insGo_of n l1 (no n) [] 0 (by simp [no]) i1 i2 (fun r h _ => no_rg h)
        obtain rfl : insS l1 (no n) 0 = la := by rw [ei] at hi; exact Option.some.inj hi
        obtain ⟨I, hI, hform⟩ := good_form hg
        have hIl : I = l1.length := by omega
        subst hIl
        have hmod := l1In_eq m 2 10000
        have hall := l1All_eq w 0 (w64 (m - 1))
        have hrok := residuesOk_eq m w
        -- run
        by_cases c1 : 2 ≤ m ∧ m ≤ 10000
        ·have hm0 : m ≠ 0 := by omega
         rw [decide_eq_true c1] at hmod hrok
         rw [Bool.true_and] at hrok
         have hmod2 : spec_moModulus.f m = some true := by
          unfold spec_moModulus.f
          rw [hmod]
          rfl
         by_cases c2 : w.length = l1.length
         ·cases c3 : aB 0 (w64 (m - 1)) w with
          | true =>
           rw [c3] at hall hrok
           have hrep : (List.replicate n (0 : Int)).length = n := by simp
           have rel0 : Rel n (no n) (List.replicate n 0) w := ⟨by simp [no], hrep, fun r hr hne => absurd (no_rg hr) hne⟩
           have rel1 := rel_ins n w l1 (no n) (List.replicate n 0) 0 (by omega) rel0 i1
           rw [List.drop_zero, show ((0 : Nat) : Int) = 0 from rfl] at rel1
           obtain ⟨t, ht, rel2⟩ := rel_ops n m (l1.length : Int) l2 _ _ w [] rel1 (by simp; omega) _ hop
           rw [List.nil_append] at ht
           simp only at ht rel2
           subst ht
           obtain ⟨t, ht, hto, hmap⟩ := rel_outs n lb _ _ l3 [] ob rel2 hu
           rw [List.nil_append] at ht
           subst ht
           have hlo : ob.length ≤ 6 := hform.out
           have e1 : mk0 ((n : Nat) : Int) (0 : Int) = some (List.replicate n 0) := by
            unfold mk0
            rw [if_pos (by omega), Int.toNat_natCast]
           have e2 := spec_insR n w l1 (List.replicate n 0) 0 (by omega) hrep i1
           rw [List.drop_zero, show ((0 : Nat) : Int) = 0 from rfl] at e2
           have e3 := spec_runR m hm0 n l2 (insR l1 w (List.replicate n 0)) 0 rel1.len2 i3
           have e4 := pick_l0 (runR m l2 (insR l1 w (List.replicate n 0))) l3 [] 0 (fun y hy => by
            have := hs_iff.1 (List.all_eq_true.1 i4.1 y hy)
            rw [rel2.len2]
            exact this) (by simp; omega)
           have e5 : spec_moPick.f (runR m l2 (insR l1 w (List.replicate n 0))) l3 = some (l3.map (rg (runR m l2 (insR l1 w (List.replicate n 0))))) := by
            unfold spec_moPick.f
            rw [e4]
            simp
           refine ⟨l3.map (rg (runR m l2 (insR l1 w (List.replicate n 0)))), true, bind hcode (pos rfl (bind0 hmod2 (pos rfl (neg (by omega) (bind0 hall (pos rfl (bind0 e1 (bind0 e2 (bind0 e3 (bind0 e5 (ret _))))))))))), bind hp (pos rfl (bind (a := (l3.map (rg (runR m l2 (insR l1 w (List.replicate n 0)))), true)) ?_ (ret _))), by simp; omega⟩
           unfold impl_RunResidues.f
           have hgood := isPlan_ev (l1.length : Int) sb ob
           rw [hg] at hgood
           have f1 := impl_runP m hm0 sb w 0 l1.length sb ob hform 0 rfl (by omega)
           have f2 : impl_run_int.f (l1.length : Int) sb ob w m = some (runP m sb w) := by
            unfold impl_run_int.f slices_Clone_int_int.f
            rw [ap_ok (by simp; omega)]
            simp only [Option.bind_some, List.nil_append]
            rw [f1]
            rfl
           have f3 := outputsOf_l0 (runP m sb w) ob [] 0 hto (by simp; omega)
           have f4 : impl_outputsOf_int.f (l1.length : Int) sb ob (runP m sb w) = some (l3.map (rg (runR m l2 (insR l1 w (List.replicate n 0))))) := by
            unfold impl_outputsOf_int.f
            rw [f3, ← hmap]
            simp
           exact bind hgood (pos rfl (neg (by omega) (bind0 hrok (pos rfl (bind0 f2 (bind0 f4 (ret _)))))))
          | false =>
           rw [c3] at hall hrok
           refine ⟨[], false, bind hcode (pos rfl (bind0 hmod2 (pos rfl (neg (by omega) (bind0 hall (neg (by simp) (ret _))))))), bind hp (pos rfl (bind (a := ([], false)) ?_ (ret _))), by simp⟩
           unfold impl_RunResidues.f
           have hgood := isPlan_ev (l1.length : Int) sb ob
           rw [hg] at hgood
           exact bind hgood (pos rfl (neg (by omega) (bind0 hrok (neg (by simp) (ret _)))))
         ·refine ⟨[], false, bind hcode (pos rfl (bind0 hmod2 (pos rfl (pos (by omega) (ret _))))), bind hp (pos rfl (bind (a := ([], false)) ?_ (ret _))), by simp⟩
          unfold impl_RunResidues.f
          have hgood := isPlan_ev (l1.length : Int) sb ob
          rw [hg] at hgood
          exact bind hgood (pos rfl (pos (by omega) (ret _)))
        ·rw [decide_eq_false c1] at hmod hrok
         rw [Bool.false_and] at hrok
         have hmod2 : spec_moModulus.f m = some false := by
          unfold spec_moModulus.f
          rw [hmod]
          rfl
         refine ⟨[], false, bind hcode (pos rfl (bind0 hmod2 (neg (by simp) (ret _)))), bind hp (pos rfl (bind (a := ([], false)) ?_ (ret _))), by simp⟩
         unfold impl_RunResidues.f
         have hgood := isPlan_ev (l1.length : Int) sb ob
         rw [hg] at hgood
         by_cases c2 : w.length = l1.length
         ·exact bind hgood (pos rfl (neg (by omega) (bind0 hrok (neg (by simp) (ret _)))))
         ·exact bind hgood (pos rfl (pos (by omega) (ret _)))
    ·cases hcc
  ·cases hcc
 ·rw [hc] at hp
  rw [hf] at hcode
  exact ⟨[], false, bind hcode (neg (by simp) (ret _)), bind hp (neg (by simp [nul]) (ret _)), by simp⟩
end Go.Proofs.Ytdicngjloiphkaa.Pure
