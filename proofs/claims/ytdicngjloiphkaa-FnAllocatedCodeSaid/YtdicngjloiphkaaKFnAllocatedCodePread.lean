/- Pure: the code of a plan has the plan as its own. -/
import Derived.Test.YtdicngjloiphkaaKFnAllocatedCodePalloc
import Derived.Test.YtdicngjloiphkaaKFnAllocatedCodePcf
set_option linter.unusedVariables false
set_option linter.unusedSimpArgs false
namespace Go.Proofs.Ytdicngjloiphkaa.Pure
open Go.RowKit Go.Proofs.Ytdicngjloiphkaa.E Go.Proofs.Ytdicngjloiphkaa.L7 Go.Proofs.Ytdicngjloiphkaa.Frame Go.Proofs.YtdicngjloiphkaaW.PrintLast Go.Proofs.YtdicngjloiphkaaW.PrintMore
open Go.Proofs.YtdicngjloiphkaaW.PrintWords hiding mn mx
open Go.Proofs.Ytdicngjloiphkaa.Hand
/-- What the registers hold when the code is read. -/
structure Rd (R l : List Int) : Prop where
  len : l.length = R.length
  at_ : ∀ (p : Nat) (v : Int), R[p]? = some v → v ≠ -1 → l[p]? = some v
theorem rg_of {l : List Int} {p : Nat} {v : Int} (h : l[p]? = some v) : rg l (p : Int) = v := by
  unfold rg
  rw [Int.toNat_natCast, List.getD_eq_getElem?_getD, h]
  rfl
theorem mnmx {a b : Int} (h : a ≤ b) : mn a b = a ∧ mx a b = b := by
  unfold mn mx
  constructor
  · rw [if_neg (by omega)]
  · split <;> omega
theorem alloc_read {I : Nat} {s : List SStep} {o : List Int} (hf : Form I s o) (R0 : List Int) (ys : List SStep) (j : Nat) (hs_ : s.drop j = ys) (hj : j ≤ s.length) (R A : List Int) (C : List SRegOp) (hR0 : R0.length = R.length) (h : AInv I s o j R A) (l : List Int) (hl : Rd R l) (hC : C.length = j) : ∃ R' A' T l', impl_AllocatePlan.l1 (I : Int) s o R0 ys R A C (j : Int) = some (R', A', C ++ T) ∧ AInv I s o s.length R' A' ∧ T.length = ys.length ∧ opsGo R.length (I : Int) T l (s.take j) = some (l', s) ∧ Rd R' l' ∧ R'.length = R.length := by
  have hin := hf.inp
  have hst := hf.stp
  induction ys generalizing j R A C l with
  | nil =>
    have : j = s.length := by
      have := congrArg List.length hs_
      simp at this
      omega
    subst this
    refine ⟨R, A, [], l, by simp [impl_AllocatePlan.l1], h, rfl, ?_, hl, rfl⟩
    rw [List.take_of_length_le (Nat.le_refl _)]
    rfl
  | cons y ys ih =>
    have hy : s[j]? = some y := by
      have : (s.drop j)[0]? = some y := by rw [hs_]; rfl
      rw [List.getElem?_drop] at this
      simpa using this
    have hjl := (List.getElem?_eq_some_iff.1 hy).1
    have hd : s.drop (j + 1) = ys := by
      rw [← List.drop_drop, hs_]
      rfl
    have ec : (j : Int) + 1 = ((j + 1 : Nat) : Int) := by omega
    obtain ⟨r0, n0⟩ := nd_factor hf hy (.inl rfl)
    obtain ⟨r1, n1⟩ := nd_factor hf hy (.inr rfl)
    obtain ⟨p0, a0, g0⟩ := h.plc _ r0.1 r0.2 n0
    obtain ⟨p1, a1, g1⟩ := h.plc _ r1.1 r1.2 n1
    obtain ⟨t, ht, htl, hnext⟩ := h.step hf hjl
    have halen := h.alen
    have hlen := h.len
    have hprs := prs_in hf
    have hyy := hf.step hy
    have hcl : (clean (nd (I : Int) s o (iota (j + 1))) R).length = R.length := by simp [clean]
    have hrng : ∀ v ∈ R, v = -1 ∨ (0 ≤ v ∧ v < ((I + s.length : Nat) : Int)) := fun v hv => by
      have := h.rng v hv
      omega
    have ic := impl_clean (I + s.length) (nd (I : Int) s o (iota (j + 1))) R hrng R.length 0 (by omega)
    rw [List.take_zero, List.drop_zero, List.nil_append, show ((0 : Nat) : Int) = 0 from rfl] at ic
    have b0 := (List.getElem?_eq_some_iff.1 g0).1
    have b1 := (List.getElem?_eq_some_iff.1 g1).1
    have m0 := hl.at_ p0 y.f0 g0 (by omega)
    have m1 := hl.at_ p1 y.f1 g1 (by omega)
    have hll := hl.len
    have hrd : Rd ((clean (nd (I : Int) s o (iota (j + 1))) R).set t ((I : Int) + (j : Int))) (l.set t ((I : Int) + (j : Int))) := by
      refine ⟨by rw [List.length_set, List.length_set, hcl, hll], fun p v hp hv => ?_⟩
      rw [List.getElem?_set] at hp ⊢
      by_cases c : t = p
      · rw [if_pos c, if_pos (by omega)] at hp
        rw [if_pos c, if_pos (by omega)]
        exact hp
      · rw [if_neg c] at hp
        rw [if_neg c]
        unfold clean at hp
        rw [List.getElem?_map] at hp
        obtain ⟨w, hw, e⟩ := Option.map_eq_some_iff.1 hp
        unfold kp at e
        split at e
        · subst e
          exact hl.at_ p _ hw hv
        · exact absurd e.symm hv
    obtain ⟨R', A', T, l', e1, e2, e3, e4, e5, e6⟩ := ih (j + 1) hd (by omega) _ _ (C ++ [⟨(t : Int), at' A y.f0, at' A y.f1⟩]) (by rw [List.length_set, hcl]; exact hR0) hnext _ hrd (by rw [List.length_append, List.length_singleton]; omega)
    rw [List.length_set, hcl] at e4 e6
    refine ⟨R', A', ⟨(t : Int), at' A y.f0, at' A y.f1⟩ :: T, l', ?_, e2, by rw [List.length_cons, List.length_cons, e3], ?_, e5, e6⟩
    · simp only [impl_AllocatePlan.l1]
      rw [ec, doneFirst_eq (I : Int) s o (j + 1) (by omega) (by omega), Option.bind_some, needed_eq hf (iota (j + 1)), Option.bind_some, hR0, Int.toNat_natCast, ic, Option.bind_some, indexI_eq, ht, Option.bind_some, at_gt (l := A) r0.1 (by omega), at_gt (l := A) r1.1 (by omega)]
      simp only [Option.bind_some]
      rw [ap_ok (by simp; omega)]
      simp only [Option.bind_some]
      rw [zb7 (by omega), at_gt (l := clean (nd (I : Int) s o (iota (j + 1))) R) (by omega) (by omega), at_st (l := clean (nd (I : Int) s o (iota (j + 1))) R) (by omega) (by omega), at_gt (l := A) (r := (I : Int) + (j : Int)) (by omega) (by omega), at_st (l := A) (r := (I : Int) + (j : Int)) (by omega) (by omega)]
      simp only [Option.bind_some, Int.toNat_natCast]
      rw [show ((I : Int) + (j : Int)).toNat = I + j by omega, e1, List.append_assoc]
      rfl
    · simp only [opsGo]
      have h0 : hs R.length (at' A y.f0) = true := hs_iff.2 (by rw [a0]; omega)
      have h1 : hs R.length (at' A y.f1) = true := hs_iff.2 (by rw [a1]; omega)
      have h2 : hs R.length (t : Int) = true := hs_iff.2 (by omega)
      have v0 : rg l (at' A y.f0) = y.f0 := by rw [a0]; exact rg_of m0
      have v1 : rg l (at' A y.f1) = y.f1 := by rw [a1]; exact rg_of m1
      rw [if_pos ⟨⟨h2, h0, h1⟩, by rw [v0]; omega, by rw [v1]; omega⟩, v0, v1, (mnmx hyy.2.1).1, (mnmx hyy.2.1).2, Int.toNat_natCast, List.length_take, Nat.min_eq_left (by omega)]
      have : s.take j ++ [(⟨y.f0, y.f1⟩ : SStep)] = s.take (j + 1) := by
        rw [List.take_add_one, hy]
        rfl
      rw [this]
      exact e4
theorem ins_ini (P I : Nat) (hP : I ≤ P) : ∀ (d j : Nat), j + d = I → insGo P ((iota I).drop j) (ini P j) (j : Int) = some (ini P I) := by
  intro d
  induction d with
  | zero =>
    intro j hj
    obtain rfl : j = I := by omega
    rw [List.drop_eq_nil_of_le (by simp [iota])]
    rfl
  | succ d ih =>
    intro j hj
    have hl : j < (iota I).length := by simp [iota]; omega
    have hg : (iota I)[j] = (j : Int) := by simp [iota]
    rw [List.drop_eq_getElem_cons hl, hg]
    simp only [insGo]
    have h1 : hs P (j : Int) = true := hs_iff.2 (by omega)
    have h2 : rg (ini P j) (j : Int) = -1 := rg_of (by
      rw [List.getElem?_eq_getElem (by simp [ini]; omega)]
      simp [ini])
    rw [if_pos ⟨h1, h2⟩, Int.toNat_natCast, set_ini (by omega), show (j : Int) + 1 = ((j + 1 : Nat) : Int) by omega]
    exact ih (j + 1) (by omega)
theorem outs_read (P : Nat) (l A o a : List Int) (h : ∀ v ∈ o, ∃ p : Nat, at' A v = (p : Int) ∧ p < P ∧ l[p]? = some v ∧ v ≠ -1) : outsGo P l (o.map (at' A)) a = some (a ++ o) := by
  induction o generalizing a with
  | nil => simp [outsGo]
  | cons v o ih =>
    obtain ⟨p, e, hp, hg, hv⟩ := h v List.mem_cons_self
    rw [List.map_cons]
    simp only [outsGo]
    have h1 : hs P (at' A v) = true := hs_iff.2 (by rw [e]; omega)
    have h2 : rg l (at' A v) = v := by rw [e]; exact rg_of hg
    rw [if_pos ⟨h1, by rw [h2]; exact hv⟩, h2, ih _ (fun z hz => h z (List.mem_cons_of_mem _ hz))]
    simp
theorem hC_le {I : Nat} {s : List SStep} {o : List Int} (ds : List Int) (y : Int) (hy : 0 ≤ y ∧ y < (s.length : Int)) : hC I s o ds y ≤ (I : Int) + (s.length : Int) := by
  unfold hC
  rw [put_len _ _ (vals_sorted _ _)]
  have hv := vals_len (I + s.length) (nd (I : Int) s o ds)
  by_cases c : (I : Int) + y ∈ vals (I + s.length) (nd (I : Int) s o ds)
  · rw [if_pos c]
    omega
  · rw [if_neg c]
    have hn : (vals (I + s.length) (nd (I : Int) s o ds) ++ [(I : Int) + y]).Nodup := by
      rw [List.nodup_append]
      exact ⟨(vals_sorted _ _).imp (fun h => by omega), by simp, fun a ha b hb e => c (by rw [← List.mem_singleton.1 hb, ← e]; exact ha)⟩
    have := nodup_le _ (iota (I + s.length)) hn (fun x hx => by
      rcases List.mem_append.1 hx with hx | hx
      · exact iota_mem.2 (by have := (vals_mem.1 hx).1; omega)
      · rw [List.mem_singleton.1 hx]
        exact iota_mem.2 (by omega))
    rw [List.length_append, List.length_singleton] at this
    simp only [iota, List.length_map, List.length_range] at this
    omega
theorem prs_46 {I : Nat} {s : List SStep} {o : List Int} (h : Form I s o) : prs I s o ≤ 46 := by
  have h1 := h.inp
  have h2 := h.stp
  have key : ∀ (ys p : List Int) (m : Int), m ≤ 46 → (∀ y ∈ ys, 0 ≤ y ∧ y < (s.length : Int)) → prGo I s o p ys m ≤ 46 := by
    intro ys
    induction ys with
    | nil => exact fun p m h _ => h
    | cons y ys ih =>
      intro p m hm hy
      simp only [prGo]
      refine ih _ _ ?_ (fun z hz => hy z (List.mem_cons_of_mem _ hz))
      have := hC_le (I := I) (s := s) (o := o) (p ++ [y]) y (hy y List.mem_cons_self)
      unfold mx
      split <;> omega
  exact key _ _ _ (by omega) (fun y hy => iota_mem.1 hy)
/-- The code of a good plan: its registers are the pressure, its plan is the plan. -/
theorem alloc_code {I : Nat} {s : List SStep} {o : List Int} (hg : good (I : Int) s o = true) (hf : Form I s o) : ∃ C O, Ev (fun k => impl_AllocatePlan.f k (I : Int) s o) (prs I s o, iota I, C, O, true) ∧ codeP (prs I s o) (iota I) C O = some (s, o) := by
  have e2 := isPlan_ev (I : Int) s o
  rw [hg] at e2
  have hin := hf.inp
  have hst := hf.stp
  have hou := hf.out
  have hp := prs_in hf
  have hp46 := prs_46 hf
  obtain ⟨P, hP⟩ := Int.eq_ofNat_of_zero_le (show 0 ≤ prs I s o by omega)
  have pi := pressure_eq hf (iota s.length) (fun y hy => iota_mem.1 hy)
  have hpe : press I s o (iota s.length) = (P : Int) := hP
  rw [hpe] at pi
  have hinv := inv_ini hf P hP.symm
  obtain ⟨R', A', T, l', a1, a3, a4, a5, a6, a7⟩ := alloc_read hf (List.replicate P (-1)) s 0 rfl (Nat.zero_le _) (ini P I) (zer (I + s.length) I) [] (by simp [ini]) hinv (ini P I) ⟨rfl, fun p v h _ => h⟩ rfl
  have hiniL : (ini P I).length = P := by simp [ini]
  rw [hiniL] at a5 a7
  rw [show ((0 : Nat) : Int) = 0 from rfl, List.nil_append] at a1
  have hal := a3.alen
  have o2 : impl_renamed.f o A' = some (o.map (at' A')) := by
    unfold impl_renamed.f
    rw [renamedA_l0 A' o [] 0 (fun y hy => by have := hf.os y hy; omega) (by simp; omega)]
    simp
  have q1 : slices_Repeat_int_int.f ([(-1)] : List Int) (P : Int) = some (List.replicate P (-1)) := by
    unfold slices_Repeat_int_int.f
    rw [if_pos ⟨rfl, by omega, by omega⟩]
    rfl
  have q2 : mk0 (w64 ((I : Int) + (s.length : Int))) (0 : Int) = some (zer (I + s.length) 0) := by
    rw [zb7 (by omega)]
    unfold mk0
    rw [if_pos (by omega), show ((I : Int) + (s.length : Int)).toNat = I + s.length by omega]
    congr 1
    apply List.ext_getElem
    · simp [zer]
    · intro n h1 h2
      simp [zer]
  have q3 : bd (I : Int) = some () := by
    unfold bd
    rw [if_pos (by omega)]
  have q4 := impl_ini P (I + s.length) I (by omega) (by omega) I 0 (by omega)
  have q5 : ini P 0 = List.replicate P (-1) := by
    apply List.ext_getElem
    · simp [ini]
    · intro n h1 h2
      simp [ini]
  have q6 : no P = ini P 0 := q5.symm
  rw [q5, show ((0 : Nat) : Int) = 0 from rfl] at q4
  have f1 := firsts_eq s.length (by omega)
  have f2 := firsts_eq I (by omega)
  rw [hP]
  refine ⟨T, o.map (at' A'), ?_, ?_⟩
  · unfold impl_AllocatePlan.f
    refine bind e2 (pos rfl (bind0 (a := ((P : Int), iota I)) ?_ (bind0 q1 (bind0 rfl (bind0 q2 (bind0 q3 (bind0 (a := (ini P I, zer (I + s.length) I)) ?_ (bind0 a1 (bind0 o2 (ret _))))))))))
    · rw [f1, Option.bind_some, pi, Option.bind_some, f2]
      rfl
    · rw [Int.toNat_natCast]
      exact q4
  · have hrg : regs (P : Int) = P := by have := regs_in (a := (P : Int)) (by omega); omega
    have hins := ins_ini P I (by omega) I 0 (by omega)
    rw [List.drop_zero, show ((0 : Nat) : Int) = 0 from rfl, ← q6] at hins
    have hil : (iota I).length = I := by simp [iota]
    have hout := outs_read P l' A' o [] (fun v hv => by
      have hr := hf.os v hv
      obtain ⟨p, e, hgp⟩ := a3.plc v hr.1 (by omega) (by
        unfold nd
        rw [decide_eq_true hv, Bool.true_or, Bool.and_true]
        by_cases c : v < (I : Int)
        · rw [decide_eq_true c, Bool.true_or]
        · rw [decide_eq_true (show v - (I : Int) ∈ iota s.length from iota_mem.2 (by omega)), Bool.or_true])
      have := (List.getElem?_eq_some_iff.1 hgp).1
      exact ⟨p, e, by omega, a6.at_ p v hgp (by omega), by omega⟩)
    rw [List.nil_append] at hout
    rw [List.take_zero] at a5
    unfold codeP rdGo
    rw [hrg, hil, hins, if_pos ⟨⟨by omega, by omega, by simp; omega⟩, by omega⟩]
    simp only [a5, hout, hg, if_true]
end Go.Proofs.Ytdicngjloiphkaa.Pure
