/- Codes: what is a code for the reference is one for the program, and its values have the same polynomials. -/
import Derived.Test.YtgglemlhombgkaaKFnExactThenCodeTPoly8
import Derived.Test.YtgglemlhombgkaaKFnExactThenCodeTSmall8
import Derived.Test.YtgglemlhombgkaaKFnExactThenCodeQ0
import Derived.Test.YtgglemlhombgkaaKFnExactThenCodeQ1
import Derived.Test.YtgglemlhombgkaaKFnExactThenCodeQ2
import Derived.Test.YtgglemlhombgkaaKFnExactThenCodeQ3
import Derived.Test.YtgglemlhombgkaaKFnExactThenCodeQ4
namespace Go.Proofs.Ytgglemlhombgkaa.Pure
open Go.RowKit Go.Proofs.Ytgglemlhombgkaa.T Go.Proofs.Ytgglemlhombgkaa.E Go.Proofs.YtgglemlhombgkaaW.PrintWords Go.Proofs.YtgglemlhombgkaaW.PrintLast Go.Proofs.YtgglemlhombgkaaW.PrintMore

/-- An op that may stand at place i. -/
def OpOk (i : Nat) (o : Op) : Prop :=
  (o.f0 = 0 ∧ (-1000000 ≤ o.f1 ∧ o.f1 ≤ 1000000) ∧ o.f2 = 0) ∨ ((o.f0 = 1 ∨ o.f0 = 3) ∧ (0 ≤ o.f1 ∧ o.f1 ≤ i) ∧ (0 ≤ o.f2 ∧ o.f2 ≤ i)) ∨ (o.f0 = 2 ∧ (0 ≤ o.f1 ∧ o.f1 ≤ i) ∧ (-1000000 ≤ o.f2 ∧ o.f2 ≤ 1000000))
instance (i : Nat) (o : Op) : Decidable (OpOk i o) := by unfold OpOk; infer_instance

theorem opOk_ev (o : Op) (i : Nat) : Ev (fun k => impl_Op_ok.f k o.f0 o.f1 o.f2 (i : Int)) (decide (OpOk i o)) := by
  unfold impl_Op_ok.f
  by_cases h0 : o.f0 = 0
  · refine pos h0 (bind0 (coefOk_eq _) ?_)
    by_cases h1 : -1000000 ≤ o.f1 ∧ o.f1 ≤ 1000000
    · refine pos (by simp [h1]) (now ?_)
      simp [OpOk, h0, h1]
      rfl
    · refine neg (by simpa using h1) (now ?_)
      simp [OpOk, h0, h1]
  · refine neg h0 ?_
    have go13 : ∀ b : Bool, (b = true ↔ (o.f0 = 1 ∨ o.f0 = 3)) → Ev (fun k => impl_Op_ok.j0 k (i : Int) o.f0 b o.f0 o.f1 o.f2) (decide (OpOk i o)) := by
      intro b hb
      refine shift ?_
      simp only [impl_Op_ok.j0]
      by_cases h13 : o.f0 = 1 ∨ o.f0 = 3
      · refine pos (hb.2 h13) (bind0 (in_eq _ _ _) ?_)
        have h2 : ¬ o.f0 = 2 := by omega
        by_cases ha : 0 ≤ o.f1 ∧ o.f1 ≤ (i : Int)
        · refine pos (by simpa using ha) (bind0 (in_eq _ _ _) (now ?_))
          simp [OpOk, h0, h2, h13, ha]
        · refine neg (by simpa using ha) (now ?_)
          simp [OpOk, h0, h2, h13, ha]
      · refine neg (by rw [hb]; exact h13) ?_
        by_cases h2 : o.f0 = 2
        · refine pos h2 (bind0 (in_eq _ _ _) ?_)
          by_cases ha : 0 ≤ o.f1 ∧ o.f1 ≤ (i : Int)
          · refine pos (by simpa using ha) (bind0 (coefOk_eq _) (now ?_))
            simp [OpOk, h2, ha]
          · refine neg (by simpa using ha) (now ?_)
            simp [OpOk, h2, ha]
        · refine neg h2 (now ?_)
          simp [OpOk, h0, h2, h13]
    by_cases h1 : o.f0 = 1
    · exact pos h1 (go13 _ (by simp [h1]))
    · exact neg h1 (go13 _ (by simp [h1]))

theorem rdL_mem (vs : List (List Int)) (i : Int) (h0 : 0 ≤ i) (h1 : i < vs.length) : rd_L2 vs i ∈ vs := by
  obtain ⟨j, rfl⟩ := Int.eq_ofNat_of_zero_le h0
  have hj : j < vs.length := by omega
  have : rd_L2 vs (j : Int) = vs[j] := by simp [rd_L2, List.getD_eq_getElem?_getD, hj]
  rw [this]
  exact List.getElem_mem hj

/-- What an op's polynomial is made of, as both make it: the reference's answer, and the program's, whatever follows. -/
theorem op_both (o : Op) (vs : List (List Int)) (i : Nat) (hv : vs.length = i + 1) (hi : i ≤ 1000000) (hs : ∀ p ∈ vs, p.length ≤ 17) :
    (OpOk i o ∧ ∃ r, r.length ≤ 40 ∧ Ev (fun k => spec_poOp.f k o.f0 o.f1 o.f2 vs) (r, true) ∧
      ((o.f0 = 0 ∧ Ev (fun k => impl_cut.f k [o.f1]) r) ∨ (o.f0 = 1 ∧ 0 ≤ o.f1 ∧ o.f1 < vs.length ∧ 0 ≤ o.f2 ∧ o.f2 < vs.length ∧ Ev (fun k => impl_sumOf.f k (rd_L2 vs o.f1) (rd_L2 vs o.f2)) r) ∨
       (o.f0 = 2 ∧ 0 ≤ o.f1 ∧ o.f1 < vs.length ∧ Ev (fun k => impl_productOf.f k (rd_L2 vs o.f1) [o.f2]) r) ∨
       (o.f0 = 3 ∧ 0 ≤ o.f1 ∧ o.f1 < vs.length ∧ 0 ≤ o.f2 ∧ o.f2 < vs.length ∧ Ev (fun k => impl_productOf.f k (rd_L2 vs o.f1) (rd_L2 vs o.f2)) r))) ∨
    (¬ OpOk i o ∧ ∃ r, r.length ≤ 40 ∧ Ev (fun k => spec_poOp.f k o.f0 o.f1 o.f2 vs) (r, false)) := by
  have hw : wrap64 ((vs.length : Int) - 1) = (i : Int) := by rw [hv]; exact wrap_pred (by omega)
  have trim1 : ∀ x : Int, Ev (fun k => spec_poTrim.f k [x]) (trimN [x] 1) := fun x => poTrim_ev [x] (by simp)
  have trim1l : ∀ x : Int, (trimN [x] 1).length ≤ 1 := fun x => trimN_length [x] 1
  have start : ∀ (r : List Int) (b : Bool), (∀ c d : Bool, c = decide (0 ≤ o.f1 ∧ o.f1 ≤ (i : Int)) → d = (c && decide (0 ≤ o.f2 ∧ o.f2 ≤ (i : Int))) → Ev (fun k => spec_poOp.j0 k vs c d o.f0 o.f1 o.f2) (r, b)) → Ev (fun k => spec_poOp.f k o.f0 o.f1 o.f2 vs) (r, b) := by
    intro r b H
    unfold spec_poOp.f
    rw [hw]
    refine bind0 (l1In_eq _ _ _) ?_
    by_cases ha : 0 ≤ o.f1 ∧ o.f1 ≤ (i : Int)
    · refine pos (by simpa using ha) (bind0 (l1In_eq _ _ _) ?_)
      exact H _ _ rfl (by simp [ha])
    · refine neg (by simpa using ha) ?_
      exact H _ _ rfl (by simp [ha])
  by_cases h0 : o.f0 = 0
  · -- a constant
    have hsp : ∀ b : Bool, b = (decide (-1000000 ≤ o.f1 ∧ o.f1 ≤ 1000000) && (o.f2 == 0)) → Ev (fun k => spec_poOp.f k o.f0 o.f1 o.f2 vs) (trimN [o.f1] 1, b) := by
      intro b hb
      refine start _ _ fun c d _ _ => shift ?_
      simp only [spec_poOp.j0]
      refine pos h0 (bind (trim1 o.f1) (bind0 (l1In_eq _ _ _) ?_))
      by_cases h1 : -1000000 ≤ o.f1 ∧ o.f1 ≤ 1000000
      · refine pos (by simpa using h1) (now ?_)
        simp [hb, h1]
      · refine neg (by simpa using h1) (now ?_)
        simp [hb, h1]
    by_cases hok : OpOk i o
    · refine .inl ⟨hok, trimN [o.f1] 1, by have := trim1l o.f1; omega, hsp true ?_, .inl ⟨h0, cut_ev [o.f1] (by simp)⟩⟩
      unfold OpOk at hok
      have h : (-1000000 ≤ o.f1 ∧ o.f1 ≤ 1000000) ∧ o.f2 = 0 := by omega
      simp [h]
    · refine .inr ⟨hok, trimN [o.f1] 1, by have := trim1l o.f1; omega, hsp false ?_⟩
      unfold OpOk at hok
      by_cases h1 : -1000000 ≤ o.f1 ∧ o.f1 ≤ 1000000
      · have h2 : ¬ o.f2 = 0 := by omega
        simp [h1, h2]
      · simp [h1]
  · by_cases h1 : o.f0 = 1
    · by_cases hok : OpOk i o
      · have hb : (0 ≤ o.f1 ∧ o.f1 ≤ (i : Int)) ∧ (0 ≤ o.f2 ∧ o.f2 ≤ (i : Int)) := by unfold OpOk at hok; omega
        obtain ⟨r, e1, e2, e3⟩ := sum_both (rd_L2 vs o.f1) (rd_L2 vs o.f2) (hs _ (rdL_mem vs _ (by omega) (by omega))) (hs _ (rdL_mem vs _ (by omega) (by omega)))
        refine .inl ⟨hok, r, by omega, start _ _ fun c d hc hd => shift ?_, .inr (.inl ⟨h1, by omega, by omega, by omega, by omega, e2⟩)⟩
        simp only [spec_poOp.j0]
        refine neg h0 (pos h1 (shift ?_))
        simp only [spec_poOp.j1]
        refine pos (by rw [hd, hc]; simp [hb]) (pos (by omega) (pos (by omega) (pos (by omega) (pos (by omega) (bind e1 (ret _))))))
      · have hb : ¬ ((0 ≤ o.f1 ∧ o.f1 ≤ (i : Int)) ∧ (0 ≤ o.f2 ∧ o.f2 ≤ (i : Int))) := by unfold OpOk at hok; omega
        refine .inr ⟨hok, [], by simp, start _ _ fun c d hc hd => shift ?_⟩
        have hd' : d = false := by
          rw [hd, hc]
          by_cases ha : 0 ≤ o.f1 ∧ o.f1 ≤ (i : Int)
          · have : ¬ (0 ≤ o.f2 ∧ o.f2 ≤ (i : Int)) := fun h => hb ⟨ha, h⟩
            simp [ha, this]
          · simp [ha]
        subst hd'
        simp only [spec_poOp.j0]
        refine neg h0 (pos h1 (shift ?_))
        simp only [spec_poOp.j1]
        refine neg (by simp) (neg (by omega) (shift ?_))
        simp only [spec_poOp.j2]
        exact neg (by simp) (neg (by omega) (ret _))
    · by_cases h2 : o.f0 = 2
      · by_cases hok : OpOk i o
        · have hb : (0 ≤ o.f1 ∧ o.f1 ≤ (i : Int)) ∧ (-1000000 ≤ o.f2 ∧ o.f2 ≤ 1000000) := by unfold OpOk at hok; omega
          have hx := hs _ (rdL_mem vs o.f1 (by omega) (by omega))
          have hy := trim1l o.f2
          -- the reference multiplies by the trimmed number
          have hp : ∃ r, Ev (fun k => spec_poProduct.f k (rd_L2 vs o.f1) (trimN [o.f2] 1)) r ∧ Ev (fun k => impl_productOf.f k (rd_L2 vs o.f1) [o.f2]) r ∧ r.length ≤ 40 := by
            by_cases hz : o.f2 = 0
            · have ht : trimN [o.f2] 1 = [] := by simp [trimN, rd, hz]
              rw [ht]
              obtain ⟨r, e1, e2, e3⟩ := prod_both (rd_L2 vs o.f1) [] hx (by simp)
              have e4 := prod_none (rd_L2 vs o.f1) [] (by omega) (by simp) (.inr rfl)
              have : r = [] := uniq e2 e4
              subst this
              exact ⟨[], e1, prod_zero (rd_L2 vs o.f1) o.f2 (by omega) hz, by simp⟩
            · have ht : trimN [o.f2] 1 = [o.f2] := by simp [trimN, rd, hz]
              rw [ht]
              exact prod_both (rd_L2 vs o.f1) [o.f2] hx (by simp)
          obtain ⟨r, e1, e2, e3⟩ := hp
          refine .inl ⟨hok, r, e3, start _ _ fun c d hc hd => shift ?_, .inr (.inr (.inl ⟨h2, by omega, by omega, e2⟩))⟩
          have hc' : c = true := by rw [hc]; simp [hb]
          subst hc'
          simp only [spec_poOp.j0]
          refine neg h0 (neg h1 (shift ?_))
          simp only [spec_poOp.j1]
          refine neg (by simp) (pos h2 (pos trivial (bind0 (l1In_eq _ _ _) (shift ?_))))
          simp only [spec_poOp.j2]
          exact pos (by simpa using hb.2) (pos (by omega) (pos (by omega) (bind (trim1 o.f2) (bind e1 (ret _)))))
        · have hb : ¬ ((0 ≤ o.f1 ∧ o.f1 ≤ (i : Int)) ∧ (-1000000 ≤ o.f2 ∧ o.f2 ≤ 1000000)) := by unfold OpOk at hok; omega
          refine .inr ⟨hok, [], by simp, start _ _ fun c d hc hd => shift ?_⟩
          simp only [spec_poOp.j0]
          refine neg h0 (neg h1 (shift ?_))
          simp only [spec_poOp.j1]
          refine neg (by simp) (pos h2 ?_)
          by_cases ha : 0 ≤ o.f1 ∧ o.f1 ≤ (i : Int)
          · have hb2 : ¬ (-1000000 ≤ o.f2 ∧ o.f2 ≤ 1000000) := fun h => hb ⟨ha, h⟩
            refine pos (by rw [hc]; simp [ha]) (bind0 (l1In_eq _ _ _) (shift ?_))
            simp only [spec_poOp.j2]
            exact neg (by simpa using hb2) (neg (by omega) (ret _))
          · refine neg (by rw [hc]; simp [ha]) (shift ?_)
            simp only [spec_poOp.j2]
            exact neg (by simp) (neg (by omega) (ret _))
      · by_cases h3 : o.f0 = 3
        · by_cases hok : OpOk i o
          · have hb : (0 ≤ o.f1 ∧ o.f1 ≤ (i : Int)) ∧ (0 ≤ o.f2 ∧ o.f2 ≤ (i : Int)) := by unfold OpOk at hok; omega
            obtain ⟨r, e1, e2, e3⟩ := prod_both (rd_L2 vs o.f1) (rd_L2 vs o.f2) (hs _ (rdL_mem vs _ (by omega) (by omega))) (hs _ (rdL_mem vs _ (by omega) (by omega)))
            refine .inl ⟨hok, r, e3, start _ _ fun c d hc hd => shift ?_, .inr (.inr (.inr ⟨h3, by omega, by omega, by omega, by omega, e2⟩))⟩
            simp only [spec_poOp.j0]
            refine neg h0 (neg h1 (shift ?_))
            simp only [spec_poOp.j1]
            refine neg (by simp) (neg h2 (shift ?_))
            simp only [spec_poOp.j2]
            exact neg (by simp) (pos h3 (pos (by rw [hd, hc]; simp [hb]) (pos (by omega) (pos (by omega) (pos (by omega) (pos (by omega) (bind e1 (ret _))))))))
          · have hb : ¬ ((0 ≤ o.f1 ∧ o.f1 ≤ (i : Int)) ∧ (0 ≤ o.f2 ∧ o.f2 ≤ (i : Int))) := by unfold OpOk at hok; omega
            refine .inr ⟨hok, [], by simp, start _ _ fun c d hc hd => shift ?_⟩
            have hd' : d = false := by
              rw [hd, hc]
              by_cases ha : 0 ≤ o.f1 ∧ o.f1 ≤ (i : Int)
              · have : ¬ (0 ≤ o.f2 ∧ o.f2 ≤ (i : Int)) := fun h => hb ⟨ha, h⟩
                simp [ha, this]
              · simp [ha]
            subst hd'
            simp only [spec_poOp.j0]
            refine neg h0 (neg h1 (shift ?_))
            simp only [spec_poOp.j1]
            refine neg (by simp) (neg h2 (shift ?_))
            simp only [spec_poOp.j2]
            exact neg (by simp) (pos h3 (neg (by simp) (ret _)))
        · have hok : ¬ OpOk i o := by unfold OpOk; omega
          refine .inr ⟨hok, [], by simp, start _ _ fun c d hc hd => shift ?_⟩
          simp only [spec_poOp.j0]
          refine neg h0 (neg h1 (shift ?_))
          simp only [spec_poOp.j1]
          refine neg (by simp) (neg h2 (shift ?_))
          simp only [spec_poOp.j2]
          exact neg (by simp) (neg h3 (ret _))

/-- All that is known of a code. -/
structure Good (l : List Op) (o : Int) (v : List (List Int)) : Prop where
  len : v.length = l.length + 1
  few : l.length ≤ 120
  lo : 0 ≤ o
  hi : o ≤ l.length
  small : ∀ p ∈ v, p.length ≤ 17
  ops : ∀ (j : Nat) (h : j < l.length), OpOk j l[j]

theorem values_loop (l : List Op) (o : Int) (hl : l.length ≤ 120) (d : Nat) : ∀ (i : Nat) (vs : List (List Int)), vs.length = i + 1 → (∀ p ∈ vs, p.length ≤ 17) → (∀ (j : Nat) (h : j < l.length), j < i → OpOk j l[j]) → i + d = l.length →
    (∃ v, Ev (fun k => spec_poValues.l0 k vs l (l.length : Int) i l o) (v, decide (0 ≤ o ∧ o ≤ (l.length : Int))) ∧ Ev (fun k => impl_Code_polynomials.l0 k vs l (l.length : Int) i) (v, true) ∧ v.length = l.length + 1 ∧ (∀ p ∈ v, p.length ≤ 17) ∧ ∀ (j : Nat) (h : j < l.length), OpOk j l[j]) ∨
    (Ev (fun k => spec_poValues.l0 k vs l (l.length : Int) i l o) ([], false) ∧ Ev (fun k => impl_Code_polynomials.l0 k vs l (l.length : Int) i) ([], false)) := by
  induction d with
  | zero =>
    intro i vs hv hs hok hi
    refine .inl ⟨vs, ?_, ?_, by omega, hs, fun j h => hok j h (by omega)⟩
    · refine shift ?_
      simp only [spec_poValues.l0]
      exact neg (by omega) (bind0 (l1In_eq _ _ _) (ret _))
    · refine shift ?_
      simp only [impl_Code_polynomials.l0]
      exact neg (by omega) (ret _)
  | succ d ih =>
    intro i vs hv hs hok hi
    have hlt : i < l.length := by omega
    have hr : za9 l (i : Int) = l[i] := rdOp_nat l i hlt
    rcases op_both l[i] vs i hv (by omega) hs with ⟨hop, r, hrl, e1, e2⟩ | ⟨hop, r, hrl, e1⟩
    · -- the program comes to its check with r
      have meet : ∀ (q : List (List Int) × Bool), Ev (fun k => impl_Code_polynomials.j2 k vs r l (l.length : Int) i) q → Ev (fun k => impl_Code_polynomials.l0 k vs l (l.length : Int) i) q := by
        intro q H
        refine shift ?_
        simp only [impl_Code_polynomials.l0]
        rw [hr]
        refine pos (by omega) (pos (by omega) (pos (by omega) (bind (opOk_ev l[i] i) (pos (by simpa using hop) ?_))))
        rcases e2 with ⟨h0, e2⟩ | ⟨h1, a1, a2, a3, a4, e2⟩ | ⟨h2, a1, a2, e2⟩ | ⟨h3, a1, a2, a3, a4, e2⟩
        · exact pos h0 (bind e2 H)
        · exact neg (by omega) (pos h1 (pos a1 (pos a2 (pos a3 (pos a4 (bind e2 H))))))
        · exact neg (by omega) (neg (by omega) (pos h2 (pos a1 (pos a2 (bind e2 H)))))
        · exact neg (by omega) (neg (by omega) (neg (by omega) (pos h3 (pos a1 (pos a2 (pos a3 (pos a4 (bind e2 H))))))))
      have spec : ∀ (q : List (List Int) × Bool), Ev (fun k => if smallB r = true then (if vs.length < 5864062014805 then spec_poValues.l0 k (vs ++ [r]) l (l.length : Int) (wrap64 ((i : Int) + 1)) l o else none) else some (([] : List (List Int)), false)) q → Ev (fun k => spec_poValues.l0 k vs l (l.length : Int) i l o) q := by
        intro q H
        refine shift ?_
        simp only [spec_poValues.l0]
        rw [hr]
        exact pos (by omega) (pos (by omega) (pos (by omega) (bind e1 (pos rfl (bind (poSmall_ev r (by omega)) H)))))
      by_cases hsm : smallB r = true
      · have hs' : ∀ p ∈ vs ++ [r], p.length ≤ 17 := by
          intro p hp
          rcases List.mem_append.1 hp with hp | hp
          · exact hs p hp
          · rw [List.mem_singleton.1 hp]
            exact small_len hsm
        have hok' : ∀ (j : Nat) (h : j < l.length), j < i + 1 → OpOk j l[j] := by
          intro j h hj
          rcases Nat.lt_or_ge j i with hji | hji
          · exact hok j h hji
          · have : j = i := by omega
            subst this
            exact hop
        have m2 : ∀ q, Ev (fun k => impl_Code_polynomials.l0 k (vs ++ [r]) l (l.length : Int) ((i + 1 : Nat) : Int)) q → Ev (fun k => impl_Code_polynomials.l0 k vs l (l.length : Int) i) q := by
          intro q H
          refine meet q (shift ?_)
          simp only [impl_Code_polynomials.j2]
          rw [wrap_succ (by omega)]
          exact bind0 (polynomialOk_eq r) (pos hsm (pos (by omega) H))
        have s2 : ∀ q, Ev (fun k => spec_poValues.l0 k (vs ++ [r]) l (l.length : Int) ((i + 1 : Nat) : Int) l o) q → Ev (fun k => spec_poValues.l0 k vs l (l.length : Int) i l o) q := by
          intro q H
          refine spec q ?_
          rw [wrap_succ (by omega)]
          exact pos hsm (pos (by omega) H)
        rcases ih (i + 1) (vs ++ [r]) (by simp [hv]) hs' hok' (by omega) with ⟨v, h1, h2, h3⟩ | ⟨h1, h2⟩
        · exact .inl ⟨v, s2 _ h1, m2 _ h2, h3⟩
        · exact .inr ⟨s2 _ h1, m2 _ h2⟩
      · refine .inr ⟨spec _ (neg hsm (ret _)), meet _ (shift ?_)⟩
        simp only [impl_Code_polynomials.j2]
        exact bind0 (polynomialOk_eq r) (neg hsm (ret _))
    · refine .inr ⟨?_, ?_⟩
      · refine shift ?_
        simp only [spec_poValues.l0]
        rw [hr]
        exact pos (by omega) (pos (by omega) (pos (by omega) (bind e1 (neg (by simp) (ret _)))))
      · refine shift ?_
        simp only [impl_Code_polynomials.l0]
        rw [hr]
        exact pos (by omega) (pos (by omega) (pos (by omega) (bind (opOk_ev l[i] i) (neg (by simpa using hop) (ret _)))))

theorem values_both (l : List Op) (o : Int) (hl : l.length ≤ 1048576) :
    ∃ (b : Bool) (v v' : List (List Int)), Ev (fun k => spec_poValues.f k l o) (v, b) ∧ Ev (fun k => impl_Code_polynomials.f k l o) (v', b) ∧ (b = true → v' = v ∧ Good l o v) := by
  by_cases h : l.length ≤ 120
  · have fin : ∀ q, Ev (fun k => impl_Code_polynomials.l0 k [[0, 1]] l (l.length : Int) 0) q → (0 ≤ o ∧ o ≤ (l.length : Int)) → Ev (fun k => impl_Code_polynomials.f k l o) q := by
      intro q H hb
      unfold impl_Code_polynomials.f
      refine neg (by omega) (bind0 (in_eq _ _ _) (shift ?_))
      simp only [impl_Code_polynomials.j0]
      exact neg (by simp [hb]) H
    have out : ¬ (0 ≤ o ∧ o ≤ (l.length : Int)) → Ev (fun k => impl_Code_polynomials.f k l o) ([], false) := by
      intro hb
      unfold impl_Code_polynomials.f
      refine neg (by omega) (bind0 (in_eq _ _ _) (shift ?_))
      simp only [impl_Code_polynomials.j0]
      exact pos (by simp only [hb, decide_false, Bool.not_false]) (ret _)
    have sp : ∀ q, Ev (fun k => spec_poValues.l0 k [[0, 1]] l (l.length : Int) 0 l o) q → Ev (fun k => spec_poValues.f k l o) q := by
      intro q H
      unfold spec_poValues.f
      exact neg (by omega) H
    rcases values_loop l o h l.length 0 [[0, 1]] rfl (by simp) (fun j _ hj => absurd hj (by omega)) (by omega) with ⟨v, h1, h2, h3, h4, h5⟩ | ⟨h1, h2⟩
    · by_cases hb : 0 ≤ o ∧ o ≤ (l.length : Int)
      · simp only [hb, and_self, decide_true] at h1
        exact ⟨true, v, v, sp _ h1, fin _ h2 hb, fun _ => ⟨rfl, h3, h, hb.1, hb.2, h4, h5⟩⟩
      · simp only [hb, decide_false] at h1
        exact ⟨false, v, [], sp _ h1, out hb, fun e => by cases e⟩
    · by_cases hb : 0 ≤ o ∧ o ≤ (l.length : Int)
      · exact ⟨false, [], [], sp _ h1, fin _ h2 hb, fun e => by cases e⟩
      · exact ⟨false, [], [], sp _ h1, out hb, fun e => by cases e⟩
  · refine ⟨false, [], [], ?_, ?_, fun e => by cases e⟩
    · unfold spec_poValues.f
      exact pos (by omega) (ret _)
    · unfold impl_Code_polynomials.f
      refine pos (by omega) (shift ?_)
      simp only [impl_Code_polynomials.j0]
      exact pos trivial (ret _)
/-- Is it a code? Both say the same. -/
theorem good_both (l : List Op) (o : Int) (hl : l.length ≤ 1048576) : ∃ b : Bool, Ev (fun k => spec_poGood.f k l o) b ∧ Ev (fun k => impl_IsCode.f k l o) b ∧ (b = true → ∃ v, Good l o v) := by
  obtain ⟨b, v, v', h1, h2, h3⟩ := values_both l o hl
  refine ⟨b, ?_, ?_, fun e => ⟨v, (h3 e).2⟩⟩
  · unfold spec_poGood.f
    exact bind h1 (ret _)
  · unfold impl_IsCode.f
    exact bind h2 (ret _)
end Go.Proofs.Ytgglemlhombgkaa.Pure
