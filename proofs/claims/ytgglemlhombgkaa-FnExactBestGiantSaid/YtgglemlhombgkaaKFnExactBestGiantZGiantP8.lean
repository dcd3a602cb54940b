/- How many products the code by groups has: the reference counts what the program counts. -/
import Derived.Test.YtgglemlhombgkaaKFnExactBestGiantZScheme8
import Derived.Test.YtgglemlhombgkaaKFnExactBestGiantQ0
import Derived.Test.YtgglemlhombgkaaKFnExactBestGiantQ3
import Derived.Test.YtgglemlhombgkaaKFnExactBestGiantQ4
import Derived.Test.YtgglemlhombgkaaKFnExactBestGiantQ5
namespace Go.Proofs.Ytgglemlhombgkaa.Pure
open Go.RowKit Go.Proofs.Ytgglemlhombgkaa.Z Go.Proofs.Ytgglemlhombgkaa.E Go.Proofs.YtgglemlhombgkaaW.PrintWords Go.Proofs.YtgglemlhombgkaaW.PrintLast Go.Proofs.YtgglemlhombgkaaW.PrintMore
theorem l1Least_eq (a b : Int) : spec_l1Least.f a b = some (if a < b then a else b) := by
  unfold spec_l1Least.f
  split <;> rfl
theorem giant_loop (l qs : List Int) (K : Nat) (hK : 1 ≤ K) (hK2 : K ≤ 17) (hl : 1 ≤ l.length) (hl2 : l.length ≤ 17) (hq : ∀ d, d * K < l.length → min K (l.length - d * K) ≤ qs.length + 1) (d : Nat) : ∀ (v : Int) (m : List Op), (d = 0 ∨ (d - 1) * K < l.length) → (d = 0 ∨ K ≤ qs.length ∨ (d = 1 ∧ v < 0)) → m.length + 60 * d ≤ 4000 →
    ∃ co, Ev (fun k => spec_poGiant.l0 k l (K : Int) qs v ((d : Int) * K - K) m 0) ((giGo l (-1 :: qs) K d v m).2, co) := by
  induction d with
  | zero =>
    intro v m _ _ _
    refine ⟨v, shift ?_⟩
    simp only [spec_poGiant.l0]
    exact neg (by omega) (ret _)
  | succ d ih =>
    intro v m hd hv hm
    have hdl : d * K < l.length := by simpa using hd
    obtain ⟨F, hF⟩ : ∃ F, d * K = F := ⟨_, rfl⟩
    have hf : ((d + 1 : Nat) : Int) * K - K = (F : Int) := by
      rw [← hF]; push_cast; rw [Int.add_mul]; omega
    have hf2 : (F : Int) - K = (d : Int) * K - K := by rw [← hF]; push_cast; rfl
    rw [hf]
    have hcs : giCut l K d = (l.take (min (F + K) l.length)).drop F := by unfold giCut; rw [hF]
    have hcl : (giCut l K d).length = min (F + K) l.length - F := by rw [hcs, List.length_drop, List.length_take]; omega
    have hqq := hq d hdl
    have hdn : d = 0 ∨ (d - 1) * K < l.length := by
      rcases d with _ | d
      · exact .inl rfl
      · refine .inr ?_
        have : (d + 1 - 1) * K ≤ (d + 1) * K := Nat.mul_le_mul_right K (by omega)
        omega
    rw [hF] at hqq hdl
    have HW := Aside0.mk (show wrap64 ((F : Int) + K) = ((F + K : Nat) : Int) ∧ wrap64 ((F : Int) - K) = (F : Int) - K from ⟨by rw [wrap_id (by omega) (by omega)]; omega, wrap_id (by omega) (by omega)⟩)
    have hmn : (if ((F + K : Nat) : Int) < (l.length : Int) then ((F + K : Nat) : Int) else (l.length : Int)) = ((min (F + K) l.length : Nat) : Int) := by split <;> omega
    have HMN := Aside0.mk hmn
    clear hmn
    -- behind the head
    have tail : ∀ (v1 : Int) (m1 : List Op), m1.length ≤ m.length + 1 → ∃ co, Ev (fun k => spec_poGiant.j1 k l (K : Int) qs v1 (F : Int) m1 0) ((giGo l (-1 :: qs) K d (giTail v1 (giGroup l (-1 :: qs) K d m1)).1 (giTail v1 (giGroup l (-1 :: qs) K d m1)).2).2, co) := by
      intro v1 m1 hm1
      have hg := poGroup_ev (giCut l K d) qs m1 0 (by omega) (by omega) (by omega) (by omega)
      have hgl := grGo_len (giCut l K d) (-1 :: qs) ((giCut l K d).length - 1) 0 ((m1.length : Int) + 1) (m1 ++ [⟨0, rd (giCut l K d) 0, 0⟩])
      have hgg : giGroup l (-1 :: qs) K d m1 = grGo (giCut l K d) (-1 :: qs) ((giCut l K d).length - 1) 0 ((m1.length : Int) + 1) (m1 ++ [⟨0, rd (giCut l K d) 0, 0⟩]) := rfl
      rw [← hgg] at hg hgl
      generalize giGroup l (-1 :: qs) K d m1 = g at *
      simp at hgl
      by_cases h1 : 0 ≤ v1
      · have ht : giTail v1 g = ((g.2.length : Int) + 1, g.2 ++ [⟨1, v1, g.1⟩]) := by unfold giTail; rw [if_pos h1]
        rw [ht]
        obtain ⟨co, h⟩ := ih ((g.2.length : Int) + 1) (g.2 ++ [⟨1, v1, g.1⟩]) hdn (by omega) (by simp; omega)
        refine ⟨co, shift ?_⟩
        simp only [spec_poGiant.j1]
        rw [HW.out.1, HW.out.2, hf2]
        refine bind0 (l1Least_eq _ _) ?_
        rw [HMN.out]
        refine pos (by omega) (pos (by omega) (pos (by omega) ?_))
        rw [Int.toNat_natCast, Int.toNat_natCast, ← hcs]
        exact bind hg (neg (by omega) (bind0 (poAdd_eq g.2 0 1 _ _ (by omega)) h))
      · have ht : giTail v1 g = g := by unfold giTail; rw [if_neg h1]
        rw [ht]
        obtain ⟨co, h⟩ := ih g.1 g.2 hdn (by omega) (by omega)
        refine ⟨co, shift ?_⟩
        simp only [spec_poGiant.j1]
        rw [HW.out.1, HW.out.2, hf2]
        refine bind0 (l1Least_eq _ _) ?_
        rw [HMN.out]
        refine pos (by omega) (pos (by omega) (pos (by omega) ?_))
        rw [Int.toNat_natCast, Int.toNat_natCast, ← hcs]
        exact bind hg (pos (by omega) h)
    have hgo : giGo l (-1 :: qs) K (d + 1) v m = giGo l (-1 :: qs) K d (giTail (giHead (-1 :: qs) K v m).1 (giGroup l (-1 :: qs) K d (giHead (-1 :: qs) K v m).2)).1 (giTail (giHead (-1 :: qs) K v m).1 (giGroup l (-1 :: qs) K d (giHead (-1 :: qs) K v m).2)).2 := rfl
    rw [hgo]
    by_cases h0 : 0 ≤ v
    · have hh : giHead (-1 :: qs) K v m = ((m.length : Int) + 1, m ++ [⟨3, v, rd qs ((K : Int) - 1)⟩]) := by
        unfold giHead
        rw [if_pos h0]
        have : rd (-1 :: qs) (K : Int) = rd qs ((K : Int) - 1) := by
          obtain ⟨K', rfl⟩ : ∃ K', K = K' + 1 := ⟨K - 1, by omega⟩
          rw [show (((K' + 1 : Nat) : Int) - 1) = (K' : Int) by omega]
          simp [rd]
        rw [this]
      rw [hh]
      obtain ⟨co, h⟩ := tail ((m.length : Int) + 1) (m ++ [⟨3, v, rd qs ((K : Int) - 1)⟩]) (by simp)
      refine ⟨co, shift ?_⟩
      simp only [spec_poGiant.l0]
      rw [wrap_id (x := (K : Int) - 1) (by omega) (by omega)]
      exact pos (by omega) (pos h0 (pos (by omega) (pos (by omega) (bind0 (poAdd_eq m 0 3 v _ (by omega)) h))))
    · have hh : giHead (-1 :: qs) K v m = (v, m) := by unfold giHead; rw [if_neg h0]
      rw [hh]
      obtain ⟨co, h⟩ := tail v m (by omega)
      refine ⟨co, shift ?_⟩
      simp only [spec_poGiant.l0]
      exact pos (by omega) (neg h0 h)
theorem poGiant_ev (l : List Int) (K : Nat) (hK : 1 ≤ K) (hK2 : K ≤ 17) (hl : 1 ≤ l.length) (hl2 : l.length ≤ 17) : ∃ co, Ev (fun k => spec_poGiant.f k l (K : Int)) ((giIn l K).2, co) := by
  obtain ⟨M, hM⟩ : ∃ M, min K (l.length - 1) = M := ⟨_, rfl⟩
  obtain ⟨Q, hQ⟩ : ∃ Q, (l.length - 1) / K = Q := ⟨_, rfl⟩
  have hmn : (if (K : Int) < (l.length : Int) - 1 then (K : Int) else (l.length : Int) - 1) = (M : Int) := by rw [← hM]; split <;> omega
  have HMN := Aside0.mk hmn
  clear hmn
  obtain ⟨qs, q1, q2⟩ := poPowers_loop (M : Int) (by omega) (M - 1) [0] [] 0 2 (by simp) (by simp [rd]) (by omega) (by omega) (by simp; omega) (by simp; omega)
  have hql : qs.length = M - 1 + 1 := by
    have := (pwGo_len (M - 1) [-1, 0] []).1
    rw [q1] at this
    simp at this
    omega
  have hl3 := (pwGo_len (M - 1) [-1, 0] []).2
  have hQl : Q * K ≤ l.length - 1 := by rw [← hQ]; exact Nat.div_mul_le_self _ _
  have hQ16 : Q ≤ 16 := by
    have : Q * 1 ≤ Q * K := Nat.mul_le_mul_left Q hK
    omega
  obtain ⟨co, h⟩ := giant_loop l qs K hK hK2 hl hl2 (fun d hd => by omega) (Q + 1) (-1) (pwGo (M - 1) [-1, 0] []).2 (.inr (by simp; omega)) (by
    by_cases h1 : 1 ≤ Q
    · have : ¬ l.length - 1 < K := fun h => by rw [Nat.div_eq_of_lt h] at hQ; omega
      exact .inr (.inl (by omega))
    · exact .inr (.inr ⟨by omega, by omega⟩)) (by simp at hl3; omega)
  have hin : giIn l K = giGo l (-1 :: qs) K (Q + 1) (-1) (pwGo (M - 1) [-1, 0] []).2 := by unfold giIn giPw; rw [hM, hQ, q1]
  refine ⟨co, ?_⟩
  rw [hin]
  have hdiv : Int.tdiv ((l.length : Int) - 1) (K : Int) = (Q : Int) := by
    rw [show ((l.length : Int) - 1) = ((l.length - 1 : Nat) : Int) by omega, ← Int.ofNat_tdiv, hQ]
  have hfrom : wrap64 ((wrap64 (Q : Int)) * (K : Int)) = ((Q + 1 : Nat) : Int) * K - K := by
    have e : (Q : Int) * (K : Int) = ((Q * K : Nat) : Int) := by push_cast; rfl
    rw [wrap_id (x := (Q : Int)) (by omega) (by omega), e, wrap_id (by omega) (by omega)]
    push_cast
    rw [Int.add_mul]
    omega
  have HFR := Aside0.mk hfrom
  clear hfrom
  unfold spec_poGiant.f
  refine bind0 (l1Least_eq _ _) ?_
  rw [wrap_id (x := (l.length : Int) - 1) (by omega) (by omega), HMN.out, hdiv, HFR.out]
  unfold spec_poPowers.f
  exact bind q2 (neg (by omega) h)
theorem poProducts_ev (D K : Nat) (hD : D ≤ 16) (hK : 1 ≤ K) (hK2 : K ≤ 17) : Ev (fun k => spec_poProducts.f k (D : Int) (K : Int)) (gpN D K) := by
  obtain ⟨co, h⟩ := poGiant_ev (List.replicate (D + 1) 0) K hK hK2 (by simp) (by simp; omega)
  have hlen := giIn_len (List.replicate (D + 1) 0) K (by simp; omega) hK2
  unfold gpN
  generalize (giIn (List.replicate (D + 1) 0) K).2 = l at *
  have key : ∀ d i : Nat, i + d = l.length → Ev (fun k => spec_poProducts.l0 k (prods (l.take i) : Int) l (l.length : Int) i) (prods l : Int) := by
    intro d
    induction d with
    | zero =>
      intro i hi
      refine shift ?_
      simp only [spec_poProducts.l0]
      refine neg (by omega) (now ?_)
      rw [List.take_of_length_le (by omega)]
    | succ d ih =>
      intro i hi
      have hp := prods_take l i (by omega)
      have hpl : prods (l.take i) ≤ 1000 := Nat.le_trans List.countP_le_length (by rw [List.length_take]; omega)
      have h2 := ih (i + 1) (by omega)
      rw [hp] at h2
      refine shift ?_
      simp only [spec_poProducts.l0]
      rw [wrap_succ (by omega)]
      by_cases h3 : (zaa l (i : Int)).f0 = 3
      · rw [if_pos h3] at h2
        rw [wrap_succ (by omega)]
        exact pos (by omega) (pos (by omega) (pos (by omega) (pos h3 h2)))
      · rw [if_neg h3, Nat.add_zero] at h2
        rw [wrap_succ (by omega)]
        exact pos (by omega) (pos (by omega) (pos (by omega) (neg h3 h2)))
  unfold spec_poProducts.f
  rw [wrap_succ (by omega), Int.toNat_natCast]
  refine pos (by omega) (pos (by omega) (bind h ?_))
  have := key l.length 0 (by omega)
  simpa [prods] using this
end Go.Proofs.Ytgglemlhombgkaa.Pure
