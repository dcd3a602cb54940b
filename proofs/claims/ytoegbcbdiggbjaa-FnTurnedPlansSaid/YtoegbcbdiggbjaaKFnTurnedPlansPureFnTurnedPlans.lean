/- Pure: all values of a turned plan are used; it is a plan where it is not too long. -/
import Derived.Test.YtoegbcbdiggbjaaKFnTurnedPlansPtps
import Derived.Test.YtoegbcbdiggbjaaKFnTurnedPlansPused
import Derived.Test.YtoegbcbdiggbjaaKFnTurnedPlansPpw
import Derived.Test.YtoegbcbdiggbjaaKFnTurnedPlansPdraw
set_option linter.unusedVariables false
set_option linter.unusedSimpArgs false
namespace Go.Proofs.Ytoegbcbdiggbjaa.Pure
open Go.RowKit Go.Proofs.Ytoegbcbdiggbjaa.E Go.Proofs.Ytoegbcbdiggbjaa.TU Go.Proofs.Ytoegbcbdiggbjaa.Frame Go.Proofs.YtoegbcbdiggbjaaW.PrintLast Go.Proofs.YtoegbcbdiggbjaaW.PrintMore
open Go.Proofs.YtoegbcbdiggbjaaW.PrintWords hiding mn mx
/-- A factor of some step. -/
def Fa (t : List SStep) (w : Int) : Prop := ∃ y ∈ t, y.f0 = w ∨ y.f1 = w
theorem Fa.mono {s t : List SStep} {w : Int} (h : Fa s w) : Fa (s ++ t) w := let ⟨y, hy, e⟩ := h; ⟨y, List.mem_append_left _ hy, e⟩
theorem Fa.tail {s t : List SStep} {w : Int} (h : Fa t w) : Fa (s ++ t) w := let ⟨y, hy, e⟩ := h; ⟨y, List.mem_append_right _ hy, e⟩
theorem mnmx_has (a f : Int) : (mn a f = a ∨ mx a f = a) ∧ (mn a f = f ∨ mx a f = f) := by
  unfold mn mx
  by_cases c : f < a
  · rw [if_pos c, if_neg (by omega)]
    exact ⟨.inr rfl, .inl rfl⟩
  · rw [if_neg c]
    by_cases d : a < f
    · rw [if_pos d]
      exact ⟨.inl rfl, .inr rfl⟩
    · rw [if_neg d]
      exact ⟨.inl rfl, .inl (by omega)⟩
theorem fold_use (J : Int) (fs : List Int) (z : List SStep × Int) : ∃ t, (fs.foldl (tm J) z).1 = z.1 ++ t ∧ (z.2 = (fs.foldl (tm J) z).2 ∨ Fa t z.2) ∧ (∀ f ∈ fs, Fa t f) ∧ ∀ w : Int, J + (z.1.length : Int) ≤ w → w < J + ((z.1 ++ t).length : Int) → w = (fs.foldl (tm J) z).2 ∨ Fa t w := by
  induction fs generalizing z with
  | nil => exact ⟨[], by simp, .inl rfl, (fun f hf => nomatch hf), (fun w h0 h1 => by rw [List.append_nil] at h1; omega)⟩
  | cons f fs ih =>
    obtain ⟨t, t1, t2, t3, t4⟩ := ih (tm J z f)
    have e1 : (tm J z f).1 = z.1 ++ [⟨mn z.2 f, mx z.2 f⟩] := rfl
    have e2 : (tm J z f).2 = J + (z.1.length : Int) := rfl
    rw [e1] at t1 t4
    rw [e2] at t2
    have hm := mnmx_has z.2 f
    rw [List.foldl_cons]
    refine ⟨[⟨mn z.2 f, mx z.2 f⟩] ++ t, by rw [t1, List.append_assoc], .inr ⟨⟨mn z.2 f, mx z.2 f⟩, by simp, hm.1⟩, fun g hg => ?_, fun w h0 h1 => ?_⟩
    · rcases List.mem_cons.1 hg with rfl | hg
      · exact ⟨⟨mn z.2 g, mx z.2 g⟩, by simp, hm.2⟩
      · exact (t3 g hg).tail
    · by_cases c : w = J + (z.1.length : Int)
      · subst c
        rcases t2 with t2 | t2
        · exact .inl t2
        · exact .inr t2.tail
      · rcases t4 w (by rw [List.length_append, List.length_singleton]; omega) (by rw [← List.append_assoc] at h1; exact h1) with q | q
        · exact .inl q
        · exact .inr q.tail
theorem foldI_use (J : Int) (hJ : 0 ≤ J) (fs : List Int) (hne : fs ≠ []) (hf : ∀ f ∈ fs, 0 ≤ f) (s : List SStep) : ∃ t, (fs.foldl (tmI J) (s, -1)).1 = s ++ t ∧ (∀ f ∈ fs, f = (fs.foldl (tmI J) (s, -1)).2 ∨ Fa t f) ∧ ∀ w : Int, J + (s.length : Int) ≤ w → w < J + ((s ++ t).length : Int) → w = (fs.foldl (tmI J) (s, -1)).2 ∨ Fa t w := by
  cases fs with
  | nil => exact absurd rfl hne
  | cons f fs =>
    have hf0 := hf f List.mem_cons_self
    have e0 : tmI J (s, -1) f = (s, f) := if_pos (by show (-1 : Int) < 0; omega)
    obtain ⟨q1, _, _⟩ := fold_tm J hJ fs (s, f) hf0
    rw [List.foldl_cons, e0, q1]
    obtain ⟨t, t1, t2, t3, t4⟩ := fold_use J fs (s, f)
    refine ⟨t, t1, fun g hg => ?_, t4⟩
    rcases List.mem_cons.1 hg with rfl | hg
    · exact t2
    · exact .inr (t3 g hg)
theorem fo_has {v : Int} {o : List Int} {m : Nat} (h : o[m]? = some v) (j : Int) : j + (m : Int) ∈ fo v o j := by
  induction o generalizing m j with
  | nil => simp at h
  | cons y ys ih =>
    simp only [fo, List.mem_append]
    cases m with
    | zero =>
      obtain rfl : y = v := by simpa using h
      left
      rw [if_pos rfl]
      simp
    | succ m =>
      right
      have := ih (m := m) (by simpa using h) (j + 1)
      rwa [show j + 1 + (m : Int) = j + ((m + 1 : Nat) : Int) by omega] at this
theorem fst_has {I v : Int} {bl : List Int} {s : List SStep} {m : Nat} {y : SStep} (h : s[m]? = some y) (hv : y.f0 = v ∨ y.f1 = v) (j : Int) : rg bl (I + j + (m : Int)) ∈ fst_ I v bl s j := by
  induction s generalizing m j with
  | nil => simp at h
  | cons z ys ih =>
    simp only [fst_, List.mem_append]
    cases m with
    | zero =>
      obtain rfl : z = y := by simpa using h
      left
      simp only [f3, List.append_nil]
      rcases hv with hv | hv
      · rw [if_pos hv]
        simp
      · rw [if_pos hv]
        split <;> simp
    | succ m =>
      right
      have := ih (m := m) (by simpa using h) (j + 1)
      rwa [show I + (j + 1) + (m : Int) = I + j + ((m + 1 : Nat) : Int) by omega] at this
/-- Who waits for a place: an input's value, a step's whose factors come, an output to come. -/
def Pd (I : Nat) (s : List SStep) (o : List Int) (J : Nat) (d : Nat) (bl : List Int) (st : List SStep) (w : Int) : Prop :=
  Fa st w ∨ (∃ v : Int, (d : Int) ≤ v ∧ v < ((I + s.length : Nat) : Int) ∧ rg bl v = w ∧ (v < (I : Int) ∨ ∃ (j : Nat) (y : SStep), v = ((I + j : Nat) : Int) ∧ s[j]? = some y ∧ y.f1 < (d : Int))) ∨ (0 ≤ w ∧ w < (J : Int) ∧ rg o w < (d : Int))
theorem tn_use {I J : Nat} {s : List SStep} {o : List Int} (hs : Ok I s) (hJ : o.length = J) (hne : ∀ v : Int, 0 ≤ v → v < ((I + s.length : Nat) : Int) → ∀ bl, fo v o 0 ++ fst_ (I : Int) v bl s 0 ≠ []) :
    ∀ (d : Nat), d ≤ I + s.length → ∀ (bl : List Int) (st : List SStep), bl.length = I + s.length → (∀ x ∈ bl, 0 ≤ x) → (∀ w : Int, 0 ≤ w → w < ((J + st.length : Nat) : Int) → Pd I s o J d bl st w) →
      ∀ w : Int, 0 ≤ w → w < ((J + (tn (J : Int) (I : Int) s o d bl st).1.length : Nat) : Int) → Pd I s o J 0 (tn (J : Int) (I : Int) s o d bl st).2 (tn (J : Int) (I : Int) s o d bl st).1 w := by
  intro d
  induction d with
  | zero => exact fun _ bl st _ _ h => h
  | succ d ih =>
    intro hd bl st hbl hb0 hP
    have hF : ∀ f ∈ fo (d : Int) o 0 ++ fst_ (I : Int) (d : Int) bl s 0, 0 ≤ f := by
      intro f hf
      rcases List.mem_append.1 hf with hf | hf
      · exact fo_ge _ _ 0 (by omega) f hf
      · exact fs_ge _ _ bl hb0 s 0 f hf
    obtain ⟨t, t1, t2, t3⟩ := foldI_use (J : Int) (by omega) _ (hne (d : Int) (by omega) (by omega) bl) hF st
    have hfo : ∀ w : Int, 0 ≤ w → w < (J : Int) → rg o w = (d : Int) → w ∈ fo (d : Int) o 0 ++ fst_ (I : Int) (d : Int) bl s 0 := fun w h0 h1 e => by
      obtain ⟨m, rfl⟩ := Int.eq_ofNat_of_zero_le h0
      have hm : m < o.length := by omega
      rw [rg_nat hm] at e
      have := fo_has (v := (d : Int)) (o := o) (m := m) (by rw [List.getElem?_eq_getElem hm, e]) 0
      rw [Int.zero_add] at this
      exact List.mem_append_left _ this
    have hfs : ∀ (j : Nat) (y : SStep), s[j]? = some y → y.f1 = (d : Int) → rg bl ((I + j : Nat) : Int) ∈ fo (d : Int) o 0 ++ fst_ (I : Int) (d : Int) bl s 0 := fun j y hj e => by
      have := fst_has (I := (I : Int)) (bl := bl) hj (.inr e) 0
      rw [show (I : Int) + 0 + (j : Int) = ((I + j : Nat) : Int) by omega] at this
      exact List.mem_append_right _ this
    have hge : 0 ≤ ((fo (d : Int) o 0 ++ fst_ (I : Int) (d : Int) bl s 0).foldl (tmI (J : Int)) (st, -1)).2 := by
      cases hc : fo (d : Int) o 0 ++ fst_ (I : Int) (d : Int) bl s 0 with
      | nil => exact absurd hc (hne (d : Int) (by omega) (by omega) bl)
      | cons f fs =>
        have hf0 := hF f (by rw [hc]; exact List.mem_cons_self)
        have e0 : tmI (J : Int) (st, -1) f = (st, f) := if_pos (by show (-1 : Int) < 0; omega)
        rw [List.foldl_cons, e0, (fold_tm (J : Int) (by omega) fs (st, f) hf0).1]
        exact (fold_tm (J : Int) (by omega) fs (st, f) hf0).2.1
    simp only [tn]
    generalize fo (d : Int) o 0 ++ fst_ (I : Int) (d : Int) bl s 0 = F at *
    obtain ⟨⟨S, a⟩, hz⟩ : ∃ z, F.foldl (tmI (J : Int)) (st, -1) = z := ⟨_, rfl⟩
    rw [hz] at t1 t2 t3 hge ⊢
    simp only at t1 t2 t3 hge ⊢
    subst t1
    have hset : ∀ v : Int, 0 ≤ v → v < ((I + s.length : Nat) : Int) → rg (bl.set d a) v = if (d : Int) = v then a else rg bl v := fun v h0 h1 => by
      have := rg_set (l := bl) (x := (d : Int)) (v := a) h0 (by omega) (by omega)
      rwa [Int.toNat_natCast] at this
    -- the value that d has now waits
    have hnow : Pd I s o J d (bl.set d a) (st ++ t) a := by
      refine .inr (.inl ⟨(d : Int), Int.le_refl _, by omega, by rw [hset _ (by omega) (by omega), if_pos rfl], ?_⟩)
      by_cases c : (d : Int) < (I : Int)
      · exact .inl c
      · have hj : d - I < s.length := by omega
        have q := hs.at (List.getElem?_eq_getElem hj)
        exact .inr ⟨d - I, _, by omega, List.getElem?_eq_getElem hj, by omega⟩
    have hfac : ∀ w, w ∈ F → Pd I s o J d (bl.set d a) (st ++ t) w := fun w hw => by
      rcases t2 w hw with e | q
      · rw [e]; exact hnow
      · exact .inl q.tail
    refine ih (by omega) (bl.set d a) (st ++ t) (by simpa using hbl) (fun x hx => ?_) (fun w w0 w1 => ?_)
    · rcases List.mem_or_eq_of_mem_set hx with g | g
      · exact hb0 x g
      · rw [g]; exact hge
    · by_cases c : w < ((J + st.length : Nat) : Int)
      · rcases hP w w0 c with q | ⟨v, v0, v1, v2, q⟩ | ⟨_, q1, q2⟩
        · exact .inl q.mono
        · have hv : rg (bl.set d a) v = w := by rw [hset v (by omega) v1, if_neg (by omega), v2]
          rcases q with q | ⟨j, y, e1, e2, e3⟩
          · exact .inr (.inl ⟨v, by omega, v1, hv, .inl q⟩)
          · by_cases k : y.f1 = (d : Int)
            · refine hfac w ?_
              rw [← v2, e1]
              exact hfs j y e2 k
            · exact .inr (.inl ⟨v, by omega, v1, hv, .inr ⟨j, y, e1, e2, by omega⟩⟩)
        · by_cases k : rg o w = (d : Int)
          · exact hfac w (hfo w w0 q1 k)
          · exact .inr (.inr ⟨w0, q1, by omega⟩)
      · rcases t3 w (by omega) (by omega) with e | q
        · rw [e]; exact hnow
        · exact .inl q.tail
section
variable {I : Nat} {s : List SStep} {o : List Int}
def tS (I : Nat) (s : List SStep) (o : List Int) : List SStep := (tn (o.length : Int) (I : Int) s o (I + s.length) (List.replicate (I + s.length) 0) []).1
def tB (I : Nat) (s : List SStep) (o : List Int) : List Int := (tn (o.length : Int) (I : Int) s o (I + s.length) (List.replicate (I + s.length) 0) []).2
def AllU (I : Nat) (s : List SStep) (o : List Int) : Prop := ∀ v : Int, 0 ≤ v → v < (I : Int) + (s.length : Int) → v ∈ o ∨ ∃ y ∈ s, y.f0 = v ∨ y.f1 = v
theorem hasF (hu : AllU I s o) : ∀ v : Int, 0 ≤ v → v < ((I + s.length : Nat) : Int) → ∀ bl, fo v o 0 ++ fst_ (I : Int) v bl s 0 ≠ [] := fun v h0 h1 bl e => by
  rw [List.append_eq_nil_iff] at e
  rcases hu v h0 (by omega) with hv | hv
  · exact fo_ne hv 0 e.1
  · exact fs_ne hv 0 e.2
theorem turn_use (h : Good I s o) (hu : AllU I s o) : ∀ w : Int, 0 ≤ w → w < ((o.length + (tS I s o).length : Nat) : Int) → (∃ u : Nat, u < I ∧ rg (tB I s o) (u : Int) = w) ∨ Fa (tS I s o) w := by
  intro w w0 w1
  have := tn_use h.ok rfl (hasF hu) (I + s.length) (Nat.le_refl _) (List.replicate (I + s.length) 0) [] (by simp) (fun x hx => by rw [List.eq_of_mem_replicate hx]; exact Int.le_refl 0) (fun w w0 w1 => .inr (.inr ⟨w0, by simpa using w1, by
    have hw : w.toNat < o.length := by simp at w1; omega
    have := (h.os o[w.toNat] (List.getElem_mem hw)).2
    rw [← rg_nat hw, show ((w.toNat : Nat) : Int) = w by omega] at this
    exact this⟩)) w w0 w1
  rcases this with q | ⟨v, v0, v1, v2, q | ⟨j, y, _, e2, e3⟩⟩ | ⟨_, q1, q2⟩
  · exact .inr q
  · exact .inl ⟨v.toNat, by omega, by rw [show ((v.toNat : Nat) : Int) = v by omega]; exact v2⟩
  · have := h.ok.at e2
    omega
  · have hw : w.toNat < o.length := by omega
    have := (h.os o[w.toNat] (List.getElem_mem hw)).1
    rw [← rg_nat hw, show ((w.toNat : Nat) : Int) = w by omega] at this
    omega
/-- What a turned plan's outputs are, at any inputs. -/
theorem turn_vl (h : Good I s o) (hu : AllU I s o) (x : List Int) (hx : x.length = o.length) :
    Ok o.length (tS I s o) ∧ (tB I s o).length = I + s.length ∧ ((tS I s o).length : Int) = (o.length : Int) + (s.length : Int) - (I : Int) ∧
    (∀ v : Int, 0 ≤ v → v < ((I + s.length : Nat) : Int) → 0 ≤ rg (tB I s o) v ∧ rg (tB I s o) v < ((o.length + (tS I s o).length : Nat) : Int)) ∧
    ∀ u : Nat, u < I → rg (vl (tS I s o) x) (rg (tB I s o) (u : Int)) = sN (fun i => rg x (i : Int) * rg (vl s (unitR I u)) (rg o (i : Int))) o.length := by
  obtain ⟨t1, t2, t3, t4, t5⟩ := tn_val x hx h.ok rfl (hasF hu) (I + s.length) (Nat.le_refl _) (List.replicate (I + s.length) 0) [] (by simp) trivial (fun v h0 h1 => by omega) (fun v h0 h1 => by omega)
  refine ⟨t1, t2, ?_, t3, fun u hu' => ?_⟩
  · have e1 := so_len o (I + s.length) h.os
    have e2 := sq_len s (I + s.length) (I : Int) h.form.mem
    rw [sN_add, e1, e2] at t5
    simp only [List.length_nil] at t5
    unfold tS
    omega
  · have ha := adjoint h.ok h.os (unitR I u) (unitR_len I u) (rg x) _ t4
    have e : sN (fun w => rg (unitR I u) (w : Int) * rg (vl (tS I s o) x) (rg (tB I s o) (w : Int))) I = rg (vl (tS I s o) x) (rg (tB I s o) (u : Int)) := by
      have := sN_one (fun w => rg (vl (tS I s o) x) (rg (tB I s o) (w : Int))) I (u : Int) (by omega) (by omega)
      rw [Int.toNat_natCast] at this
      rw [← this]
      refine sN_congr fun w hw => ?_
      rw [unitR_rg hu' (by omega) (by omega)]
      by_cases c : (w : Int) = (u : Int)
      · rw [if_pos c, if_pos c.symm, Int.one_mul]
      · rw [if_neg c, if_neg (fun q => c q.symm), Int.zero_mul]
    unfold tS tB at e ⊢
    rw [e] at ha
    rw [ha]
    refine sN_congr fun i hi => ?_
    rw [rg_nat hi, List.getD_eq_getElem?_getD, List.getElem?_eq_getElem hi, Option.getD_some]
theorem turn_unit (h : Good I s o) (hu : AllU I s o) {i : Nat} (hi : i < o.length) {u : Nat} (hu' : u < I) : rg (vl (tS I s o) (unitR o.length i)) (rg (tB I s o) (u : Int)) = rg (vl s (unitR I u)) (rg o (i : Int)) := by
  rw [(turn_vl h hu (unitR o.length i) (unitR_len _ _)).2.2.2.2 u hu']
  have := sN_one (fun w => rg (vl s (unitR I u)) (rg o (w : Int))) o.length (i : Int) (by omega) (by omega)
  rw [Int.toNat_natCast] at this
  rw [← this]
  refine sN_congr fun w hw => ?_
  rw [unitR_rg hi (by omega) (by omega)]
  by_cases c : (w : Int) = (i : Int)
  · rw [if_pos c, if_pos c.symm, Int.one_mul]
  · rw [if_neg c, if_neg (fun q => c q.symm), Int.zero_mul]
/-- A turned plan that is not too long is a plan. -/
theorem turned_good (h : Good I s o) (hu : AllU I s o) (ho : o ≠ []) (hl : (tS I s o).length ≤ 40) : Good o.length (tS I s o) ((tB I s o).take I) := by
  have h1 := h.inp
  have h3 := h.out
  have hop : 0 < o.length := List.length_pos_iff.2 ho
  obtain ⟨t1, t2, _, t3, _⟩ := turn_vl h hu (List.replicate o.length 1) (by simp)
  have htl : ((tB I s o).take I).length = I := by rw [List.length_take]; omega
  have hte : ∀ u : Nat, u < I → rg ((tB I s o).take I) (u : Int) = rg (tB I s o) (u : Int) := fun u hu' => by
    rw [rg_nat (by omega), List.getElem_take, rg_nat (l := tB I s o) (by omega)]
  refine ⟨by omega, hl, by omega, t1, ?_, ?_⟩
  · intro y hy
    obtain ⟨u, hu', rfl⟩ := List.getElem_of_mem hy
    have e := hte u (by omega)
    rw [rg_nat hu'] at e
    rw [e]
    exact t3 (u : Int) (by omega) (by omega)
  · intro i hi
    have hval : ∀ u : Nat, u < I → rg (vl (tS I s o) (unitR o.length i)) (rg (tB I s o) (u : Int)) ≤ 1000000 := fun u hu' => by
      rw [turn_unit h hu hi hu']
      have q := h.os o[i] (List.getElem_mem hi)
      rw [rg_nat hi]
      exact h.le u hu' _ q.1 q.2
    have key : ∀ (n : Nat) (w : Int), 0 ≤ w → w < ((o.length + (tS I s o).length : Nat) : Int) → ((o.length + (tS I s o).length : Nat) : Int) ≤ w + (n : Int) → rg (vl (tS I s o) (unitR o.length i)) w ≤ 1000000 := by
      intro n
      induction n with
      | zero => intro w h0 h1 h2; omega
      | succ n ih =>
        intro w h0 h1 h2
        rcases turn_use h hu w h0 h1 with ⟨u, hu', rfl⟩ | ⟨y, hy, e⟩
        · exact hval u hu'
        · obtain ⟨m, hm, rfl⟩ := List.getElem_of_mem hy
          have q := t1.at (List.getElem?_eq_getElem hm)
          have ev := vl_at (l := unitR o.length i) (s := tS I s o) (by rw [unitR_len]; exact t1) (List.getElem?_eq_getElem hm)
          rw [unitR_len] at ev
          have hn := ih ((o.length + m : Nat) : Int) (by omega) (by omega) (by rcases e with e | e <;> omega)
          have g0 := rg_le0 (vl_ge (s := tS I s o) (unitR_ge o.length i)) (tS I s o)[m].f0
          have g1 := rg_le0 (vl_ge (s := tS I s o) (unitR_ge o.length i)) (tS I s o)[m].f1
          rcases e with e | e
          · rw [← e]; omega
          · rw [← e]; omega
    intro w h0 h1
    exact key (o.length + (tS I s o).length) w h0 h1 (by omega)
theorem turned_all (h : Good I s o) (hu : AllU I s o) : AllU o.length (tS I s o) ((tB I s o).take I) := by
  intro w h0 h1
  obtain ⟨_, t2, _, _, _⟩ := turn_vl h hu (List.replicate o.length 1) (by simp)
  rcases turn_use h hu w h0 (by omega) with ⟨u, hu', rfl⟩ | q
  · left
    have hl : u < ((tB I s o).take I).length := by rw [List.length_take]; omega
    have := List.getElem_mem hl
    rw [List.getElem_take] at this
    rw [rg_nat (l := tB I s o) (by omega)]
    exact this
  · exact .inr q
/-- Who may be turned. -/
theorem can_yes (h : Good I s o) (hu : AllU I s o) (ho : o ≠ []) : impl_Plan_canTurn.f (I : Int) s o = some true := by
  have h1 := h.inp
  have h2 := h.stp
  have h3 := h.out
  have hop : 0 < o.length := List.length_pos_iff.2 ho
  have hm : mk0 (w64 ((I : Int) + (s.length : Int))) (0 : Int) = some (List.replicate (I + s.length) 0) := by
    rw [zax (by omega)]
    unfold mk0
    rw [if_pos (by omega), show ((I : Int) + (s.length : Int)).toNat = I + s.length by omega]
  have hz : ∀ v : Int, 0 ≤ v → v < ((I + s.length : Nat) : Int) → rg (List.replicate (I + s.length) 0) v = 0 := fun v v0 v1 => by
    unfold rg
    rw [List.getD_eq_getElem?_getD, List.getElem?_replicate]
    split <;> rfl
  obtain ⟨l1, a1, a2, a3⟩ := uses_ge0 (I + s.length) s (List.replicate (I + s.length) 0) 0 0 (by simp) h.form.mem (fun v v0 v1 => by rw [hz v v0 v1]; omega) (by omega)
  obtain ⟨l2, b1, b2, b3⟩ := uses_ge1 (I + s.length) o l1 0 (0 + 2 * s.length) a2 (fun y hy => h.os y hy) (fun v v0 v1 => by
    have := (a3 v v0 v1).1
    rw [hz v v0 v1] at this
    omega) (by omega)
  have hu1 : impl_Plan_uses.f (I : Int) s o = some l2 := by
    unfold impl_Plan_uses.f impl_Plan_many.f
    rw [Option.bind_some, hm, Option.bind_some, a1, Option.bind_some, b1]
    rfl
  unfold impl_Plan_canTurn.f
  rw [if_pos (by omega), hu1, Option.bind_some, contains_eq]
  have hno : (0 : Int) ∉ l2 := fun hx => by
    obtain ⟨v, hv, e⟩ := List.getElem_of_mem hx
    have q := hu (v : Int) (by omega) (by omega)
    have : 1 ≤ rg l2 (v : Int) := by
      rcases q with q | q
      · exact (b3 (v : Int) (by omega) (by omega)).2 q
      · have x1 := (a3 (v : Int) (by omega) (by omega)).2 q
        have x2 := (b3 (v : Int) (by omega) (by omega)).1
        omega
    rw [rg_nat hv, e] at this
    omega
  rw [decide_eq_false hno]
  rfl
end
/-! the draw -/
theorem duUses_ok {I : Nat} {s : List SStep} {o : List Int} (h : Good I s o) : ∃ l, spec_duUses.f (I : Int) s o = some l ∧ l.length = I + s.length := by
  have hf := h.form
  have h1 := h.inp
  have h2 := h.stp
  have hm : mk0 (w64 ((I : Int) + (s.length : Int))) (0 : Int) = some (List.replicate (I + s.length) 0) := by
    rw [zax (by omega)]
    unfold mk0
    rw [if_pos (by omega), show ((I : Int) + (s.length : Int)).toNat = I + s.length by omega]
  obtain ⟨l1, a1, a2, a3, a4⟩ := uses_l0 (I + s.length) s (List.replicate (I + s.length) 0) 0 (by simp) hf.mem
  obtain ⟨l2, b1, b2, b3, b4⟩ := uses_l1 (I + s.length) o l1 0 a3 (fun y hy => by have := h.os y hy; omega)
  refine ⟨l2, ?_, b3⟩
  unfold spec_duUses.f
  rw [hm, Option.bind_some, a2, Option.bind_some, b2]
  rfl
theorem turnable_l0 (ys acc : List Int) (j : Int) (hb : acc.length + ys.length ≤ 1000) : ∃ r, spec_l1Cur_turnable.l0 ys acc j = some r := by
  induction ys generalizing acc j with
  | nil => exact ⟨acc, rfl⟩
  | cons y ys ih =>
    simp only [List.length_cons] at hb
    simp only [spec_l1Cur_turnable.l0]
    by_cases c : y = 0
    · rw [if_pos c, Option.bind_some]
      by_cases d : (acc.length : Int) < 6
      · rw [if_pos (decide_eq_true d), ap_ok (by simp; omega), Option.bind_some]
        exact ih _ _ (by rw [List.length_append, List.length_singleton]; omega)
      · rw [if_neg (by simpa using d)]
        exact ih _ _ (by omega)
    · rw [if_neg c, Option.bind_some, if_neg (by simp)]
      exact ih _ _ (by omega)
theorem turnable_ev {c : List Int} (hc : Bytes c) (hl : c.length ≤ 1048576) (a sd : Int) (ha : Bud a 1300) : ∃ i s o a' sd', Ev (fun k => spec_l1Cur_turnable.f k c a sd) (i, s, o, a', sd') := by
  obtain ⟨i, s, o, a, sd, e1, ls, lo, b1⟩ := drawAny hc hl a sd 3 7 (by omega) 1000 ha
  obtain ⟨b, a2, sd2, e2, b2⟩ := one_ev hc hl (m := 999) b1 sd 4
  have p1 := plGood_ev i s o
  unfold spec_l1Cur_turnable.f
  cases hg : good i s o with
  | false =>
    rw [hg] at p1
    exact ⟨_, _, _, _, _, bind e1 (bind (a := (true, a, sd)) (bind p1 (neg (by simp) (ret _))) (pos rfl (ret _)))⟩
  | true =>
    rw [hg] at p1
    cases b with
    | true => exact ⟨_, _, _, _, _, bind e1 (bind (a := (true, a2, sd2)) (bind p1 (pos rfl (bind0 e2 (ret _)))) (pos rfl (ret _)))⟩
    | false =>
      obtain ⟨I, rfl, h⟩ := good_Good hg
      have hk := kept_good h
      obtain ⟨l, u1, u2⟩ := duUses_ok hk
      have h3 := hk.out
      have h4 := hk.stp
      have h5 := hk.inp
      obtain ⟨r, u3⟩ := turnable_l0 l (kO I s o) 0 (by omega)
      exact ⟨_, _, _, _, _, bind e1 (bind (a := (false, a2, sd2)) (bind p1 (pos rfl (bind0 e2 (ret _)))) (neg (by simp) (bind (a := (kS I s o, kO I s o)) (bind (plUsed_ev h) (bind0 (plKeep_eq h) (ret _))) (bind0 u1 (bind0 u3 (ret _))))))⟩
theorem dturn_l0 : ∀ (n : Nat) (acc : List SStep), acc.length + n ≤ 1000 → ∃ r, Ev (fun k => spec_DrawTurnPlan.l0 k acc (n : Int)) r := by
  intro n
  induction n with
  | zero =>
    intro acc _
    refine ⟨acc, shift ?_⟩
    simp only [spec_DrawTurnPlan.l0]
    exact neg (by omega) (ret _)
  | succ n ih =>
    intro acc hb
    obtain ⟨r, e⟩ := ih (acc ++ [⟨0, (acc.length : Int)⟩]) (by rw [List.length_append, List.length_singleton]; omega)
    refine ⟨r, shift ?_⟩
    simp only [spec_DrawTurnPlan.l0]
    refine pos (by omega) (bind0 (ap_ok (by simp; omega)) ?_)
    rw [zax (by omega), show ((n + 1 : Nat) : Int) - 1 = (n : Int) by omega]
    exact e
theorem drawTurn {c : List Int} (hc : Bytes c) (hl : c.length ≤ 1048576) : ∃ i s o, Ev (fun k => spec_DrawTurnPlan.f k c) (i, s, o) := by
  obtain ⟨b, a, sd, e1, b1⟩ := one_ev hc hl (a := 0) (m := 2000) ⟨by omega, by omega⟩ 0 16
  unfold spec_DrawTurnPlan.f
  cases b with
  | true =>
    obtain ⟨x, a2, sd2, e2, x0, x1, b2⟩ := pick_ev hc hl (m := 1999) b1 sd 2
    obtain ⟨n, hn, hn2⟩ : ∃ n : Nat, w64 (40 - x) = (n : Int) ∧ n ≤ 40 := by
      rw [zax (by omega)]
      exact ⟨(40 - x).toNat, by omega, by omega⟩
    obtain ⟨r, e3⟩ := dturn_l0 n [] (by simp; omega)
    refine ⟨_, _, _, bind0 e1 (pos rfl (bind0 e2 (bind (a := r) ?_ (bind0 (a := 39) rfl (bind0 rfl (ret _))))))⟩
    rw [hn]
    exact e3
  | false =>
    obtain ⟨i, s, o, a', sd', e2⟩ := turnable_ev hc hl a sd (b1.le (by omega))
    exact ⟨_, _, _, bind0 e1 (neg (by simp) (bind e2 (ret _)))⟩
/-! both sides -/
theorem turnG {I : Nat} {s : List SStep} {o : List Int} (h : Good I s o) (hu : AllU I s o) : Ev (fun k => impl_Plan_turned.f k (I : Int) s o) (tS I s o, tB I s o) ∧ Ev (fun k => spec_duTurn.f k (I : Int) s o) (tS I s o, (tB I s o).take I) := by
  have hin := h.inp
  have hs := h.stp
  have ho := h.out
  have hm : mk0 (w64 ((I : Int) + (s.length : Int))) (0 : Int) = some (List.replicate (I + s.length) 0) := by
    rw [zax (by omega)]
    unfold mk0
    rw [if_pos (by omega), show ((I : Int) + (s.length : Int)).toNat = I + s.length by omega]
  obtain ⟨st', bl', f1, f2, f3, f4, f5⟩ := turn_loop h.form hu (I + s.length) (Nat.le_refl _) (List.replicate (I + s.length) 0) [] (by simp) (fun x hx => by rw [List.eq_of_mem_replicate hx]; exact Int.le_refl 0) (by simp; omega)
  have e1 : st' = tS I s o := by unfold tS; rw [← f5]
  have e2 : bl' = tB I s o := by unfold tB; rw [← f5]
  have hct : ct bl' (0 : Int) (I : Int) = some (bl'.take I) := ct_take bl' I (by omega)
  have hctk : ctk bl' (I : Int) = some () := by
    unfold ctk
    rw [if_pos (by omega)]
  have ht : (bl'.take I).length ≤ 1000 := by rw [List.length_take]; omega
  rw [← e1, ← e2]
  constructor
  · unfold impl_Plan_turned.f
    refine bind0 rfl (bind0 rfl (bind0 hm (bind0 rfl (bind (a := (st', bl')) ?_ (bind0 hctk (bind0 rfl (ret _)))))))
    rw [zax (x := (I : Int) + (s.length : Int)) (by omega), zax (by omega), show (I : Int) + (s.length : Int) = ((I + s.length : Nat) : Int) by omega]
    exact f1
  · unfold spec_duTurn.f
    refine bind0 hm (bind (a := (bl', st', [])) ?_ (bind0 hct (bind0 (l1Own_eq _ (by omega)) (ret _))))
    rw [List.length_replicate, zax (by omega)]
    exact f2
theorem turn_yes {I : Nat} {s : List SStep} {o : List Int} (h : Good I s o) (hu : AllU I s o) (hc : impl_Plan_canTurn.f (I : Int) s o = some true) : Ev (fun k => impl_TurnPlan.f k (I : Int) s o) (if good (o.length : Int) (tS I s o) ((tB I s o).take I) = true then ((o.length : Int), tS I s o, tB I s o, I, true) else (0, [], [], 0, false)) ∧ Ev (fun k => impl_TurnedCost.f k (I : Int) s o) (((tS I s o).length : Int), true) := by
  have p2 := isPlan_ev (I : Int) s o
  rw [good_iff.2 h] at p2
  obtain ⟨g1, _⟩ := turnG h hu
  have q2 := isPlan_ev (o.length : Int) (tS I s o) ((tB I s o).take I)
  have hz : ((I : Int)).toNat = I := by omega
  constructor
  · unfold impl_TurnPlan.f
    refine bind (a := false) (bind p2 (pos rfl (bind0 hc (ret _)))) (neg (by simp) (bind g1 ?_))
    unfold impl_told_2.f
    rw [hz]
    cases hgg : good (o.length : Int) (tS I s o) ((tB I s o).take I) with
    | true =>
      rw [hgg] at q2
      rw [if_pos rfl]
      exact bind (bind q2 (pos rfl (ret _))) (ret _)
    | false =>
      rw [hgg] at q2
      rw [if_neg (by simp)]
      exact bind (bind q2 (neg (by simp) (ret _))) (ret _)
  · unfold impl_TurnedCost.f
    exact bind p2 (pos rfl (bind0 hc (pos rfl (bind g1 (ret _)))))
theorem sturn_yes {I : Nat} {s : List SStep} {o : List Int} (h : Good I s o) (hu : AllU I s o) (hc : spec_duCan.f (I : Int) s o = some true) : Ev (fun k => spec_TurnPlan.f k (I : Int) s o) (if good (o.length : Int) (tS I s o) ((tB I s o).take I) = true then ((o.length : Int), tS I s o, (tB I s o).take I, true) else (0, [], [], false)) := by
  have p2 := plGood_ev (I : Int) s o
  rw [good_iff.2 h] at p2
  obtain ⟨_, g1⟩ := turnG h hu
  have q2 := plGood_ev (o.length : Int) (tS I s o) ((tB I s o).take I)
  unfold spec_TurnPlan.f
  refine bind (a := false) (bind p2 (pos rfl (bind0 hc (ret _)))) (neg (by simp) (bind g1 ?_))
  unfold spec_plIf.f
  cases hgg : good (o.length : Int) (tS I s o) ((tB I s o).take I) with
  | true =>
    rw [hgg] at q2
    rw [if_pos rfl]
    exact bind (bind q2 (pos rfl (ret _))) (ret _)
  | false =>
    rw [hgg] at q2
    rw [if_neg (by simp)]
    exact bind (bind q2 (neg (by simp) (ret _))) (ret _)
/-! rows and columns -/
theorem tr_l1 (k : Nat) (rows : List (List Int)) (acc : List Int) (j : Int) (h : ∀ r ∈ rows, k < r.length) (hb : acc.length + rows.length ≤ 1000) : impl_TransposeRows.l1 (k : Int) rows acc j = some (acc ++ rows.map fun r => rg r (k : Int)) := by
  induction rows generalizing acc j with
  | nil => simp [impl_TransposeRows.l1]
  | cons r rows ih =>
    have q := h r List.mem_cons_self
    simp only [List.length_cons] at hb
    simp only [impl_TransposeRows.l1]
    rw [rg_gt (by omega) (by omega), Option.bind_some, ap_ok (by simp; omega), Option.bind_some, ih _ _ (fun z hz => h z (List.mem_cons_of_mem _ hz)) (by rw [List.length_append, List.length_singleton]; omega)]
    simp
theorem tr_l0 {I : Nat} (rows : List (List Int)) (h : ∀ r ∈ rows, r.length = I) (hr : rows.length ≤ 100) (hI : I ≤ 100) (ys : List Int) : ∀ (j : Nat) (acc : List (List Int)), j + ys.length = I → acc.length ≤ j → impl_TransposeRows.l0 rows ys acc (j : Int) = some (acc ++ (List.range' j ys.length).map fun (k : Nat) => rows.map fun r => rg r (k : Int)) := by
  induction ys with
  | nil => intro j acc _ _; simp [impl_TransposeRows.l0]
  | cons y ys ih =>
    intro j acc hj ha
    simp only [List.length_cons] at hj
    simp only [impl_TransposeRows.l0]
    rw [tr_l1 j rows [] 0 (fun r hr => by rw [h r hr]; omega) (by simp; omega), Option.bind_some, ap_ok (by simp; omega), Option.bind_some, show (j : Int) + 1 = ((j + 1 : Nat) : Int) by omega, ih (j + 1) _ (by omega) (by simp; omega)]
    rw [List.length_cons, List.range'_succ]
    simp
theorem noIx_l0 {I : Nat} (R : List (List Int)) (h0 : gt R 0 = some (R.getD 0 [])) (h1 : (R.getD 0 []).length = I) (ys : List (List Int)) (j : Int) (h : ∀ r ∈ ys, r.length = I) : slices_IndexFunc_int_int_3.l0 R ys j = some (Sum.inr ()) := by
  induction ys generalizing j with
  | nil => rfl
  | cons y ys ih =>
    have q := h y List.mem_cons_self
    simp only [slices_IndexFunc_int_int_3.l0, impl_TransposeRows_1.f]
    rw [h0, Option.bind_some, Option.bind_some, decide_eq_false (by rw [q, h1]; simp), if_neg (by simp)]
    exact ih _ fun z hz => h z (List.mem_cons_of_mem _ hz)
theorem transp_eq {I : Nat} (rows : List (List Int)) (hn : 1 ≤ rows.length ∧ rows.length ≤ 40) (hI : I ≤ 40) (h : ∀ r ∈ rows, r.length = I) : impl_TransposeRows.f rows = some ((List.range I).map fun (k : Nat) => rows.map fun r => rg r (k : Int), true) := by
  have h0 : gt rows 0 = some (rows.getD 0 []) := by
    have := gt_nat (xs := rows) (j := 0) (by omega)
    rw [show ((0 : Nat) : Int) = 0 from rfl] at this
    rw [this, List.getD_eq_getElem?_getD, List.getElem?_eq_getElem (by omega)]
    rfl
  have h1 : (rows.getD 0 []).length = I := by
    rw [List.getD_eq_getElem?_getD, List.getElem?_eq_getElem (show 0 < rows.length by omega)]
    exact h _ (List.getElem_mem _)
  have hc : slices_ContainsFunc_int_int_3.f rows rows = some false := by
    unfold slices_ContainsFunc_int_int_3.f slices_IndexFunc_int_int_3.f
    rw [noIx_l0 rows h0 h1 rows 0 h]
    rfl
  unfold impl_TransposeRows.f
  rw [in_eq, Option.bind_some, if_pos (decide_eq_true (by omega)), h0, Option.bind_some, if_neg (by omega), hc, Option.bind_some, if_neg (by simp), Option.bind_some]
  have := tr_l0 rows h (by omega) (by omega) (rows.getD 0 []) 0 [] (by omega) (by simp)
  rw [show ((0 : Nat) : Int) = 0 from rfl] at this
  rw [this, h1, List.nil_append, ← List.range_eq_range']
  rfl
theorem pSameRows_refl (l : List (List Int)) : laws_pSameRows.f l l = some true := by
  have key : ∀ (d j : Nat), j + d = l.length → laws_pSameRows.l0 l (l.drop j) (j : Int) = some (.inr ()) := by
    intro d
    induction d with
    | zero =>
      intro j hj
      rw [List.drop_eq_nil_of_le (by omega)]
      rfl
    | succ d ih =>
      intro j hj
      rw [List.drop_eq_getElem_cons (show j < l.length by omega)]
      simp only [laws_pSameRows.l0]
      rw [gt_nat (show j < l.length by omega), Option.bind_some, pSameInts_refl, Option.bind_some, if_pos rfl, show (j : Int) + 1 = ((j + 1 : Nat) : Int) by omega]
      exact ih (j + 1) (by omega)
  unfold laws_pSameRows.f
  rw [if_neg (by simp)]
  have := key l.length 0 (by omega)
  rw [List.drop_zero] at this
  rw [show (0 : Int) = ((0 : Nat) : Int) from rfl, this]
  rfl
theorem FnTurnedPlans : laws_FnTurnedPlans.Pure := by
  intro l0 l1 hl0 hb0 hl1 hb1
  refine some_of ?_
  unfold laws_FnTurnedPlans.f
  obtain ⟨b, e0, hb⟩ := big_eq l0 l1 hl0 hl1
  refine bind0 e0 ?_
  cases b with
  | true => exact pos rfl (ret _)
  | false =>
    refine neg (by simp) ?_
    obtain ⟨i, s, o, e1⟩ := drawTurn (byte_in hb0) (hb rfl).1
    refine bind e1 ?_
    have p1 := plGood_ev i s o
    have p2 := isPlan_ev i s o
    cases hg : good i s o with
    | false =>
      rw [hg] at p1 p2
      have t1 : Ev (fun k => impl_TurnPlan.f k i s o) (0, [], [], 0, false) := by
        unfold impl_TurnPlan.f
        exact bind (a := true) (bind p2 (neg (by simp) (ret _))) (pos rfl (ret _))
      have t2 : Ev (fun k => spec_TurnPlan.f k i s o) (0, [], [], false) := by
        unfold spec_TurnPlan.f
        exact bind (a := true) (bind p1 (neg (by simp) (ret _))) (pos rfl (ret _))
      have t3 : Ev (fun k => impl_CanTurn.f k i s o) (false, false) := by
        unfold impl_CanTurn.f
        exact bind p2 (neg (by simp) (ret _))
      have t4 : Ev (fun k => impl_TurnedCost.f k i s o) (0, false) := by
        unfold impl_TurnedCost.f
        exact bind p2 (neg (by simp) (ret _))
      exact bind t1 (bind t2 (neg (by simp) (bind0 (pSamePlan_refl _ _ _) (pos rfl (bind t3 (bind t4 (bind (a := true) (neg (by simp) (ret _)) (pos rfl (neg (by simp) (ret _))))))))))
    | true =>
      rw [hg] at p1 p2
      obtain ⟨I, rfl, h⟩ := good_Good hg
      have h1 := h.inp
      have h2 := h.stp
      have h3 := h.out
      obtain ⟨b, c1, c2, c3⟩ := can_both h.form
      have t3 : Ev (fun k => impl_CanTurn.f k (I : Int) s o) (b, true) := by
        unfold impl_CanTurn.f
        exact bind p2 (pos rfl (bind0 c1 (ret _)))
      cases b with
      | false =>
        have t1 : Ev (fun k => impl_TurnPlan.f k (I : Int) s o) (0, [], [], 0, false) := by
          unfold impl_TurnPlan.f
          exact bind (a := true) (bind p2 (pos rfl (bind0 c1 (ret _)))) (pos rfl (ret _))
        have t2 : Ev (fun k => spec_TurnPlan.f k (I : Int) s o) (0, [], [], false) := by
          unfold spec_TurnPlan.f
          exact bind (a := true) (bind p1 (pos rfl (bind0 c2 (ret _)))) (pos rfl (ret _))
        have t4 : Ev (fun k => impl_TurnedCost.f k (I : Int) s o) (0, false) := by
          unfold impl_TurnedCost.f
          exact bind p2 (pos rfl (bind0 c1 (neg (by simp) (ret _))))
        exact bind t1 (bind t2 (neg (by simp) (bind0 (pSamePlan_refl _ _ _) (pos rfl (bind t3 (bind t4 (bind (a := true) (pos rfl (ret _)) (pos rfl (neg (by simp) (ret _))))))))))
      | true =>
        have hu : AllU I s o := c3 rfl
        have ho : o ≠ [] := fun e => by
          subst e
          unfold impl_Plan_canTurn.f at c1
          rw [if_neg (by simp)] at c1
          cases c1
        have hop : 0 < o.length := List.length_pos_iff.2 ho
        obtain ⟨t1, t4⟩ := turn_yes h hu c1
        have t2 := sturn_yes h hu c2
        have hv := turn_vl h hu (List.replicate o.length 1) (by simp)
        have hcost := hv.2.2.1
        have hw : w64 (w64 ((s.length : Int) + (o.length : Int)) - (I : Int)) = ((tS I s o).length : Int) := by
          rw [zax (x := (s.length : Int) + (o.length : Int)) (by omega), zax (by omega)]
          omega
        by_cases hle : (tS I s o).length ≤ 40
        · have hT := turned_good h hu ho hle
          have hgT : good (o.length : Int) (tS I s o) ((tB I s o).take I) = true := good_iff.2 hT
          rw [hgT, if_pos rfl] at t1 t2
          refine bind t1 (bind t2 (neg (by simp) (bind0 (pSamePlan_refl _ _ _) (pos rfl (bind t3 (bind t4 (bind (a := false) (pos rfl (ret _)) (neg (by simp) (pos rfl (neg (by rw [hw]; simp) (neg (by rw [decide_eq_true (by omega)]; simp) (pos rfl ?_))))))))))))
          have htl : ((tB I s o).take I).length = I := by rw [List.length_take]; omega
          have hte : ∀ u : Nat, u < I → rg ((tB I s o).take I) (u : Int) = rg (tB I s o) (u : Int) := fun u hu' => by
            rw [rg_nat (by omega), List.getElem_take, rg_nat (l := tB I s o) (by omega)]
          -- rows and columns
          have hrow : ∀ r ∈ pw I s o, r.length = I := fun r hr => by
            obtain ⟨v, hv, rfl⟩ := List.mem_map.1 hr
            exact (good_row h (h.os v hv).1 (h.os v hv).2).1
          have htr := transp_eq (I := I) (pw I s o) (by rw [pw_len]; omega) (by omega) hrow
          have hrows : (List.range I).map (fun (k : Nat) => (pw I s o).map fun r => rg r (k : Int)) = pw o.length (tS I s o) ((tB I s o).take I) := by
            refine List.ext_getElem (by rw [pw_len, htl]; simp) fun u a1 a2 => ?_
            have hu' : u < I := by simpa using a1
            have e1 : (pw o.length (tS I s o) ((tB I s o).take I))[u] = (exps o.length (tS I s o)).getD (rg (tB I s o) (u : Int)).toNat [] := by
              rw [← hte u hu', rg_nat (by omega)]
              simp [pw]
            have q := hv.2.2.2.1 (u : Int) (by omega) (by omega)
            obtain ⟨r1, r2⟩ := good_row hT q.1 q.2
            rw [e1, List.getElem_map, List.getElem_range]
            refine row_ext (n := o.length) (by simp [pw]) r1 fun i hi => ?_
            rw [r2 i hi, turn_unit h hu hi hu']
            have qo := h.os o[i] (List.getElem_mem hi)
            rw [rg_nat (by simpa [pw] using hi), rg_nat hi, List.getElem_map, ← (good_row h qo.1 qo.2).2 u hu']
            simp [pw]
          rw [hrows] at htr
          -- turned again
          have hu2 := turned_all h hu
          have hne2 : (tB I s o).take I ≠ [] := fun e => by rw [e] at htl; simp at htl; omega
          have cy := can_yes hT hu2 hne2
          obtain ⟨t5, _⟩ := turn_yes hT hu2 cy
          have hv2 := turn_vl hT hu2 (List.replicate ((tB I s o).take I).length 1) (by simp)
          have hcost2 := hv2.2.2.1
          rw [htl] at hcost2
          have hlen2 : ((tS o.length (tS I s o) ((tB I s o).take I)).length : Int) = (s.length : Int) := by omega
          have hT2 := turned_good hT hu2 hne2 (by omega)
          rw [good_iff.2 hT2, if_pos rfl] at t5
          rw [htl] at t5
          have hT2' : Good I (tS o.length (tS I s o) ((tB I s o).take I)) ((tB o.length (tS I s o) ((tB I s o).take I)).take o.length) := by
            have := hT2
            rw [htl] at this
            exact this
          have hl3 : ((tB o.length (tS I s o) ((tB I s o).take I)).take o.length).length = o.length := by rw [List.length_take, hv2.2.1]; omega
          have hsame := same_yes hT2' h hl3 fun i hi j hj => by
            rw [hl3] at hi
            have e1 : rg ((tB o.length (tS I s o) ((tB I s o).take I)).take o.length) (i : Int) = rg (tB o.length (tS I s o) ((tB I s o).take I)) (i : Int) := by
              rw [rg_nat (by omega), List.getElem_take, rg_nat (l := tB o.length (tS I s o) ((tB I s o).take I)) (by rw [hv2.2.1]; omega)]
            have e2 := turn_unit hT hu2 (i := j) (by omega) (u := i) hi
            rw [htl] at e2
            rw [e1, e2, hte j hj, turn_unit h hu hi hj]
          refine bind (outEx_ev h) (bind (outEx_ev hT) (bind0 htr (bind t5 (bind hsame (pos rfl (pos rfl (pos rfl (pos rfl (pos rfl (pos rfl (bind0 (pSameRows_refl _) (pos rfl (pos rfl ?_)))))))))))))
          rw [decide_eq_true hlen2]
          exact ret _
        · have hgT : good (o.length : Int) (tS I s o) ((tB I s o).take I) = false := good_not fun g => hle g.stp
          rw [hgT, if_neg (by simp)] at t1 t2
          refine bind t1 (bind t2 (neg (by simp) (bind0 (pSamePlan_refl _ _ _) (pos rfl (bind t3 (bind t4 (bind (a := false) (pos rfl (ret _)) (neg (by simp) (pos rfl (neg (by rw [hw]; simp) (neg (by rw [decide_eq_false (by omega)]; simp) (neg (by simp) (ret _)))))))))))))
end Go.Proofs.Ytoegbcbdiggbjaa.Pure
