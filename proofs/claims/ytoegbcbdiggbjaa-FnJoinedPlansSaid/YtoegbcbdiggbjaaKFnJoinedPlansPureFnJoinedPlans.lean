/- Pure: joined plans; the law. -/
import Derived.Test.YtoegbcbdiggbjaaKFnJoinedPlansPused
import Derived.Test.YtoegbcbdiggbjaaKFnJoinedPlansPpw
import Derived.Test.YtoegbcbdiggbjaaKFnJoinedPlansPdraw
set_option linter.unusedVariables false
set_option linter.unusedSimpArgs false
namespace Go.Proofs.Ytoegbcbdiggbjaa.Pure
open Go.RowKit Go.Proofs.Ytoegbcbdiggbjaa.E Go.Proofs.Ytoegbcbdiggbjaa.JP Go.Proofs.Ytoegbcbdiggbjaa.Frame Go.Proofs.YtoegbcbdiggbjaaW.PrintLast Go.Proofs.YtoegbcbdiggbjaaW.PrintMore
open Go.Proofs.YtoegbcbdiggbjaaW.PrintWords hiding mn mx
/-- The steps of both plans, and the places of the second one's values. -/
def jS (I : Nat) (s t : List SStep) : List SStep := (bh (I : Int) t (iota I) s).2
def jP (I : Nat) (s t : List SStep) : List Int := (bh (I : Int) t (iota I) s).1
def jO (I : Nat) (s t : List SStep) (o u : List Int) : List Int := o ++ u.map (rg (jP I s t))
theorem iota_len (n : Nat) : (iota n).length = n := by simp [iota]
theorem iota_rg {n : Nat} {v : Int} (h0 : 0 ≤ v) (h1 : v < (n : Int)) : rg (iota n) v = v := by
  obtain ⟨j, rfl⟩ := Int.eq_ofNat_of_zero_le h0
  rw [rg_nat (by rw [iota_len]; omega)]
  simp [iota]
section
variable {I : Nat} {s t : List SStep} {o u : List Int}
theorem jS_len : (jS I s t).length = s.length + t.length ∧ (jP I s t).length = I + t.length := by
  have := bh_len (I : Int) t (iota I) s
  rw [iota_len] at this
  exact ⟨this.2, this.1⟩
theorem jS_vl (hs : Ok I s) (ht : Ok I t) (x : List Int) (hx : x.length = I) : Ok I (jS I s t) ∧ ∀ v : Int, 0 ≤ v → v < ((I + t.length : Nat) : Int) → (0 ≤ rg (jP I s t) v ∧ rg (jP I s t) v < ((I + (jS I s t).length : Nat) : Int)) ∧ rg (vl (jS I s t) x) (rg (jP I s t) v) = rg (vl t x) v := by
  have := bh_vl x hx t (iota I) s x (by rw [iota_len, hx]) (by rw [iota_len]; exact ht) hs (fun v h0 h1 => by
    rw [iota_len] at h1
    rw [iota_rg h0 h1]
    exact ⟨⟨h0, by omega⟩, vl_pre _ _ h0 (by omega)⟩)
  rw [iota_len] at this
  exact this
theorem join_ev (h : Good I s o) (g : Good I t u) : Ev (fun k => impl_JoinPlans.f k (I : Int) s o (I : Int) t u) (toldP (I : Int) (jS I s t) (jO I s t o u)) ∧ Ev (fun k => spec_JoinPlans.f k (I : Int) s o (I : Int) t u) (toldP (I : Int) (jS I s t) (jO I s t o u)) := by
  have h1 := h.inp
  have h2 := h.stp
  have h3 := h.out
  have g2 := g.stp
  have g3 := g.out
  have p1 := plGood_ev (I : Int) s o
  have p2 := isPlan_ev (I : Int) s o
  have q1 := plGood_ev (I : Int) t u
  have q2 := isPlan_ev (I : Int) t u
  rw [good_iff.2 h] at p1 p2
  rw [good_iff.2 g] at q1 q2
  have hd : decide ((I : Int) ≠ (I : Int)) = false := decide_eq_false (fun q => q rfl)
  have hok : Ok (iota I).length t := by rw [iota_len]; exact g.ok
  have hl := iota_len I
  have hj := (jS_len (I := I) (s := s) (t := t)).2
  unfold impl_JoinPlans.f spec_JoinPlans.f impl_clonePlan.f
  constructor
  · refine bind (a := false) (bind p2 (pos rfl (bind q2 (pos rfl (now (by rw [hd])))))) (neg (by simp) ?_)
    rw [cloneS_eq _ (by omega), cloneI_eq _ (by omega)]
    refine bind0 rfl (bind (a := (jS I s t, jO I s t o u)) ?_ (bind (told_ev _ _ _) (ret _)))
    refine bind0 (firsts_eq I (by omega)) (bind0 (behind_eq (I : Int) (by omega) s o (I : Int) t u (iota I) hok (by omega)) (bind0 (ren_eq _ _ (fun y hy => ?_) (by omega)) (bind0 (ap_ok (by simp; omega)) (ret _))))
    show 0 ≤ y ∧ y < ((jP I s t).length : Int)
    rw [hj]
    exact g.os y hy
  · refine bind (a := false) (bind p1 (pos rfl (bind q1 (pos rfl (now (by rw [hd])))))) (neg (by simp) ?_)
    refine bind (upTo_ev I (by omega)) (bind0 (then_eq (I : Int) (by omega) s (I : Int) t u (iota I) hok (by omega) (fun y hy => ?_) (by omega)) (bind0 (l1Own_eq _ (by omega)) (bind0 (ap_ok (by simp; omega)) (bind (plIf_ev _ _ _) (ret _)))))
    rw [hl]
    exact g.os y hy
theorem join_no {i i' : Int} (h : good i s o = false ∨ good i' t u = false ∨ i ≠ i') : Ev (fun k => impl_JoinPlans.f k i s o i' t u) (0, [], [], false) ∧ Ev (fun k => spec_JoinPlans.f k i s o i' t u) (0, [], [], false) := by
  have p1 := plGood_ev i s o
  have p2 := isPlan_ev i s o
  have q1 := plGood_ev i' t u
  have q2 := isPlan_ev i' t u
  unfold impl_JoinPlans.f spec_JoinPlans.f
  cases hg : good i s o with
  | false =>
    rw [hg] at p1 p2
    exact ⟨bind (a := true) (bind p2 (neg (by simp) (ret _))) (pos rfl (ret _)), bind (a := true) (bind p1 (neg (by simp) (ret _))) (pos rfl (ret _))⟩
  | true =>
    rw [hg] at p1 p2
    cases hg' : good i' t u with
    | false =>
      rw [hg'] at q1 q2
      exact ⟨bind (a := true) (bind p2 (pos rfl (bind q2 (neg (by simp) (ret _))))) (pos rfl (ret _)), bind (a := true) (bind p1 (pos rfl (bind q1 (neg (by simp) (ret _))))) (pos rfl (ret _))⟩
    | true =>
      rw [hg'] at q1 q2
      have hd : decide (i ≠ i') = true := decide_eq_true (by
        rcases h with h | h | h
        · rw [hg] at h; cases h
        · rw [hg'] at h; cases h
        · exact h)
      exact ⟨bind (a := true) (bind p2 (pos rfl (bind q2 (pos rfl (now (by rw [hd])))))) (pos rfl (ret _)), bind (a := true) (bind p1 (pos rfl (bind q1 (pos rfl (now (by rw [hd])))))) (pos rfl (ret _))⟩
end
/-! picked outputs -/
theorem pick_l0 (i : Int) (s : List SStep) (o : List Int) (ho : o.length ≤ 1000) (ys : List Int) (j : Int) (h : ∀ y ∈ ys, 0 ≤ y ∧ y < (o.length : Int)) : slices_IndexFunc_int_int_3.l0 i s o ys j = some (Sum.inr ()) := by
  induction ys generalizing j with
  | nil => rfl
  | cons y ys ih =>
    have q := h y List.mem_cons_self
    simp only [slices_IndexFunc_int_int_3.l0, impl_PickOutputs_1.f]
    rw [in_eq, Option.bind_some, Option.bind_some, w64_id (by omega), decide_eq_true (by omega), if_neg (by simp)]
    exact ih _ fun z hz => h z (List.mem_cons_of_mem _ hz)
theorem pickOut_ev {I : Nat} {s : List SStep} {o : List Int} (h : Good I s o) (ys : List Int) (hy : ∀ y ∈ ys, 0 ≤ y ∧ y < (o.length : Int)) (hl : ys.length ≤ 1000) : Ev (fun k => impl_PickOutputs.f k (I : Int) s o ys) (toldP (I : Int) s (ys.map (rg o))) := by
  have h2 := h.stp
  have h3 := h.out
  have p2 := isPlan_ev (I : Int) s o
  rw [good_iff.2 h] at p2
  have hc : slices_ContainsFunc_int_int_3.f ys (I : Int) s o = some false := by
    unfold slices_ContainsFunc_int_int_3.f slices_IndexFunc_int_int_3.f
    rw [pick_l0 (I : Int) s o (by omega) ys 0 hy]
    rfl
  unfold impl_PickOutputs.f impl_clonePlan.f
  refine bind (a := false) (bind p2 (pos rfl (bind0 hc (ret _)))) (neg (by simp) ?_)
  rw [cloneS_eq _ (by omega), cloneI_eq _ (by omega)]
  exact bind0 rfl (bind0 (ren_eq _ _ hy hl) (bind (told_ev _ _ _) (ret _)))
theorem Good.outs {I : Nat} {s : List SStep} {o p : List Int} (h : Good I s o) (hl : p.length ≤ 6) (hp : ∀ y ∈ p, 0 ≤ y ∧ y < ((I + s.length : Nat) : Int)) : Good I s p := ⟨h.inp, h.stp, hl, h.ok, hp, h.le⟩
/-- Numbers from j on. -/
def sq_ (j : Nat) : Nat → List Int
  | 0 => []
  | n + 1 => (j : Int) :: sq_ (j + 1) n
theorem sq_len_ (j n : Nat) : (sq_ j n).length = n := by
  induction n generalizing j with
  | zero => rfl
  | succ n ih => simp [sq_, ih]
theorem sq_mem (j n : Nat) : ∀ y ∈ sq_ j n, (j : Int) ≤ y ∧ y < ((j + n : Nat) : Int) := by
  induction n generalizing j with
  | zero => exact fun y hy => nomatch hy
  | succ n ih =>
    intro y hy
    rcases List.mem_cons.1 hy with rfl | hy
    · omega
    · have := ih (j + 1) y hy
      omega
theorem sq_map (l : List Int) (j n : Nat) (h : j + n ≤ l.length) : (sq_ j n).map (rg l) = (l.drop j).take n := by
  induction n generalizing j with
  | zero => simp [sq_]
  | succ n ih =>
    simp only [sq_, List.map_cons]
    rw [ih (j + 1) (by omega), rg_nat (by omega), List.drop_eq_getElem_cons (show j < l.length by omega), List.take_succ_cons]
theorem fj_l0a (L : List Int) (ys zs a b : List Int) (j : Nat) (h : j + ys.length ≤ L.length) (hb : a.length + ys.length ≤ 1000) : laws_FnJoinedPlans.l0 L (ys ++ zs) a b (j : Int) = laws_FnJoinedPlans.l0 L zs (a ++ sq_ j ys.length) b ((j + ys.length : Nat) : Int) := by
  induction ys generalizing a j with
  | nil => simp [sq_]
  | cons y ys ih =>
    simp only [List.length_cons] at h hb
    simp only [List.cons_append, laws_FnJoinedPlans.l0]
    rw [if_pos (by omega), ap_ok (by simp; omega), Option.bind_some, show (j : Int) + 1 = ((j + 1 : Nat) : Int) by omega, ih _ (j + 1) (by omega) (by rw [List.length_append, List.length_singleton]; omega)]
    simp only [List.length_cons, sq_, List.append_assoc, List.singleton_append]
    rw [show j + 1 + ys.length = j + (ys.length + 1) by omega]
theorem fj_l0b (L : List Int) (ys a b : List Int) (j : Nat) (h : L.length ≤ j) (hb : b.length + ys.length ≤ 1000) : laws_FnJoinedPlans.l0 L ys a b (j : Int) = some (a, b ++ sq_ j ys.length) := by
  induction ys generalizing b j with
  | nil => simp [laws_FnJoinedPlans.l0, sq_]
  | cons y ys ih =>
    simp only [List.length_cons] at hb
    simp only [laws_FnJoinedPlans.l0]
    rw [if_neg (by omega), ap_ok (by simp; omega), Option.bind_some, show (j : Int) + 1 = ((j + 1 : Nat) : Int) by omega, ih _ (j + 1) (by omega) (by rw [List.length_append, List.length_singleton]; omega)]
    simp [sq_]
theorem drawJoin {c : List Int} (hc : Bytes c) (hl : c.length ≤ 1048576) : ∃ i s o i' t u, Ev (fun k => spec_DrawJoinPlans.f k c) (i, s, o, i', t, u) := by
  obtain ⟨i, s, o, a, sd, e1, _, _, b1⟩ := drawAny hc hl 0 0 2 7 (by omega) 1000 ⟨by omega, by omega⟩
  obtain ⟨i', t, u, a', sd', e2, _, _, b2⟩ := drawAny hc hl a sd 2 7 (by omega) 100 (b1.le (by omega))
  unfold spec_DrawJoinPlans.f
  exact ⟨_, _, _, _, _, _, bind e1 (bind e2 (ret _))⟩
theorem FnJoinedPlans : laws_FnJoinedPlans.Pure := by
  intro l0 l1 hl0 hb0 hl1 hb1
  refine some_of ?_
  unfold laws_FnJoinedPlans.f
  obtain ⟨b, e0, hb⟩ := big_eq l0 l1 hl0 hl1
  refine bind0 e0 ?_
  cases b with
  | true => exact pos rfl (ret _)
  | false =>
    refine neg (by simp) ?_
    obtain ⟨i, s, o, i', t, u, e1⟩ := drawJoin (byte_in hb0) (hb rfl).1
    refine bind e1 ?_
    by_cases hn : good i s o = false ∨ good i' t u = false ∨ i ≠ i'
    · obtain ⟨f1, f2⟩ := join_no hn
      exact bind f1 (bind f2 (neg (by simp) (bind0 (pSamePlan_refl _ _ _) (pos rfl (neg (by simp) (ret _))))))
    · have hg1 : good i s o = true := by
        cases c : good i s o with
        | true => rfl
        | false => exact absurd (.inl c) hn
      have hg2 : good i' t u = true := by
        cases c : good i' t u with
        | true => rfl
        | false => exact absurd (.inr (.inl c)) hn
      have hii : i = i' := Classical.byContradiction fun c => hn (.inr (.inr c))
      obtain ⟨I, rfl, h⟩ := good_Good hg1
      subst hii
      have g := good_iff.1 hg2
      obtain ⟨f1, f2⟩ := join_ev h g
      unfold toldP at f1 f2
      cases hj : good (I : Int) (jS I s t) (jO I s t o u) with
      | false =>
        rw [hj, if_neg (by simp)] at f1 f2
        exact bind f1 (bind f2 (neg (by simp) (bind0 (pSamePlan_refl _ _ _) (pos rfl (neg (by simp) (ret _))))))
      | true =>
        rw [hj, if_pos rfl] at f1 f2
        have hJ := good_iff.1 hj
        have h3 := h.out
        have g3 := g.out
        have hlen := (jS_len (I := I) (s := s) (t := t)).1
        obtain ⟨t', ht'⟩ := bh_pre (I : Int) t (iota I) s
        have hjs : jS I s t = s ++ t' := ht'
        have hlo : (jO I s t o u).length = o.length + u.length := by simp [jO]
        refine bind f1 (bind f2 (neg (by simp) (bind0 (pSamePlan_refl _ _ _) (pos rfl (pos rfl ?_)))))
        -- the numbers of the outputs
        have el : laws_FnJoinedPlans.l0 o (jO I s t o u) [] [] 0 = some (sq_ 0 o.length, sq_ o.length u.length) := by
          have a := fj_l0a o o (u.map (rg (jP I s t))) [] [] 0 (by omega) (by simp; omega)
          rw [show ((0 : Nat) : Int) = 0 from rfl, Nat.zero_add] at a
          unfold jO
          rw [a, fj_l0b o _ _ [] o.length (Nat.le_refl _) (by simp; omega), List.length_map]
          rfl
        refine bind0 el ?_
        have m1 := sq_map (jO I s t o u) 0 o.length (by omega)
        have m2 := sq_map (jO I s t o u) o.length u.length (by omega)
        have m1' : (sq_ 0 o.length).map (rg (jO I s t o u)) = o := by
          rw [m1, List.drop_zero]
          simp [jO]
        have m2' : (sq_ o.length u.length).map (rg (jO I s t o u)) = u.map (rg (jP I s t)) := by
          rw [m2]
          unfold jO
          rw [List.drop_left, List.take_of_length_le (by simp)]
        have c1 := pickOut_ev hJ (sq_ 0 o.length) (fun y hy => by have := sq_mem _ _ y hy; omega) (by rw [sq_len_]; omega)
        have c2 := pickOut_ev hJ (sq_ o.length u.length) (fun y hy => by have := sq_mem _ _ y hy; omega) (by rw [sq_len_]; omega)
        have hvl := fun (j : Nat) => jS_vl h.ok g.ok (unitR I j) (unitR_len I j)
        have hF : Good I (jS I s t) o := hJ.outs h3 fun y hy => by have := h.os y hy; omega
        have hS : Good I (jS I s t) (u.map (rg (jP I s t))) := hJ.outs (by simpa using g3) fun y hy => by
          obtain ⟨v, hv, rfl⟩ := List.mem_map.1 hy
          have q := g.os v hv
          exact ((hvl 0).2 v q.1 q.2).1
        rw [m1'] at c1
        rw [m2'] at c2
        unfold toldP at c1 c2
        rw [good_iff.2 hF, if_pos rfl] at c1
        rw [good_iff.2 hS, if_pos rfl] at c2
        have s1 := same_yes hF h rfl fun i hi j hj => by
          have q := h.os o[i] (List.getElem_mem hi)
          rw [rg_nat hi, hjs, vl_append, vl_pre _ _ q.1 (by rw [vl_len, unitR_len]; exact q.2)]
        have s2 := same_yes hS g (by simp) fun i hi j hj => by
          rw [List.length_map] at hi
          have q := g.os u[i] (List.getElem_mem hi)
          rw [rg_nat (by simpa using hi), rg_nat hi, List.getElem_map]
          exact ((hvl j).2 _ q.1 q.2).2
        have t1 := trim_ev hF
        have t2 := trim_ev h
        have hus : us I (s ++ t') o = us I s o := funext fun v => us_app (fun v hv => (h.os v hv).2) v
        have hk : kS I (jS I s t) o = kS I s o ∧ kO I (jS I s t) o = kO I s o := by
          unfold kS kO
          rw [hjs, hus]
          exact ⟨ts_none fun v v0 v1 => us_lt h.ok (fun v hv => (h.os v hv).2) v0, rfl⟩
        rw [hk.1, hk.2] at t1
        exact bind c1 (bind c2 (bind s1 (bind s2 (bind t1 (bind t2 (pos rfl (pos rfl (pos rfl (pos rfl (pos rfl (pos rfl (pos rfl (pos rfl (bind0 (pSamePlan_refl _ _ _) (ret _)))))))))))))))
end Go.Proofs.Ytoegbcbdiggbjaa.Pure
