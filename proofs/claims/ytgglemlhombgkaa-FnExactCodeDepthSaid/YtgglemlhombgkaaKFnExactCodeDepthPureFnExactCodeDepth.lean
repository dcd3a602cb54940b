/- The law of CodeDepth in plain Lean: the program's answer is the reference's, for every code. -/
import Derived.Test.YtgglemlhombgkaaKFnExactCodeDepthCode8
import Derived.Test.YtgglemlhombgkaaKFnExactCodeDepthQ0
import Derived.Test.YtgglemlhombgkaaKFnExactCodeDepthQ1
import Derived.Test.YtgglemlhombgkaaKFnExactCodeDepthQ4
import Derived.Test.YtgglemlhombgkaaKFnExactCodeDepthQ5
namespace Go.Proofs.Ytgglemlhombgkaa.Pure
open Go.RowKit Go.Proofs.Ytgglemlhombgkaa.Q Go.Proofs.Ytgglemlhombgkaa.E Go.Proofs.YtgglemlhombgkaaW.PrintWords Go.Proofs.YtgglemlhombgkaaW.PrintLast Go.Proofs.YtgglemlhombgkaaW.PrintMore
theorem mx_eq (a b : Int) : mx a b = max a b := by
  unfold mx
  split <;> omega
theorem most_eq (a b : Int) : spec_l1Most.f a b = some (max a b) := by
  unfold spec_l1Most.f
  split
  · congr 1; omega
  · congr 1; omega
/-- What the program's inner loop comes to: the greatest of some values' depths. -/
def deepest (vs : List Int) : Int → List Int → Int
  | d, [] => d
  | d, v :: t => deepest vs (max d (rd vs v)) t
theorem inner_depth (l : List Op) (o : Int) (i : Nat) (vs : List Int) (x y z : Int) (rs : List Int) (hrs : rs.length ≤ 2) (hin : ∀ v ∈ rs, 0 ≤ v ∧ v < vs.length) (q : Int × Bool) :
    ∀ (d j : Nat) (a : Int), j + d = rs.length →
      (Ev (fun k => if x = 3 then (if vs.length < 17592186044416 then impl_CodeDepth.l0 k (vs ++ [wrap64 (deepest vs a (rs.drop j) + 1)]) l (l.length : Int) (wrap64 ((i : Int) + 1)) l o else none) else (if vs.length < 17592186044416 then impl_CodeDepth.l0 k (vs ++ [deepest vs a (rs.drop j)]) l (l.length : Int) (wrap64 ((i : Int) + 1)) l o else none)) q) →
      Ev (fun k => impl_CodeDepth.l1 k vs a l (l.length : Int) i rs (rs.length : Int) j l o x y z) q := by
  intro d
  induction d with
  | zero =>
    intro j a hj H
    rw [List.drop_eq_nil_of_le (by omega)] at H
    refine shift ?_
    simp only [impl_CodeDepth.l1]
    exact neg (by omega) H
  | succ d ih =>
    intro j a hj H
    have hlt : j < rs.length := by omega
    have hv := hin rs[j] (List.getElem_mem hlt)
    rw [List.drop_eq_getElem_cons hlt] at H
    refine shift ?_
    simp only [impl_CodeDepth.l1]
    rw [rd_nat rs j hlt, wrap_succ (j := j) (by omega), mx_eq]
    exact pos (by omega) (pos (by omega) (pos (by omega) (pos hv.1 (pos hv.2 (ih (j + 1) _ (by omega) H)))))
theorem depth_loop (l : List Op) (o : Int) (hl : l.length ≤ 120) (h0 : 0 ≤ o) (h1 : o ≤ l.length) (hok : ∀ (j : Nat) (h : j < l.length), OpOk j l[j]) (d : Nat) : ∀ (i : Nat) (vs : List Int), vs.length = i + 1 → (∀ v ∈ vs, 0 ≤ v ∧ v ≤ i) → i + d = l.length →
    ∃ r, Ev (fun k => spec_CodeDepth.l0 k vs l (l.length : Int) i l o) (r, true) ∧ Ev (fun k => impl_CodeDepth.l0 k vs l (l.length : Int) i l o) (r, true) := by
  induction d with
  | zero =>
    intro i vs hv hb hi
    refine ⟨rd vs o, ?_, ?_⟩
    · refine shift ?_
      simp only [spec_CodeDepth.l0]
      exact neg (by omega) (pos (by omega) (pos (by omega) (ret _)))
    · refine shift ?_
      simp only [impl_CodeDepth.l0]
      exact neg (by omega) (pos (by omega) (pos (by omega) (ret _)))
  | succ d ih =>
    intro i vs hv hb hi
    have hlt : i < l.length := by omega
    have hr : rd_T69 l (i : Int) = l[i] := rdOp_nat l i hlt
    have hop := hok i hlt
    unfold OpOk at hop
    have next : ∀ t : Int, 0 ≤ t ∧ t ≤ (i : Int) + 1 → ∃ r, Ev (fun k => spec_CodeDepth.l0 k (vs ++ [t]) l (l.length : Int) ((i + 1 : Nat) : Int) l o) (r, true) ∧ Ev (fun k => impl_CodeDepth.l0 k (vs ++ [t]) l (l.length : Int) ((i + 1 : Nat) : Int) l o) (r, true) := by
      intro t ht
      refine ih (i + 1) (vs ++ [t]) (by simp [hv]) ?_ (by omega)
      intro v hm
      rcases List.mem_append.1 hm with hm | hm
      · have := hb v hm
        omega
      · rw [List.mem_singleton.1 hm]
        omega
    have impl : ∀ (rs : List Int) (q : Int × Bool), impl_Op_values.f l[i].f0 l[i].f1 l[i].f2 = some rs → rs.length ≤ 2 → (∀ v ∈ rs, 0 ≤ v ∧ v < vs.length) →
        Ev (fun k => if l[i].f0 = 3 then impl_CodeDepth.l0 k (vs ++ [wrap64 (deepest vs 0 rs + 1)]) l (l.length : Int) ((i + 1 : Nat) : Int) l o else impl_CodeDepth.l0 k (vs ++ [deepest vs 0 rs]) l (l.length : Int) ((i + 1 : Nat) : Int) l o) q →
        Ev (fun k => impl_CodeDepth.l0 k vs l (l.length : Int) i l o) q := by
      intro rs q e hrs hin H
      refine shift ?_
      simp only [impl_CodeDepth.l0]
      rw [hr]
      refine pos (by omega) (pos (by omega) (pos (by omega) (bind0 e ?_)))
      refine inner_depth l o i vs _ _ _ rs hrs hin q rs.length 0 0 (by omega) ?_
      rw [List.drop_zero, wrap_succ (by omega)]
      by_cases h3 : l[i].f0 = 3
      · simp only [h3, if_true] at H ⊢
        exact pos (by omega) H
      · simp only [h3, if_false] at H ⊢
        exact pos (by omega) H
    have bd : ∀ x : Int, 0 ≤ x → x ≤ i → 0 ≤ rd vs x ∧ rd vs x ≤ i := fun x a b => hb _ (rd_mem vs x a (by omega))
    rcases hop with ⟨k0, _, _⟩ | ⟨k13, ha, hb2⟩ | ⟨k2, ha, _⟩
    · obtain ⟨r, g1, g2⟩ := next 0 (by omega)
      refine ⟨r, ?_, impl [] _ (by unfold impl_Op_values.f; rw [if_pos k0]) (by simp) (by simp) (neg (by omega) g2)⟩
      refine shift ?_
      simp only [spec_CodeDepth.l0]
      rw [hr, wrap_succ (by omega)]
      exact pos (by omega) (pos (by omega) (pos (by omega) (neg (by omega) (neg (by omega) (neg (by omega) (pos (by omega) g1))))))
    · have b1 := bd _ ha.1 ha.2
      have b2 := bd _ hb2.1 hb2.2
      have hval : impl_Op_values.f l[i].f0 l[i].f1 l[i].f2 = some [l[i].f1, l[i].f2] := by
        unfold impl_Op_values.f
        rw [if_neg (by omega), if_neg (by omega)]
      have hin : ∀ v ∈ [l[i].f1, l[i].f2], 0 ≤ v ∧ v < vs.length := by
        intro v hv2
        simp only [List.mem_cons, List.not_mem_nil, or_false] at hv2
        rcases hv2 with rfl | rfl <;> omega
      have hd : deepest vs 0 [l[i].f1, l[i].f2] = max (rd vs l[i].f1) (rd vs l[i].f2) := by
        simp only [deepest]
        omega
      rcases k13 with k1 | k3
      · obtain ⟨r, g1, g2⟩ := next (max (rd vs l[i].f1) (rd vs l[i].f2)) (by omega)
        refine ⟨r, ?_, impl _ _ hval (by simp) hin (neg (by omega) (by rw [hd]; exact g2))⟩
        refine shift ?_
        simp only [spec_CodeDepth.l0]
        rw [hr, wrap_succ (by omega)]
        exact pos (by omega) (pos (by omega) (pos (by omega) (pos k1 (pos (by omega) (pos (by omega) (pos (by omega) (pos (by omega) (bind0 (most_eq _ _) (pos (by omega) g1)))))))))
      · have hw : wrap64 (max (rd vs l[i].f1) (rd vs l[i].f2) + 1) = max (rd vs l[i].f1) (rd vs l[i].f2) + 1 := wrap_id (by omega) (by omega)
        have hw2 : wrap64 (1 + max (rd vs l[i].f1) (rd vs l[i].f2)) = max (rd vs l[i].f1) (rd vs l[i].f2) + 1 := by rw [wrap_id (by omega) (by omega)]; omega
        obtain ⟨r, g1, g2⟩ := next (max (rd vs l[i].f1) (rd vs l[i].f2) + 1) (by omega)
        refine ⟨r, ?_, impl _ _ hval (by simp) hin (pos k3 (by rw [hd, hw]; exact g2))⟩
        refine shift ?_
        simp only [spec_CodeDepth.l0]
        rw [hr, wrap_succ (by omega)]
        exact pos (by omega) (pos (by omega) (pos (by omega) (neg (by omega) (neg (by omega) (pos k3 (pos (by omega) (pos (by omega) (pos (by omega) (pos (by omega) (bind0 (most_eq _ _) (pos (by omega) (by rw [hw2]; exact g1))))))))))))
    · have b1 := bd _ ha.1 ha.2
      have hval : impl_Op_values.f l[i].f0 l[i].f1 l[i].f2 = some [l[i].f1] := by
        unfold impl_Op_values.f
        rw [if_neg (by omega), if_pos k2]
      have hd : deepest vs 0 [l[i].f1] = rd vs l[i].f1 := by
        simp only [deepest]
        omega
      obtain ⟨r, g1, g2⟩ := next (rd vs l[i].f1) (by omega)
      refine ⟨r, ?_, impl _ _ hval (by simp) (by intro v hv2; rw [List.mem_singleton.1 hv2]; omega) (neg (by omega) (by rw [hd]; exact g2))⟩
      refine shift ?_
      simp only [spec_CodeDepth.l0]
      rw [hr, wrap_succ (by omega)]
      exact pos (by omega) (pos (by omega) (pos (by omega) (neg (by omega) (pos k2 (pos (by omega) (pos (by omega) (pos (by omega) g1)))))))
theorem depth_both (l : List Op) (o : Int) (hl : l.length ≤ 1048576) : ∃ (r : Int) (b : Bool), Ev (fun k => spec_CodeDepth.f k l o) (r, b) ∧ Ev (fun k => impl_CodeDepth.f k l o) (r, b) := by
  obtain ⟨b, h1, h2, h3⟩ := good_both l o hl
  unfold spec_CodeDepth.f impl_CodeDepth.f
  cases b with
  | false => exact ⟨0, false, bind h1 (neg (by simp) (ret _)), bind h2 (neg (by simp) (ret _))⟩
  | true =>
    obtain ⟨v, g⟩ := h3 rfl
    obtain ⟨r, g1, g2⟩ := depth_loop l o g.few g.lo g.hi g.ops l.length 0 [0] rfl (by simp) (by omega)
    exact ⟨r, true, bind h1 (pos rfl g1), bind h2 (pos rfl g2)⟩
theorem law_CodeDepth : laws_FnExactCodeDepth.Pure := by
  intro l o hl _ _
  refine some_of ?_
  unfold laws_FnExactCodeDepth.f
  by_cases h : l.length ≤ 1048576
  · refine bind0 (szCode_small l o 1048576 (Nat.le_refl _) h) (neg (by omega) ?_)
    have hc := toCode_ev l o h
    obtain ⟨r, b, h1, h2⟩ := depth_both (l.map toOp) o (by simpa using h)
    refine bind hc (bind h1 (bind hc (bind h2 (pos rfl (shift ?_)))))
    simp only [laws_FnExactCodeDepth.j0]
    exact neg (by simp) (bind hc (bind (eqCode_refl _ _ (by simp; omega)) (pos rfl (ret _))))
  · exact bind0 (szCode_large l o 1048576 (Nat.le_refl _) (by omega) hl) (pos (by omega) (ret _))
theorem FnExactCodeDepth : laws_FnExactCodeDepth.Pure := law_CodeDepth
end Go.Proofs.Ytgglemlhombgkaa.Pure
