/- Pure: the law of runs of words. -/
import Derived.Test.YtoegbcbdiggbjaaKFnRunsOfWordsPwords
import Derived.Test.YtoegbcbdiggbjaaKFnRunsOfWordsPdraw
set_option linter.unusedVariables false
set_option linter.unusedSimpArgs false
namespace Go.Proofs.Ytoegbcbdiggbjaa.Pure
open Go.RowKit Go.Proofs.Ytoegbcbdiggbjaa.E Go.Proofs.Ytoegbcbdiggbjaa.RW Go.Proofs.Ytoegbcbdiggbjaa.Hand Go.Proofs.Ytoegbcbdiggbjaa.Frame Go.Proofs.YtoegbcbdiggbjaaW.PrintLast Go.Proofs.YtoegbcbdiggbjaaW.PrintMore
open Go.Proofs.YtoegbcbdiggbjaaW.PrintWords hiding mn mx
theorem sameTexts_l0 (l m : List ByteArray) (j : Nat) (h : l = m.drop j) : laws_rSameTexts.l0 m l (j : Int) = some (Sum.inr ()) := by
  induction l generalizing j with
  | nil => rfl
  | cons y ys ih =>
    have hj : j < m.length := by
      rcases Nat.lt_or_ge j m.length with q | q
      · exact q
      · rw [List.drop_of_length_le q] at h
        cases h
    rw [List.drop_eq_getElem_cons hj] at h
    obtain ⟨e1, e2⟩ := List.cons.inj h
    simp only [laws_rSameTexts.l0]
    rw [gt_nat hj, Option.bind_some, if_neg (by simp [e1]), show (j : Int) + 1 = ((j + 1 : Nat) : Int) by omega]
    exact ih (j + 1) e2
theorem rSameTexts_refl (l : List ByteArray) : laws_rSameTexts.f l l = some true := by
  unfold laws_rSameTexts.f
  have := sameTexts_l0 l l 0 rfl
  rw [show ((0 : Nat) : Int) = 0 from rfl] at this
  rw [if_neg (by simp), this]
  rfl
/-! bytes -/
theorem gts_at {w : ByteArray} {j : Nat} (h : j < w.data.toList.length) : gts w (j : Int) = some ((w.data.toList[j].toNat : Nat) : Int) := by
  unfold gts
  rw [if_pos (by omega), Int.toNat_natCast, ← Array.getElem?_toList, List.getElem?_eq_getElem h]
  rfl
theorem size_list (w : ByteArray) : w.data.toList.length = w.size := by
  rw [Array.length_toList]
  rfl
theorem is97 (b : UInt8) : ((b.toNat : Nat) : Int) = 97 ↔ b = 97 := by
  constructor
  · intro h
    exact UInt8.toNat_inj.1 (by have : b.toNat = 97 := by omega
                                rw [this]; rfl)
  · rintro rfl
    rfl
theorem caL_cons (b : UInt8) (t : List UInt8) : caL (b :: t) = (if b = 97 then 1 else 0) + caL t := by
  unfold caL
  rw [List.countP_cons]
  by_cases c : b = 97
  · rw [if_pos c, if_pos (by simp [c])]
    omega
  · rw [if_neg c, if_neg (by simp [c])]
    omega
theorem caL_ge (t : List UInt8) : 0 ≤ caL t ∧ caL t ≤ (t.length : Int) := by
  unfold caL
  have := List.countP_le_length (p := fun b : UInt8 => b == 97) (l := t)
  omega
theorem gB_nat {L : List ByteArray} {m : Nat} (h : m < L.length) : gB L (m : Int) = L[m] := by
  unfold gB
  rw [Int.toNat_natCast, List.getD_eq_getElem?_getD, List.getElem?_eq_getElem h]
  rfl
theorem l4_ev (L : List ByteArray) (e : Int) (he : 0 ≤ e ∧ e ≤ 1000000) (m : Nat) (hm : m < L.length) (hs : (gB L (m : Int)).size ≤ 2000) : ∀ (d j : Nat) (c : Int), j + d = (gB L (m : Int)).size → 0 ≤ c → c + 1000000 * (d : Int) ≤ 1000000000000 → Ev (fun k => laws_FnRunsOfWords.l4 L e (m : Int) k c (j : Int)) (c + e * caL ((gB L (m : Int)).data.toList.drop j)) := by
  have hg : gt L (m : Int) = some (gB L (m : Int)) := gB_gt (by omega) (by omega)
  have hl := size_list (gB L (m : Int))
  intro d
  induction d with
  | zero =>
    intro j c hj h0 h1
    refine shift ?_
    simp only [laws_FnRunsOfWords.l4]
    refine bind0 hg (neg (by omega) ?_)
    rw [List.drop_of_length_le (by omega)]
    have : c + e * caL [] = c := by simp [caL]
    rw [this]
    exact ret _
  | succ d ih =>
    intro j c hj h0 h1
    have hjl : j < (gB L (m : Int)).data.toList.length := by omega
    refine shift ?_
    simp only [laws_FnRunsOfWords.l4]
    refine bind0 hg (pos (by omega) (bind0 hg (bind0 (gts_at hjl) ?_)))
    rw [w64_id (x := (j : Int) + 1) (by omega), show (j : Int) + 1 = ((j + 1 : Nat) : Int) by omega, List.drop_eq_getElem_cons hjl, caL_cons]
    by_cases q : (gB L (m : Int)).data.toList[j] = 97
    · refine pos ((is97 _).2 q) ?_
      rw [w64_id (x := c + e) (by omega), if_pos q]
      have := ih (j + 1) (c + e) (by omega) (by omega) (by omega)
      rw [show c + e * (1 + caL ((gB L (m : Int)).data.toList.drop (j + 1))) = c + e + e * caL ((gB L (m : Int)).data.toList.drop (j + 1)) by rw [Int.mul_add, Int.mul_one]; omega]
      exact this
    · refine neg (fun x => q ((is97 _).1 x)) ?_
      rw [if_neg q, Int.zero_add]
      exact ih (j + 1) c (by omega) h0 (by omega)
theorem ls_le2 {f : Nat → Int} {n : Nat} (h : ∀ j, j < n → f j ≤ 2000000000) : ls f n ≤ 2000000000 * (n : Int) := by
  induction n with
  | zero => exact Int.le_refl _
  | succ n ih =>
    have := ih fun j hj => h j (by omega)
    have := h n (by omega)
    simp only [ls]
    omega
theorem prod_le {a b : Int} (ha : 0 ≤ a ∧ a ≤ 1000000) (hb : 0 ≤ b ∧ b ≤ 2000) : 0 ≤ a * b ∧ a * b ≤ 2000000000 := by
  refine ⟨Int.mul_nonneg ha.1 hb.1, ?_⟩
  have := Int.mul_le_mul ha.2 hb.2 hb.1 (by omega)
  omega
theorem l2_ev {I : Nat} (hI : I ≤ 6) (L : List ByteArray) (hL : L.length = I) (hs : ∀ m : Nat, m < I → (gB L (m : Int)).size ≤ 2000) (r : List Int) (hr : r.length = I) (hb : ∀ m : Nat, m < I → 0 ≤ rg r (m : Int) ∧ rg r (m : Int) ≤ 1000000) : ∀ (d j : Nat), j + d = I → Ev (fun k => laws_FnRunsOfWords.l2 k L (r.drop j) (j : Int) (ls (fun m => rg r (m : Int) * szB (gB L (m : Int))) j) (ls (fun m => rg r (m : Int) * caB (gB L (m : Int))) j)) (ls (fun m => rg r (m : Int) * szB (gB L (m : Int))) I, ls (fun m => rg r (m : Int) * caB (gB L (m : Int))) I) := by
  have hsz : ∀ m : Nat, m < I → 0 ≤ szB (gB L (m : Int)) ∧ szB (gB L (m : Int)) ≤ 2000 := fun m hm => by
    have := hs m hm
    unfold szB
    omega
  have hca : ∀ m : Nat, m < I → 0 ≤ caB (gB L (m : Int)) ∧ caB (gB L (m : Int)) ≤ 2000 := fun m hm => by
    have := hs m hm
    have h2 := caL_ge (gB L (m : Int)).data.toList
    rw [size_list] at h2
    unfold caB
    omega
  intro d
  induction d with
  | zero =>
    intro j hj
    obtain rfl : j = I := by omega
    rw [List.drop_of_length_le (by omega)]
    exact ret _
  | succ d ih =>
    intro j hj
    have hjr : j < r.length := by omega
    have hjI : j < I := by omega
    have e : r[j] = rg r (j : Int) := (rg_nat hjr).symm
    have p1 := prod_le (hb j hjI) (hsz j hjI)
    have p2 := prod_le (hb j hjI) (hca j hjI)
    have s0 := ls_ge (f := fun m => rg r (m : Int) * szB (gB L (m : Int))) (n := j) fun m hm => (prod_le (hb m (by omega)) (hsz m (by omega))).1
    have s1 := ls_le2 (f := fun m => rg r (m : Int) * szB (gB L (m : Int))) (n := j) fun m hm => (prod_le (hb m (by omega)) (hsz m (by omega))).2
    have t0 := ls_ge (f := fun m => rg r (m : Int) * caB (gB L (m : Int))) (n := j) fun m hm => (prod_le (hb m (by omega)) (hca m (by omega))).1
    have t1 := ls_le2 (f := fun m => rg r (m : Int) * caB (gB L (m : Int))) (n := j) fun m hm => (prod_le (hb m (by omega)) (hca m (by omega))).2
    have e4 := l4_ev L (rg r (j : Int)) (hb j hjI) j (by omega) (hs j hjI) (gB L (j : Int)).size 0 (ls (fun m => rg r (m : Int) * caB (gB L (m : Int))) j) (by omega) t0 (by have := hs j hjI; omega)
    rw [List.drop_zero, show ((0 : Nat) : Int) = 0 from rfl] at e4
    rw [List.drop_eq_getElem_cons hjr, e]
    simp only [laws_FnRunsOfWords.l2]
    refine bind0 (gB_gt (by omega) (by omega)) (bind e4 ?_)
    have w1 : w64 (rg r (j : Int) * ((gB L (j : Int)).size : Int)) = rg r (j : Int) * szB (gB L (j : Int)) := by
      show w64 (rg r (j : Int) * szB (gB L (j : Int))) = _
      exact w64_id (by omega)
    rw [w1, w64_id (by omega), show (j : Int) + 1 = ((j + 1 : Nat) : Int) by omega]
    exact ih (j + 1) (by omega)
theorem l3_ev (i : Int) (L : List ByteArray) (s : ByteArray) (hs : s.size ≤ 2000) (hp : i = 1 → 0 < L.length ∧ ∀ j : Nat, j < s.size → 0 < (gB L 0).size ∧ gts (gB L 0) ((j % (gB L 0).size : Nat) : Int) = gts s (j : Int)) : ∀ (d j : Nat) (c : Int), j + d = s.size → 0 ≤ c ∧ c ≤ (j : Int) → Ev (fun k => laws_FnRunsOfWords.l3 i L s k c (j : Int)) (Sum.inr (c + caL (s.data.toList.drop j))) := by
  have hl := size_list s
  intro d
  induction d with
  | zero =>
    intro j c hj hc
    refine shift ?_
    simp only [laws_FnRunsOfWords.l3]
    refine neg (by omega) ?_
    rw [List.drop_of_length_le (by omega)]
    have : c + caL [] = c := by simp [caL]
    rw [this]
    exact ret _
  | succ d ih =>
    intro j c hj hc
    have hjl : j < s.data.toList.length := by omega
    have e1 := gts_at hjl
    have go : ∀ c' : Int, c' = c + (if s.data.toList[j] = 97 then 1 else 0) → Ev (fun k => if i = 1 then ((gts s (j : Int)).bind fun y142 => (gt L 0).bind fun y146 => (gt L 0).bind fun y148 => (nz (y148.size : Int)).bind fun _ => (gts y146 ((j : Int).tmod (y148.size : Int))).bind fun y150 => if y142 ≠ y150 then (some (.inl false)) else (laws_FnRunsOfWords.l3 i L s k c' (w64 ((j : Int) + 1)))) else (laws_FnRunsOfWords.l3 i L s k c' (w64 ((j : Int) + 1)))) (Sum.inr (c + caL (s.data.toList.drop j))) := by
      intro c' hc'
      have hb : 0 ≤ c' ∧ c' ≤ ((j + 1 : Nat) : Int) := by
        rw [hc']
        split <;> omega
      have h := ih (j + 1) c' (by omega) hb
      rw [show c + caL (s.data.toList.drop j) = c' + caL (s.data.toList.drop (j + 1)) by rw [List.drop_eq_getElem_cons hjl, caL_cons, hc']; omega, w64_id (x := (j : Int) + 1) (by omega), show (j : Int) + 1 = ((j + 1 : Nat) : Int) by omega]
      by_cases ci : i = 1
      · obtain ⟨hL, hq⟩ := hp ci
        obtain ⟨h0, hq⟩ := hq j (by omega)
        refine pos ci (bind0 e1 (bind0 (gB_gt (by omega) (by omega)) (bind0 (gB_gt (by omega) (by omega)) ?_)))
        have hz : nz ((gB L 0).size : Int) = some () := by
          unfold nz
          rw [if_neg (by omega)]
        have hm : (j : Int).tmod ((gB L 0).size : Int) = ((j % (gB L 0).size : Nat) : Int) := by
          rw [Int.tmod_eq_emod_of_nonneg (by omega)]
          simp
        refine bind0 hz ?_
        rw [hm, hq]
        exact bind0 e1 (neg (by simp) h)
      · exact neg ci h
    refine shift ?_
    simp only [laws_FnRunsOfWords.l3]
    refine pos (by omega) ?_
    by_cases q : s.data.toList[j] = 97
    · refine bind0 (a := c + 1) ?_ (go _ (by rw [if_pos q]))
      rw [e1, Option.bind_some, if_pos ((is97 _).2 q), w64_id (by omega)]
    · refine bind0 (a := c) ?_ (go _ (by rw [if_neg q]; omega))
      rw [e1, Option.bind_some, if_neg fun x => q ((is97 _).1 x)]
/-! words of one word -/
def Per (w x : ByteArray) : Prop := ∃ e : Nat, x.data.toList = (List.replicate e w.data.toList).flatten
theorem Per.add {w a b : ByteArray} (ha : Per w a) (hb : Per w b) : Per w (a ++ b) := by
  obtain ⟨m, ha⟩ := ha
  obtain ⟨n, hb⟩ := hb
  refine ⟨m + n, ?_⟩
  rw [ByteArray.data_append, Array.toList_append, ha, hb, ← List.replicate_append_replicate, List.flatten_append]
theorem wv_all {p : ByteArray → Prop} (hp : ∀ a b, p a → p b → p (a ++ b)) (s : List SStep) (l : List ByteArray) (h : Ok l.length s) (hl : ∀ x ∈ l, p x) : ∀ x ∈ wv s l, p x := by
  induction s generalizing l with
  | nil => exact hl
  | cons y ys ih =>
    have h1 := h.1
    have mem : ∀ v : Int, 0 ≤ v → v < (l.length : Int) → p (gB l v) := fun v v0 v1 => by
      obtain ⟨u, rfl⟩ := Int.eq_ofNat_of_zero_le v0
      rw [gB_nat (show u < l.length by omega)]
      exact hl _ (List.getElem_mem _)
    refine ih _ (by rw [List.length_append, List.length_singleton]; exact h.2) fun x hx => ?_
    rcases List.mem_append.1 hx with hx | hx
    · exact hl x hx
    · rw [List.mem_singleton.1 hx]
      exact hp _ _ (mem _ h1.1 (by omega)) (mem _ (by omega) (by omega))
theorem rep_at {α : Type} (w : List α) (e j : Nat) (h : j < (List.replicate e w).flatten.length) : 0 < w.length ∧ (List.replicate e w).flatten[j]? = w[j % w.length]? := by
  induction e generalizing j with
  | zero => simp at h
  | succ e ih =>
    rw [List.replicate_succ, List.flatten_cons] at h ⊢
    rw [List.length_append] at h
    by_cases c : j < w.length
    · exact ⟨by omega, by rw [List.getElem?_append_left c, Nat.mod_eq_of_lt c]⟩
    · obtain ⟨h0, e1⟩ := ih (j - w.length) (by omega)
      refine ⟨h0, ?_⟩
      rw [List.getElem?_append_right (by omega), e1, Nat.mod_eq_sub_mod (a := j) (by omega)]
theorem Per.at {w x : ByteArray} (h : Per w x) {j : Nat} (hj : j < x.size) : 0 < w.size ∧ gts w ((j % w.size : Nat) : Int) = gts x (j : Int) := by
  obtain ⟨e, he⟩ := h
  have hl := size_list x
  rw [he] at hl
  obtain ⟨h0, e1⟩ := rep_at w.data.toList e j (by omega)
  rw [size_list] at h0 e1
  refine ⟨h0, ?_⟩
  unfold gts
  rw [if_pos (by omega), if_pos (by omega), Int.toNat_natCast, Int.toNat_natCast, ← Array.getElem?_toList, ← Array.getElem?_toList, he, e1]
/-! draws -/
theorem of_ev {c : List Int} (hc : Bytes c) (hl : c.length ≤ 1048576) {a : Int} {m : Nat} (ha : Bud a (m + 1)) (sd : Int) (l : List ByteArray) (hne : 0 < l.length) : ∃ y a' sd', spec_l1Cur_of.f c a sd l = some (y, a', sd') ∧ y ∈ l ∧ Bud a' m := by
  obtain ⟨x, a', sd', e, x0, x1, hb⟩ := pick_ev hc hl ha sd (l.length : Int)
  obtain ⟨j, rfl⟩ := Int.eq_ofNat_of_zero_le x0
  have hj : j < l.length := by omega
  unfold spec_l1Cur_of.f
  rw [e, Option.bind_some]
  exact ⟨l[j], a', sd', by simp only [gt_nat hj, Option.bind_some], List.getElem_mem _, hb⟩
theorem drw_l0 {c : List Int} (hc : Bytes c) (hl : c.length ≤ 1048576) (m : Nat) : ∀ (n : Nat) (a sd : Int) (acc : List ByteArray), n ≤ 1000 → acc.length + n ≤ 1000 → (∀ x ∈ acc, x.size ≤ 100) → Bud a (m + n) → ∃ l' a' sd', Ev (fun k => spec_DrawRunWords.l0 c k acc a sd (n : Int)) (l', a', sd') ∧ l'.length = acc.length + n ∧ (∀ x ∈ l', x.size ≤ 100) ∧ Bud a' m := by
  intro n
  induction n with
  | zero =>
    intro a sd acc _ _ hx hb
    refine ⟨acc, a, sd, shift ?_, rfl, hx, hb⟩
    simp only [spec_DrawRunWords.l0]
    exact neg (by omega) (ret _)
  | succ n ih =>
    intro a sd acc h1 h2 hx hb
    obtain ⟨y, a1, s1, e1, hy, b1⟩ := of_ev hc hl (m := m + n) hb sd [(⟨#[97]⟩ : ByteArray), (⟨#[98]⟩ : ByteArray), (⟨#[97, 98]⟩ : ByteArray), (⟨#[99]⟩ : ByteArray), (⟨#[]⟩ : ByteArray), (⟨#[120, 121, 122]⟩ : ByteArray)] (Nat.succ_pos _)
    have hsz : y.size ≤ 100 := by
      simp only [List.mem_cons, List.not_mem_nil, or_false] at hy
      rcases hy with rfl | rfl | rfl | rfl | rfl | rfl <;> decide
    obtain ⟨l', a', sd', e, q1, q2, q3⟩ := ih a1 s1 (acc ++ [y]) (by omega) (by rw [List.length_append, List.length_singleton]; omega) (fun x q => by
      rcases List.mem_append.1 q with q | q
      · exact hx x q
      · rw [List.mem_singleton.1 q]; exact hsz) b1
    refine ⟨l', a', sd', shift ?_, by rw [q1, List.length_append, List.length_singleton]; omega, q2, q3⟩
    simp only [spec_DrawRunWords.l0]
    refine pos (by omega) (bind0 e1 (bind0 (ap_ok (by simp; omega)) ?_))
    rw [w64_id (by omega), show ((n + 1 : Nat) : Int) - 1 = (n : Int) by omega]
    exact e
theorem drw_l1 {c : List Int} (hc : Bytes c) (hl : c.length ≤ 1048576) (l : List ByteArray) (hll : l.length ≤ 1000) (hx : ∀ x ∈ l, x.size ≤ 100) (m : Nat) : ∀ (d : Nat) (a sd : Int) (s : ByteArray), 2020 ≤ s.size + 10 * d → s.size ≤ 3000 → Bud a (m + d + 1) → ∃ l' a' sd', Ev (fun k => spec_DrawRunWords.l1 c l k a sd s) (l', a', sd') ∧ l'.length ≤ l.length + 1 ∧ (∀ x ∈ l', x.size ≤ 4000) ∧ Bud a' m := by
  have fin : ∀ s : ByteArray, s.size ≤ 3000 → ([s] ++ l).length ≤ l.length + 1 ∧ ∀ x ∈ [s] ++ l, x.size ≤ 4000 := fun s hs => by
    refine ⟨by simp, fun x q => ?_⟩
    rcases List.mem_append.1 q with q | q
    · rw [List.mem_singleton.1 q]; omega
    · have := hx x q; omega
  intro d
  induction d with
  | zero =>
    intro a sd s h1 h2 hb
    obtain ⟨x, a1, s1, e1, x0, x1, b1⟩ := pick_ev hc hl (m := m) hb sd 20
    refine ⟨[s] ++ l, a1, s1, shift ?_, (fin s h2).1, (fin s h2).2, b1⟩
    simp only [spec_DrawRunWords.l1]
    refine bind0 e1 (neg ?_ (bind0 (ap_ok (by simp; omega)) (ret _)))
    rw [w64_id (by omega)]
    omega
  | succ d ih =>
    intro a sd s h1 h2 hb
    obtain ⟨x, a1, s1, e1, x0, x1, b1⟩ := pick_ev hc hl (m := m + d + 1) hb sd 20
    by_cases q : (s.size : Int) < 2000 + x
    · have hs : sap s (⟨#[97, 98, 99, 100, 101, 102, 103, 104, 105, 106]⟩ : ByteArray) = some (s ++ (⟨#[97, 98, 99, 100, 101, 102, 103, 104, 105, 106]⟩ : ByteArray)) := by
        unfold sap
        rw [if_pos (by have : (⟨#[97, 98, 99, 100, 101, 102, 103, 104, 105, 106]⟩ : ByteArray).size = 10 := rfl
                       omega)]
      have hz : (s ++ (⟨#[97, 98, 99, 100, 101, 102, 103, 104, 105, 106]⟩ : ByteArray)).size = s.size + 10 := by
        rw [ByteArray.size_append]
        rfl
      obtain ⟨l', a', sd', e, q1, q2, q3⟩ := ih a1 s1 (s ++ (⟨#[97, 98, 99, 100, 101, 102, 103, 104, 105, 106]⟩ : ByteArray)) (by rw [hz]; omega) (by rw [hz]; omega) b1
      refine ⟨l', a', sd', shift ?_, q1, q2, q3⟩
      simp only [spec_DrawRunWords.l1]
      refine bind0 e1 (pos ?_ (bind0 hs e))
      rw [w64_id (by omega)]
      exact q
    · refine ⟨[s] ++ l, a1, s1, shift ?_, (fin s h2).1, (fin s h2).2, b1.le (by omega)⟩
      simp only [spec_DrawRunWords.l1]
      refine bind0 e1 (neg ?_ (bind0 (ap_ok (by simp; omega)) (ret _)))
      rw [w64_id (by omega)]
      exact q
theorem ten0 : (⟨#[48, 49, 50, 51, 52, 53, 54, 55, 56, 57]⟩ : ByteArray).size = 10 := rfl
theorem wInputs {c : List Int} (hc : Bytes c) (hl : c.length ≤ 1048576) {a : Int} {m : Nat} (ha : Bud a (m + 1)) (sd : Int) : ∃ y a' sd', spec_l1Cur_inputs.f c a sd = some (y, a', sd') ∧ Bud a' m := by
  obtain ⟨y, a', sd', e, hy, hb⟩ := among_ev hc hl ha sd [1, 1, 2, 2, 3, 4] (by simp)
  unfold spec_l1Cur_inputs.f
  rw [e]
  exact ⟨_, _, _, rfl, hb⟩
theorem most9 (x : Int) : ∃ n : Nat, mx 0 (mn x 9) = (n : Int) ∧ n ≤ 9 := by
  have : 0 ≤ mx 0 (mn x 9) ∧ mx 0 (mn x 9) ≤ 9 := by
    unfold mx mn
    (repeat' split) <;> omega
  exact ⟨(mx 0 (mn x 9)).toNat, by omega, by omega⟩
theorem drawRW {c : List Int} (hc : Bytes c) (hl : c.length ≤ 1048576) : ∃ i s o l, Ev (fun k => spec_DrawRunWords.f k c) (i, s, o, l) ∧ l.length ≤ 1000 ∧ ∀ x ∈ l, x.size ≤ 100000 := by
  obtain ⟨y, a1, s1, e1, b1⟩ := wInputs hc hl (a := 0) (m := 3000) ⟨by omega, by omega⟩ 0
  obtain ⟨z, a2, s2, e2, hz, b2⟩ := among_ev hc hl (m := 2999) b1 s1 [3, 5, 8] (by simp)
  simp only [List.mem_cons, List.not_mem_nil, or_false] at hz
  obtain ⟨i, s, o, a3, s3, e3, ls_, lo, b3⟩ := drawAny hc hl a2 s2 y z (by omega) 2000 (b2.le (by omega))
  obtain ⟨n, en, hn⟩ := most9 i
  obtain ⟨l, a4, s4, e4, q1, q2, b4⟩ := drw_l0 hc hl 1900 n a3 s3 [] (by omega) (by simp; omega) (fun x hx => by cases hx) (b3.le (by omega))
  obtain ⟨b, a5, s5, e5, b5⟩ := one_ev hc hl (m := 1899) b4 s4 25
  rw [List.length_nil, Nat.zero_add] at q1
  cases b with
  | true =>
    obtain ⟨l', a6, s6, e6, q3, q4, b6⟩ := drw_l1 hc hl l (by omega) q2 1000 210 a5 s5 (⟨#[48, 49, 50, 51, 52, 53, 54, 55, 56, 57]⟩ : ByteArray) (by rw [ten0]; omega) (by rw [ten0]; omega) (b5.le (by omega))
    refine ⟨i, s, o, l', ?_, by omega, fun x hx => by have := q4 x hx; omega⟩
    · unfold spec_DrawRunWords.f
      refine bind0 e1 (bind0 e2 (bind e3 (bind0 (least_eq _ _) (bind0 (most_eq _ _) ?_))))
      rw [en]
      exact bind e4 (bind (a := (l', a6, s6)) (bind0 e5 (pos rfl e6)) (ret _))
  | false =>
    refine ⟨i, s, o, l, ?_, by omega, fun x hx => by have := q2 x hx; omega⟩
    unfold spec_DrawRunWords.f
    refine bind0 e1 (bind0 e2 (bind e3 (bind0 (least_eq _ _) (bind0 (most_eq _ _) ?_))))
    rw [en]
    exact bind e4 (bind (a := (l, a5, s5)) (bind0 e5 (neg (by simp) (ret _))) (ret _))
theorem drd_l0 {c : List Int} (hc : Bytes c) (hl : c.length ≤ 1048576) (m : Nat) : ∀ (n : Nat) (a sd : Int) (acc : List Int), n ≤ 1000 → acc.length + n ≤ 1000 → Bud a (m + n) → ∃ l' a' sd', Ev (fun k => spec_DrawWordLengths.l0 c k acc a sd (n : Int)) (l', a', sd') ∧ l'.length = acc.length + n ∧ Bud a' m := by
  intro n
  induction n with
  | zero =>
    intro a sd acc _ _ hb
    refine ⟨acc, a, sd, shift ?_, rfl, hb⟩
    simp only [spec_DrawWordLengths.l0]
    exact neg (by omega) (ret _)
  | succ n ih =>
    intro a sd acc h1 h2 hb
    obtain ⟨y, a1, s1, e1, hy, b1⟩ := among_ev hc hl (m := m + n) hb sd [0, 1, 2, 3, 17, 500, 2000, 2001, (-1), 1, 2, 3] (by simp)
    obtain ⟨l', a', sd', e, q1, q3⟩ := ih a1 s1 (acc ++ [y]) (by omega) (by rw [List.length_append, List.length_singleton]; omega) b1
    refine ⟨l', a', sd', shift ?_, by rw [q1, List.length_append, List.length_singleton]; omega, q3⟩
    simp only [spec_DrawWordLengths.l0]
    refine pos (by omega) (bind0 e1 (bind0 (ap_ok (by simp; omega)) ?_))
    rw [w64_id (by omega), show ((n + 1 : Nat) : Int) - 1 = (n : Int) by omega]
    exact e
theorem drawWL {c : List Int} (hc : Bytes c) (hl : c.length ≤ 1048576) : ∃ i s o l, Ev (fun k => spec_DrawWordLengths.f k c) (i, s, o, l) ∧ l.length ≤ 1000 := by
  obtain ⟨y, a1, s1, e1, b1⟩ := wInputs hc hl (a := 0) (m := 3000) ⟨by omega, by omega⟩ 0
  obtain ⟨z, a2, s2, e2, hz, b2⟩ := among_ev hc hl (m := 2999) b1 s1 [3, 5, 8] (by simp)
  simp only [List.mem_cons, List.not_mem_nil, or_false] at hz
  obtain ⟨i, s, o, a3, s3, e3, ls_, lo, b3⟩ := drawAny hc hl a2 s2 y z (by omega) 2000 (b2.le (by omega))
  obtain ⟨n, en, hn⟩ := most9 i
  obtain ⟨l, a4, s4, e4, q1, b4⟩ := drd_l0 hc hl 1900 n a3 s3 [] (by omega) (by simp; omega) (b3.le (by omega))
  rw [List.length_nil, Nat.zero_add] at q1
  refine ⟨i, s, o, l, ?_, by omega⟩
  unfold spec_DrawWordLengths.f
  refine bind0 e1 (bind0 e2 (bind e3 (bind0 (least_eq _ _) (bind0 (most_eq _ _) ?_))))
  rw [en]
  exact bind e4 (ret _)
theorem wl0_eq (ys : List ByteArray) (acc : List Int) (j : Int) (hb : acc.length + ys.length ≤ 100000) : laws_FnRunsOfWords.l0 ys acc j = some (acc ++ ys.map szB) := by
  induction ys generalizing acc j with
  | nil => simp [laws_FnRunsOfWords.l0]
  | cons y ys ih =>
    simp only [List.length_cons] at hb
    simp only [laws_FnRunsOfWords.l0]
    rw [ap_ok (by simp; omega), Option.bind_some, ih _ _ (by rw [List.length_append, List.length_singleton]; omega)]
    simp [szB]
theorem wl1_ev {I : Nat} {s : List SStep} {o : List Int} (h : Good I s o) (L : List ByteArray) (hL : L.length = I) (hx : ∀ x ∈ L.map szB, 0 ≤ x ∧ x ≤ 2000) (hf : fitB s (L.map szB) = true) : ∀ (d j : Nat), j + d = o.length → Ev (fun k => laws_FnRunsOfWords.l1 k (I : Int) L (o.map (rg (vl s (L.map szB)))) (pw I s o) ((o.drop j).map (gB (wv s L))) (j : Int)) (Sum.inr ()) := by
  have g1 := h.inp
  have hok : Ok L.length s := by rw [hL]; exact h.ok
  have hlm : (L.map szB).length = I := by rw [List.length_map, hL]
  have hin : ∀ m : Nat, m < I → (gB L (m : Int)).size ≤ 2000 := fun m hm => by
    have := (hx (szB (gB L (m : Int))) (List.mem_map.2 ⟨_, by rw [gB_nat (show m < L.length by omega)]; exact List.getElem_mem _, rfl⟩)).2
    unfold szB at this
    omega
  have hfit := (fit_iff s (L.map szB) fun x q => (hx x q).2).1 hf
  intro d
  induction d with
  | zero =>
    intro j hj
    rw [List.drop_of_length_le (by omega)]
    exact ret _
  | succ d ih =>
    intro j hj
    have hjo : j < o.length := by omega
    have q := h.os o[j] (List.getElem_mem hjo)
    have hv : o[j] < (((L.map szB).length + s.length : Nat) : Int) := by rw [hlm]; exact q.2
    have hwl : (wv s L).length = I + s.length := by rw [wv_len, hL]
    have es : szB (gB (wv s L) o[j]) = rg (vl s (L.map szB)) o[j] := by
      rw [← wv_map szB szB_add s L hok, gB_map szB q.1 (by omega)]
    have ec : caB (gB (wv s L) o[j]) = rg (vl s (L.map caB)) o[j] := by
      rw [← wv_map caB caB_add s L hok, gB_map caB q.1 (by omega)]
    have h2000 : rg (vl s (L.map szB)) o[j] ≤ 2000 := hfit _ (rg_memL q.1 (by rw [vl_len]; exact hv))
    obtain ⟨r1, r2⟩ := good_row h q.1 q.2
    have hrb : ∀ m : Nat, m < I → 0 ≤ rg ((exps I s).getD o[j].toNat []) (m : Int) ∧ rg ((exps I s).getD o[j].toNat []) (m : Int) ≤ 1000000 := fun m hm => by
      rw [r2 m hm]
      exact ⟨rg_le0 (vl_ge (unitR_ge I m)) _, h.le m hm _ q.1 q.2⟩
    have e2 := l2_ev (I := I) (by omega) L hL hin _ r1 hrb I 0 (by omega)
    have d1 : ls (fun m => rg ((exps I s).getD o[j].toNat []) (m : Int) * szB (gB L (m : Int))) I = szB (gB (wv s L) o[j]) := by
      rw [es, vl_lin h.ok hlm o[j] q.1 q.2]
      exact ls_congr fun m hm => by rw [r2 m hm, gB_map szB (by omega) (by omega)]
    have d2 : ls (fun m => rg ((exps I s).getD o[j].toNat []) (m : Int) * caB (gB L (m : Int))) I = caB (gB (wv s L) o[j]) := by
      rw [ec, vl_lin h.ok (show (L.map caB).length = I by rw [List.length_map, hL]) o[j] q.1 q.2]
      exact ls_congr fun m hm => by rw [r2 m hm, gB_map caB (by omega) (by omega)]
    rw [d1, d2, List.drop_zero, show ((0 : Nat) : Int) = 0 from rfl] at e2
    have hs2 : (gB (wv s L) o[j]).size ≤ 2000 := by
      rw [← es] at h2000
      unfold szB at h2000
      omega
    have hper : (I : Int) = 1 → 0 < L.length ∧ ∀ m : Nat, m < (gB (wv s L) o[j]).size → 0 < (gB L 0).size ∧ gts (gB L 0) ((m % (gB L 0).size : Nat) : Int) = gts (gB (wv s L) o[j]) (m : Int) := by
      intro h1
      have hl1 : L.length = 1 := by omega
      refine ⟨by omega, fun m hm => ?_⟩
      have hall := wv_all (p := Per (gB L 0)) (fun a b => Per.add) s L hok fun x hx' => by
        obtain ⟨w, rfl⟩ := List.length_eq_one_iff.1 hl1
        rw [List.mem_singleton.1 hx']
        refine ⟨1, ?_⟩
        simp [gB]
      have hmem : gB (wv s L) o[j] ∈ wv s L := by
        obtain ⟨u, hu⟩ := Int.eq_ofNat_of_zero_le q.1
        rw [hu, gB_nat (show u < (wv s L).length by omega)]
        exact List.getElem_mem _
      exact (hall _ hmem).at hm
    have e3 := l3_ev (I : Int) L (gB (wv s L) o[j]) hs2 hper (gB (wv s L) o[j]).size 0 0 (by omega) (by omega)
    rw [List.drop_zero, show ((0 : Nat) : Int) = 0 from rfl, Int.zero_add] at e3
    have eg : gt (pw I s o) (j : Int) = some ((exps I s).getD o[j].toNat []) := by
      rw [gt_nat (show j < (pw I s o).length by rw [pw_len]; exact hjo)]
      simp [pw]
    have eh : gt (o.map (rg (vl s (L.map szB)))) (j : Int) = some (szB (gB (wv s L) o[j])) := by
      rw [gt_nat (show j < (o.map (rg (vl s (L.map szB)))).length by rw [List.length_map]; exact hjo), List.getElem_map, es]
    rw [List.drop_eq_getElem_cons hjo, List.map_cons]
    simp only [laws_FnRunsOfWords.l1]
    refine bind0 eg (bind e2 (bind e3 (neg (fun x => x rfl) (bind0 eh (neg (fun x => x rfl) (neg (fun x => x rfl) ?_))))))
    rw [show (j : Int) + 1 = ((j + 1 : Nat) : Int) by omega]
    exact ih (j + 1) (by omega)
theorem FnRunsOfWords : laws_FnRunsOfWords.Pure := by
  intro l0 l1 hl0 hb0 hl1 hb1
  refine some_of ?_
  unfold laws_FnRunsOfWords.f
  obtain ⟨b, e0, hb⟩ := big_eq l0 l1 hl0 hl1
  refine bind0 e0 ?_
  cases b with
  | true => exact pos rfl (ret _)
  | false =>
    refine neg (by simp) ?_
    obtain ⟨i, s, o, L, e1, ll, lz⟩ := drawRW (byte_in hb0) (hb rfl).1
    obtain ⟨i', s', o', g, e2, lg⟩ := drawWL (byte_in hb1) (hb rfl).2
    have a1 := rw_impl i s o L ll
    have a2 := rw_spec i s o L ll lz
    have a3 := wl_impl i s o (L.map szB)
    have a4 := wl_impl i' s' o' g
    have a5 := wl_spec i' s' o' g (by omega)
    have el := wl0_eq L [] 0 (by simp; omega)
    rw [List.nil_append] at el
    obtain ⟨⟨x, b'⟩, hX⟩ : ∃ X, wlR i' s' o' g = X := ⟨_, rfl⟩
    rw [hX] at a4 a5
    by_cases c : okL i s o (L.map szB) = true
    · have r1 : rwR i s o L = (o.map (gB (wv s L)), true) := by
        unfold rwR
        rw [if_pos c]
      have r2 : wlR i s o (L.map szB) = (o.map (rg (vl s (L.map szB))), true) := by
        unfold wlR
        rw [if_pos c]
      rw [r1] at a1 a2
      rw [r2] at a3
      obtain ⟨I, rfl, h, hL, hx, hf⟩ := okL_good c
      rw [List.length_map] at hL
      refine bind e1 (bind a1 (bind a2 (neg (by simp) (bind0 (rSameTexts_refl _) (pos rfl (bind0 el (bind a3 (neg (by simp) (bind e2 (bind a4 (bind a5 ?_)))))))))))
      refine neg (by simp) (bind0 (rSame_refl _) (pos rfl (pos rfl (bind (outEx_ev h) (pos rfl ?_)))))
      have e3 := wl1_ev h L hL hx hf o.length 0 (by omega)
      rw [List.drop_zero, show ((0 : Nat) : Int) = 0 from rfl] at e3
      exact bind e3 (ret _)
    · have r1 : rwR i s o L = ([], false) := by
        unfold rwR
        rw [if_neg c]
      have r2 : wlR i s o (L.map szB) = ([], false) := by
        unfold wlR
        rw [if_neg c]
      rw [r1] at a1 a2
      rw [r2] at a3
      refine bind e1 (bind a1 (bind a2 (neg (by simp) (bind0 (rSameTexts_refl _) (pos rfl (bind0 el (bind a3 (neg (by simp) (bind e2 (bind a4 (bind a5 ?_)))))))))))
      exact neg (by simp) (bind0 (rSame_refl _) (pos rfl (neg (by simp) (ret _))))
end Go.Proofs.Ytoegbcbdiggbjaa.Pure
