/- Pure: words along a plan; both sides of RunWords and WordLengths. -/
import Derived.Test.YtoegbcbdiggbjaaKFnRunsOfWordsPpw
set_option linter.unusedVariables false
set_option linter.unusedSimpArgs false
namespace Go.Proofs.Ytoegbcbdiggbjaa.Pure
open Go.RowKit Go.Proofs.Ytoegbcbdiggbjaa.E Go.Proofs.Ytoegbcbdiggbjaa.RW Go.Proofs.Ytoegbcbdiggbjaa.Hand Go.Proofs.Ytoegbcbdiggbjaa.Frame Go.Proofs.YtoegbcbdiggbjaaW.PrintLast Go.Proofs.YtoegbcbdiggbjaaW.PrintMore
open Go.Proofs.YtoegbcbdiggbjaaW.PrintWords hiding mn mx
/-! sums -/
def ls (f : Nat → Int) : Nat → Int
  | 0 => 0
  | n + 1 => ls f n + f n
theorem ls_congr {f g : Nat → Int} {n : Nat} (h : ∀ j, j < n → f j = g j) : ls f n = ls g n := by
  induction n with
  | zero => rfl
  | succ n ih => rw [ls, ls, ih fun j hj => h j (by omega), h n (by omega)]
theorem ls_add (f g : Nat → Int) (n : Nat) : ls (fun j => f j + g j) n = ls f n + ls g n := by
  induction n with
  | zero => rfl
  | succ n ih => simp only [ls, ih]; omega
theorem ls_delta (x : Nat → Int) (v n : Nat) : ls (fun j => (if v = j then 1 else 0) * x j) n = if v < n then x v else 0 := by
  induction n with
  | zero => rfl
  | succ n ih =>
    simp only [ls, ih]
    by_cases c : v = n
    · subst c
      rw [if_neg (by omega), if_pos rfl, if_pos (by omega), Int.one_mul, Int.zero_add]
    · rw [if_neg (c := v = n) c, Int.zero_mul, Int.add_zero]
      by_cases d : v < n
      · rw [if_pos d, if_pos (by omega)]
      · rw [if_neg d, if_neg (by omega)]
theorem ls_ge {f : Nat → Int} {n : Nat} (h : ∀ j, j < n → 0 ≤ f j) : 0 ≤ ls f n := by
  induction n with
  | zero => exact Int.le_refl 0
  | succ n ih =>
    have := ih fun j hj => h j (by omega)
    have := h n (by omega)
    simp only [ls]
    omega
/-- Each value is made of the inputs by its exponents. -/
theorem vl_lin {I : Nat} {s : List SStep} (hs : Ok I s) {L : List Int} (hL : L.length = I) (v : Int) (h0 : 0 ≤ v) (h1 : v < ((I + s.length : Nat) : Int)) : rg (vl s L) v = ls (fun j => rg (vl s (unitR I j)) v * rg L (j : Int)) I := by
  obtain ⟨n, hn⟩ : ∃ n, v.toNat = n := ⟨_, rfl⟩
  induction n using Nat.strongRecOn generalizing v with
  | _ n ih =>
    by_cases c : v < (I : Int)
    · obtain ⟨u, rfl⟩ := Int.eq_ofNat_of_zero_le h0
      rw [vl_pre _ _ h0 (by omega)]
      have : ls (fun j => rg (vl s (unitR I j)) (u : Int) * rg L (j : Int)) I = ls (fun j => (if u = j then 1 else 0) * rg L (j : Int)) I := ls_congr fun j hj => by
        rw [vl_pre _ _ h0 (by rw [unitR_len]; omega), unitR_rg hj h0 c]
        by_cases e : u = j
        · rw [if_pos (by omega), if_pos e]
        · rw [if_neg (by omega), if_neg e]
      rw [this, ls_delta (fun j => rg L (j : Int)) u I, if_pos (by omega)]
    · obtain ⟨x, rfl⟩ : ∃ x : Nat, v = ((I + x : Nat) : Int) := ⟨(v - (I : Int)).toNat, by omega⟩
      have hx : x < s.length := by omega
      have hy := List.getElem?_eq_getElem hx
      have q := hs.at hy
      have a1 := vl_at (l := L) (by rw [hL]; exact hs) hy
      rw [hL] at a1
      have e0 := ih s[x].f0.toNat (by omega) s[x].f0 (by omega) (by omega) rfl
      have e1 := ih s[x].f1.toNat (by omega) s[x].f1 (by omega) (by omega) rfl
      rw [a1, e0, e1, ← ls_add]
      refine ls_congr fun j hj => ?_
      have a2 := vl_at (l := unitR I j) (by rw [unitR_len]; exact hs) hy
      rw [unitR_len] at a2
      rw [a2, Int.add_mul]
/-! words -/
def gB (l : List ByteArray) (v : Int) : ByteArray := l.getD v.toNat ⟨#[]⟩
theorem gB_gt {l : List ByteArray} {v : Int} (h0 : 0 ≤ v) (h1 : v < (l.length : Int)) : gt l v = some (gB l v) := by
  obtain ⟨j, rfl⟩ := Int.eq_ofNat_of_zero_le h0
  rw [gt_nat (show j < l.length by omega)]
  unfold gB
  rw [Int.toNat_natCast, List.getD_eq_getElem?_getD, List.getElem?_eq_getElem (by omega)]
  rfl
def wv : List SStep → List ByteArray → List ByteArray
  | [], l => l
  | y :: ys, l => wv ys (l ++ [gB l y.f0 ++ gB l y.f1])
theorem wv_len (s : List SStep) (l : List ByteArray) : (wv s l).length = l.length + s.length := by
  induction s generalizing l with
  | nil => rfl
  | cons y ys ih =>
    rw [wv, ih, List.length_append, List.length_singleton, List.length_cons]
    omega
theorem gB_map (f : ByteArray → Int) {l : List ByteArray} {v : Int} (h0 : 0 ≤ v) (h1 : v < (l.length : Int)) : rg (l.map f) v = f (gB l v) := by
  obtain ⟨j, rfl⟩ := Int.eq_ofNat_of_zero_le h0
  rw [rg_nat (by rw [List.length_map]; omega), List.getElem_map]
  unfold gB
  rw [Int.toNat_natCast, List.getD_eq_getElem?_getD, List.getElem?_eq_getElem (by omega)]
  rfl
/-- What adds up along words adds up along values. -/
theorem wv_map (f : ByteArray → Int) (hf : ∀ a b, f (a ++ b) = f a + f b) (s : List SStep) (l : List ByteArray) (h : Ok l.length s) : (wv s l).map f = vl s (l.map f) := by
  induction s generalizing l with
  | nil => rfl
  | cons y ys ih =>
    have h1 := h.1
    rw [wv, vl, ih _ (by rw [List.length_append, List.length_singleton]; exact h.2), List.map_append, List.map_singleton, hf, gB_map f h1.1 (by omega), gB_map f (by omega) (by omega)]
def szB (a : ByteArray) : Int := (a.size : Int)
theorem szB_add (a b : ByteArray) : szB (a ++ b) = szB a + szB b := by
  unfold szB
  rw [ByteArray.size_append]
  omega
def caL (l : List UInt8) : Int := ((l.countP fun b => b == 97 : Nat) : Int)
def caB (a : ByteArray) : Int := caL a.data.toList
theorem caB_add (a b : ByteArray) : caB (a ++ b) = caB a + caB b := by
  unfold caB caL
  rw [ByteArray.data_append, Array.toList_append, List.countP_append]
  omega
/-- Do all sums of the steps stay small? -/
def fitB : List SStep → List Int → Bool
  | [], _ => true
  | y :: ys, l => decide (rg l y.f0 + rg l y.f1 ≤ 2000) && fitB ys (l ++ [rg l y.f0 + rg l y.f1])
theorem fit_iff (s : List SStep) (l : List Int) (hl : ∀ x ∈ l, x ≤ 2000) : fitB s l = true ↔ ∀ x ∈ vl s l, x ≤ 2000 := by
  induction s generalizing l with
  | nil => exact ⟨fun _ => hl, fun _ => rfl⟩
  | cons y ys ih =>
    simp only [fitB, vl, Bool.and_eq_true, decide_eq_true_eq]
    constructor
    · rintro ⟨h1, h2⟩
      exact (ih _ (fun x hx => by
        rcases List.mem_append.1 hx with hx | hx
        · exact hl x hx
        · rw [List.mem_singleton.1 hx]
          exact h1)).1 h2
    · intro h
      have hsub : ∀ x ∈ l ++ [rg l y.f0 + rg l y.f1], x ∈ vl ys (l ++ [rg l y.f0 + rg l y.f1]) := by
        intro x hx
        have key : ∀ (ys : List SStep) (m : List Int), ∀ x ∈ m, x ∈ vl ys m := by
          intro ys
          induction ys with
          | nil => exact fun m x hx => hx
          | cons z zs ih' => exact fun m x hx => ih' _ x (List.mem_append_left _ hx)
        exact key ys _ x hx
      have h1 := h _ (hsub _ (List.mem_append_right _ (List.mem_singleton.2 rfl)))
      exact ⟨h1, (ih _ (fun x hx => h x (hsub x hx))).2 h⟩
/-! the documentation's side -/
theorem wl_l0 (ys : List SStep) (L : List Int) (j : Int) (h : Ok L.length ys) (hL : ∀ x ∈ L, 0 ≤ x ∧ x ≤ 2000) (hb : L.length + ys.length ≤ 100000) : spec_WordLengths.l0 ys L j = some (cond (fitB ys L) (Sum.inr (vl ys L)) (Sum.inl ([], false))) := by
  induction ys generalizing L j with
  | nil => rfl
  | cons y ys ih =>
    have h1 := h.1
    simp only [List.length_cons] at hb
    have a0 := hL _ (rg_memL h1.1 (show y.f0 < (L.length : Int) by omega))
    have a1 := hL _ (rg_memL (show 0 ≤ y.f1 by omega) (show y.f1 < (L.length : Int) by omega))
    simp only [spec_WordLengths.l0, fitB, vl]
    rw [rg_gt h1.1 (by omega), Option.bind_some, rg_gt (by omega) (by omega), Option.bind_some, w64_id (by omega)]
    by_cases c : rg L y.f0 + rg L y.f1 ≤ 2000
    · rw [if_neg (by omega), ap_ok (by simp; omega), Option.bind_some, ih _ _ (by rw [List.length_append, List.length_singleton]; exact h.2) (fun x hx => by
        rcases List.mem_append.1 hx with hx | hx
        · exact hL x hx
        · rw [List.mem_singleton.1 hx]; omega) (by rw [List.length_append, List.length_singleton]; omega), decide_eq_true c, Bool.true_and]
    · rw [if_pos (by omega), decide_eq_false c]
      rfl
theorem rw_l0 (ys : List SStep) (L : List ByteArray) (j : Int) (h : Ok L.length ys) (hL : ∀ x ∈ L, x.size ≤ 100000) (hb : L.length + ys.length ≤ 100000) : spec_RunWords.l0 ys L j = some (cond (fitB ys (L.map szB)) (Sum.inr (wv ys L)) (Sum.inl ([], false))) := by
  induction ys generalizing L j with
  | nil => rfl
  | cons y ys ih =>
    have h1 := h.1
    simp only [List.length_cons] at hb
    have mem : ∀ v : Int, 0 ≤ v → v < (L.length : Int) → gB L v ∈ L := fun v v0 v1 => by
      obtain ⟨u, rfl⟩ := Int.eq_ofNat_of_zero_le v0
      unfold gB
      rw [Int.toNat_natCast, List.getD_eq_getElem?_getD, List.getElem?_eq_getElem (by omega)]
      exact List.getElem_mem _
    have a0 := hL _ (mem _ h1.1 (show y.f0 < (L.length : Int) by omega))
    have a1 := hL _ (mem _ (show 0 ≤ y.f1 by omega) (show y.f1 < (L.length : Int) by omega))
    simp only [spec_RunWords.l0, fitB, wv]
    rw [gB_gt h1.1 (by omega), Option.bind_some, gB_gt (by omega) (by omega), Option.bind_some, w64_id (by omega), gB_map szB h1.1 (by omega), gB_map szB (by omega) (by omega)]
    unfold szB
    by_cases c : ((gB L y.f0).size : Int) + ((gB L y.f1).size : Int) ≤ 2000
    · have hs : sap (gB L y.f0) (gB L y.f1) = some (gB L y.f0 ++ gB L y.f1) := by
        unfold sap
        rw [if_pos (by omega)]
      have hm : L.map (fun a => (a.size : Int)) ++ [((gB L y.f0).size : Int) + ((gB L y.f1).size : Int)] = (L ++ [gB L y.f0 ++ gB L y.f1]).map szB := by
        rw [List.map_append, List.map_singleton, szB_add]
        rfl
      rw [if_neg (by omega), Option.bind_some, Option.bind_some, hs, Option.bind_some, ap_ok (by simp; omega), Option.bind_some, ih _ _ (by rw [List.length_append, List.length_singleton]; exact h.2) (fun x hx => by
        rcases List.mem_append.1 hx with hx | hx
        · exact hL x hx
        · rw [List.mem_singleton.1 hx, ByteArray.size_append]; omega) (by rw [List.length_append, List.length_singleton]; omega), decide_eq_true c, Bool.true_and, ← hm]
    · rw [if_pos (by omega), decide_eq_false c]
      rfl
theorem rw_l1 (L : List ByteArray) (ys : List Int) (acc : List ByteArray) (j : Int) (h : ∀ y ∈ ys, 0 ≤ y ∧ y < (L.length : Int)) (hb : acc.length + ys.length ≤ 100000) : spec_RunWords.l1 L ys acc j = some (acc ++ ys.map (gB L)) := by
  induction ys generalizing acc j with
  | nil => simp [spec_RunWords.l1]
  | cons y ys ih =>
    have hy := h y List.mem_cons_self
    simp only [List.length_cons] at hb
    simp only [spec_RunWords.l1]
    rw [gB_gt hy.1 hy.2, Option.bind_some, ap_ok (by simp; omega), Option.bind_some, ih _ _ (fun z hz => h z (List.mem_cons_of_mem _ hz)) (by rw [List.length_append, List.length_singleton]; omega)]
    simp
theorem rw_l2 (ys : List ByteArray) (j : Int) : spec_RunWords.l2 ys j = some (if (∀ x ∈ ys, szB x ≤ 2000) then Sum.inr () else Sum.inl ([], false)) := by
  induction ys generalizing j with
  | nil => simp [spec_RunWords.l2]
  | cons y ys ih =>
    simp only [spec_RunWords.l2]
    by_cases c : szB y ≤ 2000
    · unfold szB at c
      rw [if_neg (by omega), ih]
      congr 1
      by_cases d : ∀ x ∈ ys, szB x ≤ 2000
      · rw [if_pos d, if_pos fun x hx => by
          rcases List.mem_cons.1 hx with e | hx
          · rw [e]; exact c
          · exact d x hx]
      · rw [if_neg d, if_neg fun q => d fun x hx => q x (List.mem_cons_of_mem _ hx)]
    · have c' := c
      unfold szB at c
      rw [if_pos (by omega), if_neg fun q => c' (q y List.mem_cons_self)]
theorem mp_l0 (L : List Int) (ys : List Int) (acc : List Int) (j : Int) (h : ∀ y ∈ ys, 0 ≤ y ∧ y < (L.length : Int)) (hb : acc.length + ys.length ≤ 100000) : spec_moPick.l0 L ys acc j = some (acc ++ ys.map (rg L)) := by
  induction ys generalizing acc j with
  | nil => simp [spec_moPick.l0]
  | cons y ys ih =>
    have hy := h y List.mem_cons_self
    simp only [List.length_cons] at hb
    simp only [spec_moPick.l0]
    rw [rg_gt hy.1 hy.2, Option.bind_some, ap_ok (by simp; omega), Option.bind_some, ih _ _ (fun z hz => h z (List.mem_cons_of_mem _ hz)) (by rw [List.length_append, List.length_singleton]; omega)]
    simp
/-! the program's side -/
theorem join2 (a b : ByteArray) (h : a.size + b.size ≤ 1000000) : strings_Join.f [a, b] ⟨#[]⟩ = some (a ++ b) := by
  have e : (Lib.join ([a, b].map (·.data.toList)) (⟨#[]⟩ : ByteArray).data.toList) = (a ++ b).data.toList := by
    rw [ByteArray.data_append, Array.toList_append]
    simp [Lib.join, List.intercalate]
  have hl : (a ++ b).data.toList.length ≤ 1000000 := by
    have := ByteArray.size_append (a := a) (b := b)
    have h2 : (a ++ b).data.toList.length = (a ++ b).size := by rw [Array.length_toList]; rfl
    omega
  unfold strings_Join.f
  rw [e, if_pos ⟨by rw [List.length_cons, List.length_singleton]; omega, by omega⟩]
theorem irs_l0 (ys : List SStep) (L : List ByteArray) (j : Int) (h : Ok L.length ys) (hL : ∀ x ∈ L, x.size ≤ 2000) (hf : fitB ys (L.map szB) = true) (hb : L.length + ys.length ≤ 100000) : impl_run_string.l0 ys L j = some (wv ys L) := by
  induction ys generalizing L j with
  | nil => rfl
  | cons y ys ih =>
    have h1 := h.1
    simp only [List.length_cons] at hb
    simp only [fitB, Bool.and_eq_true, decide_eq_true_eq] at hf
    obtain ⟨c, hf⟩ := hf
    rw [gB_map szB h1.1 (by omega), gB_map szB (by omega) (by omega)] at c hf
    have hm : L.map szB ++ [szB (gB L y.f0) + szB (gB L y.f1)] = (L ++ [gB L y.f0 ++ gB L y.f1]).map szB := by
      rw [List.map_append, List.map_singleton, szB_add]
    rw [hm] at hf
    unfold szB at c
    simp only [impl_run_string.l0, wv, impl_RunWords_1.f]
    rw [gB_gt h1.1 (by omega), Option.bind_some, gB_gt (by omega) (by omega), Option.bind_some, join2 _ _ (by omega), Option.bind_some, Option.bind_some, ap_ok (by simp; omega), Option.bind_some]
    exact ih _ _ (by rw [List.length_append, List.length_singleton]; exact h.2) (fun x hx => by
      rcases List.mem_append.1 hx with hx | hx
      · exact hL x hx
      · rw [List.mem_singleton.1 hx, ByteArray.size_append]; omega) hf (by rw [List.length_append, List.length_singleton]; omega)
def cap2 (x : Int) : Int := mn x 2001
theorem cap2_le {x : Int} : cap2 x ≤ 2000 ↔ x ≤ 2000 := by
  unfold cap2 mn
  split <;> omega
theorem cap2_id {x : Int} (h : x ≤ 2000) : cap2 x = x := by
  unfold cap2 mn
  rw [if_neg (by omega)]
theorem rg_cap {L : List Int} {v : Int} (h0 : 0 ≤ v) (h1 : v < (L.length : Int)) : rg (L.map cap2) v = cap2 (rg L v) := by
  obtain ⟨j, rfl⟩ := Int.eq_ofNat_of_zero_le h0
  rw [rg_nat (by rw [List.length_map]; omega), List.getElem_map, rg_nat (by omega)]
theorem iri_l0 (ys : List SStep) (L : List Int) (j : Int) (h : Ok L.length ys) (hL : ∀ x ∈ L, 0 ≤ x) (hb : L.length + ys.length ≤ 100000) : impl_run_int.l0 ys (L.map cap2) j = some ((vl ys L).map cap2) := by
  induction ys generalizing L j with
  | nil => rfl
  | cons y ys ih =>
    have h1 := h.1
    simp only [List.length_cons] at hb
    have a0 := hL _ (rg_memL h1.1 (show y.f0 < (L.length : Int) by omega))
    have a1 := hL _ (rg_memL (show 0 ≤ y.f1 by omega) (show y.f1 < (L.length : Int) by omega))
    have b0 : 0 ≤ cap2 (rg L y.f0) ∧ cap2 (rg L y.f0) ≤ 2001 := by unfold cap2 mn; split <;> omega
    have b1 : 0 ≤ cap2 (rg L y.f1) ∧ cap2 (rg L y.f1) ≤ 2001 := by unfold cap2 mn; split <;> omega
    have e : mn (cap2 (rg L y.f0) + cap2 (rg L y.f1)) 2001 = cap2 (rg L y.f0 + rg L y.f1) := by
      unfold cap2 mn
      (repeat' split) <;> omega
    simp only [impl_run_int.l0, impl_lengths_2.f, vl]
    rw [rg_gt h1.1 (by rw [List.length_map]; omega), Option.bind_some, rg_gt (by omega) (by rw [List.length_map]; omega), Option.bind_some, Option.bind_some, rg_cap h1.1 (by omega), rg_cap (by omega) (by omega), w64_id (by omega), e, ap_ok (by simp; omega), Option.bind_some]
    have := ih (L ++ [rg L y.f0 + rg L y.f1]) (j + 1) (by rw [List.length_append, List.length_singleton]; exact h.2) (fun x hx => by
      rcases List.mem_append.1 hx with hx | hx
      · exact hL x hx
      · rw [List.mem_singleton.1 hx]; omega) (by rw [List.length_append, List.length_singleton]; omega)
    rw [List.map_append, List.map_singleton] at this
    exact this
theorem mxl_l0 (l : List Int) (hl : l.length ≤ 100000) : ∀ (d j : Nat) (m : Int), j + d = l.length → ∃ v, Ev (fun k => slices_Max_int_int.l0 l k m (j : Int)) v ∧ (v ≤ 2000 ↔ m ≤ 2000 ∧ ∀ x ∈ l.drop j, x ≤ 2000) := by
  intro d
  induction d with
  | zero =>
    intro j m hj
    refine ⟨m, shift ?_, ?_⟩
    · simp only [slices_Max_int_int.l0]
      exact neg (by omega) (ret _)
    · rw [List.drop_of_length_le (by omega)]
      simp
  | succ d ih =>
    intro j m hj
    have hjl : j < l.length := by omega
    obtain ⟨v, e, hv⟩ := ih (j + 1) (mx m l[j]) (by omega)
    refine ⟨v, shift ?_, ?_⟩
    · simp only [slices_Max_int_int.l0]
      refine pos (by omega) (bind0 (gt_nat hjl) ?_)
      rw [w64_id (by omega), show (j : Int) + 1 = ((j + 1 : Nat) : Int) by omega]
      exact e
    · rw [hv, List.drop_eq_getElem_cons hjl]
      simp only [List.mem_cons, forall_eq_or_imp]
      have : mx m l[j] ≤ 2000 ↔ m ≤ 2000 ∧ l[j] ≤ 2000 := by
        unfold mx
        split <;> omega
      rw [this, and_assoc]
theorem mxl_ev (l : List Int) (hl : l.length ≤ 100000) (h0 : 0 < l.length) : ∃ v, Ev (fun k => slices_Max_int_int.f k l) v ∧ (v ≤ 2000 ↔ ∀ x ∈ l, x ≤ 2000) := by
  obtain ⟨v, e, hv⟩ := mxl_l0 l hl (l.length - 1) 1 l[0] (by omega)
  refine ⟨v, ?_, ?_⟩
  · unfold slices_Max_int_int.f
    exact neg (by omega) (bind0 (gt_nat h0) (bind e (ret _)))
  · have : l = l[0] :: l.drop 1 := by
      have := List.drop_eq_getElem_cons h0
      rwa [List.drop_zero] at this
    rw [hv]
    conv => rhs; rw [this]
    simp only [List.mem_cons, forall_eq_or_imp]
theorem tok_l0 (l : List Int) (j : Int) (hj : 0 ≤ j) : ∃ r, slices_IndexFunc_int_int_3.l0 l j = some r ∧ (if (∀ x ∈ l, 0 ≤ x ∧ x ≤ 2000) then r = Sum.inr () else ∃ m, r = Sum.inl m ∧ 0 ≤ m) := by
  induction l generalizing j with
  | nil => exact ⟨_, rfl, by simp⟩
  | cons y ys ih =>
    simp only [slices_IndexFunc_int_int_3.l0, impl_lengths_1.f, impl_textOk.f, in_eq, Option.bind_some]
    by_cases c : 0 ≤ y ∧ y ≤ 2000
    · rw [decide_eq_true c]
      obtain ⟨r, e1, e2⟩ := ih (j + 1) (by omega)
      refine ⟨r, by rw [if_neg (by simp)]; exact e1, ?_⟩
      by_cases d : ∀ x ∈ ys, 0 ≤ x ∧ x ≤ 2000
      · rw [if_pos d] at e2
        rw [if_pos fun x hx => by
          rcases List.mem_cons.1 hx with e | hx
          · rw [e]; exact c
          · exact d x hx]
        exact e2
      · rw [if_neg d] at e2
        rw [if_neg fun q => d fun x hx => q x (List.mem_cons_of_mem _ hx)]
        exact e2
    · rw [decide_eq_false c]
      refine ⟨_, by rw [if_pos (by simp)], ?_⟩
      rw [if_neg fun q => c (q y List.mem_cons_self)]
      exact ⟨_, rfl, hj⟩
theorem tok_eq (l : List Int) : slices_ContainsFunc_int_int_3.f l = some (!decide (∀ x ∈ l, 0 ≤ x ∧ x ≤ 2000)) := by
  obtain ⟨r, e1, e2⟩ := tok_l0 l 0 (by omega)
  unfold slices_ContainsFunc_int_int_3.f slices_IndexFunc_int_int_3.f
  rw [e1, Option.bind_some]
  by_cases c : ∀ x ∈ l, 0 ≤ x ∧ x ≤ 2000
  · rw [if_pos c] at e2
    rw [e2, decide_eq_true c]
    rfl
  · rw [if_neg c] at e2
    obtain ⟨m, rfl, hm⟩ := e2
    rw [decide_eq_false c]
    show some (decide (0 ≤ m)) = _
    rw [decide_eq_true hm]
    rfl
/-- Is all well with these lengths? -/
def okL (i : Int) (s : List SStep) (o : List Int) (l : List Int) : Bool := good i s o && (decide ((l.length : Int) = i) && (decide (∀ x ∈ l, 0 ≤ x ∧ x ≤ 2000) && fitB s l))
theorem lens_ev (i : Int) (s : List SStep) (o l : List Int) : ∃ m, Ev (fun k => impl_lengths.f k i s o l) (m, okL i s o l) ∧ (okL i s o l = true → m = vl s l) := by
  have e1 := isPlan_ev i s o
  unfold impl_lengths.f okL
  cases hg : good i s o with
  | false =>
    rw [hg] at e1
    exact ⟨_, bind e1 (neg (by simp) (ret _)), by simp⟩
  | true =>
    rw [hg] at e1
    obtain ⟨I, rfl, h⟩ := good_Good hg
    have g1 := h.inp
    have g2 := h.stp
    by_cases c : (l.length : Int) = (I : Int)
    · rw [decide_eq_true c]
      have et := tok_eq l
      by_cases d : ∀ x ∈ l, 0 ≤ x ∧ x ≤ 2000
      · rw [decide_eq_true d] at et ⊢
        have hl : l.length = I := by omega
        have hcap : l.map cap2 = l := by
          conv => rhs; rw [← List.map_id l]
          exact List.map_congr_left fun x hx => cap2_id (d x hx).2
        have hr := iri_l0 s l 0 (by rw [hl]; exact h.ok) (fun x hx => (d x hx).1) (by omega)
        rw [hcap] at hr
        have hrun : impl_run_int.f (I : Int) s o l = some ((vl s l).map cap2) := by
          unfold impl_run_int.f
          rw [cloneI_eq l (by omega), Option.bind_some, hr]
          rfl
        obtain ⟨v, e3, hv⟩ := mxl_ev ((vl s l).map cap2) (by rw [List.length_map, vl_len]; omega) (by rw [List.length_map, vl_len]; omega)
        have hfit : decide (v ≤ 2000) = fitB s l := by
          refine Bool.eq_iff_iff.2 ?_
          rw [decide_eq_true_eq, hv, fit_iff s l fun x hx => (d x hx).2]
          constructor
          · intro q x hx
            exact cap2_le.1 (q _ (List.mem_map.2 ⟨x, hx, rfl⟩))
          · intro q x hx
            obtain ⟨z, hz, rfl⟩ := List.mem_map.1 hx
            exact cap2_le.2 (q z hz)
        refine ⟨(vl s l).map cap2, ?_, fun q => ?_⟩
        · refine bind e1 (pos rfl (neg (by simp [c]) (bind0 et (neg (by simp) (bind0 hrun (bind e3 ?_))))))
          rw [hfit]
          exact ret _
        · simp only [Bool.true_and] at q
          have := (fit_iff s l fun x hx => (d x hx).2).1 q
          conv => rhs; rw [← List.map_id (vl s l)]
          exact List.map_congr_left fun x hx => cap2_id (this x hx)
      · rw [decide_eq_false d] at et ⊢
        exact ⟨_, bind e1 (pos rfl (neg (by simp [c]) (bind0 et (pos (by simp) (ret _))))), by simp⟩
    · rw [decide_eq_false c]
      exact ⟨_, bind e1 (pos rfl (pos c (ret _))), by simp⟩
theorem oi_l0 (L : List Int) (ys : List Int) (acc : List Int) (j : Int) (h : ∀ y ∈ ys, 0 ≤ y ∧ y < (L.length : Int)) (hb : acc.length + ys.length ≤ 100000) : impl_outputsOf_int.l0 L ys acc j = some (acc ++ ys.map (rg L)) := by
  induction ys generalizing acc j with
  | nil => simp [impl_outputsOf_int.l0]
  | cons y ys ih =>
    have hy := h y List.mem_cons_self
    simp only [List.length_cons] at hb
    simp only [impl_outputsOf_int.l0]
    rw [rg_gt hy.1 hy.2, Option.bind_some, ap_ok (by simp; omega), Option.bind_some, ih _ _ (fun z hz => h z (List.mem_cons_of_mem _ hz)) (by rw [List.length_append, List.length_singleton]; omega)]
    simp
theorem os_l0 (L : List ByteArray) (ys : List Int) (acc : List ByteArray) (j : Int) (h : ∀ y ∈ ys, 0 ≤ y ∧ y < (L.length : Int)) (hb : acc.length + ys.length ≤ 100000) : impl_outputsOf_string.l0 L ys acc j = some (acc ++ ys.map (gB L)) := by
  induction ys generalizing acc j with
  | nil => simp [impl_outputsOf_string.l0]
  | cons y ys ih =>
    have hy := h y List.mem_cons_self
    simp only [List.length_cons] at hb
    simp only [impl_outputsOf_string.l0]
    rw [gB_gt hy.1 hy.2, Option.bind_some, ap_ok (by simp; omega), Option.bind_some, ih _ _ (fun z hz => h z (List.mem_cons_of_mem _ hz)) (by rw [List.length_append, List.length_singleton]; omega)]
    simp
def wlR (i : Int) (s : List SStep) (o l : List Int) : List Int × Bool := if okL i s o l = true then (o.map (rg (vl s l)), true) else ([], false)
theorem okL_good {i : Int} {s : List SStep} {o l : List Int} (h : okL i s o l = true) : ∃ I : Nat, i = (I : Int) ∧ Good I s o ∧ l.length = I ∧ (∀ x ∈ l, 0 ≤ x ∧ x ≤ 2000) ∧ fitB s l = true := by
  unfold okL at h
  simp only [Bool.and_eq_true, decide_eq_true_eq] at h
  obtain ⟨h1, h2, h3, h4⟩ := h
  obtain ⟨I, rfl, hg⟩ := good_Good h1
  exact ⟨I, rfl, hg, by omega, h3, h4⟩
theorem wl_impl (i : Int) (s : List SStep) (o l : List Int) : Ev (fun k => impl_WordLengths.f k i s o l) (wlR i s o l) := by
  obtain ⟨m, e, hm⟩ := lens_ev i s o l
  unfold impl_WordLengths.f wlR
  cases hk : okL i s o l with
  | false =>
    rw [hk] at e
    exact bind e (neg (by simp) (ret _))
  | true =>
    rw [hk] at e
    obtain ⟨I, rfl, h, hl, hx, hf⟩ := okL_good hk
    have g2 := h.out
    rw [hm hk] at e
    have eo : impl_outputsOf_int.f (I : Int) s o (vl s l) = some (o.map (rg (vl s l))) := by
      unfold impl_outputsOf_int.f
      rw [oi_l0 _ o [] 0 (fun y hy => by rw [vl_len, hl]; exact h.os y hy) (by simp; omega)]
      rfl
    exact bind e (pos rfl (bind0 eo (ret _)))
theorem wl_spec (i : Int) (s : List SStep) (o l : List Int) (hll : l.length ≤ 100000) : Ev (fun k => spec_WordLengths.f k i s o l) (wlR i s o l) := by
  have e1 := plGood_ev i s o
  unfold spec_WordLengths.f wlR okL
  cases hg : good i s o with
  | false =>
    rw [hg] at e1
    exact bind e1 (neg (by simp) (ret _))
  | true =>
    rw [hg] at e1
    obtain ⟨I, rfl, h⟩ := good_Good hg
    have g1 := h.inp
    have g2 := h.stp
    have g3 := h.out
    by_cases c : (l.length : Int) = (I : Int)
    · rw [decide_eq_true c]
      have ea := l1All_eq l 0 2000
      have eb : aB 0 2000 l = decide (∀ x ∈ l, 0 ≤ x ∧ x ≤ 2000) := by
        unfold aB
        refine Bool.eq_iff_iff.2 ?_
        simp only [List.all_eq_true, decide_eq_true_eq]
      rw [eb] at ea
      by_cases d : ∀ x ∈ l, 0 ≤ x ∧ x ≤ 2000
      · rw [decide_eq_true d] at ea ⊢
        have hl : l.length = I := by omega
        have e2 := wl_l0 s l 0 (by rw [hl]; exact h.ok) d (by omega)
        refine bind e1 (pos rfl (neg (by simp [c]) (bind0 ea (pos rfl (bind0 (l1Own_eq l (by omega)) (bind0 e2 ?_))))))
        cases hf : fitB s l with
        | false => exact ret _
        | true =>
          have ep : spec_moPick.f (vl s l) o = some (o.map (rg (vl s l))) := by
            unfold spec_moPick.f
            rw [mp_l0 _ o [] 0 (fun y hy => by rw [vl_len, hl]; exact h.os y hy) (by simp; omega)]
            rfl
          exact bind0 ep (ret _)
      · rw [decide_eq_false d] at ea ⊢
        exact bind e1 (pos rfl (neg (by simp [c]) (bind0 ea (neg (by simp) (ret _)))))
    · rw [decide_eq_false c]
      exact bind e1 (pos rfl (pos c (ret _)))
def rwR (i : Int) (s : List SStep) (o : List Int) (l : List ByteArray) : List ByteArray × Bool := if okL i s o (l.map szB) = true then (o.map (gB (wv s l)), true) else ([], false)
theorem rwl_l0 (ys : List ByteArray) (acc : List Int) (j : Int) (hb : acc.length + ys.length ≤ 100000) : impl_RunWords.l0 ys acc j = some (acc ++ ys.map szB) := by
  induction ys generalizing acc j with
  | nil => simp [impl_RunWords.l0]
  | cons y ys ih =>
    simp only [List.length_cons] at hb
    simp only [impl_RunWords.l0]
    rw [ap_ok (by simp; omega), Option.bind_some, ih _ _ (by rw [List.length_append, List.length_singleton]; omega)]
    simp [szB]
theorem rw_impl (i : Int) (s : List SStep) (o : List Int) (l : List ByteArray) (hll : l.length ≤ 1000) : Ev (fun k => impl_RunWords.f k i s o l) (rwR i s o l) := by
  obtain ⟨m, e, hm⟩ := lens_ev i s o (l.map szB)
  have e0 := rwl_l0 l [] 0 (by simp; omega)
  rw [List.nil_append] at e0
  unfold impl_RunWords.f rwR
  cases hk : okL i s o (l.map szB) with
  | false =>
    rw [hk] at e
    exact bind0 e0 (bind e (neg (by simp) (ret _)))
  | true =>
    rw [hk] at e
    obtain ⟨I, rfl, h, hl, hx, hf⟩ := okL_good hk
    rw [List.length_map] at hl
    have g1 := h.inp
    have g2 := h.stp
    have g3 := h.out
    have e3 : impl_run_string.f (I : Int) s o l = some (wv s l) := by
      unfold impl_run_string.f slices_Clone_string_string.f
      rw [ap_ok (by simp; omega), Option.bind_some, List.nil_append, Option.bind_some, irs_l0 s l 0 (by rw [hl]; exact h.ok) (fun x q => by have := (hx (szB x) (List.mem_map.2 ⟨x, q, rfl⟩)).2; unfold szB at this; omega) hf (by omega)]
      rfl
    have eo : impl_outputsOf_string.f (I : Int) s o (wv s l) = some (o.map (gB (wv s l))) := by
      unfold impl_outputsOf_string.f
      rw [os_l0 _ o [] 0 (fun y hy => by rw [wv_len, hl]; exact h.os y hy) (by simp; omega)]
      rfl
    exact bind0 e0 (bind e (pos rfl (bind0 e3 (bind0 eo (ret _)))))
theorem rw_spec (i : Int) (s : List SStep) (o : List Int) (l : List ByteArray) (hll : l.length ≤ 1000) (hsz : ∀ x ∈ l, x.size ≤ 100000) : Ev (fun k => spec_RunWords.f k i s o l) (rwR i s o l) := by
  have e1 := plGood_ev i s o
  unfold spec_RunWords.f rwR okL
  cases hg : good i s o with
  | false =>
    rw [hg] at e1
    exact bind e1 (neg (by simp) (ret _))
  | true =>
    rw [hg] at e1
    obtain ⟨I, rfl, h⟩ := good_Good hg
    have g1 := h.inp
    have g2 := h.stp
    have g3 := h.out
    rw [List.length_map]
    by_cases c : (l.length : Int) = (I : Int)
    · rw [decide_eq_true c]
      have hl : l.length = I := by omega
      have e2 := rw_l0 s l 0 (by rw [hl]; exact h.ok) hsz (by omega)
      have eown : spec_l1OwnS.f l = some l := by
        unfold spec_l1OwnS.f
        rw [ap_ok (by simp; omega)]
        rfl
      refine bind e1 (pos rfl (neg (by simp [c]) (bind0 eown (bind0 e2 ?_))))
      have hd : decide (∀ x ∈ l.map szB, 0 ≤ x ∧ x ≤ 2000) = decide (∀ x ∈ l, szB x ≤ 2000) := by
        refine decide_eq_decide.2 ⟨fun q x hx => (q _ (List.mem_map.2 ⟨x, hx, rfl⟩)).2, fun q x hx => ?_⟩
        obtain ⟨z, hz, rfl⟩ := List.mem_map.1 hx
        exact ⟨by unfold szB; omega, q z hz⟩
      rw [hd]
      cases hf : fitB s (l.map szB) with
      | false =>
        rw [Bool.and_false]
        exact ret _
      | true =>
        have e4 := rw_l1 (wv s l) o [] 0 (fun y hy => by rw [wv_len, hl]; exact h.os y hy) (by simp; omega)
        refine bind0 e4 (bind0 (rw_l2 l 0) ?_)
        rw [List.nil_append, Bool.and_true]
        by_cases d : ∀ x ∈ l, szB x ≤ 2000
        · rw [if_pos d, decide_eq_true d]
          exact ret _
        · rw [if_neg d, decide_eq_false d]
          exact ret _
    · rw [decide_eq_false c]
      exact bind e1 (pos rfl (pos c (ret _)))
end Go.Proofs.Ytoegbcbdiggbjaa.Pure
