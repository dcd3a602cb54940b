/- Pure: Ptx, Ptr. -/
import Derived.Test.YtnnlfipcoahcnaaGreatDoorKFnTextsOfPlansPval
import Derived.Test.YtnnlfipcoahcnaaGreatDoorKFnTextsOfPlansTxl
import Derived.Lib.CutLaws
set_option linter.unusedVariables false
set_option linter.unusedSimpArgs false
namespace Go.Proofs.YtnnlfipcoahcnaaGreatDoor.Pure
open Go.RowKit Go.Proofs.YtnnlfipcoahcnaaGreatDoor.E Go.Proofs.YtnnlfipcoahcnaaGreatDoor.G2 Go.Proofs.YtnnlfipcoahcnaaGreatDoor.Hand Go.Proofs.YtnnlfipcoahcnaaGreatDoor.Frame Go.Proofs.YtnnlfipcoahcnaaGreatDoorW.PrintLast Go.Proofs.YtnnlfipcoahcnaaGreatDoorW.PrintMore Go.Lib Go.Proofs.YtnnlfipcoahcnaaGreatDoor.Txl
open Go.Proofs.YtnnlfipcoahcnaaGreatDoorW.PrintWords hiding mn mx
def bs (l : List UInt8) : ByteArray := ⟨l.toArray⟩
theorem bs_data (l : List UInt8) : (bs l).data.toList = l := by simp [bs]
theorem bs_size (l : List UInt8) : (bs l).size = l.length := by simp [bs, ByteArray.size]
theorem bs_of (a : ByteArray) : bs a.data.toList = a := by
  cases a
  simp [bs]
theorem bs_inj {a b : List UInt8} (h : bs a = bs b) : a = b := by
  have := congrArg (fun x : ByteArray => x.data.toList) h
  simpa [bs] using this
theorem bs_app (a b : List UInt8) : bs a ++ bs b = bs (a ++ b) := by
  apply ByteArray.ext
  simp [bs, ByteArray.data_append]
theorem sap_bs {a b : List UInt8} (h : a.length + b.length ≤ 1000000000) : sap (bs a) (bs b) = some (bs (a ++ b)) := by
  unfold sap
  rw [bs_size, bs_size, if_pos h, bs_app]
def dn (n : Int) : List UInt8 := decDigits n.toNat
theorem dn_len {n : Int} (h : 0 ≤ n ∧ n < 100) : 1 ≤ (dn n).length ∧ (dn n).length ≤ 2 := by
  unfold dn
  by_cases c : n.toNat < 10
  · rw [decDigits_one c]
    simp
  · rw [decDigits_two c (by omega)]
    simp
theorem dn_dig (n : Int) : ∀ c ∈ dn n, dig c = true := dec_dig _
theorem itoa_eq {n : Int} (h : 0 ≤ n ∧ n < 100) : strconv_Itoa.f n = some (bs (dn n)) := if_pos h
theorem u8w {x : Int} (h : 0 ≤ x ∧ x < 256) : IntKind.u8.wrap x = x := by
  simp only [IntKind.wrap, IntKind.signed, IntKind.bits, Bool.false_and, Bool.false_eq_true, if_false]
  omega
theorem str_one {x : Int} (h : 0 ≤ x ∧ x < 10) : strOfNums ([IntKind.u8.wrap (w64 (48 + x))] : List Int) = bs [UInt8.ofNat (48 + x.toNat)] := by
  rw [zas (by omega), u8w (by omega)]
  unfold strOfNums bs
  rw [List.map_cons, List.map_nil, show (48 + x).toNat = 48 + x.toNat by omega]
theorem num1_ev {n : Int} (h : 0 ≤ n ∧ n < 10) : Ev (fun k => spec_l1Num.f k n) (bs (dn n)) := by
  refine shift ?_
  simp only [spec_l1Num.f]
  refine pos h.2 ?_
  rw [str_one h]
  unfold dn
  rw [decDigits_one (by omega)]
  exact ret _
theorem num_ev {n : Int} (h : 0 ≤ n ∧ n < 100) : Ev (fun k => spec_l1Num.f k n) (bs (dn n)) := by
  by_cases c : n < 10
  · exact num1_ev ⟨h.1, c⟩
  · refine shift ?_
    simp only [spec_l1Num.f]
    obtain ⟨m, rfl⟩ := Int.eq_ofNat_of_zero_le h.1
    have e1 : ((m : Int)).tdiv 10 = ((m / 10 : Nat) : Int) := rfl
    have e2 : ((m : Int)).tmod 10 = ((m % 10 : Nat) : Int) := rfl
    refine neg c ?_
    rw [e1, e2, zas (by omega), str_one (by omega)]
    refine bind (num1_ev (by omega)) (bind0 (sap_bs (by have := dn_len (n := ((m / 10 : Nat) : Int)) (by omega); rw [List.length_singleton]; omega)) ?_)
    have e : dn (m : Int) = dn ((m / 10 : Nat) : Int) ++ [UInt8.ofNat (48 + ((m % 10 : Nat) : Int).toNat)] := by
      unfold dn
      rw [Int.toNat_natCast, Int.toNat_natCast, Int.toNat_natCast, decDigits_two (by omega) (by omega), decDigits_one (by omega)]
      rfl
    rw [e]
    exact ret _
/-! lists of numbers -/
def lsd (ps : List (List UInt8)) : List UInt8 := if ps = [] then [45] else jn 44 ps
theorem jn_len (b : UInt8) (c : Nat) : ∀ ps : List (List UInt8), (∀ p ∈ ps, p.length ≤ c) → (jn b ps).length ≤ ps.length * (c + 1)
  | [], _ => by simp [jn]
  | [x], h => by
    have := h x (by simp)
    simp [jn]
    omega
  | x :: y :: t, h => by
    have h1 := h x (by simp)
    have h2 := jn_len b c (y :: t) (fun p hp => h p (List.mem_cons_of_mem _ hp))
    show (x ++ b :: jn b (y :: t)).length ≤ (t.length + 1 + 1) * (c + 1)
    rw [Nat.succ_mul, List.length_append, List.length_cons]
    simp only [List.length_cons] at h2
    omega
theorem lsd_len {ps : List (List UInt8)} {c : Nat} (h : ∀ p ∈ ps, p.length ≤ c) : (lsd ps).length ≤ ps.length * (c + 1) + 1 := by
  unfold lsd
  split
  · simp
  · have := jn_len 44 c ps h
    omega
theorem map_bs (ps : List (List UInt8)) : (ps.map bs).map (fun a : ByteArray => a.data.toList) = ps := by
  rw [List.map_map]
  conv => rhs; rw [← List.map_id ps]
  exact List.map_congr_left fun p _ => bs_data p
theorem listed_eq {ps : List (List UInt8)} (h : ∀ p ∈ ps, p.length ≤ 1000) (hl : ps.length ≤ 1000) : impl_listed.f (ps.map bs) = some (bs (lsd ps)) := by
  unfold impl_listed.f lsd
  rw [List.length_map]
  by_cases c : ps = []
  · subst c
    rfl
  · have hp : 0 < ps.length := List.length_pos_iff.2 c
    rw [if_neg (by omega), if_neg c]
    have e : strings_Join.f (ps.map bs) (⟨#[44]⟩ : ByteArray) = some (bs (jn 44 ps)) := by
      unfold strings_Join.f
      rw [map_bs]
      have e1 : Lib.join ps ((⟨#[44]⟩ : ByteArray).data.toList) = jn 44 ps := jn_join 44 ps
      rw [e1, if_pos]
      · rfl
      · have := jn_len 44 1000 ps h
        rw [List.length_map]
        have h2 : ps.length * (1000 + 1) ≤ 1000 * 1001 := Nat.mul_le_mul_right _ hl
        omega
    rw [e]
    rfl
theorem ntext_l0 (l : List Int) (acc : List ByteArray) (i : Int) (h : ∀ y ∈ l, 0 ≤ y ∧ y < 100) (hb : acc.length + l.length ≤ 100000) : impl_numbersText.l0 l acc i = some (acc ++ (l.map dn).map bs) := by
  induction l generalizing acc i with
  | nil => simp [impl_numbersText.l0]
  | cons y ys ih =>
    simp only [List.length_cons] at hb
    simp only [impl_numbersText.l0]
    rw [itoa_eq (h y (by simp)), Option.bind_some, ap_ok (by simp; omega), Option.bind_some, ih _ _ (fun z hz => h z (List.mem_cons_of_mem _ hz)) (by simp; omega)]
    simp
theorem dn_le {l : List Int} (h : ∀ y ∈ l, 0 ≤ y ∧ y < 100) : ∀ p ∈ l.map dn, p.length ≤ 2 := fun p hp => by
  obtain ⟨y, hy, rfl⟩ := List.mem_map.1 hp
  exact (dn_len (h y hy)).2
theorem ntext_eq {l : List Int} (h : ∀ y ∈ l, 0 ≤ y ∧ y < 100) (hl : l.length ≤ 1000) : impl_numbersText.f l = some (bs (lsd (l.map dn))) := by
  unfold impl_numbersText.f
  rw [ntext_l0 l [] 0 h (by simp; omega), Option.bind_some, List.nil_append, listed_eq (fun p hp => Nat.le_trans (dn_le h p hp) (by omega)) (by rw [List.length_map]; exact hl)]
  rfl
def sst (y : SStep) : List UInt8 := dn y.f0 ++ 42 :: dn y.f1
def Lo (s : List SStep) : Prop := ∀ y ∈ s, (0 ≤ y.f0 ∧ y.f0 < 100) ∧ (0 ≤ y.f1 ∧ y.f1 < 100)
theorem sst_le {s : List SStep} (h : Lo s) : ∀ p ∈ s.map sst, p.length ≤ 5 := fun p hp => by
  obtain ⟨y, hy, rfl⟩ := List.mem_map.1 hp
  have h1 := dn_len (h y hy).1
  have h2 := dn_len (h y hy).2
  unfold sst
  rw [List.length_append, List.length_cons]
  omega
theorem ptext_l0 (s : List SStep) (acc : List ByteArray) (i : Int) (h : Lo s) (hb : acc.length + s.length ≤ 100000) : impl_Plan_text.l0 s acc i = some (acc ++ (s.map sst).map bs) := by
  induction s generalizing acc i with
  | nil => simp [impl_Plan_text.l0]
  | cons y ys ih =>
    have hy := h y (by simp)
    have l0 := dn_len hy.1
    have l1 := dn_len hy.2
    simp only [List.length_cons] at hb
    simp only [impl_Plan_text.l0]
    rw [itoa_eq hy.1, Option.bind_some, show (⟨#[42]⟩ : ByteArray) = bs [42] from rfl, sap_bs (by simp; omega), Option.bind_some, itoa_eq hy.2, Option.bind_some, sap_bs (by simp; omega), Option.bind_some, ap_ok (by simp; omega), Option.bind_some, ih _ _ (fun z hz => h z (List.mem_cons_of_mem _ hz)) (by simp; omega)]
    simp [sst]
/-- the text of a plan -/
def ptx (i : Int) (s : List SStep) (o : List Int) : List UInt8 := dn i ++ 58 :: (lsd (s.map sst) ++ 58 :: lsd (o.map dn))
theorem ptext_eq {i : Int} {s : List SStep} {o : List Int} (hi : 0 ≤ i ∧ i < 100) (hs : Lo s) (hl : s.length ≤ 1000) (ho : ∀ y ∈ o, 0 ≤ y ∧ y < 100) (hm : o.length ≤ 1000) : impl_Plan_text.f i s o = some (bs (ptx i s o)) := by
  have k1 := dn_len hi
  have k2 := lsd_len (sst_le hs)
  have k3 := lsd_len (dn_le ho)
  rw [List.length_map] at k2 k3
  unfold impl_Plan_text.f
  rw [ptext_l0 s [] 0 hs (by simp; omega), Option.bind_some, List.nil_append, itoa_eq hi, Option.bind_some, show (⟨#[58]⟩ : ByteArray) = bs [58] from rfl, sap_bs (by simp; omega), Option.bind_some, listed_eq (fun p hp => Nat.le_trans (sst_le hs p hp) (by omega)) (by rw [List.length_map]; exact hl), Option.bind_some, sap_bs (by simp; omega), Option.bind_some, sap_bs (by simp; omega), Option.bind_some, ntext_eq ho hm, Option.bind_some, sap_bs (by simp; omega), Option.bind_some]
  unfold ptx
  simp
theorem plList_l0 (l : List Int) (ds : List (List UInt8)) (i : Int) (hi : i = (ds.length : Int)) (h : ∀ y ∈ l, 0 ≤ y ∧ y < 100) (hd : ∀ p ∈ ds, p.length ≤ 100) (hb : ds.length + l.length ≤ 2000) : Ev (fun k => spec_plList.l0 k l i (bs (jn 44 ds))) (bs (jn 44 (ds ++ l.map dn))) := by
  induction l generalizing ds i with
  | nil =>
    simp only [spec_plList.l0, List.map_nil, List.append_nil]
    exact ret _
  | cons y ys ih =>
    have hy := h y (by simp)
    have l0 := dn_len hy
    have hj := jn_len 44 100 ds hd
    simp only [List.length_cons] at hb
    have hj2 : ds.length * (100 + 1) ≤ 2000 * 101 := Nat.mul_le_mul_right _ (by omega)
    have hnext := ih (ds ++ [dn y]) (i + 1) (by simp; omega) (fun z hz => h z (List.mem_cons_of_mem _ hz)) (fun p hp => by
      rcases List.mem_append.1 hp with hp | hp
      · exact hd p hp
      · rw [List.mem_singleton.1 hp]; omega) (by simp; omega)
    rw [List.append_assoc] at hnext
    simp only [spec_plList.l0]
    by_cases c : ds = []
    · subst c
      refine bind0 (if_neg (by rw [hi]; simp)) (bind (num_ev hy) (bind0 (sap_bs (by simp [jn]; omega)) ?_))
      exact hnext
    · have hp : 0 < ds.length := List.length_pos_iff.2 c
      refine bind0 (a := bs (jn 44 ds ++ [44])) ?_ (bind (num_ev hy) (bind0 (sap_bs (by simp; omega)) ?_))
      · rw [if_pos (by omega), show (⟨#[44]⟩ : ByteArray) = bs [44] from rfl, sap_bs (by simp; omega)]
        rfl
      · rw [jn_append 44 _ c] at hnext
        rw [List.append_assoc]
        exact hnext
theorem plList_ev {l : List Int} (h : ∀ y ∈ l, 0 ≤ y ∧ y < 100) (hl : l.length ≤ 1000) : Ev (fun k => spec_plList.f k l) (bs (lsd (l.map dn))) := by
  unfold spec_plList.f lsd
  by_cases c : l = []
  · subst c
    exact pos rfl (ret _)
  · have hp : 0 < l.length := List.length_pos_iff.2 c
    rw [if_neg (by simpa using c)]
    have := plList_l0 l [] 0 rfl h (by simp) (by simp; omega)
    exact neg (by omega) (bind this (ret _))
theorem plText_l0 (l : List SStep) (ds : List (List UInt8)) (i : Int) (hi : i = (ds.length : Int)) (h : Lo l) (hd : ∀ p ∈ ds, p.length ≤ 100) (hb : ds.length + l.length ≤ 2000) : Ev (fun k => spec_plText.l0 k l (bs (jn 44 ds)) i) (bs (jn 44 (ds ++ l.map sst))) := by
  induction l generalizing ds i with
  | nil =>
    simp only [spec_plText.l0, List.map_nil, List.append_nil]
    exact ret _
  | cons y ys ih =>
    have hy := h y (by simp)
    have l0 := dn_len hy.1
    have l1 := dn_len hy.2
    have hj := jn_len 44 100 ds hd
    simp only [List.length_cons] at hb
    have hj2 : ds.length * (100 + 1) ≤ 2000 * 101 := Nat.mul_le_mul_right _ (by omega)
    have hst : (sst y).length ≤ 5 := by unfold sst; rw [List.length_append, List.length_cons]; omega
    have hnext := ih (ds ++ [sst y]) (i + 1) (by simp; omega) (fun z hz => h z (List.mem_cons_of_mem _ hz)) (fun p hp => by
      rcases List.mem_append.1 hp with hp | hp
      · exact hd p hp
      · rw [List.mem_singleton.1 hp]; omega) (by simp; omega)
    rw [List.append_assoc] at hnext
    simp only [spec_plText.l0]
    have e1 : sap (bs (dn y.f0)) (⟨#[42]⟩ : ByteArray) = some (bs (dn y.f0 ++ [42])) := sap_bs (b := [42]) (by simp; omega)
    have e2 : sap (bs (dn y.f0 ++ [42])) (bs (dn y.f1)) = some (bs (sst y)) := by
      rw [sap_bs (by simp; omega)]
      unfold sst
      simp
    by_cases c : ds = []
    · subst c
      refine bind0 (if_neg (by rw [hi]; simp)) (bind (num_ev hy.1) (bind0 e1 (bind (num_ev hy.2) (bind0 e2 (bind0 (sap_bs (by simp [jn]; omega)) ?_)))))
      exact hnext
    · have hp : 0 < ds.length := List.length_pos_iff.2 c
      refine bind0 (a := bs (jn 44 ds ++ [44])) ?_ (bind (num_ev hy.1) (bind0 e1 (bind (num_ev hy.2) (bind0 e2 (bind0 (sap_bs (by simp; omega)) ?_)))))
      · rw [if_pos (by omega), show (⟨#[44]⟩ : ByteArray) = bs [44] from rfl, sap_bs (by simp; omega)]
        rfl
      · rw [jn_append 44 _ c] at hnext
        rw [List.append_assoc]
        exact hnext
theorem jn_ne {b : UInt8} {ps : List (List UInt8)} (h : ps ≠ []) (hp : ∀ p ∈ ps, p ≠ []) : jn b ps ≠ [] := by
  cases ps with
  | nil => exact absurd rfl h
  | cons x t =>
    have hx := hp x (by simp)
    cases t with
    | nil => exact hx
    | cons y t => simp [jn, hx]
theorem sst_ne (y : SStep) : sst y ≠ [] := by unfold sst; simp
theorem plText_ev {i : Int} {s : List SStep} {o : List Int} (hi : 0 ≤ i ∧ i < 100) (hs : Lo s) (hl : s.length ≤ 1000) (ho : ∀ y ∈ o, 0 ≤ y ∧ y < 100) (hm : o.length ≤ 1000) : Ev (fun k => spec_plText.f k i s o) (bs (ptx i s o)) := by
  have k1 := dn_len hi
  have k2 := lsd_len (sst_le hs)
  have k3 := lsd_len (dn_le ho)
  rw [List.length_map] at k2 k3
  unfold spec_plText.f
  have h0 := plText_l0 s [] 0 rfl hs (by simp) (by simp; omega)
  refine bind h0 ?_
  rw [List.nil_append]
  refine bind0 (a := bs (lsd (s.map sst))) ?_ (bind (num_ev hi) (bind0 (sap_bs (b := [58]) (by simp; omega)) (bind0 (sap_bs (by simp; omega)) (bind0 (sap_bs (b := [58]) (by simp; omega)) (bind (plList_ev ho hm) (bind0 (sap_bs (by simp; omega)) ?_))))))
  · unfold lsd
    by_cases c : s = []
    · subst c
      rfl
    · have c' : s.map sst ≠ [] := by simpa using c
      rw [if_neg c', if_neg]
      intro e
      exact jn_ne (b := 44) (ps := s.map sst) c' (fun p hp => by obtain ⟨y, _, rfl⟩ := List.mem_map.1 hp; exact sst_ne y) (bs_inj (b := []) e)
  · have e : dn i ++ [58] ++ lsd (s.map sst) ++ [58] ++ lsd (o.map dn) = ptx i s o := by unfold ptx; simp
    rw [e]
    exact ret _
theorem good_lo {I : Nat} {s : List SStep} {o : List Int} (h : Good I s o) : (0 ≤ (I : Int) ∧ (I : Int) < 100) ∧ Lo s ∧ s.length ≤ 1000 ∧ (∀ y ∈ o, 0 ≤ y ∧ y < 100) ∧ o.length ≤ 1000 := by
  have h1 := h.inp
  have h2 := h.stp
  have h3 := h.out
  refine ⟨by omega, fun y hy => ?_, by omega, fun y hy => by have := h.os y hy; omega, by omega⟩
  obtain ⟨m, hm, rfl⟩ := List.mem_iff_getElem.1 hy
  have := h.ok.at (List.getElem?_eq_getElem hm)
  omega
/-- The text of a plan, or none. -/
def ptP (i : Int) (s : List SStep) (o : List Int) : ByteArray × Bool := if good i s o = true then (bs (ptx i s o), true) else (⟨#[]⟩, false)
theorem iPlanText_ev (i : Int) (s : List SStep) (o : List Int) : Ev (fun k => impl_PlanText.f k i s o) (ptP i s o) := by
  unfold impl_PlanText.f ptP
  refine bind (isPlan_ev i s o) ?_
  cases c : good i s o with
  | false => exact neg (by simp) (ret _)
  | true =>
    obtain ⟨I, rfl, h⟩ := good_Good c
    obtain ⟨a1, a2, a3, a4, a5⟩ := good_lo h
    exact pos rfl (bind0 (ptext_eq a1 a2 a3 a4 a5) (ret _))
theorem sPlanText_ev (i : Int) (s : List SStep) (o : List Int) : Ev (fun k => spec_PlanText.f k i s o) (ptP i s o) := by
  unfold spec_PlanText.f ptP
  refine bind (plGood_ev i s o) ?_
  cases c : good i s o with
  | false => exact neg (by simp) (ret _)
  | true =>
    obtain ⟨I, rfl, h⟩ := good_Good c
    obtain ⟨a1, a2, a3, a4, a5⟩ := good_lo h
    exact pos rfl (bind (plText_ev a1 a2 a3 a4 a5) (ret _))
theorem gts_bs {l : List UInt8} {j : Nat} (h : j < l.length) : gts (bs l) (j : Int) = some ((l[j].toNat : Nat) : Int) := by
  unfold gts
  rw [if_pos (by omega), Int.toNat_natCast, ← Array.getElem?_toList, bs_data, List.getElem?_eq_getElem h]
  rfl
theorem cts_bs {l : List UInt8} {a b : Nat} (h : a ≤ b) (hb : b ≤ l.length) : cts (bs l) (a : Int) (b : Int) = some (bs ((l.drop a).take (b - a))) := by
  unfold cts
  rw [bs_size, if_pos (by omega), Int.toNat_natCast, Int.toNat_natCast]
  exact congrArg some (ByteArray.extract_mk l a b)
theorem u8_eq {c b : UInt8} : ((c.toNat : Nat) : Int) = ((b.toNat : Nat) : Int) ↔ c = b := by
  constructor
  · intro h
    exact UInt8.toNat_inj.1 (by omega)
  · rintro rfl
    rfl
/-! cuts at a byte -/
theorem split_l0 (s : List UInt8) (b : UInt8) (hs : s.length ≤ 4000000) : ∀ (d i fr : Nat) (ds : List (List UInt8)), i + d = s.length → fr ≤ i → b ∉ (s.drop fr).take (i - fr) → ds.length ≤ i → ∃ (ds' : List (List UInt8)) (fr' : Nat), Ev (fun k => spec_l1Split.l0 (bs s) ((b.toNat : Nat) : Int) k (ds.map bs) (fr : Int) (i : Int)) (ds'.map bs, (fr' : Int)) ∧ fr' ≤ s.length ∧ ds'.length ≤ s.length ∧ ds' ++ [s.drop fr'] = ds ++ spl b (s.drop fr) := by
  intro d
  induction d with
  | zero =>
    intro i fr ds hi hf hb hl
    refine ⟨ds, fr, shift ?_, by omega, by omega, ?_⟩
    · simp only [spec_l1Split.l0]
      rw [bs_size]
      exact neg (by omega) (ret _)
    · rw [List.take_of_length_le (by simp; omega)] at hb
      rw [spl_one hb]
  | succ d ih =>
    intro i fr ds hi hf hb hl
    have hil : i < s.length := by omega
    have hw : w64 ((i : Int) + 1) = ((i + 1 : Nat) : Int) := by rw [zas (by omega)]; omega
    have hdr : (s.drop fr).drop (i - fr) = s.drop i := by rw [List.drop_drop, show fr + (i - fr) = i by omega]
    have hcut : s.drop fr = (s.drop fr).take (i - fr) ++ s[i] :: s.drop (i + 1) := by
      conv => lhs; rw [← List.take_append_drop (i - fr) (s.drop fr), hdr, List.drop_eq_getElem_cons hil]
    by_cases c : s[i] = b
    · obtain ⟨ds', fr', h1, h2, h2', h3⟩ := ih (i + 1) (i + 1) (ds ++ [(s.drop fr).take (i - fr)]) (by omega) (Nat.le_refl _) (by simp) (by simp; omega)
      refine ⟨ds', fr', shift ?_, h2, h2', ?_⟩
      · simp only [spec_l1Split.l0]
        rw [bs_size]
        refine pos (by omega) (bind0 (gts_bs hil) (pos (u8_eq.2 c) (bind0 (cts_bs hf (by omega)) (bind0 (ap_ok (by simp; omega)) ?_))))
        rw [hw]
        rw [List.map_append] at h1
        exact h1
      · rw [h3, List.append_assoc]
        congr 1
        have e2 : spl b (s.drop fr) = (s.drop fr).take (i - fr) :: spl b (s.drop (i + 1)) := by
          conv => lhs; rw [hcut, c]
          exact spl_cut _ hb
        rw [e2]
        rfl
    · have hb' : b ∉ (s.drop fr).take (i + 1 - fr) := by
        rw [show i + 1 - fr = (i - fr) + 1 by omega, List.take_add_one]
        intro hm
        rcases List.mem_append.1 hm with hm | hm
        · exact hb hm
        · rw [List.getElem?_drop, show fr + (i - fr) = i by omega, List.getElem?_eq_getElem hil] at hm
          simp at hm
          exact c hm.symm
      obtain ⟨ds', fr', h1, h2, h2', h3⟩ := ih (i + 1) fr ds (by omega) (by omega) hb' (by omega)
      refine ⟨ds', fr', shift ?_, h2, h2', h3⟩
      simp only [spec_l1Split.l0]
      rw [bs_size]
      refine pos (by omega) (bind0 (gts_bs hil) (neg (fun e => c (u8_eq.1 e)) ?_))
      rw [hw]
      exact h1
theorem split_ev (s : List UInt8) (b : UInt8) (hs : s.length ≤ 4000000) : Ev (fun k => spec_l1Split.f k (bs s) ((b.toNat : Nat) : Int)) ((spl b s).map bs) := by
  obtain ⟨ds, fr, h1, h2, h2', h3⟩ := split_l0 s b hs s.length 0 0 [] (by omega) (Nat.le_refl _) (by simp) (by simp)
  rw [List.nil_append, List.drop_zero] at h3
  unfold spec_l1Split.f
  refine bind h1 ?_
  have e := cts_bs (l := s) (a := fr) (b := s.length) h2 (Nat.le_refl _)
  rw [List.take_of_length_le (by simp)] at e
  rw [bs_size]
  refine bind0 e (bind0 (ap_ok (by simp; omega)) ?_)
  rw [← h3, List.map_append]
  exact ret _
/-! a number -/
def num6 (l : List UInt8) : Bool := decide (1 ≤ l.length ∧ l.length ≤ 6) && (!(decide (l.head? = some 48) && decide (1 < l.length)) && l.all dig)
def rdn (l : List UInt8) : Int := if num6 l = true then (val l : Int) else -1
theorem dig_lt {c : UInt8} (h : dig c = false) : c.toNat < 48 ∨ 57 < c.toNat := by
  unfold dig at h
  simp at h
  omega
theorem read_l0 (l : List UInt8) (hl : l.length ≤ 6) : ∀ (d i : Nat), i + d = l.length → (l.take i).all dig = true → Ev (fun k => spec_l1Read.l0 (bs l) k ((val (l.take i) : Nat) : Int) (i : Int)) (if l.all dig = true then Sum.inr ((val l : Nat) : Int) else Sum.inl (-1)) := by
  intro d
  induction d with
  | zero =>
    intro i hi ha
    have e : l.take i = l := List.take_of_length_le (by omega)
    rw [e] at ha ⊢
    rw [if_pos ha]
    refine shift ?_
    simp only [spec_l1Read.l0]
    rw [bs_size]
    exact neg (by omega) (ret _)
  | succ d ih =>
    intro i hi ha
    have hil : i < l.length := by omega
    have hv : val (l.take i) < 1000000 := by
      have h1 := val_lt (l.take i) 0 (fun c hc => List.all_eq_true.1 ha c hc)
      have h2 : (l.take i).length ≤ 6 := by simp; omega
      have h3 : (10 : Nat) ^ (l.take i).length ≤ 10 ^ 6 := Nat.pow_le_pow_right (by omega) h2
      have h4 : val (l.take i) < (0 + 1) * 10 ^ (l.take i).length := h1
      omega
    have hmem : l[i] ∈ l := List.getElem_mem hil
    have ht : l.take (i + 1) = l.take i ++ [l[i]] := by rw [List.take_add_one, List.getElem?_eq_getElem hil]; rfl
    refine shift ?_
    simp only [spec_l1Read.l0]
    rw [bs_size]
    cases c : dig l[i] with
    | true =>
      have hb := dig_bounds c
      have hn := ih (i + 1) (by omega) (by rw [ht, List.all_append, ha]; simp [c])
      rw [ht, val_snoc] at hn
      refine pos (by omega) (bind0 (gts_bs hil) (neg (by omega) (bind0 (gts_bs hil) (neg (by omega) (bind0 (gts_bs hil) ?_)))))
      have e1 : w64 (IntKind.u8.wrap (((l[i].toNat : Nat) : Int) - 48)) = ((l[i].toNat - 48 : Nat) : Int) := by
        rw [u8w (by omega), zas (by omega)]
        omega
      rw [e1, zas (x := 10 * _) (by omega), zas (by omega), zas (x := (i : Int) + 1) (by omega)]
      rw [show 10 * ((val (l.take i) : Nat) : Int) + ((l[i].toNat - 48 : Nat) : Int) = ((10 * val (l.take i) + (l[i].toNat - 48) : Nat) : Int) by omega, show (i : Int) + 1 = ((i + 1 : Nat) : Int) by omega]
      exact hn
    | false =>
      have hall : ¬ l.all dig = true := fun h => by rw [List.all_eq_true.1 h _ hmem] at c; cases c
      rw [if_neg hall]
      refine pos (by omega) (bind0 (gts_bs hil) ?_)
      rcases dig_lt c with h | h
      · exact pos (by omega) (ret _)
      · exact neg (by omega) (bind0 (gts_bs hil) (pos (by omega) (ret _)))
theorem l1In_dec (a lo hi : Int) : spec_l1In.f a lo hi = some (decide (lo ≤ a ∧ a ≤ hi)) := by
  unfold spec_l1In.f
  split
  · rename_i h
    congr 1
    exact decide_eq_decide.2 (by omega)
  · rename_i h
    rw [decide_eq_false (by omega)]
theorem read_ev (l : List UInt8) : Ev (fun k => spec_l1Read.f k (bs l)) (rdn l) := by
  unfold spec_l1Read.f rdn num6
  rw [bs_size, l1In_dec]
  by_cases h6 : 1 ≤ l.length ∧ l.length ≤ 6
  rotate_left
  · have e : (if (decide (1 ≤ l.length ∧ l.length ≤ 6) && (!(decide (l.head? = some 48) && decide (1 < l.length)) && l.all dig)) = true then ((val l : Nat) : Int) else -1) = -1 := by
      rw [decide_eq_false h6]
      rfl
    rw [e]
    refine bind0 (a := Sum.inl (-1)) ?_ (ret _)
    rw [decide_eq_false (by omega)]
    rfl
  · rw [decide_eq_true h6, Bool.true_and]
    cases l with
    | nil => simp at h6
    | cons a t =>
      have hg : gts (bs (a :: t)) 0 = some ((a.toNat : Nat) : Int) := gts_bs (l := a :: t) (j := 0) (by simp)
      have h48 : (48 : UInt8).toNat = 48 := rfl
      have key : ∀ (o : Option (Int ⊕ Unit)), (o = some (if (a :: t).head? = some 48 ∧ 1 < (a :: t).length then Sum.inl (-1) else Sum.inr ())) → Ev (fun k => o.bind fun o_ => match o_ with | .inl r_ => some r_ | .inr _ => (spec_l1Read.l0 (bs (a :: t)) k 0 0).bind fun o_ => match o_ with | .inl r_ => some r_ | .inr i20 => some i20) (if (!(decide ((a :: t).head? = some 48) && decide (1 < (a :: t).length)) && (a :: t).all dig) = true then ((val (a :: t) : Nat) : Int) else -1) := by
        intro o ho
        subst ho
        by_cases c : (a :: t).head? = some 48 ∧ 1 < (a :: t).length
        · rw [if_pos c, decide_eq_true c.1, decide_eq_true c.2]
          exact ret _
        · rw [if_neg c]
          have e : (!(decide ((a :: t).head? = some 48) && decide (1 < (a :: t).length))) = true := by
            rw [Bool.not_eq_true', ← Bool.decide_and]
            exact decide_eq_false c
          rw [e, Bool.true_and]
          have hl : Ev (fun k => spec_l1Read.l0 (bs (a :: t)) k 0 0) _ := read_l0 (a :: t) h6.2 (a :: t).length 0 (by omega) rfl
          by_cases d : (a :: t).all dig = true
          · rw [if_pos d] at hl ⊢
            exact bind0 rfl (bind hl (ret _))
          · rw [if_neg d] at hl ⊢
            exact bind0 rfl (bind hl (ret _))
      refine key _ ?_
      rw [decide_eq_true (by omega), Option.bind_some, if_pos rfl, hg, Option.bind_some]
      by_cases c : a = 48
      · subst c
        rw [if_pos (by rfl)]
        by_cases d : 1 < (48 :: t).length
        · rw [if_pos (by omega), if_pos ⟨rfl, d⟩]
        · rw [if_neg (by omega), if_neg (fun h => d h.2)]
      · have hne : ¬ ((a.toNat : Nat) : Int) = 48 := fun e => c (UInt8.toNat_inj.1 (Eq.trans (by omega) h48.symm))
        rw [if_neg hne, if_neg (fun h => c (by simpa using h.1))]
theorem rdn_dn {n : Int} (h : 0 ≤ n ∧ n < 1000000) : rdn (dn n) = n := by
  unfold rdn dn
  have hc := canon_dec n.toNat
  have hl := dec_len (n := n.toNat) (by omega)
  have h1 : 1 ≤ (decDigits n.toNat).length := List.length_pos_iff.2 hc.1
  rw [if_pos]
  · rw [val_dec]
    omega
  · unfold num6
    rw [decide_eq_true ⟨h1, hl⟩, Bool.true_and, List.all_eq_true.2 hc.2.1, Bool.and_true, Bool.not_eq_true', ← Bool.decide_and]
    exact decide_eq_false fun q => by have := hc.2.2 q.1; omega
theorem rdn_ge {l : List UInt8} (h : 0 ≤ rdn l) : l = dn (rdn l) := by
  unfold rdn at h ⊢
  split at h
  · rename_i c
    rw [if_pos c]
    unfold num6 at c
    simp only [Bool.and_eq_true, Bool.not_eq_true', ← Bool.decide_and, decide_eq_true_eq, decide_eq_false_iff_not] at c
    obtain ⟨⟨c1, c2⟩, c3, c4⟩ := c
    unfold dn
    rw [Int.toNat_natCast]
    refine (dec_val ⟨List.length_pos_iff.1 c1, List.all_eq_true.1 c4, fun q => ?_⟩).symm
    rcases Nat.lt_or_ge 1 l.length with g | g
    · exact absurd ⟨q, g⟩ c3
    · omega
  · omega
/-- the program's number of a text -/
def ati (l : List UInt8) : Int := match atoiAll l with
  | .ok v => v
  | .range => atoiSat l
  | _ => 0
theorem numberOf_eq {l : List UInt8} (h : l.length ≤ 281474976710656) : impl_numberOf.f (bs l) = some (ati l) := by
  unfold impl_numberOf.f strconv_Atoi.f ati
  rw [bs_size, if_pos h, bs_data]
  rfl
theorem ati_dn {n : Int} (h : 0 ≤ n ∧ n < 1000000) : ati (dn n) = n := by
  unfold ati dn
  rw [atoi_dec (by omega)]
  show ((n.toNat : Nat) : Int) = n
  omega
/-! a cut into so many -/
def spn (b : UInt8) (n : Nat) (s : List UInt8) : List (List UInt8) := splitK [b] 0 (min n (s.length + 1) - 1) s
theorem splitN_eq {s : List UInt8} {b : UInt8} {n : Nat} (hs : s.length < 4294967281) (hn : 1 ≤ n ∧ n ≤ 1000) : strings_SplitN.f (bs s) (bs [b]) (n : Int) = some ((spn b n s).map bs) := by
  unfold strings_SplitN.f spn
  rw [bs_size, bs_size, if_pos ⟨hs, by simp, by omega, by omega⟩, Int.toNat_natCast]
  congr 1
  have h := splitB_data (bs [b]) 0 (min n (s.length + 1) - 1) (bs s)
  rw [bs_data, bs_data] at h
  rw [← h, List.map_map]
  conv => lhs; rw [← List.map_id (splitB _ _ _ _)]
  exact List.map_congr_left fun a _ => (bs_of a).symm
theorem splitK_le (b : UInt8) : ∀ (k : Nat) (s : List UInt8), (splitK [b] 0 k s).length ≤ k + 1 ∧ ∀ p ∈ splitK [b] 0 k s, p.length ≤ s.length
  | 0, s => by simp [splitK]
  | k + 1, s => by
    unfold splitK
    split
    · simp
    · have := splitK_le b k (s.drop ((Lib.index s [b]).toNat + [b].length))
      refine ⟨by have h1 := this.1; rw [List.length_cons]; omega, fun p hp => ?_⟩
      rcases List.mem_cons.1 hp with rfl | hp
      · simp
        omega
      · have := this.2 p hp
        simp at this
        omega
theorem spn_le (b : UInt8) (n : Nat) (hn : 1 ≤ n) (s : List UInt8) : (spn b n s).length ≤ n ∧ ∀ p ∈ spn b n s, p.length ≤ s.length := by
  have := splitK_le b (min n (s.length + 1) - 1) s
  exact ⟨by have := this.1; unfold spn; omega, this.2⟩
theorem spn_spl {b : UInt8} {n : Nat} {s : List UInt8} (h : (spl b s).length ≤ n) (hn : 1 ≤ n) : spn b n s = spl b s := by
  have := spl_len b s
  exact splitK_eq _ s (by omega)
theorem cutL_le (s sep : List UInt8) : (Lib.cut s sep).1.length ≤ s.length ∧ (Lib.cut s sep).2.1.length ≤ s.length := by
  unfold Lib.cut
  split
  · simp
    omega
  · simp
theorem cut_eq {s : List UInt8} {b : UInt8} (hs : s.length < 4294967281) : strings_Cut.f (bs s) (bs [b]) = some (bs (Lib.cut s [b]).1, bs (Lib.cut s [b]).2.1, (Lib.cut s [b]).2.2) := by
  unfold strings_Cut.f
  rw [bs_size, if_pos hs, bs_data, bs_data]
  rfl
def prt (n : Nat) (s : List UInt8) : List (List UInt8) := if s = [45] then [] else spn 44 (n + 1) s
theorem parts_eq {s : List UInt8} {n : Nat} (hs : s.length < 4294967281) (hn : n ≤ 900) : impl_parts.f (bs s) (n : Int) = some ((prt n s).map bs) := by
  unfold impl_parts.f prt
  by_cases c : s = [45]
  · subst c
    rfl
  · rw [if_neg (c := bs s = (⟨#[45]⟩ : ByteArray)) (fun e => c (bs_inj (b := [45]) e)), if_neg c, zas (by omega), show (n : Int) + 1 = ((n + 1 : Nat) : Int) by omega]
    have := splitN_eq (s := s) (b := 44) (n := n + 1) hs (by omega)
    rw [show (⟨#[44]⟩ : ByteArray) = bs [44] from rfl, this]
    rfl
theorem prt_le (n : Nat) (s : List UInt8) : (prt n s).length ≤ n + 1 ∧ ∀ p ∈ prt n s, p.length ≤ s.length := by
  unfold prt
  split
  · simp
  · exact spn_le 44 (n + 1) (by omega) s
theorem numbers_l0 (ps : List (List UInt8)) (acc : List Int) (i : Int) (h : ∀ p ∈ ps, p.length ≤ 281474976710656) (hb : acc.length + ps.length ≤ 100000) : impl_numbersOf.l0 (ps.map bs) acc i = some (acc ++ ps.map ati) := by
  induction ps generalizing acc i with
  | nil => simp [impl_numbersOf.l0]
  | cons p ps ih =>
    simp only [List.length_cons] at hb
    simp only [List.map_cons, impl_numbersOf.l0]
    rw [numberOf_eq (h p (by simp)), Option.bind_some, ap_ok (by simp; omega), Option.bind_some, ih _ _ (fun q hq => h q (List.mem_cons_of_mem _ hq)) (by simp; omega)]
    simp
theorem numbers_eq {ps : List (List UInt8)} (h : ∀ p ∈ ps, p.length ≤ 281474976710656) (hb : ps.length ≤ 100000) : impl_numbersOf.f (ps.map bs) = some (ps.map ati) := by
  unfold impl_numbersOf.f
  rw [numbers_l0 ps [] 0 h (by simpa using hb)]
  rfl
/-! what holds of joined texts -/
theorem not_jn {b c : UInt8} (h : c ≠ b) : ∀ {ps : List (List UInt8)}, (∀ p ∈ ps, c ∉ p) → c ∉ jn b ps
  | [], _ => by simp [jn]
  | [x], hp => hp x (by simp)
  | x :: y :: t, hp => by
    show c ∉ x ++ b :: jn b (y :: t)
    intro hm
    rcases List.mem_append.1 hm with hm | hm
    · exact hp x (by simp) hm
    · rcases List.mem_cons.1 hm with hm | hm
      · exact h hm
      · exact not_jn h (fun p q => hp p (List.mem_cons_of_mem _ q)) hm
theorem not_lsd {c : UInt8} (h : c ≠ 44) (h' : c ≠ 45) {ps : List (List UInt8)} (hp : ∀ p ∈ ps, c ∉ p) : c ∉ lsd ps := by
  unfold lsd
  split
  · simpa using h'
  · exact not_jn h hp
theorem lsd_minus {ps : List (List UInt8)} (hp : ∀ p ∈ ps, 45 ∉ p) (hn : ∀ p ∈ ps, 44 ∉ p) : (lsd ps = [45] ↔ ps = []) ∧ (ps ≠ [] → spl 44 (lsd ps) = ps) := by
  unfold lsd
  by_cases c : ps = []
  · simp [c]
  · rw [if_neg c]
    refine ⟨⟨fun e => ?_, fun e => absurd e c⟩, fun _ => spl_jn c hn⟩
    have := not_jn (b := 44) (c := 45) (by decide) hp
    rw [e] at this
    simp at this
theorem dn_not {c : UInt8} (h : dig c = false) (n : Int) : c ∉ dn n := not_dig h (dn_dig n)
theorem sst_not {c : UInt8} (h : dig c = false) (h' : c ≠ 42) (y : SStep) : c ∉ sst y := by
  unfold sst
  intro hm
  rcases List.mem_append.1 hm with hm | hm
  · exact dn_not h _ hm
  · rcases List.mem_cons.1 hm with hm | hm
    · exact h' hm
    · exact dn_not h _ hm
end Go.Proofs.YtnnlfipcoahcnaaGreatDoor.Pure
