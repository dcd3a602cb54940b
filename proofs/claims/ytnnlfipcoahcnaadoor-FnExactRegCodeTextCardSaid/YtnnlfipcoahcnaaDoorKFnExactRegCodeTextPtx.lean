/- Pure: texts of plans, as the program and as the documentation has them. -/
import Derived.Test.YtnnlfipcoahcnaaDoorKFnExactRegCodeTextPval
import Derived.Test.YtnnlfipcoahcnaaDoorKFnExactRegCodeTextTxl
import Derived.Lib.CutLaws
set_option linter.unusedVariables false
set_option linter.unusedSimpArgs false
namespace Go.Proofs.YtnnlfipcoahcnaaDoor.Pure
open Go.RowKit Go.Proofs.YtnnlfipcoahcnaaDoor.E Go.Proofs.YtnnlfipcoahcnaaDoor.P3 Go.Proofs.YtnnlfipcoahcnaaDoor.Hand Go.Proofs.YtnnlfipcoahcnaaDoor.Frame Go.Proofs.YtnnlfipcoahcnaaDoorW.PrintLast Go.Proofs.YtnnlfipcoahcnaaDoorW.PrintMore Go.Lib Go.Proofs.YtnnlfipcoahcnaaDoor.Txl
open Go.Proofs.YtnnlfipcoahcnaaDoorW.PrintWords hiding mn mx
def bs (l : List UInt8) : ByteArray := ⟨l.toArray⟩
theorem bs_data (l : List UInt8) : (bs l).data.toList = l := by simp [bs]
theorem bs_size (l : List UInt8) : (bs l).size = l.length := by simp [bs, ByteArray.size]
theorem bs_inj {a b : List UInt8} (h : bs a = bs b) : a = b := by
  have := congrArg (fun x : ByteArray => x.data.toList) h
  simpa [bs] using this
theorem bs_app (a b : List UInt8) : bs a ++ bs b = bs (a ++ b) := by
  apply ByteArray.ext
  simp [bs, ByteArray.data_append]
theorem sap_bs {a b : List UInt8} (h : a.length + b.length ≤ 1000000000) : sap (bs a) (bs b) = some (bs (a ++ b)) := by
  unfold sap
  rw [bs_size, bs_size, if_pos h, bs_app]
def dn (n : Int) : List UInt8 := decDigits n.toNat
theorem dn_len {n : Int} (h : 0 ≤ n ∧ n < 100) : 1 ≤ (dn n).length ∧ (dn n).length ≤ 2 := by
  unfold dn
  by_cases c : n.toNat < 10
  · rw [decDigits_one c]
    simp
  · rw [decDigits_two c (by omega)]
    simp
theorem itoa_eq {n : Int} (h : 0 ≤ n ∧ n < 100) : strconv_Itoa.f n = some (bs (dn n)) := if_pos h
theorem u8w {x : Int} (h : 0 ≤ x ∧ x < 256) : IntKind.u8.wrap x = x := by
  simp only [IntKind.wrap, IntKind.signed, IntKind.bits, Bool.false_and, Bool.false_eq_true, if_false]
  omega
theorem str_one {x : Int} (h : 0 ≤ x ∧ x < 10) : strOfNums ([IntKind.u8.wrap (w64 (48 + x))] : List Int) = bs [UInt8.ofNat (48 + x.toNat)] := by
  rw [w64_id (by omega), u8w (by omega)]
  unfold strOfNums bs
  rw [List.map_cons, List.map_nil, show (48 + x).toNat = 48 + x.toNat by omega]
theorem num1_ev {n : Int} (h : 0 ≤ n ∧ n < 10) : Ev (fun k => spec_l1Num.f k n) (bs (dn n)) := by
  refine shift ?_
  simp only [spec_l1Num.f]
  refine pos h.2 ?_
  rw [str_one h]
  unfold dn
  rw [decDigits_one (by omega)]
  exact ret _
theorem num_ev {n : Int} (h : 0 ≤ n ∧ n < 100) : Ev (fun k => spec_l1Num.f k n) (bs (dn n)) := by
  by_cases c : n < 10
  · exact num1_ev ⟨h.1, c⟩
  · refine shift ?_
    simp only [spec_l1Num.f]
    obtain ⟨m, rfl⟩ := Int.eq_ofNat_of_zero_le h.1
    have e1 : ((m : Int)).tdiv 10 = ((m / 10 : Nat) : Int) := rfl
    have e2 : ((m : Int)).tmod 10 = ((m % 10 : Nat) : Int) := rfl
    refine neg c ?_
    rw [e1, e2, w64_id (by omega), str_one (by omega)]
    refine bind (num1_ev (by omega)) (bind0 (sap_bs (by have := dn_len (n := ((m / 10 : Nat) : Int)) (by omega); rw [List.length_singleton]; omega)) ?_)
    have e : dn (m : Int) = dn ((m / 10 : Nat) : Int) ++ [UInt8.ofNat (48 + ((m % 10 : Nat) : Int).toNat)] := by
      unfold dn
      rw [Int.toNat_natCast, Int.toNat_natCast, Int.toNat_natCast, decDigits_two (by omega) (by omega), decDigits_one (by omega)]
      rfl
    rw [e]
    exact ret _
/-! lists of numbers -/
def lsd (ps : List (List UInt8)) : List UInt8 := if ps = [] then [45] else jn 44 ps
theorem jn_len (b : UInt8) (c : Nat) : ∀ ps : List (List UInt8), (∀ p ∈ ps, p.length ≤ c) → (jn b ps).length ≤ ps.length * (c + 1)
  | [], _ => by simp [jn]
  | [x], h => by
    have := h x (by simp)
    simp [jn]
    omega
  | x :: y :: t, h => by
    have h1 := h x (by simp)
    have h2 := jn_len b c (y :: t) (fun p hp => h p (List.mem_cons_of_mem _ hp))
    show (x ++ b :: jn b (y :: t)).length ≤ (t.length + 1 + 1) * (c + 1)
    rw [Nat.succ_mul, List.length_append, List.length_cons]
    simp only [List.length_cons] at h2
    omega
theorem lsd_len {ps : List (List UInt8)} {c : Nat} (h : ∀ p ∈ ps, p.length ≤ c) : (lsd ps).length ≤ ps.length * (c + 1) + 1 := by
  unfold lsd
  split
  · simp
  · have := jn_len 44 c ps h
    omega
theorem map_bs (ps : List (List UInt8)) : (ps.map bs).map (fun a : ByteArray => a.data.toList) = ps := by
  rw [List.map_map]
  conv => rhs; rw [← List.map_id ps]
  exact List.map_congr_left fun p _ => bs_data p
theorem listed_eq {ps : List (List UInt8)} (h : ∀ p ∈ ps, p.length ≤ 1000) (hl : ps.length ≤ 1000) : impl_listed.f (ps.map bs) = some (bs (lsd ps)) := by
  unfold impl_listed.f lsd
  rw [List.length_map]
  by_cases c : ps = []
  · subst c
    rfl
  · have hp : 0 < ps.length := List.length_pos_iff.2 c
    rw [if_neg (by omega), if_neg c]
    have e : strings_Join.f (ps.map bs) (⟨#[44]⟩ : ByteArray) = some (bs (jn 44 ps)) := by
      unfold strings_Join.f
      rw [map_bs]
      have e1 : Lib.join ps ((⟨#[44]⟩ : ByteArray).data.toList) = jn 44 ps := jn_join 44 ps
      rw [e1, if_pos]
      · rfl
      · have := jn_len 44 1000 ps h
        rw [List.length_map]
        have h2 : ps.length * (1000 + 1) ≤ 1000 * 1001 := Nat.mul_le_mul_right _ hl
        omega
    rw [e]
    rfl
theorem ntext_l0 (l : List Int) (acc : List ByteArray) (i : Int) (h : ∀ y ∈ l, 0 ≤ y ∧ y < 100) (hb : acc.length + l.length ≤ 100000) : impl_numbersText.l0 l acc i = some (acc ++ (l.map dn).map bs) := by
  induction l generalizing acc i with
  | nil => simp [impl_numbersText.l0]
  | cons y ys ih =>
    simp only [List.length_cons] at hb
    simp only [impl_numbersText.l0]
    rw [itoa_eq (h y (by simp)), Option.bind_some, ap_ok (by simp; omega), Option.bind_some, ih _ _ (fun z hz => h z (List.mem_cons_of_mem _ hz)) (by simp; omega)]
    simp
theorem dn_le {l : List Int} (h : ∀ y ∈ l, 0 ≤ y ∧ y < 100) : ∀ p ∈ l.map dn, p.length ≤ 2 := fun p hp => by
  obtain ⟨y, hy, rfl⟩ := List.mem_map.1 hp
  exact (dn_len (h y hy)).2
theorem ntext_eq {l : List Int} (h : ∀ y ∈ l, 0 ≤ y ∧ y < 100) (hl : l.length ≤ 1000) : impl_numbersText.f l = some (bs (lsd (l.map dn))) := by
  unfold impl_numbersText.f
  rw [ntext_l0 l [] 0 h (by simp; omega), Option.bind_some, List.nil_append, listed_eq (fun p hp => Nat.le_trans (dn_le h p hp) (by omega)) (by rw [List.length_map]; exact hl)]
  rfl
def sst (y : SStep) : List UInt8 := dn y.f0 ++ 42 :: dn y.f1
def Lo (s : List SStep) : Prop := ∀ y ∈ s, (0 ≤ y.f0 ∧ y.f0 < 100) ∧ (0 ≤ y.f1 ∧ y.f1 < 100)
/-- the text of a plan -/
def ptx (i : Int) (s : List SStep) (o : List Int) : List UInt8 := dn i ++ 58 :: (lsd (s.map sst) ++ 58 :: lsd (o.map dn))
theorem jn_ne {b : UInt8} {ps : List (List UInt8)} (h : ps ≠ []) (hp : ∀ p ∈ ps, p ≠ []) : jn b ps ≠ [] := by
  cases ps with
  | nil => exact absurd rfl h
  | cons x t =>
    have hx := hp x (by simp)
    cases t with
    | nil => exact hx
    | cons y t => simp [jn, hx]
/-- The text of a plan, or none. -/
def ptP (i : Int) (s : List SStep) (o : List Int) : ByteArray × Bool := if good i s o = true then (bs (ptx i s o), true) else (⟨#[]⟩, false)
end Go.Proofs.YtnnlfipcoahcnaaDoor.Pure
