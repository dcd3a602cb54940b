/- Pure: Ptxr, Ptcq. -/
import Derived.Test.YtnnlfipcoahcnaaGreatDoorKFnRenamedRegistersPmb
import Derived.Test.YtnnlfipcoahcnaaGreatDoorKFnRenamedRegistersTxl
import Derived.Lib.CutLaws
set_option linter.unusedVariables false
set_option linter.unusedSimpArgs false
namespace Go.Proofs.YtnnlfipcoahcnaaGreatDoor.Pure
open Go.RowKit Go.Proofs.YtnnlfipcoahcnaaGreatDoor.E Go.Proofs.YtnnlfipcoahcnaaGreatDoor.G3 Go.Proofs.YtnnlfipcoahcnaaGreatDoor.Hand Go.Proofs.YtnnlfipcoahcnaaGreatDoor.Frame Go.Proofs.YtnnlfipcoahcnaaGreatDoorW.PrintLast Go.Proofs.YtnnlfipcoahcnaaGreatDoorW.PrintMore Go.Lib Go.Proofs.YtnnlfipcoahcnaaGreatDoor.Txl
open Go.Proofs.YtnnlfipcoahcnaaGreatDoorW.PrintWords hiding mn mx
def bs (l : List UInt8) : ByteArray := ⟨l.toArray⟩
theorem bs_data (l : List UInt8) : (bs l).data.toList = l := by simp [bs]
theorem bs_size (l : List UInt8) : (bs l).size = l.length := by simp [bs, ByteArray.size]
theorem bs_of (a : ByteArray) : bs a.data.toList = a := by
 cases a
 simp [bs]
theorem bs_inj {a b : List UInt8} (h : bs a = bs b) : a = b := by
 have := congrArg (fun x : ByteArray => x.data.toList) h
 simpa [bs] using this
theorem bs_app (a b : List UInt8) : bs a ++ bs b = bs (a ++ b) := by
 apply ByteArray.ext
 simp [bs, ByteArray.data_append]
theorem sap_bs {a b : List UInt8} (h : a.length + b.length ≤ 1000000000) : sap (bs a) (bs b) = some (bs (a ++ b)) := by
 unfold sap
 rw [bs_size, bs_size, if_pos h, bs_app]
def dn (n : Int) : List UInt8 := decDigits n.toNat
theorem dn_len {n : Int} (h : 0 ≤ n ∧ n < 100) : 1 ≤ (dn n).length ∧ (dn n).length ≤ 2 := by
 unfold dn
 by_cases c : n.toNat < 10
 ·rw [decDigits_one c]
  simp
 ·rw [decDigits_two c (by omega)]
  simp
theorem dn_dig (n : Int) : ∀ c ∈ dn n, dig c = true := dec_dig _
theorem itoa_eq {n : Int} (h : 0 ≤ n ∧ n < 100) : strconv_Itoa.f n = some (bs (dn n)) := if_pos h
theorem u8w {x : Int} (h : 0 ≤ x ∧ x < 256) : IntKind.u8.wrap x = x := by
 simp only [IntKind.wrap, IntKind.signed, IntKind.bits, Bool.false_and, Bool.false_eq_true, if_false]
 omega
theorem str_one {x : Int} (h : 0 ≤ x ∧ x < 10) : strOfNums ([IntKind.u8.wrap (w64 (48 + x))] : List Int) = bs [UInt8.ofNat (48 + x.toNat)] := by
 rw [zb6 (by omega), u8w (by omega)]
 unfold strOfNums bs
 rw [List.map_cons, List.map_nil, show (48 + x).toNat = 48 + x.toNat by omega]
theorem num1_ev {n : Int} (h : 0 ≤ n ∧ n < 10) : Ev (fun k => spec_l1Num.f k n) (bs (dn n)) := by
 refine shift ?_
 simp only [spec_l1Num.f]
 refine pos h.2 ?_
 rw [str_one h]
 unfold dn
 rw [decDigits_one (by omega)]
 exact ret _
theorem num_ev {n : Int} (h : 0 ≤ n ∧ n < 100) : Ev (fun k => spec_l1Num.f k n) (bs (dn n)) := by
 by_cases c : n < 10
 ·exact num1_ev ⟨h.1, c⟩
 ·refine shift ?_
  simp only [spec_l1Num.f]
  obtain ⟨m, rfl⟩ := Int.eq_ofNat_of_zero_le h.1
  have e1 : ((m : Int)).tdiv 10 = ((m / 10 : Nat) : Int) := rfl
  have e2 : ((m : Int)).tmod 10 = ((m % 10 : Nat) : Int) := rfl
  refine neg c ?_
  rw [e1, e2, zb6 (by omega), str_one (by omega)]
  refine bind (num1_ev (by omega)) (bind0 (sap_bs (by have := dn_len (n := ((m / 10 : Nat) : Int)) (by omega); rw [List.length_singleton]; omega)) ?_)
  have e : dn (m : Int) = dn ((m / 10 : Nat) : Int) ++ [UInt8.ofNat (48 + ((m % 10 : Nat) : Int).toNat)] := by
   unfold dn
   rw [Int.toNat_natCast, Int.toNat_natCast, Int.toNat_natCast, decDigits_two (by omega) (by omega), decDigits_one (by omega)]
   rfl
  rw [e]
  exact ret _
/-! lists of numbers -/
def lsd (ps : List (List UInt8)) : List UInt8 := if ps = [] then [45] else jn 44 ps
theorem jn_len (b : UInt8) (c : Nat) : ∀ ps : List (List UInt8), (∀ p ∈ ps, p.length ≤ c) → (jn b ps).length ≤ ps.length * (c + 1)
 | [], _ => by simp [jn]
 | [x], h => by
  have := h x (by simp)
  simp [jn]
  omega
 | x :: y :: t, h => by
  have h1 := h x (by simp)
  have h2 := jn_len b c (y :: t) (fun p hp => h p (List.mem_cons_of_mem _ hp))
  show (x ++ b :: jn b (y :: t)).length ≤ (t.length + 1 + 1) * (c + 1)
  rw [Nat.succ_mul, List.length_append, List.length_cons]
  simp only [List.length_cons] at h2
  omega
theorem lsd_len {ps : List (List UInt8)} {c : Nat} (h : ∀ p ∈ ps, p.length ≤ c) : (lsd ps).length ≤ ps.length * (c + 1) + 1 := by
 unfold lsd
 split
 ·simp
 ·have := jn_len 44 c ps h
  omega
theorem map_bs (ps : List (List UInt8)) : (ps.map bs).map (fun a : ByteArray => a.data.toList) = ps := by
 rw [List.map_map]
 conv => rhs; rw [← List.map_id ps]
 exact List.map_congr_left fun p _ => bs_data p
theorem listed_eq {ps : List (List UInt8)} (h : ∀ p ∈ ps, p.length ≤ 1000) (hl : ps.length ≤ 1000) : impl_listed.f (ps.map bs) = some (bs (lsd ps)) := by
 unfold impl_listed.f lsd
 rw [List.length_map]
 by_cases c : ps = []
 ·subst c
  rfl
 ·have hp : 0 < ps.length := List.length_pos_iff.2 c
  rw [if_neg (by omega), if_neg c]
  have e : strings_Join.f (ps.map bs) (⟨#[44]⟩ : ByteArray) = some (bs (jn 44 ps)) := by
   unfold strings_Join.f
   rw [map_bs]
   have e1 : Lib.join ps ((⟨#[44]⟩ : ByteArray).data.toList) = jn 44 ps := jn_join 44 ps
   rw [e1, if_pos]
   ·rfl
   ·have := jn_len 44 1000 ps h
    rw [List.length_map]
    have h2 : ps.length * (1000 + 1) ≤ 1000 * 1001 := Nat.mul_le_mul_right _ hl
    omega
  rw [e]
  rfl
theorem ntext_l0 (l : List Int) (acc : List ByteArray) (i : Int) (h : ∀ y ∈ l, 0 ≤ y ∧ y < 100) (hb : acc.length + l.length ≤ 100000) : impl_numbersText.l0 l acc i = some (acc ++ (l.map dn).map bs) := by
 induction l generalizing acc i with
 | nil => simp [impl_numbersText.l0]
 | cons y ys ih =>
  simp only [List.length_cons] at hb
  simp only [impl_numbersText.l0]
  rw [itoa_eq (h y (by simp)), Option.bind_some, ap_ok (by simp; omega), Option.bind_some, ih _ _ (fun z hz => h z (List.mem_cons_of_mem _ hz)) (by simp; omega)]
  simp
theorem dn_le {l : List Int} (h : ∀ y ∈ l, 0 ≤ y ∧ y < 100) : ∀ p ∈ l.map dn, p.length ≤ 2 := fun p hp => by
 obtain ⟨y, hy, rfl⟩ := List.mem_map.1 hp
 exact (dn_len (h y hy)).2
theorem ntext_eq {l : List Int} (h : ∀ y ∈ l, 0 ≤ y ∧ y < 100) (hl : l.length ≤ 1000) : impl_numbersText.f l = some (bs (lsd (l.map dn))) := by
 unfold impl_numbersText.f
 rw [ntext_l0 l [] 0 h (by simp; omega), Option.bind_some, List.nil_append, listed_eq (fun p hp => Nat.le_trans (dn_le h p hp) (by omega)) (by rw [List.length_map]; exact hl)]
 rfl
def sst (y : SStep) : List UInt8 := dn y.f0 ++ 42 :: dn y.f1
def Lo (s : List SStep) : Prop := ∀ y ∈ s, (0 ≤ y.f0 ∧ y.f0 < 100) ∧ (0 ≤ y.f1 ∧ y.f1 < 100)
/-- the text of a plan -/
def ptx (i : Int) (s : List SStep) (o : List Int) : List UInt8 := dn i ++ 58 :: (lsd (s.map sst) ++ 58 :: lsd (o.map dn))
theorem jn_ne {b : UInt8} {ps : List (List UInt8)} (h : ps ≠ []) (hp : ∀ p ∈ ps, p ≠ []) : jn b ps ≠ [] := by
 cases ps with
 | nil => exact absurd rfl h
 | cons x t =>
  have hx := hp x (by simp)
  cases t with
  | nil => exact hx
  | cons y t => simp [jn, hx]
/-- The text of a plan, or none. -/
def ptP (i : Int) (s : List SStep) (o : List Int) : ByteArray × Bool := if good i s o = true then (bs (ptx i s o), true) else (⟨#[]⟩, false)
theorem gts_bs {l : List UInt8} {j : Nat} (h : j < l.length) : gts (bs l) (j : Int) = some ((l[j].toNat : Nat) : Int) := by
 unfold gts
 rw [if_pos (by omega), Int.toNat_natCast, ← Array.getElem?_toList, bs_data, List.getElem?_eq_getElem h]
 rfl
theorem cts_bs {l : List UInt8} {a b : Nat} (h : a ≤ b) (hb : b ≤ l.length) : cts (bs l) (a : Int) (b : Int) = some (bs ((l.drop a).take (b - a))) := by
 unfold cts
 rw [bs_size, if_pos (by omega), Int.toNat_natCast, Int.toNat_natCast]
 exact congrArg some (ByteArray.extract_mk l a b)
theorem u8_eq {c b : UInt8} : ((c.toNat : Nat) : Int) = ((b.toNat : Nat) : Int) ↔ c = b := by
 constructor
 ·intro h
  exact UInt8.toNat_inj.1 (by omega)
 ·rintro rfl
  rfl
/-! cuts at a byte -/
theorem split_l0 (s : List UInt8) (b : UInt8) (hs : s.length ≤ 4000000) : ∀ (d i fr : Nat) (ds : List (List UInt8)), i + d = s.length → fr ≤ i → b ∉ (s.drop fr).take (i - fr) → ds.length ≤ i → ∃ (ds' : List (List UInt8)) (fr' : Nat), Ev (fun k => spec_l1Split.l0 (bs s) ((b.toNat : Nat) : Int) k (ds.map bs) (fr : Int) (i : Int)) (ds'.map bs, (fr' : Int)) ∧ fr' ≤ s.length ∧ ds'.length ≤ s.length ∧ ds' ++ [s.drop fr'] = ds ++ spl b (s.drop fr) := by
 intro d
 induction d with
 | zero =>
  intro i fr ds hi hf hb hl
  refine ⟨ds, fr, shift ?_, by omega, by omega, ?_⟩
  ·simp only [spec_l1Split.l0]
   rw [bs_size]
   exact neg (by omega) (ret _)
  ·rw [List.take_of_length_le (by simp; omega)] at hb
   rw [spl_one hb]
 | succ d ih =>
  intro i fr ds hi hf hb hl
  have hil : i < s.length := by omega
  have hw : w64 ((i : Int) + 1) = ((i + 1 : Nat) : Int) := by rw [zb6 (by omega)]; omega
  have hdr : (s.drop fr).drop (i - fr) = s.drop i := by rw [List.drop_drop, show fr + (i - fr) = i by omega]
  have hcut : s.drop fr = (s.drop fr).take (i - fr) ++ s[i] :: s.drop (i + 1) := by
   conv => lhs; rw [← List.take_append_drop (i - fr) (s.drop fr), hdr, List.drop_eq_getElem_cons hil]
  by_cases c : s[i] = b
  ·obtain ⟨ds', fr', h1, h2, h2', h3⟩ := ih (i + 1) (i + 1) (ds ++ [(s.drop fr).take (i - fr)]) (by omega) (Nat.le_refl _) (by simp) (by simp; omega)
   refine ⟨ds', fr', shift ?_, h2, h2', ?_⟩
   ·simp only [spec_l1Split.l0]
    rw [bs_size]
    refine pos (by omega) (bind0 (gts_bs hil) (pos (u8_eq.2 c) (bind0 (cts_bs hf (by omega)) (bind0 (ap_ok (by simp; omega)) ?_))))
    rw [hw]
    rw [List.map_append] at h1
    exact h1
   ·rw [h3, List.append_assoc]
    congr 1
    have e2 : spl b (s.drop fr) = (s.drop fr).take (i - fr) :: spl b (s.drop (i + 1)) := by
     conv => lhs; rw [hcut, c]
     exact spl_cut _ hb
    rw [e2]
    rfl
  ·have hb' : b ∉ (s.drop fr).take (i + 1 - fr) := by
    rw [show i + 1 - fr = (i - fr) + 1 by omega, List.take_add_one]
    intro hm
    rcases List.mem_append.1 hm with hm | hm
    ·exact hb hm
    ·rw [List.getElem?_drop, show fr + (i - fr) = i by omega, List.getElem?_eq_getElem hil] at hm
     simp at hm
     exact c hm.symm
   obtain ⟨ds', fr', h1, h2, h2', h3⟩ := ih (i + 1) fr ds (by omega) (by omega) hb' (by omega)
   refine ⟨ds', fr', shift ?_, h2, h2', h3⟩
   simp only [spec_l1Split.l0]
   rw [bs_size]
   refine pos (by omega) (bind0 (gts_bs hil) (neg (fun e => c (u8_eq.1 e)) ?_))
   rw [hw]
   exact h1
theorem split_ev (s : List UInt8) (b : UInt8) (hs : s.length ≤ 4000000) : Ev (fun k => spec_l1Split.f k (bs s) ((b.toNat : Nat) : Int)) ((spl b s).map bs) := by
 obtain ⟨ds, fr, h1, h2, h2', h3⟩ := split_l0 s b hs s.length 0 0 [] (by omega) (Nat.le_refl _) (by simp) (by simp)
 rw [List.nil_append, List.drop_zero] at h3
 unfold spec_l1Split.f
 refine bind h1 ?_
 have e := cts_bs (l := s) (a := fr) (b := s.length) h2 (Nat.le_refl _)
 rw [List.take_of_length_le (by simp)] at e
 rw [bs_size]
 refine bind0 e (bind0 (ap_ok (by simp; omega)) ?_)
 rw [← h3, List.map_append]
 exact ret _
/-! a number -/
def num6 (l : List UInt8) : Bool := decide (1 ≤ l.length ∧ l.length ≤ 6) && (!(decide (l.head? = some 48) && decide (1 < l.length)) && l.all dig)
def rdn (l : List UInt8) : Int := if num6 l = true then (val l : Int) else -1
theorem dig_lt {c : UInt8} (h : dig c = false) : c.toNat < 48 ∨ 57 < c.toNat := by
 unfold dig at h
 simp at h
 omega
theorem read_l0 (l : List UInt8) (hl : l.length ≤ 6) : ∀ (d i : Nat), i + d = l.length → (l.take i).all dig = true → Ev (fun k => spec_l1Read.l0 (bs l) k ((val (l.take i) : Nat) : Int) (i : Int)) (if l.all dig = true then Sum.inr ((val l : Nat) : Int) else Sum.inl (-1)) := by
 intro d
 induction d with
 | zero =>
  intro i hi ha
  have e : l.take i = l := List.take_of_length_le (by omega)
  rw [e] at ha ⊢
  rw [if_pos ha]
  refine shift ?_
  simp only [spec_l1Read.l0]
  rw [bs_size]
  exact neg (by omega) (ret _)
 | succ d ih =>
  intro i hi ha
  have hil : i < l.length := by omega
  have hv : val (l.take i) < 1000000 := by
   have h1 := val_lt (l.take i) 0 (fun c hc => List.all_eq_true.1 ha c hc)
   have h2 : (l.take i).length ≤ 6 := by simp; omega
   have h3 : (10 : Nat) ^ (l.take i).length ≤ 10 ^ 6 := Nat.pow_le_pow_right (by omega) h2
   have h4 : val (l.take i) < (0 + 1) * 10 ^ (l.take i).length := h1
   omega
  have hmem : l[i] ∈ l := List.getElem_mem hil
  have ht : l.take (i + 1) = l.take i ++ [l[i]] := by rw [List.take_add_one, List.getElem?_eq_getElem hil]; rfl
  refine shift ?_
  simp only [spec_l1Read.l0]
  rw [bs_size]
  cases c : dig l[i] with
  | true =>
   have hb := dig_bounds c
   have hn := ih (i + 1) (by omega) (by rw [ht, List.all_append, ha]; simp [c])
   rw [ht, val_snoc] at hn
   refine pos (by omega) (bind0 (gts_bs hil) (neg (by omega) (bind0 (gts_bs hil) (neg (by omega) (bind0 (gts_bs hil) ?_)))))
   have e1 : w64 (IntKind.u8.wrap (((l[i].toNat : Nat) : Int) - 48)) = ((l[i].toNat - 48 : Nat) : Int) := by
    rw [u8w (by omega), zb6 (by omega)]
    omega
   rw [e1, zb6 (x := 10 * _) (by omega), zb6 (by omega), zb6 (x := (i : Int) + 1) (by omega)]
   rw [show 10 * ((val (l.take i) : Nat) : Int) + ((l[i].toNat - 48 : Nat) : Int) = ((10 * val (l.take i) + (l[i].toNat - 48) : Nat) : Int) by omega, show (i : Int) + 1 = ((i + 1 : Nat) : Int) by omega]
   exact hn
  | false =>
   have hall : ¬ l.all dig = true := fun h => by rw [List.all_eq_true.1 h _ hmem] at c; cases c
   rw [if_neg hall]
   refine pos (by omega) (bind0 (gts_bs hil) ?_)
   rcases dig_lt c with h | h
   ·exact pos (by omega) (ret _)
   ·exact neg (by omega) (bind0 (gts_bs hil) (pos (by omega) (ret _)))
theorem l1In_dec (a lo hi : Int) : spec_l1In.f a lo hi = some (decide (lo ≤ a ∧ a ≤ hi)) := by
 unfold spec_l1In.f
 split
 ·rename_i h
  congr 1
  exact decide_eq_decide.2 (by omega)
 ·rename_i h
  rw [decide_eq_false (by omega)]
theorem read_ev (l : List UInt8) : Ev (fun k => spec_l1Read.f k (bs l)) (rdn l) := by
 unfold spec_l1Read.f rdn num6
 rw [bs_size, l1In_dec]
 by_cases h6 : 1 ≤ l.length ∧ l.length ≤ 6
 rotate_left
 ·have e : (if (decide (1 ≤ l.length ∧ l.length ≤ 6) && (!(decide (l.head? = some 48) && decide (1 < l.length)) && l.all dig)) = true then ((val l : Nat) : Int) else -1) = -1 := by
   rw [decide_eq_false h6]
   rfl
  rw [e]
  refine bind0 (a := Sum.inl (-1)) ?_ (ret _)
  rw [decide_eq_false (by omega)]
  rfl
 ·rw [decide_eq_true h6, Bool.true_and]
  cases l with
  | nil => simp at h6
  | cons a t =>
   have hg : gts (bs (a :: t)) 0 = some ((a.toNat : Nat) : Int) := gts_bs (l := a :: t) (j := 0) (by simp)
   have h48 : (48 : UInt8).toNat = 48 := rfl
   have key : ∀ (o : Option (Int ⊕ Unit)), (o = some (if (a :: t).head? = some 48 ∧ 1 < (a :: t).length then Sum.inl (-1) else Sum.inr ())) → Ev (fun k => o.bind fun o_ => match o_ with | .inl r_ => some r_ | .inr _ => (spec_l1Read.l0 (bs (a :: t)) k 0 0).bind fun o_ => match o_ with | .inl r_ => some r_ | .inr i20 => some i20) (if (!(decide ((a :: t).head? = some 48) && decide (1 < (a :: t).length)) && (a :: t).all dig) = true then ((val (a :: t) : Nat) : Int) else -1) := by
    intro o ho
    subst ho
    by_cases c : (a :: t).head? = some 48 ∧ 1 < (a :: t).length
    ·rw [if_pos c, decide_eq_true c.1, decide_eq_true c.2]
     exact ret _
    ·rw [if_neg c]
     have e : (!(decide ((a :: t).head? = some 48) && decide (1 < (a :: t).length))) = true := by
      rw [Bool.not_eq_true', ← Bool.decide_and]
      exact decide_eq_false c
     rw [e, Bool.true_and]
     have hl : Ev (fun k => spec_l1Read.l0 (bs (a :: t)) k 0 0) _ := read_l0 (a :: t) h6.2 (a :: t).length 0 (by omega) rfl
     by_cases d : (a :: t).all dig = true
     ·rw [if_pos d] at hl ⊢
      exact bind0 rfl (bind hl (ret _))
     ·rw [if_neg d] at hl ⊢
      exact bind0 rfl (bind hl (ret _))
   refine key _ ?_
   rw [decide_eq_true (by omega), Option.bind_some, if_pos rfl, hg, Option.bind_some]
   by_cases c : a = 48
   ·subst c
    rw [if_pos (by rfl)]
    by_cases d : 1 < (48 :: t).length
    ·rw [if_pos (by omega), if_pos ⟨rfl, d⟩]
    ·rw [if_neg (by omega), if_neg (fun h => d h.2)]
   ·have hne : ¬ ((a.toNat : Nat) : Int) = 48 := fun e => c (UInt8.toNat_inj.1 (Eq.trans (by omega) h48.symm))
    rw [if_neg hne, if_neg (fun h => c (by simpa using h.1))]
theorem rdn_dn {n : Int} (h : 0 ≤ n ∧ n < 1000000) : rdn (dn n) = n := by
 unfold rdn dn
 have hc := canon_dec n.toNat
 have hl := dec_len (n := n.toNat) (by omega)
 have h1 : 1 ≤ (decDigits n.toNat).length := List.length_pos_iff.2 hc.1
 rw [if_pos]
 ·rw [val_dec]
  omega
 ·unfold num6
  rw [decide_eq_true ⟨h1, hl⟩, Bool.true_and, List.all_eq_true.2 hc.2.1, Bool.and_true, Bool.not_eq_true', ← Bool.decide_and]
  exact decide_eq_false fun q => by have := hc.2.2 q.1; omega
/-- the program's number of a text -/
def ati (l : List UInt8) : Int := match atoiAll l with
 | .ok v => v
 | .range => atoiSat l
 | _ => 0
theorem numberOf_eq {l : List UInt8} (h : l.length ≤ 281474976710656) : impl_numberOf.f (bs l) = some (ati l) := by
 unfold impl_numberOf.f strconv_Atoi.f ati
 rw [bs_size, if_pos h, bs_data]
 rfl
theorem ati_dn {n : Int} (h : 0 ≤ n ∧ n < 1000000) : ati (dn n) = n := by
 unfold ati dn
 rw [atoi_dec (by omega)]
 show ((n.toNat : Nat) : Int) = n
 omega
/-! a cut into so many -/
def spn (b : UInt8) (n : Nat) (s : List UInt8) : List (List UInt8) := splitK [b] 0 (min n (s.length + 1) - 1) s
theorem splitN_eq {s : List UInt8} {b : UInt8} {n : Nat} (hs : s.length < 4294967281) (hn : 1 ≤ n ∧ n ≤ 1000) : strings_SplitN.f (bs s) (bs [b]) (n : Int) = some ((spn b n s).map bs) := by
 unfold strings_SplitN.f spn
 rw [bs_size, bs_size, if_pos ⟨hs, by simp, by omega, by omega⟩, Int.toNat_natCast]
 congr 1
 have h := splitB_data (bs [b]) 0 (min n (s.length + 1) - 1) (bs s)
 rw [bs_data, bs_data] at h
 rw [← h, List.map_map]
 conv => lhs; rw [← List.map_id (splitB _ _ _ _)]
 exact List.map_congr_left fun a _ => (bs_of a).symm
theorem splitK_le (b : UInt8) : ∀ (k : Nat) (s : List UInt8), (splitK [b] 0 k s).length ≤ k + 1 ∧ ∀ p ∈ splitK [b] 0 k s, p.length ≤ s.length
 | 0, s => by simp [splitK]
 | k + 1, s => by
  unfold splitK
  split
  ·simp
  ·have := splitK_le b k (s.drop ((Lib.index s [b]).toNat + [b].length))
   refine ⟨by have h1 := this.1; rw [List.length_cons]; omega, fun p hp => ?_⟩
   rcases List.mem_cons.1 hp with rfl | hp
   ·simp
    omega
   ·have := this.2 p hp
    simp at this
    omega
theorem spn_le (b : UInt8) (n : Nat) (hn : 1 ≤ n) (s : List UInt8) : (spn b n s).length ≤ n ∧ ∀ p ∈ spn b n s, p.length ≤ s.length := by
 have := splitK_le b (min n (s.length + 1) - 1) s
 exact ⟨by have := this.1; unfold spn; omega, this.2⟩
theorem spn_spl {b : UInt8} {n : Nat} {s : List UInt8} (h : (spl b s).length ≤ n) (hn : 1 ≤ n) : spn b n s = spl b s := by
 have := spl_len b s
 exact splitK_eq _ s (by omega)
theorem cutL_le (s sep : List UInt8) : (Lib.cut s sep).1.length ≤ s.length ∧ (Lib.cut s sep).2.1.length ≤ s.length := by
 unfold Lib.cut
 split
 ·simp
  omega
 ·simp
theorem cut_eq {s : List UInt8} {b : UInt8} (hs : s.length < 4294967281) : strings_Cut.f (bs s) (bs [b]) = some (bs (Lib.cut s [b]).1, bs (Lib.cut s [b]).2.1, (Lib.cut s [b]).2.2) := by
 unfold strings_Cut.f
 rw [bs_size, if_pos hs, bs_data, bs_data]
 rfl
def prt (n : Nat) (s : List UInt8) : List (List UInt8) := if s = [45] then [] else spn 44 (n + 1) s
theorem parts_eq {s : List UInt8} {n : Nat} (hs : s.length < 4294967281) (hn : n ≤ 900) : impl_parts.f (bs s) (n : Int) = some ((prt n s).map bs) := by
 unfold impl_parts.f prt
 by_cases c : s = [45]
 ·subst c
  rfl
 ·rw [if_neg (c := bs s = (⟨#[45]⟩ : ByteArray)) (fun e => c (bs_inj (b := [45]) e)), if_neg c, zb6 (by omega), show (n : Int) + 1 = ((n + 1 : Nat) : Int) by omega]
  have := splitN_eq (s := s) (b := 44) (n := n + 1) hs (by omega)
  rw [show (⟨#[44]⟩ : ByteArray) = bs [44] from rfl, this]
  rfl
theorem prt_le (n : Nat) (s : List UInt8) : (prt n s).length ≤ n + 1 ∧ ∀ p ∈ prt n s, p.length ≤ s.length := by
 unfold prt
 split
 ·simp
 ·exact spn_le 44 (n + 1) (by omega) s
theorem numbers_l0 (ps : List (List UInt8)) (acc : List Int) (i : Int) (h : ∀ p ∈ ps, p.length ≤ 281474976710656) (hb : acc.length + ps.length ≤ 100000) : impl_numbersOf.l0 (ps.map bs) acc i = some (acc ++ ps.map ati) := by
 induction ps generalizing acc i with
 | nil => simp [impl_numbersOf.l0]
 | cons p ps ih =>
  simp only [List.length_cons] at hb
  simp only [List.map_cons, impl_numbersOf.l0]
  rw [numberOf_eq (h p (by simp)), Option.bind_some, ap_ok (by simp; omega), Option.bind_some, ih _ _ (fun q hq => h q (List.mem_cons_of_mem _ hq)) (by simp; omega)]
  simp
theorem numbers_eq {ps : List (List UInt8)} (h : ∀ p ∈ ps, p.length ≤ 281474976710656) (hb : ps.length ≤ 100000) : impl_numbersOf.f (ps.map bs) = some (ps.map ati) := by
 unfold impl_numbersOf.f
 rw [numbers_l0 ps [] 0 h (by simpa using hb)]
 rfl
/-! what holds of joined texts -/
theorem not_jn {b c : UInt8} (h : c ≠ b) : ∀ {ps : List (List UInt8)}, (∀ p ∈ ps, c ∉ p) → c ∉ jn b ps
 | [], _ => by simp [jn]
 | [x], hp => hp x (by simp)
 | x :: y :: t, hp => by
  show c ∉ x ++ b :: jn b (y :: t)
  intro hm
  rcases List.mem_append.1 hm with hm | hm
  ·exact hp x (by simp) hm
  ·rcases List.mem_cons.1 hm with hm | hm
   ·exact h hm
   ·exact not_jn h (fun p q => hp p (List.mem_cons_of_mem _ q)) hm
theorem not_lsd {c : UInt8} (h : c ≠ 44) (h' : c ≠ 45) {ps : List (List UInt8)} (hp : ∀ p ∈ ps, c ∉ p) : c ∉ lsd ps := by
 unfold lsd
 split
 ·simpa using h'
 ·exact not_jn h hp
theorem lsd_minus {ps : List (List UInt8)} (hp : ∀ p ∈ ps, 45 ∉ p) (hn : ∀ p ∈ ps, 44 ∉ p) : (lsd ps = [45] ↔ ps = []) ∧ (ps ≠ [] → spl 44 (lsd ps) = ps) := by
 unfold lsd
 by_cases c : ps = []
 ·simp [c]
 ·rw [if_neg c]
  refine ⟨⟨fun e => ?_, fun e => absurd e c⟩, fun _ => spl_jn c hn⟩
  have := not_jn (b := 44) (c := 45) (by decide) hp
  rw [e] at this
  simp at this
theorem dn_not {c : UInt8} (h : dig c = false) (n : Int) : c ∉ dn n := not_dig h (dn_dig n)
def sop (y : SRegOp) : List UInt8 := dn y.f0 ++ 61 :: (dn y.f1 ++ 42 :: dn y.f2)
def LoO (s : List SRegOp) : Prop := ∀ y ∈ s, (0 ≤ y.f0 ∧ y.f0 < 100) ∧ (0 ≤ y.f1 ∧ y.f1 < 100) ∧ (0 ≤ y.f2 ∧ y.f2 < 100)
theorem sop_len {y : SRegOp} (h : (0 ≤ y.f0 ∧ y.f0 < 100) ∧ (0 ≤ y.f1 ∧ y.f1 < 100) ∧ (0 ≤ y.f2 ∧ y.f2 < 100)) : (sop y).length ≤ 8 := by
 have h1 := dn_len h.1
 have h2 := dn_len h.2.1
 have h3 := dn_len h.2.2
 unfold sop
 rw [List.length_append, List.length_cons, List.length_append, List.length_cons]
 omega
theorem sop_le {s : List SRegOp} (h : LoO s) : ∀ p ∈ s.map sop, p.length ≤ 8 := fun p hp => by
 obtain ⟨y, hy, rfl⟩ := List.mem_map.1 hp
 exact sop_len (h y hy)
theorem otext_l0 (s : List SRegOp) (acc : List ByteArray) (i : Int) (h : LoO s) (hb : acc.length + s.length ≤ 100000) : impl_RegCode_text.l0 s acc i = some (acc ++ (s.map sop).map bs) := by
 induction s generalizing acc i with
 | nil => simp [impl_RegCode_text.l0]
 | cons y ys ih =>
  have hy := h y (by simp)
  have l0 := dn_len hy.1
  have l1 := dn_len hy.2.1
  have l2 := dn_len hy.2.2
  simp only [List.length_cons] at hb
  simp only [impl_RegCode_text.l0]
  rw [itoa_eq hy.1, Option.bind_some, show (⟨#[61]⟩ : ByteArray) = bs [61] from rfl, sap_bs (by simp; omega), Option.bind_some, itoa_eq hy.2.1, Option.bind_some, sap_bs (by simp; omega), Option.bind_some, show (⟨#[42]⟩ : ByteArray) = bs [42] from rfl, sap_bs (by simp; omega), Option.bind_some, itoa_eq hy.2.2, Option.bind_some, sap_bs (by simp; omega), Option.bind_some, ap_ok (by simp; omega), Option.bind_some, ih _ _ (fun z hz => h z (List.mem_cons_of_mem _ hz)) (by simp; omega)]
  simp [sop]
/-- the text of code -/
def ctx (a : Int) (l1 : List Int) (l2 : List SRegOp) (l3 : List Int) : List UInt8 := dn a ++ 58 :: (lsd (l1.map dn) ++ 58 :: (lsd (l2.map sop) ++ 58 :: lsd (l3.map dn)))
structure LoC (a : Int) (l1 : List Int) (l2 : List SRegOp) (l3 : List Int) : Prop where
 a : 0 ≤ a ∧ a < 100
 b : ∀ y ∈ l1, 0 ≤ y ∧ y < 100
 c : LoO l2
 d : ∀ y ∈ l3, 0 ≤ y ∧ y < 100
 lb : l1.length ≤ 6
 lc : l2.length ≤ 40
 ld : l3.length ≤ 6
theorem ctext_eq {a : Int} {l1 : List Int} {l2 : List SRegOp} {l3 : List Int} (h : LoC a l1 l2 l3) : impl_RegCode_text.f a l1 l2 l3 = some (bs (ctx a l1 l2 l3)) := by
 have k1 := dn_len h.a
 have k2 := lsd_len (sop_le h.c)
 have k3 := lsd_len (dn_le h.b)
 have k4 := lsd_len (dn_le h.d)
 have q1 := h.lb
 have q2 := h.lc
 have q3 := h.ld
 rw [List.length_map] at k2 k3 k4
 unfold impl_RegCode_text.f
 rw [otext_l0 l2 [] 0 h.c (by simp; omega), Option.bind_some, List.nil_append, itoa_eq h.a, Option.bind_some, ntext_eq h.b (by omega), Option.bind_some, listed_eq (fun p hp => Nat.le_trans (sop_le h.c p hp) (by omega)) (by rw [List.length_map]; omega), Option.bind_some, ntext_eq h.d (by omega), Option.bind_some]
 have e : ([bs (dn a), bs (lsd (l1.map dn)), bs (lsd (l2.map sop)), bs (lsd (l3.map dn))] : List ByteArray) = ([dn a, lsd (l1.map dn), lsd (l2.map sop), lsd (l3.map dn)] : List (List UInt8)).map bs := rfl
 rw [e]
 have e2 : strings_Join.f (([dn a, lsd (l1.map dn), lsd (l2.map sop), lsd (l3.map dn)] : List (List UInt8)).map bs) (⟨#[58]⟩ : ByteArray) = some (bs (ctx a l1 l2 l3)) := by
  unfold strings_Join.f
  rw [map_bs]
  have e1 : Lib.join [dn a, lsd (l1.map dn), lsd (l2.map sop), lsd (l3.map dn)] ((⟨#[58]⟩ : ByteArray).data.toList) = jn 58 [dn a, lsd (l1.map dn), lsd (l2.map sop), lsd (l3.map dn)] := jn_join 58 _
  have e3 : jn 58 [dn a, lsd (l1.map dn), lsd (l2.map sop), lsd (l3.map dn)] = ctx a l1 l2 l3 := rfl
  rw [e1, e3, if_pos]
  ·rfl
  ·constructor
   ·simp
   ·unfold ctx
    simp only [List.length_append, List.length_cons]
    omega
 rw [e2]
 rfl
theorem reList_l0 (l : List Int) (ds : List (List UInt8)) (i : Int) (hi : i = (ds.length : Int)) (h : ∀ y ∈ l, 0 ≤ y ∧ y < 100) (hd : ∀ p ∈ ds, p.length ≤ 100) (hb : ds.length + l.length ≤ 2000) : Ev (fun k => spec_reList.l0 k l (bs (jn 44 ds)) i) (bs (jn 44 (ds ++ l.map dn))) := by
 induction l generalizing ds i with
 | nil =>
  simp only [spec_reList.l0, List.map_nil, List.append_nil]
  exact ret _
 | cons y ys ih =>
  have hy := h y (by simp)
  have l0 := dn_len hy
  have hj := jn_len 44 100 ds hd
  simp only [List.length_cons] at hb
  have hj2 : ds.length * (100 + 1) ≤ 2000 * 101 := Nat.mul_le_mul_right _ (by omega)
  have hnext := ih (ds ++ [dn y]) (i + 1) (by simp; omega) (fun z hz => h z (List.mem_cons_of_mem _ hz)) (fun p hp => by
   rcases List.mem_append.1 hp with hp | hp
   ·exact hd p hp
   ·rw [List.mem_singleton.1 hp]; omega) (by simp; omega)
  rw [List.append_assoc] at hnext
  simp only [spec_reList.l0]
  by_cases c : ds = []
  ·subst c
   refine bind0 (if_neg (by rw [hi]; simp)) (bind (num_ev hy) (bind0 (sap_bs (by simp [jn]; omega)) ?_))
   exact hnext
  ·have hp : 0 < ds.length := List.length_pos_iff.2 c
   refine bind0 (a := bs (jn 44 ds ++ [44])) ?_ (bind (num_ev hy) (bind0 (sap_bs (by simp; omega)) ?_))
   ·rw [if_pos (by omega), show (⟨#[44]⟩ : ByteArray) = bs [44] from rfl, sap_bs (by simp; omega)]
    rfl
   ·rw [jn_append 44 _ c] at hnext
    rw [List.append_assoc]
    exact hnext
theorem lsd_if {ps : List (List UInt8)} (hp : ∀ p ∈ ps, p ≠ []) : (if bs (jn 44 ps) = (⟨#[]⟩ : ByteArray) then (some (⟨#[45]⟩ : ByteArray)) else some (bs (jn 44 ps))) = some (bs (lsd ps)) := by
 unfold lsd
 by_cases c : ps = []
 ·subst c
  rfl
 ·rw [if_neg c, if_neg (c := bs (jn 44 ps) = (⟨#[]⟩ : ByteArray)) (fun e => jn_ne (b := 44) c hp (bs_inj (b := []) e))]
theorem dn_ne (n : Int) : dn n ≠ [] := dec_ne _
theorem sop_ne (y : SRegOp) : sop y ≠ [] := by unfold sop; simp
theorem map_ne {α : Type} {f : α → List UInt8} (h : ∀ x, f x ≠ []) (l : List α) : ∀ p ∈ l.map f, p ≠ [] := fun p hp => by
 obtain ⟨y, _, rfl⟩ := List.mem_map.1 hp
 exact h y
theorem reList_ev {l : List Int} (h : ∀ y ∈ l, 0 ≤ y ∧ y < 100) (hl : l.length ≤ 1000) : Ev (fun k => spec_reList.f k l) (bs (lsd (l.map dn))) := by
 unfold spec_reList.f
 have := reList_l0 l [] 0 rfl h (by simp) (by simp; omega)
 rw [List.nil_append] at this
 refine bind this (now ?_)
 exact lsd_if (map_ne dn_ne l)
theorem reText_l0 (l : List SRegOp) (ds : List (List UInt8)) (i : Int) (hi : i = (ds.length : Int)) (h : LoO l) (hd : ∀ p ∈ ds, p.length ≤ 100) (hb : ds.length + l.length ≤ 2000) : Ev (fun k => spec_reText.l0 k l (bs (jn 44 ds)) i) (bs (jn 44 (ds ++ l.map sop))) := by
 induction l generalizing ds i with
 | nil =>
  simp only [spec_reText.l0, List.map_nil, List.append_nil]
  exact ret _
 | cons y ys ih =>
  have hy := h y (by simp)
  have l0 := dn_len hy.1
  have l1 := dn_len hy.2.1
  have l2 := dn_len hy.2.2
  have hj := jn_len 44 100 ds hd
  simp only [List.length_cons] at hb
  have hj2 : ds.length * (100 + 1) ≤ 2000 * 101 := Nat.mul_le_mul_right _ (by omega)
  have hst := sop_len hy
  have hnext := ih (ds ++ [sop y]) (i + 1) (by simp; omega) (fun z hz => h z (List.mem_cons_of_mem _ hz)) (fun p hp => by
   rcases List.mem_append.1 hp with hp | hp
   ·exact hd p hp
   ·rw [List.mem_singleton.1 hp]; omega) (by simp; omega)
  rw [List.append_assoc] at hnext
  simp only [spec_reText.l0]
  have e1 : sap (bs (dn y.f0)) (⟨#[61]⟩ : ByteArray) = some (bs (dn y.f0 ++ [61])) := sap_bs (b := [61]) (by simp; omega)
  have e2 : sap (bs (dn y.f0 ++ [61])) (bs (dn y.f1)) = some (bs (dn y.f0 ++ [61] ++ dn y.f1)) := sap_bs (by simp; omega)
  have e3 : sap (bs (dn y.f0 ++ [61] ++ dn y.f1)) (⟨#[42]⟩ : ByteArray) = some (bs (dn y.f0 ++ [61] ++ dn y.f1 ++ [42])) := sap_bs (b := [42]) (by simp; omega)
  have e4 : sap (bs (dn y.f0 ++ [61] ++ dn y.f1 ++ [42])) (bs (dn y.f2)) = some (bs (sop y)) := by
   rw [sap_bs (by simp; omega)]
   unfold sop
   simp
  by_cases c : ds = []
  ·subst c
   refine bind0 (if_neg (by rw [hi]; simp)) (bind (num_ev hy.1) (bind0 e1 (bind (num_ev hy.2.1) (bind0 e2 (bind0 e3 (bind (num_ev hy.2.2) (bind0 e4 (bind0 (sap_bs (by simp [jn]; omega)) ?_))))))))
   exact hnext
  ·have hp : 0 < ds.length := List.length_pos_iff.2 c
   refine bind0 (a := bs (jn 44 ds ++ [44])) ?_ (bind (num_ev hy.1) (bind0 e1 (bind (num_ev hy.2.1) (bind0 e2 (bind0 e3 (bind (num_ev hy.2.2) (bind0 e4 (bind0 (sap_bs (by simp; omega)) ?_))))))))
   ·rw [if_pos (by omega), show (⟨#[44]⟩ : ByteArray) = bs [44] from rfl, sap_bs (by simp; omega)]
    rfl
   ·rw [jn_append 44 _ c] at hnext
    rw [List.append_assoc]
    exact hnext
theorem reText_ev {a : Int} {l1 : List Int} {l2 : List SRegOp} {l3 : List Int} (h : LoC a l1 l2 l3) : Ev (fun k => spec_reText.f k a l1 l2 l3) (bs (ctx a l1 l2 l3)) := by
 have k1 := dn_len h.a
 have k2 := lsd_len (sop_le h.c)
 have k3 := lsd_len (dn_le h.b)
 have k4 := lsd_len (dn_le h.d)
 have q1 := h.lb
 have q2 := h.lc
 have q3 := h.ld
 rw [List.length_map] at k2 k3 k4
 unfold spec_reText.f
 have h0 := reText_l0 l2 [] 0 rfl h.c (by simp) (by simp; omega)
 rw [List.nil_append] at h0
 refine bind h0 (bind0 (a := bs (lsd (l2.map sop))) (lsd_if (map_ne sop_ne l2)) (bind (num_ev h.a) (bind0 (sap_bs (b := [58]) (by simp; omega)) (bind (reList_ev h.b (by omega)) (bind0 (sap_bs (by simp; omega)) (bind0 (sap_bs (b := [58]) (by simp; omega)) (bind0 (sap_bs (by simp; omega)) (bind0 (sap_bs (b := [58]) (by simp; omega)) (bind (reList_ev h.d (by omega)) (bind0 (sap_bs (by simp; omega)) ?_))))))))))
 have e : dn a ++ [58] ++ lsd (l1.map dn) ++ [58] ++ lsd (l2.map sop) ++ [58] ++ lsd (l3.map dn) = ctx a l1 l2 l3 := by unfold ctx; simp
 rw [e]
 exact ret _
def cok (a : Int) (l1 : List Int) (l2 : List SRegOp) (l3 : List Int) : Bool := (codeP a l1 l2 l3).isSome
theorem cok_lo {a : Int} {l1 : List Int} {l2 : List SRegOp} {l3 : List Int} (h : cok a l1 l2 l3 = true) : LoC a l1 l2 l3 := by
 unfold cok at h
 obtain ⟨⟨s, o⟩, hc⟩ := Option.isSome_iff_exists.1 h
 obtain ⟨n, rfl, g, _⟩ := codeP_ok hc
 have r := g.reg
 have key : ∀ y, hs n y = true → 0 ≤ y ∧ y < 100 := fun y hy => by
  unfold hs at hy
  simp only [Bool.and_eq_true, decide_eq_true_eq] at hy
  omega
 exact ⟨by omega, fun y hy => key y (g.ins y hy), fun y hy => ⟨key _ (g.ops y hy).1, key _ (g.ops y hy).2.1, key _ (g.ops y hy).2.2⟩, fun y hy => key y (g.outs y hy), g.len1.2, g.len2, g.len3⟩
def ctP (a : Int) (l1 : List Int) (l2 : List SRegOp) (l3 : List Int) : ByteArray × Bool := if cok a l1 l2 l3 = true then (bs (ctx a l1 l2 l3), true) else (⟨#[]⟩, false)
theorem iCodeText_ev (a : Int) (l1 : List Int) (l2 : List SRegOp) (l3 : List Int) : Ev (fun k => impl_RegCodeText.f k a l1 l2 l3) (ctP a l1 l2 l3) := by
 unfold impl_RegCodeText.f ctP
 refine bind (isRegCode_ev a l1 l2 l3) ?_
 show Ev (fun n => if cok a l1 l2 l3 = true then _ else _) _
 cases c : cok a l1 l2 l3 with
 | false => exact neg (by simp) (ret _)
 | true => exact pos rfl (bind0 (ctext_eq (cok_lo c)) (ret _))
theorem splC_le {b : UInt8} : ∀ {s p : List UInt8}, p ∈ spl b s → p.length ≤ s.length
 | [], p, h => by
  have e : p = [] := by simpa [spl] using h
  simp [e]
 | c :: r, p, h => by
  by_cases hc : c = b
  ·subst hc
   rw [spl_hit] at h
   rcases List.mem_cons.1 h with rfl | h
   ·simp
   ·exact Nat.le_trans (splC_le h) (by simp)
  ·rw [spl_miss hc] at h
   cases hs : spl b r with
   | nil => exact absurd hs (spl_ne b r)
   | cons x t =>
    rw [hs] at h
    rcases List.mem_cons.1 h with rfl | h
    ·have := splC_le (b := b) (s := r) (p := x) (by rw [hs]; simp)
     simp
     omega
    ·exact Nat.le_trans (splC_le (b := b) (s := r) (p := p) (by rw [hs]; exact List.mem_cons_of_mem _ h)) (by simp)
def prN (s : List UInt8) : List Int := if s = [45] then [] else (spl 44 s).map rdn
theorem reNum_l0 (ps : List (List UInt8)) (acc : List Int) (i : Int) (hb : acc.length + ps.length ≤ 100000000) : Ev (fun k => spec_reNumbers.l0 k (ps.map bs) acc i) (acc ++ ps.map rdn) := by
 induction ps generalizing acc i with
 | nil =>
  simp only [List.map_nil, spec_reNumbers.l0, List.append_nil]
  exact ret _
 | cons p ps ih =>
  simp only [List.length_cons] at hb
  simp only [List.map_cons, spec_reNumbers.l0]
  refine bind (read_ev p) (bind0 (ap_ok (by simp; omega)) ?_)
  have := ih (acc ++ [rdn p]) (i + 1) (by simp; omega)
  rw [List.append_assoc] at this
  exact this
theorem reNum_ev {s : List UInt8} (hs : s.length ≤ 4000000) : Ev (fun k => spec_reNumbers.f k (bs s)) (prN s) := by
 unfold spec_reNumbers.f prN
 by_cases c : s = [45]
 ·subst c
  exact pos rfl (ret _)
 ·rw [if_neg c]
  have h1 : Ev (fun k => spec_l1Split.f k (bs s) 44) ((spl 44 s).map bs) := split_ev s 44 hs
  have hl := spl_len 44 s
  refine neg (fun e => c (bs_inj (b := [45]) e)) (bind h1 (bind (reNum_l0 _ [] 0 (by simp; omega)) ?_))
  rw [List.nil_append]
  exact ret _
def rdo : List (List UInt8) → Option (List SRegOp)
 | [] => some []
 | w :: ws => match spl 61 w with
  | [a, r] => match spl 42 r with
   | [b, c] => (rdo ws).map fun t => ⟨rdn a, rdn b, rdn c⟩ :: t
   | _ => none
  | _ => none
theorem rdo_l0 (ws : List (List UInt8)) (acc : List SRegOp) (i : Int) (hw : ∀ w ∈ ws, w.length ≤ 4000000) (hb : acc.length + ws.length ≤ 100000000) : Ev (fun k => spec_reOps.l0 k (ws.map bs) acc i) (match rdo ws with
  | some t => Sum.inr (acc ++ t)
  | none => Sum.inl ([], false)) := by
 induction ws generalizing acc i with
 | nil =>
  simp only [List.map_nil, spec_reOps.l0, rdo, List.append_nil]
  exact ret _
 | cons w ws ih =>
  simp only [List.length_cons] at hb
  simp only [List.map_cons, spec_reOps.l0, rdo]
  have hwl := hw w (by simp)
  have h1 : Ev (fun k => spec_l1Split.f k (bs w) 61) ((spl 61 w).map bs) := split_ev w 61 hwl
  refine bind h1 ?_
  obtain ⟨L, hL⟩ : ∃ L, spl 61 w = L := ⟨_, rfl⟩
  have hle : ∀ p ∈ L, p.length ≤ w.length := fun p hp => splC_le (b := 61) (hL ▸ hp)
  rw [hL]
  rcases L with _ | ⟨a, _ | ⟨r, _ | ⟨c, t⟩⟩⟩
  ·exact pos (by simp) (ret _)
  ·exact pos (by simp) (ret _)
  ·have hr := hle r (by simp)
   have h2 : Ev (fun k => spec_l1Split.f k (bs r) 42) ((spl 42 r).map bs) := split_ev r 42 (by omega)
   refine neg (by simp) (bind0 (a := bs r) rfl (bind h2 ?_))
   show Ev _ (match (match spl 42 r with
    | [b, c] => (rdo ws).map fun t => (⟨rdn a, rdn b, rdn c⟩ : SRegOp) :: t
    | _ => none) with
    | some t => Sum.inr (acc ++ t)
    | none => Sum.inl ([], false))
   obtain ⟨M, hM⟩ : ∃ M, spl 42 r = M := ⟨_, rfl⟩
   rw [hM]
   rcases M with _ | ⟨b, _ | ⟨c, _ | ⟨d, t⟩⟩⟩
   ·exact pos (by simp) (ret _)
   ·exact pos (by simp) (ret _)
   ·refine neg (by simp) (bind0 (a := bs a) rfl (bind0 (a := bs b) rfl (bind0 (a := bs c) rfl (bind (read_ev a) (bind (read_ev b) (bind (read_ev c) (bind0 (ap_ok (by simp; omega)) ?_)))))))
    have := ih (acc ++ [⟨rdn a, rdn b, rdn c⟩]) (i + 1) (fun w hw' => hw w (List.mem_cons_of_mem _ hw')) (by simp; omega)
    cases hr : rdo ws with
    | none =>
     rw [hr] at this
     exact this
    | some t =>
     rw [hr] at this
     have this' : Ev _ (Sum.inr (acc ++ [⟨rdn a, rdn b, rdn c⟩] ++ t)) := this
     rw [List.append_assoc] at this'
     exact this'
   ·exact pos (by simp; omega) (ret _)
  ·exact pos (by simp; omega) (ret _)
def rdO (s : List UInt8) : Option (List SRegOp) := if s = [45] then some [] else rdo (spl 44 s)
theorem reOps_ev {s : List UInt8} (hs : s.length ≤ 4000000) : Ev (fun k => spec_reOps.f k (bs s)) (match rdO s with
  | some t => (t, true)
  | none => ([], false)) := by
 unfold spec_reOps.f rdO
 by_cases c : s = [45]
 ·subst c
  exact pos rfl (ret _)
 ·rw [if_neg c]
  have h1 : Ev (fun k => spec_l1Split.f k (bs s) 44) ((spl 44 s).map bs) := split_ev s 44 hs
  have hl := spl_len 44 s
  have h3 := rdo_l0 (spl 44 s) [] 0 (fun w hw => by have := splC_le hw; omega) (by simp; omega)
  refine neg (fun e => c (bs_inj (b := [45]) e)) (bind h1 ?_)
  cases hr : rdo (spl 44 s) with
  | none =>
   rw [hr] at h3
   exact bind h3 (ret _)
  | some t =>
   rw [hr] at h3
   replace h3 : Ev _ (Sum.inr t) := h3
   exact bind h3 (ret _)
abbrev CRes := Int × List Int × List SRegOp × List Int × Bool
def cNo : CRes := (0, [], [], [], false)
def cYes (s : List UInt8) (a : Int) (l1 : List Int) (l2 : List SRegOp) (l3 : List Int) : CRes := if cok a l1 l2 l3 = true ∧ ctx a l1 l2 l3 = s then (a, l1, l2, l3, true) else cNo
def scR (s : List UInt8) : CRes := match spl 58 s with
 | [a, b, c, d] => match rdO c with
  | some t => cYes s (rdn a) (prN b) t (prN d)
  | none => cNo
 | _ => cNo
theorem check_ev {s : List UInt8} {g : Nat → Option Bool} {f : Nat → Option ByteArray} {a : Int} {l1 : List Int} {l2 : List SRegOp} {l3 : List Int} (hg : Ev g (cok a l1 l2 l3)) (hf : cok a l1 l2 l3 = true → Ev f (bs (ctx a l1 l2 l3))) : Ev (fun k => ((g k).bind fun b => if b = true then ((f k).bind fun t => some (decide (t ≠ bs s))) else some true).bind fun b => if b = true then some cNo else some (a, l1, l2, l3, true)) (cYes s a l1 l2 l3) := by
 unfold cYes
 cases c : cok a l1 l2 l3 with
 | false =>
  rw [c] at hg
  rw [if_neg (by simp)]
  exact bind (a := true) (bind hg (neg (by simp) (ret _))) (pos rfl (ret _))
 | true =>
  rw [c] at hg
  have ht := hf c
  by_cases e : ctx a l1 l2 l3 = s
  ·rw [if_pos ⟨rfl, e⟩]
   refine bind (a := false) (bind hg (pos rfl (bind ht ?_))) (neg (by simp) (ret _))
   rw [e, decide_eq_false (by simp)]
   exact ret _
  ·rw [if_neg (fun q => e q.2)]
   refine bind (a := true) (bind hg (pos rfl (bind ht ?_))) (pos rfl (ret _))
   rw [show decide (bs (ctx a l1 l2 l3) ≠ bs s) = true from decide_eq_true (fun q => e (bs_inj q))]
   exact ret _
theorem scode_ev {s : List UInt8} (hs : s.length ≤ 2000000) : Ev (fun k => spec_ParseRegCode.f k (bs s)) (scR s) := by
 unfold spec_ParseRegCode.f scR
 have h1 : Ev (fun k => spec_l1Split.f k (bs s) 58) ((spl 58 s).map bs) := split_ev s 58 (by omega)
 refine bind h1 ?_
 obtain ⟨L, hL⟩ : ∃ L, spl 58 s = L := ⟨_, rfl⟩
 have hle : ∀ p ∈ L, p.length ≤ s.length := fun p hp => splC_le (b := 58) (hL ▸ hp)
 rw [hL]
 rcases L with _ | ⟨a, _ | ⟨b, _ | ⟨c, _ | ⟨d, _ | ⟨e, t⟩⟩⟩⟩⟩
 ·exact pos (by simp) (ret _)
 ·exact pos (by simp) (ret _)
 ·exact pos (by simp) (ret _)
 ·exact pos (by simp) (ret _)
 ·have hb := hle b (by simp)
  have hc := hle c (by simp)
  have hd := hle d (by simp)
  have h2 := reOps_ev (s := c) (by omega)
  refine neg (by simp) (bind0 (a := bs c) rfl (bind h2 ?_))
  have h3 : Ev (fun n => (gt (List.map bs [a, b, c, d]) 0).bind fun y => (spec_l1Read.f n y).bind fun i => (gt (List.map bs [a, b, c, d]) 1).bind fun y2 => (spec_reNumbers.f n y2).bind fun l => (gt (List.map bs [a, b, c, d]) 3).bind fun y3 => (spec_reNumbers.f n y3).bind fun l2 => some (i, l, l2)) (rdn a, prN b, prN d) := bind0 (a := bs a) rfl (bind (read_ev a) (bind0 (a := bs b) rfl (bind (reNum_ev (by omega)) (bind0 (a := bs d) rfl (bind (reNum_ev (by omega)) (ret _))))))
  show Ev _ (match rdO c with
   | some t => cYes s (rdn a) (prN b) t (prN d)
   | none => cNo)
  cases hr : rdO c with
  | none => exact bind h3 (bind0 (a := true) rfl (pos rfl (ret _)))
  | some t =>
   refine bind h3 ?_
   exact check_ev (reCode_ev (rdn a) (prN b) t (prN d)) (fun h => reText_ev (cok_lo h))
 ·exact pos (by simp; omega) (ret _)
/-! the program's -/
def iop (w : List UInt8) : SRegOp := ⟨ati (Lib.cut w [61]).1, ati (Lib.cut (Lib.cut w [61]).2.1 [42]).1, ati (Lib.cut (Lib.cut w [61]).2.1 [42]).2.1⟩
theorem iop_l0 (ws : List (List UInt8)) (acc : List SRegOp) (i : Int) (hw : ∀ w ∈ ws, w.length ≤ 4000000) (hb : acc.length + ws.length ≤ 1000000) : impl_ParseRegCode.l0 (ws.map bs) acc i = some (acc ++ ws.map iop) := by
 induction ws generalizing acc i with
 | nil => simp [impl_ParseRegCode.l0]
 | cons w ws ih =>
  simp only [List.length_cons] at hb
  have h1 := hw w (by simp)
  have h2 := cutL_le w [61]
  have h3 := cutL_le (Lib.cut w [61]).2.1 [42]
  simp only [List.map_cons, impl_ParseRegCode.l0]
  rw [show (⟨#[61]⟩ : ByteArray) = bs [61] from rfl, cut_eq (by omega), Option.bind_some]
  simp only []
  rw [show (⟨#[42]⟩ : ByteArray) = bs [42] from rfl, cut_eq (by omega), Option.bind_some]
  simp only []
  rw [numberOf_eq (by omega), Option.bind_some, numberOf_eq (by omega), Option.bind_some, numberOf_eq (by omega), Option.bind_some, ap_ok (by simp; omega), Option.bind_some, ih _ _ (fun q hq => hw q (List.mem_cons_of_mem _ hq)) (by simp; omega)]
  simp [iop]
def icR (s : List UInt8) : CRes := match spn 58 5 s with
 | [a, b, c, d] => cYes s (ati a) ((prt 6 b).map ati) ((prt 40 c).map iop) ((prt 6 d).map ati)
 | _ => cNo
theorem icode_ev {s : List UInt8} (hs : s.length ≤ 2000000) : Ev (fun k => impl_ParseRegCode.f k (bs s)) (icR s) := by
 unfold impl_ParseRegCode.f icR
 refine bind0 (splitN_eq (s := s) (b := 58) (n := 5) (by omega) (by omega)) ?_
 obtain ⟨L, hL⟩ : ∃ L, spn 58 5 s = L := ⟨_, rfl⟩
 have hle : ∀ p ∈ L, p.length ≤ s.length := fun p hp => (spn_le 58 5 (by omega) s).2 p (hL ▸ hp)
 rw [hL]
 rcases L with _ | ⟨a, _ | ⟨b, _ | ⟨c, _ | ⟨d, _ | ⟨e, t⟩⟩⟩⟩⟩
 ·exact pos (by simp) (ret _)
 ·exact pos (by simp) (ret _)
 ·exact pos (by simp) (ret _)
 ·exact pos (by simp) (ret _)
 ·have ha := hle a (by simp)
  have hb := hle b (by simp)
  have hc := hle c (by simp)
  have hd := hle d (by simp)
  have pb := prt_le 6 b
  have pc := prt_le 40 c
  have pd := prt_le 6 d
  refine neg (by simp) (bind0 (a := (ati a, (prt 6 b).map ati, (prt 6 d).map ati)) ?_ (bind0 (a := bs c) rfl (bind0 (parts_eq (n := 40) (by omega) (by omega)) (bind0 (iop_l0 _ [] 0 (fun w hw => by have := pc.2 w hw; omega) (by simp; omega)) ?_))))
  ·rw [show gt (List.map bs [a, b, c, d]) 0 = some (bs a) from rfl, Option.bind_some, numberOf_eq (by omega), Option.bind_some, show gt (List.map bs [a, b, c, d]) 1 = some (bs b) from rfl, Option.bind_some, show (6 : Int) = ((6 : Nat) : Int) from rfl, parts_eq (by omega) (by omega), Option.bind_some, numbers_eq (fun p hp => by have := pb.2 p hp; omega) (by omega), Option.bind_some, show gt (List.map bs [a, b, c, d]) 3 = some (bs d) from rfl, Option.bind_some, parts_eq (by omega) (by omega), Option.bind_some, numbers_eq (fun p hp => by have := pd.2 p hp; omega) (by omega)]
   rfl
  ·rw [List.nil_append]
   exact check_ev (isRegCode_ev _ _ _ _) (fun h => now (ctext_eq (cok_lo h)))
 ·exact pos (by simp; omega) (ret _)
/-! both read what is written -/
theorem c58 : dig 58 = false := by decide
theorem c44 : dig 44 = false := by decide
theorem c42 : dig 42 = false := by decide
theorem c45 : dig 45 = false := by decide
theorem c61 : dig 61 = false := by decide
theorem mapC_dn {o : List Int} {c : UInt8} (h : dig c = false) : ∀ p ∈ o.map dn, c ∉ p := fun p hp => by
 obtain ⟨y, _, rfl⟩ := List.mem_map.1 hp
 exact dn_not h y
theorem sop_not {c : UInt8} (h : dig c = false) (h' : c ≠ 42) (h2 : c ≠ 61) (y : SRegOp) : c ∉ sop y := by
 unfold sop
 intro hm
 rcases List.mem_append.1 hm with hm | hm
 ·exact dn_not h _ hm
 ·rcases List.mem_cons.1 hm with hm | hm
  ·exact h2 hm
  ·rcases List.mem_append.1 hm with hm | hm
   ·exact dn_not h _ hm
   ·rcases List.mem_cons.1 hm with hm | hm
    ·exact h' hm
    ·exact dn_not h _ hm
theorem map_sop {s : List SRegOp} {c : UInt8} (h : dig c = false) (h' : c ≠ 42) (h2 : c ≠ 61) : ∀ p ∈ s.map sop, c ∉ p := fun p hp => by
 obtain ⟨y, _, rfl⟩ := List.mem_map.1 hp
 exact sop_not h h' h2 y
theorem spl_ctx (a : Int) (l1 : List Int) (l2 : List SRegOp) (l3 : List Int) : spl 58 (ctx a l1 l2 l3) = [dn a, lsd (l1.map dn), lsd (l2.map sop), lsd (l3.map dn)] := by
 unfold ctx
 rw [spl_cut _ (dn_not c58 a), spl_cut _ (not_lsd (by decide) (by decide) (mapC_dn c58)), spl_cut _ (not_lsd (by decide) (by decide) (map_sop c58 (by decide) (by decide))), spl_one (not_lsd (by decide) (by decide) (mapC_dn c58))]
theorem mapC_id {α β : Type} {f : α → β} {g : β → α} {l : List α} (h : ∀ x ∈ l, g (f x) = x) : (l.map f).map g = l := by
 rw [List.map_map]
 conv => rhs; rw [← List.map_id l]
 exact List.map_congr_left h
theorem not61 (y : SRegOp) : 61 ∉ dn y.f1 ++ 42 :: dn y.f2 := fun hm => by
 rcases List.mem_append.1 hm with hm | hm
 ·exact dn_not c61 _ hm
 ·rcases List.mem_cons.1 hm with hm | hm
  ·exact absurd hm (by decide)
  ·exact dn_not c61 _ hm
theorem rdo_sop {s : List SRegOp} (h : LoO s) : rdo (s.map sop) = some s := by
 induction s with
 | nil => rfl
 | cons y ys ih =>
  have hy := h y (by simp)
  have e1 : spl 61 (sop y) = [dn y.f0, dn y.f1 ++ 42 :: dn y.f2] := by
   unfold sop
   rw [spl_cut _ (dn_not c61 _), spl_one (not61 y)]
  have e2 : spl 42 (dn y.f1 ++ 42 :: dn y.f2) = [dn y.f1, dn y.f2] := by rw [spl_cut _ (dn_not c42 _), spl_one (dn_not c42 _)]
  simp only [List.map_cons, rdo]
  rw [e1]
  simp only []
  rw [e2]
  simp only []
  rw [ih (fun z hz => h z (List.mem_cons_of_mem _ hz)), rdn_dn (by omega), rdn_dn (by omega), rdn_dn (by omega)]
  rfl
theorem rdO_lsd {s : List SRegOp} (h : LoO s) : rdO (lsd (s.map sop)) = some s := by
 obtain ⟨h1, h2⟩ := lsd_minus (map_sop (s := s) c45 (by decide) (by decide)) (map_sop (s := s) c44 (by decide) (by decide))
 unfold rdO
 by_cases c : s = []
 ·subst c
  rfl
 ·have c' : s.map sop ≠ [] := by simpa using c
  rw [if_neg (fun e => c' (h1.1 e)), h2 c', rdo_sop h]
theorem prN_dn {o : List Int} (h : ∀ y ∈ o, 0 ≤ y ∧ y < 100) : prN (lsd (o.map dn)) = o := by
 obtain ⟨h1, h2⟩ := lsd_minus (mapC_dn (o := o) c45) (mapC_dn (o := o) c44)
 unfold prN
 by_cases c : o = []
 ·subst c
  rfl
 ·have c' : o.map dn ≠ [] := by simpa using c
  rw [if_neg (fun e => c' (h1.1 e)), h2 c']
  exact mapC_id fun y hy => rdn_dn (by have := h y hy; omega)
theorem iop_sop {y : SRegOp} (h : (0 ≤ y.f0 ∧ y.f0 < 100) ∧ (0 ≤ y.f1 ∧ y.f1 < 100) ∧ (0 ≤ y.f2 ∧ y.f2 < 100)) : iop (sop y) = y := by
 have e1 : Lib.cut (sop y) [61] = (dn y.f0, dn y.f1 ++ 42 :: dn y.f2, true) := cut_hit (dn_not c61 _)
 unfold iop
 rw [e1]
 show (⟨_, _, _⟩ : SRegOp) = _
 rw [show Lib.cut (dn y.f1 ++ 42 :: dn y.f2) [42] = (dn y.f1, dn y.f2, true) from cut_hit (dn_not c42 _)]
 show (⟨ati (dn y.f0), ati (dn y.f1), ati (dn y.f2)⟩ : SRegOp) = _
 rw [ati_dn (by omega), ati_dn (by omega), ati_dn (by omega)]
theorem prtC_lsd {n : Nat} {ps : List (List UInt8)} (h45 : ∀ p ∈ ps, 45 ∉ p) (h44 : ∀ p ∈ ps, 44 ∉ p) (hl : ps.length ≤ n + 1) : prt n (lsd ps) = ps := by
 obtain ⟨h1, h2⟩ := lsd_minus h45 h44
 unfold prt
 by_cases c : ps = []
 ·subst c
  rfl
 ·rw [if_neg (fun e => c (h1.1 e)), spn_spl (by rw [h2 c]; omega) (by omega), h2 c]
theorem scR_ctx {a : Int} {l1 : List Int} {l2 : List SRegOp} {l3 : List Int} (h : cok a l1 l2 l3 = true) : scR (ctx a l1 l2 l3) = (a, l1, l2, l3, true) := by
 have g := cok_lo h
 unfold scR
 rw [spl_ctx]
 show (match rdO (lsd (l2.map sop)) with
  | some t => cYes _ (rdn (dn a)) (prN (lsd (l1.map dn))) t (prN (lsd (l3.map dn)))
  | none => cNo) = _
 have ga := g.a
 rw [rdO_lsd g.c, prN_dn g.b, prN_dn g.d, rdn_dn (by omega)]
 show cYes _ _ _ _ _ = _
 unfold cYes
 rw [if_pos ⟨h, rfl⟩]
theorem icR_ctx {a : Int} {l1 : List Int} {l2 : List SRegOp} {l3 : List Int} (h : cok a l1 l2 l3 = true) : icR (ctx a l1 l2 l3) = (a, l1, l2, l3, true) := by
 have g := cok_lo h
 have q1 := g.lb
 have q2 := g.lc
 have q3 := g.ld
 have ga := g.a
 unfold icR
 rw [spn_spl (by rw [spl_ctx]; simp) (by omega), spl_ctx]
 show cYes _ _ _ _ _ = _
 rw [prtC_lsd (mapC_dn c45) (mapC_dn c44) (by simp; omega), prtC_lsd (map_sop c45 (by decide) (by decide)) (map_sop c44 (by decide) (by decide)) (by simp; omega), prtC_lsd (mapC_dn c45) (mapC_dn c44) (by simp; omega), ati_dn (by omega), mapC_id fun y hy => iop_sop (g.c y hy), mapC_id fun y hy => ati_dn (by have := g.b y hy; omega), mapC_id fun y hy => ati_dn (by have := g.d y hy; omega)]
 unfold cYes
 rw [if_pos ⟨h, rfl⟩]
theorem cYes_cases (s : List UInt8) (a : Int) (l1 : List Int) (l2 : List SRegOp) (l3 : List Int) : (cok a l1 l2 l3 = true ∧ ctx a l1 l2 l3 = s ∧ cYes s a l1 l2 l3 = (a, l1, l2, l3, true)) ∨ cYes s a l1 l2 l3 = cNo := by
 unfold cYes
 split
 ·rename_i h
  exact .inl ⟨h.1, h.2, rfl⟩
 ·exact .inr rfl
theorem scR_cases (s : List UInt8) : (∃ a l1 l2 l3, cok a l1 l2 l3 = true ∧ ctx a l1 l2 l3 = s ∧ scR s = (a, l1, l2, l3, true)) ∨ scR s = cNo := by
 unfold scR
 split
 ·split
  ·rename_i t _
   rcases cYes_cases s _ _ t _ with ⟨h1, h2, h3⟩ | h
   ·exact .inl ⟨_, _, _, _, h1, h2, h3⟩
   ·exact .inr h
  ·exact .inr rfl
 ·exact .inr rfl
theorem icR_cases (s : List UInt8) : (∃ a l1 l2 l3, cok a l1 l2 l3 = true ∧ ctx a l1 l2 l3 = s ∧ icR s = (a, l1, l2, l3, true)) ∨ icR s = cNo := by
 unfold icR
 split
 ·rcases cYes_cases s _ _ _ _ with ⟨h1, h2, h3⟩ | h
  ·exact .inl ⟨_, _, _, _, h1, h2, h3⟩
  ·exact .inr h
 ·exact .inr rfl
theorem ic_sc (s : List UInt8) : icR s = scR s := by
 rcases scR_cases s with ⟨a, l1, l2, l3, h1, h2, h3⟩ | h
 ·rw [h3, ← h2, icR_ctx h1]
 ·rcases icR_cases s with ⟨a, l1, l2, l3, h1, h2, h3⟩ | h'
  ·rw [h3, ← h2, scR_ctx h1]
  ·rw [h, h']
end Go.Proofs.YtnnlfipcoahcnaaGreatDoor.Pure
