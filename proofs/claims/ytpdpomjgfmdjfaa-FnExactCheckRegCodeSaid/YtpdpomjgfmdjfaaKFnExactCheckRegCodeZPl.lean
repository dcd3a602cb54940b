/- Plans: exponents of all values as the reference and the program reckon them; what is a plan for one is one for the other. -/
import Derived.Test.YtpdpomjgfmdjfaaKFnExactCheckRegCodeEv
import Derived.Test.YtpdpomjgfmdjfaaKFnExactCheckRegCodeQ0
import Derived.Test.YtpdpomjgfmdjfaaKFnExactCheckRegCodeQ1
import Derived.Test.YtpdpomjgfmdjfaaKFnExactCheckRegCodeQ3
namespace Go.Proofs.Ytpdpomjgfmdjfaa.Pure
open Go.RowKit Go.Proofs.Ytpdpomjgfmdjfaa.Z Go.Proofs.Ytpdpomjgfmdjfaa.E Go.Proofs.YtpdpomjgfmdjfaaW.PrintWords Go.Proofs.YtpdpomjgfmdjfaaW.PrintLast Go.Proofs.YtpdpomjgfmdjfaaW.PrintMore
abbrev St := S117
theorem rdSt_nat (xs : List St) (j : Nat) (h : j < xs.length) : za9 xs (j : Int) = xs[j] := by
 simp [za9, List.getD_eq_getElem?_getD, h]
theorem rdR_nat (xs : List (List Int)) (j : Nat) (h : j < xs.length) : rd_L3 xs (j : Int) = xs[j] := by
 simp [rd_L3, List.getD_eq_getElem?_getD, h]
theorem l1In_dec (x lo hi : Int) : spec_l1In.f x lo hi = some (decide (lo ≤ x ∧ x ≤ hi)) := by
 unfold spec_l1In.f
 by_cases h : lo ≤ x <;> simp [h]
theorem l1All_dec (l : List Int) (lo hi : Int) (hl : l.length < 9223372036854775807) : Ev (fun k => spec_l1All.f k l lo hi) (l.all fun x => decide (lo ≤ x ∧ x ≤ hi)) := by
 have key : ∀ d j : Nat, j + d = l.length → Ev (fun k => spec_l1All.l0 k lo hi l (l.length : Int) j) ((l.drop j).all fun x => decide (lo ≤ x ∧ x ≤ hi)) := by
  intro d
  induction d with
  | zero =>
   intro j hj
   refine shift ?_
   simp only [spec_l1All.l0]
   rw [List.drop_eq_nil_of_le (by omega)]
   exact neg (by omega) (ret _)
  | succ d ih =>
   intro j hj
   have hlt : j < l.length := by omega
   refine shift ?_
   simp only [spec_l1All.l0]
   refine pos (by omega) (pos (by omega) (pos (by omega) (bind0 (l1In_dec _ _ _) ?_)))
   rw [List.drop_eq_getElem_cons hlt, List.all_cons, rd_nat l j hlt, zb8 (by omega)]
   by_cases h : lo ≤ l[j] ∧ l[j] ≤ hi
   ·simp only [h, and_self, decide_true, Bool.true_and]
    exact pos trivial (ih (j + 1) (by omega))
   ·simp only [h, decide_false, Bool.false_and]
    exact neg (by simp) (ret _)
 unfold spec_l1All.f
 have := key l.length 0 (by omega)
 rwa [List.drop_zero] at this

/-! ### rows -/
def addRow (a b : List Int) : List Int := List.zipWith (fun x y => if 1000001 < x + y then 1000001 else x + y) a b
/-- A row of n exponents, none of them too great. -/
def RowOk (n : Nat) (r : List Int) : Prop := r.length = n ∧ ∀ x ∈ r, 0 ≤ x ∧ x ≤ 1000001
theorem addRow_length (a b : List Int) (h : a.length = b.length) : (addRow a b).length = a.length := by
 unfold addRow
 rw [List.length_zipWith]
 omega
theorem addRow_get (a b : List Int) (j : Nat) (ha : j < a.length) (hb : j < b.length) (h : j < (addRow a b).length) : (addRow a b)[j] = if 1000001 < a[j] + b[j] then 1000001 else a[j] + b[j] := by
 simp [addRow]
theorem addRow_ok {n : Nat} {a b : List Int} (ha : RowOk n a) (hb : RowOk n b) : RowOk n (addRow a b) := by
 refine ⟨by rw [addRow_length a b (by rw [ha.1, hb.1]), ha.1], fun x hx => ?_⟩
 obtain ⟨j, hj, rfl⟩ := List.mem_iff_getElem.1 hx
 have hl := addRow_length a b (by rw [ha.1, hb.1])
 have h1 := ha.2 _ (List.getElem_mem (show j < a.length by omega))
 have h2 := hb.2 _ (List.getElem_mem (show j < b.length by rw [hb.1, ← ha.1]; omega))
 rw [addRow_get a b j (by omega) (by rw [hb.1, ← ha.1]; omega)]
 split <;> omega
theorem plSum_ev {n : Nat} (a b : List Int) (ha : RowOk n a) (hb : RowOk n b) (hn : n ≤ 1000) : Ev (fun k => spec_plSum.f k a b) (addRow a b) := by
 have hla := ha.1
 have hlb := hb.1
 have hl := addRow_length a b (by omega)
 have key : ∀ d j : Nat, j + d = a.length → Ev (fun k => spec_plSum.l0 k a b ((addRow a b).take j) (a.length : Int) j) (addRow a b) := by
  intro d
  induction d with
  | zero =>
   intro j hj
   refine shift ?_
   simp only [spec_plSum.l0]
   refine neg (by omega) (now ?_)
   rw [List.take_of_length_le (by omega)]
  | succ d ih =>
   intro j hj
   have hlt : j < a.length := by omega
   have h1 := ha.2 _ (List.getElem_mem hlt)
   have h2 := hb.2 _ (List.getElem_mem (show j < b.length by omega))
   refine shift ?_
   simp only [spec_plSum.l0]
   rw [rd_nat a j hlt, rd_nat b j (by omega), wrap_id (x := a[j] + b[j]) (by omega) (by omega)]
   refine pos (by omega) (pos (by omega) (pos (by omega) (pos (by omega) (bind0 (a := if 1000001 < a[j] + b[j] then 1000001 else a[j] + b[j]) ?_ (pos (by simp; omega) ?_)))))
   ·unfold spec_l1Least.f
    by_cases h : a[j] + b[j] < 1000001
    ·rw [if_pos h, if_neg (by omega)]
    ·rw [if_neg h]
     split
     ·rfl
     ·congr 1; omega
   ·rw [zb8 (by omega), ← addRow_get a b j hlt (by omega) (by omega), ← List.take_succ_eq_append_getElem (by omega)]
    exact ih (j + 1) (by omega)
 unfold spec_plSum.f
 simpa using key a.length 0 (by omega)

/-! ### exponents -/
def unitRow (n i : Nat) : List Int := (List.replicate n 0).set i 1
def units (n : Nat) : List (List Int) := (List.range n).map (unitRow n)
def expoFrom : List St → List (List Int) → List (List Int)
 | [], out => out
 | s :: t, out => expoFrom t (out ++ [addRow (rd_L3 out s.f0) (rd_L3 out s.f1)])
def expo (n : Nat) (l : List St) : List (List Int) := expoFrom l (units n)
def StOk (m : Nat) (s : St) : Prop := 0 ≤ s.f0 ∧ s.f0 ≤ s.f1 ∧ s.f1 < (m : Int)
def StepsOk : Nat → List St → Prop
 | _, [] => True
 | m, s :: t => StOk m s ∧ StepsOk (m + 1) t
def RowsOk (n : Nat) (out : List (List Int)) : Prop := ∀ r ∈ out, RowOk n r
theorem rdR_mem (xs : List (List Int)) (i : Int) (h0 : 0 ≤ i) (h1 : i < xs.length) : rd_L3 xs i ∈ xs := by
 obtain ⟨j, rfl⟩ := Int.eq_ofNat_of_zero_le h0
 have hj : j < xs.length := by omega
 rw [rdR_nat xs j hj]
 exact List.getElem_mem hj
theorem unitRow_ok (n i : Nat) : RowOk n (unitRow n i) := by
 refine ⟨by simp [unitRow], fun x hx => ?_⟩
 unfold unitRow at hx
 rcases List.mem_or_eq_of_mem_set hx with h | h
 ·rw [List.eq_of_mem_replicate h]; omega
 ·rw [h]; omega
theorem units_ok (n : Nat) : RowsOk n (units n) := by
 intro r hr
 obtain ⟨i, _, rfl⟩ := List.mem_map.1 hr
 exact unitRow_ok n i
theorem units_length (n : Nat) : (units n).length = n := by simp [units]
theorem expoFrom_ok {n : Nat} : ∀ (l : List St) (out : List (List Int)), RowsOk n out → StepsOk out.length l → RowsOk n (expoFrom l out) ∧ (expoFrom l out).length = out.length + l.length
 | [], out, h, _ => ⟨h, by simp [expoFrom]⟩
 | s :: t, out, h, hs => by
  have h1 := rdR_mem out s.f0 hs.1.1 (by have := hs.1; unfold StOk at this; omega)
  have h2 := rdR_mem out s.f1 (by have := hs.1; unfold StOk at this; omega) hs.1.2.2
  have h3 : RowsOk n (out ++ [addRow (rd_L3 out s.f0) (rd_L3 out s.f1)]) := by
   intro r hr
   rcases List.mem_append.1 hr with hr | hr
   ·exact h r hr
   ·rw [List.mem_singleton.1 hr]
    exact addRow_ok (h _ h1) (h _ h2)
  obtain ⟨g1, g2⟩ := expoFrom_ok t _ h3 (by simpa using hs.2)
  exact ⟨g1, by simp only [expoFrom]; rw [g2]; simp; omega⟩
theorem specExp_l1 {n : Nat} (hn : n ≤ 1000) (l : List St) (hl : l.length ≤ 1000) : ∀ (d j : Nat) (out : List (List Int)), j + d = l.length → RowsOk n out → out.length ≤ 1000 + j → StepsOk out.length (l.drop j) →
  Ev (fun k => spec_plExponents.l1 k out l (l.length : Int) j) (expoFrom (l.drop j) out)
 | 0, j, out, hj, _, _, _ => by
  refine shift ?_
  simp only [spec_plExponents.l1]
  rw [List.drop_eq_nil_of_le (by omega)]
  exact neg (by omega) (ret _)
 | d + 1, j, out, hj, ho, hlo, hs => by
  have hlt : j < l.length := by omega
  rw [List.drop_eq_getElem_cons hlt] at hs ⊢
  obtain ⟨⟨s0, s1, s2⟩, hs'⟩ := hs
  have h1 := ho _ (rdR_mem out l[j].f0 s0 (by omega))
  have h2 := ho _ (rdR_mem out l[j].f1 (by omega) s2)
  refine shift ?_
  simp only [spec_plExponents.l1]
  rw [rdSt_nat l j hlt]
  refine pos (by omega) (pos (by omega) (pos (by omega) (pos s0 (pos (by omega) (pos (by omega) (pos s2 (bind (plSum_ev _ _ h1 h2 hn) (pos (by omega) ?_))))))))
  rw [zb8 (by omega)]
  refine specExp_l1 hn l hl d (j + 1) _ (by omega) ?_ (by simp; omega) (by simpa using hs')
  intro r hr
  rcases List.mem_append.1 hr with hr | hr
  ·exact ho r hr
  ·rw [List.mem_singleton.1 hr]
   exact addRow_ok h1 h2
theorem units_take_succ (n i : Nat) (h : i < n) : (units n).take (i + 1) = (units n).take i ++ [unitRow n i] := by
 rw [List.take_succ_eq_append_getElem (by rw [units_length]; exact h)]
 simp [units]
theorem specExp_ev (n : Nat) (hn : n ≤ 1000) (l : List St) (o : List Int) (hl : l.length ≤ 1000) (hs : StepsOk n l) : Ev (fun k => spec_plExponents.f k (n : Int) l o) (expo n l) := by
 have key : ∀ d i : Nat, i + d = n → Ev (fun k => spec_plExponents.l0 k ((units n).take i) i (n : Int) l o) (expo n l) := by
  intro d
  induction d with
  | zero =>
   intro i hi
   refine shift ?_
   simp only [spec_plExponents.l0]
   refine neg (by omega) ?_
   rw [List.take_of_length_le (by rw [units_length]; omega)]
   have := specExp_l1 hn l hl l.length 0 (units n) (by omega) (units_ok n) (by rw [units_length]; omega) (by rw [units_length]; simpa using hs)
   simpa [expo] using this
  | succ d ih =>
   intro i hi
   refine shift ?_
   simp only [spec_plExponents.l0, Option.bind_some]
   refine pos (by omega) (pos (by omega) (pos (by omega) (pos (by omega) (pos (by simp; omega) (pos (by simp; omega) ?_)))))
   rw [zb8 (by omega), toNat_cast, toNat_cast]
   have := ih (i + 1) (by omega)
   rwa [units_take_succ n i (by omega)] at this
 unfold spec_plExponents.f
 simpa using key n 0 (by omega)
/-! the program's -/
theorem implExp_l2 {n : Nat} (hn : n ≤ 1000) (l : List St) (out : List (List Int)) (a b : List Int) (f0 f1 : Int) (i : Nat) (hi : i < l.length) (hl : l.length ≤ 1000) (hlo : out.length ≤ 1000 + i) (ha : RowOk n a) (hb : RowOk n b) (h0 : 0 ≤ f1) (h1 : f1 < out.length) (hrb : rd_L3 out f1 = b) (r : List (List Int))
  (hk : Ev (fun k => impl_Plan_exponents.l1 k (out ++ [addRow a b]) l (l.length : Int) ((i + 1 : Nat) : Int)) r) : ∀ (d j : Nat), j + d = a.length →
  Ev (fun k => impl_Plan_exponents.l2 k out ((addRow a b).take j) l (l.length : Int) i a (a.length : Int) j f0 f1) r
 | 0, j, hj => by
  have hla := ha.1
  have hlb := hb.1
  have hll := addRow_length a b (by omega)
  refine shift ?_
  simp only [impl_Plan_exponents.l2]
  refine neg (by omega) (pos (by omega) ?_)
  rw [List.take_of_length_le (by omega), zb8 (by omega)]
  exact hk
 | d + 1, j, hj => by
  have hla := ha.1
  have hlb := hb.1
  have hll := addRow_length a b (by omega)
  have hlt : j < a.length := by omega
  have g1 := ha.2 _ (List.getElem_mem hlt)
  have g2 := hb.2 _ (List.getElem_mem (show j < b.length by omega))
  refine shift ?_
  simp only [impl_Plan_exponents.l2]
  rw [hrb, rd_nat a j hlt, rd_nat b j (by omega), wrap_id (x := a[j] + b[j]) (by omega) (by omega)]
  refine pos (by omega) (pos (by omega) (pos (by omega) (pos h0 (pos h1 (pos (by omega) (pos (by simp; omega) ?_))))))
  have e : mn (a[j] + b[j]) 1000001 = (addRow a b)[j] := by
   rw [addRow_get a b j hlt (by omega) (by omega)]
   first | rfl | (unfold mn; rfl) | (unfold mn; split <;> split <;> omega)
  rw [e, zb8 (j := j) (by omega), ← List.take_succ_eq_append_getElem (by omega)]
  exact implExp_l2 hn l out a b f0 f1 i hi hl hlo ha hb h0 h1 hrb r hk d (j + 1) (by omega)
theorem implExp_l1 {n : Nat} (hn : n ≤ 1000) (l : List St) (hl : l.length ≤ 1000) : ∀ (d j : Nat) (out : List (List Int)), j + d = l.length → RowsOk n out → out.length ≤ 1000 + j → StepsOk out.length (l.drop j) →
  Ev (fun k => impl_Plan_exponents.l1 k out l (l.length : Int) j) (expoFrom (l.drop j) out)
 | 0, j, out, hj, _, _, _ => by
  refine shift ?_
  simp only [impl_Plan_exponents.l1]
  rw [List.drop_eq_nil_of_le (by omega)]
  exact neg (by omega) (ret _)
 | d + 1, j, out, hj, ho, hlo, hs => by
  have hlt : j < l.length := by omega
  rw [List.drop_eq_getElem_cons hlt] at hs ⊢
  obtain ⟨⟨s0, s1, s2⟩, hs'⟩ := hs
  have h1 := ho _ (rdR_mem out l[j].f0 s0 (by omega))
  have h2 := ho _ (rdR_mem out l[j].f1 (by omega) s2)
  refine shift ?_
  simp only [impl_Plan_exponents.l1]
  rw [rdSt_nat l j hlt]
  refine pos (by omega) (pos (by omega) (pos (by omega) (pos s0 (pos (by omega) ?_))))
  have := implExp_l2 hn l out _ _ l[j].f0 l[j].f1 j hlt hl hlo h1 h2 (by omega) s2 rfl _ (implExp_l1 hn l hl d (j + 1) _ (by omega) (by
   intro r hr
   rcases List.mem_append.1 hr with hr | hr
   ·exact ho r hr
   ·rw [List.mem_singleton.1 hr]
    exact addRow_ok h1 h2) (by simp; omega) (by simpa using hs')) (rd_L3 out l[j].f0).length 0 (by omega)
  rw [List.take_zero] at this
  exact this
theorem implExp_ev (n : Nat) (hn : n ≤ 1000) (l : List St) (o : List Int) (hl : l.length ≤ 1000) (hs : StepsOk n l) : Ev (fun k => impl_Plan_exponents.f k (n : Int) l o) (expo n l) := by
 have key : ∀ d i : Nat, i + d = n → Ev (fun k => impl_Plan_exponents.l0 k ((units n).take i) (n : Int) i (n : Int) l o) (expo n l) := by
  intro d
  induction d with
  | zero =>
   intro i hi
   refine shift ?_
   simp only [impl_Plan_exponents.l0]
   refine neg (by omega) ?_
   rw [List.take_of_length_le (by rw [units_length]; omega)]
   have := implExp_l1 hn l hl l.length 0 (units n) (by omega) (units_ok n) (by rw [units_length]; omega) (by rw [units_length]; simpa using hs)
   simpa [expo] using this
  | succ d ih =>
   intro i hi
   refine shift ?_
   simp only [impl_Plan_exponents.l0, Option.bind_some]
   refine pos (by omega) (pos (by omega) (pos (by omega) (pos (by omega) (pos (by simp; omega) (pos (by simp; omega) ?_)))))
   rw [zb8 (by omega), toNat_cast, toNat_cast]
   have := ih (i + 1) (by omega)
   rwa [units_take_succ n i (by omega)] at this
 unfold impl_Plan_exponents.f
 simpa using key n 0 (by omega)

/-! ### plans -/
theorem stepsOk_iff (n : Nat) (hn : n ≤ 1000) (l : List St) (hl : l.length ≤ 1000) : ∀ d j : Nat, j + d = l.length → (stepsOk (n : Int) l d j = true ↔ StepsOk (n + j) (l.drop j))
 | 0, j, hj => by
  rw [List.drop_eq_nil_of_le (by omega)]
  simp [stepsOk, StepsOk]
 | d + 1, j, hj => by
  have hlt : j < l.length := by omega
  rw [List.drop_eq_getElem_cons hlt]
  simp only [stepsOk]
  rw [rdSt_nat l j hlt, wrap_id (by omega) (by omega)]
  have ih := stepsOk_iff n hn l hl d (j + 1) (by omega)
  by_cases h : l[j].f0 < 0 ∨ l[j].f0 > l[j].f1 ∨ l[j].f1 ≥ (n : Int) + (j : Int)
  ·rw [if_pos h]
   simp only [StepsOk, StOk, Bool.false_eq_true, false_iff]
   intro g
   omega
  ·rw [if_neg h, ih]
   simp only [StepsOk, StOk]
   have : n + (j + 1) = n + j + 1 := by omega
   rw [this]
   constructor
   ·intro g
    exact ⟨by omega, g⟩
   ·exact fun g => g.2
/-- A plan. -/
def goodB (n : Int) (l : List St) (o : List Int) : Bool :=
 decide (1 ≤ n ∧ n ≤ 6) && (decide (l.length ≤ 40) && (decide (o.length ≤ 6) && (stepsOk n l l.length 0 && ((expo n.toNat l).all (fun r => r.all fun x => decide (0 ≤ x ∧ x ≤ 1000000)) && o.all fun v => decide (0 ≤ v ∧ v ≤ n + (l.length : Int) - 1)))))
theorem specSteps_yes (n : Int) (l : List St) (o : List Int) (hl : l.length ≤ 1000) (r : Bool) (hk : Ev (fun k => (spec_plExponents.f k n l o).bind fun t => spec_plGood.l1 k t (t.length : Int) 0 n l o) r) : ∀ d j : Nat, j + d = l.length → stepsOk n l d j = true →
  Ev (fun k => spec_plGood.l0 k l (l.length : Int) j n l o) r
 | 0, j, hj, _ => by
  refine shift ?_
  simp only [spec_plGood.l0]
  exact neg (by omega) hk
 | d + 1, j, hj, hs => by
  have hlt : j < l.length := by omega
  simp only [stepsOk] at hs
  refine shift ?_
  simp only [spec_plGood.l0]
  by_cases h : (za9 l j).f0 < 0 ∨ (za9 l j).f0 > (za9 l j).f1 ∨ (za9 l j).f1 ≥ wrap64 (n + (j : Int))
  ·rw [if_pos h] at hs
   cases hs
  ·rw [if_neg h] at hs
   refine pos (by omega) (pos (by omega) (pos (by omega) (bind0 (l1In_dec _ _ _) (pos (decide_eq_true ⟨by omega, by omega⟩) (neg (by omega) ?_)))))
   rw [zb8 (by omega)]
   exact specSteps_yes n l o hl r hk d (j + 1) (by omega) hs
theorem specSteps_no (n : Int) (l : List St) (o : List Int) (hl : l.length ≤ 1000) : ∀ d j : Nat, j + d = l.length → stepsOk n l d j = false →
  Ev (fun k => spec_plGood.l0 k l (l.length : Int) j n l o) false
 | 0, j, hj, hs => by simp [stepsOk] at hs
 | d + 1, j, hj, hs => by
  have hlt : j < l.length := by omega
  simp only [stepsOk] at hs
  refine shift ?_
  simp only [spec_plGood.l0]
  refine pos (by omega) (pos (by omega) (pos (by omega) (bind0 (l1In_dec _ _ _) ?_)))
  by_cases h1 : 0 ≤ (za9 l j).f0 ∧ (za9 l j).f0 ≤ (za9 l j).f1
  ·refine pos (decide_eq_true h1) ?_
   by_cases h2 : (za9 l j).f1 ≥ wrap64 (n + (j : Int))
   ·exact pos h2 (ret _)
   ·rw [if_neg (by omega)] at hs
    refine neg h2 ?_
    rw [zb8 (by omega)]
    exact specSteps_no n l o hl d (j + 1) (by omega) hs
  ·exact neg (by simpa using h1) (ret _)
theorem specRows_ev (n : Int) (l : List St) (o : List Int) (t : List (List Int)) (ht : t.length ≤ 2000) (hr : ∀ r ∈ t, r.length ≤ 1000) (ho : o.length ≤ 1000) : ∀ d j : Nat, j + d = t.length →
  Ev (fun k => spec_plGood.l1 k t (t.length : Int) j n l o) ((t.drop j).all (fun r => r.all fun x => decide (0 ≤ x ∧ x ≤ 1000000)) && o.all fun v => decide (0 ≤ v ∧ v ≤ wrap64 (wrap64 (n + (l.length : Int)) - 1)))
 | 0, j, hj => by
  refine shift ?_
  simp only [spec_plGood.l1]
  rw [List.drop_eq_nil_of_le (by omega)]
  exact neg (by omega) (bind (l1All_dec o _ _ (by omega)) (ret _))
 | d + 1, j, hj => by
  have hlt : j < t.length := by omega
  refine shift ?_
  simp only [spec_plGood.l1]
  rw [List.drop_eq_getElem_cons hlt, rdR_nat t j hlt, List.all_cons]
  have := hr _ (List.getElem_mem hlt)
  refine pos (by omega) (pos (by omega) (pos (by omega) (bind (l1All_dec t[j] 0 1000000 (by omega)) ?_)))
  cases hb : (t[j].all fun x => decide (0 ≤ x ∧ x ≤ 1000000)) with
  | true =>
   refine pos rfl ?_
   rw [zb8 (by omega), Bool.true_and]
   exact specRows_ev n l o t ht hr ho d (j + 1) (by omega)
  | false => exact neg (by simp) (ret _)
theorem plGood_ev (n : Int) (l : List St) (o : List Int) : Ev (fun k => spec_plGood.f k n l o) (goodB n l o) := by
 unfold spec_plGood.f goodB
 refine bind0 (l1In_dec _ _ _) ?_
 by_cases hn : 1 ≤ n ∧ n ≤ 6
 ·rw [decide_eq_true hn, Bool.true_and]
  refine pos rfl ?_
  by_cases hl : l.length ≤ 40
  ·rw [decide_eq_true hl, Bool.true_and]
   refine neg (by omega) (shift ?_)
   simp only [spec_plGood.j0]
   by_cases ho : o.length ≤ 6
   ·rw [decide_eq_true ho, Bool.true_and]
    refine neg (by simp; omega) ?_
    cases hs : stepsOk n l l.length 0 with
    | true =>
     rw [Bool.true_and]
     obtain ⟨m, rfl⟩ := Int.eq_ofNat_of_zero_le (show 0 ≤ n by omega)
     have h := (stepsOk_iff m (by omega) l (by omega) l.length 0 (by omega)).1 hs
     rw [Nat.add_zero, List.drop_zero] at h
     obtain ⟨g1, g2⟩ := expoFrom_ok l (units m) (units_ok m) (by rw [units_length]; exact h)
     rw [units_length] at g2
     refine specSteps_yes (m : Int) l o (by omega) _ ?_ l.length 0 (by omega) hs
     refine bind (specExp_ev m (by omega) l o (by omega) h) ?_
     have := specRows_ev (m : Int) l o (expo m l) (by unfold expo; omega) (fun r hr => by have := (g1 r hr).1; omega) (by omega) (expo m l).length 0 (by omega)
     rw [List.drop_zero, wrap_id (x := (m : Int) + (l.length : Int)) (by omega) (by omega), wrap_id (by omega) (by omega)] at this
     exact this
    | false =>
     rw [Bool.false_and]
     exact specSteps_no n l o (by omega) l.length 0 (by omega) hs
   ·rw [decide_eq_false ho, Bool.false_and]
    exact pos (by simp; omega) (ret _)
  ·rw [decide_eq_false hl, Bool.false_and]
   refine pos (by omega) (shift ?_)
   simp only [spec_plGood.j0]
   exact pos trivial (ret _)
 ·rw [decide_eq_false hn, Bool.false_and]
  refine neg (by simp) (shift ?_)
  simp only [spec_plGood.j0]
  exact pos trivial (ret _)
theorem maxFrom_gt (l : List Int) (b : Int) : ∀ (d j : Nat) (m : Int), j + d = l.length → (b < maxFrom l d j m ↔ b < m ∨ ∃ x ∈ l.drop j, b < x)
 | 0, j, m, hj => by
  rw [List.drop_eq_nil_of_le (by omega)]
  simp [maxFrom]
 | d + 1, j, m, hj => by
  have hlt : j < l.length := by omega
  simp only [maxFrom]
  rw [maxFrom_gt l b d (j + 1) _ (by omega), List.drop_eq_getElem_cons hlt, rd_nat l j hlt]
  simp only [List.mem_cons, exists_eq_or_imp]
  split <;> constructor <;> rintro (h | h) <;> first | exact .inl (by omega) | exact .inr (.inr h) | exact .inr (.inl (by omega)) | (rcases h with h | h <;> first | exact .inl (by omega) | exact .inr h | exact .inl h)
theorem rowBad_iff (x : List Int) (hx : x ≠ []) (h0 : ∀ y ∈ x, 0 ≤ y) : rowBad x = !(x.all fun y => decide (0 ≤ y ∧ y ≤ 1000000)) := by
 have hp : 0 < x.length := List.length_pos_iff.2 hx
 unfold rowBad
 have hm := maxFrom_gt x 1000000 (x.length - 1) 1 (rd x 0) (by omega)
 have e0 : rd x 0 = x[0] := rd_nat x 0 hp
 have hd : x = x[0] :: x.drop 1 := by
  have := List.drop_eq_getElem_cons hp
  rwa [List.drop_zero] at this
 have : (1000000 < maxFrom x (x.length - 1) 1 (rd x 0)) ↔ ∃ y ∈ x, 1000000 < y := by
  rw [hm, e0]
  constructor
  ·rintro (h | ⟨y, hy, h⟩)
   ·exact ⟨x[0], List.getElem_mem hp, h⟩
   ·exact ⟨y, List.mem_of_mem_drop hy, h⟩
  ·rintro ⟨y, hy, h⟩
   rw [hd] at hy
   rcases List.mem_cons.1 hy with rfl | hy
   ·exact .inl h
   ·exact .inr ⟨y, hy, h⟩
 rw [Bool.eq_iff_iff]
 simp only [decide_eq_true_eq, Bool.not_eq_true', ← Bool.not_eq_true, List.all_eq_true, this]
 constructor
 ·rintro ⟨y, hy, h⟩ g
  have := g y hy
  omega
 ·intro g
  have : ¬ ∀ y ∈ x, y ≤ 1000000 := fun h => g (fun y hy => ⟨h0 y hy, h y hy⟩)
  simp only [Classical.not_forall] at this
  obtain ⟨y, hy, h⟩ := this
  exact ⟨y, hy, by omega⟩
theorem IsPlan_ev (n : Int) (l : List St) (o : List Int) : Ev (fun k => impl_IsPlan.f k n l o) (goodB n l o) := by
 unfold impl_IsPlan.f goodB impl_Plan_formed.f
 refine bind0 rfl ?_
 by_cases hn : 1 ≤ n ∧ n ≤ 6
 ·rw [decide_eq_true hn, decide_eq_true hn.1, decide_eq_true hn.2]
  by_cases hl : l.length ≤ 40
  ·rw [decide_eq_true hl]
   by_cases ho : o.length ≤ 6
   ·rw [decide_eq_true ho]
    simp only [Bool.true_and]
    cases hs : stepsOk n l l.length 0 with
    | true =>
     obtain ⟨m, rfl⟩ := Int.eq_ofNat_of_zero_le (show 0 ≤ n by omega)
     have h := (stepsOk_iff m (by omega) l (by omega) l.length 0 (by omega)).1 hs
     rw [Nat.add_zero, List.drop_zero] at h
     obtain ⟨g1, g2⟩ := expoFrom_ok l (units m) (units_ok m) (by rw [units_length]; exact h)
     have hob : (!(o.any (outBad (m : Int) l.length))) = o.all fun v => decide (0 ≤ v ∧ v ≤ (m : Int) + (l.length : Int) - 1) := by
      rw [List.not_any_eq_all_not]
      congr 1
      funext v
      unfold outBad
      rw [wrap_id (x := (m : Int) + (l.length : Int)) (by omega) (by omega), wrap_id (by omega) (by omega)]
      by_cases h1 : 0 ≤ v <;> by_cases h2 : v ≤ (m : Int) + (l.length : Int) - 1 <;> simp [h1, h2]
     rw [hob]
     simp only [Bool.true_and]
     have hrow : ∀ r ∈ expo m l, r ≠ [] ∧ ∀ y ∈ r, 0 ≤ y := by
      intro r hr
      have g := g1 r hr
      refine ⟨fun e => ?_, fun y hy => (g.2 y hy).1⟩
      have := g.1
      rw [e] at this
      simp at this
      omega
     have hall : (expo m l).all (fun x => !x.isEmpty) = true := by
      rw [List.all_eq_true]
      intro r hr
      have := (hrow r hr).1
      cases r with
      | nil => exact absurd rfl this
      | cons _ _ => rfl
     have hbad : (!((expo m l).any rowBad)) = (expo m l).all (fun r => r.all fun x => decide (0 ≤ x ∧ x ≤ 1000000)) := by
      rw [List.not_any_eq_all_not, Bool.eq_iff_iff, List.all_eq_true, List.all_eq_true]
      constructor
      ·intro g r hr
       have := g r hr
       rw [rowBad_iff r (hrow r hr).1 (hrow r hr).2] at this
       simpa using this
      ·intro g r hr
       rw [rowBad_iff r (hrow r hr).1 (hrow r hr).2, g r hr]
       rfl
     cases hb : (o.all fun v => decide (0 ≤ v ∧ v ≤ (m : Int) + (l.length : Int) - 1)) with
     | true =>
      refine pos rfl (bind (implExp_ev m (by omega) l o (by omega) h) (pos hall (now ?_)))
      rw [Int.toNat_natCast, hbad, Bool.and_true]
     | false =>
      refine neg (by simp) (now ?_)
      rw [Bool.and_false]
    | false =>
     simp only [Bool.false_and]
     exact neg (by simp) (ret _)
   ·rw [decide_eq_false ho]
    simp only [Bool.and_false, Bool.false_and, Bool.true_and]
    exact neg (by simp) (ret _)
  ·rw [decide_eq_false hl]
   simp only [Bool.and_false, Bool.false_and, Bool.true_and]
   exact neg (by simp) (ret _)
 ·have : (decide (1 ≤ n) && decide (n ≤ 6)) = false := by simpa using hn
  rw [decide_eq_false hn, this]
  simp only [Bool.false_and]
  exact neg (by simp) (ret _)
end Go.Proofs.Ytpdpomjgfmdjfaa.Pure
