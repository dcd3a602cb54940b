/- Pure: Pgd, Pwin, Psl, Psame, Ppw. -/
import Derived.Test.YtiaohjciddbpoaaKFnMethodsPnb
import Derived.Test.YtiaohjciddbpoaaKFnMethodsPna
set_option linter.unusedVariables false
set_option linter.unusedSimpArgs false
namespace Go.Proofs.Ytiaohjciddbpoaa.Pure
open Go.RowKit Go.Proofs.Ytiaohjciddbpoaa.E Go.Proofs.Ytiaohjciddbpoaa.M5 Go.Proofs.Ytiaohjciddbpoaa.Frame Go.Proofs.Ytiaohjciddbpoaa.Hand Go.Proofs.YtiaohjciddbpoaaW.PrintLast Go.Proofs.YtiaohjciddbpoaaW.PrintMore
open Go.Proofs.YtiaohjciddbpoaaW.PrintWords hiding mn mx
/-- Steps that a maker may have made. -/
structure Gd (I : Nat) (s : List SStep) (o : List Int) : Prop where
 inp : 1 ≤ I ∧ I ≤ 6
 stp : s.length ≤ 200
 out : o.length ≤ 6
 ok : Ok I s
 os : ∀ y ∈ o, 0 ≤ y ∧ y < ((I + s.length : Nat) : Int)
theorem used_l0W {I : Nat} {s : List SStep} {o : List Int} (h : Gd I s o) : ∀ (m : Nat), m ≤ s.length → ∀ (c : Nat) (L : List Int), (∀ v, v ∈ L ↔ us (I + m) (s.drop m) o v = true) → L.length + 2 * m ≤ 1000 → ∃ L', Ev (fun k => spec_plUsed.l0 (k + c) (I : Int) s k L (vals s.length fun j => decide ((m : Int) ≤ j) && us I s o ((I : Int) + j)) ((m : Int) - 1)) (L', kp I s o) := by
 have h1 := h.inp
 have h2 := h.stp
 intro m
 induction m with
 | zero =>
  intro _ c L hL hb
  refine ⟨L, shift ?_⟩
  simp only [spec_plUsed.l0]
  refine neg (by omega) ?_
  have e : (vals s.length fun j => decide (((0 : Nat) : Int) ≤ j) && us I s o ((I : Int) + j)) = kp I s o := vals_congr fun v v0 _ => by
   rw [decide_eq_true (by omega)]
   rfl
  rw [e]
  exact ret _
 | succ m ih =>
  intro hm c L hL hb
  have hml : m < s.length := by omega
  have q := h.ok.at (List.getElem?_eq_getElem hml)
  have ei : ((m + 1 : Nat) : Int) - 1 = (m : Int) := by omega
  have ek : ∀ k, k + 1 + c = k + (c + 1) := by omega
  have hb1 : decide ((I : Int) + (m : Int) ∈ L) = us I s o ((I : Int) + (m : Int)) := by
   have := hL ((I : Int) + (m : Int))
   rw [← us_drop h.ok (m + 1) hm (by omega)] at this
   cases c : us I s o ((I : Int) + (m : Int)) with
   | true => exact decide_eq_true (this.2 c)
   | false => exact decide_eq_false fun hx => by rw [this.1 hx] at c; cases c
  have hdrop : s.drop m = s[m] :: s.drop (m + 1) := List.drop_eq_getElem_cons hml
  have hnow : us (I + m + 1) (s.drop (m + 1)) o ((I + m : Nat) : Int) = us I s o ((I : Int) + (m : Int)) := by
   have := us_drop (o := o) h.ok (m + 1) hm (v := ((I + m : Nat) : Int)) (by omega)
   rw [show (I : Int) + (m : Int) = ((I + m : Nat) : Int) by omega, this]
   rfl
  cases cu : us I s o ((I : Int) + (m : Int)) with
  | true =>
   rw [cu] at hb1 hnow
   obtain ⟨L', e'⟩ := ih (by omega) (c + 1) (L ++ [s[m].f0, s[m].f1]) (fun v => by
    rw [List.mem_append, hL v, hdrop]
    simp only [us, Bool.or_eq_true, Bool.and_eq_true, decide_eq_true_eq, hnow, List.mem_cons, List.not_mem_nil, or_false, true_and]
    rfl) (by simp; omega)
   refine ⟨L', shift ?_⟩
   simp only [spec_plUsed.l0, ei, ek]
   refine pos (by omega) (bind0 (l1Has_eq _ _) ?_)
   rw [zam (x := (I : Int) + (m : Int)) (by omega), hb1]
   refine pos rfl (bind0 (gt_nat hml) (bind0 (gt_nat hml) (bind0 (ap_ok (by simp; omega)) ?_)))
   have hv := vals_len s.length (fun j => decide (((m + 1 : Nat) : Int) ≤ j) && us I s o ((I : Int) + j))
   have hp := put_ev (vals s.length fun j => decide (((m + 1 : Nat) : Int) ≤ j) && us I s o ((I : Int) + j)) (m : Int) (by omega)
   rw [put_vals (by omega) (by omega)] at hp
   refine bind (upK (c + 1) hp) ?_
   rw [zam (by omega)]
   have ev : (vals s.length fun u => (decide (((m + 1 : Nat) : Int) ≤ u) && us I s o ((I : Int) + u)) || decide (u = (m : Int))) = (vals s.length fun j => decide ((m : Int) ≤ j) && us I s o ((I : Int) + j)) := vals_congr fun v v0 v1 => by
    by_cases e : v = (m : Int)
    ·subst e
     rw [cu]
     simp
    ·rw [decide_eq_false e, Bool.or_false]
     congr 1
     exact decide_eq_decide.2 (by omega)
   rw [ev]
   exact e'
  | false =>
   rw [cu] at hb1 hnow
   obtain ⟨L', e'⟩ := ih (by omega) (c + 1) L (fun v => by
    rw [hL v, hdrop]
    simp only [us, hnow, Bool.false_and, Bool.or_false]
    rfl) (by omega)
   refine ⟨L', shift ?_⟩
   simp only [spec_plUsed.l0, ei, ek]
   refine pos (by omega) (bind0 (l1Has_eq _ _) ?_)
   rw [zam (x := (I : Int) + (m : Int)) (by omega), hb1]
   refine neg (by simp) ?_
   rw [zam (by omega)]
   have ev : (vals s.length fun j => decide (((m + 1 : Nat) : Int) ≤ j) && us I s o ((I : Int) + j)) = (vals s.length fun j => decide ((m : Int) ≤ j) && us I s o ((I : Int) + j)) := vals_congr fun v v0 v1 => by
    by_cases e : v = (m : Int)
    ·subst e
     rw [cu]
     simp
    ·congr 1
     exact decide_eq_decide.2 (by omega)
   rw [ev]
   exact e'
theorem plUsed_evW {I : Nat} {s : List SStep} {o : List Int} (h : Gd I s o) : Ev (fun k => spec_plUsed.f k (I : Int) s o) (kp I s o) := by
 have h2 := h.stp
 have h3 := h.out
 obtain ⟨L', e⟩ := used_l0W h s.length (Nat.le_refl _) 0 o (fun v => by
  rw [List.drop_length]
  simp [us]) (by omega)
 have ev : (vals s.length fun j => decide ((s.length : Int) ≤ j) && us I s o ((I : Int) + j)) = [] := by
  unfold vals
  refine List.filter_eq_nil_iff.2 fun x hx => ?_
  obtain ⟨j, hj, rfl⟩ := List.mem_map.1 hx
  have := List.mem_range.1 hj
  rw [decide_eq_false (by omega)]
  simp
 rw [ev] at e
 unfold spec_plUsed.f
 refine bind0 (l1Own_eq _ (by omega)) (bind (a := (L', kp I s o)) ?_ (ret _))
 rw [zam (by omega)]
 exact e
theorem plKeep_eqW {I : Nat} {s : List SStep} {o : List Int} (h : Gd I s o) : spec_plKeep.f (I : Int) s o (kp I s o) = some (kS I s o, kO I s o) := by
 have h1 := h.inp
 have h2 := h.stp
 have h3 := h.out
 have hv := vals_len s.length (fun j => us I s o ((I : Int) + j))
 unfold spec_plKeep.f kp
 rw [keep_l0 (by omega) (by omega) h.ok (us_cl h.ok) _ [] 0 (fun x hx => vals_mem.1 hx) (by simp; omega), Option.bind_some, keep_l1 (by omega) (by omega) o [] 0 (fun x hx => ⟨h.os x hx, .inr (us_out hx)⟩) (by simp; omega), Option.bind_some, List.nil_append, List.nil_append]
 unfold kS kO
 rw [ts_map s h.ok (us_cl h.ok)]
theorem used_eqW {I : Nat} {s : List SStep} {o : List Int} (h : Gd I s o) : impl_Plan_used.f (I : Int) s o = some (tb (I + s.length) (us I s o)) := by
 have h1 := h.inp
 have h2 := h.stp
 unfold impl_Plan_used.f impl_Plan_many.f
 rw [Option.bind_some, zam (by omega), tb_mk (M := I + s.length) (by omega) (by omega), Option.bind_some, used_l0b _ _ _ _ (fun y hy => by have := h.os y hy; omega), Option.bind_some]
 rw [if_pos]
 ·rw [bwL_fold]
  have e : (tb (I + s.length) fun u => false || decide (u ∈ o)) = tb (I + s.length) fun v => decide (v ∈ o) := tb_ext fun u _ _ => by simp
  rw [e]
  have := used_back I (I + s.length) o s 0 h.ok (by omega)
  rw [show I + 0 = I by omega] at this
  rw [this]
 ·refine ⟨⟨by omega, by omega, by omega, by rw [tb_len]; omega, by rw [tb_len]; omega⟩, fun y hy => ?_⟩
  obtain ⟨j, hj, e⟩ := List.getElem_of_mem hy
  have := h.ok.at (m := j) (y := y) (by rw [List.getElem?_eq_getElem hj, e])
  omega
theorem trimmed_eqW {I : Nat} {s : List SStep} {o : List Int} (h : Gd I s o) : impl_Plan_trimmed.f (I : Int) s o = some (kS I s o, kO I s o) := by
 have h1 := h.inp
 have h2 := h.stp
 have h3 := h.out
 have hT := tr_Tr I (us I s o) s
 unfold impl_Plan_trimmed.f
 rw [used_eqW h, Option.bind_some, firsts_eq I (by omega), Option.bind_some]
 simp only [Option.bind_some]
 have e := trim_l0 I (us I s o) (I + s.length) (by omega) s 0 (iota I) [] (by simp [iota]) h.ok (by omega) (by simp)
 rw [show ((0 : Nat) : Int) = 0 from rfl, show I + 0 = I by omega] at e
 rw [e, Option.bind_some]
 have e2 : tr (us I s o) (I : Int) I s (iota I) [] = (tp I (us I s o) s, ts I (us I s o) s) := rfl
 rw [e2]
 simp only
 rw [ren_eq _ _ (fun y hy => by rw [hT.pn]; have := h.os y hy; omega) (by omega), Option.bind_some]
 congr 2
 unfold kO
 exact List.map_congr_left fun y hy => hT.pv y (h.os y hy).1 (h.os y hy).2
/-! the greatest of a list -/
theorem mx_le {a b c : Int} : mx a b ≤ c ↔ a ≤ c ∧ b ≤ c := by
 unfold mx
 split <;> omega
theorem mx_ge (a b : Int) : a ≤ mx a b ∧ b ≤ mx a b := by
 unfold mx
 split <;> omega
theorem great_l0 (l : List Int) (m j : Int) : spec_meGreatest.l0 l m j = some (l.foldl mx m) := by
 induction l generalizing m j with
 | nil => rfl
 | cons y ys ih =>
  simp only [spec_meGreatest.l0, most_eq, Option.bind_some]
  exact ih _ _
theorem great_eq (l : List Int) : spec_meGreatest.f l = some (l.foldl mx 0) := by
 unfold spec_meGreatest.f
 rw [great_l0]
 rfl
theorem smax_l0 (l : List Int) (hl : l.length ≤ 1000000) : ∀ (d j : Nat) (m : Int), j + d = l.length → Ev (fun k => slices_Max_int_int.l0 l k m (j : Int)) ((l.drop j).foldl mx m) := by
 intro d
 induction d with
 | zero =>
  intro j m hj
  rw [List.drop_eq_nil_of_le (by omega)]
  refine shift ?_
  simp only [slices_Max_int_int.l0]
  exact neg (by omega) (ret _)
 | succ d ih =>
  intro j m hj
  have h1 : j < l.length := by omega
  rw [List.drop_eq_getElem_cons h1, List.foldl_cons]
  refine shift ?_
  simp only [slices_Max_int_int.l0]
  refine pos (by omega) ?_
  simp only [gt_nat h1, Option.bind_some]
  rw [w64_succ (by omega)]
  exact ih (j + 1) _ (by omega)
theorem smax_ev (l : List Int) (hl : 1 ≤ l.length ∧ l.length ≤ 1000000) (h : ∀ x ∈ l, 0 ≤ x) : Ev (fun k => slices_Max_int_int.f k l) (l.foldl mx 0) := by
 cases l with
 | nil => simp at hl
 | cons a r =>
  have ha := h a List.mem_cons_self
  have e : mx 0 a = a := by
   unfold mx
   split <;> omega
  have := smax_l0 (a :: r) hl.2 r.length 1 a (by simp; omega)
  unfold slices_Max_int_int.f
  rw [List.foldl_cons, e]
  refine neg (by simp; omega) (bind0 (a := a) rfl (bind ?_ (ret _)))
  simpa using this
theorem fmx_ge (l : List Int) (m : Int) : m ≤ l.foldl mx m ∧ ∀ x ∈ l, x ≤ l.foldl mx m := by
 induction l generalizing m with
 | nil => exact ⟨Int.le_refl _, fun x hx => nomatch hx⟩
 | cons y ys ih =>
  obtain ⟨h1, h2⟩ := ih (mx m y)
  have := mx_ge m y
  refine ⟨Int.le_trans this.1 h1, fun x hx => ?_⟩
  rcases List.mem_cons.1 hx with e | hx
  ·subst e
   exact Int.le_trans this.2 h1
  ·exact h2 x hx
theorem fmx_le {c : Int} (l : List Int) (m : Int) (hm : m ≤ c) (h : ∀ x ∈ l, x ≤ c) : l.foldl mx m ≤ c := by
 induction l generalizing m with
 | nil => exact hm
 | cons y ys ih => exact ih _ (mx_le.2 ⟨hm, h y List.mem_cons_self⟩) (fun x hx => h x (List.mem_cons_of_mem _ hx))
theorem meTimes_eq (n : Int) (l : List SStep) (o : List Int) (a b : Int) (hl : l.length ≤ 100000) : spec_meTimes.f n l o a b = some (l ++ [⟨mn a b, mx a b⟩]) := by
 unfold spec_meTimes.f
 rw [ap_ok (by simp; omega), Option.bind_some, List.nil_append, plStep_eq, Option.bind_some, ap_ok (by simp; omega)]
 rfl
/-! digits -/
def dgs (b : Nat) : Nat → Nat → List Int
 | 0, _ => []
 | f + 1, y => if y = 0 then [] else ((y % b : Nat) : Int) :: dgs b f (y / b)
theorem dgs_len (b : Nat) (f y : Nat) : (dgs b f y).length ≤ f := by
 induction f generalizing y with
 | zero => exact Nat.le_refl _
 | succ f ih =>
  simp only [dgs]
  split
  ·simp
  ·simpa using ih (y / b)
theorem dgs_in {b : Nat} (hb : 1 ≤ b) (f y : Nat) : ∀ x ∈ dgs b f y, 0 ≤ x ∧ x < (b : Int) := by
 induction f generalizing y with
 | zero => exact fun x hx => nomatch hx
 | succ f ih =>
  intro x hx
  simp only [dgs] at hx
  split at hx
  ·exact nomatch hx
  ·rcases List.mem_cons.1 hx with rfl | hx
   ·have := Nat.mod_lt y (show 0 < b by omega)
    omega
   ·exact ih _ x hx
theorem dgs_last {b : Nat} (hb : 2 ≤ b) (f y : Nat) (h0 : 0 < y) (hy : y < b ^ f) : ∃ R z, dgs b f y = R ++ [z] ∧ 1 ≤ z := by
 induction f generalizing y with
 | zero => simp at hy; omega
 | succ f ih =>
  simp only [dgs]
  rw [if_neg (by omega)]
  by_cases c : y / b = 0
  ·refine ⟨[], ((y % b : Nat) : Int), ?_, ?_⟩
   ·rw [c]
    cases f <;> simp [dgs]
   ·have : y < b := by
     rcases Nat.div_eq_zero_iff.1 c with h | h
     ·omega
     ·exact h
    rw [Nat.mod_eq_of_lt this]
    omega
  ·obtain ⟨R, z, e, hz⟩ := ih (y / b) (Nat.pos_of_ne_zero c) (Nat.div_lt_of_lt_mul (by rw [Nat.pow_succ] at hy; rwa [Nat.mul_comm]))
   exact ⟨((y % b : Nat) : Int) :: R, z, by rw [e]; rfl, hz⟩
theorem dgs_spec (b : Nat) (hb : 2 ≤ b) : ∀ (f y : Nat) (pre : List Int), y < b ^ f → y < 2 ^ 62 → pre.length + f ≤ 1000 → Ev (fun k => spec_meDigits.l0 (b : Int) k pre (y : Int)) (pre ++ dgs b f y) := by
 intro f
 induction f with
 | zero =>
  intro y pre h hy hp
  obtain rfl : y = 0 := by simpa using h
  refine shift ?_
  simp only [spec_meDigits.l0, dgs, List.append_nil]
  exact neg (by simp) (ret _)
 | succ f ih =>
  intro y pre h hy hp
  refine shift ?_
  simp only [spec_meDigits.l0, dgs]
  by_cases c : y = 0
  ·subst c
   rw [if_pos rfl, List.append_nil]
   exact neg (by simp) (ret _)
  ·rw [if_neg c]
   have hd : y / b < y := Nat.div_lt_self (by omega) (by omega)
   have hn := Int.natCast_nonneg (y / b)
   have h2 := ih (y / b) (pre ++ [((y % b : Nat) : Int)]) (Nat.div_lt_of_lt_mul (by rw [Nat.pow_succ] at h; rwa [Nat.mul_comm])) (by omega) (by simp; omega)
   have hz : nz (b : Int) = some () := by
    unfold nz
    rw [if_neg (by omega)]
   rw [show Int.tdiv (y : Int) (b : Int) = ((y / b : Nat) : Int) from rfl, show Int.tmod (y : Int) (b : Int) = ((y % b : Nat) : Int) from rfl, zam (by omega)]
   refine pos (by omega) (bind0 hz (bind0 (ap_ok (by simp; omega)) (bind0 hz ?_)))
   simpa using h2
theorem dgs_impl (b : Nat) (hb : 2 ≤ b) : ∀ (f y : Nat) (pre : List Int), y < b ^ f → y < 2 ^ 62 → pre.length + f ≤ 1000 → Ev (fun k => impl_digits.l0 (b : Int) k pre (y : Int)) (pre ++ dgs b f y) := by
 intro f
 induction f with
 | zero =>
  intro y pre h hy hp
  obtain rfl : y = 0 := by simpa using h
  refine shift ?_
  simp only [impl_digits.l0, dgs, List.append_nil]
  exact neg (by simp) (ret _)
 | succ f ih =>
  intro y pre h hy hp
  refine shift ?_
  simp only [impl_digits.l0, dgs]
  by_cases c : y = 0
  ·subst c
   rw [if_pos rfl, List.append_nil]
   exact neg (by simp) (ret _)
  ·rw [if_neg c]
   have hd : y / b < y := Nat.div_lt_self (by omega) (by omega)
   have hn := Int.natCast_nonneg (y / b)
   have h2 := ih (y / b) (pre ++ [((y % b : Nat) : Int)]) (Nat.div_lt_of_lt_mul (by rw [Nat.pow_succ] at h; rwa [Nat.mul_comm])) (by omega) (by simp; omega)
   have hz : nz (b : Int) = some () := by
    unfold nz
    rw [if_neg (by omega)]
   rw [show Int.tdiv (y : Int) (b : Int) = ((y / b : Nat) : Int) from rfl, show Int.tmod (y : Int) (b : Int) = ((y % b : Nat) : Int) from rfl, zam (by omega)]
   refine pos (by omega) (bind0 hz (bind0 (ap_ok (by simp; omega)) (bind0 hz ?_)))
   simpa using h2
/-! a maker's steps -/
def mulS (p : List SStep × Int) (b : Int) : List SStep × Int := (p.1 ++ [⟨mn p.2 b, mx p.2 b⟩], 1 + (p.1.length : Int))
theorem mul_impl (l : List SStep) (a b : Int) (hl : l.length ≤ 100000) : impl_maker_multiply.f 1 l [] a b = some ((mulS (l, a) b).2, (mulS (l, a) b).1) := by
 unfold impl_maker_multiply.f impl_step.f impl_Plan_many_2.f
 rw [Option.bind_some, ap_ok (by simp; omega)]
 simp only [Option.bind_some]
 rw [List.length_append, List.length_singleton, zam (x := 1 + ((l.length + 1 : Nat) : Int)) (by omega), zam (by omega)]
 show some (1 + ((l.length + 1 : Nat) : Int) - 1, _) = some (1 + (l.length : Int), _)
 congr 2
 omega
def sqn : Nat → List SStep × Int → List SStep × Int
 | 0, p => p
 | n + 1, p => sqn n (mulS p p.2)
def wr (n : Nat) (p : List SStep × Int) (d : Int) : List SStep × Int := if 0 < d then mulS (sqn n p) (d - 1) else sqn n p
theorem mulS_len (p : List SStep × Int) (b : Int) : (mulS p b).1.length = p.1.length + 1 := by simp [mulS]
theorem sqn_len (n : Nat) (p : List SStep × Int) : (sqn n p).1.length = p.1.length + n := by
 induction n generalizing p with
 | zero => rfl
 | succ n ih => rw [sqn, ih, mulS_len]; omega
theorem wr_len (n : Nat) (p : List SStep × Int) (d : Int) : (wr n p d).1.length ≤ p.1.length + (n + 1) := by
 have := sqn_len n p
 unfold wr
 split
 ·rw [mulS_len]; omega
 ·omega
theorem sqn_impl (n : Nat) (l : List SStep) (a j : Int) (h : l.length + n ≤ 100000) : impl_maker_squared.l0 1 [] n l a j = some (sqn n (l, a)) := by
 induction n generalizing l a j with
 | zero => rfl
 | succ n ih =>
  simp only [impl_maker_squared.l0, sqn]
  rw [mul_impl _ _ _ (by omega)]
  simp only [Option.bind_some]
  exact ih _ _ _ (by rw [mulS_len]; show l.length + 1 + n ≤ _; omega)
theorem sqn_spec (n : Nat) : ∀ (d j : Nat) (l : List SStep) (a : Int), j + d = n → n ≤ 1000 → l.length + d ≤ 10000 → Ev (fun k => spec_meWindow.l2 (n : Int) k l [] (j : Int) a) ((sqn d (l, a)).1, [], (sqn d (l, a)).2) := by
 intro d
 induction d with
 | zero =>
  intro j l a hj hn hl
  refine shift ?_
  simp only [spec_meWindow.l2]
  exact neg (by omega) (ret _)
 | succ d ih =>
  intro j l a hj hn hl
  refine shift ?_
  simp only [spec_meWindow.l2, sqn]
  refine pos (by omega) (bind0 (meTimes_eq 1 l [] a a (by omega)) ?_)
  rw [w64_succ (by omega), zam (x := 1 + (l.length : Int)) (by omega)]
  exact ih (j + 1) _ _ (by omega) hn (by simp; omega)
/-! the powers -/
def pwS (t : Nat) : List SStep := (List.range t).map fun (j : Nat) => (⟨0, (j : Int)⟩ : SStep)
def pwL (t : Nat) : List Int := (List.range (t + 2)).map fun (j : Nat) => (j : Int) - 1
theorem pwS_len (t : Nat) : (pwS t).length = t := by simp [pwS]
theorem pwL_len (t : Nat) : (pwL t).length = t + 2 := by simp [pwL]
theorem pwS_succ (t : Nat) : pwS t ++ [⟨mn (t : Int) 0, mx (t : Int) 0⟩] = pwS (t + 1) := by
 have h1 : mn (t : Int) 0 = 0 := by unfold mn; split <;> omega
 have h2 : mx (t : Int) 0 = (t : Int) := by unfold mx; split <;> omega
 unfold pwS
 rw [List.range_succ, List.map_append, h1, h2]
 simp
theorem pwL_gt (t j : Nat) (h : j < t + 2) : gt (pwL t) (j : Int) = some ((j : Int) - 1) := by
 rw [gt_nat (by rw [pwL_len]; exact h)]
 simp [pwL]
theorem pwL_succ (t : Nat) : pwL t ++ [((t : Int) + 1)] = pwL (t + 1) := by
 unfold pwL
 rw [show t + 1 + 2 = (t + 2) + 1 by omega, List.range_succ (n := t + 2), List.map_append]
 simp only [List.map_cons, List.map_nil]
 congr 2
 omega
theorem pw_impl (D : List Int) (M : Int) (T : Nat) (hm : Ev (fun k => slices_Max_int_int.f k D) M) (h1 : M ≤ (T : Int) + 1) (h2 : 1 ≤ T → M = (T : Int) + 1) (hT : T ≤ 1000) : ∀ (d t c : Nat), t + d = T → Ev (fun k => impl_WindowPlan.l0 (k + c) D k (pwS t) (pwL t)) (pwS T, pwL T) := by
 intro d
 induction d with
 | zero =>
  intro t c ht
  obtain rfl : t = T := by omega
  have e : ∀ k, k + 1 + c = k + (c + 1) := by omega
  refine shift ?_
  simp only [impl_WindowPlan.l0, e]
  exact bind (upK (c + 1) hm) (neg (by rw [pwL_len]; omega) (ret _))
 | succ d ih =>
  intro t c ht
  have e : ∀ k, k + 1 + c = k + (c + 1) := by omega
  have hM := h2 (by omega)
  have g1 : gt (pwL t) (w64 (((pwL t).length : Int) - 1)) = some (t : Int) := by
   rw [pwL_len, zam (by omega), show ((t + 2 : Nat) : Int) - 1 = ((t + 1 : Nat) : Int) by omega, pwL_gt t (t + 1) (by omega)]
   congr 1
   omega
  have g2 := mul_impl (pwS t) (t : Int) 0 (by rw [pwS_len]; omega)
  have g3 : mulS (pwS t, (t : Int)) 0 = (pwS (t + 1), (t : Int) + 1) := by
   unfold mulS
   rw [pwS_succ, pwS_len]
   congr 1
   omega
  rw [g3] at g2
  have h := ih (t + 1) (c + 1) (by omega)
  refine shift ?_
  simp only [impl_WindowPlan.l0, e]
  refine bind (upK (c + 1) hm) (pos (by rw [pwL_len]; omega) (bind0 g1 (bind0 g2 (bind0 (ap_ok (by rw [pwL_len]; simp; omega)) ?_))))
  rw [pwL_succ]
  exact h
theorem pw_spec (D : List Int) (M : Int) (T : Nat) (hm : spec_meGreatest.f D = some M) (h1 : M ≤ (T : Int) + 1) (h2 : 1 ≤ T → M = (T : Int) + 1) (hT : T ≤ 1000) : ∀ (d t : Nat), t + d = T → Ev (fun k => spec_meWindow.l0 D k (pwS t) [] (t : Int) ((t + 2 : Nat) : Int)) (pwS T, []) := by
 intro d
 induction d with
 | zero =>
  intro t ht
  obtain rfl : t = T := by omega
  refine shift ?_
  simp only [spec_meWindow.l0]
  exact bind0 hm (neg (by omega) (ret _))
 | succ d ih =>
  intro t ht
  have hM := h2 (by omega)
  have h := ih (t + 1) (by omega)
  refine shift ?_
  simp only [spec_meWindow.l0]
  refine bind0 hm (pos (by omega) (bind0 (meTimes_eq 1 _ _ _ _ (by rw [pwS_len]; omega)) ?_))
  rw [pwS_succ, pwS_len, zam (x := 1 + (t : Int)) (by omega), zam (by omega), show 1 + (t : Int) = ((t + 1 : Nat) : Int) by omega, show ((t + 2 : Nat) : Int) + 1 = ((t + 1 + 2 : Nat) : Int) by omega]
  exact h
/-! the rounds -/
theorem rounds_spec (n : Nat) (hn : n ≤ 100) (R : List Int) (z : Int) (hR : R.length ≤ 1000) (hx : ∀ x ∈ R, 0 ≤ x ∧ x ≤ 1000) : ∀ (m c : Nat) (l : List SStep) (a : Int), m ≤ R.length → l.length + (n + 1) * m ≤ 10000 → Ev (fun k => spec_meWindow.l1 (k + c) (n : Int) (R ++ [z]) k l [] a ((m : Int) - 1)) (((R.take m).reverse.foldl (wr n) (l, a)).1, [], ((R.take m).reverse.foldl (wr n) (l, a)).2) := by
 intro m
 induction m with
 | zero =>
  intro c l a hm hl
  refine shift ?_
  simp only [spec_meWindow.l1]
  exact neg (by omega) (ret _)
 | succ m ih =>
  intro c l a hm hl
  have e : ∀ k, k + 1 + c = k + (c + 1) := by omega
  rw [Nat.mul_succ] at hl
  have hml : m < R.length := by omega
  have e1 : (R.take (m + 1)).reverse = R[m] :: (R.take m).reverse := by
   rw [List.take_add_one, List.getElem?_eq_getElem hml]
   simp
  have g1 := sqn_spec n n 0 l a (by omega) (by omega) (by omega)
  have hs : (sqn n (l, a)).1.length = l.length + n := sqn_len n (l, a)
  have hg : gt (R ++ [z]) (m : Int) = some R[m] := by
   rw [gt_nat (by simp; omega), List.getElem_append_left hml]
  have hxm := hx _ (List.getElem_mem hml)
  rw [e1, List.foldl_cons]
  have ei : ((m + 1 : Nat) : Int) - 1 = (m : Int) := by omega
  refine shift ?_
  simp only [spec_meWindow.l1, e, ei]
  refine pos (by omega) (bind (upK (c + 1) g1) (bind0 hg ?_))
  rw [zam (x := (m : Int) - 1) (by omega)]
  have hw : (wr n (l, a) R[m]).1.length ≤ l.length + (n + 1) := wr_len n (l, a) R[m]
  by_cases c1 : 0 < R[m]
  ·have hwr : wr n (l, a) R[m] = mulS (sqn n (l, a)) (R[m] - 1) := by unfold wr; rw [if_pos c1]
   rw [hwr] at hw ⊢
   refine pos c1 (bind0 hg ?_)
   rw [zam (x := R[m] - 1) (by omega), zam (x := 1 + ((sqn n (l, a)).1.length : Int)) (by omega)]
   refine bind0 (meTimes_eq 1 _ [] _ _ (by show (sqn n (l, a)).1.length ≤ _; omega)) ?_
   exact ih (c + 1) (mulS (sqn n (l, a)) (R[m] - 1)).1 (mulS (sqn n (l, a)) (R[m] - 1)).2 (by omega) (by omega)
  ·have hwr : wr n (l, a) R[m] = sqn n (l, a) := by unfold wr; rw [if_neg c1]
   rw [hwr]
   exact neg c1 (ih (c + 1) (sqn n (l, a)).1 (sqn n (l, a)).2 (by omega) (by omega))
theorem okB_inv {β σ : Type} {f : β → σ → Option σ} {xs : List β} (P : Nat → σ → Prop) (h : ∀ j s x, x ∈ xs → P (j + 1) s → ∃ s', f x s = some s' ∧ P j s') : ∀ n s, P n s → okB f xs n s = true := by
 intro n
 induction n with
 | zero => exact fun _ _ => rfl
 | succ n ih =>
  intro s hs
  unfold okB
  refine List.all_eq_true.2 fun x hx => ?_
  obtain ⟨s', e, hp⟩ := h n s x hx hs
  rw [e]
  exact ih s' hp
theorem foldl_inv {β σ : Type} {f g : σ → β → σ} (P : Nat → σ → Prop) : ∀ (xs : List β) (s : σ), (∀ j s x, x ∈ xs → P (j + 1) s → f s x = g s x ∧ P j (g s x)) → P xs.length s → xs.foldl f s = xs.foldl g s
 | [], _, _, _ => rfl
 | x :: xs, s, h, hs => by
  obtain ⟨e, hp⟩ := h xs.length s x List.mem_cons_self hs
  rw [List.foldl_cons, List.foldl_cons, e]
  exact foldl_inv P xs _ (fun j s y hy => h j s y (List.mem_cons_of_mem _ hy)) hp
theorem bwL_mem {α : Type} {zs : List α} {x : Int × α} (h : x ∈ bwL zs) : x.2 ∈ zs := by
 unfold bwL at h
 obtain ⟨p, hp, e⟩ := List.mem_map.1 (List.mem_reverse.1 h)
 rw [← e]
 exact (List.mem_zipIdx' (x := p.1) (i := p.2) hp).2 ▸ List.getElem_mem _
theorem bwL_snd {α : Type} (zs : List α) : (bwL zs).map (·.2) = zs.reverse := by
 unfold bwL
 rw [List.map_reverse, List.map_map]
 congr 1
 have : ((fun x : Int × α => x.2) ∘ fun p : α × Nat => ((p.2 : Int), p.1)) = Prod.fst := rfl
 rw [this, List.zipIdx_map_fst]
theorem bwL_len {α : Type} (zs : List α) : (bwL zs).length = zs.length := by simp [bwL]
theorem round_impl (n T : Nat) (hn : n ≤ 100) (i x : Int) (hx : x < (T : Int) + 2) (l : List SStep) (a : Int) (hl : l.length + (n + 1) ≤ 10000) : impl_WindowPlan.r1 (n : Int) (pwL T) (i, x) (l, a) = some (wr n (l, a) x) := by
 have hs : (sqn n (l, a)).1.length = l.length + n := sqn_len n (l, a)
 have hsq : impl_maker_squared.f 1 l [] a (n : Int) = some ((sqn n (l, a)).2, (sqn n (l, a)).1) := by
  unfold impl_maker_squared.f bd
  rw [if_pos (by omega), Option.bind_some, Int.toNat_natCast, sqn_impl n l a 0 (by omega)]
  rfl
 unfold impl_WindowPlan.r1 wr
 simp only
 rw [hsq]
 simp only [Option.bind_some]
 by_cases c : 0 < x
 ·rw [if_pos c, if_pos c]
  obtain ⟨d, rfl⟩ := Int.eq_ofNat_of_zero_le (show 0 ≤ x by omega)
  rw [pwL_gt T d (by omega), Option.bind_some, mul_impl _ _ _ (by omega)]
  rfl
 ·rw [if_neg c, if_neg c]
theorem rounds_impl (n T : Nat) (hn : n ≤ 100) (R : List Int) (hR : R.length ≤ 1000) (hx : ∀ x ∈ R, x < (T : Int) + 2) (l : List SStep) (a : Int) (hl : l.length + (n + 1) * R.length ≤ 9000) : rngB R (impl_WindowPlan.r1 (n : Int) (pwL T)) (l, a) = some (R.reverse.foldl (wr n) (l, a)) := by
 have hP : ∀ (j : Nat) (s : List SStep × Int) (x : Int × Int), x ∈ bwL R → s.1.length + (n + 1) * (j + 1) ≤ 9000 → impl_WindowPlan.r1 (n : Int) (pwL T) x s = some (wr n s x.2) ∧ (wr n s x.2).1.length + (n + 1) * j ≤ 9000 := by
  rintro j ⟨l, a⟩ ⟨i, x⟩ hxm hs
  have hw := wr_len n (l, a) x
  rw [Nat.mul_succ] at hs
  simp only at hs hw ⊢
  exact ⟨round_impl n T hn i x (hx _ (bwL_mem hxm)) l a (by omega), by omega⟩
 unfold rngB
 rw [if_pos]
 ·rw [foldl_inv (f := stB (impl_WindowPlan.r1 (n : Int) (pwL T))) (g := fun s (x : Int × Int) => wr n s x.2) (fun j s => s.1.length + (n + 1) * j ≤ 9000) (bwL R) (l, a) (fun j s x hxm hs => by
   obtain ⟨e, h⟩ := hP j s x hxm hs
   refine ⟨?_, h⟩
   unfold stB
   rw [e]
   rfl) (by rw [bwL_len]; exact hl), ← bwL_snd, List.foldl_map]
 ·exact okB_inv (fun j s => s.1.length + (n + 1) * j ≤ 9000) (fun j s x hxm hs => ⟨_, hP j s x hxm hs⟩) R.length (l, a) hl
/-! what a maker makes may be trimmed -/
def Mk (T : Nat) (p : List SStep × Int) : Prop := Ok 1 p.1 ∧ T ≤ p.1.length ∧ 0 ≤ p.2 ∧ p.2 ≤ (p.1.length : Int)
theorem Mk.mul {T : Nat} {p : List SStep × Int} (h : Mk T p) {b : Int} (hb : 0 ≤ b ∧ b ≤ (p.1.length : Int)) : Mk T (mulS p b) := by
 obtain ⟨h1, h2, h3, h4⟩ := h
 have hl := mulS_len p b
 refine ⟨Ok.append.2 ⟨h1, ?_, trivial⟩, by omega, by show 0 ≤ 1 + (p.1.length : Int); omega, by show 1 + (p.1.length : Int) ≤ _; omega⟩
 show 0 ≤ mn p.2 b ∧ mn p.2 b ≤ mx p.2 b ∧ mx p.2 b < _
 unfold mn mx
 split <;> split <;> omega
theorem Mk.sq {T : Nat} {p : List SStep × Int} (h : Mk T p) (n : Nat) : Mk T (sqn n p) := by
 induction n generalizing p with
 | zero => exact h
 | succ n ih => exact ih (h.mul ⟨h.2.2.1, h.2.2.2⟩)
theorem Mk.wr {T : Nat} {p : List SStep × Int} (h : Mk T p) (n : Nat) {d : Int} (hd : d ≤ (T : Int) + 1) : Mk T (wr n p d) := by
 have hs := h.sq n
 unfold Pure.wr
 split
 ·exact hs.mul ⟨by omega, by have := hs.2.1; omega⟩
 ·exact hs
theorem Mk.all {T : Nat} (n : Nat) (xs : List Int) (hx : ∀ x ∈ xs, x ≤ (T : Int) + 1) {p : List SStep × Int} (h : Mk T p) : Mk T (xs.foldl (Pure.wr n) p) ∧ (xs.foldl (Pure.wr n) p).1.length ≤ p.1.length + (n + 1) * xs.length := by
 induction xs generalizing p with
 | nil => exact ⟨h, by simp⟩
 | cons x xs ih =>
  obtain ⟨h1, h2⟩ := ih (fun y hy => hx y (List.mem_cons_of_mem _ hy)) (h.wr n (hx x List.mem_cons_self))
  have := wr_len n p x
  refine ⟨h1, ?_⟩
  rw [List.length_cons, Nat.mul_succ]
  rw [List.foldl_cons]
  omega
theorem pwS_ok (T : Nat) : Ok 1 (pwS T) := by
 induction T with
 | zero => trivial
 | succ T ih =>
  rw [← pwS_succ]
  refine Ok.append.2 ⟨ih, ?_, trivial⟩
  rw [pwS_len]
  show 0 ≤ mn (T : Int) 0 ∧ mn (T : Int) 0 ≤ mx (T : Int) 0 ∧ mx (T : Int) 0 < _
  unfold mn mx
  split <;> split <;> omega
/-! both plans -/
theorem wide_ok (n : Nat) (h : 1 ≤ n ∧ n ≤ 5) : IntKind.i64.wrap (1 * 2 ^ min ((n : Nat) : Int).toNat IntKind.i64.bits) = ((2 ^ n : Nat) : Int) ∧ ∃ L, 1000000 < (2 ^ n) ^ L ∧ L ≤ 20 ∧ 2 ^ n + n * L + L ≤ 100 := by
 obtain ⟨h1, h2⟩ := h
 obtain rfl | rfl | rfl | rfl | rfl : n = 1 ∨ n = 2 ∨ n = 3 ∨ n = 4 ∨ n = 5 := by omega
 ·exact ⟨by decide, 20, by decide, by decide, by decide⟩
 ·exact ⟨by decide, 10, by decide, by decide, by decide⟩
 ·exact ⟨by decide, 7, by decide, by decide, by decide⟩
 ·exact ⟨by decide, 5, by decide, by decide, by decide⟩
 ·exact ⟨by decide, 4, by decide, by decide, by decide⟩
theorem bitLen_zero : Lib.bitLen 0 = 0 := by decide
theorem bitLen_pos {y : Nat} (h : y ≠ 0) (hy : y < 2 ^ 64) : Lib.bitLen y = Lib.bitLen (y / 2) + 1 := by
 rw [Lib.bitLen_half y h hy]
 omega
theorem lt_bitLen : ∀ (d y : Nat), Lib.bitLen y = d → y < 2 ^ 62 → y < 2 ^ d := by
 intro d
 induction d with
 | zero =>
  intro y h hy
  by_cases c : y = 0
  ·subst c; decide
  ·have := bitLen_pos c (by omega)
   omega
 | succ d ih =>
  intro y h hy
  by_cases c : y = 0
  ·subst c
   exact Nat.two_pow_pos _
  ·have := ih (y / 2) (by have := bitLen_pos c (by omega); omega) (by omega)
   rw [Nat.pow_succ]
   omega
theorem nn_nat (j : Nat) : nn (j : Int) = some () := by
 unfold nn
 rw [if_pos (by omega)]
theorem shr_nat (x j : Nat) (hj : j ≤ 64) : (x : Int) / 2 ^ min (j : Int).toNat IntKind.i64.bits = ((x / 2 ^ j : Nat) : Int) := by
 rw [Int.toNat_natCast, Nat.min_eq_left (by simpa [IntKind.bits] using hj)]
 push_cast
 rfl
theorem and_one (x : Nat) (h : x < 2 ^ 62) : Go.bits .and .i64 (x : Int) 1 = ((x % 2 : Nat) : Int) := by
 have := bits_mask .i64 62 (by decide) (fun n h0 h1 => zam (by omega)) 1 (by omega) (x : Int) (by omega) (by omega)
 simpa using this
theorem len_eq (x : Nat) (hx : x ≤ 16777215) : math_bits_Len.f (IntKind.u64.wrap (x : Int)) = some ((Lib.bitLen x : Nat) : Int) := by
 have e : IntKind.u64.wrap (x : Int) = (x : Int) := by
  simp only [IntKind.wrap, IntKind.bits, IntKind.signed]
  simp
  omega
 unfold math_bits_Len.f math_bits_Len64.f
 rw [e, if_pos (by omega), Int.toNat_natCast]
 rfl
def digs : Nat → Nat → List Int
 | 0, _ => []
 | d + 1, y => ((y % 2 : Nat) : Int) :: digs d (y / 2)
theorem zau : ∀ (d y : Nat), (digs d y).length = d
 | 0, _ => rfl
 | d + 1, y => by simp [digs, zau d]
theorem digits_ev : ∀ (d y : Nat) (pre : List Int), Lib.bitLen y = d → y < 2 ^ 62 → pre.length + d ≤ 1000 → Ev (fun k => spec_meDigits.l0 2 k pre (y : Int)) (pre ++ digs d y) := by
 intro d
 induction d with
 | zero =>
  intro y pre h hy hp
  have h0 : y = 0 := by
   by_cases c : y = 0
   ·exact c
   ·have := bitLen_pos c (by omega)
    omega
  subst h0
  refine shift ?_
  simp only [spec_meDigits.l0, digs, List.append_nil]
  exact neg (by simp) (ret _)
 | succ d ih =>
  intro y pre h hy hp
  have h0 : y ≠ 0 := by
   intro c
   rw [c, bitLen_zero] at h
   omega
  have h1 := bitLen_pos h0 (by omega)
  have h2 := ih (y / 2) (pre ++ [((y % 2 : Nat) : Int)]) (by omega) (by omega) (by simp; omega)
  have hz : nz 2 = some () := rfl
  refine shift ?_
  simp only [spec_meDigits.l0, digs]
  rw [show Int.tdiv (y : Int) 2 = ((y / 2 : Nat) : Int) from rfl, show Int.tmod (y : Int) 2 = ((y % 2 : Nat) : Int) from rfl, zam (by omega)]
  refine pos (by omega) (bind0 hz (bind0 (ap_ok (by simp; omega)) (bind0 hz ?_)))
  simpa using h2
theorem digs_get : ∀ (d y j : Nat) (h : j < d), (digs d y)[j]'(by rw [zau]; exact h) = ((y / 2 ^ j % 2 : Nat) : Int)
 | 0, _, _, h => absurd h (by omega)
 | d + 1, y, 0, _ => by simp [digs]
 | d + 1, y, j + 1, h => by
  simp only [digs, List.getElem_cons_succ]
  rw [digs_get d (y / 2) j (by omega), Nat.div_div_eq_div_mul, Nat.pow_succ, Nat.mul_comm 2]
theorem digs_gt {d y j : Nat} (h : j < d) : gt (digs d y) (j : Int) = some ((y / 2 ^ j % 2 : Nat) : Int) := by
 rw [gt_nat (by rw [zau]; exact h), digs_get d y j h]
/-! the windows -/
def lw (x : Nat) : Nat → Nat → Nat
 | 0, j => j
 | d + 1, j => if x / 2 ^ j % 2 = 0 then lw x d (j + 1) else j
theorem lw_le (x d j : Nat) : j ≤ lw x d j ∧ lw x d j ≤ j + d := by
 induction d generalizing j with
 | zero => exact ⟨Nat.le_refl _, Nat.le_refl _⟩
 | succ d ih =>
  simp only [lw]
  split
  ·have := ih (j + 1)
   omega
  ·omega
theorem lw_bit (x d j : Nat) (h : x / 2 ^ (j + d) % 2 ≠ 0) : x / 2 ^ lw x d j % 2 ≠ 0 := by
 induction d generalizing j with
 | zero => exact h
 | succ d ih =>
  simp only [lw]
  split
  ·exact ih (j + 1) (by rwa [show j + 1 + d = j + (d + 1) by omega])
  ·assumption
def wl (x n : Nat) : Nat → Nat → List Swindow
 | 0, _ => []
 | _ + 1, 0 => []
 | f + 1, m + 1 => if x / 2 ^ m % 2 = 0 then ⟨0, 1⟩ :: wl x n f m else
  ⟨((x / 2 ^ lw x (m - (m + 1 - n)) (m + 1 - n) % 2 ^ (m - lw x (m - (m + 1 - n)) (m + 1 - n) + 1) : Nat) : Int), ((m - lw x (m - (m + 1 - n)) (m + 1 - n) + 1 : Nat) : Int)⟩ :: wl x n f (lw x (m - (m + 1 - n)) (m + 1 - n))
theorem wl_len (x n : Nat) (hn : 1 ≤ n) : ∀ f m, (wl x n f m).length ≤ m := by
 intro f
 induction f with
 | zero => intro m; simp [wl]
 | succ f ih =>
  intro m
  cases m with
  | zero => simp [wl]
  | succ m =>
   simp only [wl]
   split
   ·have := ih m
    simp only [List.length_cons]
    omega
   ·have h1 := lw_le x (m - (m + 1 - n)) (m + 1 - n)
    have := ih (lw x (m - (m + 1 - n)) (m + 1 - n))
    simp only [List.length_cons]
    omega
theorem spec_low (x L m : Nat) (hm : m < L) (hL : L ≤ 60) (hb : x / 2 ^ m % 2 ≠ 0) : ∀ (d j : Nat), j + d = m → Ev (fun k => spec_meSpans.l1 (digs L x) k (j : Int)) ((lw x d j : Nat) : Int) := by
 intro d
 induction d with
 | zero =>
  intro j hj
  obtain rfl : j = m := by omega
  refine shift ?_
  simp only [spec_meSpans.l1, lw]
  exact bind0 (digs_gt hm) (neg (by omega) (ret _))
 | succ d ih =>
  intro j hj
  refine shift ?_
  simp only [spec_meSpans.l1, lw]
  refine bind0 (digs_gt (by omega)) ?_
  by_cases c : x / 2 ^ j % 2 = 0
  ·rw [if_pos c, w64_succ (by omega)]
   exact pos (by omega) (ih (j + 1) (by omega))
  ·rw [if_neg c]
   exact neg (by omega) (ret _)
theorem div_lt62 {x : Nat} (hx : x < 2 ^ 62) (j : Nat) : x / 2 ^ j < 2 ^ 62 := Nat.lt_of_le_of_lt (Nat.div_le_self _ _) hx
theorem impl_low (x m : Nat) (hx : x < 2 ^ 62) (hm : m ≤ 60) (hb : x / 2 ^ m % 2 ≠ 0) : ∀ (d j : Nat), j + d = m → Ev (fun k => impl_windows.l1 (x : Int) k (j : Int)) ((lw x d j : Nat) : Int) := by
 intro d
 induction d with
 | zero =>
  intro j hj
  obtain rfl : j = m := by omega
  refine shift ?_
  simp only [impl_windows.l1, lw]
  rw [shr_nat x j (by omega), and_one _ (div_lt62 hx j)]
  exact bind0 (nn_nat j) (neg (by omega) (ret _))
 | succ d ih =>
  intro j hj
  refine shift ?_
  simp only [impl_windows.l1, lw]
  rw [shr_nat x j (by omega), and_one _ (div_lt62 hx j)]
  refine bind0 (nn_nat j) ?_
  by_cases c : x / 2 ^ j % 2 = 0
  ·rw [if_pos c, w64_succ (by omega)]
   exact pos (by omega) (ih (j + 1) (by omega))
  ·rw [if_neg c]
   exact neg (by omega) (ret _)
theorem and_wide (y n : Nat) (hn : 1 ≤ n ∧ n ≤ 5) (h : y < 2 ^ 62) : Go.bits .and .i64 (y : Int) (w64 (((2 ^ n : Nat) : Int) - 1)) = ((y % 2 ^ n : Nat) : Int) := by
 have := bits_mask .i64 62 (by decide) (fun n h0 h1 => zam (by omega)) n (by omega) (y : Int) (by omega) (by omega)
 have h32 : (2 : Nat) ^ n ≤ 2 ^ 5 := Nat.pow_le_pow_right (by omega) hn.2
 have hp := Nat.two_pow_pos n
 rw [zam (by omega)]
 simpa using this
theorem start_low (m n : Nat) (hm : m ≤ 1000) (hn : 1 ≤ n ∧ n ≤ 5) : mx 0 (w64 (w64 ((m : Int) - (n : Int)) + 1)) = ((m + 1 - n : Nat) : Int) ∧ mx (w64 (w64 ((m : Int) - (n : Int)) + 1)) 0 = ((m + 1 - n : Nat) : Int) := by
 rw [zam (x := (m : Int) - (n : Int)) (by omega), zam (by omega)]
 unfold mx
 constructor
 ·split <;> omega
 ·split <;> omega
theorem wide_of (n : Nat) (h : 1 ≤ n ∧ n ≤ 5) : IntKind.i64.wrap (1 * 2 ^ min ((n : Nat) : Int).toNat IntKind.i64.bits) = ((2 ^ n : Nat) : Int) := (wide_ok n h).1
theorem spans_spec (x n L : Nat) (hx : x < 2 ^ 62) (hn : 1 ≤ n ∧ n ≤ 5) (hL : L ≤ 60) : ∀ (f m c : Nat) (p q : List Int), m ≤ f → m ≤ L → p.length + m ≤ 1000 → q.length + m ≤ 1000 → Ev (fun k => spec_meSpans.l0 (k + c) (x : Int) (n : Int) (digs L x) k p q ((m : Int) - 1)) (p ++ (wl x n f m).map (·.f0), q ++ (wl x n f m).map (·.f1)) := by
 intro f
 induction f with
 | zero =>
  intro m c p q hf hm hp hq
  obtain rfl : m = 0 := by omega
  refine shift ?_
  simp only [spec_meSpans.l0, wl, List.map_nil, List.append_nil]
  exact neg (by omega) (ret _)
 | succ f ih =>
  intro m c p q hf hm hp hq
  cases m with
  | zero =>
   refine shift ?_
   simp only [spec_meSpans.l0, wl, List.map_nil, List.append_nil]
   exact neg (by omega) (ret _)
  | succ m =>
   have e : ∀ k, k + 1 + c = k + (c + 1) := by omega
   refine shift ?_
   simp only [spec_meSpans.l0, e, wl]
   rw [show ((m + 1 : Nat) : Int) - 1 = (m : Int) by omega]
   refine pos (by omega) (bind0 (digs_gt (by omega)) ?_)
   by_cases hb : x / 2 ^ m % 2 = 0
   ·rw [if_pos hb]
    refine pos (by omega) (bind0 (ap_ok (by simp; omega)) (bind0 (ap_ok (by simp; omega)) ?_))
    rw [zam (by omega)]
    have := ih m (c + 1) (p ++ [0]) (q ++ [1]) (by omega) (by omega) (by simp; omega) (by simp; omega)
    simpa using this
   ·rw [if_neg hb]
    have h1 := lw_le x (m - (m + 1 - n)) (m + 1 - n)
    have h2 := spec_low x L m (by omega) hL hb (m - (m + 1 - n)) (m + 1 - n) (by omega)
    obtain ⟨r, hr⟩ : ∃ r, lw x (m - (m + 1 - n)) (m + 1 - n) = r := ⟨_, rfl⟩
    rw [hr] at h1 h2 ⊢
    have hs : spec_l1Most.f 0 (w64 (w64 ((m : Int) - (n : Int)) + 1)) = some ((m + 1 - n : Nat) : Int) := by
     rw [most_eq, (start_low m n (by omega) hn).1]
    have hw : w64 (w64 ((m : Int) - (r : Int)) + 1) = ((m - r + 1 : Nat) : Int) := by
     rw [zam (x := (m : Int) - (r : Int)) (by omega), zam (by omega)]
     omega
    have hwd := wide_of (m - r + 1) (by omega)
    have hpos := Nat.two_pow_pos (m - r + 1)
    have hnz : nz ((2 ^ (m - r + 1) : Nat) : Int) = some () := by
     unfold nz
     rw [if_neg (by omega)]
    refine neg (by omega) (bind0 hs (bind (upK (c + 1) h2) ?_))
    rw [hw, hwd, shr_nat x r (by omega), show Int.tmod ((x / 2 ^ r : Nat) : Int) ((2 ^ (m - r + 1) : Nat) : Int) = ((x / 2 ^ r % 2 ^ (m - r + 1) : Nat) : Int) from rfl]
    refine bind0 (nn_nat r) (bind0 (nn_nat _) (bind0 hnz (bind0 (ap_ok (by simp; omega)) (bind0 (ap_ok (by simp; omega)) ?_))))
    rw [zam (x := (r : Int) - 1) (by omega)]
    have := ih r (c + 1) (p ++ [((x / 2 ^ r % 2 ^ (m - r + 1) : Nat) : Int)]) (q ++ [((m - r + 1 : Nat) : Int)]) (by omega) (by omega) (by simp; omega) (by simp; omega)
    simpa using this
theorem spans_impl (x n L : Nat) (hx : x < 2 ^ 62) (hn : 1 ≤ n ∧ n ≤ 5) (hL : L ≤ 60) : ∀ (f m c : Nat) (p : List Swindow), m ≤ f → m ≤ L → p.length + m ≤ 1000 → Ev (fun k => impl_windows.l0 (k + c) (x : Int) (n : Int) k p ((m : Int) - 1)) (p ++ wl x n f m) := by
 intro f
 induction f with
 | zero =>
  intro m c p hf hm hp
  obtain rfl : m = 0 := by omega
  refine shift ?_
  simp only [impl_windows.l0, wl, List.append_nil]
  exact neg (by omega) (ret _)
 | succ f ih =>
  intro m c p hf hm hp
  cases m with
  | zero =>
   refine shift ?_
   simp only [impl_windows.l0, wl, List.append_nil]
   exact neg (by omega) (ret _)
  | succ m =>
   have e : ∀ k, k + 1 + c = k + (c + 1) := by omega
   refine shift ?_
   simp only [impl_windows.l0, e, wl]
   rw [show ((m + 1 : Nat) : Int) - 1 = (m : Int) by omega, shr_nat x m (by omega), and_one _ (div_lt62 hx m)]
   refine pos (by omega) (bind0 (nn_nat m) ?_)
   by_cases hb : x / 2 ^ m % 2 = 0
   ·rw [if_pos hb]
    refine pos (by omega) (bind0 (ap_ok (by simp; omega)) ?_)
    rw [zam (by omega)]
    have := ih m (c + 1) (p ++ [⟨0, 1⟩]) (by omega) (by omega) (by simp; omega)
    simpa using this
   ·rw [if_neg hb]
    have h1 := lw_le x (m - (m + 1 - n)) (m + 1 - n)
    have h2 := impl_low x m hx (by omega) hb (m - (m + 1 - n)) (m + 1 - n) (by omega)
    obtain ⟨r, hr⟩ : ∃ r, lw x (m - (m + 1 - n)) (m + 1 - n) = r := ⟨_, rfl⟩
    rw [hr] at h1 h2 ⊢
    have hw : w64 (w64 ((m : Int) - (r : Int)) + 1) = ((m - r + 1 : Nat) : Int) := by
     rw [zam (x := (m : Int) - (r : Int)) (by omega), zam (by omega)]
     omega
    have hwd := wide_of (m - r + 1) (by omega)
    rw [(start_low m n (by omega) hn).2]
    refine neg (by omega) (bind (upK (c + 1) h2) ?_)
    rw [hw, hwd, shr_nat x r (by omega), and_wide _ _ (by omega) (div_lt62 hx r)]
    refine bind0 (nn_nat r) (bind0 (nn_nat _) (bind0 (ap_ok (by simp; omega)) ?_))
    rw [zam (x := (r : Int) - 1) (by omega)]
    have := ih r (c + 1) (p ++ [⟨((x / 2 ^ r % 2 ^ (m - r + 1) : Nat) : Int), ((m - r + 1 : Nat) : Int)⟩]) (by omega) (by omega) (by simp; omega)
    simpa using this
/-! what the windows are -/
def WOk (w : Swindow) : Prop := (w.f0 = 0 ∨ ∃ j : Nat, w.f0 = 2 * (j : Int) + 1 ∧ j ≤ 15) ∧ 1 ≤ w.f1 ∧ w.f1 ≤ 5
theorem wl_ok (x n : Nat) (hn : 1 ≤ n ∧ n ≤ 5) : ∀ f m, ∀ w ∈ wl x n f m, WOk w := by
 intro f
 induction f with
 | zero => intro m w hw; simp [wl] at hw
 | succ f ih =>
  intro m w hw
  cases m with
  | zero => simp [wl] at hw
  | succ m =>
   simp only [wl] at hw
   split at hw
   ·rcases List.mem_cons.1 hw with rfl | hw
    ·exact ⟨.inl rfl, by decide, by decide⟩
    ·exact ih m w hw
   ·rename_i hb
    have h1 := lw_le x (m - (m + 1 - n)) (m + 1 - n)
    have h2 := lw_bit x (m - (m + 1 - n)) (m + 1 - n) (by rwa [show m + 1 - n + (m - (m + 1 - n)) = m by omega])
    obtain ⟨r, hr⟩ : ∃ r, lw x (m - (m + 1 - n)) (m + 1 - n) = r := ⟨_, rfl⟩
    rw [hr] at h1 h2 hw
    rcases List.mem_cons.1 hw with rfl | hw
    ·obtain ⟨y, hy⟩ : ∃ y, x / 2 ^ r = y := ⟨_, rfl⟩
     obtain ⟨l, hl⟩ : ∃ l, m - r = l := ⟨_, rfl⟩
     rw [hy] at h2
     have h3 : y % 2 ^ (l + 1) % 2 = y % 2 := Nat.mod_mod_of_dvd y (by rw [Nat.pow_succ]; exact Nat.dvd_mul_left 2 _)
     have h4 := Nat.mod_lt y (Nat.two_pow_pos (l + 1))
     have h5 : (2 : Nat) ^ (l + 1) ≤ 2 ^ 5 := Nat.pow_le_pow_right (by omega) (by omega)
     rw [hy, hl]
     exact ⟨.inr ⟨(y % 2 ^ (l + 1)) / 2, by show ((y % 2 ^ (l + 1) : Nat) : Int) = _; omega, by omega⟩, by show (1 : Int) ≤ ((l + 1 : Nat) : Int); omega, by show ((l + 1 : Nat) : Int) ≤ 5; omega⟩
    ·exact ih r w hw
theorem bitLen_none {y : Nat} (hy : y < 2 ^ 62) (h : Lib.bitLen y = 0) : y = 0 := by
 by_cases c : y = 0
 ·exact c
 ·have := bitLen_pos c (by omega)
  omega
theorem top_bit : ∀ (d y : Nat), Lib.bitLen y = d + 1 → y < 2 ^ 62 → y / 2 ^ d % 2 ≠ 0 := by
 intro d
 induction d with
 | zero =>
  intro y h hy
  have h0 : y ≠ 0 := fun c => by rw [c, bitLen_zero] at h; omega
  have h1 := bitLen_pos h0 (by omega)
  have := bitLen_none (y := y / 2) (by omega) (by omega)
  rw [Nat.pow_zero, Nat.div_one]
  omega
 | succ d ih =>
  intro y h hy
  have h0 : y ≠ 0 := fun c => by rw [c, bitLen_zero] at h; omega
  have h1 := bitLen_pos h0 (by omega)
  have := ih (y / 2) (by omega) (by omega)
  rwa [Nat.div_div_eq_div_mul, Nat.mul_comm, ← Nat.pow_succ] at this
theorem wl_first (x n d f : Nat) (hn : 1 ≤ n) (hd : Lib.bitLen x = d + 1) (hx : x < 2 ^ 62) : ∃ w W, wl x n (f + 1) (d + 1) = w :: W ∧ w.f0 ≠ 0 := by
 have hb := top_bit d x hd hx
 simp only [wl]
 rw [if_neg hb]
 refine ⟨_, _, rfl, ?_⟩
 have h1 := lw_le x (d - (d + 1 - n)) (d + 1 - n)
 have h2 := lw_bit x (d - (d + 1 - n)) (d + 1 - n) (by rwa [show d + 1 - n + (d - (d + 1 - n)) = d by omega])
 obtain ⟨r, hr⟩ : ∃ r, lw x (d - (d + 1 - n)) (d + 1 - n) = r := ⟨_, rfl⟩
 rw [hr] at h2 ⊢
 have h3 : x / 2 ^ r % 2 ^ (d - r + 1) % 2 = x / 2 ^ r % 2 := Nat.mod_mod_of_dvd _ (by rw [Nat.pow_succ]; exact Nat.dvd_mul_left 2 _)
 show ((x / 2 ^ r % 2 ^ (d - r + 1) : Nat) : Int) ≠ 0
 omega
def vals0 (W : List Swindow) : List Int := (W.map (·.f0)).filter (fun y => decide (0 < y))
theorem of_l0 (W : List Swindow) (acc : List Int) (j : Int) (hb : acc.length + W.length ≤ 1000) : impl_WindowsOf.l0 W acc j = some (acc ++ vals0 W) := by
 induction W generalizing acc j with
 | nil => simp [impl_WindowsOf.l0, vals0]
 | cons w W ih =>
  simp only [List.length_cons] at hb
  simp only [impl_WindowsOf.l0]
  by_cases c : 0 < w.f0
  ·rw [if_pos c, ap_ok (by simp; omega), Option.bind_some, ih _ _ (by simp; omega)]
   simp [vals0, c]
  ·rw [if_neg c, ih _ _ (by omega)]
   simp [vals0, c]
theorem fold_pos : ∀ (l : List Int) (m : Int), 0 ≤ m → (∀ x ∈ l, 0 ≤ x) → (l.filter (fun y => decide (0 < y))).foldl mx m = l.foldl mx m
 | [], _, _, _ => rfl
 | y :: l, m, hm, h => by
  have h0 := h y List.mem_cons_self
  by_cases c : 0 < y
  ·rw [List.filter_cons_of_pos (by simpa using c), List.foldl_cons, List.foldl_cons]
   exact fold_pos l _ (by have := (mx_ge m y).1; omega) (fun x hx => h x (List.mem_cons_of_mem _ hx))
  ·rw [List.filter_cons_of_neg (by simpa using c), List.foldl_cons]
   have e : mx m y = m := by
    unfold mx
    split <;> omega
   rw [e]
   exact fold_pos l m hm (fun x hx => h x (List.mem_cons_of_mem _ hx))
/-! odd powers -/
def vt : Nat → Int
 | 0 => 0
 | t + 1 => (t : Int) + 2
def oS : Nat → List SStep
 | 0 => [⟨0, 0⟩]
 | t + 1 => oS t ++ [⟨mn (vt t) 1, mx (vt t) 1⟩]
def mt : Nat → List (Int × Int)
 | 0 => [(1, 0)]
 | t + 1 => (2 * (t : Int) + 3, (t : Int) + 2) :: mt t
theorem oS_len (t : Nat) : (oS t).length = t + 1 := by
 induction t with
 | zero => rfl
 | succ t ih => simp [oS, ih]
theorem mt_len (t : Nat) : (mt t).length = t + 1 := by
 induction t with
 | zero => rfl
 | succ t ih => simp [mt, ih]
theorem mt_at (t j : Nat) (h : j ≤ t) : mlk (mt t) (2 * (j : Int) + 1) = vt j := by
 induction t with
 | zero =>
  obtain rfl : j = 0 := by omega
  rfl
 | succ t ih =>
  simp only [mt, mlk]
  by_cases c : j = t + 1
  ·subst c
   rw [if_pos (by omega)]
   rfl
  ·rw [if_neg (by omega)]
   exact ih (by omega)
theorem i64_wf {x : Int} (h : -1000000000 ≤ x ∧ x ≤ 1000000000) : (Lit.int .i64 x).wf = true := by
 simp [Lit.wf, IntKind.min, IntKind.max, IntKind.signed, IntKind.bits]
 omega
theorem mget_mt {t j : Nat} (h : j ≤ t) (ht : t ≤ 1000) : mget (mt t) (2 * (j : Int) + 1) = some (vt j) := by
 unfold mget
 rw [if_pos (i64_wf (by omega)), mt_at t j h]
theorem vt_in (t : Nat) : 0 ≤ vt t ∧ vt t ≤ (t : Int) + 1 := by
 cases t with
 | zero => exact ⟨by decide, by decide⟩
 | succ t => show 0 ≤ (t : Int) + 2 ∧ (t : Int) + 2 ≤ ((t + 1 : Nat) : Int) + 1; omega
theorem mul_oS (t : Nat) : mulS (oS t, vt t) 1 = (oS (t + 1), (t : Int) + 2) := by
 unfold mulS
 rw [oS_len]
 refine Prod.ext rfl ?_
 show 1 + ((t + 1 : Nat) : Int) = _
 omega
theorem odd_impl (M : Int) (T : Nat) (h1 : 2 * (T : Int) + 1 ≤ M) (h2 : M < 2 * (T : Int) + 3) (hT : T ≤ 1000) : ∀ (d t : Nat), t + d = T → Ev (fun k => impl_SlidingPlan.l0 M 1 k (oS t) (2 * (t : Int) + 3) (mt t)) (oS T, mt T) := by
 intro d
 induction d with
 | zero =>
  intro t ht
  obtain rfl : t = T := by omega
  refine shift ?_
  simp only [impl_SlidingPlan.l0]
  exact neg (by omega) (ret _)
 | succ d ih =>
  intro t ht
  have g1 := mget_mt (t := t) (j := t) (Nat.le_refl _) (by omega)
  have g2 := mul_impl (oS t) (vt t) 1 (by rw [oS_len]; omega)
  rw [mul_oS] at g2
  have g3 : mput (mt t) (2 * (t : Int) + 3) ((t : Int) + 2) = some (mt (t + 1)) := by
   unfold mput
   rw [if_pos ⟨i64_wf (by omega), i64_wf (by omega), by rw [mt_len]; omega⟩]
   rfl
  have h := ih (t + 1) (by omega)
  refine shift ?_
  simp only [impl_SlidingPlan.l0]
  rw [zam (x := 2 * (t : Int) + 3 - 2) (by omega), show 2 * (t : Int) + 3 - 2 = 2 * (t : Int) + 1 by omega, zam (x := 2 * (t : Int) + 3 + 2) (by omega), show 2 * (t : Int) + 3 + 2 = 2 * ((t + 1 : Nat) : Int) + 3 by omega]
  exact pos (by omega) (bind0 g1 (bind0 g2 (bind0 g3 h)))
theorem odd_spec (D : List Int) (M : Int) (hm : spec_meGreatest.f D = some M) (T : Nat) (h1 : 2 * (T : Int) + 1 ≤ M) (h2 : M < 2 * (T : Int) + 3) (hT : T ≤ 1000) : ∀ (d t : Nat), t + d = T → Ev (fun k => spec_meSliding.l0 D k (oS t) [] (vt t) (2 * (t : Int) + 3)) (oS T, []) := by
 intro d
 induction d with
 | zero =>
  intro t ht
  obtain rfl : t = T := by omega
  refine shift ?_
  simp only [spec_meSliding.l0]
  exact bind0 hm (neg (by omega) (ret _))
 | succ d ih =>
  intro t ht
  have h := ih (t + 1) (by omega)
  refine shift ?_
  simp only [spec_meSliding.l0]
  refine bind0 hm (pos (by omega) (bind0 (meTimes_eq 1 _ _ _ _ (by rw [oS_len]; omega)) ?_))
  rw [oS_len, zam (x := 1 + ((t + 1 : Nat) : Int)) (by omega), zam (x := 2 * (t : Int) + 3 + 2) (by omega), show 1 + ((t + 1 : Nat) : Int) = vt (t + 1) by show 1 + ((t + 1 : Nat) : Int) = (t : Int) + 2; omega, show 2 * (t : Int) + 3 + 2 = 2 * ((t + 1 : Nat) : Int) + 3 by omega]
  exact h
/-! the rounds -/
def od (w : Int) : Int := vt ((w.toNat - 1) / 2)
theorem od_at (j : Nat) : od (2 * (j : Int) + 1) = vt j := by
 unfold od
 rw [show (2 * (j : Int) + 1).toNat = 2 * j + 1 by omega, show (2 * j + 1 - 1) / 2 = j by omega]
theorem meOdd_eq (j : Nat) (hj : j ≤ 1000) : spec_meOdd.f (2 * (j : Int) + 1) = some (vt j) := by
 unfold spec_meOdd.f
 cases j with
 | zero => rfl
 | succ j =>
  rw [if_neg (by omega), zam (x := 2 * ((j + 1 : Nat) : Int) + 1 + 1) (by omega)]
  have : (2 * ((j + 1 : Nat) : Int) + 1 + 1).tdiv 2 = (j : Int) + 2 := by
   rw [Int.tdiv_eq_ediv_of_nonneg (by omega)]
   omega
  rw [this, zam (by omega)]
  rfl
def wd (p : List SStep × Int) (w : Swindow) : List SStep × Int := if 0 < w.f0 then mulS (sqn w.f1.toNat p) (od w.f0) else sqn w.f1.toNat p
theorem wd_len (p : List SStep × Int) (w : Swindow) (h : w.f1 ≤ 5) : (wd p w).1.length ≤ p.1.length + 6 := by
 have := sqn_len w.f1.toNat p
 unfold wd
 split
 ·rw [mulS_len]; omega
 ·omega
theorem sl_impl (T : Nat) (hT : T ≤ 1000) (W : List Swindow) (hW : ∀ w ∈ W, WOk w ∧ w.f0 ≤ 2 * (T : Int) + 1) (l : List SStep) (v j : Int) (hl : l.length + 6 * W.length ≤ 9000) : impl_SlidingPlan.l1 (mt T) W l v j = some (W.foldl wd (l, v)) := by
 induction W generalizing l v j with
 | nil => rfl
 | cons w W ih =>
  obtain ⟨⟨h1, h2, h3⟩, h4⟩ := hW w List.mem_cons_self
  obtain ⟨n, hn⟩ := Int.eq_ofNat_of_zero_le (show 0 ≤ w.f1 by omega)
  simp only [List.length_cons] at hl
  have hs : (sqn n (l, v)).1.length = l.length + n := sqn_len n (l, v)
  have hsq : impl_maker_squared.f 1 l [] v w.f1 = some ((sqn n (l, v)).2, (sqn n (l, v)).1) := by
   rw [hn]
   unfold impl_maker_squared.f bd
   rw [if_pos (by omega), Option.bind_some, Int.toNat_natCast, sqn_impl n l v 0 (by omega)]
   rfl
  have hwd : wd (l, v) w = if 0 < w.f0 then mulS (sqn n (l, v)) (od w.f0) else sqn n (l, v) := by
   unfold wd
   rw [show w.f1.toNat = n by omega]
  have hlen : (wd (l, v) w).1.length ≤ l.length + 6 := wd_len (l, v) w h3
  simp only [impl_SlidingPlan.l1, List.foldl_cons]
  rw [hsq, Option.bind_some]
  simp only
  by_cases c : 0 < w.f0
  ·rw [if_pos c] at hwd ⊢
   obtain ⟨q, hq, _⟩ := h1.resolve_left (by omega)
   rw [hq, mget_mt (by omega) hT, Option.bind_some, mul_impl _ _ _ (by omega), Option.bind_some]
   rw [hq, od_at] at hwd
   rw [hwd] at hlen ⊢
   exact ih (fun w hw => hW w (List.mem_cons_of_mem _ hw)) (mulS (sqn n (l, v)) (vt q)).1 (mulS (sqn n (l, v)) (vt q)).2 _ (by omega)
  ·rw [if_neg c] at hwd ⊢
   rw [hwd] at hlen ⊢
   exact ih (fun w hw => hW w (List.mem_cons_of_mem _ hw)) (sqn n (l, v)).1 (sqn n (l, v)).2 _ (by omega)
theorem sq_spec2 (D : List Int) (i : Int) (n : Nat) (hg : gt D i = some (n : Int)) (hn : n ≤ 1000) : ∀ (d j : Nat) (l : List SStep) (a : Int), j + d = n → l.length + d ≤ 10000 → Ev (fun k => spec_meSliding.l2 D i k l [] (j : Int) a) ((sqn d (l, a)).1, [], (sqn d (l, a)).2) := by
 intro d
 induction d with
 | zero =>
  intro j l a hj hl
  refine shift ?_
  simp only [spec_meSliding.l2]
  exact bind0 hg (neg (by omega) (ret _))
 | succ d ih =>
  intro j l a hj hl
  refine shift ?_
  simp only [spec_meSliding.l2, sqn]
  refine bind0 hg (pos (by omega) (bind0 (meTimes_eq 1 l [] a a (by omega)) ?_))
  rw [w64_succ (by omega), zam (x := 1 + (l.length : Int)) (by omega)]
  exact ih (j + 1) _ _ (by omega) (by simp; omega)
theorem sl_spec (W : List Swindow) (hW : ∀ w ∈ W, WOk w) (hl : W.length ≤ 1000) : ∀ (d j c : Nat) (l : List SStep) (v : Int), j + d = W.length → l.length + 6 * d ≤ 9000 → Ev (fun k => spec_meSliding.l1 (k + c) (W.map (·.f0)) (W.map (·.f1)) k l [] (j : Int) v) (((W.drop j).foldl wd (l, v)).1, [], ((W.drop j).foldl wd (l, v)).2) := by
 intro d
 induction d with
 | zero =>
  intro j c l v hj hb
  rw [List.drop_eq_nil_of_le (by omega)]
  refine shift ?_
  simp only [spec_meSliding.l1]
  exact neg (by rw [List.length_map]; omega) (ret _)
 | succ d ih =>
  intro j c l v hj hb
  have e : ∀ k, k + 1 + c = k + (c + 1) := by omega
  have hjl : j < W.length := by omega
  obtain ⟨h1, h2, h3⟩ := hW _ (List.getElem_mem hjl)
  rw [List.drop_eq_getElem_cons hjl, List.foldl_cons]
  obtain ⟨w, hw⟩ : ∃ w, W[j] = w := ⟨_, rfl⟩
  have g0 : gt (W.map (·.f0)) (j : Int) = some w.f0 := by
   rw [gt_nat (by rw [List.length_map]; exact hjl), List.getElem_map, hw]
  have g1 : gt (W.map (·.f1)) (j : Int) = some w.f1 := by
   rw [gt_nat (by rw [List.length_map]; exact hjl), List.getElem_map, hw]
  rw [hw] at h1 h2 h3 ⊢
  obtain ⟨n, hn⟩ := Int.eq_ofNat_of_zero_le (show 0 ≤ w.f1 by omega)
  rw [hn] at g1
  have hs : (sqn n (l, v)).1.length = l.length + n := sqn_len n (l, v)
  have q1 := sq_spec2 _ _ n g1 (by omega) n 0 l v (by omega) (by omega)
  have hwd : wd (l, v) w = if 0 < w.f0 then mulS (sqn n (l, v)) (od w.f0) else sqn n (l, v) := by
   unfold wd
   rw [show w.f1.toNat = n by omega]
  have hlen : (wd (l, v) w).1.length ≤ l.length + 6 := wd_len (l, v) w h3
  refine shift ?_
  simp only [spec_meSliding.l1, e]
  refine pos (by rw [List.length_map]; omega) (bind (upK (c + 1) q1) (bind0 g0 ?_))
  rw [w64_succ (by omega)]
  by_cases cw : 0 < w.f0
  ·rw [if_pos cw] at hwd
   obtain ⟨q, hq, _⟩ := h1.resolve_left (by omega)
   have g2 : spec_meOdd.f w.f0 = some (od w.f0) := by rw [hq, meOdd_eq q (by omega), od_at]
   rw [hwd] at hlen ⊢
   refine pos cw (bind0 g0 (bind0 g2 (bind0 (meTimes_eq 1 _ [] _ _ (by show (sqn n (l, v)).1.length ≤ _; omega)) ?_)))
   rw [zam (x := 1 + ((sqn n (l, v)).1.length : Int)) (by omega)]
   exact ih (j + 1) (c + 1) (mulS (sqn n (l, v)) (od w.f0)).1 (mulS (sqn n (l, v)) (od w.f0)).2 (by omega) (by omega)
  ·rw [if_neg cw] at hwd
   rw [hwd] at hlen ⊢
   exact neg cw (ih (j + 1) (c + 1) (sqn n (l, v)).1 (sqn n (l, v)).2 (by omega) (by omega))
theorem Mk.wd {T : Nat} {p : List SStep × Int} (h : Mk T p) {w : Swindow} (hw : 0 < w.f0 → 0 ≤ od w.f0 ∧ od w.f0 ≤ (T : Int)) : Mk T (Pure.wd p w) := by
 have hs := h.sq w.f1.toNat
 unfold Pure.wd
 split
 ·rename_i c
  have := hw c
  exact hs.mul ⟨this.1, by have := hs.2.1; omega⟩
 ·exact hs
theorem Mk.wds {T : Nat} (W : List Swindow) (hW : ∀ w ∈ W, w.f1 ≤ 5 ∧ (0 < w.f0 → 0 ≤ od w.f0 ∧ od w.f0 ≤ (T : Int))) {p : List SStep × Int} (h : Mk T p) : Mk T (W.foldl Pure.wd p) ∧ (W.foldl Pure.wd p).1.length ≤ p.1.length + 6 * W.length := by
 induction W generalizing p with
 | nil => exact ⟨h, by simp⟩
 | cons w W ih =>
  have q := hW w List.mem_cons_self
  obtain ⟨h1, h2⟩ := ih (fun w hw => hW w (List.mem_cons_of_mem _ hw)) (h.wd q.2)
  have := wd_len p w q.1
  refine ⟨h1, ?_⟩
  rw [List.length_cons, List.foldl_cons]
  omega
theorem oS_ok (T : Nat) : Ok 1 (oS T) := by
 induction T with
 | zero => exact ⟨⟨by decide, by decide, by decide⟩, trivial⟩
 | succ T ih =>
  have hv := vt_in T
  refine Ok.append.2 ⟨ih, ?_, trivial⟩
  rw [oS_len]
  show 0 ≤ mn (vt T) 1 ∧ mn (vt T) 1 ≤ mx (vt T) 1 ∧ mx (vt T) 1 < _
  unfold mn mx
  split <;> split <;> omega
/-- The powers of the outputs. -/
def pw (I : Nat) (s : List SStep) (o : List Int) : List (List Int) := o.map fun v => (exps I s).getD v.toNat []
theorem impl_pw_l0 {n : Nat} (hn : n ≤ 1000) (rs : List (List Int)) (hr : ∀ r ∈ rs, RowOk n r) (ys : List Int) (a : List (List Int)) (j : Int) (h : ∀ y ∈ ys, 0 ≤ y ∧ y < (rs.length : Int)) (hb : a.length + ys.length ≤ 1000) : impl_Plan_outputExponents.l0 rs ys a j = some (a ++ ys.map fun v => rs.getD v.toNat []) := by
 induction ys generalizing a j with
 | nil => simp [impl_Plan_outputExponents.l0]
 | cons y ys ih =>
  simp only [List.length_cons] at hb
  have q := h y List.mem_cons_self
  obtain ⟨g, ok⟩ := getD_ok hr q.1 q.2
  simp only [impl_Plan_outputExponents.l0, slices_Clone_int_int.f]
  rw [g, Option.bind_some, ap_ok (by rw [List.length_nil, ok.1]; omega), Option.bind_some, Option.bind_some, List.nil_append, ap_ok (by simp; omega), Option.bind_some, ih _ _ (fun z hz => h z (List.mem_cons_of_mem _ hz)) (by rw [List.length_append, List.length_singleton]; omega)]
  simp
theorem impl_pw {I : Nat} {s : List SStep} {o : List Int} (h : Form I s o) : impl_Plan_outputExponents.f (I : Int) s o = some (pw I s o) := by
 have h1 := h.inp
 have h2 := h.stp
 have h3 := h.out
 obtain ⟨_, e, hr, hl⟩ := exps_ev I (by omega) s o (by omega) h.fs
 unfold impl_Plan_outputExponents.f
 rw [e, Option.bind_some, impl_pw_l0 (n := I) (by omega) (exps I s) hr o [] 0 (fun y hy => by have := h.os y hy; rw [hl]; omega) (by simp; omega)]
 simp [pw]
/-- Are the powers of two plans the same? -/
def sameB (I : Nat) (s : List SStep) (o : List Int) (I' : Nat) (s' : List SStep) (o' : List Int) : Bool := decide (I = I') && decide (pw I s o = pw I' s' o')
/-- The exponents of a value. -/
theorem good_row {I : Nat} {s : List SStep} {o : List Int} (h : Good I s o) {v : Int} (h0 : 0 ≤ v) (h1 : v < ((I + s.length : Nat) : Int)) : ((exps I s).getD v.toNat []).length = I ∧ ∀ j : Nat, j < I → rg ((exps I s).getD v.toNat []) (j : Int) = rg (vl s (unitR I j)) v := by
 obtain ⟨e1, e2⟩ := exps_len h.inp h.stp h.ok
 have hv : v.toNat < (exps I s).length := by omega
 constructor
 ·rw [List.getD_eq_getElem?_getD, List.getElem?_eq_getElem hv]
  exact (e2 _ (List.getElem_mem hv)).1
 ·intro j hj
  rw [exps_col h.ok hj v.toNat (by omega), show ((v.toNat : Nat) : Int) = v by omega]
  unfold capI
  rw [if_pos (by have := h.le j hj v h0 h1; omega)]
theorem outEx_ev {I : Nat} {s : List SStep} {o : List Int} (h : Good I s o) : Ev (fun k => impl_OutputExponents.f k (I : Int) s o) (pw I s o, true) := by
 have e1 := isPlan_ev (I : Int) s o
 rw [good_iff.2 h] at e1
 unfold impl_OutputExponents.f
 exact bind e1 (pos rfl (bind0 (impl_pw h.form) (ret _)))
/-! another plan's steps behind -/
theorem then_l0 (i : Int) (hi : 0 ≤ i ∧ i ≤ 1000) (ys : List SStep) (p : List Int) (s : List SStep) (j : Int) (h : Ok p.length ys) (hb : p.length + s.length + 2 * ys.length ≤ 100000) : spec_plThen.l0 i ys p s j = some (bh i ys p s) := by
 induction ys generalizing p s j with
 | nil => rfl
 | cons y ys ih =>
  have h1 := h.1
  simp only [List.length_cons] at hb
  simp only [spec_plThen.l0, bh]
  rw [rg_gt (l := p) (by omega) (by omega), Option.bind_some, rg_gt (l := p) (by omega) (by omega), Option.bind_some, plStep_eq, Option.bind_some, ap_ok (by simp; omega), Option.bind_some, ap_ok (by simp; omega), Option.bind_some, rg_app (l := p) (by omega) (by omega), rg_app (l := p) (by omega) (by omega)]
  have e : w64 (w64 (i + ((s ++ [(⟨mn (rg p y.f0) (rg p y.f1), mx (rg p y.f0) (rg p y.f1)⟩ : SStep)]).length : Int)) - 1) = i + (s.length : Int) := by
   rw [List.length_append, List.length_singleton, zam (x := i + ((s.length + 1 : Nat) : Int)) (by omega), zam (by omega)]
   omega
  rw [e]
  exact ih _ _ _ (by rw [List.length_append, List.length_singleton]; exact h.2) (by rw [List.length_append, List.length_append, List.length_singleton, List.length_singleton]; omega)
theorem then_l1 (v ys o : List Int) (j : Int) (h : ∀ y ∈ ys, 0 ≤ y ∧ y < (v.length : Int)) (hb : o.length + ys.length ≤ 1000) : spec_plThen.l1 v ys o j = some (o ++ ys.map (rg v)) := by
 induction ys generalizing o j with
 | nil => simp [spec_plThen.l1]
 | cons y ys ih =>
  simp only [List.length_cons] at hb
  have hy := h y List.mem_cons_self
  simp only [spec_plThen.l1]
  rw [rg_gt hy.1 hy.2, Option.bind_some, ap_ok (by simp; omega), Option.bind_some, ih _ _ (fun z hz => h z (List.mem_cons_of_mem _ hz)) (by rw [List.length_append, List.length_singleton]; omega)]
  simp
theorem then_eq (i : Int) (hi : 0 ≤ i ∧ i ≤ 1000) (st : List SStep) (i' : Int) (ys : List SStep) (o p : List Int) (h : Ok p.length ys) (hb : p.length + st.length + 2 * ys.length ≤ 100000) (ho : ∀ y ∈ o, 0 ≤ y ∧ y < ((p.length + ys.length : Nat) : Int)) (hob : o.length ≤ 1000) : spec_plThen.f st i i' ys o p = some ((bh i ys p st).2, o.map (rg (bh i ys p st).1)) := by
 unfold spec_plThen.f
 rw [l1Own_eq _ (by omega), Option.bind_some, ap_ok (by simp; omega), Option.bind_some, List.nil_append, then_l0 i hi ys p st 0 h hb, Option.bind_some]
 have := bh_len i ys p st
 obtain ⟨⟨P, S⟩, hz⟩ : ∃ z, bh i ys p st = z := ⟨_, rfl⟩
 rw [hz] at this ⊢
 simp only at this ⊢
 rw [then_l1 P o [] 0 (fun y hy => by rw [this.1]; exact ho y hy) (by simpa using hob)]
 rfl
end Go.Proofs.Ytiaohjciddbpoaa.Pure
