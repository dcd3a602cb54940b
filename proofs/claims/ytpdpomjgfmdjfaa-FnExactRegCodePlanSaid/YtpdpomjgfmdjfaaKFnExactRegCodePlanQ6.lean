-- Written by a program of this session (wip/tools/stubprint.py): contracts by hand where the kit's print has none.
import Derived.Test.YtpdpomjgfmdjfaaKFnExactRegCodePlanQ0
import Derived.Test.YtpdpomjgfmdjfaaKFnExactRegCodePlanQ1
import Derived.Test.YtpdpomjgfmdjfaaKFnExactRegCodePlanQ3
import Derived.Test.YtpdpomjgfmdjfaaKFnExactRegCodePlanQ5
namespace Go.Proofs.Ytpdpomjgfmdjfaa.Z
open Go.RowKit Go.Proofs.YtpdpomjgfmdjfaaW.PrintWords Go.Proofs.YtpdpomjgfmdjfaaW.PrintLast Go.Proofs.YtpdpomjgfmdjfaaW.PrintMore
attribute [local go_sem] max2_int min2_int max_two min_two max_three min_three max_four min_four   -- for this text's walks alone
set_option linter.unusedVariables false
set_option linter.unusedSimpArgs false

/-! ### laws_heldIntS: function 32 -/
def laws_heldIntS.l0 : Nat → List Int → Int → Int → Option (Int)
 | 0, _, _, _ => none
 | k + 1, x0, x1, x5 => if x5 < (x0.length : Int) then (if 0 ≤ x5 then (if (rd x0 x5) = x1 then (laws_heldIntS.l0 k x0 (wrap64 (x1 + 1)) (wrap64 (x5 + 1))) else (some (-1))) else (none)) else (some x1)
def laws_heldIntS.f (k : Nat) (l0 : List Int) (a1 : Int) : Option (Int) := laws_heldIntS.l0 k l0 a1 0
theorem laws_heldIntS.zb6 : ∀ k, (∀ y0 y1 y2, LeO (laws_heldIntS.l0 k y0 y1 y2) (laws_heldIntS.l0 (k + 1) y0 y1 y2))
 | 0 => fun _ _ _ r h => by simp [laws_heldIntS.l0] at h
 | k + 1 => by
  have ih0 := laws_heldIntS.zb6 k
  ·intro y0 y1 y2
   unfold laws_heldIntS.l0
   repeat' first
   | (with_reducible exact ih0 _ _ _)
   | (with_reducible exact LeO.refl _)
   | (with_reducible exact LeO.none _)
   | (with_reducible refine LeO.ite ?_ ?_)
   | (with_reducible refine LeO.bind ?_ (fun _ => ?_))
   | exact ih0 _ _ _
   | exact LeO.none _
   | refine LeO.ite ?_ ?_
   | refine LeO.bind ?_ (fun _ => ?_)
theorem laws_heldIntS.mono : ∀ a0 a1 k, LeO (laws_heldIntS.f k a0 a1) (laws_heldIntS.f (k + 1) a0 a1) := by
 intro a0 a1 k
 have ih0 := laws_heldIntS.zb6 k
 unfold laws_heldIntS.f
 repeat' first
   | (with_reducible exact ih0 _ _ _)
   | (with_reducible exact LeO.refl _)
   | (with_reducible exact LeO.none _)
   | (with_reducible refine LeO.ite ?_ ?_)
   | (with_reducible refine LeO.bind ?_ (fun _ => ?_))
   | exact ih0 _ _ _
   | exact LeO.none _
   | refine LeO.ite ?_ ?_
   | refine LeO.bind ?_ (fun _ => ?_)
set_option maxHeartbeats 8000000 in
set_option maxRecDepth 100000 in
theorem laws_heldIntS.calls (k : Nat) (A0 : Option Addr) (c0 : Nat) (l0 : List Int) (a1 : Int) (r : Int) (w : World) (hr0 : Kd.C (Kd.int .i64) w A0 l0.length l0) (hc0 : l0.length ≤ c0) (h : laws_heldIntS.f k l0 a1 = some r) :
  Calls Try.prog 32 #[.slice A0 l0.length c0, .int .i64 a1] w fun e w' => e = .returned (.int .i64 r) ∧ Drawn0 w w' := by
 have HR0 := Aside0.mk hr0
 have HC0 := Aside0.mk hc0
 clear hr0 hc0
 have H : (laws_heldIntS.l0 k l0 a1 0) = some r := h
 clear h
 have H' := Aside0.mk H
 clear H
 go_enter Try.func32, Try.ntmps32
 go_wp2
 go_loopg [1, 5] k (fun kq v1 v5 w' => ∃ (x1_1 : Int) (x5_1 : Int), v1 = .int .i64 x1_1 ∧ v5 = .int .i64 x5_1 ∧ Aside0 (laws_heldIntS.l0 kq l0 x1_1 x5_1 = some r) ∧ Aside0 (kq ≤ k) ∧ Drawn0 w w')
 case atStart => exact ⟨(a1), (0), (by first | rfl | (simp; done) | (simp [*]; done)), (by first | rfl | (simp; done) | (simp [*]; done)), H', ⟨Nat.le_refl _⟩, by repeat (first | exact Drawn0.refl _ | apply Drawn0.step)⟩
 case round =>
  clear H'
  try clear p2
  obtain ⟨x1_1, x5_1, rfl, rfl, HA, HK1, ⟨m1, rfl⟩⟩ := hrel
  cases gk with
  | zero => exact absurd HA.out (by simp [laws_heldIntS.l0])
  | succ k1 =>
   have H := HA.out
   clear HA
   simp only [laws_heldIntS.l0] at H
   by_cases c3 : x5_1 < (l0.length : Int)
   ·rw [if_pos c3] at H
    have c3b0 : decide (x5_1 < (l0.length : Int)) = true := decide_eq_true c3
    clear c3
    by_cases c4 : 0 ≤ x5_1
    ·rw [if_pos c4] at H
     have c4b0 : decide (0 ≤ x5_1) = true := decide_eq_true c4
     clear c4
     by_cases c5 : (rd l0 x5_1) = x1_1
     ·rw [if_pos c5] at H
      have c5b0 : ((rd l0 x5_1) == x1_1) = true := beq_iff_eq.mpr c5
      have c5b1 : ((rd l0 x5_1) != x1_1) = false := bne_eq_false_iff_eq.mpr c5
      clear c5
      have H' := Aside0.mk H
      clear H
      have p395 : 0 ≤ (x5_1 : Int) := of_decide_eq_true (by first | (with_reducible assumption) | assumption)
      have q395 : x5_1 < (l0.length : Int) := of_decide_eq_true (by first | (with_reducible assumption) | assumption)
      obtain ⟨ad395, e395, hx395_0⟩ := Kd.at_int HR0.out x5_1 p395 q395
      cases e395
      replace p395 := eq_true p395
      replace q395 := eq_true q395
      go_wp2
      go_roundg k1
      case measure => have := HK1.out; omega
      case rel => exact ⟨(wrap64 (x1_1 + 1)), (wrap64 (x5_1 + 1)), (by first | rfl | (simp; done) | (simp [*]; done)), (by first | rfl | (simp; done) | (simp [*]; done)), H', ⟨by have := HK1.out; omega⟩, by repeat (first | exact Drawn0.refl _ | apply Drawn0.step)⟩
     ·rw [if_neg c5] at H
      have c5b0 : ((rd l0 x5_1) == x1_1) = false := beq_eq_false_iff_ne.mpr c5
      have c5b1 : ((rd l0 x5_1) != x1_1) = true := bne_iff_ne.mpr c5
      obtain rfl := Option.some.inj H
      have p395 : 0 ≤ (x5_1 : Int) := of_decide_eq_true (by first | (with_reducible assumption) | assumption)
      have q395 : x5_1 < (l0.length : Int) := of_decide_eq_true (by first | (with_reducible assumption) | assumption)
      obtain ⟨ad395, e395, hx395_0⟩ := Kd.at_int HR0.out x5_1 p395 q395
      cases e395
      replace p395 := eq_true p395
      replace q395 := eq_true q395
      go_wp2
      go_ret
      exact ⟨by first | rfl | (simp; done) | (simp [*]; done), by repeat (first | exact Drawn0.refl _ | apply Drawn0.step)⟩
    ·rw [if_neg c4] at H
     exact absurd H (by simp)
   ·rw [if_neg c3] at H
    have c3b0 : decide (x5_1 < (l0.length : Int)) = false := decide_eq_false c3
    clear c3
    obtain rfl := Option.some.inj H
    go_wp2
    go_ret
    exact ⟨by first | rfl | (simp; done) | (simp [*]; done), by repeat (first | exact Drawn0.refl _ | apply Drawn0.step)⟩

/-! ### laws_heldStepS: function 66 -/
def laws_heldStepS.l0 : Nat → List (S117) → Int → Int → Option (Int)
 | 0, _, _, _ => none
 | k + 1, x0, x1, x5 => if x5 < (x0.length : Int) then (if 0 ≤ x5 then (if ((zac x0 x5).f0) = x1 then (if ((zac x0 x5).f1) = (wrap64 (x1 + 1)) then (laws_heldStepS.l0 k x0 (wrap64 ((wrap64 (x1 + 1)) + 1)) (wrap64 (x5 + 1))) else (some (-1))) else (some (-1))) else (none)) else (some x1)
def laws_heldStepS.f (k : Nat) (l0 : List (S117)) (a1 : Int) : Option (Int) := laws_heldStepS.l0 k l0 a1 0
theorem laws_heldStepS.zb6 : ∀ k, (∀ y0 y1 y2, LeO (laws_heldStepS.l0 k y0 y1 y2) (laws_heldStepS.l0 (k + 1) y0 y1 y2))
 | 0 => fun _ _ _ r h => by simp [laws_heldStepS.l0] at h
 | k + 1 => by
  have ih0 := laws_heldStepS.zb6 k
  ·intro y0 y1 y2
   unfold laws_heldStepS.l0
   repeat' first
   | (with_reducible exact ih0 _ _ _)
   | (with_reducible exact LeO.refl _)
   | (with_reducible exact LeO.none _)
   | (with_reducible refine LeO.ite ?_ ?_)
   | (with_reducible refine LeO.bind ?_ (fun _ => ?_))
   | exact ih0 _ _ _
   | exact LeO.none _
   | refine LeO.ite ?_ ?_
   | refine LeO.bind ?_ (fun _ => ?_)
theorem laws_heldStepS.mono : ∀ a0 a1 k, LeO (laws_heldStepS.f k a0 a1) (laws_heldStepS.f (k + 1) a0 a1) := by
 intro a0 a1 k
 have ih0 := laws_heldStepS.zb6 k
 unfold laws_heldStepS.f
 repeat' first
   | (with_reducible exact ih0 _ _ _)
   | (with_reducible exact LeO.refl _)
   | (with_reducible exact LeO.none _)
   | (with_reducible refine LeO.ite ?_ ?_)
   | (with_reducible refine LeO.bind ?_ (fun _ => ?_))
   | exact ih0 _ _ _
   | exact LeO.none _
   | refine LeO.ite ?_ ?_
   | refine LeO.bind ?_ (fun _ => ?_)
set_option maxHeartbeats 8000000 in
set_option maxRecDepth 100000 in
theorem laws_heldStepS.calls (k : Nat) (A0 : Option Addr) (c0 : Nat) (l0 : List (S117)) (a1 : Int) (r : Int) (w : World) (hr0 : Kd.C k117 w A0 l0.length l0) (hc0 : l0.length ≤ c0) (h : laws_heldStepS.f k l0 a1 = some r) :
  Calls Try.prog 66 #[.slice A0 l0.length c0, .int .i64 a1] w fun e w' => e = .returned (.int .i64 r) ∧ Drawn0 w w' := by
 have HR0 := Aside0.mk hr0
 have HC0 := Aside0.mk hc0
 clear hr0 hc0
 have H : (laws_heldStepS.l0 k l0 a1 0) = some r := h
 clear h
 have H' := Aside0.mk H
 clear H
 go_enter Try.func66, Try.ntmps66
 go_wp2
 go_loopg [1, 5] k (fun kq v1 v5 w' => ∃ (x1_1 : Int) (x5_1 : Int), v1 = .int .i64 x1_1 ∧ v5 = .int .i64 x5_1 ∧ Aside0 (laws_heldStepS.l0 kq l0 x1_1 x5_1 = some r) ∧ Aside0 (kq ≤ k) ∧ Drawn0 w w')
 case atStart => exact ⟨(a1), (0), (by first | rfl | (simp; done) | (simp [*]; done)), (by first | rfl | (simp; done) | (simp [*]; done)), H', ⟨Nat.le_refl _⟩, by repeat (first | exact Drawn0.refl _ | apply Drawn0.step)⟩
 case round =>
  clear H'
  try clear p2
  obtain ⟨x1_1, x5_1, rfl, rfl, HA, HK1, ⟨m1, rfl⟩⟩ := hrel
  cases gk with
  | zero => exact absurd HA.out (by simp [laws_heldStepS.l0])
  | succ k1 =>
   have H := HA.out
   clear HA
   simp only [laws_heldStepS.l0] at H
   by_cases c3 : x5_1 < (l0.length : Int)
   ·rw [if_pos c3] at H
    have c3b0 : decide (x5_1 < (l0.length : Int)) = true := decide_eq_true c3
    clear c3
    by_cases c4 : 0 ≤ x5_1
    ·rw [if_pos c4] at H
     have c4b0 : decide (0 ≤ x5_1) = true := decide_eq_true c4
     clear c4
     by_cases c5 : ((zac l0 x5_1).f0) = x1_1
     ·rw [if_pos c5] at H
      have c5b0 : (((zac l0 x5_1).f0) == x1_1) = true := beq_iff_eq.mpr c5
      have c5b1 : (((zac l0 x5_1).f0) != x1_1) = false := bne_eq_false_iff_eq.mpr c5
      clear c5
      by_cases c6 : ((zac l0 x5_1).f1) = (wrap64 (x1_1 + 1))
      ·rw [if_pos c6] at H
       have c6b0 : (((zac l0 x5_1).f1) == (wrap64 (x1_1 + 1))) = true := beq_iff_eq.mpr c6
       have c6b1 : (((zac l0 x5_1).f1) != (wrap64 (x1_1 + 1))) = false := bne_eq_false_iff_eq.mpr c6
       clear c6
       have H' := Aside0.mk H
       clear H
       have p396 : 0 ≤ (x5_1 : Int) := of_decide_eq_true (by first | (with_reducible assumption) | assumption)
       have q396 : x5_1 < (l0.length : Int) := of_decide_eq_true (by first | (with_reducible assumption) | assumption)
       obtain ⟨ad396, e396, hx396_0, hx396_1⟩ := at_T117 HR0.out x5_1 p396 q396
       cases e396
       replace p396 := eq_true p396
       replace q396 := eq_true q396
       have p397 : 0 ≤ (x5_1 : Int) := of_decide_eq_true (by first | (with_reducible assumption) | assumption)
       have q397 : x5_1 < (l0.length : Int) := of_decide_eq_true (by first | (with_reducible assumption) | assumption)
       obtain ⟨ad397, e397, hx397_0, hx397_1⟩ := at_T117 HR0.out x5_1 p397 q397
       obtain rfl : ad396 = ad397 := (by injection e397)
       replace p397 := eq_true p397
       replace q397 := eq_true q397
       go_wp2
       go_roundg k1
       case measure => have := HK1.out; omega
       case rel => exact ⟨(wrap64 ((wrap64 (x1_1 + 1)) + 1)), (wrap64 (x5_1 + 1)), (by first | rfl | (simp; done) | (simp [*]; done)), (by first | rfl | (simp; done) | (simp [*]; done)), H', ⟨by have := HK1.out; omega⟩, by repeat (first | exact Drawn0.refl _ | apply Drawn0.step)⟩
      ·rw [if_neg c6] at H
       have c6b0 : (((zac l0 x5_1).f1) == (wrap64 (x1_1 + 1))) = false := beq_eq_false_iff_ne.mpr c6
       have c6b1 : (((zac l0 x5_1).f1) != (wrap64 (x1_1 + 1))) = true := bne_iff_ne.mpr c6
       obtain rfl := Option.some.inj H
       have p396 : 0 ≤ (x5_1 : Int) := of_decide_eq_true (by first | (with_reducible assumption) | assumption)
       have q396 : x5_1 < (l0.length : Int) := of_decide_eq_true (by first | (with_reducible assumption) | assumption)
       obtain ⟨ad396, e396, hx396_0, hx396_1⟩ := at_T117 HR0.out x5_1 p396 q396
       cases e396
       replace p396 := eq_true p396
       replace q396 := eq_true q396
       have p397 : 0 ≤ (x5_1 : Int) := of_decide_eq_true (by first | (with_reducible assumption) | assumption)
       have q397 : x5_1 < (l0.length : Int) := of_decide_eq_true (by first | (with_reducible assumption) | assumption)
       obtain ⟨ad397, e397, hx397_0, hx397_1⟩ := at_T117 HR0.out x5_1 p397 q397
       obtain rfl : ad396 = ad397 := (by injection e397)
       replace p397 := eq_true p397
       replace q397 := eq_true q397
       go_wp2
       go_ret
       exact ⟨by first | rfl | (simp; done) | (simp [*]; done), by repeat (first | exact Drawn0.refl _ | apply Drawn0.step)⟩
     ·rw [if_neg c5] at H
      have c5b0 : (((zac l0 x5_1).f0) == x1_1) = false := beq_eq_false_iff_ne.mpr c5
      have c5b1 : (((zac l0 x5_1).f0) != x1_1) = true := bne_iff_ne.mpr c5
      obtain rfl := Option.some.inj H
      have p396 : 0 ≤ (x5_1 : Int) := of_decide_eq_true (by first | (with_reducible assumption) | assumption)
      have q396 : x5_1 < (l0.length : Int) := of_decide_eq_true (by first | (with_reducible assumption) | assumption)
      obtain ⟨ad396, e396, hx396_0, hx396_1⟩ := at_T117 HR0.out x5_1 p396 q396
      cases e396
      replace p396 := eq_true p396
      replace q396 := eq_true q396
      go_wp2
      go_ret
      exact ⟨by first | rfl | (simp; done) | (simp [*]; done), by repeat (first | exact Drawn0.refl _ | apply Drawn0.step)⟩
    ·rw [if_neg c4] at H
     exact absurd H (by simp)
   ·rw [if_neg c3] at H
    have c3b0 : decide (x5_1 < (l0.length : Int)) = false := decide_eq_false c3
    clear c3
    obtain rfl := Option.some.inj H
    go_wp2
    go_ret
    exact ⟨by first | rfl | (simp; done) | (simp [*]; done), by repeat (first | exact Drawn0.refl _ | apply Drawn0.step)⟩

/-! ### laws_heldPlan: function 26 -/
def laws_heldPlan.f (k : Nat) (a0_0 : Int) (l0_1 : List (S117)) (l0_2 : List Int) (a1 : Int) : Option (Int) := (laws_heldStepS.f k l0_1 a1).bind fun t399 => (if t399 < 0 then (some (-1)) else ((laws_heldIntS.f k l0_2 t399).bind fun t400 => (if t400 < 0 then (some (-1)) else (some t400))))
theorem laws_heldPlan.mono : ∀ a0 a1 a2 a3 k, LeO (laws_heldPlan.f k a0 a1 a2 a3) (laws_heldPlan.f (k + 1) a0 a1 a2 a3) := by
 intro a0 a1 a2 a3 k
 unfold laws_heldPlan.f
 repeat' first
   | (with_reducible exact laws_heldIntS.mono _ _ _)
   | (with_reducible exact laws_heldStepS.mono _ _ _)
   | (with_reducible exact LeO.refl _)
   | (with_reducible exact LeO.none _)
   | (with_reducible refine LeO.ite ?_ ?_)
   | (with_reducible refine LeO.bind ?_ (fun _ => ?_))
   | exact laws_heldIntS.mono _ _ _
   | exact laws_heldStepS.mono _ _ _
   | exact LeO.none _
   | refine LeO.ite ?_ ?_
   | refine LeO.bind ?_ (fun _ => ?_)
set_option maxHeartbeats 8000000 in
set_option maxRecDepth 100000 in
theorem laws_heldPlan.calls (k : Nat) (a0_0 : Int) (A0_1 : Option Addr) (c0_1 : Nat) (l0_1 : List (S117)) (A0_2 : Option Addr) (c0_2 : Nat) (l0_2 : List Int) (a1 : Int) (r : Int) (w : World) (hr0_1 : Kd.C k117 w A0_1 l0_1.length l0_1) (hc0_1 : l0_1.length ≤ c0_1) (hr0_2 : Kd.C (Kd.int .i64) w A0_2 l0_2.length l0_2) (hc0_2 : l0_2.length ≤ c0_2) (h : laws_heldPlan.f k a0_0 l0_1 l0_2 a1 = some r) :
  Calls Try.prog 26 #[.agg #[.int .i64 a0_0, .slice A0_1 l0_1.length c0_1, .slice A0_2 l0_2.length c0_2], .int .i64 a1] w fun e w' => e = .returned (.int .i64 r) ∧ Below w.heap.size w w' := by
 have hu36 := Try.underlying36
 have HR0_1 := Aside0.mk hr0_1
 have HC0_1 := Aside0.mk hc0_1
 clear hr0_1 hc0_1
 have HR0_2 := Aside0.mk hr0_2
 have HC0_2 := Aside0.mk hc0_2
 clear hr0_2 hc0_2
 have HB := Aside0.mk (Below.refl w.heap.size w)
 have H : ((laws_heldStepS.f k l0_1 a1).bind fun t399 => (if t399 < 0 then (some (-1)) else ((laws_heldIntS.f k l0_2 t399).bind fun t400 => (if t400 < 0 then (some (-1)) else (some t400))))) = some r := h
 clear h
 replace H := Option.bind_eq_some_iff.mp H
 obtain ⟨t399, A30, H⟩ := H
 replace H : (if t399 < 0 then (some (-1)) else ((laws_heldIntS.f k l0_2 t399).bind fun t400 => (if t400 < 0 then (some (-1)) else (some t400)))) = some r := H
 have A3 := Aside0.mk A30
 clear A30
 by_cases c4 : t399 < 0
 ·rw [if_pos c4] at H
  have c4b0 : decide (t399 < 0) = true := decide_eq_true c4
  clear c4
  obtain rfl := Option.some.inj H
  go_enter Try.func26, Try.ntmps26
  go_wp2_with (first | ((with_reducible refine zak (N := 2) rfl ?_); refine zaj ?hg (N := 2) ?hd (cs := #[.int .i64 a0_0, .slice A0_1 l0_1.length c0_1, .slice A0_2 l0_2.length c0_2]) (t := 36) ?hr ?_; (case hd => rfl); (case hg => rfl); (case hr => first | (go_simp; done) | (go_simp; rfl)); intro gb398 hg w5 hbox hb; have n0_ := Aside0.mk (zad (by repeat (first | (with_reducible first | exact HB.out | apply za3 | apply za0 | apply za2) | exact HB.out)) hb); have n1_ := Aside0.mk (hbox); have n2_ := Aside0.mk ((by rw [hg]; exact (za9 (by repeat (first | (with_reducible first | exact HB.out | apply za3 | apply za0 | apply za2) | exact HB.out))) : w.heap.size ≤ gb398)); have n3_ := Aside0.mk ((by rw [hg]; exact (za9 (by repeat (first | (with_reducible first | exact HB.out | apply za3 | apply za0 | apply za2) | exact HB.out))) : w.heap.size ≤ gb398)); clear HB; have HB := n0_; have BK398 := n1_; have GW398 := n2_; have GE398 := n3_; clear n0_ n1_ n2_ n3_; clear hb hbox hg; have hcz6_0 : w5.cell? ⟨gb398, 0, none⟩ = some (.int .i64 a0_0) := (za5 BK398.out 0).trans rfl; have hcz6_1 : w5.cell? ⟨gb398, 1, none⟩ = some (.slice A0_1 l0_1.length c0_1) := (za5 BK398.out 1).trans rfl; have hcz6_2 : w5.cell? ⟨gb398, 2, none⟩ = some (.slice A0_2 l0_2.length c0_2) := (za5 BK398.out 2).trans rfl; have hfz6_0 := za1 BK398.out 0; have hfz6_1 := za1 BK398.out 1; have hfz6_2 := za1 BK398.out 2) | ((with_reducible refine zai (f := 66) rfl ?_); refine zb1 (some 8) rfl rfl Try.func66 (by kernel_rfl) rfl #[.slice A0_1 l0_1.length c0_1, .int .i64 a1] rfl (by (try simp only [List.map_toArray, List.map_cons, List.map_nil]); first | done | rfl | (simp only [List.length_drop, List.length_take]; rfl)) ?_; (with_reducible refine (laws_heldStepS.calls k _ _ l0_1 a1 t399 _ ?side1 ?side2 A3.out).mono ?_); (case side1 => repeat (first | exact (Kd.zam HR0_1.out HB.out) | (with_reducible refine Kd.zat ?_ _) | (with_reducible refine Kd.zar ?_ _) | (with_reducible refine Kd.zaw ?_))); (case side2 => exact HC0_1.out); rintro e w' ⟨rfl, ⟨nd, rfl⟩⟩; refine ⟨_, rfl, ?_⟩))
  go_ret
  exact ⟨by first | rfl | (simp [zae, zaf] <;> rfl) | (simp [*, zae, zaf] <;> rfl), by repeat (first | (with_reducible first | exact HB.out | apply za3 | apply za0 | apply za2 | refine za4 ?_ GE398.out) | exact HB.out)⟩
 ·rw [if_neg c4] at H
  have c4b0 : decide (t399 < 0) = false := decide_eq_false c4
  clear c4
  replace H := Option.bind_eq_some_iff.mp H
  obtain ⟨t400, A70, H⟩ := H
  replace H : (if t400 < 0 then (some (-1)) else (some t400)) = some r := H
  have A7 := Aside0.mk A70
  clear A70
  by_cases c8 : t400 < 0
  ·rw [if_pos c8] at H
   have c8b0 : decide (t400 < 0) = true := decide_eq_true c8
   clear c8
   obtain rfl := Option.some.inj H
   go_enter Try.func26, Try.ntmps26
   go_wp2_with (first | ((with_reducible refine zak (N := 2) rfl ?_); refine zaj ?hg (N := 2) ?hd (cs := #[.int .i64 a0_0, .slice A0_1 l0_1.length c0_1, .slice A0_2 l0_2.length c0_2]) (t := 36) ?hr ?_; (case hd => rfl); (case hg => rfl); (case hr => first | (go_simp; done) | (go_simp; rfl)); intro gb398 hg w9 hbox hb; have n0_ := Aside0.mk (zad (by repeat (first | (with_reducible first | exact HB.out | apply za3 | apply za0 | apply za2) | exact HB.out)) hb); have n1_ := Aside0.mk (hbox); have n2_ := Aside0.mk ((by rw [hg]; exact (za9 (by repeat (first | (with_reducible first | exact HB.out | apply za3 | apply za0 | apply za2) | exact HB.out))) : w.heap.size ≤ gb398)); have n3_ := Aside0.mk ((by rw [hg]; exact (za9 (by repeat (first | (with_reducible first | exact HB.out | apply za3 | apply za0 | apply za2) | exact HB.out))) : w.heap.size ≤ gb398)); clear HB; have HB := n0_; have BK398 := n1_; have GW398 := n2_; have GE398 := n3_; clear n0_ n1_ n2_ n3_; clear hb hbox hg; have hcz10_0 : w9.cell? ⟨gb398, 0, none⟩ = some (.int .i64 a0_0) := (za5 BK398.out 0).trans rfl; have hcz10_1 : w9.cell? ⟨gb398, 1, none⟩ = some (.slice A0_1 l0_1.length c0_1) := (za5 BK398.out 1).trans rfl; have hcz10_2 : w9.cell? ⟨gb398, 2, none⟩ = some (.slice A0_2 l0_2.length c0_2) := (za5 BK398.out 2).trans rfl; have hfz10_0 := za1 BK398.out 0; have hfz10_1 := za1 BK398.out 1; have hfz10_2 := za1 BK398.out 2) | ((with_reducible refine zai (f := 66) rfl ?_); refine zb1 (some 8) rfl rfl Try.func66 (by kernel_rfl) rfl #[.slice A0_1 l0_1.length c0_1, .int .i64 a1] rfl (by (try simp only [List.map_toArray, List.map_cons, List.map_nil]); first | done | rfl | (simp only [List.length_drop, List.length_take]; rfl)) ?_; (with_reducible refine (laws_heldStepS.calls k _ _ l0_1 a1 t399 _ ?side1 ?side2 A3.out).mono ?_); (case side1 => repeat (first | exact (Kd.zam HR0_1.out HB.out) | (with_reducible refine Kd.zat ?_ _) | (with_reducible refine Kd.zar ?_ _) | (with_reducible refine Kd.zaw ?_))); (case side2 => exact HC0_1.out); rintro e w' ⟨rfl, ⟨nd, rfl⟩⟩; refine ⟨_, rfl, ?_⟩) | ((with_reducible refine zai (f := 32) rfl ?_); refine zb1 (some 14) rfl rfl Try.func32 (by kernel_rfl) rfl #[.slice A0_2 l0_2.length c0_2, .int .i64 t399] rfl (by (try simp only [List.map_toArray, List.map_cons, List.map_nil]); first | done | rfl | (simp only [List.length_drop, List.length_take]; rfl)) ?_; (with_reducible refine (laws_heldIntS.calls k _ _ l0_2 t399 t400 _ ?side1 ?side2 A7.out).mono ?_); (case side1 => repeat (first | exact (Kd.zam HR0_2.out (by repeat (first | (with_reducible first | exact HB.out | apply za3 | apply za0 | apply za2 | refine za4 ?_ GE398.out) | exact HB.out))) | (with_reducible refine Kd.zat ?_ _) | (with_reducible refine Kd.zar ?_ _) | (with_reducible refine Kd.zaw ?_))); (case side2 => exact HC0_2.out); rintro e w' ⟨rfl, ⟨nd, rfl⟩⟩; refine ⟨_, rfl, ?_⟩))
   go_ret
   exact ⟨by first | rfl | (simp [zae, zaf] <;> rfl) | (simp [*, zae, zaf] <;> rfl), by repeat (first | (with_reducible first | exact HB.out | apply za3 | apply za0 | apply za2 | refine za4 ?_ GE398.out) | exact HB.out)⟩
  ·rw [if_neg c8] at H
   have c8b0 : decide (t400 < 0) = false := decide_eq_false c8
   clear c8
   obtain rfl := Option.some.inj H
   go_enter Try.func26, Try.ntmps26
   go_wp2_with (first | ((with_reducible refine zak (N := 2) rfl ?_); refine zaj ?hg (N := 2) ?hd (cs := #[.int .i64 a0_0, .slice A0_1 l0_1.length c0_1, .slice A0_2 l0_2.length c0_2]) (t := 36) ?hr ?_; (case hd => rfl); (case hg => rfl); (case hr => first | (go_simp; done) | (go_simp; rfl)); intro gb398 hg w11 hbox hb; have n0_ := Aside0.mk (zad (by repeat (first | (with_reducible first | exact HB.out | apply za3 | apply za0 | apply za2) | exact HB.out)) hb); have n1_ := Aside0.mk (hbox); have n2_ := Aside0.mk ((by rw [hg]; exact (za9 (by repeat (first | (with_reducible first | exact HB.out | apply za3 | apply za0 | apply za2) | exact HB.out))) : w.heap.size ≤ gb398)); have n3_ := Aside0.mk ((by rw [hg]; exact (za9 (by repeat (first | (with_reducible first | exact HB.out | apply za3 | apply za0 | apply za2) | exact HB.out))) : w.heap.size ≤ gb398)); clear HB; have HB := n0_; have BK398 := n1_; have GW398 := n2_; have GE398 := n3_; clear n0_ n1_ n2_ n3_; clear hb hbox hg; have hcz12_0 : w11.cell? ⟨gb398, 0, none⟩ = some (.int .i64 a0_0) := (za5 BK398.out 0).trans rfl; have hcz12_1 : w11.cell? ⟨gb398, 1, none⟩ = some (.slice A0_1 l0_1.length c0_1) := (za5 BK398.out 1).trans rfl; have hcz12_2 : w11.cell? ⟨gb398, 2, none⟩ = some (.slice A0_2 l0_2.length c0_2) := (za5 BK398.out 2).trans rfl; have hfz12_0 := za1 BK398.out 0; have hfz12_1 := za1 BK398.out 1; have hfz12_2 := za1 BK398.out 2) | ((with_reducible refine zai (f := 66) rfl ?_); refine zb1 (some 8) rfl rfl Try.func66 (by kernel_rfl) rfl #[.slice A0_1 l0_1.length c0_1, .int .i64 a1] rfl (by (try simp only [List.map_toArray, List.map_cons, List.map_nil]); first | done | rfl | (simp only [List.length_drop, List.length_take]; rfl)) ?_; (with_reducible refine (laws_heldStepS.calls k _ _ l0_1 a1 t399 _ ?side1 ?side2 A3.out).mono ?_); (case side1 => repeat (first | exact (Kd.zam HR0_1.out HB.out) | (with_reducible refine Kd.zat ?_ _) | (with_reducible refine Kd.zar ?_ _) | (with_reducible refine Kd.zaw ?_))); (case side2 => exact HC0_1.out); rintro e w' ⟨rfl, ⟨nd, rfl⟩⟩; refine ⟨_, rfl, ?_⟩) | ((with_reducible refine zai (f := 32) rfl ?_); refine zb1 (some 14) rfl rfl Try.func32 (by kernel_rfl) rfl #[.slice A0_2 l0_2.length c0_2, .int .i64 t399] rfl (by (try simp only [List.map_toArray, List.map_cons, List.map_nil]); first | done | rfl | (simp only [List.length_drop, List.length_take]; rfl)) ?_; (with_reducible refine (laws_heldIntS.calls k _ _ l0_2 t399 t400 _ ?side1 ?side2 A7.out).mono ?_); (case side1 => repeat (first | exact (Kd.zam HR0_2.out (by repeat (first | (with_reducible first | exact HB.out | apply za3 | apply za0 | apply za2 | refine za4 ?_ GE398.out) | exact HB.out))) | (with_reducible refine Kd.zat ?_ _) | (with_reducible refine Kd.zar ?_ _) | (with_reducible refine Kd.zaw ?_))); (case side2 => exact HC0_2.out); rintro e w' ⟨rfl, ⟨nd, rfl⟩⟩; refine ⟨_, rfl, ?_⟩))
   go_ret
   exact ⟨by first | rfl | (simp [zae, zaf] <;> rfl) | (simp [*, zae, zaf] <;> rfl), by repeat (first | (with_reducible first | exact HB.out | apply za3 | apply za0 | apply za2 | refine za4 ?_ GE398.out) | exact HB.out)⟩

/-! ### laws_FnExactRegCodePlan: function 4 -/
set_option maxHeartbeats 16000000 in
set_option maxRecDepth 100000 in
theorem laws_FnExactRegCodePlan.large (a0_0 : Int) (A0_1 : Option Addr) (c0_1 : Nat) (l0_1 : List Int) (A0_2 : Option Addr) (c0_2 : Nat) (l0_2 : List S126) (A0_3 : Option Addr) (c0_3 : Nat) (l0_3 : List Int) (w : World) (hr0_1 : Kd.C (Kd.int .i64) w A0_1 l0_1.length l0_1) (hc0_1 : l0_1.length ≤ c0_1) (hr0_2 : Kd.C k126 w A0_2 l0_2.length l0_2) (hc0_2 : l0_2.length ≤ c0_2) (hr0_3 : Kd.C (Kd.int .i64) w A0_3 l0_3.length l0_3) (hc0_3 : l0_3.length ≤ c0_3) (hs : laws_szRegCode.f a0_0 l0_1 l0_2 l0_3 1048576 = some (-1)) :
  Calls Try.prog 4 #[.agg #[.int .i64 a0_0, .slice A0_1 l0_1.length c0_1, .slice A0_2 l0_2.length c0_2, .slice A0_3 l0_3.length c0_3]] w fun e w' => e = .returned (.bool true) ∧ Below w.heap.size w w' := by
 have hu25 := Try.underlying25
 have hu30 := Try.underlying30
 have hu36 := Try.underlying36
 have HC1 := Aside0.mk hr0_1
 have HC2 := Aside0.mk hr0_2
 have HC3 := Aside0.mk hr0_3
 have HN := Aside0.mk (And.intro hc0_1 (And.intro hc0_2 hc0_3))
 clear hr0_1 hr0_2 hr0_3 hc0_1 hc0_2 hc0_3
 have HS := Aside0.mk hs
 clear hs
 go_enter Try.func4, Try.ntmps4
 go_wp2_with ((with_reducible refine zak (N := 1) rfl ?_); refine zaj ?hg (N := 1) ?hd (cs := #[.int .i64 a0_0, .slice A0_1 l0_1.length c0_1, .slice A0_2 l0_2.length c0_2, .slice A0_3 l0_3.length c0_3]) (t := 25) ?hr ?_; (case hd => rfl); (case hg => rfl); (case hr => first | (go_simp; done) | (go_simp; rfl)); intro g1 hg_ w1 hbox_ hb_; have H1 := Aside0.mk (((Fr.start w)).box_new hbox_ hb_ hg_); clear hbox_ hb_ hg_; have xg1_0 : w1.cell? ⟨g1, 0, none⟩ = some (.int .i64 a0_0) := (H1.out).zab (i := 0) rfl 0 rfl; have fg1_0 := za1 ((H1.out).zao (i := 0) rfl) 0; have xg1_1 : w1.cell? ⟨g1, 1, none⟩ = some (.slice A0_1 l0_1.length c0_1) := (H1.out).zab (i := 0) rfl 1 rfl; have fg1_1 := za1 ((H1.out).zao (i := 0) rfl) 1; have xg1_2 : w1.cell? ⟨g1, 2, none⟩ = some (.slice A0_2 l0_2.length c0_2) := (H1.out).zab (i := 0) rfl 2 rfl; have fg1_2 := za1 ((H1.out).zao (i := 0) rfl) 2; have xg1_3 : w1.cell? ⟨g1, 3, none⟩ = some (.slice A0_3 l0_3.length c0_3) := (H1.out).zab (i := 0) rfl 3 rfl; have fg1_3 := za1 ((H1.out).zao (i := 0) rfl) 3)
 have T_ := Aside0.mk trivial
 go_wp2_with (go_at_call 16; clear T_; refine (laws_szRegCode.calls a0_0 A0_1 c0_1 l0_1 A0_2 c0_2 l0_2 A0_3 c0_3 l0_3 1048576 (-1) _ (Kd.zam HC1.out (H1.out).bel) HN.out.1 (Kd.zam HC2.out (H1.out).bel) HN.out.2.1 (Kd.zam HC3.out (H1.out).bel) HN.out.2.2 HS.out).mono ?_; rintro e w2 ⟨rfl, hb_⟩; have H2 := Aside0.mk ((H1.out).below hb_); clear hb_; clear xg1_0 fg1_0 xg1_1 fg1_1 xg1_2 fg1_2 xg1_3 fg1_3)
 go_ret
 exact ⟨rfl, H2.out.bel⟩
set_option maxHeartbeats 16000000 in
set_option maxRecDepth 100000 in
theorem laws_FnExactRegCodePlan.small (a0_0 : Int) (A0_1 : Option Addr) (c0_1 : Nat) (l0_1 : List Int) (A0_2 : Option Addr) (c0_2 : Nat) (l0_2 : List S126) (A0_3 : Option Addr) (c0_3 : Nat) (l0_3 : List Int) (w : World) (hr0_1 : Kd.C (Kd.int .i64) w A0_1 l0_1.length l0_1) (hc0_1 : l0_1.length ≤ c0_1) (hr0_2 : Kd.C k126 w A0_2 l0_2.length l0_2) (hc0_2 : l0_2.length ≤ c0_2) (hr0_3 : Kd.C (Kd.int .i64) w A0_3 l0_3.length l0_3) (hc0_3 : l0_3.length ≤ c0_3) (s1 k1 mm r1 : Int) (m1 : List Int) (m2 : List S80) (m3 : List Int) (n1 : List Int) (n2 : List S80) (n3 : List Int) (r2 s2 : List S117) (r3 s3 : List Int) (b : Bool) (k : Nat) (hs0 : 0 ≤ s1) (hk0 : 0 ≤ k1) (hm0 : 0 ≤ mm) (hs : laws_szRegCode.f a0_0 l0_1 l0_2 l0_3 1048576 = some s1) (ht : laws_toRegCode.f k a0_0 l0_1 l0_2 l0_3 = some (a0_0, m1, m2, m3)) (hsp : spec_RegCodePlan.f k a0_0 m1 m2 m3 = some (r1, r2, r3, b)) (him : impl_RegCodePlan.f k a0_0 m1 m2 m3 = some (r1, r2, r3, b)) (heqp : laws_eqPlan.f k r1 r2 r3 r1 r2 r3 = some true) (heqa : laws_eqRegCode.f k a0_0 m1 m2 m3 a0_0 m1 m2 m3 = some true) (hmka : laws_markRegCode.f k a0_0 m1 m2 m3 1 = some (k1, n1, n2, n3)) (hmkp : laws_markPlan.f k r1 r2 r3 1 = some (mm, s2, s3)) (hhd : laws_heldPlan.f k r1 s2 s3 1 = some mm) :
  Calls Try.prog 4 #[.agg #[.int .i64 a0_0, .slice A0_1 l0_1.length c0_1, .slice A0_2 l0_2.length c0_2, .slice A0_3 l0_3.length c0_3]] w fun e w' => e = .returned (.bool true) ∧ Below w.heap.size w w' := by
 have hu25 := Try.underlying25
 have hu30 := Try.underlying30
 have hu36 := Try.underlying36
 have HC1 := Aside0.mk hr0_1
 have HC2 := Aside0.mk hr0_2
 have HC3 := Aside0.mk hr0_3
 have HN := Aside0.mk (And.intro hc0_1 (And.intro hc0_2 hc0_3))
 clear hr0_1 hr0_2 hr0_3 hc0_1 hc0_2 hc0_3
 have HS := Aside0.mk hs
 have X := Aside0.mk (And.intro ht (And.intro hsp (And.intro him (And.intro heqp (And.intro heqa (And.intro hmka (And.intro hmkp (hhd))))))))
 have hs1_ : decide (s1 < 0) = false := decide_eq_false (by omega)
 have hk1_ : decide (k1 < 0) = false := decide_eq_false (by omega)
 have hmm_ : decide (mm < 0) = false := decide_eq_false (by omega)
 clear hs ht hsp him heqp heqa hmka hmkp hhd hs0 hk0 hm0
 go_enter Try.func4, Try.ntmps4
 go_wp2_with ((with_reducible refine zak (N := 1) rfl ?_); refine zaj ?hg (N := 1) ?hd (cs := #[.int .i64 a0_0, .slice A0_1 l0_1.length c0_1, .slice A0_2 l0_2.length c0_2, .slice A0_3 l0_3.length c0_3]) (t := 25) ?hr ?_; (case hd => rfl); (case hg => rfl); (case hr => first | (go_simp; done) | (go_simp; rfl)); intro g1 hg_ w1 hbox_ hb_; have H1 := Aside0.mk (((Fr.start w)).box_new hbox_ hb_ hg_); clear hbox_ hb_ hg_; have xg1_0 : w1.cell? ⟨g1, 0, none⟩ = some (.int .i64 a0_0) := (H1.out).zab (i := 0) rfl 0 rfl; have fg1_0 := za1 ((H1.out).zao (i := 0) rfl) 0; have xg1_1 : w1.cell? ⟨g1, 1, none⟩ = some (.slice A0_1 l0_1.length c0_1) := (H1.out).zab (i := 0) rfl 1 rfl; have fg1_1 := za1 ((H1.out).zao (i := 0) rfl) 1; have xg1_2 : w1.cell? ⟨g1, 2, none⟩ = some (.slice A0_2 l0_2.length c0_2) := (H1.out).zab (i := 0) rfl 2 rfl; have fg1_2 := za1 ((H1.out).zao (i := 0) rfl) 2; have xg1_3 : w1.cell? ⟨g1, 3, none⟩ = some (.slice A0_3 l0_3.length c0_3) := (H1.out).zab (i := 0) rfl 3 rfl; have fg1_3 := za1 ((H1.out).zao (i := 0) rfl) 3)
 have T_ := Aside0.mk trivial
 go_wp2_with (go_at_call 16; clear T_; refine (laws_szRegCode.calls a0_0 A0_1 c0_1 l0_1 A0_2 c0_2 l0_2 A0_3 c0_3 l0_3 1048576 s1 _ (Kd.zam HC1.out (H1.out).bel) HN.out.1 (Kd.zam HC2.out (H1.out).bel) HN.out.2.1 (Kd.zam HC3.out (H1.out).bel) HN.out.2.2 HS.out).mono ?_; rintro e w2 ⟨rfl, hb_⟩; have H2 := Aside0.mk ((H1.out).below hb_); clear hb_; clear xg1_0 fg1_0 xg1_1 fg1_1 xg1_2 fg1_2 xg1_3 fg1_3; have xg1_0 : w2.cell? ⟨g1, 0, none⟩ = some (.int .i64 a0_0) := (H2.out).zab (i := 0) rfl 0 rfl; have fg1_0 := za1 ((H2.out).zao (i := 0) rfl) 0; have xg1_1 : w2.cell? ⟨g1, 1, none⟩ = some (.slice A0_1 l0_1.length c0_1) := (H2.out).zab (i := 0) rfl 1 rfl; have fg1_1 := za1 ((H2.out).zao (i := 0) rfl) 1; have xg1_2 : w2.cell? ⟨g1, 2, none⟩ = some (.slice A0_2 l0_2.length c0_2) := (H2.out).zab (i := 0) rfl 2 rfl; have fg1_2 := za1 ((H2.out).zao (i := 0) rfl) 2; have xg1_3 : w2.cell? ⟨g1, 3, none⟩ = some (.slice A0_3 l0_3.length c0_3) := (H2.out).zab (i := 0) rfl 3 rfl; have fg1_3 := za1 ((H2.out).zao (i := 0) rfl) 3)
 have T_ := Aside0.mk trivial
 have T_ := Aside0.mk trivial
 go_wp2_with (first | (go_at_call 18; clear T_; refine (laws_toRegCode.calls k a0_0 A0_1 c0_1 l0_1 A0_2 c0_2 l0_2 A0_3 c0_3 l0_3 a0_0 m1 m2 m3 _ (Kd.zam HC1.out (H2.out).bel) HN.out.1 (Kd.zam HC2.out (H2.out).bel) HN.out.2.1 (Kd.zam HC3.out (H2.out).bel) HN.out.2.2 X.out.1).mono ?_; rintro e w3 ⟨v1_, v2_, v3_, rfl, hr1_, hr2_, hr3_, hb_⟩; have H3 := Aside0.mk (Fr.trip_new rfl rfl (H2.out) hr1_ hr2_ hr3_ hb_); obtain ⟨Aa1, ca1, rfl⟩ := Kd.zay hr1_; obtain ⟨Aa2, ca2, rfl⟩ := Kd.zay hr2_; obtain ⟨Aa3, ca3, rfl⟩ := Kd.zay hr3_; clear hr1_ hr2_ hr3_ hb_) | (go_at_call 21; clear T_; refine (spec_RegCodePlan.calls k a0_0 Aa1 ca1 m1 Aa2 ca2 m2 Aa3 ca3 m3 r1 r2 r3 b _ ((H3.out).trip_C (i := 0) rfl).1.1 ((H3.out).trip_C (i := 0) rfl).1.2.2 ((H3.out).trip_C (i := 0) rfl).2.1.1 ((H3.out).trip_C (i := 0) rfl).2.1.2.2 ((H3.out).trip_C (i := 0) rfl).2.2.1 ((H3.out).trip_C (i := 0) rfl).2.2.2.2 X.out.2.1).mono ?_; rintro e w4 ⟨v1_, v2_, rfl, hr1_, hr2_, hb_⟩; have H4 := Aside0.mk (Fr.pair_new (H3.out) hr1_ hr2_ hb_); obtain ⟨Aw1, cw1, rfl⟩ := Kd.zay hr1_; obtain ⟨Aw2, cw2, rfl⟩ := Kd.zay hr2_; clear hr1_ hr2_ hb_) | ((with_reducible refine zak (N := 4) rfl ?_); refine zaj ?hg (N := 4) ?hd (cs := #[.int .i64 0, .slice none 0 0, .slice none 0 0]) (t := 36) ?hr ?_; (case hd => rfl); (case hg => rfl); (case hr => first | (go_simp; done) | (go_simp; rfl)); intro g4 hg_ w5 hbox_ hb_; have H5 := Aside0.mk ((H4.out).box_new hbox_ hb_ hg_); clear hbox_ hb_ hg_; clear xg1_0 fg1_0 xg1_1 fg1_1 xg1_2 fg1_2 xg1_3 fg1_3; have xg4_0 : w5.cell? ⟨g4, 0, none⟩ = some (.int .i64 0) := (H5.out).zab (i := 0) rfl 0 rfl; have fg4_0 := za1 ((H5.out).zao (i := 0) rfl) 0; have xg4_1 : w5.cell? ⟨g4, 1, none⟩ = some (.slice none 0 0) := (H5.out).zab (i := 0) rfl 1 rfl; have fg4_1 := za1 ((H5.out).zao (i := 0) rfl) 1; have xg4_2 : w5.cell? ⟨g4, 2, none⟩ = some (.slice none 0 0) := (H5.out).zab (i := 0) rfl 2 rfl; have fg4_2 := za1 ((H5.out).zao (i := 0) rfl) 2; have xg1_0 : w5.cell? ⟨g1, 0, none⟩ = some (.int .i64 a0_0) := (H5.out).zab (i := 3) rfl 0 rfl; have fg1_0 := za1 ((H5.out).zao (i := 3) rfl) 0; have xg1_1 : w5.cell? ⟨g1, 1, none⟩ = some (.slice A0_1 l0_1.length c0_1) := (H5.out).zab (i := 3) rfl 1 rfl; have fg1_1 := za1 ((H5.out).zao (i := 3) rfl) 1; have xg1_2 : w5.cell? ⟨g1, 2, none⟩ = some (.slice A0_2 l0_2.length c0_2) := (H5.out).zab (i := 3) rfl 2 rfl; have fg1_2 := za1 ((H5.out).zao (i := 3) rfl) 2; have xg1_3 : w5.cell? ⟨g1, 3, none⟩ = some (.slice A0_3 l0_3.length c0_3) := (H5.out).zab (i := 3) rfl 3 rfl; have fg1_3 := za1 ((H5.out).zao (i := 3) rfl) 3; have ng4_g1 := Fr.box_ne (H5.out) (i := 0) (j := 3) (by decide) rfl rfl; have ng1_g4 := ng4_g1.symm))
 have h_ := (((H5.out).zb3 (i := 0) rfl 0 (.int .i64 r1) rfl).zb3 (i := 0) rfl 1 (.slice Aw1 r2.length cw1) rfl).zb3 (i := 0) rfl 2 (.slice Aw2 r3.length cw2) rfl
 simp only [List.set_cons_zero, List.set_cons_succ] at h_
 generalize (((w5).setCell ⟨g4, 0, none⟩ (.int .i64 r1)).setCell ⟨g4, 1, none⟩ (.slice Aw1 r2.length cw1)).setCell ⟨g4, 2, none⟩ (.slice Aw2 r3.length cw2) = w6 at h_ ⊢
 have H6 := Aside0.mk (show Fr w w (fun _ => False) [box g4 36 #[.int .i64 r1, .slice Aw1 r2.length cw1, .slice Aw2 r3.length cw2], pair2 k117 117 (.slice Aw1 r2.length cw1) r2 (Kd.int .i64) 3 (.slice Aw2 r3.length cw2) r3, trip3 (Kd.int .i64) 3 (.slice Aa1 m1.length ca1) m1 k80 80 (.slice Aa2 m2.length ca2) m2 (Kd.int .i64) 3 (.slice Aa3 m3.length ca3) m3, box g1 25 #[.int .i64 a0_0, .slice A0_1 l0_1.length c0_1, .slice A0_2 l0_2.length c0_2, .slice A0_3 l0_3.length c0_3]] w6 from h_)
 clear h_
 clear xg4_0 fg4_0 xg4_1 fg4_1 xg4_2 fg4_2 xg1_0 fg1_0 xg1_1 fg1_1 xg1_2 fg1_2 xg1_3 fg1_3 ng4_g1 ng1_g4
 have xg1_0 : w6.cell? ⟨g1, 0, none⟩ = some (.int .i64 a0_0) := (H6.out).zab (i := 3) rfl 0 rfl
 have fg1_0 := za1 ((H6.out).zao (i := 3) rfl) 0
 have xg1_1 : w6.cell? ⟨g1, 1, none⟩ = some (.slice A0_1 l0_1.length c0_1) := (H6.out).zab (i := 3) rfl 1 rfl
 have fg1_1 := za1 ((H6.out).zao (i := 3) rfl) 1
 have xg1_2 : w6.cell? ⟨g1, 2, none⟩ = some (.slice A0_2 l0_2.length c0_2) := (H6.out).zab (i := 3) rfl 2 rfl
 have fg1_2 := za1 ((H6.out).zao (i := 3) rfl) 2
 have xg1_3 : w6.cell? ⟨g1, 3, none⟩ = some (.slice A0_3 l0_3.length c0_3) := (H6.out).zab (i := 3) rfl 3 rfl
 have fg1_3 := za1 ((H6.out).zao (i := 3) rfl) 3
 have T_ := Aside0.mk trivial
 go_wp2_with (first | (go_at_call 18; clear T_; refine (laws_toRegCode.calls k a0_0 A0_1 c0_1 l0_1 A0_2 c0_2 l0_2 A0_3 c0_3 l0_3 a0_0 m1 m2 m3 _ (Kd.zam HC1.out (H6.out).bel) HN.out.1 (Kd.zam HC2.out (H6.out).bel) HN.out.2.1 (Kd.zam HC3.out (H6.out).bel) HN.out.2.2 X.out.1).mono ?_; rintro e w7 ⟨v1_, v2_, v3_, rfl, hr1_, hr2_, hr3_, hb_⟩; have H7 := Aside0.mk (Fr.trip_new rfl rfl (H6.out) hr1_ hr2_ hr3_ hb_); obtain ⟨Ax1, cx1, rfl⟩ := Kd.zay hr1_; obtain ⟨Ax2, cx2, rfl⟩ := Kd.zay hr2_; obtain ⟨Ax3, cx3, rfl⟩ := Kd.zay hr3_; clear hr1_ hr2_ hr3_ hb_) | ((with_reducible refine zak (N := 6) rfl ?_); refine zaj ?hg (N := 6) ?hd (cs := #[.int .i64 0, .slice none 0 0, .slice none 0 0, .slice none 0 0]) (t := 30) ?hr ?_; (case hd => rfl); (case hg => rfl); (case hr => first | (go_simp; done) | (go_simp; rfl)); intro g6 hg_ w8 hbox_ hb_; have H8 := Aside0.mk ((H7.out).box_new hbox_ hb_ hg_); clear hbox_ hb_ hg_; clear xg1_0 fg1_0 xg1_1 fg1_1 xg1_2 fg1_2 xg1_3 fg1_3; have xg6_0 : w8.cell? ⟨g6, 0, none⟩ = some (.int .i64 0) := (H8.out).zab (i := 0) rfl 0 rfl; have fg6_0 := za1 ((H8.out).zao (i := 0) rfl) 0; have xg6_1 : w8.cell? ⟨g6, 1, none⟩ = some (.slice none 0 0) := (H8.out).zab (i := 0) rfl 1 rfl; have fg6_1 := za1 ((H8.out).zao (i := 0) rfl) 1; have xg6_2 : w8.cell? ⟨g6, 2, none⟩ = some (.slice none 0 0) := (H8.out).zab (i := 0) rfl 2 rfl; have fg6_2 := za1 ((H8.out).zao (i := 0) rfl) 2; have xg6_3 : w8.cell? ⟨g6, 3, none⟩ = some (.slice none 0 0) := (H8.out).zab (i := 0) rfl 3 rfl; have fg6_3 := za1 ((H8.out).zao (i := 0) rfl) 3))
 have h_ := ((((H8.out).zb3 (i := 0) rfl 0 (.int .i64 a0_0) rfl).zb3 (i := 0) rfl 1 (.slice Ax1 m1.length cx1) rfl).zb3 (i := 0) rfl 2 (.slice Ax2 m2.length cx2) rfl).zb3 (i := 0) rfl 3 (.slice Ax3 m3.length cx3) rfl
 simp only [List.set_cons_zero, List.set_cons_succ] at h_
 generalize ((((w8).setCell ⟨g6, 0, none⟩ (.int .i64 a0_0)).setCell ⟨g6, 1, none⟩ (.slice Ax1 m1.length cx1)).setCell ⟨g6, 2, none⟩ (.slice Ax2 m2.length cx2)).setCell ⟨g6, 3, none⟩ (.slice Ax3 m3.length cx3) = w9 at h_ ⊢
 have H9 := Aside0.mk (show Fr w w (fun _ => False) [box g6 30 #[.int .i64 a0_0, .slice Ax1 m1.length cx1, .slice Ax2 m2.length cx2, .slice Ax3 m3.length cx3], trip3 (Kd.int .i64) 3 (.slice Ax1 m1.length cx1) m1 k80 80 (.slice Ax2 m2.length cx2) m2 (Kd.int .i64) 3 (.slice Ax3 m3.length cx3) m3, box g4 36 #[.int .i64 r1, .slice Aw1 r2.length cw1, .slice Aw2 r3.length cw2], pair2 k117 117 (.slice Aw1 r2.length cw1) r2 (Kd.int .i64) 3 (.slice Aw2 r3.length cw2) r3, trip3 (Kd.int .i64) 3 (.slice Aa1 m1.length ca1) m1 k80 80 (.slice Aa2 m2.length ca2) m2 (Kd.int .i64) 3 (.slice Aa3 m3.length ca3) m3, box g1 25 #[.int .i64 a0_0, .slice A0_1 l0_1.length c0_1, .slice A0_2 l0_2.length c0_2, .slice A0_3 l0_3.length c0_3]] w9 from h_)
 clear h_
 clear xg6_0 fg6_0 xg6_1 fg6_1 xg6_2 fg6_2 xg6_3 fg6_3
 have xg6_0 : w9.cell? ⟨g6, 0, none⟩ = some (.int .i64 a0_0) := (H9.out).zab (i := 0) rfl 0 rfl
 have fg6_0 := za1 ((H9.out).zao (i := 0) rfl) 0
 have xg6_1 : w9.cell? ⟨g6, 1, none⟩ = some (.slice Ax1 m1.length cx1) := (H9.out).zab (i := 0) rfl 1 rfl
 have fg6_1 := za1 ((H9.out).zao (i := 0) rfl) 1
 have xg6_2 : w9.cell? ⟨g6, 2, none⟩ = some (.slice Ax2 m2.length cx2) := (H9.out).zab (i := 0) rfl 2 rfl
 have fg6_2 := za1 ((H9.out).zao (i := 0) rfl) 2
 have xg6_3 : w9.cell? ⟨g6, 3, none⟩ = some (.slice Ax3 m3.length cx3) := (H9.out).zab (i := 0) rfl 3 rfl
 have fg6_3 := za1 ((H9.out).zao (i := 0) rfl) 3
 have T_ := Aside0.mk trivial
 go_wp2_with (first | (go_at_call 22; clear T_; refine (impl_RegCodePlan.calls k a0_0 Ax1 cx1 m1 Ax2 cx2 m2 Ax3 cx3 m3 r1 r2 r3 b _ ((H9.out).trip_C (i := 1) rfl).1.1 ((H9.out).trip_C (i := 1) rfl).1.2.2 ((H9.out).trip_C (i := 1) rfl).2.1.1 ((H9.out).trip_C (i := 1) rfl).2.1.2.2 ((H9.out).trip_C (i := 1) rfl).2.2.1 ((H9.out).trip_C (i := 1) rfl).2.2.2.2 X.out.2.2.1).mono ?_; rintro e w10 ⟨v1_, v2_, rfl, hr1_, hr2_, hb_⟩; have H10 := Aside0.mk (Fr.pair_new (H9.out) hr1_ hr2_ hb_); obtain ⟨Ag1, cg1, rfl⟩ := Kd.zay hr1_; obtain ⟨Ag2, cg2, rfl⟩ := Kd.zay hr2_; clear hr1_ hr2_ hb_) | ((with_reducible refine zak (N := 7) rfl ?_); refine zaj ?hg (N := 7) ?hd (cs := #[.int .i64 0, .slice none 0 0, .slice none 0 0]) (t := 36) ?hr ?_; (case hd => rfl); (case hg => rfl); (case hr => first | (go_simp; done) | (go_simp; rfl)); intro g7 hg_ w11 hbox_ hb_; have H11 := Aside0.mk ((H10.out).box_new hbox_ hb_ hg_); clear hbox_ hb_ hg_; clear xg6_0 fg6_0 xg6_1 fg6_1 xg6_2 fg6_2 xg6_3 fg6_3; have xg7_0 : w11.cell? ⟨g7, 0, none⟩ = some (.int .i64 0) := (H11.out).zab (i := 0) rfl 0 rfl; have fg7_0 := za1 ((H11.out).zao (i := 0) rfl) 0; have xg7_1 : w11.cell? ⟨g7, 1, none⟩ = some (.slice none 0 0) := (H11.out).zab (i := 0) rfl 1 rfl; have fg7_1 := za1 ((H11.out).zao (i := 0) rfl) 1; have xg7_2 : w11.cell? ⟨g7, 2, none⟩ = some (.slice none 0 0) := (H11.out).zab (i := 0) rfl 2 rfl; have fg7_2 := za1 ((H11.out).zao (i := 0) rfl) 2; have xg4_0 : w11.cell? ⟨g4, 0, none⟩ = some (.int .i64 r1) := (H11.out).zab (i := 4) rfl 0 rfl; have fg4_0 := za1 ((H11.out).zao (i := 4) rfl) 0; have xg4_1 : w11.cell? ⟨g4, 1, none⟩ = some (.slice Aw1 r2.length cw1) := (H11.out).zab (i := 4) rfl 1 rfl; have fg4_1 := za1 ((H11.out).zao (i := 4) rfl) 1; have xg4_2 : w11.cell? ⟨g4, 2, none⟩ = some (.slice Aw2 r3.length cw2) := (H11.out).zab (i := 4) rfl 2 rfl; have fg4_2 := za1 ((H11.out).zao (i := 4) rfl) 2; have ng7_g4 := Fr.box_ne (H11.out) (i := 0) (j := 4) (by decide) rfl rfl; have ng4_g7 := ng7_g4.symm))
 have h_ := (((H11.out).zb3 (i := 0) rfl 0 (.int .i64 r1) rfl).zb3 (i := 0) rfl 1 (.slice Ag1 r2.length cg1) rfl).zb3 (i := 0) rfl 2 (.slice Ag2 r3.length cg2) rfl
 simp only [List.set_cons_zero, List.set_cons_succ] at h_
 generalize (((w11).setCell ⟨g7, 0, none⟩ (.int .i64 r1)).setCell ⟨g7, 1, none⟩ (.slice Ag1 r2.length cg1)).setCell ⟨g7, 2, none⟩ (.slice Ag2 r3.length cg2) = w12 at h_ ⊢
 have H12 := Aside0.mk (show Fr w w (fun _ => False) [box g7 36 #[.int .i64 r1, .slice Ag1 r2.length cg1, .slice Ag2 r3.length cg2], pair2 k117 117 (.slice Ag1 r2.length cg1) r2 (Kd.int .i64) 3 (.slice Ag2 r3.length cg2) r3, box g6 30 #[.int .i64 a0_0, .slice Ax1 m1.length cx1, .slice Ax2 m2.length cx2, .slice Ax3 m3.length cx3], trip3 (Kd.int .i64) 3 (.slice Ax1 m1.length cx1) m1 k80 80 (.slice Ax2 m2.length cx2) m2 (Kd.int .i64) 3 (.slice Ax3 m3.length cx3) m3, box g4 36 #[.int .i64 r1, .slice Aw1 r2.length cw1, .slice Aw2 r3.length cw2], pair2 k117 117 (.slice Aw1 r2.length cw1) r2 (Kd.int .i64) 3 (.slice Aw2 r3.length cw2) r3, trip3 (Kd.int .i64) 3 (.slice Aa1 m1.length ca1) m1 k80 80 (.slice Aa2 m2.length ca2) m2 (Kd.int .i64) 3 (.slice Aa3 m3.length ca3) m3, box g1 25 #[.int .i64 a0_0, .slice A0_1 l0_1.length c0_1, .slice A0_2 l0_2.length c0_2, .slice A0_3 l0_3.length c0_3]] w12 from h_)
 clear h_
 clear xg7_0 fg7_0 xg7_1 fg7_1 xg7_2 fg7_2 xg4_0 fg4_0 xg4_1 fg4_1 xg4_2 fg4_2 ng7_g4 ng4_g7
 have xg7_0 : w12.cell? ⟨g7, 0, none⟩ = some (.int .i64 r1) := (H12.out).zab (i := 0) rfl 0 rfl
 have fg7_0 := za1 ((H12.out).zao (i := 0) rfl) 0
 have xg7_1 : w12.cell? ⟨g7, 1, none⟩ = some (.slice Ag1 r2.length cg1) := (H12.out).zab (i := 0) rfl 1 rfl
 have fg7_1 := za1 ((H12.out).zao (i := 0) rfl) 1
 have xg7_2 : w12.cell? ⟨g7, 2, none⟩ = some (.slice Ag2 r3.length cg2) := (H12.out).zab (i := 0) rfl 2 rfl
 have fg7_2 := za1 ((H12.out).zao (i := 0) rfl) 2
 have xg4_0 : w12.cell? ⟨g4, 0, none⟩ = some (.int .i64 r1) := (H12.out).zab (i := 4) rfl 0 rfl
 have fg4_0 := za1 ((H12.out).zao (i := 4) rfl) 0
 have xg4_1 : w12.cell? ⟨g4, 1, none⟩ = some (.slice Aw1 r2.length cw1) := (H12.out).zab (i := 4) rfl 1 rfl
 have fg4_1 := za1 ((H12.out).zao (i := 4) rfl) 1
 have xg4_2 : w12.cell? ⟨g4, 2, none⟩ = some (.slice Aw2 r3.length cw2) := (H12.out).zab (i := 4) rfl 2 rfl
 have fg4_2 := za1 ((H12.out).zao (i := 4) rfl) 2
 have T_ := Aside0.mk trivial
 go_wp2_with (go_at_call 23; clear T_; refine (laws_eqPlan.calls k r1 Ag1 cg1 r2 Ag2 cg2 r3 r1 Aw1 cw1 r2 Aw2 cw2 r3 true _ ((H12.out).pair_C (i := 1) rfl).1.1 ((H12.out).pair_C (i := 1) rfl).1.2.2 ((H12.out).pair_C (i := 1) rfl).2.1 ((H12.out).pair_C (i := 1) rfl).2.2.2 ((H12.out).pair_C (i := 5) rfl).1.1 ((H12.out).pair_C (i := 5) rfl).1.2.2 ((H12.out).pair_C (i := 5) rfl).2.1 ((H12.out).pair_C (i := 5) rfl).2.2.2 X.out.2.2.2.1).mono ?_; rintro e w13 ⟨rfl, hb_⟩; have H13 := Aside0.mk ((H12.out).below hb_); clear hb_; clear xg7_0 fg7_0 xg7_1 fg7_1 xg7_2 fg7_2 xg4_0 fg4_0 xg4_1 fg4_1 xg4_2 fg4_2)
 refine start_ (n := 5) (S := fun w' => w'.cell? ⟨g6, 0, none⟩ = some (.int .i64 a0_0) ∧ w'.cell? ⟨g6, 1, none⟩ = some (.slice Ax1 m1.length cx1) ∧ w'.cell? ⟨g6, 2, none⟩ = some (.slice Ax2 m2.length cx2) ∧ w'.cell? ⟨g6, 3, none⟩ = some (.slice Ax3 m3.length cx3) ∧ w'.cell? ⟨g1, 0, none⟩ = some (.int .i64 a0_0) ∧ w'.cell? ⟨g1, 1, none⟩ = some (.slice A0_1 l0_1.length c0_1) ∧ w'.cell? ⟨g1, 2, none⟩ = some (.slice A0_2 l0_2.length c0_2) ∧ w'.cell? ⟨g1, 3, none⟩ = some (.slice A0_3 l0_3.length c0_3)) (ds := []) #[false, false, false, false, false] (by kernel_rfl) rfl rfl ⟨((H13.out).drew).zab (i := 2) rfl 0 rfl, ((H13.out).drew).zab (i := 2) rfl 1 rfl, ((H13.out).drew).zab (i := 2) rfl 2 rfl, ((H13.out).drew).zab (i := 2) rfl 3 rfl, ((H13.out).drew).zab (i := 7) rfl 0 rfl, ((H13.out).drew).zab (i := 7) rfl 1 rfl, ((H13.out).drew).zab (i := 7) rfl 2 rfl, ((H13.out).drew).zab (i := 7) rfl 3 rfl⟩ (fun hHeld => ?_)
 refine take_ (i := 0) (N := some 41) (v := ?_) (a' := ?_) #[true, false, false, false, false] rfl rfl (by kernel_rfl) (fun _ _ _ h => h) (Or.inl ⟨by rfl, ?_⟩) hHeld ?_ ?_
 rotate_left
 ·rintro w' ⟨s0, s1, s2, s3, s4, s5, s6, s7⟩
  go_simp
  with_reducible rfl
 rotate_left
 ·simp only [Act.put, List.setIfInBounds_toArray, List.set_cons_zero, List.set_cons_succ, i64_w, i32_w]
  rfl
 refine take_ (i := 1) (N := some 42) (v := ?_) (a' := ?_) #[true, true, false, false, false] rfl rfl (by kernel_rfl) (fun _ _ _ h => h) (Or.inl ⟨by rfl, ?_⟩) hHeld ?_ ?_
 rotate_left
 ·rintro w' ⟨s0, s1, s2, s3, s4, s5, s6, s7⟩
  go_simp
  with_reducible rfl
 rotate_left
 ·simp only [Act.put, List.setIfInBounds_toArray, List.set_cons_zero, List.set_cons_succ, i64_w, i32_w]
  rfl
 refine one_ (i := 2) (N := some 43) #[true, true, true, false, false] rfl rfl (by kernel_rfl) (by decide) (fun K hK => ?_)
 refine goes_ Try.func18 (by kernel_rfl) rfl #[.agg #[.int .i64 a0_0, .slice A0_1 l0_1.length c0_1, .slice A0_2 l0_2.length c0_2, .slice A0_3 l0_3.length c0_3]] (by rfl) rfl rfl (by simp only [List.map_toArray, List.map_cons, List.map_nil]; rfl) ?_
 with_reducible refine (laws_toRegCode.calls k a0_0 A0_1 c0_1 l0_1 A0_2 c0_2 l0_2 A0_3 c0_3 l0_3 a0_0 m1 m2 m3 _ (Kd.zam HC1.out ((H13.out).drew).bel) HN.out.1 (Kd.zam HC2.out ((H13.out).drew).bel) HN.out.2.1 (Kd.zam HC3.out ((H13.out).drew).bel) HN.out.2.2 X.out.1).mono ?_
 rintro e w14 ⟨v1_, v2_, v3_, rfl, hr1_, hr2_, hr3_, hb_⟩
 refine ⟨_, rfl, ?_⟩
 have H14 := Aside0.mk (Fr.trip_new rfl rfl ((H13.out).drew) hr1_ hr2_ hr3_ hb_)
 obtain ⟨Ay1, cy1, rfl⟩ := Kd.zay hr1_
 obtain ⟨Ay2, cy2, rfl⟩ := Kd.zay hr2_
 obtain ⟨Ay3, cy3, rfl⟩ := Kd.zay hr3_
 clear hr1_ hr2_ hr3_ hb_
 refine hK.out _ _ ⟨(H14.out).zab (i := 3) rfl 0 rfl, (H14.out).zab (i := 3) rfl 1 rfl, (H14.out).zab (i := 3) rfl 2 rfl, (H14.out).zab (i := 3) rfl 3 rfl, (H14.out).zab (i := 8) rfl 0 rfl, (H14.out).zab (i := 8) rfl 1 rfl, (H14.out).zab (i := 8) rfl 2 rfl, (H14.out).zab (i := 8) rfl 3 rfl⟩ (fun hHeld => ?_)
 clear hK K
 refine norm_ (a' := ?_) ?_ ?_
 rotate_left
 ·show Act.put _ (some 43) _ = _
  simp only [Act.put, List.setIfInBounds_toArray, List.set_cons_zero, List.set_cons_succ, i64_w, i32_w]
  rfl
 refine one_ (i := 3) (N := some 44) #[true, true, true, true, false] rfl rfl (by kernel_rfl) (by decide) (fun K hK => ?_)
 refine goes_ Try.func20 (by kernel_rfl) rfl #[.agg #[.int .i64 a0_0, .slice Ax1 m1.length cx1, .slice Ax2 m2.length cx2, .slice Ax3 m3.length cx3], .agg #[.int .i64 a0_0, .slice Ay1 m1.length cy1, .slice Ay2 m2.length cy2, .slice Ay3 m3.length cy3]] (by rfl) rfl rfl (by simp only [List.map_toArray, List.map_cons, List.map_nil]; rfl) ?_
 with_reducible refine (laws_eqRegCode.calls k a0_0 Ax1 cx1 m1 Ax2 cx2 m2 Ax3 cx3 m3 a0_0 Ay1 cy1 m1 Ay2 cy2 m2 Ay3 cy3 m3 true _ ((H14.out).trip_C (i := 4) rfl).1.1 ((H14.out).trip_C (i := 4) rfl).1.2.2 ((H14.out).trip_C (i := 4) rfl).2.1.1 ((H14.out).trip_C (i := 4) rfl).2.1.2.2 ((H14.out).trip_C (i := 4) rfl).2.2.1 ((H14.out).trip_C (i := 4) rfl).2.2.2.2 ((H14.out).trip_C (i := 0) rfl).1.1 ((H14.out).trip_C (i := 0) rfl).1.2.2 ((H14.out).trip_C (i := 0) rfl).2.1.1 ((H14.out).trip_C (i := 0) rfl).2.1.2.2 ((H14.out).trip_C (i := 0) rfl).2.2.1 ((H14.out).trip_C (i := 0) rfl).2.2.2.2 X.out.2.2.2.2.1).mono ?_
 rintro e w15 ⟨rfl, hb_⟩
 refine ⟨_, rfl, ?_⟩
 have H15 := Aside0.mk ((H14.out).below hb_)
 clear hb_
 refine hK.out _ _ ⟨(H15.out).zab (i := 3) rfl 0 rfl, (H15.out).zab (i := 3) rfl 1 rfl, (H15.out).zab (i := 3) rfl 2 rfl, (H15.out).zab (i := 3) rfl 3 rfl, (H15.out).zab (i := 8) rfl 0 rfl, (H15.out).zab (i := 8) rfl 1 rfl, (H15.out).zab (i := 8) rfl 2 rfl, (H15.out).zab (i := 8) rfl 3 rfl⟩ (fun hHeld => ?_)
 clear hK K
 refine norm_ (a' := ?_) ?_ ?_
 rotate_left
 ·show Act.put _ (some 44) _ = _
  simp only [Act.put, List.setIfInBounds_toArray, List.set_cons_zero, List.set_cons_succ, i64_w, i32_w]
  rfl
 refine pure_ (i := 4) (N := some 45) (v := ?_) (a' := ?_) #[true, true, true, true, true] rfl rfl (by kernel_rfl) (fun _ _ _ h => h) (Or.inl ⟨by rfl, ?_⟩) ?_ ?_
 rotate_left
 ·intro w'
  go_simp
  with_reducible rfl
 rotate_left
 ·simp only [Act.put, List.setIfInBounds_toArray, List.set_cons_zero, List.set_cons_succ, i64_w, i32_w]
  rfl
 refine done_ (by kernel_rfl) ?_
 clear hHeld
 have H16 := Aside0.mk (show Fr w w (fun _ => False) [box g7 36 #[.int .i64 r1, .slice Ag1 r2.length cg1, .slice Ag2 r3.length cg2], pair2 k117 117 (.slice Ag1 r2.length cg1) r2 (Kd.int .i64) 3 (.slice Ag2 r3.length cg2) r3, box g6 30 #[.int .i64 a0_0, .slice Ax1 m1.length cx1, .slice Ax2 m2.length cx2, .slice Ax3 m3.length cx3], trip3 (Kd.int .i64) 3 (.slice Ax1 m1.length cx1) m1 k80 80 (.slice Ax2 m2.length cx2) m2 (Kd.int .i64) 3 (.slice Ax3 m3.length cx3) m3, box g4 36 #[.int .i64 r1, .slice Aw1 r2.length cw1, .slice Aw2 r3.length cw2], pair2 k117 117 (.slice Aw1 r2.length cw1) r2 (Kd.int .i64) 3 (.slice Aw2 r3.length cw2) r3, box g1 25 #[.int .i64 a0_0, .slice A0_1 l0_1.length c0_1, .slice A0_2 l0_2.length c0_2, .slice A0_3 l0_3.length c0_3]] w15 from Fr.pick (H15.out) [1, 2, 3, 4, 5, 6, 8] (by decide) (by simp))
 have xg6_0 : w15.cell? ⟨g6, 0, none⟩ = some (.int .i64 a0_0) := (H16.out).zab (i := 2) rfl 0 rfl
 have fg6_0 := za1 ((H16.out).zao (i := 2) rfl) 0
 have xg6_1 : w15.cell? ⟨g6, 1, none⟩ = some (.slice Ax1 m1.length cx1) := (H16.out).zab (i := 2) rfl 1 rfl
 have fg6_1 := za1 ((H16.out).zao (i := 2) rfl) 1
 have xg6_2 : w15.cell? ⟨g6, 2, none⟩ = some (.slice Ax2 m2.length cx2) := (H16.out).zab (i := 2) rfl 2 rfl
 have fg6_2 := za1 ((H16.out).zao (i := 2) rfl) 2
 have xg6_3 : w15.cell? ⟨g6, 3, none⟩ = some (.slice Ax3 m3.length cx3) := (H16.out).zab (i := 2) rfl 3 rfl
 have fg6_3 := za1 ((H16.out).zao (i := 2) rfl) 3
 go_wp2_with fail
 obtain ⟨F1_, F_, F2_, f1_, fa_, f2_, f3_, fb_, fw_⟩ := (H16.out).trip_write rfl rfl (i := 3) rfl (xs2 := n1) (ys2 := n2) (zs2 := n3)
 have T_ := Aside0.mk trivial
 go_wp2_with (go_at_call 24; clear T_; refine (laws_markRegCode.calls k a0_0 F1_ (.slice Ax1 m1.length cx1) m1 F_ (.slice Ax2 m2.length cx2) m2 F2_ (.slice Ax3 m3.length cx3) m3 1 k1 n1 n2 n3 w _ H16.out.bel f1_ fa_ f2_ f3_ fb_ X.out.2.2.2.2.2.1).mono ?_; rintro e w17 ⟨rfl, hr1_, hr2_, hr3_, hb_, hk_⟩; have H17 := Aside0.mk (fw_ w17 hr1_ hr2_ hr3_ hb_ hk_); simp only [List.set_cons_zero, List.set_cons_succ] at H17; clear hr1_ hr2_ hr3_ hb_ hk_ f1_ fa_ f2_ f3_ fb_ fw_; clear xg6_0 fg6_0 xg6_1 fg6_1 xg6_2 fg6_2 xg6_3 fg6_3; have xg7_0 : w17.cell? ⟨g7, 0, none⟩ = some (.int .i64 r1) := (H17.out).zab (i := 0) rfl 0 rfl; have fg7_0 := za1 ((H17.out).zao (i := 0) rfl) 0; have xg7_1 : w17.cell? ⟨g7, 1, none⟩ = some (.slice Ag1 r2.length cg1) := (H17.out).zab (i := 0) rfl 1 rfl; have fg7_1 := za1 ((H17.out).zao (i := 0) rfl) 1; have xg7_2 : w17.cell? ⟨g7, 2, none⟩ = some (.slice Ag2 r3.length cg2) := (H17.out).zab (i := 0) rfl 2 rfl; have fg7_2 := za1 ((H17.out).zao (i := 0) rfl) 2; have xg4_0 : w17.cell? ⟨g4, 0, none⟩ = some (.int .i64 r1) := (H17.out).zab (i := 4) rfl 0 rfl; have fg4_0 := za1 ((H17.out).zao (i := 4) rfl) 0; have xg4_1 : w17.cell? ⟨g4, 1, none⟩ = some (.slice Aw1 r2.length cw1) := (H17.out).zab (i := 4) rfl 1 rfl; have fg4_1 := za1 ((H17.out).zao (i := 4) rfl) 1; have xg4_2 : w17.cell? ⟨g4, 2, none⟩ = some (.slice Aw2 r3.length cw2) := (H17.out).zab (i := 4) rfl 2 rfl; have fg4_2 := za1 ((H17.out).zao (i := 4) rfl) 2)
 have T_ := Aside0.mk trivial
 go_wp2_with (go_at_call 23; clear T_; refine (laws_eqPlan.calls k r1 Ag1 cg1 r2 Ag2 cg2 r3 r1 Aw1 cw1 r2 Aw2 cw2 r3 true _ ((H17.out).pair_C (i := 1) rfl).1.1 ((H17.out).pair_C (i := 1) rfl).1.2.2 ((H17.out).pair_C (i := 1) rfl).2.1 ((H17.out).pair_C (i := 1) rfl).2.2.2 ((H17.out).pair_C (i := 5) rfl).1.1 ((H17.out).pair_C (i := 5) rfl).1.2.2 ((H17.out).pair_C (i := 5) rfl).2.1 ((H17.out).pair_C (i := 5) rfl).2.2.2 X.out.2.2.2.1).mono ?_; rintro e w18 ⟨rfl, hb_⟩; have H18 := Aside0.mk ((H17.out).below hb_); clear hb_; clear xg7_0 fg7_0 xg7_1 fg7_1 xg7_2 fg7_2 xg4_0 fg4_0 xg4_1 fg4_1 xg4_2 fg4_2; have xg7_0 : w18.cell? ⟨g7, 0, none⟩ = some (.int .i64 r1) := (H18.out).zab (i := 0) rfl 0 rfl; have fg7_0 := za1 ((H18.out).zao (i := 0) rfl) 0; have xg7_1 : w18.cell? ⟨g7, 1, none⟩ = some (.slice Ag1 r2.length cg1) := (H18.out).zab (i := 0) rfl 1 rfl; have fg7_1 := za1 ((H18.out).zao (i := 0) rfl) 1; have xg7_2 : w18.cell? ⟨g7, 2, none⟩ = some (.slice Ag2 r3.length cg2) := (H18.out).zab (i := 0) rfl 2 rfl; have fg7_2 := za1 ((H18.out).zao (i := 0) rfl) 2)
 obtain ⟨F_, f1_, f2_, fw_⟩ := (H18.out).pair_write (i := 1) rfl (xs2 := s2) (ys2 := s3)
 have T_ := Aside0.mk trivial
 go_wp2_with (go_at_call 25; clear T_; refine (laws_markPlan.calls k r1 F_ (.slice Ag1 r2.length cg1) r2 F_ (.slice Ag2 r3.length cg2) r3 1 mm s2 s3 w _ H18.out.bel f1_ f2_ X.out.2.2.2.2.2.2.1).mono ?_; rintro e w19 ⟨rfl, hr1_, hr2_, hb_, hk_⟩; have H19 := Aside0.mk (fw_ w19 hr1_ hr2_ hb_ hk_); simp only [List.set_cons_zero, List.set_cons_succ] at H19; clear hr1_ hr2_ hb_ hk_ f1_ f2_ fw_; clear xg7_0 fg7_0 xg7_1 fg7_1 xg7_2 fg7_2; have xg7_0 : w19.cell? ⟨g7, 0, none⟩ = some (.int .i64 r1) := (H19.out).zab (i := 0) rfl 0 rfl; have fg7_0 := za1 ((H19.out).zao (i := 0) rfl) 0; have xg7_1 : w19.cell? ⟨g7, 1, none⟩ = some (.slice Ag1 r2.length cg1) := (H19.out).zab (i := 0) rfl 1 rfl; have fg7_1 := za1 ((H19.out).zao (i := 0) rfl) 1; have xg7_2 : w19.cell? ⟨g7, 2, none⟩ = some (.slice Ag2 r3.length cg2) := (H19.out).zab (i := 0) rfl 2 rfl; have fg7_2 := za1 ((H19.out).zao (i := 0) rfl) 2)
 have HH := Aside0.mk (laws_heldPlan.calls k r1 Ag1 cg1 s2 Ag2 cg2 s3 1 mm _ ((H19.out).pair_C (i := 1) rfl).1.1 ((H19.out).pair_C (i := 1) rfl).1.2.2 ((H19.out).pair_C (i := 1) rfl).2.1 ((H19.out).pair_C (i := 1) rfl).2.2.2 X.out.2.2.2.2.2.2.2)
 rw [← ((H19.out).pair_C (i := 1) rfl).1.2.1, ← ((H19.out).pair_C (i := 1) rfl).2.2.1] at HH
 have T_ := Aside0.mk trivial
 go_wp2_with (go_at_call 26; clear T_; refine (HH.out).mono ?_; rintro e w20 ⟨rfl, hb_⟩; have H20 := Aside0.mk ((H19.out).below hb_); clear hb_ HH; clear xg7_0 fg7_0 xg7_1 fg7_1 xg7_2 fg7_2; have xg1_0 : w20.cell? ⟨g1, 0, none⟩ = some (.int .i64 a0_0) := (H20.out).zab (i := 6) rfl 0 rfl; have fg1_0 := za1 ((H20.out).zao (i := 6) rfl) 0; have xg1_1 : w20.cell? ⟨g1, 1, none⟩ = some (.slice A0_1 l0_1.length c0_1) := (H20.out).zab (i := 6) rfl 1 rfl; have fg1_1 := za1 ((H20.out).zao (i := 6) rfl) 1; have xg1_2 : w20.cell? ⟨g1, 2, none⟩ = some (.slice A0_2 l0_2.length c0_2) := (H20.out).zab (i := 6) rfl 2 rfl; have fg1_2 := za1 ((H20.out).zao (i := 6) rfl) 2; have xg1_3 : w20.cell? ⟨g1, 3, none⟩ = some (.slice A0_3 l0_3.length c0_3) := (H20.out).zab (i := 6) rfl 3 rfl; have fg1_3 := za1 ((H20.out).zao (i := 6) rfl) 3)
 have T_ := Aside0.mk trivial
 have T_ := Aside0.mk trivial
 go_wp2_with (first | (go_at_call 18; clear T_; refine (laws_toRegCode.calls k a0_0 A0_1 c0_1 l0_1 A0_2 c0_2 l0_2 A0_3 c0_3 l0_3 a0_0 m1 m2 m3 _ (Kd.zam HC1.out (H20.out).bel) HN.out.1 (Kd.zam HC2.out (H20.out).bel) HN.out.2.1 (Kd.zam HC3.out (H20.out).bel) HN.out.2.2 X.out.1).mono ?_; rintro e w21 ⟨v1_, v2_, v3_, rfl, hr1_, hr2_, hr3_, hb_⟩; have H21 := Aside0.mk (Fr.trip_new rfl rfl (H20.out) hr1_ hr2_ hr3_ hb_); obtain ⟨Az1, cz1, rfl⟩ := Kd.zay hr1_; obtain ⟨Az2, cz2, rfl⟩ := Kd.zay hr2_; obtain ⟨Az3, cz3, rfl⟩ := Kd.zay hr3_; clear hr1_ hr2_ hr3_ hb_) | (go_at_call 22; clear T_; refine (impl_RegCodePlan.calls k a0_0 Az1 cz1 m1 Az2 cz2 m2 Az3 cz3 m3 r1 r2 r3 b _ ((H21.out).trip_C (i := 0) rfl).1.1 ((H21.out).trip_C (i := 0) rfl).1.2.2 ((H21.out).trip_C (i := 0) rfl).2.1.1 ((H21.out).trip_C (i := 0) rfl).2.1.2.2 ((H21.out).trip_C (i := 0) rfl).2.2.1 ((H21.out).trip_C (i := 0) rfl).2.2.2.2 X.out.2.2.1).mono ?_; rintro e w22 ⟨v1_, v2_, rfl, hr1_, hr2_, hb_⟩; have H22 := Aside0.mk (Fr.pair_new (H21.out) hr1_ hr2_ hb_); obtain ⟨Ah1, ch1, rfl⟩ := Kd.zay hr1_; obtain ⟨Ah2, ch2, rfl⟩ := Kd.zay hr2_; clear hr1_ hr2_ hb_) | ((with_reducible refine zak (N := 12) rfl ?_); refine zaj ?hg (N := 12) ?hd (cs := #[.int .i64 0, .slice none 0 0, .slice none 0 0]) (t := 36) ?hr ?_; (case hd => rfl); (case hg => rfl); (case hr => first | (go_simp; done) | (go_simp; rfl)); intro g12 hg_ w23 hbox_ hb_; have H23 := Aside0.mk ((H22.out).box_new hbox_ hb_ hg_); clear hbox_ hb_ hg_; clear xg1_0 fg1_0 xg1_1 fg1_1 xg1_2 fg1_2 xg1_3 fg1_3; have xg12_0 : w23.cell? ⟨g12, 0, none⟩ = some (.int .i64 0) := (H23.out).zab (i := 0) rfl 0 rfl; have fg12_0 := za1 ((H23.out).zao (i := 0) rfl) 0; have xg12_1 : w23.cell? ⟨g12, 1, none⟩ = some (.slice none 0 0) := (H23.out).zab (i := 0) rfl 1 rfl; have fg12_1 := za1 ((H23.out).zao (i := 0) rfl) 1; have xg12_2 : w23.cell? ⟨g12, 2, none⟩ = some (.slice none 0 0) := (H23.out).zab (i := 0) rfl 2 rfl; have fg12_2 := za1 ((H23.out).zao (i := 0) rfl) 2; have xg4_0 : w23.cell? ⟨g4, 0, none⟩ = some (.int .i64 r1) := (H23.out).zab (i := 7) rfl 0 rfl; have fg4_0 := za1 ((H23.out).zao (i := 7) rfl) 0; have xg4_1 : w23.cell? ⟨g4, 1, none⟩ = some (.slice Aw1 r2.length cw1) := (H23.out).zab (i := 7) rfl 1 rfl; have fg4_1 := za1 ((H23.out).zao (i := 7) rfl) 1; have xg4_2 : w23.cell? ⟨g4, 2, none⟩ = some (.slice Aw2 r3.length cw2) := (H23.out).zab (i := 7) rfl 2 rfl; have fg4_2 := za1 ((H23.out).zao (i := 7) rfl) 2; have ng12_g4 := Fr.box_ne (H23.out) (i := 0) (j := 7) (by decide) rfl rfl; have ng4_g12 := ng12_g4.symm))
 have h_ := (((H23.out).zb3 (i := 0) rfl 0 (.int .i64 r1) rfl).zb3 (i := 0) rfl 1 (.slice Ah1 r2.length ch1) rfl).zb3 (i := 0) rfl 2 (.slice Ah2 r3.length ch2) rfl
 simp only [List.set_cons_zero, List.set_cons_succ] at h_
 generalize (((w23).setCell ⟨g12, 0, none⟩ (.int .i64 r1)).setCell ⟨g12, 1, none⟩ (.slice Ah1 r2.length ch1)).setCell ⟨g12, 2, none⟩ (.slice Ah2 r3.length ch2) = w24 at h_ ⊢
 have H24 := Aside0.mk (show Fr w w (fun _ => False) [box g12 36 #[.int .i64 r1, .slice Ah1 r2.length ch1, .slice Ah2 r3.length ch2], pair2 k117 117 (.slice Ah1 r2.length ch1) r2 (Kd.int .i64) 3 (.slice Ah2 r3.length ch2) r3, trip3 (Kd.int .i64) 3 (.slice Az1 m1.length cz1) m1 k80 80 (.slice Az2 m2.length cz2) m2 (Kd.int .i64) 3 (.slice Az3 m3.length cz3) m3, box g7 36 #[.int .i64 r1, .slice Ag1 r2.length cg1, .slice Ag2 r3.length cg2], pair2 k117 117 (.slice Ag1 r2.length cg1) s2 (Kd.int .i64) 3 (.slice Ag2 r3.length cg2) s3, box g6 30 #[.int .i64 a0_0, .slice Ax1 m1.length cx1, .slice Ax2 m2.length cx2, .slice Ax3 m3.length cx3], trip3 (Kd.int .i64) 3 (.slice Ax1 m1.length cx1) n1 k80 80 (.slice Ax2 m2.length cx2) n2 (Kd.int .i64) 3 (.slice Ax3 m3.length cx3) n3, box g4 36 #[.int .i64 r1, .slice Aw1 r2.length cw1, .slice Aw2 r3.length cw2], pair2 k117 117 (.slice Aw1 r2.length cw1) r2 (Kd.int .i64) 3 (.slice Aw2 r3.length cw2) r3, box g1 25 #[.int .i64 a0_0, .slice A0_1 l0_1.length c0_1, .slice A0_2 l0_2.length c0_2, .slice A0_3 l0_3.length c0_3]] w24 from h_)
 clear h_
 clear xg12_0 fg12_0 xg12_1 fg12_1 xg12_2 fg12_2 xg4_0 fg4_0 xg4_1 fg4_1 xg4_2 fg4_2 ng12_g4 ng4_g12
 have xg12_0 : w24.cell? ⟨g12, 0, none⟩ = some (.int .i64 r1) := (H24.out).zab (i := 0) rfl 0 rfl
 have fg12_0 := za1 ((H24.out).zao (i := 0) rfl) 0
 have xg12_1 : w24.cell? ⟨g12, 1, none⟩ = some (.slice Ah1 r2.length ch1) := (H24.out).zab (i := 0) rfl 1 rfl
 have fg12_1 := za1 ((H24.out).zao (i := 0) rfl) 1
 have xg12_2 : w24.cell? ⟨g12, 2, none⟩ = some (.slice Ah2 r3.length ch2) := (H24.out).zab (i := 0) rfl 2 rfl
 have fg12_2 := za1 ((H24.out).zao (i := 0) rfl) 2
 have xg4_0 : w24.cell? ⟨g4, 0, none⟩ = some (.int .i64 r1) := (H24.out).zab (i := 7) rfl 0 rfl
 have fg4_0 := za1 ((H24.out).zao (i := 7) rfl) 0
 have xg4_1 : w24.cell? ⟨g4, 1, none⟩ = some (.slice Aw1 r2.length cw1) := (H24.out).zab (i := 7) rfl 1 rfl
 have fg4_1 := za1 ((H24.out).zao (i := 7) rfl) 1
 have xg4_2 : w24.cell? ⟨g4, 2, none⟩ = some (.slice Aw2 r3.length cw2) := (H24.out).zab (i := 7) rfl 2 rfl
 have fg4_2 := za1 ((H24.out).zao (i := 7) rfl) 2
 have T_ := Aside0.mk trivial
 go_wp2_with (go_at_call 23; clear T_; refine (laws_eqPlan.calls k r1 Ah1 ch1 r2 Ah2 ch2 r3 r1 Aw1 cw1 r2 Aw2 cw2 r3 true _ ((H24.out).pair_C (i := 1) rfl).1.1 ((H24.out).pair_C (i := 1) rfl).1.2.2 ((H24.out).pair_C (i := 1) rfl).2.1 ((H24.out).pair_C (i := 1) rfl).2.2.2 ((H24.out).pair_C (i := 8) rfl).1.1 ((H24.out).pair_C (i := 8) rfl).1.2.2 ((H24.out).pair_C (i := 8) rfl).2.1 ((H24.out).pair_C (i := 8) rfl).2.2.2 X.out.2.2.2.1).mono ?_; rintro e w25 ⟨rfl, hb_⟩; have H25 := Aside0.mk ((H24.out).below hb_); clear hb_; clear xg12_0 fg12_0 xg12_1 fg12_1 xg12_2 fg12_2 xg4_0 fg4_0 xg4_1 fg4_1 xg4_2 fg4_2; have xg7_0 : w25.cell? ⟨g7, 0, none⟩ = some (.int .i64 r1) := (H25.out).zab (i := 3) rfl 0 rfl; have fg7_0 := za1 ((H25.out).zao (i := 3) rfl) 0; have xg7_1 : w25.cell? ⟨g7, 1, none⟩ = some (.slice Ag1 r2.length cg1) := (H25.out).zab (i := 3) rfl 1 rfl; have fg7_1 := za1 ((H25.out).zao (i := 3) rfl) 1; have xg7_2 : w25.cell? ⟨g7, 2, none⟩ = some (.slice Ag2 r3.length cg2) := (H25.out).zab (i := 3) rfl 2 rfl; have fg7_2 := za1 ((H25.out).zao (i := 3) rfl) 2)
 have HH := Aside0.mk (laws_heldPlan.calls k r1 Ag1 cg1 s2 Ag2 cg2 s3 1 mm _ ((H25.out).pair_C (i := 4) rfl).1.1 ((H25.out).pair_C (i := 4) rfl).1.2.2 ((H25.out).pair_C (i := 4) rfl).2.1 ((H25.out).pair_C (i := 4) rfl).2.2.2 X.out.2.2.2.2.2.2.2)
 rw [← ((H25.out).pair_C (i := 4) rfl).1.2.1, ← ((H25.out).pair_C (i := 4) rfl).2.2.1] at HH
 have T_ := Aside0.mk trivial
 go_wp2_with (go_at_call 26; clear T_; refine (HH.out).mono ?_; rintro e w26 ⟨rfl, hb_⟩; have H26 := Aside0.mk ((H25.out).below hb_); clear hb_ HH; clear xg7_0 fg7_0 xg7_1 fg7_1 xg7_2 fg7_2)
 go_ret
 exact ⟨rfl, H26.out.bel⟩
/-- THE ONE PURE STATEMENT of the law: each of the calls on the path that it takes. -/
def laws_FnExactRegCodePlan.Pure : Prop := ∀ (a0_0 : Int) (l0_1 : List Int) (l0_2 : List S126) (l0_3 : List Int), (Lit.int .i64 a0_0).wf = true → l0_1.length ≤ maxLen → (∀ y ∈ l0_1, (Lit.int .i64 y).wf = true) → l0_2.length ≤ maxLen → (∀ y ∈ l0_2, (Lit.int .i64 y.f0).wf = true ∧ (Lit.int .i64 y.f1).wf = true ∧ (Lit.int .i64 y.f2).wf = true) → l0_3.length ≤ maxLen → (∀ y ∈ l0_3, (Lit.int .i64 y).wf = true) → laws_szRegCode.f a0_0 l0_1 l0_2 l0_3 1048576 = some (-1) ∨ ∃ (s1 k1 mm r1 : Int) (m1 : List Int) (m2 : List S80) (m3 : List Int) (n1 : List Int) (n2 : List S80) (n3 : List Int) (r2 s2 : List S117) (r3 s3 : List Int) (b : Bool) (k : Nat), 0 ≤ s1 ∧ 0 ≤ k1 ∧ 0 ≤ mm ∧ laws_szRegCode.f a0_0 l0_1 l0_2 l0_3 1048576 = some s1 ∧ laws_toRegCode.f k a0_0 l0_1 l0_2 l0_3 = some (a0_0, m1, m2, m3) ∧ spec_RegCodePlan.f k a0_0 m1 m2 m3 = some (r1, r2, r3, b) ∧ impl_RegCodePlan.f k a0_0 m1 m2 m3 = some (r1, r2, r3, b) ∧ laws_eqPlan.f k r1 r2 r3 r1 r2 r3 = some true ∧ laws_eqRegCode.f k a0_0 m1 m2 m3 a0_0 m1 m2 m3 = some true ∧ laws_markRegCode.f k a0_0 m1 m2 m3 1 = some (k1, n1, n2, n3) ∧ laws_markPlan.f k r1 r2 r3 1 = some (mm, s2, s3) ∧ laws_heldPlan.f k r1 s2 s3 1 = some mm
theorem laws_FnExactRegCodePlan.walk (P : laws_FnExactRegCodePlan.Pure) (a0_0 : Int) (A0_1 : Option Addr) (c0_1 : Nat) (l0_1 : List Int) (A0_2 : Option Addr) (c0_2 : Nat) (l0_2 : List S126) (A0_3 : Option Addr) (c0_3 : Nat) (l0_3 : List Int) (w : World) (hr0_1 : Kd.C (Kd.int .i64) w A0_1 l0_1.length l0_1) (hc0_1 : l0_1.length ≤ c0_1) (hr0_2 : Kd.C k126 w A0_2 l0_2.length l0_2) (hc0_2 : l0_2.length ≤ c0_2) (hr0_3 : Kd.C (Kd.int .i64) w A0_3 l0_3.length l0_3) (hc0_3 : l0_3.length ≤ c0_3) (q0 : (Lit.int .i64 a0_0).wf = true) (q1 : l0_1.length ≤ maxLen) (q2 : (∀ y ∈ l0_1, (Lit.int .i64 y).wf = true)) (q3 : l0_2.length ≤ maxLen) (q4 : (∀ y ∈ l0_2, (Lit.int .i64 y.f0).wf = true ∧ (Lit.int .i64 y.f1).wf = true ∧ (Lit.int .i64 y.f2).wf = true)) (q5 : l0_3.length ≤ maxLen) (q6 : (∀ y ∈ l0_3, (Lit.int .i64 y).wf = true)) :
  Calls Try.prog 4 #[.agg #[.int .i64 a0_0, .slice A0_1 l0_1.length c0_1, .slice A0_2 l0_2.length c0_2, .slice A0_3 l0_3.length c0_3]] w fun e w' => e = .returned (.bool true) ∧ Below w.heap.size w w' := by
 rcases P a0_0 l0_1 l0_2 l0_3 q0 q1 q2 q3 q4 q5 q6 with hs | ⟨s1, k1, mm, r1, m1, m2, m3, n1, n2, n3, r2, s2, r3, s3, b, k, hs0, hk0, hm0, hs, ht, hsp, him, heqp, heqa, hmka, hmkp, hhd⟩
 ·exact laws_FnExactRegCodePlan.large a0_0 A0_1 c0_1 l0_1 A0_2 c0_2 l0_2 A0_3 c0_3 l0_3 w hr0_1 hc0_1 hr0_2 hc0_2 hr0_3 hc0_3 hs
 ·exact laws_FnExactRegCodePlan.small a0_0 A0_1 c0_1 l0_1 A0_2 c0_2 l0_2 A0_3 c0_3 l0_3 w hr0_1 hc0_1 hr0_2 hc0_2 hr0_3 hc0_3 s1 k1 mm r1 m1 m2 m3 n1 n2 n3 r2 s2 r3 s3 b k hs0 hk0 hm0 hs ht hsp him heqp heqa hmka hmkp hhd

end Go.Proofs.Ytpdpomjgfmdjfaa.Z
