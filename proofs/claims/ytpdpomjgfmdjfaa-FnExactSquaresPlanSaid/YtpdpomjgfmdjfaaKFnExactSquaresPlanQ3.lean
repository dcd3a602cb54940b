-- Written by a program of this session (wip/tools/stubprint.py): contracts by hand where the kit's print has none.
import Derived.Test.YtpdpomjgfmdjfaaKFnExactSquaresPlanQ0
import Derived.Test.YtpdpomjgfmdjfaaKFnExactSquaresPlanQ1
import Derived.Test.YtpdpomjgfmdjfaaKFnExactSquaresPlanQ2
namespace Go.Proofs.Ytpdpomjgfmdjfaa.Z
open Go.RowKit Go.Proofs.YtpdpomjgfmdjfaaW.PrintWords Go.Proofs.YtpdpomjgfmdjfaaW.PrintLast Go.Proofs.YtpdpomjgfmdjfaaW.PrintMore
attribute [local go_sem] max2_int min2_int max_two min_two max_three min_three max_four min_four   -- for this text's walks alone
set_option linter.unusedVariables false
set_option linter.unusedSimpArgs false

/-! ### laws_heldPlan: function 26 -/
def laws_heldPlan.f (k : Nat) (a0_0 : Int) (l0_1 : List (S117)) (l0_2 : List Int) (a1 : Int) : Option (Int) := (laws_heldStepS.f k l0_1 a1).bind fun t399 => (if t399 < 0 then (some (-1)) else ((laws_heldIntS.f k l0_2 t399).bind fun t400 => (if t400 < 0 then (some (-1)) else (some t400))))
theorem laws_heldPlan.mono : ∀ a0 a1 a2 a3 k, LeO (laws_heldPlan.f k a0 a1 a2 a3) (laws_heldPlan.f (k + 1) a0 a1 a2 a3) := by
  intro a0 a1 a2 a3 k
  unfold laws_heldPlan.f
  repeat' first
      | (with_reducible exact laws_heldIntS.mono _ _ _)
      | (with_reducible exact laws_heldStepS.mono _ _ _)
      | (with_reducible exact LeO.refl _)
      | (with_reducible exact LeO.none _)
      | (with_reducible refine LeO.ite ?_ ?_)
      | (with_reducible refine LeO.bind ?_ (fun _ => ?_))
      | exact laws_heldIntS.mono _ _ _
      | exact laws_heldStepS.mono _ _ _
      | exact LeO.none _
      | refine LeO.ite ?_ ?_
      | refine LeO.bind ?_ (fun _ => ?_)
set_option maxHeartbeats 8000000 in
set_option maxRecDepth 100000 in
theorem laws_heldPlan.calls (k : Nat) (a0_0 : Int) (A0_1 : Option Addr) (c0_1 : Nat) (l0_1 : List (S117)) (A0_2 : Option Addr) (c0_2 : Nat) (l0_2 : List Int) (a1 : Int) (r : Int) (w : World) (hr0_1 : Kd.C k117 w A0_1 l0_1.length l0_1) (hc0_1 : l0_1.length ≤ c0_1) (hr0_2 : Kd.C (Kd.int .i64) w A0_2 l0_2.length l0_2) (hc0_2 : l0_2.length ≤ c0_2) (h : laws_heldPlan.f k a0_0 l0_1 l0_2 a1 = some r) :
    Calls Try.prog 26 #[.agg #[.int .i64 a0_0, .slice A0_1 l0_1.length c0_1, .slice A0_2 l0_2.length c0_2], .int .i64 a1] w fun e w' => e = .returned (.int .i64 r) ∧ Below w.heap.size w w' := by
  have hu36 := Try.underlying36
  have HR0_1 := Aside0.mk hr0_1
  have HC0_1 := Aside0.mk hc0_1
  clear hr0_1 hc0_1
  have HR0_2 := Aside0.mk hr0_2
  have HC0_2 := Aside0.mk hc0_2
  clear hr0_2 hc0_2
  have HB := Aside0.mk (Below.refl w.heap.size w)
  have H : ((laws_heldStepS.f k l0_1 a1).bind fun t399 => (if t399 < 0 then (some (-1)) else ((laws_heldIntS.f k l0_2 t399).bind fun t400 => (if t400 < 0 then (some (-1)) else (some t400))))) = some r := h
  clear h
  replace H := Option.bind_eq_some_iff.mp H
  obtain ⟨t399, A30, H⟩ := H
  replace H : (if t399 < 0 then (some (-1)) else ((laws_heldIntS.f k l0_2 t399).bind fun t400 => (if t400 < 0 then (some (-1)) else (some t400)))) = some r := H
  have A3 := Aside0.mk A30
  clear A30
  by_cases c4 : t399 < 0
  · rw [if_pos c4] at H
    have c4b0 : decide (t399 < 0) = true := decide_eq_true c4
    clear c4
    obtain rfl := Option.some.inj H
    go_enter Try.func26, Try.ntmps26
    go_wp2_with (first | ((with_reducible refine zaq (N := 2) rfl ?_); refine zan ?hg (N := 2) ?hd (cs := #[.int .i64 a0_0, .slice A0_1 l0_1.length c0_1, .slice A0_2 l0_2.length c0_2]) (t := 36) ?hr ?_; (case hd => rfl); (case hg => rfl); (case hr => first | (go_simp; done) | (go_simp; rfl)); intro gb398 hg w5 hbox hb; have n0_ := Aside0.mk (zaf (by repeat (first | (with_reducible first | exact HB.out | apply za1 | apply za0 | apply za2) | exact HB.out)) hb); have n1_ := Aside0.mk (hbox); have n2_ := Aside0.mk ((by rw [hg]; exact (zad (by repeat (first | (with_reducible first | exact HB.out | apply za1 | apply za0 | apply za2) | exact HB.out))) : w.heap.size ≤ gb398)); have n3_ := Aside0.mk ((by rw [hg]; exact (zad (by repeat (first | (with_reducible first | exact HB.out | apply za1 | apply za0 | apply za2) | exact HB.out))) : w.heap.size ≤ gb398)); clear HB; have HB := n0_; have BK398 := n1_; have GW398 := n2_; have GE398 := n3_; clear n0_ n1_ n2_ n3_; clear hb hbox hg; have hcz6_0 : w5.cell? ⟨gb398, 0, none⟩ = some (.int .i64 a0_0) := (za8 BK398.out 0).trans rfl; have hcz6_1 : w5.cell? ⟨gb398, 1, none⟩ = some (.slice A0_1 l0_1.length c0_1) := (za8 BK398.out 1).trans rfl; have hcz6_2 : w5.cell? ⟨gb398, 2, none⟩ = some (.slice A0_2 l0_2.length c0_2) := (za8 BK398.out 2).trans rfl; have hfz6_0 := za4 BK398.out 0; have hfz6_1 := za4 BK398.out 1; have hfz6_2 := za4 BK398.out 2) | ((with_reducible refine zah (f := 66) rfl ?_); refine zay (some 8) rfl rfl Try.func66 (by kernel_rfl) rfl #[.slice A0_1 l0_1.length c0_1, .int .i64 a1] rfl (by (try simp only [List.map_toArray, List.map_cons, List.map_nil]); first | done | rfl | (simp only [List.length_drop, List.length_take]; rfl)) ?_; (with_reducible refine (laws_heldStepS.calls k _ _ l0_1 a1 t399 _ ?side1 ?side2 A3.out).mono ?_); (case side1 => repeat (first | exact (Kd.zav HR0_1.out HB.out) | (with_reducible refine Kd.zar ?_ _) | (with_reducible refine Kd.zao ?_ _) | (with_reducible refine Kd.zau ?_))); (case side2 => exact HC0_1.out); rintro e w' ⟨rfl, ⟨nd, rfl⟩⟩; refine ⟨_, rfl, ?_⟩))
    go_ret
    exact ⟨by first | rfl | (simp [zai, zaj] <;> rfl) | (simp [*, zai, zaj] <;> rfl), by repeat (first | (with_reducible first | exact HB.out | apply za1 | apply za0 | apply za2 | refine za3 ?_ GE398.out) | exact HB.out)⟩
  · rw [if_neg c4] at H
    have c4b0 : decide (t399 < 0) = false := decide_eq_false c4
    clear c4
    replace H := Option.bind_eq_some_iff.mp H
    obtain ⟨t400, A70, H⟩ := H
    replace H : (if t400 < 0 then (some (-1)) else (some t400)) = some r := H
    have A7 := Aside0.mk A70
    clear A70
    by_cases c8 : t400 < 0
    · rw [if_pos c8] at H
      have c8b0 : decide (t400 < 0) = true := decide_eq_true c8
      clear c8
      obtain rfl := Option.some.inj H
      go_enter Try.func26, Try.ntmps26
      go_wp2_with (first | ((with_reducible refine zaq (N := 2) rfl ?_); refine zan ?hg (N := 2) ?hd (cs := #[.int .i64 a0_0, .slice A0_1 l0_1.length c0_1, .slice A0_2 l0_2.length c0_2]) (t := 36) ?hr ?_; (case hd => rfl); (case hg => rfl); (case hr => first | (go_simp; done) | (go_simp; rfl)); intro gb398 hg w9 hbox hb; have n0_ := Aside0.mk (zaf (by repeat (first | (with_reducible first | exact HB.out | apply za1 | apply za0 | apply za2) | exact HB.out)) hb); have n1_ := Aside0.mk (hbox); have n2_ := Aside0.mk ((by rw [hg]; exact (zad (by repeat (first | (with_reducible first | exact HB.out | apply za1 | apply za0 | apply za2) | exact HB.out))) : w.heap.size ≤ gb398)); have n3_ := Aside0.mk ((by rw [hg]; exact (zad (by repeat (first | (with_reducible first | exact HB.out | apply za1 | apply za0 | apply za2) | exact HB.out))) : w.heap.size ≤ gb398)); clear HB; have HB := n0_; have BK398 := n1_; have GW398 := n2_; have GE398 := n3_; clear n0_ n1_ n2_ n3_; clear hb hbox hg; have hcz10_0 : w9.cell? ⟨gb398, 0, none⟩ = some (.int .i64 a0_0) := (za8 BK398.out 0).trans rfl; have hcz10_1 : w9.cell? ⟨gb398, 1, none⟩ = some (.slice A0_1 l0_1.length c0_1) := (za8 BK398.out 1).trans rfl; have hcz10_2 : w9.cell? ⟨gb398, 2, none⟩ = some (.slice A0_2 l0_2.length c0_2) := (za8 BK398.out 2).trans rfl; have hfz10_0 := za4 BK398.out 0; have hfz10_1 := za4 BK398.out 1; have hfz10_2 := za4 BK398.out 2) | ((with_reducible refine zah (f := 66) rfl ?_); refine zay (some 8) rfl rfl Try.func66 (by kernel_rfl) rfl #[.slice A0_1 l0_1.length c0_1, .int .i64 a1] rfl (by (try simp only [List.map_toArray, List.map_cons, List.map_nil]); first | done | rfl | (simp only [List.length_drop, List.length_take]; rfl)) ?_; (with_reducible refine (laws_heldStepS.calls k _ _ l0_1 a1 t399 _ ?side1 ?side2 A3.out).mono ?_); (case side1 => repeat (first | exact (Kd.zav HR0_1.out HB.out) | (with_reducible refine Kd.zar ?_ _) | (with_reducible refine Kd.zao ?_ _) | (with_reducible refine Kd.zau ?_))); (case side2 => exact HC0_1.out); rintro e w' ⟨rfl, ⟨nd, rfl⟩⟩; refine ⟨_, rfl, ?_⟩) | ((with_reducible refine zah (f := 32) rfl ?_); refine zay (some 14) rfl rfl Try.func32 (by kernel_rfl) rfl #[.slice A0_2 l0_2.length c0_2, .int .i64 t399] rfl (by (try simp only [List.map_toArray, List.map_cons, List.map_nil]); first | done | rfl | (simp only [List.length_drop, List.length_take]; rfl)) ?_; (with_reducible refine (laws_heldIntS.calls k _ _ l0_2 t399 t400 _ ?side1 ?side2 A7.out).mono ?_); (case side1 => repeat (first | exact (Kd.zav HR0_2.out (by repeat (first | (with_reducible first | exact HB.out | apply za1 | apply za0 | apply za2 | refine za3 ?_ GE398.out) | exact HB.out))) | (with_reducible refine Kd.zar ?_ _) | (with_reducible refine Kd.zao ?_ _) | (with_reducible refine Kd.zau ?_))); (case side2 => exact HC0_2.out); rintro e w' ⟨rfl, ⟨nd, rfl⟩⟩; refine ⟨_, rfl, ?_⟩))
      go_ret
      exact ⟨by first | rfl | (simp [zai, zaj] <;> rfl) | (simp [*, zai, zaj] <;> rfl), by repeat (first | (with_reducible first | exact HB.out | apply za1 | apply za0 | apply za2 | refine za3 ?_ GE398.out) | exact HB.out)⟩
    · rw [if_neg c8] at H
      have c8b0 : decide (t400 < 0) = false := decide_eq_false c8
      clear c8
      obtain rfl := Option.some.inj H
      go_enter Try.func26, Try.ntmps26
      go_wp2_with (first | ((with_reducible refine zaq (N := 2) rfl ?_); refine zan ?hg (N := 2) ?hd (cs := #[.int .i64 a0_0, .slice A0_1 l0_1.length c0_1, .slice A0_2 l0_2.length c0_2]) (t := 36) ?hr ?_; (case hd => rfl); (case hg => rfl); (case hr => first | (go_simp; done) | (go_simp; rfl)); intro gb398 hg w11 hbox hb; have n0_ := Aside0.mk (zaf (by repeat (first | (with_reducible first | exact HB.out | apply za1 | apply za0 | apply za2) | exact HB.out)) hb); have n1_ := Aside0.mk (hbox); have n2_ := Aside0.mk ((by rw [hg]; exact (zad (by repeat (first | (with_reducible first | exact HB.out | apply za1 | apply za0 | apply za2) | exact HB.out))) : w.heap.size ≤ gb398)); have n3_ := Aside0.mk ((by rw [hg]; exact (zad (by repeat (first | (with_reducible first | exact HB.out | apply za1 | apply za0 | apply za2) | exact HB.out))) : w.heap.size ≤ gb398)); clear HB; have HB := n0_; have BK398 := n1_; have GW398 := n2_; have GE398 := n3_; clear n0_ n1_ n2_ n3_; clear hb hbox hg; have hcz12_0 : w11.cell? ⟨gb398, 0, none⟩ = some (.int .i64 a0_0) := (za8 BK398.out 0).trans rfl; have hcz12_1 : w11.cell? ⟨gb398, 1, none⟩ = some (.slice A0_1 l0_1.length c0_1) := (za8 BK398.out 1).trans rfl; have hcz12_2 : w11.cell? ⟨gb398, 2, none⟩ = some (.slice A0_2 l0_2.length c0_2) := (za8 BK398.out 2).trans rfl; have hfz12_0 := za4 BK398.out 0; have hfz12_1 := za4 BK398.out 1; have hfz12_2 := za4 BK398.out 2) | ((with_reducible refine zah (f := 66) rfl ?_); refine zay (some 8) rfl rfl Try.func66 (by kernel_rfl) rfl #[.slice A0_1 l0_1.length c0_1, .int .i64 a1] rfl (by (try simp only [List.map_toArray, List.map_cons, List.map_nil]); first | done | rfl | (simp only [List.length_drop, List.length_take]; rfl)) ?_; (with_reducible refine (laws_heldStepS.calls k _ _ l0_1 a1 t399 _ ?side1 ?side2 A3.out).mono ?_); (case side1 => repeat (first | exact (Kd.zav HR0_1.out HB.out) | (with_reducible refine Kd.zar ?_ _) | (with_reducible refine Kd.zao ?_ _) | (with_reducible refine Kd.zau ?_))); (case side2 => exact HC0_1.out); rintro e w' ⟨rfl, ⟨nd, rfl⟩⟩; refine ⟨_, rfl, ?_⟩) | ((with_reducible refine zah (f := 32) rfl ?_); refine zay (some 14) rfl rfl Try.func32 (by kernel_rfl) rfl #[.slice A0_2 l0_2.length c0_2, .int .i64 t399] rfl (by (try simp only [List.map_toArray, List.map_cons, List.map_nil]); first | done | rfl | (simp only [List.length_drop, List.length_take]; rfl)) ?_; (with_reducible refine (laws_heldIntS.calls k _ _ l0_2 t399 t400 _ ?side1 ?side2 A7.out).mono ?_); (case side1 => repeat (first | exact (Kd.zav HR0_2.out (by repeat (first | (with_reducible first | exact HB.out | apply za1 | apply za0 | apply za2 | refine za3 ?_ GE398.out) | exact HB.out))) | (with_reducible refine Kd.zar ?_ _) | (with_reducible refine Kd.zao ?_ _) | (with_reducible refine Kd.zau ?_))); (case side2 => exact HC0_2.out); rintro e w' ⟨rfl, ⟨nd, rfl⟩⟩; refine ⟨_, rfl, ?_⟩))
      go_ret
      exact ⟨by first | rfl | (simp [zai, zaj] <;> rfl) | (simp [*, zai, zaj] <;> rfl), by repeat (first | (with_reducible first | exact HB.out | apply za1 | apply za0 | apply za2 | refine za3 ?_ GE398.out) | exact HB.out)⟩

/-! ### spec_chLength: function 78 -/
def spec_chLength.l0 : Nat → Int → Int → Option (Int)
  | 0, _, _ => none
  | k + 1, x0, x3 => if 0 ≤ x3 then (if (shr .i64 x0 x3) > 0 then (spec_chLength.l0 k x0 (wrap64 (x3 + 1))) else (some x3)) else (none)
def spec_chLength.f (k : Nat) (a0 : Int) : Option (Int) := spec_chLength.l0 k a0 0
theorem spec_chLength.zb2 : ∀ k, (∀ y0 y1, LeO (spec_chLength.l0 k y0 y1) (spec_chLength.l0 (k + 1) y0 y1))
  | 0 => fun _ _ r h => by simp [spec_chLength.l0] at h
  | k + 1 => by
    have ih0 := spec_chLength.zb2 k
    · intro y0 y1
      unfold spec_chLength.l0
      repeat' first
      | (with_reducible exact ih0 _ _)
      | (with_reducible exact LeO.refl _)
      | (with_reducible exact LeO.none _)
      | (with_reducible refine LeO.ite ?_ ?_)
      | (with_reducible refine LeO.bind ?_ (fun _ => ?_))
      | exact ih0 _ _
      | exact LeO.none _
      | refine LeO.ite ?_ ?_
      | refine LeO.bind ?_ (fun _ => ?_)
theorem spec_chLength.mono : ∀ a0 k, LeO (spec_chLength.f k a0) (spec_chLength.f (k + 1) a0) := by
  intro a0 k
  have ih0 := spec_chLength.zb2 k
  unfold spec_chLength.f
  repeat' first
      | (with_reducible exact ih0 _ _)
      | (with_reducible exact LeO.refl _)
      | (with_reducible exact LeO.none _)
      | (with_reducible refine LeO.ite ?_ ?_)
      | (with_reducible refine LeO.bind ?_ (fun _ => ?_))
      | exact ih0 _ _
      | exact LeO.none _
      | refine LeO.ite ?_ ?_
      | refine LeO.bind ?_ (fun _ => ?_)
set_option maxHeartbeats 8000000 in
set_option maxRecDepth 100000 in
theorem spec_chLength.calls (k : Nat) (a0 : Int) (r : Int) (w : World) (h : spec_chLength.f k a0 = some r) :
    Calls Try.prog 78 #[.int .i64 a0] w fun e w' => e = .returned (.int .i64 r) ∧ Drawn0 w w' := by
  have H : (spec_chLength.l0 k a0 0) = some r := h
  clear h
  have H' := Aside0.mk H
  clear H
  go_enter Try.func78, Try.ntmps78
  go_wp2
  go_loopg [3] k (fun kq v3 w' => ∃ (x3_1 : Int), v3 = .int .i64 x3_1 ∧ Aside0 (spec_chLength.l0 kq a0 x3_1 = some r) ∧ Aside0 (kq ≤ k) ∧ Drawn0 w w')
  case atStart => exact ⟨(0), (by first | rfl | (simp; done) | (simp [*]; done)), H', ⟨Nat.le_refl _⟩, by repeat (first | exact Drawn0.refl _ | apply Drawn0.step)⟩
  case round =>
    clear H'
    obtain ⟨x3_1, rfl, HA, HK1, ⟨m1, rfl⟩⟩ := hrel
    cases gk with
    | zero => exact absurd HA.out (by simp [spec_chLength.l0])
    | succ k1 =>
      have H := HA.out
      clear HA
      simp only [spec_chLength.l0] at H
      by_cases c2 : 0 ≤ x3_1
      · rw [if_pos c2] at H
        have c2b0 := eq_true c2
        have c2b1 : decide (0 ≤ x3_1) = true := decide_eq_true c2
        clear c2
        obtain ⟨ji3, hji3⟩ : ∃ j_ : Int, (shr .i64 a0 x3_1) = j_ := ⟨_, rfl⟩
        replace H : (if (ji3) > 0 then (spec_chLength.l0 k1 a0 (wrap64 (x3_1 + 1))) else (some x3_1)) = some r := by first | (rw [hji3] at H; exact H) | (simp only [hji3] at H ⊢; exact H)
        have hji3_ : (a0 / 2 ^ min x3_1.toNat 64) = ji3 := hji3
        have hji3z : x3_1 ≤ 64 → (a0 / 2 ^ x3_1.toNat) = ji3 := shr_small hji3
        by_cases c4 : (ji3) > 0
        · rw [if_pos c4] at H
          have c4b0 : decide (0 < (ji3)) = true := decide_eq_true c4
          clear c4
          have H' := Aside0.mk H
          clear H
          go_wp2
          go_roundg k1
          case measure => have := HK1.out; omega
          case rel => exact ⟨(wrap64 (x3_1 + 1)), (by first | rfl | (simp; done) | (simp [*]; done)), H', ⟨by have := HK1.out; omega⟩, by repeat (first | exact Drawn0.refl _ | apply Drawn0.step)⟩
        · rw [if_neg c4] at H
          have c4b0 : decide (0 < (ji3)) = false := decide_eq_false c4
          clear c4
          obtain rfl := Option.some.inj H
          go_wp2
          go_ret
          exact ⟨by first | rfl | (simp; done) | (simp only [← hji3] <;> (first | rfl | simp)) | (simp [*]; done), by repeat (first | exact Drawn0.refl _ | apply Drawn0.step)⟩
      · rw [if_neg c2] at H
        exact absurd H (by simp)

/-! ### spec_meGreatest: function 79 -/
def spec_meGreatest.l0 : Nat → Int → List Int → Int → Int → Option (Int)
  | 0, _, _, _, _ => none
  | k + 1, x3, x6, x7, x8 => if x8 < x7 then (if 0 ≤ x8 then (if x8 < (x6.length : Int) then ((spec_l1Most.f x3 (rd x6 x8)).bind fun t625 => (spec_meGreatest.l0 k t625 x6 x7 (wrap64 (x8 + 1)))) else (none)) else (none)) else (some x3)
def spec_meGreatest.f (k : Nat) (l0 : List Int) : Option (Int) := spec_meGreatest.l0 k 0 l0 (l0.length : Int) 0
theorem spec_meGreatest.zb2 : ∀ k, (∀ y0 y1 y2 y3, LeO (spec_meGreatest.l0 k y0 y1 y2 y3) (spec_meGreatest.l0 (k + 1) y0 y1 y2 y3))
  | 0 => fun _ _ _ _ r h => by simp [spec_meGreatest.l0] at h
  | k + 1 => by
    have ih0 := spec_meGreatest.zb2 k
    · intro y0 y1 y2 y3
      unfold spec_meGreatest.l0
      repeat' first
      | (with_reducible exact ih0 _ _ _ _)
      | (with_reducible exact LeO.refl _)
      | (with_reducible exact LeO.none _)
      | (with_reducible refine LeO.ite ?_ ?_)
      | (with_reducible refine LeO.bind ?_ (fun _ => ?_))
      | exact ih0 _ _ _ _
      | exact LeO.none _
      | refine LeO.ite ?_ ?_
      | refine LeO.bind ?_ (fun _ => ?_)
theorem spec_meGreatest.mono : ∀ a0 k, LeO (spec_meGreatest.f k a0) (spec_meGreatest.f (k + 1) a0) := by
  intro a0 k
  have ih0 := spec_meGreatest.zb2 k
  unfold spec_meGreatest.f
  repeat' first
      | (with_reducible exact ih0 _ _ _ _)
      | (with_reducible exact LeO.refl _)
      | (with_reducible exact LeO.none _)
      | (with_reducible refine LeO.ite ?_ ?_)
      | (with_reducible refine LeO.bind ?_ (fun _ => ?_))
      | exact ih0 _ _ _ _
      | exact LeO.none _
      | refine LeO.ite ?_ ?_
      | refine LeO.bind ?_ (fun _ => ?_)
set_option maxHeartbeats 8000000 in
set_option maxRecDepth 100000 in
theorem spec_meGreatest.calls (k : Nat) (A0 : Option Addr) (c0 : Nat) (l0 : List Int) (r : Int) (w : World) (hr0 : Kd.C (Kd.int .i64) w A0 l0.length l0) (hc0 : l0.length ≤ c0) (h : spec_meGreatest.f k l0 = some r) :
    Calls Try.prog 79 #[.slice A0 l0.length c0] w fun e w' => e = .returned (.int .i64 r) ∧ Drawn0 w w' := by
  have HR0 := Aside0.mk hr0
  have HC0 := Aside0.mk hc0
  clear hr0 hc0
  have H : (spec_meGreatest.l0 k 0 l0 (l0.length : Int) 0) = some r := h
  clear h
  have H' := Aside0.mk H
  clear H
  go_enter Try.func79, Try.ntmps79
  go_wp2
  go_loopg [3, 8] k (fun kq v3 v8 w' => ∃ (x3_1 : Int) (x8_1 : Int), v3 = .int .i64 x3_1 ∧ v8 = .int .i64 x8_1 ∧ Aside0 (spec_meGreatest.l0 kq x3_1 l0 (l0.length : Int) x8_1 = some r) ∧ Aside0 (kq ≤ k) ∧ Drawn0 w w')
  case atStart => exact ⟨(0), (0), (by first | rfl | (simp; done) | (simp [*]; done)), (by first | rfl | (simp; done) | (simp [*]; done)), H', ⟨Nat.le_refl _⟩, by repeat (first | exact Drawn0.refl _ | apply Drawn0.step)⟩
  case round =>
    clear H'
    obtain ⟨x3_1, x8_1, rfl, rfl, HA, HK1, ⟨m1, rfl⟩⟩ := hrel
    cases gk with
    | zero => exact absurd HA.out (by simp [spec_meGreatest.l0])
    | succ k1 =>
      have H := HA.out
      clear HA
      simp only [spec_meGreatest.l0] at H
      by_cases c2 : x8_1 < (l0.length : Int)
      · rw [if_pos c2] at H
        have c2b0 : decide (x8_1 < (l0.length : Int)) = true := decide_eq_true c2
        clear c2
        by_cases c3 : 0 ≤ x8_1
        · rw [if_pos c3] at H
          have c3b0 : decide (0 ≤ x8_1) = true := decide_eq_true c3
          clear c3
          by_cases c4 : x8_1 < (l0.length : Int)
          · rw [if_pos c4] at H
            have c4b0 : decide (x8_1 < (l0.length : Int)) = true := decide_eq_true c4
            clear c4
            replace H := Option.bind_eq_some_iff.mp H
            obtain ⟨t625, A50, H⟩ := H
            replace H : (spec_meGreatest.l0 k1 t625 l0 (l0.length : Int) (wrap64 (x8_1 + 1))) = some r := H
            have A5 := Aside0.mk A50
            clear A50
            have H' := Aside0.mk H
            clear H
            have p624 : 0 ≤ (x8_1 : Int) := of_decide_eq_true (by first | (with_reducible assumption) | assumption)
            have q624 : x8_1 < (l0.length : Int) := of_decide_eq_true (by first | (with_reducible assumption) | assumption)
            obtain ⟨ad624, e624, hx624_0⟩ := Kd.at_int HR0.out x8_1 p624 q624
            cases e624
            replace p624 := eq_true p624
            replace q624 := eq_true q624
            go_wp2_with (first | ((with_reducible refine zah (f := 146) rfl ?_); refine zay (some 14) rfl rfl Try.func146 (by kernel_rfl) rfl #[.int .i64 x3_1, .int .i64 (rd l0 x8_1)] rfl (by (try simp only [List.map_toArray, List.map_cons, List.map_nil]); first | done | rfl | (simp only [List.length_drop, List.length_take]; rfl)) ?_; (with_reducible refine (spec_l1Most.calls x3_1 (rd l0 x8_1) t625 _ A5.out).mono ?_); rintro e w' ⟨rfl, ⟨nd, rfl⟩⟩; refine ⟨_, rfl, ?_⟩))
            go_roundg k1
            case measure => have := HK1.out; omega
            case rel => exact ⟨(t625), (wrap64 (x8_1 + 1)), (by first | rfl | (simp; done) | (simp [*]; done)), (by first | rfl | (simp; done) | (simp [*]; done)), H', ⟨by have := HK1.out; omega⟩, by repeat (first | exact Drawn0.refl _ | apply Drawn0.step)⟩
          · rw [if_neg c4] at H
            exact absurd H (by simp)
        · rw [if_neg c3] at H
          exact absurd H (by simp)
      · rw [if_neg c2] at H
        have c2b0 : decide (x8_1 < (l0.length : Int)) = false := decide_eq_false c2
        clear c2
        obtain rfl := Option.some.inj H
        go_wp2
        go_ret
        exact ⟨by first | rfl | (simp; done) | (simp [*]; done), by repeat (first | exact Drawn0.refl _ | apply Drawn0.step)⟩

/-! ### spec_meTimes: function 80 -/
def spec_meTimes.f (a0_0 : Int) (l0_1 : List S117) (l0_2 : List Int) (a1 a2 : Int) : Option (Int × List S117 × List Int × Int) :=
  if l0_1.length ≤ 1000000 then ((spec_plStep.f a1 a2).bind fun p => some (a0_0, l0_1 ++ [⟨p.1, p.2⟩], [], wrap64 (a0_0 + (l0_1.length : Int)))) else none
set_option maxHeartbeats 8000000 in
set_option maxRecDepth 100000 in
theorem spec_meTimes.calls (a0_0 : Int) (A0_1 : Option Addr) (c0_1 : Nat) (l0_1 : List S117) (A0_2 : Option Addr) (c0_2 : Nat) (l0_2 : List Int) (a1 : Int) (a2 : Int) (r1 : Int) (r2 : List S117) (r3 : List Int) (r4 : Int) (w : World) (hr0_1 : Kd.C k117 w A0_1 l0_1.length l0_1) (hc0_1 : l0_1.length ≤ c0_1) (hr0_2 : Kd.C (Kd.int .i64) w A0_2 l0_2.length l0_2) (hc0_2 : l0_2.length ≤ c0_2) (h : spec_meTimes.f a0_0 l0_1 l0_2 a1 a2 = some (r1, r2, r3, r4)) :
    Calls Try.prog 80 #[.agg #[.int .i64 a0_0, .slice A0_1 l0_1.length c0_1, .slice A0_2 l0_2.length c0_2], .int .i64 a1, .int .i64 a2] w fun e w' => ∃ v1_ v2_ : Value, e = .returned (.tuple #[.agg #[.int .i64 r1, v1_, v2_], .int .i64 r4]) ∧ Kd.R k117 117 w' w.heap.size (fun _ => True) v1_ r2 ∧ Kd.R (Kd.int .i64) 3 w' w.heap.size (fun _ => True) v2_ r3 ∧ Below w.heap.size w w' := by
  have hu1 := Try.underlying36
  have hu2 := Try.underlying117
  unfold spec_meTimes.f at h
  by_cases hlim : l0_1.length ≤ 1000000
  rotate_left
  · rw [if_neg hlim] at h; cases h
  rw [if_pos hlim] at h
  obtain ⟨⟨x, y⟩, hst, h⟩ := Option.bind_eq_some_iff.1 h
  simp only [Option.some.injEq, Prod.mk.injEq] at h
  obtain ⟨rfl, rfl, rfl, rfl⟩ := h
  have HST := Aside0.mk (fun (W : World) => spec_plStep.calls a1 a2 x y W hst)
  have HC1 := Aside0.mk hr0_1
  have HLM := Aside0.mk hlim
  obtain ⟨ys, hys⟩ : ∃ ys, l0_1 ++ [(⟨x, y⟩ : S117)] = ys := ⟨_, rfl⟩
  have HYS := Aside0.mk hys
  rw [hys]
  clear hys hst hr0_1 hc0_1 hr0_2 hc0_2 hlim
  go_enter Try.func80, Try.ntmps80
  go_wp2_with (first | ((with_reducible refine zaq (N := 3) rfl ?_); refine zan ?hg (N := 3) ?hd (cs := #[.int .i64 a0_0, .slice A0_1 l0_1.length c0_1, .slice A0_2 l0_2.length c0_2]) (t := 36) ?hr ?_; (case hd => rfl); (case hg => rfl); (case hr => first | (go_simp; done) | (go_simp; rfl)); intro g3 hg_ w1 hbox_ hb_; have H1 := Aside0.mk ((Fr.start w).box_new hbox_ hb_ hg_); clear hbox_ hb_ hg_) | ((with_reducible refine zaq (N := 6) rfl ?_); refine zan ?hg (N := 6) ?hd (cs := #[.int .i64 0, .slice none 0 0, .slice none 0 0]) (t := 36) ?hr ?_; (case hd => rfl); (case hg => rfl); (case hr => first | (go_simp; done) | (go_simp; rfl)); intro g6 hg_ w2 hbox_ hb_; have H2 := Aside0.mk ((H1.out).box_new hbox_ hb_ hg_); clear hbox_ hb_ hg_))
  refine start_ (n := 14) (S := fun w' => w'.cell? ⟨g3, 0, none⟩ = some (.int .i64 a0_0) ∧ w'.cell? ⟨g3, 1, none⟩ = some (.slice A0_1 l0_1.length c0_1)) (ds := [13]) #[false, false, false, false, false, false, false, false, false, false, false, false, false, false] (by kernel_rfl) rfl rfl ⟨(H2.out.drew).zam (i := 1) rfl 0 rfl, (H2.out.drew).zam (i := 1) rfl 1 rfl⟩ (fun hHeld => ?_)
  refine pure_ (i := 0) (N := some 9) (v := ?_) (a' := ?_) #[true, false, false, false, false, false, false, false, false, false, false, false, false, false] rfl rfl (by kernel_rfl) (fun _ _ _ h => h) (Or.inl ⟨by rfl, ?_⟩) ?_ ?_
  rotate_left
  · intro w'
    go_simp
    with_reducible rfl
  rotate_left
  · simp only [Act.put, List.setIfInBounds_toArray, List.set_cons_zero, List.set_cons_succ, i64_w, i32_w]
    rfl
  refine pure_ (i := 3) (N := some 12) (v := ?_) (a' := ?_) #[true, false, false, true, false, false, false, false, false, false, false, false, false, false] rfl rfl (by kernel_rfl) (fun _ _ _ h => h) (Or.inl ⟨by rfl, ?_⟩) ?_ ?_
  rotate_left
  · intro w'
    go_simp
    with_reducible rfl
  rotate_left
  · simp only [Act.put, List.setIfInBounds_toArray, List.set_cons_zero, List.set_cons_succ, i64_w, i32_w]
    rfl
  refine pure_ (i := 6) (N := some 15) (v := ?_) (a' := ?_) #[true, false, false, true, false, false, true, false, false, false, false, false, false, false] rfl rfl (by kernel_rfl) (fun _ _ _ h => h) (Or.inl ⟨by rfl, ?_⟩) ?_ ?_
  rotate_left
  · intro w'
    go_simp
    with_reducible rfl
  rotate_left
  · simp only [Act.put, List.setIfInBounds_toArray, List.set_cons_zero, List.set_cons_succ, i64_w, i32_w]
    rfl
  refine pure_ (i := 7) (N := some 16) (v := ?_) (a' := ?_) #[true, false, false, true, false, false, true, true, false, false, false, false, false, false] rfl rfl (by kernel_rfl) (fun _ _ _ h => h) (Or.inl ⟨by rfl, ?_⟩) ?_ ?_
  rotate_left
  · intro w'
    go_simp
    with_reducible rfl
  rotate_left
  · simp only [Act.put, List.setIfInBounds_toArray, List.set_cons_zero, List.set_cons_succ, i64_w, i32_w]
    rfl
  refine take_ (i := 1) (N := some 10) (v := ?_) (a' := ?_) #[true, true, false, true, false, false, true, true, false, false, false, false, false, false] rfl rfl (by kernel_rfl) (fun _ _ _ h => h) (Or.inl ⟨by rfl, ?_⟩) hHeld ?_ ?_
  rotate_left
  · rintro w' ⟨s0, s1⟩
    go_simp
    with_reducible rfl
  rotate_left
  · simp only [Act.put, List.setIfInBounds_toArray, List.set_cons_zero, List.set_cons_succ, i64_w, i32_w]
    rfl
  refine take_ (i := 4) (N := some 13) (v := ?_) (a' := ?_) #[true, true, false, true, true, false, true, true, false, false, false, false, false, false] rfl rfl (by kernel_rfl) (fun _ _ _ h => h) (Or.inl ⟨by rfl, ?_⟩) hHeld ?_ ?_
  rotate_left
  · rintro w' ⟨s0, s1⟩
    go_simp
    with_reducible rfl
  rotate_left
  · simp only [Act.put, List.setIfInBounds_toArray, List.set_cons_zero, List.set_cons_succ, i64_w, i32_w]
    rfl
  refine join_ (σ := Value × Value × Value × Option Addr × Nat × Nat) 1 #[true, true, true, true, true, true, true, true, true, true, true, true, true, false] (fun s_ => [(11, s_.1), (14, s_.2.1), (17, .agg #[.int .i64 x, .int .i64 y]), (18, s_.2.2.1), (19, (.slice s_.2.2.2.1 ys.length s_.2.2.2.2.1)), (20, .agg #[.int .i64 a0_0, (.slice s_.2.2.2.1 ys.length s_.2.2.2.2.1), .slice none 0 0]), (8, .pointer (some ⟨s_.2.2.2.2.2, 0, none⟩))]) (fun s_ w' => Fr w w (fun _ => False) [row k117 117 (.slice s_.2.2.2.1 ys.length s_.2.2.2.2.1) ys, box s_.2.2.2.2.2 36 #[.int .i64 0, .slice none 0 0, .slice none 0 0], box g6 36 #[.int .i64 0, .slice none 0 0, .slice none 0 0], box g3 36 #[.int .i64 a0_0, .slice A0_1 l0_1.length c0_1, .slice A0_2 l0_2.length c0_2]] w') ?_ ?_
  rotate_left
  · intro hCont
    refine two_ (i := 2) (j := 12) (Ni := some 11) (Nj := some 8) #[true, true, true, true, true, false, true, true, false, false, false, false, false, false] #[true, true, false, true, true, false, true, true, false, false, false, false, true, false] rfl rfl rfl rfl (by kernel_rfl) (by decide) (by decide) (fun K hK => ?_) (fun K hK => ?_)
    · skip
      refine Kd.R_lit_step k117 (w0 := w) w.heap.size 117 ?hg (N := 11) ?hd (xs := ([] : List S117)) (inner := []) (ok := fun k => w2.heap.size ≤ k) (okp := fun k => w2.heap.size ≤ k) ?hr ?hp (fun _ hk => hk) (Nat.le_refl _) (H2.out.drew).bel (H2.out.drew).size (by simp) ?_; (case hd => rfl); (case hg => rfl); (case hr => first | (go_simp; done) | (go_simp; rfl)); (case hp => exact (Reps.none _ _))
      intro v11 wd1 hr_ hb_ hg_ hn_; have HD1 := Aside0.mk ((H2.out.drew).row_lit hr_ hg_); clear hb_ hg_ hn_; clear hr_
      refine hK.out _ _ ⟨(HD1.out).zam (i := 2) rfl 0 rfl, (HD1.out).zam (i := 2) rfl 1 rfl⟩ (fun hHeld => ?_)
      clear hK K
      refine norm_ (a' := ?_) ?_ ?_
      rotate_left
      · show Act.put _ (some 11) _ = _
        simp only [Act.put, List.setIfInBounds_toArray, List.set_cons_zero, List.set_cons_succ, i64_w, i32_w]
        rfl
      refine two_ (i := 5) (j := 12) (Ni := some 14) (Nj := some 8) #[true, true, true, true, true, true, true, true, false, false, false, false, false, false] #[true, true, true, true, true, false, true, true, false, false, false, false, true, false] rfl rfl rfl rfl (by kernel_rfl) (by decide) (by decide) (fun K hK => ?_) (fun K hK => ?_)
      · skip
        obtain ⟨ok_, hR_, hF_, hX_⟩ := (HD1.out).row_append (i := 0) rfl
        refine Kd.R_append_rows_step k117 (w0 := w) w.heap.size (by rfl) (.tmp 11) (.tmp 13) 34 117 (.agg #[(.int .i64 0), (.int .i64 0)]) 16 rfl Try.underlying34 info117 rfl (by decide) (by omega) v11 [] l0_1 A0_1 l0_1.length c0_1 ok_ (fun _ => False) rfl rfl hR_ (Kd.zav HC1.out (HD1.out).bel) (fun _ _ h => h) (fun _ h => h.elim) hF_ (HD1.out).bel (HD1.out).size (by have := HLM.out; simp; omega) ?_
        intro v14 wd2 ho_ hb_ hg_ ha_; have HD2 := Aside0.mk (hX_ _ _ _ ho_ hg_); simp only [List.set_cons_zero, List.set_cons_succ] at HD2; clear ho_ hb_ hg_ ha_ hR_ hF_ hX_
        simp only [List.nil_append] at HD2
        refine hK.out _ _ ⟨(HD2.out).zam (i := 2) rfl 0 rfl, (HD2.out).zam (i := 2) rfl 1 rfl⟩ (fun hHeld => ?_)
        clear hK K
        refine norm_ (a' := ?_) ?_ ?_
        rotate_left
        · show Act.put _ (some 14) _ = _
          simp only [Act.put, List.setIfInBounds_toArray, List.set_cons_zero, List.set_cons_succ, i64_w, i32_w]
          rfl
        refine two_ (i := 8) (j := 12) (Ni := some 17) (Nj := some 8) #[true, true, true, true, true, true, true, true, true, false, false, false, false, false] #[true, true, true, true, true, true, true, true, false, false, false, false, true, false] rfl rfl rfl rfl (by kernel_rfl) (by decide) (by decide) (fun K hK => ?_) (fun K hK => ?_)
        · skip
          refine goes_ Try.func147 (by kernel_rfl) rfl #[.int .i64 a1, .int .i64 a2] (by rfl) rfl rfl (by simp only [List.map_toArray, List.map_cons, List.map_nil]; rfl) ?_
          with_reducible refine (HST.out _).mono ?_
          rintro e wd3 ⟨rfl, hb_⟩
          refine ⟨_, rfl, ?_⟩
          have HD3 := Aside0.mk ((HD2.out).below hb_)
          clear hb_
          refine hK.out _ _ ⟨(HD3.out).zam (i := 2) rfl 0 rfl, (HD3.out).zam (i := 2) rfl 1 rfl⟩ (fun hHeld => ?_)
          clear hK K
          refine norm_ (a' := ?_) ?_ ?_
          rotate_left
          · show Act.put _ (some 17) _ = _
            simp only [Act.put, List.setIfInBounds_toArray, List.set_cons_zero, List.set_cons_succ, i64_w, i32_w]
            rfl
          refine two_ (i := 9) (j := 12) (Ni := some 18) (Nj := some 8) #[true, true, true, true, true, true, true, true, true, true, false, false, false, false] #[true, true, true, true, true, true, true, true, true, false, false, false, true, false] rfl rfl rfl rfl (by kernel_rfl) (by decide) (by decide) (fun K hK => ?_) (fun K hK => ?_)
          · skip
            refine Kd.R_lit_step k117 (w0 := w) w.heap.size 117 ?hg (N := 18) ?hd (xs := ([(⟨x, y⟩ : S117)] : List S117)) (inner := [.int .i64 x, .int .i64 y]) (ok := fun k => wd3.heap.size ≤ k) (okp := fun k => wd3.heap.size ≤ k) ?hr ?hp (fun _ hk => hk) (Nat.le_refl _) (HD3.out).bel (HD3.out).size (by simp) ?_; (case hd => rfl); (case hg => rfl); (case hr => first | (go_simp; done) | (go_simp; rfl)); (case hp => exact (Reps.c2 (show Kd.M k117 _ _ _ (⟨x, y⟩ : S117) [.int .i64 x, .int .i64 y] from k117_mkM _ _ _ (⟨x, y⟩ : S117)) (Reps.none _ _)))
            intro v18 wd4 hr_ hb_ hg_ hn_; have HD4 := Aside0.mk ((HD3.out).row_lit hr_ hg_); clear hb_ hg_ hn_; clear hr_
            refine hK.out _ _ ⟨(HD4.out).zam (i := 3) rfl 0 rfl, (HD4.out).zam (i := 3) rfl 1 rfl⟩ (fun hHeld => ?_)
            clear hK K
            refine norm_ (a' := ?_) ?_ ?_
            rotate_left
            · show Act.put _ (some 18) _ = _
              simp only [Act.put, List.setIfInBounds_toArray, List.set_cons_zero, List.set_cons_succ, i64_w, i32_w]
              rfl
            refine two_ (i := 10) (j := 12) (Ni := some 19) (Nj := some 8) #[true, true, true, true, true, true, true, true, true, true, true, false, false, false] #[true, true, true, true, true, true, true, true, true, true, false, false, true, false] rfl rfl rfl rfl (by kernel_rfl) (by decide) (by decide) (fun K hK => ?_) (fun K hK => ?_)
            · skip
              obtain ⟨A8, c8, e8, hc8, hC8⟩ := (HD4.out).row_reads (i := 0) rfl
              obtain ⟨ok_, hR_, hF_, hX_⟩ := (HD4.out).row_append (i := 1) rfl
              refine Kd.R_append_rows_step k117 (w0 := w) w.heap.size (by rfl) (.tmp 14) (.tmp 18) 34 117 (.agg #[(.int .i64 0), (.int .i64 0)]) 16 rfl Try.underlying34 info117 rfl (by decide) (by omega) v14 l0_1 [(⟨x, y⟩ : S117)] A8 1 c8 ok_ (fun _ => False) rfl (by rw [show (Value.slice A8 1 c8) = v18 from e8.symm]; rfl) hR_ (hC8) (fun _ _ h => h) (fun _ h => h.elim) hF_ (HD4.out).bel (HD4.out).size (by have := HLM.out; omega) ?_
              intro v_ wd5 ho_ hb_ hg_ ha_; rw [HYS.out] at ho_; have HD5 := Aside0.mk (hX_ _ _ _ ho_ hg_); obtain ⟨A19, c19, rfl⟩ := Kd.zax ho_; simp only [List.set_cons_zero, List.set_cons_succ] at HD5; clear ho_ hb_ hg_ ha_ hR_ hF_ hX_
              clear hC8 hc8 e8
              refine hK.out _ _ ⟨(HD5.out).zam (i := 3) rfl 0 rfl, (HD5.out).zam (i := 3) rfl 1 rfl⟩ (fun hHeld => ?_)
              clear hK K
              refine norm_ (a' := ?_) ?_ ?_
              rotate_left
              · show Act.put _ (some 19) _ = _
                simp only [Act.put, List.setIfInBounds_toArray, List.set_cons_zero, List.set_cons_succ, i64_w, i32_w]
                rfl
              refine pure_ (i := 11) (N := some 20) (v := ?_) (a' := ?_) #[true, true, true, true, true, true, true, true, true, true, true, true, false, false] rfl rfl (by kernel_rfl) (fun _ _ _ h => h) (Or.inl ⟨by rfl, ?_⟩) ?_ ?_
              rotate_left
              · intro w'
                go_simp
                with_reducible rfl
              rotate_left
              · simp only [Act.put, List.setIfInBounds_toArray, List.set_cons_zero, List.set_cons_succ, i64_w, i32_w]
                rfl
              refine one_ (i := 12) (N := some 8) #[true, true, true, true, true, true, true, true, true, true, true, true, true, false] rfl rfl (by kernel_rfl) (by decide) (fun K hK => ?_)
              refine box_step ?hg (N := 8) ?hd (cs := #[.int .i64 0, .slice none 0 0, .slice none 0 0]) (t := 36) ?hr ?_; (case hd => rfl); (case hg => rfl); (case hr => first | (go_simp; done) | (go_simp; rfl))
              intro g8 hg_ wd6 hbox_ hb_; have HD6 := Aside0.mk ((HD5.out).box_new hbox_ hb_ hg_); clear hbox_ hb_ hg_
              refine hK.out _ _ ⟨(HD6.out).zam (i := 4) rfl 0 rfl, (HD6.out).zam (i := 4) rfl 1 rfl⟩ (fun hHeld => ?_)
              clear hK K
              refine norm_ (a' := ?_) ?_ ?_
              rotate_left
              · show Act.put _ (some 8) _ = _
                simp only [Act.put, List.setIfInBounds_toArray, List.set_cons_zero, List.set_cons_succ, i64_w, i32_w]
                rfl
              exact norm_ (by simp only [putAll, Act.put, List.setIfInBounds_toArray, List.set_cons_zero, List.set_cons_succ]) (hCont (v11, v14, v18, A19, c19, g8) _ (Fr.pick HD6.out [2, 0, 3, 4] (by decide) (by simp)))
            · skip
              refine box_step ?hg (N := 8) ?hd (cs := #[.int .i64 0, .slice none 0 0, .slice none 0 0]) (t := 36) ?hr ?_; (case hd => rfl); (case hg => rfl); (case hr => first | (go_simp; done) | (go_simp; rfl))
              intro g8 hg_ wd5 hbox_ hb_; have HD5 := Aside0.mk ((HD4.out).box_new hbox_ hb_ hg_); clear hbox_ hb_ hg_
              refine hK.out _ _ ⟨(HD5.out).zam (i := 4) rfl 0 rfl, (HD5.out).zam (i := 4) rfl 1 rfl⟩ (fun hHeld => ?_)
              clear hK K
              refine norm_ (a' := ?_) ?_ ?_
              rotate_left
              · show Act.put _ (some 8) _ = _
                simp only [Act.put, List.setIfInBounds_toArray, List.set_cons_zero, List.set_cons_succ, i64_w, i32_w]
                rfl
              refine one_ (i := 10) (N := some 19) #[true, true, true, true, true, true, true, true, true, true, true, false, true, false] rfl rfl (by kernel_rfl) (by decide) (fun K hK => ?_)
              obtain ⟨A8, c8, e8, hc8, hC8⟩ := (HD5.out).row_reads (i := 1) rfl
              obtain ⟨ok_, hR_, hF_, hX_⟩ := (HD5.out).row_append (i := 2) rfl
              refine Kd.R_append_rows_step k117 (w0 := w) w.heap.size (by rfl) (.tmp 14) (.tmp 18) 34 117 (.agg #[(.int .i64 0), (.int .i64 0)]) 16 rfl Try.underlying34 info117 rfl (by decide) (by omega) v14 l0_1 [(⟨x, y⟩ : S117)] A8 1 c8 ok_ (fun _ => False) rfl (by rw [show (Value.slice A8 1 c8) = v18 from e8.symm]; rfl) hR_ (hC8) (fun _ _ h => h) (fun _ h => h.elim) hF_ (HD5.out).bel (HD5.out).size (by have := HLM.out; omega) ?_
              intro v_ wd6 ho_ hb_ hg_ ha_; rw [HYS.out] at ho_; have HD6 := Aside0.mk (hX_ _ _ _ ho_ hg_); obtain ⟨A19, c19, rfl⟩ := Kd.zax ho_; simp only [List.set_cons_zero, List.set_cons_succ] at HD6; clear ho_ hb_ hg_ ha_ hR_ hF_ hX_
              clear hC8 hc8 e8
              refine hK.out _ _ ⟨(HD6.out).zam (i := 4) rfl 0 rfl, (HD6.out).zam (i := 4) rfl 1 rfl⟩ (fun hHeld => ?_)
              clear hK K
              refine norm_ (a' := ?_) ?_ ?_
              rotate_left
              · show Act.put _ (some 19) _ = _
                simp only [Act.put, List.setIfInBounds_toArray, List.set_cons_zero, List.set_cons_succ, i64_w, i32_w]
                rfl
              refine pure_ (i := 11) (N := some 20) (v := ?_) (a' := ?_) #[true, true, true, true, true, true, true, true, true, true, true, true, true, false] rfl rfl (by kernel_rfl) (fun _ _ _ h => h) (Or.inl ⟨by rfl, ?_⟩) ?_ ?_
              rotate_left
              · intro w'
                go_simp
                with_reducible rfl
              rotate_left
              · simp only [Act.put, List.setIfInBounds_toArray, List.set_cons_zero, List.set_cons_succ, i64_w, i32_w]
                rfl
              exact norm_ (by simp only [putAll, Act.put, List.setIfInBounds_toArray, List.set_cons_zero, List.set_cons_succ]) (hCont (v11, v14, v18, A19, c19, g8) _ (Fr.pick HD6.out [2, 0, 3, 4] (by decide) (by simp)))
          · skip
            refine box_step ?hg (N := 8) ?hd (cs := #[.int .i64 0, .slice none 0 0, .slice none 0 0]) (t := 36) ?hr ?_; (case hd => rfl); (case hg => rfl); (case hr => first | (go_simp; done) | (go_simp; rfl))
            intro g8 hg_ wd4 hbox_ hb_; have HD4 := Aside0.mk ((HD3.out).box_new hbox_ hb_ hg_); clear hbox_ hb_ hg_
            refine hK.out _ _ ⟨(HD4.out).zam (i := 3) rfl 0 rfl, (HD4.out).zam (i := 3) rfl 1 rfl⟩ (fun hHeld => ?_)
            clear hK K
            refine norm_ (a' := ?_) ?_ ?_
            rotate_left
            · show Act.put _ (some 8) _ = _
              simp only [Act.put, List.setIfInBounds_toArray, List.set_cons_zero, List.set_cons_succ, i64_w, i32_w]
              rfl
            refine one_ (i := 9) (N := some 18) #[true, true, true, true, true, true, true, true, true, true, false, false, true, false] rfl rfl (by kernel_rfl) (by decide) (fun K hK => ?_)
            refine Kd.R_lit_step k117 (w0 := w) w.heap.size 117 ?hg (N := 18) ?hd (xs := ([(⟨x, y⟩ : S117)] : List S117)) (inner := [.int .i64 x, .int .i64 y]) (ok := fun k => wd4.heap.size ≤ k) (okp := fun k => wd4.heap.size ≤ k) ?hr ?hp (fun _ hk => hk) (Nat.le_refl _) (HD4.out).bel (HD4.out).size (by simp) ?_; (case hd => rfl); (case hg => rfl); (case hr => first | (go_simp; done) | (go_simp; rfl)); (case hp => exact (Reps.c2 (show Kd.M k117 _ _ _ (⟨x, y⟩ : S117) [.int .i64 x, .int .i64 y] from k117_mkM _ _ _ (⟨x, y⟩ : S117)) (Reps.none _ _)))
            intro v18 wd5 hr_ hb_ hg_ hn_; have HD5 := Aside0.mk ((HD4.out).row_lit hr_ hg_); clear hb_ hg_ hn_; clear hr_
            refine hK.out _ _ ⟨(HD5.out).zam (i := 4) rfl 0 rfl, (HD5.out).zam (i := 4) rfl 1 rfl⟩ (fun hHeld => ?_)
            clear hK K
            refine norm_ (a' := ?_) ?_ ?_
            rotate_left
            · show Act.put _ (some 18) _ = _
              simp only [Act.put, List.setIfInBounds_toArray, List.set_cons_zero, List.set_cons_succ, i64_w, i32_w]
              rfl
            refine one_ (i := 10) (N := some 19) #[true, true, true, true, true, true, true, true, true, true, true, false, true, false] rfl rfl (by kernel_rfl) (by decide) (fun K hK => ?_)
            obtain ⟨A8, c8, e8, hc8, hC8⟩ := (HD5.out).row_reads (i := 0) rfl
            obtain ⟨ok_, hR_, hF_, hX_⟩ := (HD5.out).row_append (i := 2) rfl
            refine Kd.R_append_rows_step k117 (w0 := w) w.heap.size (by rfl) (.tmp 14) (.tmp 18) 34 117 (.agg #[(.int .i64 0), (.int .i64 0)]) 16 rfl Try.underlying34 info117 rfl (by decide) (by omega) v14 l0_1 [(⟨x, y⟩ : S117)] A8 1 c8 ok_ (fun _ => False) rfl (by rw [show (Value.slice A8 1 c8) = v18 from e8.symm]; rfl) hR_ (hC8) (fun _ _ h => h) (fun _ h => h.elim) hF_ (HD5.out).bel (HD5.out).size (by have := HLM.out; omega) ?_
            intro v_ wd6 ho_ hb_ hg_ ha_; rw [HYS.out] at ho_; have HD6 := Aside0.mk (hX_ _ _ _ ho_ hg_); obtain ⟨A19, c19, rfl⟩ := Kd.zax ho_; simp only [List.set_cons_zero, List.set_cons_succ] at HD6; clear ho_ hb_ hg_ ha_ hR_ hF_ hX_
            clear hC8 hc8 e8
            refine hK.out _ _ ⟨(HD6.out).zam (i := 4) rfl 0 rfl, (HD6.out).zam (i := 4) rfl 1 rfl⟩ (fun hHeld => ?_)
            clear hK K
            refine norm_ (a' := ?_) ?_ ?_
            rotate_left
            · show Act.put _ (some 19) _ = _
              simp only [Act.put, List.setIfInBounds_toArray, List.set_cons_zero, List.set_cons_succ, i64_w, i32_w]
              rfl
            refine pure_ (i := 11) (N := some 20) (v := ?_) (a' := ?_) #[true, true, true, true, true, true, true, true, true, true, true, true, true, false] rfl rfl (by kernel_rfl) (fun _ _ _ h => h) (Or.inl ⟨by rfl, ?_⟩) ?_ ?_
            rotate_left
            · intro w'
              go_simp
              with_reducible rfl
            rotate_left
            · simp only [Act.put, List.setIfInBounds_toArray, List.set_cons_zero, List.set_cons_succ, i64_w, i32_w]
              rfl
            exact norm_ (by simp only [putAll, Act.put, List.setIfInBounds_toArray, List.set_cons_zero, List.set_cons_succ]) (hCont (v11, v14, v18, A19, c19, g8) _ (Fr.pick HD6.out [2, 1, 3, 4] (by decide) (by simp)))
        · skip
          refine box_step ?hg (N := 8) ?hd (cs := #[.int .i64 0, .slice none 0 0, .slice none 0 0]) (t := 36) ?hr ?_; (case hd => rfl); (case hg => rfl); (case hr => first | (go_simp; done) | (go_simp; rfl))
          intro g8 hg_ wd3 hbox_ hb_; have HD3 := Aside0.mk ((HD2.out).box_new hbox_ hb_ hg_); clear hbox_ hb_ hg_
          refine hK.out _ _ ⟨(HD3.out).zam (i := 3) rfl 0 rfl, (HD3.out).zam (i := 3) rfl 1 rfl⟩ (fun hHeld => ?_)
          clear hK K
          refine norm_ (a' := ?_) ?_ ?_
          rotate_left
          · show Act.put _ (some 8) _ = _
            simp only [Act.put, List.setIfInBounds_toArray, List.set_cons_zero, List.set_cons_succ, i64_w, i32_w]
            rfl
          refine one_ (i := 8) (N := some 17) #[true, true, true, true, true, true, true, true, true, false, false, false, true, false] rfl rfl (by kernel_rfl) (by decide) (fun K hK => ?_)
          refine goes_ Try.func147 (by kernel_rfl) rfl #[.int .i64 a1, .int .i64 a2] (by rfl) rfl rfl (by simp only [List.map_toArray, List.map_cons, List.map_nil]; rfl) ?_
          with_reducible refine (HST.out _).mono ?_
          rintro e wd4 ⟨rfl, hb_⟩
          refine ⟨_, rfl, ?_⟩
          have HD4 := Aside0.mk ((HD3.out).below hb_)
          clear hb_
          refine hK.out _ _ ⟨(HD4.out).zam (i := 3) rfl 0 rfl, (HD4.out).zam (i := 3) rfl 1 rfl⟩ (fun hHeld => ?_)
          clear hK K
          refine norm_ (a' := ?_) ?_ ?_
          rotate_left
          · show Act.put _ (some 17) _ = _
            simp only [Act.put, List.setIfInBounds_toArray, List.set_cons_zero, List.set_cons_succ, i64_w, i32_w]
            rfl
          refine one_ (i := 9) (N := some 18) #[true, true, true, true, true, true, true, true, true, true, false, false, true, false] rfl rfl (by kernel_rfl) (by decide) (fun K hK => ?_)
          refine Kd.R_lit_step k117 (w0 := w) w.heap.size 117 ?hg (N := 18) ?hd (xs := ([(⟨x, y⟩ : S117)] : List S117)) (inner := [.int .i64 x, .int .i64 y]) (ok := fun k => wd4.heap.size ≤ k) (okp := fun k => wd4.heap.size ≤ k) ?hr ?hp (fun _ hk => hk) (Nat.le_refl _) (HD4.out).bel (HD4.out).size (by simp) ?_; (case hd => rfl); (case hg => rfl); (case hr => first | (go_simp; done) | (go_simp; rfl)); (case hp => exact (Reps.c2 (show Kd.M k117 _ _ _ (⟨x, y⟩ : S117) [.int .i64 x, .int .i64 y] from k117_mkM _ _ _ (⟨x, y⟩ : S117)) (Reps.none _ _)))
          intro v18 wd5 hr_ hb_ hg_ hn_; have HD5 := Aside0.mk ((HD4.out).row_lit hr_ hg_); clear hb_ hg_ hn_; clear hr_
          refine hK.out _ _ ⟨(HD5.out).zam (i := 4) rfl 0 rfl, (HD5.out).zam (i := 4) rfl 1 rfl⟩ (fun hHeld => ?_)
          clear hK K
          refine norm_ (a' := ?_) ?_ ?_
          rotate_left
          · show Act.put _ (some 18) _ = _
            simp only [Act.put, List.setIfInBounds_toArray, List.set_cons_zero, List.set_cons_succ, i64_w, i32_w]
            rfl
          refine one_ (i := 10) (N := some 19) #[true, true, true, true, true, true, true, true, true, true, true, false, true, false] rfl rfl (by kernel_rfl) (by decide) (fun K hK => ?_)
          obtain ⟨A8, c8, e8, hc8, hC8⟩ := (HD5.out).row_reads (i := 0) rfl
          obtain ⟨ok_, hR_, hF_, hX_⟩ := (HD5.out).row_append (i := 2) rfl
          refine Kd.R_append_rows_step k117 (w0 := w) w.heap.size (by rfl) (.tmp 14) (.tmp 18) 34 117 (.agg #[(.int .i64 0), (.int .i64 0)]) 16 rfl Try.underlying34 info117 rfl (by decide) (by omega) v14 l0_1 [(⟨x, y⟩ : S117)] A8 1 c8 ok_ (fun _ => False) rfl (by rw [show (Value.slice A8 1 c8) = v18 from e8.symm]; rfl) hR_ (hC8) (fun _ _ h => h) (fun _ h => h.elim) hF_ (HD5.out).bel (HD5.out).size (by have := HLM.out; omega) ?_
          intro v_ wd6 ho_ hb_ hg_ ha_; rw [HYS.out] at ho_; have HD6 := Aside0.mk (hX_ _ _ _ ho_ hg_); obtain ⟨A19, c19, rfl⟩ := Kd.zax ho_; simp only [List.set_cons_zero, List.set_cons_succ] at HD6; clear ho_ hb_ hg_ ha_ hR_ hF_ hX_
          clear hC8 hc8 e8
          refine hK.out _ _ ⟨(HD6.out).zam (i := 4) rfl 0 rfl, (HD6.out).zam (i := 4) rfl 1 rfl⟩ (fun hHeld => ?_)
          clear hK K
          refine norm_ (a' := ?_) ?_ ?_
          rotate_left
          · show Act.put _ (some 19) _ = _
            simp only [Act.put, List.setIfInBounds_toArray, List.set_cons_zero, List.set_cons_succ, i64_w, i32_w]
            rfl
          refine pure_ (i := 11) (N := some 20) (v := ?_) (a' := ?_) #[true, true, true, true, true, true, true, true, true, true, true, true, true, false] rfl rfl (by kernel_rfl) (fun _ _ _ h => h) (Or.inl ⟨by rfl, ?_⟩) ?_ ?_
          rotate_left
          · intro w'
            go_simp
            with_reducible rfl
          rotate_left
          · simp only [Act.put, List.setIfInBounds_toArray, List.set_cons_zero, List.set_cons_succ, i64_w, i32_w]
            rfl
          exact norm_ (by simp only [putAll, Act.put, List.setIfInBounds_toArray, List.set_cons_zero, List.set_cons_succ]) (hCont (v11, v14, v18, A19, c19, g8) _ (Fr.pick HD6.out [2, 1, 3, 4] (by decide) (by simp)))
      · skip
        refine box_step ?hg (N := 8) ?hd (cs := #[.int .i64 0, .slice none 0 0, .slice none 0 0]) (t := 36) ?hr ?_; (case hd => rfl); (case hg => rfl); (case hr => first | (go_simp; done) | (go_simp; rfl))
        intro g8 hg_ wd2 hbox_ hb_; have HD2 := Aside0.mk ((HD1.out).box_new hbox_ hb_ hg_); clear hbox_ hb_ hg_
        refine hK.out _ _ ⟨(HD2.out).zam (i := 3) rfl 0 rfl, (HD2.out).zam (i := 3) rfl 1 rfl⟩ (fun hHeld => ?_)
        clear hK K
        refine norm_ (a' := ?_) ?_ ?_
        rotate_left
        · show Act.put _ (some 8) _ = _
          simp only [Act.put, List.setIfInBounds_toArray, List.set_cons_zero, List.set_cons_succ, i64_w, i32_w]
          rfl
        refine one_ (i := 5) (N := some 14) #[true, true, true, true, true, true, true, true, false, false, false, false, true, false] rfl rfl (by kernel_rfl) (by decide) (fun K hK => ?_)
        obtain ⟨ok_, hR_, hF_, hX_⟩ := (HD2.out).row_append (i := 1) rfl
        refine Kd.R_append_rows_step k117 (w0 := w) w.heap.size (by rfl) (.tmp 11) (.tmp 13) 34 117 (.agg #[(.int .i64 0), (.int .i64 0)]) 16 rfl Try.underlying34 info117 rfl (by decide) (by omega) v11 [] l0_1 A0_1 l0_1.length c0_1 ok_ (fun _ => False) rfl rfl hR_ (Kd.zav HC1.out (HD2.out).bel) (fun _ _ h => h) (fun _ h => h.elim) hF_ (HD2.out).bel (HD2.out).size (by have := HLM.out; simp; omega) ?_
        intro v14 wd3 ho_ hb_ hg_ ha_; have HD3 := Aside0.mk (hX_ _ _ _ ho_ hg_); simp only [List.set_cons_zero, List.set_cons_succ] at HD3; clear ho_ hb_ hg_ ha_ hR_ hF_ hX_
        simp only [List.nil_append] at HD3
        refine hK.out _ _ ⟨(HD3.out).zam (i := 3) rfl 0 rfl, (HD3.out).zam (i := 3) rfl 1 rfl⟩ (fun hHeld => ?_)
        clear hK K
        refine norm_ (a' := ?_) ?_ ?_
        rotate_left
        · show Act.put _ (some 14) _ = _
          simp only [Act.put, List.setIfInBounds_toArray, List.set_cons_zero, List.set_cons_succ, i64_w, i32_w]
          rfl
        refine one_ (i := 8) (N := some 17) #[true, true, true, true, true, true, true, true, true, false, false, false, true, false] rfl rfl (by kernel_rfl) (by decide) (fun K hK => ?_)
        refine goes_ Try.func147 (by kernel_rfl) rfl #[.int .i64 a1, .int .i64 a2] (by rfl) rfl rfl (by simp only [List.map_toArray, List.map_cons, List.map_nil]; rfl) ?_
        with_reducible refine (HST.out _).mono ?_
        rintro e wd4 ⟨rfl, hb_⟩
        refine ⟨_, rfl, ?_⟩
        have HD4 := Aside0.mk ((HD3.out).below hb_)
        clear hb_
        refine hK.out _ _ ⟨(HD4.out).zam (i := 3) rfl 0 rfl, (HD4.out).zam (i := 3) rfl 1 rfl⟩ (fun hHeld => ?_)
        clear hK K
        refine norm_ (a' := ?_) ?_ ?_
        rotate_left
        · show Act.put _ (some 17) _ = _
          simp only [Act.put, List.setIfInBounds_toArray, List.set_cons_zero, List.set_cons_succ, i64_w, i32_w]
          rfl
        refine one_ (i := 9) (N := some 18) #[true, true, true, true, true, true, true, true, true, true, false, false, true, false] rfl rfl (by kernel_rfl) (by decide) (fun K hK => ?_)
        refine Kd.R_lit_step k117 (w0 := w) w.heap.size 117 ?hg (N := 18) ?hd (xs := ([(⟨x, y⟩ : S117)] : List S117)) (inner := [.int .i64 x, .int .i64 y]) (ok := fun k => wd4.heap.size ≤ k) (okp := fun k => wd4.heap.size ≤ k) ?hr ?hp (fun _ hk => hk) (Nat.le_refl _) (HD4.out).bel (HD4.out).size (by simp) ?_; (case hd => rfl); (case hg => rfl); (case hr => first | (go_simp; done) | (go_simp; rfl)); (case hp => exact (Reps.c2 (show Kd.M k117 _ _ _ (⟨x, y⟩ : S117) [.int .i64 x, .int .i64 y] from k117_mkM _ _ _ (⟨x, y⟩ : S117)) (Reps.none _ _)))
        intro v18 wd5 hr_ hb_ hg_ hn_; have HD5 := Aside0.mk ((HD4.out).row_lit hr_ hg_); clear hb_ hg_ hn_; clear hr_
        refine hK.out _ _ ⟨(HD5.out).zam (i := 4) rfl 0 rfl, (HD5.out).zam (i := 4) rfl 1 rfl⟩ (fun hHeld => ?_)
        clear hK K
        refine norm_ (a' := ?_) ?_ ?_
        rotate_left
        · show Act.put _ (some 18) _ = _
          simp only [Act.put, List.setIfInBounds_toArray, List.set_cons_zero, List.set_cons_succ, i64_w, i32_w]
          rfl
        refine one_ (i := 10) (N := some 19) #[true, true, true, true, true, true, true, true, true, true, true, false, true, false] rfl rfl (by kernel_rfl) (by decide) (fun K hK => ?_)
        obtain ⟨A8, c8, e8, hc8, hC8⟩ := (HD5.out).row_reads (i := 0) rfl
        obtain ⟨ok_, hR_, hF_, hX_⟩ := (HD5.out).row_append (i := 2) rfl
        refine Kd.R_append_rows_step k117 (w0 := w) w.heap.size (by rfl) (.tmp 14) (.tmp 18) 34 117 (.agg #[(.int .i64 0), (.int .i64 0)]) 16 rfl Try.underlying34 info117 rfl (by decide) (by omega) v14 l0_1 [(⟨x, y⟩ : S117)] A8 1 c8 ok_ (fun _ => False) rfl (by rw [show (Value.slice A8 1 c8) = v18 from e8.symm]; rfl) hR_ (hC8) (fun _ _ h => h) (fun _ h => h.elim) hF_ (HD5.out).bel (HD5.out).size (by have := HLM.out; omega) ?_
        intro v_ wd6 ho_ hb_ hg_ ha_; rw [HYS.out] at ho_; have HD6 := Aside0.mk (hX_ _ _ _ ho_ hg_); obtain ⟨A19, c19, rfl⟩ := Kd.zax ho_; simp only [List.set_cons_zero, List.set_cons_succ] at HD6; clear ho_ hb_ hg_ ha_ hR_ hF_ hX_
        clear hC8 hc8 e8
        refine hK.out _ _ ⟨(HD6.out).zam (i := 4) rfl 0 rfl, (HD6.out).zam (i := 4) rfl 1 rfl⟩ (fun hHeld => ?_)
        clear hK K
        refine norm_ (a' := ?_) ?_ ?_
        rotate_left
        · show Act.put _ (some 19) _ = _
          simp only [Act.put, List.setIfInBounds_toArray, List.set_cons_zero, List.set_cons_succ, i64_w, i32_w]
          rfl
        refine pure_ (i := 11) (N := some 20) (v := ?_) (a' := ?_) #[true, true, true, true, true, true, true, true, true, true, true, true, true, false] rfl rfl (by kernel_rfl) (fun _ _ _ h => h) (Or.inl ⟨by rfl, ?_⟩) ?_ ?_
        rotate_left
        · intro w'
          go_simp
          with_reducible rfl
        rotate_left
        · simp only [Act.put, List.setIfInBounds_toArray, List.set_cons_zero, List.set_cons_succ, i64_w, i32_w]
          rfl
        exact norm_ (by simp only [putAll, Act.put, List.setIfInBounds_toArray, List.set_cons_zero, List.set_cons_succ]) (hCont (v11, v14, v18, A19, c19, g8) _ (Fr.pick HD6.out [2, 1, 3, 4] (by decide) (by simp)))
    · skip
      refine box_step ?hg (N := 8) ?hd (cs := #[.int .i64 0, .slice none 0 0, .slice none 0 0]) (t := 36) ?hr ?_; (case hd => rfl); (case hg => rfl); (case hr => first | (go_simp; done) | (go_simp; rfl))
      intro g8 hg_ wd1 hbox_ hb_; have HD1 := Aside0.mk ((H2.out.drew).box_new hbox_ hb_ hg_); clear hbox_ hb_ hg_
      refine hK.out _ _ ⟨(HD1.out).zam (i := 2) rfl 0 rfl, (HD1.out).zam (i := 2) rfl 1 rfl⟩ (fun hHeld => ?_)
      clear hK K
      refine norm_ (a' := ?_) ?_ ?_
      rotate_left
      · show Act.put _ (some 8) _ = _
        simp only [Act.put, List.setIfInBounds_toArray, List.set_cons_zero, List.set_cons_succ, i64_w, i32_w]
        rfl
      refine one_ (i := 2) (N := some 11) #[true, true, true, true, true, false, true, true, false, false, false, false, true, false] rfl rfl (by kernel_rfl) (by decide) (fun K hK => ?_)
      refine Kd.R_lit_step k117 (w0 := w) w.heap.size 117 ?hg (N := 11) ?hd (xs := ([] : List S117)) (inner := []) (ok := fun k => wd1.heap.size ≤ k) (okp := fun k => wd1.heap.size ≤ k) ?hr ?hp (fun _ hk => hk) (Nat.le_refl _) (HD1.out).bel (HD1.out).size (by simp) ?_; (case hd => rfl); (case hg => rfl); (case hr => first | (go_simp; done) | (go_simp; rfl)); (case hp => exact (Reps.none _ _))
      intro v11 wd2 hr_ hb_ hg_ hn_; have HD2 := Aside0.mk ((HD1.out).row_lit hr_ hg_); clear hb_ hg_ hn_; clear hr_
      refine hK.out _ _ ⟨(HD2.out).zam (i := 3) rfl 0 rfl, (HD2.out).zam (i := 3) rfl 1 rfl⟩ (fun hHeld => ?_)
      clear hK K
      refine norm_ (a' := ?_) ?_ ?_
      rotate_left
      · show Act.put _ (some 11) _ = _
        simp only [Act.put, List.setIfInBounds_toArray, List.set_cons_zero, List.set_cons_succ, i64_w, i32_w]
        rfl
      refine one_ (i := 5) (N := some 14) #[true, true, true, true, true, true, true, true, false, false, false, false, true, false] rfl rfl (by kernel_rfl) (by decide) (fun K hK => ?_)
      obtain ⟨ok_, hR_, hF_, hX_⟩ := (HD2.out).row_append (i := 0) rfl
      refine Kd.R_append_rows_step k117 (w0 := w) w.heap.size (by rfl) (.tmp 11) (.tmp 13) 34 117 (.agg #[(.int .i64 0), (.int .i64 0)]) 16 rfl Try.underlying34 info117 rfl (by decide) (by omega) v11 [] l0_1 A0_1 l0_1.length c0_1 ok_ (fun _ => False) rfl rfl hR_ (Kd.zav HC1.out (HD2.out).bel) (fun _ _ h => h) (fun _ h => h.elim) hF_ (HD2.out).bel (HD2.out).size (by have := HLM.out; simp; omega) ?_
      intro v14 wd3 ho_ hb_ hg_ ha_; have HD3 := Aside0.mk (hX_ _ _ _ ho_ hg_); simp only [List.set_cons_zero, List.set_cons_succ] at HD3; clear ho_ hb_ hg_ ha_ hR_ hF_ hX_
      simp only [List.nil_append] at HD3
      refine hK.out _ _ ⟨(HD3.out).zam (i := 3) rfl 0 rfl, (HD3.out).zam (i := 3) rfl 1 rfl⟩ (fun hHeld => ?_)
      clear hK K
      refine norm_ (a' := ?_) ?_ ?_
      rotate_left
      · show Act.put _ (some 14) _ = _
        simp only [Act.put, List.setIfInBounds_toArray, List.set_cons_zero, List.set_cons_succ, i64_w, i32_w]
        rfl
      refine one_ (i := 8) (N := some 17) #[true, true, true, true, true, true, true, true, true, false, false, false, true, false] rfl rfl (by kernel_rfl) (by decide) (fun K hK => ?_)
      refine goes_ Try.func147 (by kernel_rfl) rfl #[.int .i64 a1, .int .i64 a2] (by rfl) rfl rfl (by simp only [List.map_toArray, List.map_cons, List.map_nil]; rfl) ?_
      with_reducible refine (HST.out _).mono ?_
      rintro e wd4 ⟨rfl, hb_⟩
      refine ⟨_, rfl, ?_⟩
      have HD4 := Aside0.mk ((HD3.out).below hb_)
      clear hb_
      refine hK.out _ _ ⟨(HD4.out).zam (i := 3) rfl 0 rfl, (HD4.out).zam (i := 3) rfl 1 rfl⟩ (fun hHeld => ?_)
      clear hK K
      refine norm_ (a' := ?_) ?_ ?_
      rotate_left
      · show Act.put _ (some 17) _ = _
        simp only [Act.put, List.setIfInBounds_toArray, List.set_cons_zero, List.set_cons_succ, i64_w, i32_w]
        rfl
      refine one_ (i := 9) (N := some 18) #[true, true, true, true, true, true, true, true, true, true, false, false, true, false] rfl rfl (by kernel_rfl) (by decide) (fun K hK => ?_)
      refine Kd.R_lit_step k117 (w0 := w) w.heap.size 117 ?hg (N := 18) ?hd (xs := ([(⟨x, y⟩ : S117)] : List S117)) (inner := [.int .i64 x, .int .i64 y]) (ok := fun k => wd4.heap.size ≤ k) (okp := fun k => wd4.heap.size ≤ k) ?hr ?hp (fun _ hk => hk) (Nat.le_refl _) (HD4.out).bel (HD4.out).size (by simp) ?_; (case hd => rfl); (case hg => rfl); (case hr => first | (go_simp; done) | (go_simp; rfl)); (case hp => exact (Reps.c2 (show Kd.M k117 _ _ _ (⟨x, y⟩ : S117) [.int .i64 x, .int .i64 y] from k117_mkM _ _ _ (⟨x, y⟩ : S117)) (Reps.none _ _)))
      intro v18 wd5 hr_ hb_ hg_ hn_; have HD5 := Aside0.mk ((HD4.out).row_lit hr_ hg_); clear hb_ hg_ hn_; clear hr_
      refine hK.out _ _ ⟨(HD5.out).zam (i := 4) rfl 0 rfl, (HD5.out).zam (i := 4) rfl 1 rfl⟩ (fun hHeld => ?_)
      clear hK K
      refine norm_ (a' := ?_) ?_ ?_
      rotate_left
      · show Act.put _ (some 18) _ = _
        simp only [Act.put, List.setIfInBounds_toArray, List.set_cons_zero, List.set_cons_succ, i64_w, i32_w]
        rfl
      refine one_ (i := 10) (N := some 19) #[true, true, true, true, true, true, true, true, true, true, true, false, true, false] rfl rfl (by kernel_rfl) (by decide) (fun K hK => ?_)
      obtain ⟨A8, c8, e8, hc8, hC8⟩ := (HD5.out).row_reads (i := 0) rfl
      obtain ⟨ok_, hR_, hF_, hX_⟩ := (HD5.out).row_append (i := 1) rfl
      refine Kd.R_append_rows_step k117 (w0 := w) w.heap.size (by rfl) (.tmp 14) (.tmp 18) 34 117 (.agg #[(.int .i64 0), (.int .i64 0)]) 16 rfl Try.underlying34 info117 rfl (by decide) (by omega) v14 l0_1 [(⟨x, y⟩ : S117)] A8 1 c8 ok_ (fun _ => False) rfl (by rw [show (Value.slice A8 1 c8) = v18 from e8.symm]; rfl) hR_ (hC8) (fun _ _ h => h) (fun _ h => h.elim) hF_ (HD5.out).bel (HD5.out).size (by have := HLM.out; omega) ?_
      intro v_ wd6 ho_ hb_ hg_ ha_; rw [HYS.out] at ho_; have HD6 := Aside0.mk (hX_ _ _ _ ho_ hg_); obtain ⟨A19, c19, rfl⟩ := Kd.zax ho_; simp only [List.set_cons_zero, List.set_cons_succ] at HD6; clear ho_ hb_ hg_ ha_ hR_ hF_ hX_
      clear hC8 hc8 e8
      refine hK.out _ _ ⟨(HD6.out).zam (i := 4) rfl 0 rfl, (HD6.out).zam (i := 4) rfl 1 rfl⟩ (fun hHeld => ?_)
      clear hK K
      refine norm_ (a' := ?_) ?_ ?_
      rotate_left
      · show Act.put _ (some 19) _ = _
        simp only [Act.put, List.setIfInBounds_toArray, List.set_cons_zero, List.set_cons_succ, i64_w, i32_w]
        rfl
      refine pure_ (i := 11) (N := some 20) (v := ?_) (a' := ?_) #[true, true, true, true, true, true, true, true, true, true, true, true, true, false] rfl rfl (by kernel_rfl) (fun _ _ _ h => h) (Or.inl ⟨by rfl, ?_⟩) ?_ ?_
      rotate_left
      · intro w'
        go_simp
        with_reducible rfl
      rotate_left
      · simp only [Act.put, List.setIfInBounds_toArray, List.set_cons_zero, List.set_cons_succ, i64_w, i32_w]
        rfl
      exact norm_ (by simp only [putAll, Act.put, List.setIfInBounds_toArray, List.set_cons_zero, List.set_cons_succ]) (hCont (v11, v14, v18, A19, c19, g8) _ (Fr.pick HD6.out [1, 2, 3, 4] (by decide) (by simp)))
  rintro ⟨v11, v14, v18, A19, c19, g8⟩ w3 h_
  have H3 := Aside0.mk (show Fr w w (fun _ => False) [row k117 117 (.slice A19 ys.length c19) ys, box g8 36 #[.int .i64 0, .slice none 0 0, .slice none 0 0], box g6 36 #[.int .i64 0, .slice none 0 0, .slice none 0 0], box g3 36 #[.int .i64 a0_0, .slice A0_1 l0_1.length c0_1, .slice A0_2 l0_2.length c0_2]] w3 from h_)
  clear h_
  refine norm_ (a' := ?_) ?_ ?_
  rotate_left
  · simp only [putAll, Act.put, List.setIfInBounds_toArray, List.set_cons_zero, List.set_cons_succ]
    rfl
  refine last_ (i := 13) (N := none) #[true, true, true, true, true, true, true, true, true, true, true, true, true, true] rfl rfl (by kernel_rfl) (by decide) (fun K hK => ?_)
  have s8_0 : w3.cell? ⟨g8, 0, none⟩ = some (.int .i64 0) := H3.out.zam (i := 1) rfl 0 rfl
  have s8_1 : w3.cell? ⟨g8, 1, none⟩ = some (.slice none 0 0) := H3.out.zam (i := 1) rfl 1 rfl
  have s8_2 : w3.cell? ⟨g8, 2, none⟩ = some (.slice none 0 0) := H3.out.zam (i := 1) rfl 2 rfl
  have q8_0 := za4 (H3.out.box_at (i := 1) rfl) 0
  have q8_1 := za4 (H3.out.box_at (i := 1) rfl) 1
  have q8_2 := za4 (H3.out.box_at (i := 1) rfl) 2
  refine skip_ (w1 := ?_) (by rfl) rfl ?_ ?_
  rotate_left
  · go_simp
    rfl
  refine hK.out _ _ ?_
  clear hK K
  refine done_ (by kernel_rfl) ?_
  have h4 := ((H3.out.box_set (i := 1) rfl 0 (.int .i64 a0_0) rfl).box_set (i := 1) rfl 1 (.slice A19 ys.length c19) rfl).box_set (i := 1) rfl 2 (.slice none 0 0) rfl
  simp only [List.set_cons_succ, List.set_cons_zero] at h4
  generalize ((w3.setCell ⟨g8, 0, none⟩ (.int .i64 a0_0)).setCell ⟨g8, 1, none⟩ (.slice A19 ys.length c19)).setCell ⟨g8, 2, none⟩ (.slice none 0 0) = w4 at h4 ⊢
  have H4 := Aside0.mk h4
  clear h4 H3 hHeld H2 H1 s8_0 q8_0 s8_1 q8_1 s8_2 q8_2
  go_wp2_with fail
  refine start_ (n := 9) (S := fun w' => w'.cell? ⟨g8, 0, none⟩ = some (.int .i64 a0_0) ∧ w'.cell? ⟨g8, 1, none⟩ = some (.slice A19 ys.length c19) ∧ w'.cell? ⟨g8, 2, none⟩ = some (.slice none 0 0) ∧ w'.cell? ⟨g3, 0, none⟩ = some (.int .i64 a0_0) ∧ w'.cell? ⟨g3, 1, none⟩ = some (.slice A0_1 l0_1.length c0_1)) (ds := []) #[false, false, false, false, false, false, false, false, false] (by kernel_rfl) rfl rfl ⟨(H4.out.drew).zam (i := 1) rfl 0 rfl, (H4.out.drew).zam (i := 1) rfl 1 rfl, (H4.out.drew).zam (i := 1) rfl 2 rfl, (H4.out.drew).zam (i := 3) rfl 0 rfl, (H4.out.drew).zam (i := 3) rfl 1 rfl⟩ (fun hHeld => ?_)
  refine pure_ (i := 1) (N := some 22) (v := ?_) (a' := ?_) #[false, true, false, false, false, false, false, false, false] rfl rfl (by kernel_rfl) (fun _ _ _ h => h) (Or.inl ⟨by rfl, ?_⟩) ?_ ?_
  rotate_left
  · intro w'
    go_simp
    with_reducible rfl
  rotate_left
  · simp only [Act.put, List.setIfInBounds_toArray, List.set_cons_zero, List.set_cons_succ, i64_w, i32_w]
    rfl
  refine pure_ (i := 3) (N := some 24) (v := ?_) (a' := ?_) #[false, true, false, true, false, false, false, false, false] rfl rfl (by kernel_rfl) (fun _ _ _ h => h) (Or.inl ⟨by rfl, ?_⟩) ?_ ?_
  rotate_left
  · intro w'
    go_simp
    with_reducible rfl
  rotate_left
  · simp only [Act.put, List.setIfInBounds_toArray, List.set_cons_zero, List.set_cons_succ, i64_w, i32_w]
    rfl
  refine take_ (i := 0) (N := some 21) (v := ?_) (a' := ?_) #[true, true, false, true, false, false, false, false, false] rfl rfl (by kernel_rfl) (fun _ _ _ h => h) (Or.inl ⟨by rfl, ?_⟩) hHeld ?_ ?_
  rotate_left
  · rintro w' ⟨s0, s1, s2, s3, s4⟩
    go_simp
    with_reducible rfl
  rotate_left
  · simp only [Act.put, List.setIfInBounds_toArray, List.set_cons_zero, List.set_cons_succ, i64_w, i32_w]
    rfl
  refine take_ (i := 2) (N := some 23) (v := ?_) (a' := ?_) #[true, true, true, true, false, false, false, false, false] rfl rfl (by kernel_rfl) (fun _ _ _ h => h) (Or.inl ⟨by rfl, ?_⟩) hHeld ?_ ?_
  rotate_left
  · rintro w' ⟨s0, s1, s2, s3, s4⟩
    go_simp
    with_reducible rfl
  rotate_left
  · simp only [Act.put, List.setIfInBounds_toArray, List.set_cons_zero, List.set_cons_succ, i64_w, i32_w]
    rfl
  refine take_ (i := 4) (N := some 25) (v := ?_) (a' := ?_) #[true, true, true, true, true, false, false, false, false] rfl rfl (by kernel_rfl) (fun _ _ _ h => h) (Or.inl ⟨by rfl, ?_⟩) hHeld ?_ ?_
  rotate_left
  · rintro w' ⟨s0, s1, s2, s3, s4⟩
    go_simp
    with_reducible rfl
  rotate_left
  · simp only [Act.put, List.setIfInBounds_toArray, List.set_cons_zero, List.set_cons_succ, i64_w, i32_w]
    rfl
  refine pure_ (i := 5) (N := some 26) (v := ?_) (a' := ?_) #[true, true, true, true, true, true, false, false, false] rfl rfl (by kernel_rfl) (fun _ _ _ h => h) (Or.inl ⟨by rfl, ?_⟩) ?_ ?_
  rotate_left
  · intro w'
    go_simp
    with_reducible rfl
  rotate_left
  · simp only [Act.put, List.setIfInBounds_toArray, List.set_cons_zero, List.set_cons_succ, i64_w, i32_w]
    rfl
  refine pure_ (i := 6) (N := some 27) (v := ?_) (a' := ?_) #[true, true, true, true, true, true, true, false, false] rfl rfl (by kernel_rfl) (fun _ _ _ h => h) (Or.inl ⟨by rfl, ?_⟩) ?_ ?_
  rotate_left
  · intro w'
    go_simp
    with_reducible rfl
  rotate_left
  · simp only [Act.put, List.setIfInBounds_toArray, List.set_cons_zero, List.set_cons_succ, i64_w, i32_w]
    rfl
  refine one_ (i := 7) (N := none) #[true, true, true, true, true, true, true, true, false] rfl rfl (by kernel_rfl) (by decide) (fun K hK => ?_)
  have s6_0 : w4.cell? ⟨g6, 0, none⟩ = some (.int .i64 0) := H4.out.zam (i := 2) rfl 0 rfl
  have s6_1 : w4.cell? ⟨g6, 1, none⟩ = some (.slice none 0 0) := H4.out.zam (i := 2) rfl 1 rfl
  have s6_2 : w4.cell? ⟨g6, 2, none⟩ = some (.slice none 0 0) := H4.out.zam (i := 2) rfl 2 rfl
  have q6_0 := za4 (H4.out.box_at (i := 2) rfl) 0
  have q6_1 := za4 (H4.out.box_at (i := 2) rfl) 1
  have q6_2 := za4 (H4.out.box_at (i := 2) rfl) 2
  refine skip_ (w1 := ?_) (by rfl) rfl ?_ ?_
  rotate_left
  · go_simp
    rfl
  have h5 := ((H4.out.box_set (i := 2) rfl 0 (.int .i64 a0_0) rfl).box_set (i := 2) rfl 1 (.slice A19 ys.length c19) rfl).box_set (i := 2) rfl 2 (.slice none 0 0) rfl
  simp only [List.set_cons_succ, List.set_cons_zero] at h5
  refine hK.out _ _ ⟨h5.drew.zam (i := 1) rfl 0 rfl, h5.drew.zam (i := 1) rfl 1 rfl, h5.drew.zam (i := 1) rfl 2 rfl, h5.drew.zam (i := 3) rfl 0 rfl, h5.drew.zam (i := 3) rfl 1 rfl⟩ (fun hHeld => ?_)
  clear hK K
  refine pure_ (i := 8) (N := some 7) (v := ?_) (a' := ?_) #[true, true, true, true, true, true, true, true, true] rfl rfl (by kernel_rfl) (fun _ _ _ h => h) (Or.inl ⟨by rfl, ?_⟩) ?_ ?_
  rotate_left
  · intro w'
    go_simp
    with_reducible rfl
  rotate_left
  · simp only [Act.put, List.setIfInBounds_toArray, List.set_cons_zero, List.set_cons_succ, i64_w, i32_w]
    rfl
  refine done_ (by kernel_rfl) ?_
  go_wp2
  have h6 := h5.drew
  refine bodyPost_ret (results_ct rfl _ _ g6 36 #[.int .i64 a0_0, .slice A19 ys.length c19, .slice none 0 0] (0, 0) _ rfl (h6.box_at (i := 2) rfl) Try.underlying36 rfl (by kernel_rfl)) rfl ?_
  exact ⟨_, _, rfl, h6.row_R (i := 0) rfl, Kd.R_nil _ _ _ _ _, h6.bel⟩

/-! ### spec_meDigits: function 81 -/
def spec_meDigits.l0 : Nat → Int → Int → List Int → Option (List Int)
  | 0, _, _, _ => none
  | k + 1, x0, x1, x5 => if x0 > 0 then (if x1 = 0 then (none) else (if x5.length < 17592186044416 then (spec_meDigits.l0 k (wrap64 (Int.tdiv x0 x1)) x1 (x5 ++ [Int.tmod x0 x1])) else (none))) else (some x5)
def spec_meDigits.f (k : Nat) (a0 : Int) (a1 : Int) : Option (List Int) := spec_meDigits.l0 k a0 a1 ([] : List Int)
theorem spec_meDigits.zb2 : ∀ k, (∀ y0 y1 y2, LeO (spec_meDigits.l0 k y0 y1 y2) (spec_meDigits.l0 (k + 1) y0 y1 y2))
  | 0 => fun _ _ _ r h => by simp [spec_meDigits.l0] at h
  | k + 1 => by
    have ih0 := spec_meDigits.zb2 k
    · intro y0 y1 y2
      unfold spec_meDigits.l0
      repeat' first
      | (with_reducible exact ih0 _ _ _)
      | (with_reducible exact LeO.refl _)
      | (with_reducible exact LeO.none _)
      | (with_reducible refine LeO.ite ?_ ?_)
      | (with_reducible refine LeO.bind ?_ (fun _ => ?_))
      | exact ih0 _ _ _
      | exact LeO.none _
      | refine LeO.ite ?_ ?_
      | refine LeO.bind ?_ (fun _ => ?_)
theorem spec_meDigits.mono : ∀ a0 a1 k, LeO (spec_meDigits.f k a0 a1) (spec_meDigits.f (k + 1) a0 a1) := by
  intro a0 a1 k
  have ih0 := spec_meDigits.zb2 k
  unfold spec_meDigits.f
  repeat' first
      | (with_reducible exact ih0 _ _ _)
      | (with_reducible exact LeO.refl _)
      | (with_reducible exact LeO.none _)
      | (with_reducible refine LeO.ite ?_ ?_)
      | (with_reducible refine LeO.bind ?_ (fun _ => ?_))
      | exact ih0 _ _ _
      | exact LeO.none _
      | refine LeO.ite ?_ ?_
      | refine LeO.bind ?_ (fun _ => ?_)
set_option maxHeartbeats 8000000 in
set_option maxRecDepth 100000 in
theorem spec_meDigits.calls (k : Nat) (a0 : Int) (a1 : Int) (r : List Int) (w : World) (h : spec_meDigits.f k a0 a1 = some r) :
    Calls Try.prog 81 #[.int .i64 a0, .int .i64 a1] w fun e w' => ∃ v0_ : Value, e = .returned (v0_) ∧ Kd.R (Kd.int .i64) 3 w' w.heap.size (fun _ => True) v0_ r ∧ Below w.heap.size w w' := by
  have HB := Aside0.mk (Below.refl w.heap.size w)
  have H : (spec_meDigits.l0 k a0 a1 ([] : List Int)) = some r := h
  clear h
  have H' := Aside0.mk H
  clear H
  go_enter Try.func81, Try.ntmps81
  go_wp2
  go_loopg [0, 5] k (fun kq v0 v5 w' => ∃ (x0_1 : Int) (x5_1 : List Int), v0 = .int .i64 x0_1 ∧ Aside0 (spec_meDigits.l0 kq x0_1 a1 x5_1 = some r) ∧ Aside0 (kq ≤ k) ∧ Aside0 (Kd.R (Kd.int .i64) 3 w' w.heap.size (fun _ => True) v5 x5_1) ∧ Aside0 (Below w.heap.size w w'))
  case atStart => exact ⟨(a0), (([] : List Int)), (by first | rfl | (simp; done) | (simp [*]; done)), H', ⟨Nat.le_refl _⟩, ⟨by first | exact Kd.R_nil _ _ _ _ _ | exact Kd.N_nil _ _ _ _ _ | exact Kd.V_nil _ _ _ _ _ | exact Kd.Q_nil _ _ _ _ _ | exact Kd.S_nil _ _ _ _ _⟩, ⟨by repeat (first | (with_reducible first | exact HB.out | apply za1 | apply za0 | apply za2) | exact HB.out)⟩⟩
  case round =>
    clear H'
    try clear p2
    obtain ⟨x0_1, x5_1, rfl, HA, HK1, HO_5, HB⟩ := hrel
    cases gk with
    | zero => exact absurd HA.out (by simp [spec_meDigits.l0])
    | succ k1 =>
      have H := HA.out
      clear HA
      simp only [spec_meDigits.l0] at H
      by_cases c3 : x0_1 > 0
      · rw [if_pos c3] at H
        have c3b0 : decide (0 < x0_1) = true := decide_eq_true c3
        clear c3
        by_cases c4 : a1 = 0
        · rw [if_pos c4] at H
          exact absurd H (by simp)
        · rw [if_neg c4] at H
          have c4b0 : (a1 == 0) = false := beq_eq_false_iff_ne.mpr c4
          have c4b1 : (a1 != 0) = true := bne_iff_ne.mpr c4
          by_cases c5 : x5_1.length < 17592186044416
          · rw [if_pos c5] at H
            have LMc5 := Aside0.mk c5
            clear c5
            obtain ⟨y626, hy626⟩ : ∃ y_ : List Int, y_ = (x5_1 ++ [Int.tmod x0_1 a1]) := ⟨_, rfl⟩
            replace H : (spec_meDigits.l0 k1 (wrap64 (Int.tdiv x0_1 a1)) a1 y626) = some r := by first | (rw [hy626]; with_reducible exact H) | (have H2_ := (Option.bind_some _ _).symm.trans H; rw [hy626]; with_reducible exact H2_) | (have H2_ := (Option.bind_some _ _).symm.trans H; with_reducible exact H2_) | with_reducible exact H | (rw [hy626]; exact H) | exact H
            have Ny626 := Aside0.mk hy626
            clear hy626
            have H' := Aside0.mk H
            clear H
            go_wp2_with (first | ((with_reducible refine gate_builtin (b := .append) (xs := #[.tmp 11, .tmp 15]) rfl ?_); at_builtin; refine Kd.R_append (Kd.int .i64) (w0 := w) w.heap.size rfl (.tmp 11) (.tmp 15) 22 3 (.int .i64 0) 8 rfl Try.underlying22 info3 rfl (by decide) (by omega) u5 x5_1 (Int.tmod x0_1 a1) [.int .i64 (Int.tmod x0_1 a1)] (fun _ => True) (fun _ => False) rfl rfl ?aP (fun _ hk => hk.elim) ?aF ?aO ?aB ?aS ?aL ?_; (case aP => exact rfl); (case aB => exact (by repeat (first | (with_reducible first | exact HB.out | apply za1 | apply za0 | apply za2) | exact HB.out))); (case aF => exact (fun _ _ => trivial)); (case aO => exact (by (with_reducible repeat (first | apply Kd.za9 | apply Kd.zaa | apply Kd.zac)); exact HO_5.out)); (case aS => exact (zad (by repeat (first | (with_reducible first | exact HB.out | apply za1 | apply za0 | apply za2) | exact HB.out)))); (case aL => have := LMc5.out; omega); intro v627 w6 ho hb hg hat; rw [← Ny626.out] at ho; have n0_ := Aside0.mk (hb); have n1_ := Aside0.mk (ho); clear HB; clear HO_5; have HB := n0_; have HO628 := n1_; clear n0_ n1_; clear ho hb hg hat))
            go_roundg k1
            case measure => have := HK1.out; omega
            case rel => exact ⟨(wrap64 (Int.tdiv x0_1 a1)), (y626), (by first | rfl | (simp; done) | (simp [*]; done)), H', ⟨by have := HK1.out; omega⟩, ⟨by (with_reducible repeat (first | apply Kd.za9 | apply Kd.zaa | apply Kd.zac)); exact HO628.out⟩, ⟨by repeat (first | (with_reducible first | exact HB.out | apply za1 | apply za0 | apply za2) | exact HB.out)⟩⟩
          · rw [if_neg c5] at H
            exact absurd H (by simp)
      · rw [if_neg c3] at H
        have c3b0 : decide (0 < x0_1) = false := decide_eq_false c3
        clear c3
        obtain rfl := Option.some.inj H
        go_wp2
        go_ret
        exact ⟨_, by first | rfl | (simp [zai, zaj] <;> rfl) | (simp [*, zai, zaj] <;> rfl), by (with_reducible repeat (first | apply Kd.za9 | apply Kd.zaa | apply Kd.zac)); exact HO_5.out, by repeat (first | (with_reducible first | exact HB.out | apply za1 | apply za0 | apply za2) | exact HB.out)⟩

/-! ### spec_plIf: function 82 -/
def spec_plIf.f (k : Nat) (a0_0 : Int) (l0_1 : List (S117)) (l0_2 : List Int) : Option (Int × (List (S117)) × List Int × Bool) := (spec_plGood.f k a0_0 l0_1 l0_2).bind fun t631 => (if t631 = true then (some (a0_0, l0_1, l0_2, true)) else (some (0, ([] : List (S117)), ([] : List Int), false)))
theorem spec_plIf.mono : ∀ a0 a1 a2 k, LeO (spec_plIf.f k a0 a1 a2) (spec_plIf.f (k + 1) a0 a1 a2) := by
  intro a0 a1 a2 k
  unfold spec_plIf.f
  repeat' first
      | (with_reducible exact spec_plGood.mono _ _ _ _)
      | (with_reducible exact LeO.refl _)
      | (with_reducible exact LeO.none _)
      | (with_reducible refine LeO.ite ?_ ?_)
      | (with_reducible refine LeO.bind ?_ (fun _ => ?_))
      | exact spec_plGood.mono _ _ _ _
      | exact LeO.none _
      | refine LeO.ite ?_ ?_
      | refine LeO.bind ?_ (fun _ => ?_)
set_option maxHeartbeats 8000000 in
set_option maxRecDepth 100000 in
theorem spec_plIf.calls (k : Nat) (a0_0 : Int) (P0_1_ : Nat → Prop) (u9000_ : Value) (l0_1 : List (S117)) (P0_2_ : Nat → Prop) (u9001_ : Value) (l0_2 : List Int) (r1 : Int) (r2 : List (S117)) (r3 : List Int) (r4 : Bool) (w0 w : World) (hB : Below w0.heap.size w0 w) (ho0_1 : Kd.R k117 117 w w0.heap.size P0_1_ u9000_ l0_1) (ho0_2 : Kd.R (Kd.int .i64) 3 w w0.heap.size P0_2_ u9001_ l0_2) (h : spec_plIf.f k a0_0 l0_1 l0_2 = some (r1, r2, r3, r4)) :
    Calls Try.prog 82 #[.agg #[.int .i64 a0_0, u9000_, u9001_]] w fun e w' => ∃ v1_ v2_ : Value, e = .returned (.tuple #[.agg #[.int .i64 r1, v1_, v2_], .bool r4]) ∧ Kd.R k117 117 w' w0.heap.size (fun k_ => ((P0_1_ k_ ∨ P0_2_ k_) ∨ w.heap.size ≤ k_)) v1_ r2 ∧ Kd.R (Kd.int .i64) 3 w' w0.heap.size (fun k_ => ((P0_1_ k_ ∨ P0_2_ k_) ∨ w.heap.size ≤ k_)) v2_ r3 ∧ Below w0.heap.size w0 w' ∧ Kept w w' (fun k_ => P0_1_ k_ ∨ P0_2_ k_) := by
  have hu36 := Try.underlying36
  have HO0_1 := Aside0.mk (show Kd.R k117 117 w w0.heap.size (fun k_ => ((P0_1_ k_ ∨ P0_2_ k_) ∨ w.heap.size ≤ k_)) u9000_ l0_1 from Kd.zak ho0_1 (fun k_ hk => (.inl (.inl hk))))
  have HO0_2 := Aside0.mk (show Kd.R (Kd.int .i64) 3 w w0.heap.size (fun k_ => ((P0_1_ k_ ∨ P0_2_ k_) ∨ w.heap.size ≤ k_)) u9001_ l0_2 from Kd.zak ho0_2 (fun k_ hk => (.inl (.inr hk))))
  have HK := Aside0.mk (Kept.refl w (fun k_ => P0_1_ k_ ∨ P0_2_ k_))
  have HW0 := Aside0.mk hB.size
  have HB := Aside0.mk hB
  clear hB
  have H : ((spec_plGood.f k a0_0 l0_1 l0_2).bind fun t631 => (if t631 = true then (some (a0_0, l0_1, l0_2, true)) else (some (0, ([] : List (S117)), ([] : List Int), false)))) = some (r1, r2, r3, r4) := h
  clear h
  replace H := Option.bind_eq_some_iff.mp H
  obtain ⟨t631, A20, H⟩ := H
  replace H : (if t631 = true then (some (a0_0, l0_1, l0_2, true)) else (some (0, ([] : List (S117)), ([] : List Int), false))) = some (r1, r2, r3, r4) := H
  have A2 := Aside0.mk A20
  clear A20
  by_cases c3 : t631 = true
  · subst c3
    have H1 : (some (a0_0, l0_1, l0_2, true)) = some (r1, r2, r3, r4) := by rw [if_pos rfl] at H; exact H
    clear H
    have H := H1
    clear H1
    simp only [Option.some.injEq, Prod.mk.injEq] at H
    obtain ⟨rfl, rfl, rfl, rfl⟩ := H
    obtain ⟨Ao4, co4, eo4⟩ := Kd.zax HO0_1.out
    subst eo4
    obtain ⟨Ao5, co5, eo5⟩ := Kd.zax HO0_2.out
    subst eo5
    go_enter Try.func82, Try.ntmps82
    go_wp2_with (first | ((with_reducible refine zaq (N := 1) rfl ?_); refine zan ?hg (N := 1) ?hd (cs := #[.int .i64 a0_0, .slice Ao4 l0_1.length co4, .slice Ao5 l0_2.length co5]) (t := 36) ?hr ?_; (case hd => rfl); (case hg => rfl); (case hr => first | (go_simp; done) | (go_simp; rfl)); intro gb629 hg w6 hbox hb; have n0_ := Aside0.mk (Kd.zal (by (with_reducible repeat (first | apply Kd.za9 | apply Kd.zaa | apply Kd.zac)); exact HO0_1.out) hb); have n1_ := Aside0.mk (Kd.zal (by (with_reducible repeat (first | apply Kd.za9 | apply Kd.zaa | apply Kd.zac)); exact HO0_2.out) hb); have n2_ := Aside0.mk (Kept.below (S := (fun k_ => P0_1_ k_ ∨ P0_2_ k_)) (by repeat (first | (with_reducible first | exact HK.out | apply Kept.alloc | apply Kept.drewN | apply Kept.drew) | exact HK.out)) hb); have n3_ := Aside0.mk (zaf (by repeat (first | (with_reducible first | exact HB.out | apply za1 | apply za0 | apply za2) | exact HB.out)) hb); have n4_ := Aside0.mk (hbox); have n5_ := Aside0.mk ((by rw [hg]; exact (by first | exact HK.out.1 | exact (show Kept w _ (fun k_ => P0_1_ k_ ∨ P0_2_ k_) from by repeat (first | (with_reducible first | exact HK.out | apply Kept.alloc | apply Kept.drewN | apply Kept.drew) | exact HK.out)).1) : w.heap.size ≤ gb629)); have n6_ := Aside0.mk ((by rw [hg]; exact (zad (by repeat (first | (with_reducible first | exact HB.out | apply za1 | apply za0 | apply za2) | exact HB.out))) : w0.heap.size ≤ gb629)); clear HO0_1; clear HO0_2; clear HK; clear HB; have HO0_1 := n0_; have HO0_2 := n1_; have HK := n2_; have HB := n3_; have BK629 := n4_; have GW629 := n5_; have GE629 := n6_; clear n0_ n1_ n2_ n3_ n4_ n5_ n6_; clear hb hbox hg) | ((with_reducible refine zaq (N := 2) rfl ?_); refine zan ?hg (N := 2) ?hd (cs := #[.int .i64 0, .slice none 0 0, .slice none 0 0]) (t := 36) ?hr ?_; (case hd => rfl); (case hg => rfl); (case hr => first | (go_simp; done) | (go_simp; rfl)); intro gb630 hg w7 hbox hb; have n0_ := Aside0.mk (Kd.zal (by (with_reducible repeat (first | apply Kd.za9 | apply Kd.zaa | apply Kd.zac)); exact HO0_1.out) hb); have n1_ := Aside0.mk (Kd.zal (by (with_reducible repeat (first | apply Kd.za9 | apply Kd.zaa | apply Kd.zac)); exact HO0_2.out) hb); have n2_ := Aside0.mk (zae (g := gb629) (o := .cells #[.int .i64 a0_0, .slice Ao4 l0_1.length co4, .slice Ao5 l0_2.length co5] 36 (0, 0)) (by (with_reducible repeat (first | refine za5 ?_ _ | refine za7 ?_ | refine za6 ?_ _)); exact BK629.out) hb); have n3_ := Aside0.mk (Kept.below (S := (fun k_ => P0_1_ k_ ∨ P0_2_ k_)) (by repeat (first | (with_reducible first | exact HK.out | apply Kept.alloc | apply Kept.drewN | apply Kept.drew | refine Kept.setCell ?_ (.inr GW629.out) _) | exact HK.out)) hb); have n4_ := Aside0.mk (zaf (by repeat (first | (with_reducible first | exact HB.out | apply za1 | apply za0 | apply za2 | refine za3 ?_ GE629.out) | exact HB.out)) hb); have n5_ := Aside0.mk (hbox); have n6_ := Aside0.mk ((by rw [hg]; exact (by first | exact HK.out.1 | exact (show Kept w _ (fun k_ => P0_1_ k_ ∨ P0_2_ k_) from by repeat (first | (with_reducible first | exact HK.out | apply Kept.alloc | apply Kept.drewN | apply Kept.drew | refine Kept.setCell ?_ (.inr GW629.out) _) | exact HK.out)).1) : w.heap.size ≤ gb630)); have n7_ := Aside0.mk ((by rw [hg]; exact (zad (by repeat (first | (with_reducible first | exact HB.out | apply za1 | apply za0 | apply za2 | refine za3 ?_ GE629.out) | exact HB.out))) : w0.heap.size ≤ gb630)); have n8_ := Aside0.mk ((by rw [hg]; exact Nat.ne_of_lt (zb0 (g := gb629) (o := .cells #[.int .i64 a0_0, .slice Ao4 l0_1.length co4, .slice Ao5 l0_2.length co5] 36 (0, 0)) (by (with_reducible repeat (first | refine za5 ?_ _ | refine za7 ?_ | refine za6 ?_ _)); exact BK629.out)) : gb629 ≠ gb630)); have n9_ := Aside0.mk ((by rw [hg]; exact Nat.ne_of_gt (zb0 (g := gb629) (o := .cells #[.int .i64 a0_0, .slice Ao4 l0_1.length co4, .slice Ao5 l0_2.length co5] 36 (0, 0)) (by (with_reducible repeat (first | refine za5 ?_ _ | refine za7 ?_ | refine za6 ?_ _)); exact BK629.out)) : gb630 ≠ gb629)); clear HO0_1; clear HO0_2; clear BK629; clear HK; clear HB; have HO0_1 := n0_; have HO0_2 := n1_; have BK629 := n2_; have HK := n3_; have HB := n4_; have BK630 := n5_; have GW630 := n6_; have GE630 := n7_; have NB629_630 := n8_; have NB630_629 := n9_; clear n0_ n1_ n2_ n3_ n4_ n5_ n6_ n7_ n8_ n9_; clear hb hbox hg; have hnb8 := NB629_630.out; have hnc8 := NB630_629.out; have hcz9_0 : w7.cell? ⟨gb629, 0, none⟩ = some (.int .i64 a0_0) := (za8 BK629.out 0).trans rfl; have hcz9_1 : w7.cell? ⟨gb629, 1, none⟩ = some (.slice Ao4 l0_1.length co4) := (za8 BK629.out 1).trans rfl; have hcz9_2 : w7.cell? ⟨gb629, 2, none⟩ = some (.slice Ao5 l0_2.length co5) := (za8 BK629.out 2).trans rfl; have hfz9_0 := za4 BK629.out 0; have hfz9_1 := za4 BK629.out 1; have hfz9_2 := za4 BK629.out 2) | ((with_reducible refine zah (f := 72) rfl ?_); refine zay (some 5) rfl rfl Try.func72 (by kernel_rfl) rfl #[.agg #[.int .i64 a0_0, .slice Ao4 l0_1.length co4, .slice Ao5 l0_2.length co5]] rfl (by (try simp only [List.map_toArray, List.map_cons, List.map_nil]); first | done | rfl | (simp only [List.length_drop, List.length_take]; rfl)) ?_; (with_reducible refine (spec_plGood.calls k a0_0 _ _ l0_1 _ _ l0_2 true _ ?side1 ?side2 ?side3 ?side4 A2.out).mono ?_); (case side1 => repeat (first | exact (Kd.R_reads' HO0_1.out).2.2 | (with_reducible refine Kd.zar ?_ _) | (with_reducible refine Kd.zao ?_ _) | (with_reducible refine Kd.zau ?_))); (case side2 => exact (Kd.R_reads' HO0_1.out).2.1); (case side3 => repeat (first | exact (Kd.R_reads' HO0_2.out).2.2 | (with_reducible refine Kd.zar ?_ _) | (with_reducible refine Kd.zao ?_ _) | (with_reducible refine Kd.zau ?_))); (case side4 => exact (Kd.R_reads' HO0_2.out).2.1); rintro e w10 ⟨rfl, hb⟩; refine ⟨_, rfl, ?_⟩; have n0_ := Aside0.mk (Kd.zal (by (with_reducible repeat (first | apply Kd.za9 | apply Kd.zaa | apply Kd.zac)); exact HO0_1.out) hb); have n1_ := Aside0.mk (Kd.zal (by (with_reducible repeat (first | apply Kd.za9 | apply Kd.zaa | apply Kd.zac)); exact HO0_2.out) hb); have n2_ := Aside0.mk (zae (g := gb629) (o := .cells #[.int .i64 a0_0, .slice Ao4 l0_1.length co4, .slice Ao5 l0_2.length co5] 36 (0, 0)) (by (with_reducible repeat (first | refine za5 ?_ _ | refine za7 ?_ | refine za6 ?_ _)); exact BK629.out) hb); have n3_ := Aside0.mk (zae (g := gb630) (o := .cells #[.int .i64 0, .slice none 0 0, .slice none 0 0] 36 (0, 0)) (by (with_reducible repeat (first | refine za5 ?_ _ | refine za7 ?_ | refine za6 ?_ _)); exact BK630.out) hb); have n4_ := Aside0.mk (Kept.below (S := (fun k_ => P0_1_ k_ ∨ P0_2_ k_)) (by repeat (first | (with_reducible first | exact HK.out | apply Kept.alloc | apply Kept.drewN | apply Kept.drew | refine Kept.setCell ?_ (.inr GW629.out) _ | refine Kept.setCell ?_ (.inr GW630.out) _) | exact HK.out)) hb); have n5_ := Aside0.mk (zaf (by repeat (first | (with_reducible first | exact HB.out | apply za1 | apply za0 | apply za2 | refine za3 ?_ GE629.out | refine za3 ?_ GE630.out) | exact HB.out)) hb); clear HO0_1; clear HO0_2; clear BK629; clear BK630; clear HK; clear HB; have HO0_1 := n0_; have HO0_2 := n1_; have BK629 := n2_; have BK630 := n3_; have HK := n4_; have HB := n5_; clear n0_ n1_ n2_ n3_ n4_ n5_; (try clear hb); (try clear hb2); (try clear hk); (try clear hi); have hcz11_0 : w10.cell? ⟨gb629, 0, none⟩ = some (.int .i64 a0_0) := (za8 BK629.out 0).trans rfl; have hcz11_1 : w10.cell? ⟨gb629, 1, none⟩ = some (.slice Ao4 l0_1.length co4) := (za8 BK629.out 1).trans rfl; have hcz11_2 : w10.cell? ⟨gb629, 2, none⟩ = some (.slice Ao5 l0_2.length co5) := (za8 BK629.out 2).trans rfl; have hfz11_0 := za4 BK629.out 0; have hfz11_1 := za4 BK629.out 1; have hfz11_2 := za4 BK629.out 2; have hcz12_0 : w10.cell? ⟨gb630, 0, none⟩ = some (.int .i64 0) := (za8 BK630.out 0).trans rfl; have hcz12_1 : w10.cell? ⟨gb630, 1, none⟩ = some (.slice none 0 0) := (za8 BK630.out 1).trans rfl; have hcz12_2 : w10.cell? ⟨gb630, 2, none⟩ = some (.slice none 0 0) := (za8 BK630.out 2).trans rfl; have hfz12_0 := za4 BK630.out 0; have hfz12_1 := za4 BK630.out 1; have hfz12_2 := za4 BK630.out 2))
    refine bodyPost_ret (results_ct rfl _ _ gb630 36 #[.int .i64 a0_0, .slice Ao4 l0_1.length co4, .slice Ao5 l0_2.length co5] (0, 0) _ rfl (by (with_reducible repeat (first | refine za5 ?_ _ | refine za7 ?_ | refine za6 ?_ _)); refine zaw (cs := #[.int .i64 a0_0, .slice Ao4 l0_1.length co4, .slice none 0 0]) ?_ 2 _ rfl; (with_reducible repeat (first | refine za5 ?_ _ | refine za7 ?_ | refine za6 ?_ _)); refine zaw (cs := #[.int .i64 a0_0, .slice none 0 0, .slice none 0 0]) ?_ 1 _ rfl; (with_reducible repeat (first | refine za5 ?_ _ | refine za7 ?_ | refine za6 ?_ _)); refine zaw (cs := #[.int .i64 0, .slice none 0 0, .slice none 0 0]) ?_ 0 _ rfl; (with_reducible repeat (first | refine za5 ?_ _ | refine za7 ?_ | refine za6 ?_ _)); exact BK630.out) Try.underlying36 rfl (by kernel_rfl)) rfl ?_
    exact ⟨_, _, by first | rfl | (simp [zai, zaj] <;> rfl) | (simp [*, zai, zaj] <;> rfl), by (with_reducible repeat (first | apply Kd.za9 | apply Kd.zaa | apply Kd.zac)); exact Kd.zak (Kd.R_far (p := ⟨gb630, 2, none⟩) (Kd.R_far (p := ⟨gb630, 1, none⟩) (Kd.R_far (p := ⟨gb630, 0, none⟩) (Kd.zas HO0_1.out BK630.out (by decide)) (fun _ hk => hk.2) (.int .i64 a0_0)) (fun _ hk => hk.2) (.slice Ao4 l0_1.length co4)) (fun _ hk => hk.2) (.slice Ao5 l0_2.length co5)) (fun _ hk => hk.1), by (with_reducible repeat (first | apply Kd.za9 | apply Kd.zaa | apply Kd.zac)); exact Kd.zak (Kd.R_far (p := ⟨gb630, 2, none⟩) (Kd.R_far (p := ⟨gb630, 1, none⟩) (Kd.R_far (p := ⟨gb630, 0, none⟩) (Kd.zas HO0_2.out BK630.out (by decide)) (fun _ hk => hk.2) (.int .i64 a0_0)) (fun _ hk => hk.2) (.slice Ao4 l0_1.length co4)) (fun _ hk => hk.2) (.slice Ao5 l0_2.length co5)) (fun _ hk => hk.1), by repeat (first | (with_reducible first | exact HB.out | apply za1 | apply za0 | apply za2 | refine za3 ?_ GE629.out | refine za3 ?_ GE630.out) | exact HB.out), by repeat (first | (with_reducible first | exact HK.out | apply Kept.alloc | apply Kept.drewN | apply Kept.drew | refine Kept.setCell ?_ (.inr GW629.out) _ | refine Kept.setCell ?_ (.inr GW630.out) _) | exact HK.out)⟩
  · replace c3 := Bool.eq_false_iff.mpr c3
    subst c3
    have H1 : (some (0, ([] : List (S117)), ([] : List Int), false)) = some (r1, r2, r3, r4) := by rw [if_neg (show ¬ (false = true) by decide)] at H; exact H
    clear H
    have H := H1
    clear H1
    simp only [Option.some.injEq, Prod.mk.injEq] at H
    obtain ⟨rfl, rfl, rfl, rfl⟩ := H
    obtain ⟨Ao13, co13, eo13⟩ := Kd.zax HO0_1.out
    subst eo13
    obtain ⟨Ao14, co14, eo14⟩ := Kd.zax HO0_2.out
    subst eo14
    go_enter Try.func82, Try.ntmps82
    go_wp2_with (first | ((with_reducible refine zaq (N := 1) rfl ?_); refine zan ?hg (N := 1) ?hd (cs := #[.int .i64 a0_0, .slice Ao13 l0_1.length co13, .slice Ao14 l0_2.length co14]) (t := 36) ?hr ?_; (case hd => rfl); (case hg => rfl); (case hr => first | (go_simp; done) | (go_simp; rfl)); intro gb629 hg w15 hbox hb; have n0_ := Aside0.mk (Kd.zal (by (with_reducible repeat (first | apply Kd.za9 | apply Kd.zaa | apply Kd.zac)); exact HO0_1.out) hb); have n1_ := Aside0.mk (Kd.zal (by (with_reducible repeat (first | apply Kd.za9 | apply Kd.zaa | apply Kd.zac)); exact HO0_2.out) hb); have n2_ := Aside0.mk (Kept.below (S := (fun k_ => P0_1_ k_ ∨ P0_2_ k_)) (by repeat (first | (with_reducible first | exact HK.out | apply Kept.alloc | apply Kept.drewN | apply Kept.drew) | exact HK.out)) hb); have n3_ := Aside0.mk (zaf (by repeat (first | (with_reducible first | exact HB.out | apply za1 | apply za0 | apply za2) | exact HB.out)) hb); have n4_ := Aside0.mk (hbox); have n5_ := Aside0.mk ((by rw [hg]; exact (by first | exact HK.out.1 | exact (show Kept w _ (fun k_ => P0_1_ k_ ∨ P0_2_ k_) from by repeat (first | (with_reducible first | exact HK.out | apply Kept.alloc | apply Kept.drewN | apply Kept.drew) | exact HK.out)).1) : w.heap.size ≤ gb629)); have n6_ := Aside0.mk ((by rw [hg]; exact (zad (by repeat (first | (with_reducible first | exact HB.out | apply za1 | apply za0 | apply za2) | exact HB.out))) : w0.heap.size ≤ gb629)); clear HO0_1; clear HO0_2; clear HK; clear HB; have HO0_1 := n0_; have HO0_2 := n1_; have HK := n2_; have HB := n3_; have BK629 := n4_; have GW629 := n5_; have GE629 := n6_; clear n0_ n1_ n2_ n3_ n4_ n5_ n6_; clear hb hbox hg) | ((with_reducible refine zaq (N := 2) rfl ?_); refine zan ?hg (N := 2) ?hd (cs := #[.int .i64 0, .slice none 0 0, .slice none 0 0]) (t := 36) ?hr ?_; (case hd => rfl); (case hg => rfl); (case hr => first | (go_simp; done) | (go_simp; rfl)); intro gb630 hg w16 hbox hb; have n0_ := Aside0.mk (Kd.zal (by (with_reducible repeat (first | apply Kd.za9 | apply Kd.zaa | apply Kd.zac)); exact HO0_1.out) hb); have n1_ := Aside0.mk (Kd.zal (by (with_reducible repeat (first | apply Kd.za9 | apply Kd.zaa | apply Kd.zac)); exact HO0_2.out) hb); have n2_ := Aside0.mk (zae (g := gb629) (o := .cells #[.int .i64 a0_0, .slice Ao13 l0_1.length co13, .slice Ao14 l0_2.length co14] 36 (0, 0)) (by (with_reducible repeat (first | refine za5 ?_ _ | refine za7 ?_ | refine za6 ?_ _)); exact BK629.out) hb); have n3_ := Aside0.mk (Kept.below (S := (fun k_ => P0_1_ k_ ∨ P0_2_ k_)) (by repeat (first | (with_reducible first | exact HK.out | apply Kept.alloc | apply Kept.drewN | apply Kept.drew | refine Kept.setCell ?_ (.inr GW629.out) _) | exact HK.out)) hb); have n4_ := Aside0.mk (zaf (by repeat (first | (with_reducible first | exact HB.out | apply za1 | apply za0 | apply za2 | refine za3 ?_ GE629.out) | exact HB.out)) hb); have n5_ := Aside0.mk (hbox); have n6_ := Aside0.mk ((by rw [hg]; exact (by first | exact HK.out.1 | exact (show Kept w _ (fun k_ => P0_1_ k_ ∨ P0_2_ k_) from by repeat (first | (with_reducible first | exact HK.out | apply Kept.alloc | apply Kept.drewN | apply Kept.drew | refine Kept.setCell ?_ (.inr GW629.out) _) | exact HK.out)).1) : w.heap.size ≤ gb630)); have n7_ := Aside0.mk ((by rw [hg]; exact (zad (by repeat (first | (with_reducible first | exact HB.out | apply za1 | apply za0 | apply za2 | refine za3 ?_ GE629.out) | exact HB.out))) : w0.heap.size ≤ gb630)); have n8_ := Aside0.mk ((by rw [hg]; exact Nat.ne_of_lt (zb0 (g := gb629) (o := .cells #[.int .i64 a0_0, .slice Ao13 l0_1.length co13, .slice Ao14 l0_2.length co14] 36 (0, 0)) (by (with_reducible repeat (first | refine za5 ?_ _ | refine za7 ?_ | refine za6 ?_ _)); exact BK629.out)) : gb629 ≠ gb630)); have n9_ := Aside0.mk ((by rw [hg]; exact Nat.ne_of_gt (zb0 (g := gb629) (o := .cells #[.int .i64 a0_0, .slice Ao13 l0_1.length co13, .slice Ao14 l0_2.length co14] 36 (0, 0)) (by (with_reducible repeat (first | refine za5 ?_ _ | refine za7 ?_ | refine za6 ?_ _)); exact BK629.out)) : gb630 ≠ gb629)); clear HO0_1; clear HO0_2; clear BK629; clear HK; clear HB; have HO0_1 := n0_; have HO0_2 := n1_; have BK629 := n2_; have HK := n3_; have HB := n4_; have BK630 := n5_; have GW630 := n6_; have GE630 := n7_; have NB629_630 := n8_; have NB630_629 := n9_; clear n0_ n1_ n2_ n3_ n4_ n5_ n6_ n7_ n8_ n9_; clear hb hbox hg; have hnb17 := NB629_630.out; have hnc17 := NB630_629.out; have hcz18_0 : w16.cell? ⟨gb629, 0, none⟩ = some (.int .i64 a0_0) := (za8 BK629.out 0).trans rfl; have hcz18_1 : w16.cell? ⟨gb629, 1, none⟩ = some (.slice Ao13 l0_1.length co13) := (za8 BK629.out 1).trans rfl; have hcz18_2 : w16.cell? ⟨gb629, 2, none⟩ = some (.slice Ao14 l0_2.length co14) := (za8 BK629.out 2).trans rfl; have hfz18_0 := za4 BK629.out 0; have hfz18_1 := za4 BK629.out 1; have hfz18_2 := za4 BK629.out 2) | ((with_reducible refine zah (f := 72) rfl ?_); refine zay (some 5) rfl rfl Try.func72 (by kernel_rfl) rfl #[.agg #[.int .i64 a0_0, .slice Ao13 l0_1.length co13, .slice Ao14 l0_2.length co14]] rfl (by (try simp only [List.map_toArray, List.map_cons, List.map_nil]); first | done | rfl | (simp only [List.length_drop, List.length_take]; rfl)) ?_; (with_reducible refine (spec_plGood.calls k a0_0 _ _ l0_1 _ _ l0_2 false _ ?side1 ?side2 ?side3 ?side4 A2.out).mono ?_); (case side1 => repeat (first | exact (Kd.R_reads' HO0_1.out).2.2 | (with_reducible refine Kd.zar ?_ _) | (with_reducible refine Kd.zao ?_ _) | (with_reducible refine Kd.zau ?_))); (case side2 => exact (Kd.R_reads' HO0_1.out).2.1); (case side3 => repeat (first | exact (Kd.R_reads' HO0_2.out).2.2 | (with_reducible refine Kd.zar ?_ _) | (with_reducible refine Kd.zao ?_ _) | (with_reducible refine Kd.zau ?_))); (case side4 => exact (Kd.R_reads' HO0_2.out).2.1); rintro e w19 ⟨rfl, hb⟩; refine ⟨_, rfl, ?_⟩; have n0_ := Aside0.mk (Kd.zal (by (with_reducible repeat (first | apply Kd.za9 | apply Kd.zaa | apply Kd.zac)); exact HO0_1.out) hb); have n1_ := Aside0.mk (Kd.zal (by (with_reducible repeat (first | apply Kd.za9 | apply Kd.zaa | apply Kd.zac)); exact HO0_2.out) hb); have n2_ := Aside0.mk (zae (g := gb629) (o := .cells #[.int .i64 a0_0, .slice Ao13 l0_1.length co13, .slice Ao14 l0_2.length co14] 36 (0, 0)) (by (with_reducible repeat (first | refine za5 ?_ _ | refine za7 ?_ | refine za6 ?_ _)); exact BK629.out) hb); have n3_ := Aside0.mk (zae (g := gb630) (o := .cells #[.int .i64 0, .slice none 0 0, .slice none 0 0] 36 (0, 0)) (by (with_reducible repeat (first | refine za5 ?_ _ | refine za7 ?_ | refine za6 ?_ _)); exact BK630.out) hb); have n4_ := Aside0.mk (Kept.below (S := (fun k_ => P0_1_ k_ ∨ P0_2_ k_)) (by repeat (first | (with_reducible first | exact HK.out | apply Kept.alloc | apply Kept.drewN | apply Kept.drew | refine Kept.setCell ?_ (.inr GW629.out) _ | refine Kept.setCell ?_ (.inr GW630.out) _) | exact HK.out)) hb); have n5_ := Aside0.mk (zaf (by repeat (first | (with_reducible first | exact HB.out | apply za1 | apply za0 | apply za2 | refine za3 ?_ GE629.out | refine za3 ?_ GE630.out) | exact HB.out)) hb); clear HO0_1; clear HO0_2; clear BK629; clear BK630; clear HK; clear HB; have HO0_1 := n0_; have HO0_2 := n1_; have BK629 := n2_; have BK630 := n3_; have HK := n4_; have HB := n5_; clear n0_ n1_ n2_ n3_ n4_ n5_; (try clear hb); (try clear hb2); (try clear hk); (try clear hi); have hcz20_0 : w19.cell? ⟨gb630, 0, none⟩ = some (.int .i64 0) := (za8 BK630.out 0).trans rfl; have hcz20_1 : w19.cell? ⟨gb630, 1, none⟩ = some (.slice none 0 0) := (za8 BK630.out 1).trans rfl; have hcz20_2 : w19.cell? ⟨gb630, 2, none⟩ = some (.slice none 0 0) := (za8 BK630.out 2).trans rfl; have hfz20_0 := za4 BK630.out 0; have hfz20_1 := za4 BK630.out 1; have hfz20_2 := za4 BK630.out 2))
    refine bodyPost_ret (results_ct rfl _ _ gb630 36 #[.int .i64 0, .slice none 0 0, .slice none 0 0] (0, 0) _ rfl (by (with_reducible repeat (first | refine za5 ?_ _ | refine za7 ?_ | refine za6 ?_ _)); refine zaw (cs := #[.int .i64 0, .slice none 0 0, .slice none 0 0]) ?_ 2 _ rfl; (with_reducible repeat (first | refine za5 ?_ _ | refine za7 ?_ | refine za6 ?_ _)); refine zaw (cs := #[.int .i64 0, .slice none 0 0, .slice none 0 0]) ?_ 1 _ rfl; (with_reducible repeat (first | refine za5 ?_ _ | refine za7 ?_ | refine za6 ?_ _)); refine zaw (cs := #[.int .i64 0, .slice none 0 0, .slice none 0 0]) ?_ 0 _ rfl; (with_reducible repeat (first | refine za5 ?_ _ | refine za7 ?_ | refine za6 ?_ _)); exact BK630.out) Try.underlying36 rfl (by kernel_rfl)) rfl ?_
    exact ⟨_, _, by first | rfl | (simp [zai, zaj] <;> rfl) | (simp [*, zai, zaj] <;> rfl), by first | exact Kd.R_nil _ _ _ _ _ | exact Kd.N_nil _ _ _ _ _ | exact Kd.V_nil _ _ _ _ _ | exact Kd.Q_nil _ _ _ _ _ | exact Kd.S_nil _ _ _ _ _, by first | exact Kd.R_nil _ _ _ _ _ | exact Kd.N_nil _ _ _ _ _ | exact Kd.V_nil _ _ _ _ _ | exact Kd.Q_nil _ _ _ _ _ | exact Kd.S_nil _ _ _ _ _, by repeat (first | (with_reducible first | exact HB.out | apply za1 | apply za0 | apply za2 | refine za3 ?_ GE629.out | refine za3 ?_ GE630.out) | exact HB.out), by repeat (first | (with_reducible first | exact HK.out | apply Kept.alloc | apply Kept.drewN | apply Kept.drew | refine Kept.setCell ?_ (.inr GW629.out) _ | refine Kept.setCell ?_ (.inr GW630.out) _) | exact HK.out)⟩

/-! ### spec_SquaresPlan: function 37 -/
mutual
def spec_SquaresPlan.j0 : Nat → List Int → Bool → Option (Int × (List (S117)) × List Int × Bool)
  | 0, _, _ => none
  | k + 1, x0, x20 => if x20 = true then (some (0, ([] : List (S117)), ([] : List Int), false)) else (spec_SquaresPlan.l0 k x0 1 1 ([] : List (S117)) ([] : List Int))
def spec_SquaresPlan.l0 : Nat → List Int → Int → Int → List (S117) → List Int → Option (Int × (List (S117)) × List Int × Bool)
  | 0, _, _, _, _, _ => none
  | k + 1, x0, x5, x636000, x636001, x636002 => (spec_meGreatest.f k x0).bind fun t636 => ((spec_chLength.f k t636).bind fun t637 => (if x5 < t637 then ((spec_meTimes.f x636000 x636001 x636002 (wrap64 (x5 - 1)) (wrap64 (x5 - 1))).bind fun bt638 => (spec_SquaresPlan.l0 k x0 (wrap64 (x5 + 1)) bt638.1 bt638.2.1 bt638.2.2.1)) else (spec_SquaresPlan.l1 k ([] : List Int) x0 (x0.length : Int) 0 x636000 x636001 x636002)))
def spec_SquaresPlan.l1 : Nat → List Int → List Int → Int → Int → Int → List (S117) → List Int → Option (Int × (List (S117)) × List Int × Bool)
  | 0, _, _, _, _, _, _, _ => none
  | k + 1, x6, x39, x40, x41, x636000, x636001, x636002 => if x41 < x40 then (if 0 ≤ x41 then (if x41 < (x39.length : Int) then ((spec_meDigits.f k (rd x39 x41) 2).bind fun t655 => (spec_SquaresPlan.l2 k x6 (-1) x39 x40 x41 t655 (t655.length : Int) 0 x636000 x636001 x636002)) else (none)) else (none)) else ((spec_plIf.f k x636000 x636001 x6).bind fun bt646 => (some (bt646.1, bt646.2.1, bt646.2.2.1, bt646.2.2.2)))
def spec_SquaresPlan.l2 : Nat → List Int → Int → List Int → Int → Int → List Int → Int → Int → Int → List (S117) → List Int → Option (Int × (List (S117)) × List Int × Bool)
  | 0, _, _, _, _, _, _, _, _, _, _, _ => none
  | k + 1, x6, x9, x39, x40, x41, x46, x47, x48, x636000, x636001, x636002 => if x48 < x47 then (if 0 ≤ x48 then (if x48 < (x46.length : Int) then (if (rd x46 x48) = 1 then (spec_SquaresPlan.j4 k x6 x9 x48 (rd x46 x48) x39 x40 x41 x46 x47 x48 (decide (x9 ≥ 0)) x636000 x636001 x636002) else (spec_SquaresPlan.j4 k x6 x9 x48 (rd x46 x48) x39 x40 x41 x46 x47 x48 false x636000 x636001 x636002)) else (none)) else (none)) else (if x6.length < 17592186044416 then (spec_SquaresPlan.l1 k (x6 ++ [x9]) x39 x40 (wrap64 (x41 + 1)) x636000 x636001 x636002) else (none))
def spec_SquaresPlan.j4 : Nat → List Int → Int → Int → Int → List Int → Int → Int → List Int → Int → Int → Bool → Int → List (S117) → List Int → Option (Int × (List (S117)) × List Int × Bool)
  | 0, _, _, _, _, _, _, _, _, _, _, _, _, _, _ => none
  | k + 1, x6, x9, x10, x11, x39, x40, x41, x46, x47, x48, x58, x636000, x636001, x636002 => if x58 = true then ((spec_meTimes.f x636000 x636001 x636002 x9 x10).bind fun bt662 => (spec_SquaresPlan.l2 k x6 bt662.2.2.2 x39 x40 x41 x46 x47 (wrap64 (x48 + 1)) bt662.1 bt662.2.1 bt662.2.2.1)) else (if x11 = 1 then (spec_SquaresPlan.l2 k x6 x10 x39 x40 x41 x46 x47 (wrap64 (x48 + 1)) x636000 x636001 x636002) else (spec_SquaresPlan.l2 k x6 x9 x39 x40 x41 x46 x47 (wrap64 (x48 + 1)) x636000 x636001 x636002))
end
def spec_SquaresPlan.f (k : Nat) (l0 : List Int) : Option (Int × (List (S117)) × List Int × Bool) := (spec_l1In.f (l0.length : Int) 1 6).bind fun t633 => (if t633 = true then ((spec_l1All.f k l0 1 1000000).bind fun t634 => (spec_SquaresPlan.j0 k l0 (!t634))) else (spec_SquaresPlan.j0 k l0 true))
theorem spec_SquaresPlan.zb2 : ∀ k, (∀ y0 y1, LeO (spec_SquaresPlan.j0 k y0 y1) (spec_SquaresPlan.j0 (k + 1) y0 y1)) ∧ (∀ y0 y1 y2 y3 y4, LeO (spec_SquaresPlan.l0 k y0 y1 y2 y3 y4) (spec_SquaresPlan.l0 (k + 1) y0 y1 y2 y3 y4)) ∧ (∀ y0 y1 y2 y3 y4 y5 y6, LeO (spec_SquaresPlan.l1 k y0 y1 y2 y3 y4 y5 y6) (spec_SquaresPlan.l1 (k + 1) y0 y1 y2 y3 y4 y5 y6)) ∧ (∀ y0 y1 y2 y3 y4 y5 y6 y7 y8 y9 y10, LeO (spec_SquaresPlan.l2 k y0 y1 y2 y3 y4 y5 y6 y7 y8 y9 y10) (spec_SquaresPlan.l2 (k + 1) y0 y1 y2 y3 y4 y5 y6 y7 y8 y9 y10)) ∧ (∀ y0 y1 y2 y3 y4 y5 y6 y7 y8 y9 y10 y11 y12 y13, LeO (spec_SquaresPlan.j4 k y0 y1 y2 y3 y4 y5 y6 y7 y8 y9 y10 y11 y12 y13) (spec_SquaresPlan.j4 (k + 1) y0 y1 y2 y3 y4 y5 y6 y7 y8 y9 y10 y11 y12 y13))
  | 0 => ⟨fun _ _ r h => by simp [spec_SquaresPlan.j0] at h, fun _ _ _ _ _ r h => by simp [spec_SquaresPlan.l0] at h, fun _ _ _ _ _ _ _ r h => by simp [spec_SquaresPlan.l1] at h, fun _ _ _ _ _ _ _ _ _ _ _ r h => by simp [spec_SquaresPlan.l2] at h, fun _ _ _ _ _ _ _ _ _ _ _ _ _ _ r h => by simp [spec_SquaresPlan.j4] at h⟩
  | k + 1 => by
    obtain ⟨ih0, ih1, ih2, ih3, ih4⟩ := spec_SquaresPlan.zb2 k
    refine ⟨?_, ?_, ?_, ?_, ?_⟩
    · intro y0 y1
      unfold spec_SquaresPlan.j0
      repeat' first
      | (with_reducible exact ih0 _ _)
      | (with_reducible exact ih1 _ _ _ _ _)
      | (with_reducible exact ih2 _ _ _ _ _ _ _)
      | (with_reducible exact ih3 _ _ _ _ _ _ _ _ _ _ _)
      | (with_reducible exact ih4 _ _ _ _ _ _ _ _ _ _ _ _ _ _)
      | (with_reducible exact spec_chLength.mono _ _)
      | (with_reducible exact spec_l1All.mono _ _ _ _)
      | (with_reducible exact spec_meDigits.mono _ _ _)
      | (with_reducible exact spec_meGreatest.mono _ _)
      | (with_reducible exact spec_plIf.mono _ _ _ _)
      | (with_reducible exact LeO.refl _)
      | (with_reducible exact LeO.none _)
      | (with_reducible refine LeO.ite ?_ ?_)
      | (with_reducible refine LeO.bind ?_ (fun _ => ?_))
      | exact ih0 _ _
      | exact ih1 _ _ _ _ _
      | exact ih2 _ _ _ _ _ _ _
      | exact ih3 _ _ _ _ _ _ _ _ _ _ _
      | exact ih4 _ _ _ _ _ _ _ _ _ _ _ _ _ _
      | exact spec_chLength.mono _ _
      | exact spec_l1All.mono _ _ _ _
      | exact spec_meDigits.mono _ _ _
      | exact spec_meGreatest.mono _ _
      | exact spec_plIf.mono _ _ _ _
      | exact LeO.none _
      | refine LeO.ite ?_ ?_
      | refine LeO.bind ?_ (fun _ => ?_)
    · intro y0 y1 y2 y3 y4
      unfold spec_SquaresPlan.l0
      repeat' first
      | (with_reducible exact ih0 _ _)
      | (with_reducible exact ih1 _ _ _ _ _)
      | (with_reducible exact ih2 _ _ _ _ _ _ _)
      | (with_reducible exact ih3 _ _ _ _ _ _ _ _ _ _ _)
      | (with_reducible exact ih4 _ _ _ _ _ _ _ _ _ _ _ _ _ _)
      | (with_reducible exact spec_chLength.mono _ _)
      | (with_reducible exact spec_l1All.mono _ _ _ _)
      | (with_reducible exact spec_meDigits.mono _ _ _)
      | (with_reducible exact spec_meGreatest.mono _ _)
      | (with_reducible exact spec_plIf.mono _ _ _ _)
      | (with_reducible exact LeO.refl _)
      | (with_reducible exact LeO.none _)
      | (with_reducible refine LeO.ite ?_ ?_)
      | (with_reducible refine LeO.bind ?_ (fun _ => ?_))
      | exact ih0 _ _
      | exact ih1 _ _ _ _ _
      | exact ih2 _ _ _ _ _ _ _
      | exact ih3 _ _ _ _ _ _ _ _ _ _ _
      | exact ih4 _ _ _ _ _ _ _ _ _ _ _ _ _ _
      | exact spec_chLength.mono _ _
      | exact spec_l1All.mono _ _ _ _
      | exact spec_meDigits.mono _ _ _
      | exact spec_meGreatest.mono _ _
      | exact spec_plIf.mono _ _ _ _
      | exact LeO.none _
      | refine LeO.ite ?_ ?_
      | refine LeO.bind ?_ (fun _ => ?_)
    · intro y0 y1 y2 y3 y4 y5 y6
      unfold spec_SquaresPlan.l1
      repeat' first
      | (with_reducible exact ih0 _ _)
      | (with_reducible exact ih1 _ _ _ _ _)
      | (with_reducible exact ih2 _ _ _ _ _ _ _)
      | (with_reducible exact ih3 _ _ _ _ _ _ _ _ _ _ _)
      | (with_reducible exact ih4 _ _ _ _ _ _ _ _ _ _ _ _ _ _)
      | (with_reducible exact spec_chLength.mono _ _)
      | (with_reducible exact spec_l1All.mono _ _ _ _)
      | (with_reducible exact spec_meDigits.mono _ _ _)
      | (with_reducible exact spec_meGreatest.mono _ _)
      | (with_reducible exact spec_plIf.mono _ _ _ _)
      | (with_reducible exact LeO.refl _)
      | (with_reducible exact LeO.none _)
      | (with_reducible refine LeO.ite ?_ ?_)
      | (with_reducible refine LeO.bind ?_ (fun _ => ?_))
      | exact ih0 _ _
      | exact ih1 _ _ _ _ _
      | exact ih2 _ _ _ _ _ _ _
      | exact ih3 _ _ _ _ _ _ _ _ _ _ _
      | exact ih4 _ _ _ _ _ _ _ _ _ _ _ _ _ _
      | exact spec_chLength.mono _ _
      | exact spec_l1All.mono _ _ _ _
      | exact spec_meDigits.mono _ _ _
      | exact spec_meGreatest.mono _ _
      | exact spec_plIf.mono _ _ _ _
      | exact LeO.none _
      | refine LeO.ite ?_ ?_
      | refine LeO.bind ?_ (fun _ => ?_)
    · intro y0 y1 y2 y3 y4 y5 y6 y7 y8 y9 y10
      unfold spec_SquaresPlan.l2
      repeat' first
      | (with_reducible exact ih0 _ _)
      | (with_reducible exact ih1 _ _ _ _ _)
      | (with_reducible exact ih2 _ _ _ _ _ _ _)
      | (with_reducible exact ih3 _ _ _ _ _ _ _ _ _ _ _)
      | (with_reducible exact ih4 _ _ _ _ _ _ _ _ _ _ _ _ _ _)
      | (with_reducible exact spec_chLength.mono _ _)
      | (with_reducible exact spec_l1All.mono _ _ _ _)
      | (with_reducible exact spec_meDigits.mono _ _ _)
      | (with_reducible exact spec_meGreatest.mono _ _)
      | (with_reducible exact spec_plIf.mono _ _ _ _)
      | (with_reducible exact LeO.refl _)
      | (with_reducible exact LeO.none _)
      | (with_reducible refine LeO.ite ?_ ?_)
      | (with_reducible refine LeO.bind ?_ (fun _ => ?_))
      | exact ih0 _ _
      | exact ih1 _ _ _ _ _
      | exact ih2 _ _ _ _ _ _ _
      | exact ih3 _ _ _ _ _ _ _ _ _ _ _
      | exact ih4 _ _ _ _ _ _ _ _ _ _ _ _ _ _
      | exact spec_chLength.mono _ _
      | exact spec_l1All.mono _ _ _ _
      | exact spec_meDigits.mono _ _ _
      | exact spec_meGreatest.mono _ _
      | exact spec_plIf.mono _ _ _ _
      | exact LeO.none _
      | refine LeO.ite ?_ ?_
      | refine LeO.bind ?_ (fun _ => ?_)
    · intro y0 y1 y2 y3 y4 y5 y6 y7 y8 y9 y10 y11 y12 y13
      unfold spec_SquaresPlan.j4
      repeat' first
      | (with_reducible exact ih0 _ _)
      | (with_reducible exact ih1 _ _ _ _ _)
      | (with_reducible exact ih2 _ _ _ _ _ _ _)
      | (with_reducible exact ih3 _ _ _ _ _ _ _ _ _ _ _)
      | (with_reducible exact ih4 _ _ _ _ _ _ _ _ _ _ _ _ _ _)
      | (with_reducible exact spec_chLength.mono _ _)
      | (with_reducible exact spec_l1All.mono _ _ _ _)
      | (with_reducible exact spec_meDigits.mono _ _ _)
      | (with_reducible exact spec_meGreatest.mono _ _)
      | (with_reducible exact spec_plIf.mono _ _ _ _)
      | (with_reducible exact LeO.refl _)
      | (with_reducible exact LeO.none _)
      | (with_reducible refine LeO.ite ?_ ?_)
      | (with_reducible refine LeO.bind ?_ (fun _ => ?_))
      | exact ih0 _ _
      | exact ih1 _ _ _ _ _
      | exact ih2 _ _ _ _ _ _ _
      | exact ih3 _ _ _ _ _ _ _ _ _ _ _
      | exact ih4 _ _ _ _ _ _ _ _ _ _ _ _ _ _
      | exact spec_chLength.mono _ _
      | exact spec_l1All.mono _ _ _ _
      | exact spec_meDigits.mono _ _ _
      | exact spec_meGreatest.mono _ _
      | exact spec_plIf.mono _ _ _ _
      | exact LeO.none _
      | refine LeO.ite ?_ ?_
      | refine LeO.bind ?_ (fun _ => ?_)
theorem spec_SquaresPlan.mono : ∀ a0 k, LeO (spec_SquaresPlan.f k a0) (spec_SquaresPlan.f (k + 1) a0) := by
  intro a0 k
  obtain ⟨ih0, ih1, ih2, ih3, ih4⟩ := spec_SquaresPlan.zb2 k
  unfold spec_SquaresPlan.f
  repeat' first
      | (with_reducible exact ih0 _ _)
      | (with_reducible exact ih1 _ _ _ _ _)
      | (with_reducible exact ih2 _ _ _ _ _ _ _)
      | (with_reducible exact ih3 _ _ _ _ _ _ _ _ _ _ _)
      | (with_reducible exact ih4 _ _ _ _ _ _ _ _ _ _ _ _ _ _)
      | (with_reducible exact spec_chLength.mono _ _)
      | (with_reducible exact spec_l1All.mono _ _ _ _)
      | (with_reducible exact spec_meDigits.mono _ _ _)
      | (with_reducible exact spec_meGreatest.mono _ _)
      | (with_reducible exact spec_plIf.mono _ _ _ _)
      | (with_reducible exact LeO.refl _)
      | (with_reducible exact LeO.none _)
      | (with_reducible refine LeO.ite ?_ ?_)
      | (with_reducible refine LeO.bind ?_ (fun _ => ?_))
      | exact ih0 _ _
      | exact ih1 _ _ _ _ _
      | exact ih2 _ _ _ _ _ _ _
      | exact ih3 _ _ _ _ _ _ _ _ _ _ _
      | exact ih4 _ _ _ _ _ _ _ _ _ _ _ _ _ _
      | exact spec_chLength.mono _ _
      | exact spec_l1All.mono _ _ _ _
      | exact spec_meDigits.mono _ _ _
      | exact spec_meGreatest.mono _ _
      | exact spec_plIf.mono _ _ _ _
      | exact LeO.none _
      | refine LeO.ite ?_ ?_
      | refine LeO.bind ?_ (fun _ => ?_)
set_option maxHeartbeats 8000000 in
set_option maxRecDepth 100000 in
theorem spec_SquaresPlan.calls (k : Nat) (A0 : Option Addr) (c0 : Nat) (l0 : List Int) (r1 : Int) (r2 : List (S117)) (r3 : List Int) (r4 : Bool) (w : World) (hr0 : Kd.C (Kd.int .i64) w A0 l0.length l0) (hc0 : l0.length ≤ c0) (h : spec_SquaresPlan.f k l0 = some (r1, r2, r3, r4)) :
    Calls Try.prog 37 #[.slice A0 l0.length c0] w fun e w' => ∃ v1_ v2_ : Value, e = .returned (.tuple #[.agg #[.int .i64 r1, v1_, v2_], .bool r4]) ∧ Kd.R k117 117 w' w.heap.size (fun _ => True) v1_ r2 ∧ Kd.R (Kd.int .i64) 3 w' w.heap.size (fun _ => True) v2_ r3 ∧ Below w.heap.size w w' := by
  have hu36 := Try.underlying36
  have HR0 := Aside0.mk hr0
  have HC0 := Aside0.mk hc0
  clear hr0 hc0
  have HB := Aside0.mk (Below.refl w.heap.size w)
  have H : ((spec_l1In.f (l0.length : Int) 1 6).bind fun t633 => (if t633 = true then ((spec_l1All.f k l0 1 1000000).bind fun t634 => (spec_SquaresPlan.j0 k l0 (!t634))) else (spec_SquaresPlan.j0 k l0 true))) = some (r1, r2, r3, r4) := h
  clear h
  have HC2 := Aside0.mk H
  clear H
  go_enter Try.func37, Try.ntmps37
  go_upto_region 1 with (first | ((with_reducible refine zaq (N := 2) rfl ?_); refine zan ?hg (N := 2) ?hd (cs := #[.int .i64 0, .slice none 0 0, .slice none 0 0]) (t := 36) ?hr ?_; (case hd => rfl); (case hg => rfl); (case hr => first | (go_simp; done) | (go_simp; rfl)); intro gb632 hg w3 hbox hb; have n0_ := Aside0.mk (zaf (by repeat (first | (with_reducible first | exact HB.out | apply za1 | apply za0 | apply za2) | exact HB.out)) hb); have n1_ := Aside0.mk (hbox); have n2_ := Aside0.mk ((by rw [hg]; exact (zad (by repeat (first | (with_reducible first | exact HB.out | apply za1 | apply za0 | apply za2) | exact HB.out))) : w.heap.size ≤ gb632)); have n3_ := Aside0.mk ((by rw [hg]; exact (zad (by repeat (first | (with_reducible first | exact HB.out | apply za1 | apply za0 | apply za2) | exact HB.out))) : w.heap.size ≤ gb632)); clear HB; have HB := n0_; have BK632 := n1_; have GW632 := n2_; have GE632 := n3_; clear n0_ n1_ n2_ n3_; clear hb hbox hg))
  (try simp only [Act.put, List.setIfInBounds_toArray, List.set_cons_zero, List.set_cons_succ])
  go_cut [20] (fun v20 wc => ∃ (kq : Nat) (x20_1 : Bool), v20 = .bool x20_1 ∧ Aside0 (spec_SquaresPlan.j0 kq l0 x20_1 = some (r1, r2, r3, r4)) ∧ Aside0 (kq ≤ k) ∧ Aside0 (wc.heap[gb632]? = some (.cells #[.int .i64 0, (.slice none 0 0), (.slice none 0 0)] 36 (0, 0))) ∧ Aside0 (Below w.heap.size w wc))
  case first =>
    have H := HC2.out
    clear HC2
    replace H := Option.bind_eq_some_iff.mp H
    obtain ⟨t633, A40, H⟩ := H
    replace H : (if t633 = true then ((spec_l1All.f k l0 1 1000000).bind fun t634 => (spec_SquaresPlan.j0 k l0 (!t634))) else (spec_SquaresPlan.j0 k l0 true)) = some (r1, r2, r3, r4) := H
    have A4 := Aside0.mk A40
    clear A40
    by_cases c5 : t633 = true
    · subst c5
      have H1 : ((spec_l1All.f k l0 1 1000000).bind fun t634 => (spec_SquaresPlan.j0 k l0 (!t634))) = some (r1, r2, r3, r4) := by rw [if_pos rfl] at H; exact H
      clear H
      have H := H1
      clear H1
      replace H := Option.bind_eq_some_iff.mp H
      obtain ⟨t634, A60, H⟩ := H
      replace H : (spec_SquaresPlan.j0 k l0 (!t634)) = some (r1, r2, r3, r4) := H
      have A6 := Aside0.mk A60
      clear A60
      have H' := Aside0.mk H
      clear H
      go_wp2_with (first | ((with_reducible refine zah (f := 77) rfl ?_); refine zay (some 14) rfl rfl Try.func77 (by kernel_rfl) rfl #[.int .i64 (l0.length : Int), .int .i64 1, .int .i64 6] rfl (by (try simp only [List.map_toArray, List.map_cons, List.map_nil]); first | done | rfl | (simp only [List.length_drop, List.length_take]; rfl)) ?_; (with_reducible refine (spec_l1In.calls (l0.length : Int) 1 6 true _ A4.out).mono ?_); rintro e w' ⟨rfl, ⟨nd, rfl⟩⟩; refine ⟨_, rfl, ?_⟩) | (go_at_call 68; (with_reducible refine (spec_l1All.calls k _ _ l0 1 1000000 t634 _ ?side1 ?side2 A6.out).mono ?_); (case side1 => repeat (first | exact (Kd.zav HR0.out (by repeat (first | (with_reducible first | exact HB.out | apply za1 | apply za0 | apply za2 | refine za3 ?_ GE632.out) | exact HB.out))) | (with_reducible refine Kd.zar ?_ _) | (with_reducible refine Kd.zao ?_ _) | (with_reducible refine Kd.zau ?_))); (case side2 => exact HC0.out); rintro e w' ⟨rfl, ⟨nd, rfl⟩⟩))
      go_meet
      case rel => exact ⟨_, (!t634), (by first | rfl | (simp; done) | (simp [*]; done)), H', ⟨by first | omega | exact Nat.le_refl _⟩, ⟨by (with_reducible repeat (first | refine za5 ?_ _ | refine za7 ?_ | refine za6 ?_ _)); exact BK632.out⟩, ⟨by repeat (first | (with_reducible first | exact HB.out | apply za1 | apply za0 | apply za2 | refine za3 ?_ GE632.out) | exact HB.out)⟩⟩
    · replace c5 := Bool.eq_false_iff.mpr c5
      subst c5
      have H1 : (spec_SquaresPlan.j0 k l0 true) = some (r1, r2, r3, r4) := by rw [if_neg (show ¬ (false = true) by decide)] at H; exact H
      clear H
      have H := H1
      clear H1
      have H' := Aside0.mk H
      clear H
      go_wp2_with (first | ((with_reducible refine zah (f := 77) rfl ?_); refine zay (some 14) rfl rfl Try.func77 (by kernel_rfl) rfl #[.int .i64 (l0.length : Int), .int .i64 1, .int .i64 6] rfl (by (try simp only [List.map_toArray, List.map_cons, List.map_nil]); first | done | rfl | (simp only [List.length_drop, List.length_take]; rfl)) ?_; (with_reducible refine (spec_l1In.calls (l0.length : Int) 1 6 false _ A4.out).mono ?_); rintro e w' ⟨rfl, ⟨nd, rfl⟩⟩; refine ⟨_, rfl, ?_⟩))
      go_meet
      case rel => exact ⟨_, (true), (by first | rfl | (simp; done) | (simp [*]; done)), H', ⟨by first | omega | exact Nat.le_refl _⟩, ⟨by (with_reducible repeat (first | refine za5 ?_ _ | refine za7 ?_ | refine za6 ?_ _)); exact BK632.out⟩, ⟨by repeat (first | (with_reducible first | exact HB.out | apply za1 | apply za0 | apply za2 | refine za3 ?_ GE632.out) | exact HB.out)⟩⟩
  case rest =>
    clear HC2
    try clear p2
    try clear c3
    try clear c5
    obtain ⟨kq, x20_1, rfl, HA, HJ1, BK632, HB⟩ := hcut
    cases kq with
    | zero => exact absurd HA.out (by simp [spec_SquaresPlan.j0])
    | succ kj1 =>
      have H := HA.out
      clear HA
      simp only [spec_SquaresPlan.j0] at H
      by_cases c7 : x20_1 = true
      · subst c7
        have H1 : (some (0, ([] : List (S117)), ([] : List Int), false)) = some (r1, r2, r3, r4) := by rw [if_pos rfl] at H; exact H
        clear H
        have H := H1
        clear H1
        simp only [Option.some.injEq, Prod.mk.injEq] at H
        obtain ⟨rfl, rfl, rfl, rfl⟩ := H
        have hcz8_0 : wc.cell? ⟨gb632, 0, none⟩ = some (.int .i64 0) := (za8 BK632.out 0).trans rfl
        have hcz8_1 : wc.cell? ⟨gb632, 1, none⟩ = some (.slice none 0 0) := (za8 BK632.out 1).trans rfl
        have hcz8_2 : wc.cell? ⟨gb632, 2, none⟩ = some (.slice none 0 0) := (za8 BK632.out 2).trans rfl
        have hfz8_0 := za4 BK632.out 0
        have hfz8_1 := za4 BK632.out 1
        have hfz8_2 := za4 BK632.out 2
        go_wp2
        refine bodyPost_ret (results_ct rfl _ _ gb632 36 #[.int .i64 0, .slice none 0 0, .slice none 0 0] (0, 0) _ rfl (by (with_reducible repeat (first | refine za5 ?_ _ | refine za7 ?_ | refine za6 ?_ _)); refine zaw (cs := #[.int .i64 0, .slice none 0 0, .slice none 0 0]) ?_ 2 _ rfl; (with_reducible repeat (first | refine za5 ?_ _ | refine za7 ?_ | refine za6 ?_ _)); refine zaw (cs := #[.int .i64 0, .slice none 0 0, .slice none 0 0]) ?_ 1 _ rfl; (with_reducible repeat (first | refine za5 ?_ _ | refine za7 ?_ | refine za6 ?_ _)); refine zaw (cs := #[.int .i64 0, .slice none 0 0, .slice none 0 0]) ?_ 0 _ rfl; (with_reducible repeat (first | refine za5 ?_ _ | refine za7 ?_ | refine za6 ?_ _)); exact BK632.out) Try.underlying36 rfl (by kernel_rfl)) rfl ?_
        exact ⟨_, _, by first | rfl | (simp [zai, zaj] <;> rfl) | (simp [*, zai, zaj] <;> rfl), by first | exact Kd.R_nil _ _ _ _ _ | exact Kd.N_nil _ _ _ _ _ | exact Kd.V_nil _ _ _ _ _ | exact Kd.Q_nil _ _ _ _ _ | exact Kd.S_nil _ _ _ _ _, by first | exact Kd.R_nil _ _ _ _ _ | exact Kd.N_nil _ _ _ _ _ | exact Kd.V_nil _ _ _ _ _ | exact Kd.Q_nil _ _ _ _ _ | exact Kd.S_nil _ _ _ _ _, by repeat (first | (with_reducible first | exact HB.out | apply za1 | apply za0 | apply za2 | refine za3 ?_ GE632.out) | exact HB.out)⟩
      · replace c7 := Bool.eq_false_iff.mpr c7
        subst c7
        have H1 : (spec_SquaresPlan.l0 kj1 l0 1 1 ([] : List (S117)) ([] : List Int)) = some (r1, r2, r3, r4) := by rw [if_neg (show ¬ (false = true) by decide)] at H; exact H
        clear H
        have H := H1
        clear H1
        have H' := Aside0.mk H
        clear H
        go_wp2_with (first | ((with_reducible refine zaq (N := 4) rfl ?_); refine zan ?hg (N := 4) ?hd (cs := #[.int .i64 0, .slice none 0 0, .slice none 0 0]) (t := 36) ?hr ?_; (case hd => rfl); (case hg => rfl); (case hr => first | (go_simp; done) | (go_simp; rfl)); intro gb635 hg w9 hbox hb; have n0_ := Aside0.mk (zae (g := gb632) (o := .cells #[.int .i64 0, .slice none 0 0, .slice none 0 0] 36 (0, 0)) (by (with_reducible repeat (first | refine za5 ?_ _ | refine za7 ?_ | refine za6 ?_ _)); exact BK632.out) hb); have n1_ := Aside0.mk (zaf (by repeat (first | (with_reducible first | exact HB.out | apply za1 | apply za0 | apply za2 | refine za3 ?_ GE632.out) | exact HB.out)) hb); have n2_ := Aside0.mk (hbox); have n3_ := Aside0.mk ((by rw [hg]; exact (zad (by repeat (first | (with_reducible first | exact HB.out | apply za1 | apply za0 | apply za2 | refine za3 ?_ GE632.out) | exact HB.out))) : w.heap.size ≤ gb635)); have n4_ := Aside0.mk ((by rw [hg]; exact (zad (by repeat (first | (with_reducible first | exact HB.out | apply za1 | apply za0 | apply za2 | refine za3 ?_ GE632.out) | exact HB.out))) : w.heap.size ≤ gb635)); have n5_ := Aside0.mk ((by rw [hg]; exact Nat.ne_of_lt (zb0 (g := gb632) (o := .cells #[.int .i64 0, .slice none 0 0, .slice none 0 0] 36 (0, 0)) (by (with_reducible repeat (first | refine za5 ?_ _ | refine za7 ?_ | refine za6 ?_ _)); exact BK632.out)) : gb632 ≠ gb635)); have n6_ := Aside0.mk ((by rw [hg]; exact Nat.ne_of_gt (zb0 (g := gb632) (o := .cells #[.int .i64 0, .slice none 0 0, .slice none 0 0] 36 (0, 0)) (by (with_reducible repeat (first | refine za5 ?_ _ | refine za7 ?_ | refine za6 ?_ _)); exact BK632.out)) : gb635 ≠ gb632)); clear BK632; clear HB; have BK632 := n0_; have HB := n1_; have BK635 := n2_; have GW635 := n3_; have GE635 := n4_; have NB632_635 := n5_; have NB635_632 := n6_; clear n0_ n1_ n2_ n3_ n4_ n5_ n6_; clear hb hbox hg; have hnb10 := NB635_632.out; have hnc10 := NB632_635.out; have hcz11_0 : w9.cell? ⟨gb635, 0, none⟩ = some (.int .i64 0) := (za8 BK635.out 0).trans rfl; have hcz11_1 : w9.cell? ⟨gb635, 1, none⟩ = some (.slice none 0 0) := (za8 BK635.out 1).trans rfl; have hcz11_2 : w9.cell? ⟨gb635, 2, none⟩ = some (.slice none 0 0) := (za8 BK635.out 2).trans rfl; have hfz11_0 := za4 BK635.out 0; have hfz11_1 := za4 BK635.out 1; have hfz11_2 := za4 BK635.out 2))
        go_loopg [5] kj1 (fun kq v5 w' => ∃ (x5_2 : Int) (x636000_2 : Int) (x636001_2 : List (S117)) (x636002_2 : List Int) (u636001 : Value) (u636002 : Value), v5 = .int .i64 x5_2 ∧ Aside0 (spec_SquaresPlan.l0 kq l0 x5_2 x636000_2 x636001_2 x636002_2 = some (r1, r2, r3, r4)) ∧ Aside0 (kq ≤ kj1) ∧ Aside0 (Kd.R k117 117 w' w.heap.size (fun _ => True) u636001 x636001_2) ∧ Aside0 (Kd.R (Kd.int .i64) 3 w' w.heap.size (fun _ => True) u636002 x636002_2) ∧ Aside0 (w'.heap[gb632]? = some (.cells #[.int .i64 0, (.slice none 0 0), (.slice none 0 0)] 36 (0, 0))) ∧ Aside0 (w'.heap[gb635]? = some (.cells #[.int .i64 x636000_2, u636001, u636002] 36 (0, 0))) ∧ Aside0 (Below w.heap.size w w'))
        case atStart => exact ⟨(1), (1), (([] : List (S117))), (([] : List Int)), (.slice none 0 0), (.slice none 0 0), (by first | rfl | (simp; done) | (simp [*]; done)), H', ⟨Nat.le_refl _⟩, ⟨by first | exact Kd.R_nil _ _ _ _ _ | exact Kd.N_nil _ _ _ _ _ | exact Kd.V_nil _ _ _ _ _ | exact Kd.Q_nil _ _ _ _ _ | exact Kd.S_nil _ _ _ _ _⟩, ⟨by first | exact Kd.R_nil _ _ _ _ _ | exact Kd.N_nil _ _ _ _ _ | exact Kd.V_nil _ _ _ _ _ | exact Kd.Q_nil _ _ _ _ _ | exact Kd.S_nil _ _ _ _ _⟩, ⟨by (with_reducible repeat (first | refine za5 ?_ _ | refine za7 ?_ | refine za6 ?_ _)); refine zb1 ?_ NB632_635.out _; (with_reducible repeat (first | refine za5 ?_ _ | refine za7 ?_ | refine za6 ?_ _)); refine zb1 ?_ NB632_635.out _; (with_reducible repeat (first | refine za5 ?_ _ | refine za7 ?_ | refine za6 ?_ _)); refine zb1 ?_ NB632_635.out _; (with_reducible repeat (first | refine za5 ?_ _ | refine za7 ?_ | refine za6 ?_ _)); exact BK632.out⟩, ⟨by (with_reducible repeat (first | refine za5 ?_ _ | refine za7 ?_ | refine za6 ?_ _)); refine zaw (cs := #[.int .i64 1, .slice none 0 0, .slice none 0 0]) ?_ 2 _ rfl; (with_reducible repeat (first | refine za5 ?_ _ | refine za7 ?_ | refine za6 ?_ _)); refine zaw (cs := #[.int .i64 1, .slice none 0 0, .slice none 0 0]) ?_ 1 _ rfl; (with_reducible repeat (first | refine za5 ?_ _ | refine za7 ?_ | refine za6 ?_ _)); refine zaw (cs := #[.int .i64 0, .slice none 0 0, .slice none 0 0]) ?_ 0 _ rfl; (with_reducible repeat (first | refine za5 ?_ _ | refine za7 ?_ | refine za6 ?_ _)); exact BK635.out⟩, ⟨by repeat (first | (with_reducible first | exact HB.out | apply za1 | apply za0 | apply za2 | refine za3 ?_ GE632.out | refine za3 ?_ GE635.out) | exact HB.out)⟩⟩
        case round =>
          clear H'
          try clear c1
          try clear p2
          try clear c3
          try clear c5
          try clear c7
          try clear c10
          try clear hcz11_0
          try clear hcz11_1
          try clear hcz11_2
          try clear hcz8_0
          try clear hcz8_1
          try clear hcz8_2
          try clear hfz11_0
          try clear hfz11_1
          try clear hfz11_2
          try clear hfz8_0
          try clear hfz8_1
          try clear hfz8_2
          try clear p2
          obtain ⟨x5_2, x636000_2, x636001_2, x636002_2, u636001, u636002, rfl, HA, HK2, HO_636001, HO_636002, BK632, BK635, HB⟩ := hrel
          cases gk with
          | zero => exact absurd HA.out (by simp [spec_SquaresPlan.l0])
          | succ k2 =>
            have H := HA.out
            clear HA
            simp only [spec_SquaresPlan.l0] at H
            replace H := Option.bind_eq_some_iff.mp H
            obtain ⟨t636, A120, H⟩ := H
            replace H : ((spec_chLength.f k2 t636).bind fun t637 => (if x5_2 < t637 then ((spec_meTimes.f x636000_2 x636001_2 x636002_2 (wrap64 (x5_2 - 1)) (wrap64 (x5_2 - 1))).bind fun bt638 => (spec_SquaresPlan.l0 k2 l0 (wrap64 (x5_2 + 1)) bt638.1 bt638.2.1 bt638.2.2.1)) else (spec_SquaresPlan.l1 k2 ([] : List Int) l0 (l0.length : Int) 0 x636000_2 x636001_2 x636002_2))) = some (r1, r2, r3, r4) := H
            have A12 := Aside0.mk A120
            clear A120
            replace H := Option.bind_eq_some_iff.mp H
            obtain ⟨t637, A130, H⟩ := H
            replace H : (if x5_2 < t637 then ((spec_meTimes.f x636000_2 x636001_2 x636002_2 (wrap64 (x5_2 - 1)) (wrap64 (x5_2 - 1))).bind fun bt638 => (spec_SquaresPlan.l0 k2 l0 (wrap64 (x5_2 + 1)) bt638.1 bt638.2.1 bt638.2.2.1)) else (spec_SquaresPlan.l1 k2 ([] : List Int) l0 (l0.length : Int) 0 x636000_2 x636001_2 x636002_2)) = some (r1, r2, r3, r4) := H
            have A13 := Aside0.mk A130
            clear A130
            by_cases c14 : x5_2 < t637
            · rw [if_pos c14] at H
              have c14b0 : decide (x5_2 < t637) = true := decide_eq_true c14
              clear c14
              replace H := Option.bind_eq_some_iff.mp H
              obtain ⟨⟨t638, t639, t642, t645⟩, A150, H⟩ := H
              replace H : (spec_SquaresPlan.l0 k2 l0 (wrap64 (x5_2 + 1)) t638 t639 t642) = some (r1, r2, r3, r4) := H
              have A15 := Aside0.mk A150
              clear A150
              have H' := Aside0.mk H
              clear H
              go_wp2_with (first | ((with_reducible refine zah (f := 79) rfl ?_); refine zay (some 25) rfl rfl Try.func79 (by kernel_rfl) rfl #[.slice A0 l0.length c0] rfl (by (try simp only [List.map_toArray, List.map_cons, List.map_nil]); first | done | rfl | (simp only [List.length_drop, List.length_take]; rfl)) ?_; (with_reducible refine (spec_meGreatest.calls k2 _ _ l0 t636 _ ?side1 ?side2 A12.out).mono ?_); (case side1 => repeat (first | exact (Kd.zav HR0.out HB.out) | (with_reducible refine Kd.zar ?_ _) | (with_reducible refine Kd.zao ?_ _) | (with_reducible refine Kd.zau ?_))); (case side2 => exact HC0.out); rintro e w' ⟨rfl, ⟨nd, rfl⟩⟩; refine ⟨_, rfl, ?_⟩; (try (rw [drewN_self wr]; generalize hq_ : World.drewN wr _ = wr; have n0_ : Aside0 (Kd.R k117 117 wr w.heap.size (fun _ => True) u636001 x636001_2) := ⟨by rw [← hq_]; exact (by (with_reducible repeat (first | apply Kd.za9 | apply Kd.zaa | apply Kd.zac)); exact HO_636001.out)⟩; have n1_ : Aside0 (Kd.R (Kd.int .i64) 3 wr w.heap.size (fun _ => True) u636002 x636002_2) := ⟨by rw [← hq_]; exact (by (with_reducible repeat (first | apply Kd.za9 | apply Kd.zaa | apply Kd.zac)); exact HO_636002.out)⟩; have n2_ : Aside0 (wr.heap[gb632]? = some (.cells #[.int .i64 0, .slice none 0 0, .slice none 0 0] 36 (0, 0))) := ⟨by rw [← hq_]; exact (by (with_reducible repeat (first | refine za5 ?_ _ | refine za7 ?_ | refine za6 ?_ _)); exact BK632.out)⟩; have n3_ : Aside0 (wr.heap[gb635]? = some (.cells #[.int .i64 x636000_2, u636001, u636002] 36 (0, 0))) := ⟨by rw [← hq_]; exact (by (with_reducible repeat (first | refine za5 ?_ _ | refine za7 ?_ | refine za6 ?_ _)); exact BK635.out)⟩; have n4_ : Aside0 (Below w.heap.size w wr) := ⟨by rw [← hq_]; exact (by repeat (first | (with_reducible first | exact HB.out | apply za1 | apply za0 | apply za2 | refine za3 ?_ GE632.out | refine za3 ?_ GE635.out) | exact HB.out))⟩; clear HO_636001 HO_636002 BK632 BK635 HB hq_; have HO_636001 := n0_; have HO_636002 := n1_; have BK632 := n2_; have BK635 := n3_; have HB := n4_; clear n0_ n1_ n2_ n3_ n4_))) | ((with_reducible refine zah (f := 78) rfl ?_); refine zay (some 26) rfl rfl Try.func78 (by kernel_rfl) rfl #[.int .i64 t636] rfl (by (try simp only [List.map_toArray, List.map_cons, List.map_nil]); first | done | rfl | (simp only [List.length_drop, List.length_take]; rfl)) ?_; (with_reducible refine (spec_chLength.calls k2 t636 t637 _ A13.out).mono ?_); rintro e w' ⟨rfl, ⟨nd, rfl⟩⟩; refine ⟨_, rfl, ?_⟩; (try (rw [drewN_self wr]; generalize hq_ : World.drewN wr _ = wr; have n0_ : Aside0 (Kd.R k117 117 wr w.heap.size (fun _ => True) u636001 x636001_2) := ⟨by rw [← hq_]; exact (by (with_reducible repeat (first | apply Kd.za9 | apply Kd.zaa | apply Kd.zac)); exact HO_636001.out)⟩; have n1_ : Aside0 (Kd.R (Kd.int .i64) 3 wr w.heap.size (fun _ => True) u636002 x636002_2) := ⟨by rw [← hq_]; exact (by (with_reducible repeat (first | apply Kd.za9 | apply Kd.zaa | apply Kd.zac)); exact HO_636002.out)⟩; have n2_ : Aside0 (wr.heap[gb632]? = some (.cells #[.int .i64 0, .slice none 0 0, .slice none 0 0] 36 (0, 0))) := ⟨by rw [← hq_]; exact (by (with_reducible repeat (first | refine za5 ?_ _ | refine za7 ?_ | refine za6 ?_ _)); exact BK632.out)⟩; have n3_ : Aside0 (wr.heap[gb635]? = some (.cells #[.int .i64 x636000_2, u636001, u636002] 36 (0, 0))) := ⟨by rw [← hq_]; exact (by (with_reducible repeat (first | refine za5 ?_ _ | refine za7 ?_ | refine za6 ?_ _)); exact BK635.out)⟩; have n4_ : Aside0 (Below w.heap.size w wr) := ⟨by rw [← hq_]; exact (by repeat (first | (with_reducible first | exact HB.out | apply za1 | apply za0 | apply za2 | refine za3 ?_ GE632.out | refine za3 ?_ GE635.out) | exact HB.out))⟩; clear HO_636001 HO_636002 BK632 BK635 HB hq_; have HO_636001 := n0_; have HO_636002 := n1_; have BK632 := n2_; have BK635 := n3_; have HB := n4_; clear n0_ n1_ n2_ n3_ n4_)); have hnb16 := NB635_632.out; have hnc16 := NB632_635.out; have hcz17_0 : wr.cell? ⟨gb635, 0, none⟩ = some (.int .i64 x636000_2) := (za8 BK635.out 0).trans rfl; have hcz17_1 : wr.cell? ⟨gb635, 1, none⟩ = some (u636001) := (za8 BK635.out 1).trans rfl; have hcz17_2 : wr.cell? ⟨gb635, 2, none⟩ = some (u636002) := (za8 BK635.out 2).trans rfl; have hfz17_0 := za4 BK635.out 0; have hfz17_1 := za4 BK635.out 1; have hfz17_2 := za4 BK635.out 2; obtain ⟨Ao18, co18, eo18⟩ := Kd.zax HO_636001.out; subst eo18; obtain ⟨Ao19, co19, eo19⟩ := Kd.zax HO_636002.out; subst eo19) | ((with_reducible refine zah (f := 80) rfl ?_); refine zay (some 36) rfl rfl Try.func80 (by kernel_rfl) rfl #[.agg #[.int .i64 x636000_2, .slice Ao18 x636001_2.length co18, .slice Ao19 x636002_2.length co19], .int .i64 (wrap64 (x5_2 - 1)), .int .i64 (wrap64 (x5_2 - 1))] rfl (by (try simp only [List.map_toArray, List.map_cons, List.map_nil]); first | done | rfl | (simp only [List.length_drop, List.length_take]; rfl)) ?_; (with_reducible refine (spec_meTimes.calls x636000_2 _ _ x636001_2 _ _ x636002_2 (wrap64 (x5_2 - 1)) (wrap64 (x5_2 - 1)) t638 t639 t642 t645 _ ?side1 ?side2 ?side3 ?side4 A15.out).mono ?_); (case side1 => repeat (first | exact (Kd.R_reads' HO_636001.out).2.2 | (with_reducible refine Kd.zar ?_ _) | (with_reducible refine Kd.zao ?_ _) | (with_reducible refine Kd.zau ?_))); (case side2 => exact (Kd.R_reads' HO_636001.out).2.1); (case side3 => repeat (first | exact (Kd.R_reads' HO_636002.out).2.2 | (with_reducible refine Kd.zar ?_ _) | (with_reducible refine Kd.zao ?_ _) | (with_reducible refine Kd.zau ?_))); (case side4 => exact (Kd.R_reads' HO_636002.out).2.1); rintro e w20 ⟨v640, v643, rfl, ho0, ho1, hb⟩; refine ⟨_, rfl, ?_⟩; have n0_ := Aside0.mk (Kd.R_elder' (by (with_reducible repeat (first | apply Kd.za9 | apply Kd.zaa | apply Kd.zac)); exact HO_636001.out) (Kd.R_base ho0) hb); have n1_ := Aside0.mk (Kd.R_elder' (by (with_reducible repeat (first | apply Kd.za9 | apply Kd.zaa | apply Kd.zac)); exact HO_636002.out) (Kd.R_base ho1) hb); have n2_ := Aside0.mk (Kd.R_lower (Kd.R_new' ho0 (Kd.R_lt (by (with_reducible repeat (first | apply Kd.za9 | apply Kd.zaa | apply Kd.zac)); exact HO_636001.out))) (zad (by repeat (first | (with_reducible first | exact HB.out | apply za1 | apply za0 | apply za2 | refine za3 ?_ GE632.out | refine za3 ?_ GE635.out) | exact HB.out)))); have n3_ := Aside0.mk (Kd.R_lower (Kd.R_new' ho1 (Kd.R_lt (by (with_reducible repeat (first | apply Kd.za9 | apply Kd.zaa | apply Kd.zac)); exact HO_636002.out))) (zad (by repeat (first | (with_reducible first | exact HB.out | apply za1 | apply za0 | apply za2 | refine za3 ?_ GE632.out | refine za3 ?_ GE635.out) | exact HB.out)))); have n4_ := Aside0.mk (zae (g := gb632) (o := .cells #[.int .i64 0, .slice none 0 0, .slice none 0 0] 36 (0, 0)) (by (with_reducible repeat (first | refine za5 ?_ _ | refine za7 ?_ | refine za6 ?_ _)); exact BK632.out) hb); have n5_ := Aside0.mk (zae (g := gb635) (o := .cells #[.int .i64 x636000_2, .slice Ao18 x636001_2.length co18, .slice Ao19 x636002_2.length co19] 36 (0, 0)) (by (with_reducible repeat (first | refine za5 ?_ _ | refine za7 ?_ | refine za6 ?_ _)); exact BK635.out) hb); have n6_ := Aside0.mk (zaf (by repeat (first | (with_reducible first | exact HB.out | apply za1 | apply za0 | apply za2 | refine za3 ?_ GE632.out | refine za3 ?_ GE635.out) | exact HB.out)) hb); clear HO_636001; clear HO_636002; clear BK632; clear BK635; clear HB; have HO_636001 := n0_; have HO_636002 := n1_; have HO641 := n2_; have HO644 := n3_; have BK632 := n4_; have BK635 := n5_; have HB := n6_; clear n0_ n1_ n2_ n3_ n4_ n5_ n6_; (try clear hb); (try clear hb2); (try clear hk); (try clear hi); (try clear ho0); (try clear ho1); have hcz21_0 : w20.cell? ⟨gb635, 0, none⟩ = some (.int .i64 x636000_2) := (za8 BK635.out 0).trans rfl; have hcz21_1 : w20.cell? ⟨gb635, 1, none⟩ = some (.slice Ao18 x636001_2.length co18) := (za8 BK635.out 1).trans rfl; have hcz21_2 : w20.cell? ⟨gb635, 2, none⟩ = some (.slice Ao19 x636002_2.length co19) := (za8 BK635.out 2).trans rfl; have hfz21_0 := za4 BK635.out 0; have hfz21_1 := za4 BK635.out 1; have hfz21_2 := za4 BK635.out 2; obtain ⟨Ao22, co22, eo22⟩ := Kd.zax HO641.out; subst eo22; obtain ⟨Ao23, co23, eo23⟩ := Kd.zax HO644.out; subst eo23))
              go_roundg k2
              case measure => have := HJ1.out; have := HK2.out; omega
              case rel => exact ⟨(wrap64 (x5_2 + 1)), (t638), (t639), (t642), (.slice Ao22 t639.length co22), (.slice Ao23 t642.length co23), (by first | rfl | (simp; done) | (simp [*]; done)), H', ⟨by have := HJ1.out; have := HK2.out; omega⟩, ⟨by (with_reducible repeat (first | apply Kd.za9 | apply Kd.zaa | apply Kd.zac)); exact Kd.zak (Kd.R_far (p := ⟨gb635, 2, none⟩) (Kd.R_far (p := ⟨gb635, 1, none⟩) (Kd.R_far (p := ⟨gb635, 0, none⟩) (Kd.zas HO641.out BK635.out (by decide)) (fun _ hk => hk.2) (.int .i64 t638)) (fun _ hk => hk.2) (.slice Ao22 t639.length co22)) (fun _ hk => hk.2) (.slice Ao23 t642.length co23)) (fun _ hk => trivial)⟩, ⟨by (with_reducible repeat (first | apply Kd.za9 | apply Kd.zaa | apply Kd.zac)); exact Kd.zak (Kd.R_far (p := ⟨gb635, 2, none⟩) (Kd.R_far (p := ⟨gb635, 1, none⟩) (Kd.R_far (p := ⟨gb635, 0, none⟩) (Kd.zas HO644.out BK635.out (by decide)) (fun _ hk => hk.2) (.int .i64 t638)) (fun _ hk => hk.2) (.slice Ao22 t639.length co22)) (fun _ hk => hk.2) (.slice Ao23 t642.length co23)) (fun _ hk => trivial)⟩, ⟨by (with_reducible repeat (first | refine za5 ?_ _ | refine za7 ?_ | refine za6 ?_ _)); refine zb1 ?_ NB632_635.out _; (with_reducible repeat (first | refine za5 ?_ _ | refine za7 ?_ | refine za6 ?_ _)); refine zb1 ?_ NB632_635.out _; (with_reducible repeat (first | refine za5 ?_ _ | refine za7 ?_ | refine za6 ?_ _)); refine zb1 ?_ NB632_635.out _; (with_reducible repeat (first | refine za5 ?_ _ | refine za7 ?_ | refine za6 ?_ _)); exact BK632.out⟩, ⟨by (with_reducible repeat (first | refine za5 ?_ _ | refine za7 ?_ | refine za6 ?_ _)); refine zaw (cs := #[.int .i64 t638, .slice Ao22 t639.length co22, .slice Ao19 x636002_2.length co19]) ?_ 2 _ rfl; (with_reducible repeat (first | refine za5 ?_ _ | refine za7 ?_ | refine za6 ?_ _)); refine zaw (cs := #[.int .i64 t638, .slice Ao18 x636001_2.length co18, .slice Ao19 x636002_2.length co19]) ?_ 1 _ rfl; (with_reducible repeat (first | refine za5 ?_ _ | refine za7 ?_ | refine za6 ?_ _)); refine zaw (cs := #[.int .i64 x636000_2, .slice Ao18 x636001_2.length co18, .slice Ao19 x636002_2.length co19]) ?_ 0 _ rfl; (with_reducible repeat (first | refine za5 ?_ _ | refine za7 ?_ | refine za6 ?_ _)); exact BK635.out⟩, ⟨by repeat (first | (with_reducible first | exact HB.out | apply za1 | apply za0 | apply za2 | refine za3 ?_ GE632.out | refine za3 ?_ GE635.out) | exact HB.out)⟩⟩
            · rw [if_neg c14] at H
              have c14b0 : decide (x5_2 < t637) = false := decide_eq_false c14
              clear c14
              have H' := Aside0.mk H
              clear H
              go_wp2_with (first | ((with_reducible refine zah (f := 79) rfl ?_); refine zay (some 25) rfl rfl Try.func79 (by kernel_rfl) rfl #[.slice A0 l0.length c0] rfl (by (try simp only [List.map_toArray, List.map_cons, List.map_nil]); first | done | rfl | (simp only [List.length_drop, List.length_take]; rfl)) ?_; (with_reducible refine (spec_meGreatest.calls k2 _ _ l0 t636 _ ?side1 ?side2 A12.out).mono ?_); (case side1 => repeat (first | exact (Kd.zav HR0.out HB.out) | (with_reducible refine Kd.zar ?_ _) | (with_reducible refine Kd.zao ?_ _) | (with_reducible refine Kd.zau ?_))); (case side2 => exact HC0.out); rintro e w' ⟨rfl, ⟨nd, rfl⟩⟩; refine ⟨_, rfl, ?_⟩) | ((with_reducible refine zah (f := 78) rfl ?_); refine zay (some 26) rfl rfl Try.func78 (by kernel_rfl) rfl #[.int .i64 t636] rfl (by (try simp only [List.map_toArray, List.map_cons, List.map_nil]); first | done | rfl | (simp only [List.length_drop, List.length_take]; rfl)) ?_; (with_reducible refine (spec_chLength.calls k2 t636 t637 _ A13.out).mono ?_); rintro e w' ⟨rfl, ⟨nd, rfl⟩⟩; refine ⟨_, rfl, ?_⟩))
              go_loopg [6, 41] k2 (fun kq v6 v41 w' => ∃ (x6_3 : List Int) (x41_3 : Int) (x636000_3 : Int) (x636001_3 : List (S117)) (x636002_3 : List Int) (u636001 : Value) (u636002 : Value), v41 = .int .i64 x41_3 ∧ Aside0 (spec_SquaresPlan.l1 kq x6_3 l0 (l0.length : Int) x41_3 x636000_3 x636001_3 x636002_3 = some (r1, r2, r3, r4)) ∧ Aside0 (kq ≤ k2) ∧ Aside0 (Kd.R (Kd.int .i64) 3 w' w.heap.size (fun k_ => some k_ ≠ (u636002 : Value).ownBlock) v6 x6_3) ∧ Aside0 (Kd.R k117 117 w' w.heap.size (fun _ => True) u636001 x636001_3) ∧ Aside0 (Kd.R (Kd.int .i64) 3 w' w.heap.size (fun k_ => some k_ ≠ (v6 : Value).ownBlock) u636002 x636002_3) ∧ Aside0 (w'.heap[gb632]? = some (.cells #[.int .i64 0, (.slice none 0 0), (.slice none 0 0)] 36 (0, 0))) ∧ Aside0 (w'.heap[gb635]? = some (.cells #[.int .i64 x636000_3, u636001, u636002] 36 (0, 0))) ∧ Aside0 (Below w.heap.size w w'))
              case atStart => exact ⟨(([] : List Int)), (0), (x636000_2), (x636001_2), (x636002_2), (u636001), (u636002), (by first | rfl | (simp; done) | (simp [*]; done)), H', ⟨Nat.le_refl _⟩, ⟨by first | exact Kd.R_nil _ _ _ _ _ | exact Kd.N_nil _ _ _ _ _ | exact Kd.V_nil _ _ _ _ _ | exact Kd.Q_nil _ _ _ _ _ | exact Kd.S_nil _ _ _ _ _⟩, ⟨by (with_reducible repeat (first | apply Kd.za9 | apply Kd.zaa | apply Kd.zac)); exact HO_636001.out⟩, ⟨by (with_reducible repeat (first | apply Kd.za9 | apply Kd.zaa | apply Kd.zac)); exact Kd.zak HO_636002.out (fun _ hk => (by simp [Value.ownBlock]))⟩, ⟨by (with_reducible repeat (first | refine za5 ?_ _ | refine za7 ?_ | refine za6 ?_ _)); exact BK632.out⟩, ⟨by (with_reducible repeat (first | refine za5 ?_ _ | refine za7 ?_ | refine za6 ?_ _)); exact BK635.out⟩, ⟨by repeat (first | (with_reducible first | exact HB.out | apply za1 | apply za0 | apply za2 | refine za3 ?_ GE632.out | refine za3 ?_ GE635.out) | exact HB.out)⟩⟩
              case round =>
                clear H'
                try clear c1
                try clear p2
                try clear c3
                try clear c5
                try clear p6
                try clear c7
                try clear c8
                try clear c10
                try clear c14
                try clear c14b0
                try clear c16
                try clear hcz11_0
                try clear hcz11_1
                try clear hcz11_2
                try clear hcz17_0
                try clear hcz17_1
                try clear hcz17_2
                try clear hcz21_0
                try clear hcz21_1
                try clear hcz21_2
                try clear hcz8_0
                try clear hcz8_1
                try clear hcz8_2
                try clear hfz11_0
                try clear hfz11_1
                try clear hfz11_2
                try clear hfz17_0
                try clear hfz17_1
                try clear hfz17_2
                try clear hfz21_0
                try clear hfz21_1
                try clear hfz21_2
                try clear hfz8_0
                try clear hfz8_1
                try clear hfz8_2
                try clear p2
                obtain ⟨x6_3, x41_3, x636000_3, x636001_3, x636002_3, u636001, u636002, rfl, HA, HK3, HO_6, HO_636001, HO_636002, BK632, BK635, HB⟩ := hrel
                cases gk with
                | zero => exact absurd HA.out (by simp [spec_SquaresPlan.l1])
                | succ k3 =>
                  have H := HA.out
                  clear HA
                  simp only [spec_SquaresPlan.l1] at H
                  by_cases c24 : x41_3 < (l0.length : Int)
                  · rw [if_pos c24] at H
                    have c24b0 : decide (x41_3 < (l0.length : Int)) = true := decide_eq_true c24
                    clear c24
                    by_cases c25 : 0 ≤ x41_3
                    · rw [if_pos c25] at H
                      have c25b0 : decide (0 ≤ x41_3) = true := decide_eq_true c25
                      clear c25
                      by_cases c26 : x41_3 < (l0.length : Int)
                      · rw [if_pos c26] at H
                        have c26b0 : decide (x41_3 < (l0.length : Int)) = true := decide_eq_true c26
                        clear c26
                        replace H := Option.bind_eq_some_iff.mp H
                        obtain ⟨t655, A270, H⟩ := H
                        replace H : (spec_SquaresPlan.l2 k3 x6_3 (-1) l0 (l0.length : Int) x41_3 t655 (t655.length : Int) 0 x636000_3 x636001_3 x636002_3) = some (r1, r2, r3, r4) := H
                        have A27 := Aside0.mk A270
                        clear A270
                        have H' := Aside0.mk H
                        clear H
                        have p654 : 0 ≤ (x41_3 : Int) := of_decide_eq_true (by first | (with_reducible assumption) | assumption)
                        have q654 : x41_3 < (l0.length : Int) := of_decide_eq_true (by first | (with_reducible assumption) | assumption)
                        obtain ⟨ad654, e654, hx654_0⟩ := Kd.at_int HR0.out x41_3 p654 q654
                        cases e654
                        replace hx654_0 := (HB.out.cell (World.block_lt_of_cell? w _ hx654_0)).trans hx654_0
                        replace p654 := eq_true p654
                        replace q654 := eq_true q654
                        go_wp2_with (first | ((with_reducible refine zah (f := 81) rfl ?_); refine zay (some 46) rfl rfl Try.func81 (by kernel_rfl) rfl #[.int .i64 (rd l0 x41_3), .int .i64 2] rfl (by (try simp only [List.map_toArray, List.map_cons, List.map_nil]); first | done | rfl | (simp only [List.length_drop, List.length_take]; rfl)) ?_; (with_reducible refine (spec_meDigits.calls k3 (rd l0 x41_3) 2 t655 _ A27.out).mono ?_); rintro e w28 ⟨v656, rfl, ho0, hb⟩; refine ⟨_, rfl, ?_⟩; have n0_ := Aside0.mk (Kd.R_elder' (by (with_reducible repeat (first | apply Kd.za9 | apply Kd.zaa | apply Kd.zac)); exact HO_6.out) (Kd.R_base ho0) hb); have n1_ := Aside0.mk (Kd.zal (by (with_reducible repeat (first | apply Kd.za9 | apply Kd.zaa | apply Kd.zac)); exact HO_636001.out) hb); have n2_ := Aside0.mk (Kd.R_elder' (by (with_reducible repeat (first | apply Kd.za9 | apply Kd.zaa | apply Kd.zac)); exact HO_636002.out) (Kd.R_base ho0) hb); have n3_ := Aside0.mk (Kd.R_lower (Kd.R_new' (Kd.R_new' ho0 (Kd.R_lt (by (with_reducible repeat (first | apply Kd.za9 | apply Kd.zaa | apply Kd.zac)); exact HO_6.out))) (Kd.R_lt (by (with_reducible repeat (first | apply Kd.za9 | apply Kd.zaa | apply Kd.zac)); exact HO_636002.out))) (zad (by repeat (first | (with_reducible first | exact HB.out | apply za1 | apply za0 | apply za2 | refine za3 ?_ GE632.out | refine za3 ?_ GE635.out) | exact HB.out)))); have n4_ := Aside0.mk (zae (g := gb632) (o := .cells #[.int .i64 0, .slice none 0 0, .slice none 0 0] 36 (0, 0)) (by (with_reducible repeat (first | refine za5 ?_ _ | refine za7 ?_ | refine za6 ?_ _)); exact BK632.out) hb); have n5_ := Aside0.mk (zae (g := gb635) (o := .cells #[.int .i64 x636000_3, u636001, u636002] 36 (0, 0)) (by (with_reducible repeat (first | refine za5 ?_ _ | refine za7 ?_ | refine za6 ?_ _)); exact BK635.out) hb); have n6_ := Aside0.mk (zaf (by repeat (first | (with_reducible first | exact HB.out | apply za1 | apply za0 | apply za2 | refine za3 ?_ GE632.out | refine za3 ?_ GE635.out) | exact HB.out)) hb); clear HO_6; clear HO_636001; clear HO_636002; clear BK632; clear BK635; clear HB; have HO_6 := n0_; have HO_636001 := n1_; have HO_636002 := n2_; have HO657 := n3_; have BK632 := n4_; have BK635 := n5_; have HB := n6_; clear n0_ n1_ n2_ n3_ n4_ n5_ n6_; (try clear hb); (try clear hb2); (try clear hk); (try clear hi); (try clear ho0); obtain ⟨Ao29, co29, eo29⟩ := Kd.zax HO657.out; subst eo29))
                        go_loopg [9, 48] k3 (fun kq v9 v48 w' => ∃ (x9_4 : Int) (x48_4 : Int) (x636000_4 : Int) (x636001_4 : List (S117)) (x636002_4 : List Int) (u636001 : Value) (u636002 : Value), v9 = .int .i64 x9_4 ∧ v48 = .int .i64 x48_4 ∧ Aside0 (spec_SquaresPlan.l2 kq x6_3 x9_4 l0 (l0.length : Int) x41_3 t655 (t655.length : Int) x48_4 x636000_4 x636001_4 x636002_4 = some (r1, r2, r3, r4)) ∧ Aside0 (kq ≤ k3) ∧ Aside0 (Kd.R (Kd.int .i64) 3 w' w.heap.size (fun k_ => some k_ ≠ ((.slice Ao29 t655.length co29) : Value).ownBlock ∧ some k_ ≠ (u636002 : Value).ownBlock) u6 x6_3) ∧ Aside0 (Kd.R (Kd.int .i64) 3 w' w.heap.size (fun k_ => some k_ ≠ (u6 : Value).ownBlock ∧ some k_ ≠ (u636002 : Value).ownBlock) (.slice Ao29 t655.length co29) t655) ∧ Aside0 (Kd.R k117 117 w' w.heap.size (fun _ => True) u636001 x636001_4) ∧ Aside0 (Kd.R (Kd.int .i64) 3 w' w.heap.size (fun k_ => some k_ ≠ (u6 : Value).ownBlock ∧ some k_ ≠ ((.slice Ao29 t655.length co29) : Value).ownBlock) u636002 x636002_4) ∧ Aside0 (w'.heap[gb632]? = some (.cells #[.int .i64 0, (.slice none 0 0), (.slice none 0 0)] 36 (0, 0))) ∧ Aside0 (w'.heap[gb635]? = some (.cells #[.int .i64 x636000_4, u636001, u636002] 36 (0, 0))) ∧ Aside0 (Below w.heap.size w w'))
                        case atStart => exact ⟨((-1)), (0), (x636000_3), (x636001_3), (x636002_3), (u636001), (u636002), (by first | rfl | (simp; done) | (simp [*]; done)), (by first | rfl | (simp; done) | (simp [*]; done)), H', ⟨Nat.le_refl _⟩, ⟨by (with_reducible repeat (first | apply Kd.za9 | apply Kd.zaa | apply Kd.zac)); exact Kd.zak HO_6.out (fun _ hk => ⟨hk.2, hk.1⟩)⟩, ⟨by (with_reducible repeat (first | apply Kd.za9 | apply Kd.zaa | apply Kd.zac)); exact Kd.zak HO657.out (fun _ hk => ⟨hk.1.2, hk.2⟩)⟩, ⟨by (with_reducible repeat (first | apply Kd.za9 | apply Kd.zaa | apply Kd.zac)); exact HO_636001.out⟩, ⟨by (with_reducible repeat (first | apply Kd.za9 | apply Kd.zaa | apply Kd.zac)); exact HO_636002.out⟩, ⟨by (with_reducible repeat (first | refine za5 ?_ _ | refine za7 ?_ | refine za6 ?_ _)); exact BK632.out⟩, ⟨by (with_reducible repeat (first | refine za5 ?_ _ | refine za7 ?_ | refine za6 ?_ _)); exact BK635.out⟩, ⟨by repeat (first | (with_reducible first | exact HB.out | apply za1 | apply za0 | apply za2 | refine za3 ?_ GE632.out | refine za3 ?_ GE635.out) | exact HB.out)⟩⟩
                        case round =>
                          clear H'
                          try clear c1
                          try clear c2
                          try clear p2
                          try clear c3
                          try clear c5
                          try clear p6
                          try clear q6
                          try clear hx6
                          try clear c7
                          try clear c8
                          try clear c10
                          try clear c14
                          try clear c14b0
                          try clear c16
                          try clear c24
                          try clear c24b0
                          try clear c25
                          try clear c25b0
                          try clear c26
                          try clear c26b0
                          try clear hcz11_0
                          try clear hcz11_1
                          try clear hcz11_2
                          try clear hcz17_0
                          try clear hcz17_1
                          try clear hcz17_2
                          try clear hcz21_0
                          try clear hcz21_1
                          try clear hcz21_2
                          try clear hcz8_0
                          try clear hcz8_1
                          try clear hcz8_2
                          try clear hfz11_0
                          try clear hfz11_1
                          try clear hfz11_2
                          try clear hfz17_0
                          try clear hfz17_1
                          try clear hfz17_2
                          try clear hfz21_0
                          try clear hfz21_1
                          try clear hfz21_2
                          try clear hfz8_0
                          try clear hfz8_1
                          try clear hfz8_2
                          try clear hx654_0
                          try clear p2
                          try clear p6
                          try clear p654
                          try clear q654
                          obtain ⟨x9_4, x48_4, x636000_4, x636001_4, x636002_4, u636001, u636002, rfl, rfl, HA, HK4, HO_6, HO_46, HO_636001, HO_636002, BK632, BK635, HB⟩ := hrel
                          cases gk with
                          | zero => exact absurd HA.out (by simp [spec_SquaresPlan.l2])
                          | succ k4 =>
                            have H := HA.out
                            clear HA
                            simp only [spec_SquaresPlan.l2] at H
                            by_cases c30 : x48_4 < (t655.length : Int)
                            · rw [if_pos c30] at H
                              have c30b0 : decide (x48_4 < (t655.length : Int)) = true := decide_eq_true c30
                              clear c30
                              by_cases c31 : 0 ≤ x48_4
                              · rw [if_pos c31] at H
                                have c31b0 : decide (0 ≤ x48_4) = true := decide_eq_true c31
                                clear c31
                                by_cases c32 : x48_4 < (t655.length : Int)
                                · rw [if_pos c32] at H
                                  have c32b0 : decide (x48_4 < (t655.length : Int)) = true := decide_eq_true c32
                                  clear c32
                                  have HC33 := Aside0.mk H
                                  clear H
                                  have p661 : 0 ≤ (x48_4 : Int) := of_decide_eq_true (by first | (with_reducible assumption) | assumption)
                                  have q661 : x48_4 < (t655.length : Int) := of_decide_eq_true (by first | (with_reducible assumption) | assumption)
                                  obtain ⟨ad661, e661, hx661_0⟩ := Kd.at_int (Kd.R_reads' HO_46.out).2.2 x48_4 p661 q661
                                  cases e661
                                  replace p661 := eq_true p661
                                  replace q661 := eq_true q661
                                  go_upto_region 16 with (fail)
                                  go_cut [58] (fun v58 wc => ∃ (kq : Nat) (x58_32 : Bool), v58 = .bool x58_32 ∧ Aside0 (spec_SquaresPlan.j4 kq x6_3 x9_4 x48_4 (rd t655 x48_4) l0 (l0.length : Int) x41_3 t655 (t655.length : Int) x48_4 x58_32 x636000_4 x636001_4 x636002_4 = some (r1, r2, r3, r4)) ∧ Aside0 (kq ≤ k4) ∧ Aside0 (Kd.R (Kd.int .i64) 3 wc w.heap.size (fun k_ => some k_ ≠ ((.slice (some ad661) t655.length co29) : Value).ownBlock ∧ some k_ ≠ (u636002 : Value).ownBlock) u6 x6_3) ∧ Aside0 (Kd.R (Kd.int .i64) 3 wc w.heap.size (fun k_ => some k_ ≠ (u6 : Value).ownBlock ∧ some k_ ≠ (u636002 : Value).ownBlock) (.slice (some ad661) t655.length co29) t655) ∧ Aside0 (Kd.R k117 117 wc w.heap.size (fun _ => True) u636001 x636001_4) ∧ Aside0 (Kd.R (Kd.int .i64) 3 wc w.heap.size (fun k_ => some k_ ≠ (u6 : Value).ownBlock ∧ some k_ ≠ ((.slice (some ad661) t655.length co29) : Value).ownBlock) u636002 x636002_4) ∧ Aside0 (wc.heap[gb632]? = some (.cells #[.int .i64 0, (.slice none 0 0), (.slice none 0 0)] 36 (0, 0))) ∧ Aside0 (wc.heap[gb635]? = some (.cells #[.int .i64 x636000_4, u636001, u636002] 36 (0, 0))) ∧ Aside0 (Below w.heap.size w wc))
                                  case first =>
                                    have H := HC33.out
                                    clear HC33
                                    by_cases c34 : (rd t655 x48_4) = 1
                                    · rw [if_pos c34] at H
                                      have c34b0 : ((rd t655 x48_4) == 1) = true := beq_iff_eq.mpr c34
                                      have c34b1 : ((rd t655 x48_4) != 1) = false := bne_eq_false_iff_eq.mpr c34
                                      clear c34
                                      (first | rw [c34b0] | (simp only [i64_w, i32_w]; rw [c34b0]) | skip)
                                      have H' := Aside0.mk H
                                      clear H
                                      go_wp2
                                      go_meet
                                      case rel => exact ⟨_, (decide (x9_4 ≥ 0)), (by first | rfl | (simp; done) | (simp [*]; done)), H', ⟨by have := HJ1.out; have := HK2.out; have := HK3.out; have := HK4.out; first | omega | exact Nat.le_refl _⟩, ⟨by (with_reducible repeat (first | apply Kd.za9 | apply Kd.zaa | apply Kd.zac)); exact HO_6.out⟩, ⟨by (with_reducible repeat (first | apply Kd.za9 | apply Kd.zaa | apply Kd.zac)); exact HO_46.out⟩, ⟨by (with_reducible repeat (first | apply Kd.za9 | apply Kd.zaa | apply Kd.zac)); exact HO_636001.out⟩, ⟨by (with_reducible repeat (first | apply Kd.za9 | apply Kd.zaa | apply Kd.zac)); exact HO_636002.out⟩, ⟨by (with_reducible repeat (first | refine za5 ?_ _ | refine za7 ?_ | refine za6 ?_ _)); exact BK632.out⟩, ⟨by (with_reducible repeat (first | refine za5 ?_ _ | refine za7 ?_ | refine za6 ?_ _)); exact BK635.out⟩, ⟨by repeat (first | (with_reducible first | exact HB.out | apply za1 | apply za0 | apply za2 | refine za3 ?_ GE632.out | refine za3 ?_ GE635.out) | exact HB.out)⟩⟩
                                    · rw [if_neg c34] at H
                                      have c34b0 : ((rd t655 x48_4) == 1) = false := beq_eq_false_iff_ne.mpr c34
                                      have c34b1 : ((rd t655 x48_4) != 1) = true := bne_iff_ne.mpr c34
                                      (first | rw [c34b0] | (simp only [i64_w, i32_w]; rw [c34b0]) | skip)
                                      have H' := Aside0.mk H
                                      clear H
                                      go_wp2
                                      go_meet
                                      case rel => exact ⟨_, (false), (by first | rfl | (simp; done) | (simp [*]; done)), H', ⟨by have := HJ1.out; have := HK2.out; have := HK3.out; have := HK4.out; first | omega | exact Nat.le_refl _⟩, ⟨by (with_reducible repeat (first | apply Kd.za9 | apply Kd.zaa | apply Kd.zac)); exact HO_6.out⟩, ⟨by (with_reducible repeat (first | apply Kd.za9 | apply Kd.zaa | apply Kd.zac)); exact HO_46.out⟩, ⟨by (with_reducible repeat (first | apply Kd.za9 | apply Kd.zaa | apply Kd.zac)); exact HO_636001.out⟩, ⟨by (with_reducible repeat (first | apply Kd.za9 | apply Kd.zaa | apply Kd.zac)); exact HO_636002.out⟩, ⟨by (with_reducible repeat (first | refine za5 ?_ _ | refine za7 ?_ | refine za6 ?_ _)); exact BK632.out⟩, ⟨by (with_reducible repeat (first | refine za5 ?_ _ | refine za7 ?_ | refine za6 ?_ _)); exact BK635.out⟩, ⟨by repeat (first | (with_reducible first | exact HB.out | apply za1 | apply za0 | apply za2 | refine za3 ?_ GE632.out | refine za3 ?_ GE635.out) | exact HB.out)⟩⟩
                                  case rest =>
                                    clear HC33
                                    try clear c1
                                    try clear c2
                                    try clear p2
                                    try clear c3
                                    try clear c5
                                    try clear p6
                                    try clear q6
                                    try clear hx6
                                    try clear c7
                                    try clear c8
                                    try clear c10
                                    try clear c14
                                    try clear c14b0
                                    try clear c16
                                    try clear c24
                                    try clear c24b0
                                    try clear c25
                                    try clear c25b0
                                    try clear c26
                                    try clear c26b0
                                    try clear c30
                                    try clear c30b0
                                    try clear c31
                                    try clear c31b0
                                    try clear c32
                                    try clear c32b0
                                    try clear c34
                                    try clear c34b0
                                    try clear c34b1
                                    try clear hcz11_0
                                    try clear hcz11_1
                                    try clear hcz11_2
                                    try clear hcz17_0
                                    try clear hcz17_1
                                    try clear hcz17_2
                                    try clear hcz21_0
                                    try clear hcz21_1
                                    try clear hcz21_2
                                    try clear hcz8_0
                                    try clear hcz8_1
                                    try clear hcz8_2
                                    try clear hfz11_0
                                    try clear hfz11_1
                                    try clear hfz11_2
                                    try clear hfz17_0
                                    try clear hfz17_1
                                    try clear hfz17_2
                                    try clear hfz21_0
                                    try clear hfz21_1
                                    try clear hfz21_2
                                    try clear hfz8_0
                                    try clear hfz8_1
                                    try clear hfz8_2
                                    try clear hx654_0
                                    try clear hx661_0
                                    try clear p2
                                    try clear p6
                                    try clear p654
                                    try clear p661
                                    try clear q6
                                    try clear q654
                                    try clear q661
                                    obtain ⟨kq, x58_32, rfl, HA, HJ32, HO_6, HO_46, HO_636001, HO_636002, BK632, BK635, HB⟩ := hcut
                                    cases kq with
                                    | zero => exact absurd HA.out (by simp [spec_SquaresPlan.j4])
                                    | succ kj32 =>
                                      have H := HA.out
                                      clear HA
                                      simp only [spec_SquaresPlan.j4] at H
                                      by_cases c35 : x58_32 = true
                                      · subst c35
                                        have H1 : ((spec_meTimes.f x636000_4 x636001_4 x636002_4 x9_4 x48_4).bind fun bt662 => (spec_SquaresPlan.l2 kj32 x6_3 bt662.2.2.2 l0 (l0.length : Int) x41_3 t655 (t655.length : Int) (wrap64 (x48_4 + 1)) bt662.1 bt662.2.1 bt662.2.2.1)) = some (r1, r2, r3, r4) := by rw [if_pos rfl] at H; exact H
                                        clear H
                                        have H := H1
                                        clear H1
                                        replace H := Option.bind_eq_some_iff.mp H
                                        obtain ⟨⟨t662, t663, t666, t669⟩, A360, H⟩ := H
                                        replace H : (spec_SquaresPlan.l2 kj32 x6_3 t669 l0 (l0.length : Int) x41_3 t655 (t655.length : Int) (wrap64 (x48_4 + 1)) t662 t663 t666) = some (r1, r2, r3, r4) := H
                                        have A36 := Aside0.mk A360
                                        clear A360
                                        have H' := Aside0.mk H
                                        clear H
                                        have hnb37 := NB635_632.out
                                        have hnc37 := NB632_635.out
                                        have hcz38_0 : wc.cell? ⟨gb635, 0, none⟩ = some (.int .i64 x636000_4) := (za8 BK635.out 0).trans rfl
                                        have hcz38_1 : wc.cell? ⟨gb635, 1, none⟩ = some (u636001) := (za8 BK635.out 1).trans rfl
                                        have hcz38_2 : wc.cell? ⟨gb635, 2, none⟩ = some (u636002) := (za8 BK635.out 2).trans rfl
                                        have hfz38_0 := za4 BK635.out 0
                                        have hfz38_1 := za4 BK635.out 1
                                        have hfz38_2 := za4 BK635.out 2
                                        obtain ⟨Ao39, co39, eo39⟩ := Kd.zax HO_636001.out
                                        subst eo39
                                        obtain ⟨Ao40, co40, eo40⟩ := Kd.zax HO_636002.out
                                        subst eo40
                                        go_wp2_with (first | ((with_reducible refine zah (f := 80) rfl ?_); refine zay (some 63) rfl rfl Try.func80 (by kernel_rfl) rfl #[.agg #[.int .i64 x636000_4, .slice Ao39 x636001_4.length co39, .slice Ao40 x636002_4.length co40], .int .i64 x9_4, .int .i64 x48_4] rfl (by (try simp only [List.map_toArray, List.map_cons, List.map_nil]); first | done | rfl | (simp only [List.length_drop, List.length_take]; rfl)) ?_; (with_reducible refine (spec_meTimes.calls x636000_4 _ _ x636001_4 _ _ x636002_4 x9_4 x48_4 t662 t663 t666 t669 _ ?side1 ?side2 ?side3 ?side4 A36.out).mono ?_); (case side1 => repeat (first | exact (Kd.R_reads' HO_636001.out).2.2 | (with_reducible refine Kd.zar ?_ _) | (with_reducible refine Kd.zao ?_ _) | (with_reducible refine Kd.zau ?_))); (case side2 => exact (Kd.R_reads' HO_636001.out).2.1); (case side3 => repeat (first | exact (Kd.R_reads' HO_636002.out).2.2 | (with_reducible refine Kd.zar ?_ _) | (with_reducible refine Kd.zao ?_ _) | (with_reducible refine Kd.zau ?_))); (case side4 => exact (Kd.R_reads' HO_636002.out).2.1); rintro e w41 ⟨v664, v667, rfl, ho0, ho1, hb⟩; refine ⟨_, rfl, ?_⟩; have n0_ := Aside0.mk (Kd.R_elder' (by (with_reducible repeat (first | apply Kd.za9 | apply Kd.zaa | apply Kd.zac)); exact HO_6.out) (Kd.R_base ho1) hb); have n1_ := Aside0.mk (Kd.R_elder' (by (with_reducible repeat (first | apply Kd.za9 | apply Kd.zaa | apply Kd.zac)); exact HO_46.out) (Kd.R_base ho1) hb); have n2_ := Aside0.mk (Kd.R_elder' (by (with_reducible repeat (first | apply Kd.za9 | apply Kd.zaa | apply Kd.zac)); exact HO_636001.out) (Kd.R_base ho0) hb); have n3_ := Aside0.mk (Kd.R_elder' (by (with_reducible repeat (first | apply Kd.za9 | apply Kd.zaa | apply Kd.zac)); exact HO_636002.out) (Kd.R_base ho1) hb); have n4_ := Aside0.mk (Kd.R_lower (Kd.R_new' ho0 (Kd.R_lt (by (with_reducible repeat (first | apply Kd.za9 | apply Kd.zaa | apply Kd.zac)); exact HO_636001.out))) (zad (by repeat (first | (with_reducible first | exact HB.out | apply za1 | apply za0 | apply za2 | refine za3 ?_ GE632.out | refine za3 ?_ GE635.out) | exact HB.out)))); have n5_ := Aside0.mk (Kd.R_lower (Kd.R_new' (Kd.R_new' (Kd.R_new' ho1 (Kd.R_lt (by (with_reducible repeat (first | apply Kd.za9 | apply Kd.zaa | apply Kd.zac)); exact HO_6.out))) (Kd.R_lt (by (with_reducible repeat (first | apply Kd.za9 | apply Kd.zaa | apply Kd.zac)); exact HO_46.out))) (Kd.R_lt (by (with_reducible repeat (first | apply Kd.za9 | apply Kd.zaa | apply Kd.zac)); exact HO_636002.out))) (zad (by repeat (first | (with_reducible first | exact HB.out | apply za1 | apply za0 | apply za2 | refine za3 ?_ GE632.out | refine za3 ?_ GE635.out) | exact HB.out)))); have n6_ := Aside0.mk (zae (g := gb632) (o := .cells #[.int .i64 0, .slice none 0 0, .slice none 0 0] 36 (0, 0)) (by (with_reducible repeat (first | refine za5 ?_ _ | refine za7 ?_ | refine za6 ?_ _)); exact BK632.out) hb); have n7_ := Aside0.mk (zae (g := gb635) (o := .cells #[.int .i64 x636000_4, .slice Ao39 x636001_4.length co39, .slice Ao40 x636002_4.length co40] 36 (0, 0)) (by (with_reducible repeat (first | refine za5 ?_ _ | refine za7 ?_ | refine za6 ?_ _)); exact BK635.out) hb); have n8_ := Aside0.mk (zaf (by repeat (first | (with_reducible first | exact HB.out | apply za1 | apply za0 | apply za2 | refine za3 ?_ GE632.out | refine za3 ?_ GE635.out) | exact HB.out)) hb); clear HO_6; clear HO_46; clear HO_636001; clear HO_636002; clear BK632; clear BK635; clear HB; have HO_6 := n0_; have HO_46 := n1_; have HO_636001 := n2_; have HO_636002 := n3_; have HO665 := n4_; have HO668 := n5_; have BK632 := n6_; have BK635 := n7_; have HB := n8_; clear n0_ n1_ n2_ n3_ n4_ n5_ n6_ n7_ n8_; (try clear hb); (try clear hb2); (try clear hk); (try clear hi); (try clear ho0); (try clear ho1); have hcz42_0 : w41.cell? ⟨gb635, 0, none⟩ = some (.int .i64 x636000_4) := (za8 BK635.out 0).trans rfl; have hcz42_1 : w41.cell? ⟨gb635, 1, none⟩ = some (.slice Ao39 x636001_4.length co39) := (za8 BK635.out 1).trans rfl; have hcz42_2 : w41.cell? ⟨gb635, 2, none⟩ = some (.slice Ao40 x636002_4.length co40) := (za8 BK635.out 2).trans rfl; have hfz42_0 := za4 BK635.out 0; have hfz42_1 := za4 BK635.out 1; have hfz42_2 := za4 BK635.out 2; obtain ⟨Ao43, co43, eo43⟩ := Kd.zax HO665.out; subst eo43; obtain ⟨Ao44, co44, eo44⟩ := Kd.zax HO668.out; subst eo44))
                                        go_roundg kj32
                                        case measure => have := HJ1.out; have := HK2.out; have := HK3.out; have := HK4.out; have := HJ32.out; omega
                                        case rel => exact ⟨(t669), (wrap64 (x48_4 + 1)), (t662), (t663), (t666), (.slice Ao43 t663.length co43), (.slice Ao44 t666.length co44), (by first | rfl | (simp; done) | (simp [*]; done)), (by first | rfl | (simp; done) | (simp [*]; done)), H', ⟨by have := HJ1.out; have := HK2.out; have := HK3.out; have := HK4.out; have := HJ32.out; omega⟩, ⟨by (with_reducible repeat (first | apply Kd.za9 | apply Kd.zaa | apply Kd.zac)); exact Kd.zak (Kd.R_far (p := ⟨gb635, 2, none⟩) (Kd.R_far (p := ⟨gb635, 1, none⟩) (Kd.R_far (p := ⟨gb635, 0, none⟩) (Kd.zas HO_6.out BK635.out (by decide)) (fun _ hk => hk.2) (.int .i64 t662)) (fun _ hk => hk.2) (.slice Ao43 t663.length co43)) (fun _ hk => hk.2) (.slice Ao44 t666.length co44)) (fun _ hk => ⟨hk.1.1.1, hk.1.2⟩)⟩, ⟨by (with_reducible repeat (first | apply Kd.za9 | apply Kd.zaa | apply Kd.zac)); exact Kd.zak (Kd.R_far (p := ⟨gb635, 2, none⟩) (Kd.R_far (p := ⟨gb635, 1, none⟩) (Kd.R_far (p := ⟨gb635, 0, none⟩) (Kd.zas HO_46.out BK635.out (by decide)) (fun _ hk => hk.2) (.int .i64 t662)) (fun _ hk => hk.2) (.slice Ao43 t663.length co43)) (fun _ hk => hk.2) (.slice Ao44 t666.length co44)) (fun _ hk => ⟨hk.1.1.1, hk.1.2⟩)⟩, ⟨by (with_reducible repeat (first | apply Kd.za9 | apply Kd.zaa | apply Kd.zac)); exact Kd.zak (Kd.R_far (p := ⟨gb635, 2, none⟩) (Kd.R_far (p := ⟨gb635, 1, none⟩) (Kd.R_far (p := ⟨gb635, 0, none⟩) (Kd.zas HO665.out BK635.out (by decide)) (fun _ hk => hk.2) (.int .i64 t662)) (fun _ hk => hk.2) (.slice Ao43 t663.length co43)) (fun _ hk => hk.2) (.slice Ao44 t666.length co44)) (fun _ hk => trivial)⟩, ⟨by (with_reducible repeat (first | apply Kd.za9 | apply Kd.zaa | apply Kd.zac)); exact Kd.zak (Kd.R_far (p := ⟨gb635, 2, none⟩) (Kd.R_far (p := ⟨gb635, 1, none⟩) (Kd.R_far (p := ⟨gb635, 0, none⟩) (Kd.zas HO668.out BK635.out (by decide)) (fun _ hk => hk.2) (.int .i64 t662)) (fun _ hk => hk.2) (.slice Ao43 t663.length co43)) (fun _ hk => hk.2) (.slice Ao44 t666.length co44)) (fun _ hk => ⟨hk.1.1.1.2, hk.1.1.2⟩)⟩, ⟨by (with_reducible repeat (first | refine za5 ?_ _ | refine za7 ?_ | refine za6 ?_ _)); refine zb1 ?_ NB632_635.out _; (with_reducible repeat (first | refine za5 ?_ _ | refine za7 ?_ | refine za6 ?_ _)); refine zb1 ?_ NB632_635.out _; (with_reducible repeat (first | refine za5 ?_ _ | refine za7 ?_ | refine za6 ?_ _)); refine zb1 ?_ NB632_635.out _; (with_reducible repeat (first | refine za5 ?_ _ | refine za7 ?_ | refine za6 ?_ _)); exact BK632.out⟩, ⟨by (with_reducible repeat (first | refine za5 ?_ _ | refine za7 ?_ | refine za6 ?_ _)); refine zaw (cs := #[.int .i64 t662, .slice Ao43 t663.length co43, .slice Ao40 x636002_4.length co40]) ?_ 2 _ rfl; (with_reducible repeat (first | refine za5 ?_ _ | refine za7 ?_ | refine za6 ?_ _)); refine zaw (cs := #[.int .i64 t662, .slice Ao39 x636001_4.length co39, .slice Ao40 x636002_4.length co40]) ?_ 1 _ rfl; (with_reducible repeat (first | refine za5 ?_ _ | refine za7 ?_ | refine za6 ?_ _)); refine zaw (cs := #[.int .i64 x636000_4, .slice Ao39 x636001_4.length co39, .slice Ao40 x636002_4.length co40]) ?_ 0 _ rfl; (with_reducible repeat (first | refine za5 ?_ _ | refine za7 ?_ | refine za6 ?_ _)); exact BK635.out⟩, ⟨by repeat (first | (with_reducible first | exact HB.out | apply za1 | apply za0 | apply za2 | refine za3 ?_ GE632.out | refine za3 ?_ GE635.out) | exact HB.out)⟩⟩
                                      · replace c35 := Bool.eq_false_iff.mpr c35
                                        subst c35
                                        have H1 : (if (rd t655 x48_4) = 1 then (spec_SquaresPlan.l2 kj32 x6_3 x48_4 l0 (l0.length : Int) x41_3 t655 (t655.length : Int) (wrap64 (x48_4 + 1)) x636000_4 x636001_4 x636002_4) else (spec_SquaresPlan.l2 kj32 x6_3 x9_4 l0 (l0.length : Int) x41_3 t655 (t655.length : Int) (wrap64 (x48_4 + 1)) x636000_4 x636001_4 x636002_4)) = some (r1, r2, r3, r4) := by rw [if_neg (show ¬ (false = true) by decide)] at H; exact H
                                        clear H
                                        have H := H1
                                        clear H1
                                        by_cases c45 : (rd t655 x48_4) = 1
                                        · rw [if_pos c45] at H
                                          have c45b0 : ((rd t655 x48_4) == 1) = true := beq_iff_eq.mpr c45
                                          have c45b1 : ((rd t655 x48_4) != 1) = false := bne_eq_false_iff_eq.mpr c45
                                          clear c45
                                          have H' := Aside0.mk H
                                          clear H
                                          go_wp2
                                          go_roundg kj32
                                          case measure => have := HJ1.out; have := HK2.out; have := HK3.out; have := HK4.out; have := HJ32.out; omega
                                          case rel => exact ⟨(x48_4), (wrap64 (x48_4 + 1)), (x636000_4), (x636001_4), (x636002_4), (u636001), (u636002), (by first | rfl | (simp; done) | (simp [*]; done)), (by first | rfl | (simp; done) | (simp [*]; done)), H', ⟨by have := HJ1.out; have := HK2.out; have := HK3.out; have := HK4.out; have := HJ32.out; omega⟩, ⟨by (with_reducible repeat (first | apply Kd.za9 | apply Kd.zaa | apply Kd.zac)); exact HO_6.out⟩, ⟨by (with_reducible repeat (first | apply Kd.za9 | apply Kd.zaa | apply Kd.zac)); exact HO_46.out⟩, ⟨by (with_reducible repeat (first | apply Kd.za9 | apply Kd.zaa | apply Kd.zac)); exact HO_636001.out⟩, ⟨by (with_reducible repeat (first | apply Kd.za9 | apply Kd.zaa | apply Kd.zac)); exact HO_636002.out⟩, ⟨by (with_reducible repeat (first | refine za5 ?_ _ | refine za7 ?_ | refine za6 ?_ _)); exact BK632.out⟩, ⟨by (with_reducible repeat (first | refine za5 ?_ _ | refine za7 ?_ | refine za6 ?_ _)); exact BK635.out⟩, ⟨by repeat (first | (with_reducible first | exact HB.out | apply za1 | apply za0 | apply za2 | refine za3 ?_ GE632.out | refine za3 ?_ GE635.out) | exact HB.out)⟩⟩
                                        · rw [if_neg c45] at H
                                          have c45b0 : ((rd t655 x48_4) == 1) = false := beq_eq_false_iff_ne.mpr c45
                                          have c45b1 : ((rd t655 x48_4) != 1) = true := bne_iff_ne.mpr c45
                                          have H' := Aside0.mk H
                                          clear H
                                          go_wp2
                                          go_roundg kj32
                                          case measure => have := HJ1.out; have := HK2.out; have := HK3.out; have := HK4.out; have := HJ32.out; omega
                                          case rel => exact ⟨(x9_4), (wrap64 (x48_4 + 1)), (x636000_4), (x636001_4), (x636002_4), (u636001), (u636002), (by first | rfl | (simp; done) | (simp [*]; done)), (by first | rfl | (simp; done) | (simp [*]; done)), H', ⟨by have := HJ1.out; have := HK2.out; have := HK3.out; have := HK4.out; have := HJ32.out; omega⟩, ⟨by (with_reducible repeat (first | apply Kd.za9 | apply Kd.zaa | apply Kd.zac)); exact HO_6.out⟩, ⟨by (with_reducible repeat (first | apply Kd.za9 | apply Kd.zaa | apply Kd.zac)); exact HO_46.out⟩, ⟨by (with_reducible repeat (first | apply Kd.za9 | apply Kd.zaa | apply Kd.zac)); exact HO_636001.out⟩, ⟨by (with_reducible repeat (first | apply Kd.za9 | apply Kd.zaa | apply Kd.zac)); exact HO_636002.out⟩, ⟨by (with_reducible repeat (first | refine za5 ?_ _ | refine za7 ?_ | refine za6 ?_ _)); exact BK632.out⟩, ⟨by (with_reducible repeat (first | refine za5 ?_ _ | refine za7 ?_ | refine za6 ?_ _)); exact BK635.out⟩, ⟨by repeat (first | (with_reducible first | exact HB.out | apply za1 | apply za0 | apply za2 | refine za3 ?_ GE632.out | refine za3 ?_ GE635.out) | exact HB.out)⟩⟩
                                · rw [if_neg c32] at H
                                  exact absurd H (by simp)
                              · rw [if_neg c31] at H
                                exact absurd H (by simp)
                            · rw [if_neg c30] at H
                              have c30b0 : decide (x48_4 < (t655.length : Int)) = false := decide_eq_false c30
                              clear c30
                              by_cases c46 : x6_3.length < 17592186044416
                              · rw [if_pos c46] at H
                                have LMc46 := Aside0.mk c46
                                clear c46
                                obtain ⟨y658, hy658⟩ : ∃ y_ : List Int, y_ = (x6_3 ++ [x9_4]) := ⟨_, rfl⟩
                                replace H : (spec_SquaresPlan.l1 k4 y658 l0 (l0.length : Int) (wrap64 (x41_3 + 1)) x636000_4 x636001_4 x636002_4) = some (r1, r2, r3, r4) := by first | (rw [hy658]; with_reducible exact H) | (have H2_ := (Option.bind_some _ _).symm.trans H; rw [hy658]; with_reducible exact H2_) | (have H2_ := (Option.bind_some _ _).symm.trans H; with_reducible exact H2_) | with_reducible exact H | (rw [hy658]; exact H) | exact H
                                have Ny658 := Aside0.mk hy658
                                clear hy658
                                have H' := Aside0.mk H
                                clear H
                                go_wp2_with (first | ((with_reducible refine gate_builtin (b := .append) (xs := #[.tmp 70, .tmp 72]) rfl ?_); at_builtin; refine Kd.R_append (Kd.int .i64) (w0 := w) w.heap.size rfl (.tmp 70) (.tmp 72) 22 3 (.int .i64 0) 8 rfl Try.underlying22 info3 rfl (by decide) (by omega) u6 x6_3 x9_4 [.int .i64 x9_4] (fun k_ => some k_ ≠ (.slice Ao29 t655.length co29 : Value).ownBlock ∧ some k_ ≠ (u636002 : Value).ownBlock) (fun _ => False) rfl rfl ?aP (fun _ hk => hk.elim) ?aF ?aO ?aB ?aS ?aL ?_; (case aP => exact rfl); (case aB => exact (by repeat (first | (with_reducible first | exact HB.out | apply za1 | apply za0 | apply za2 | refine za3 ?_ GE632.out | refine za3 ?_ GE635.out) | exact HB.out))); (case aF => exact (fun k_ hk => ⟨Kd.fresh' (Kd.R_lt (by (with_reducible repeat (first | apply Kd.za9 | apply Kd.zaa | apply Kd.zac)); exact HO_46.out)) k_ hk, Kd.fresh' (Kd.R_lt (by (with_reducible repeat (first | apply Kd.za9 | apply Kd.zaa | apply Kd.zac)); exact HO_636002.out)) k_ hk⟩)); (case aO => exact (by (with_reducible repeat (first | apply Kd.za9 | apply Kd.zaa | apply Kd.zac)); exact HO_6.out)); (case aS => exact (zad (by repeat (first | (with_reducible first | exact HB.out | apply za1 | apply za0 | apply za2 | refine za3 ?_ GE632.out | refine za3 ?_ GE635.out) | exact HB.out)))); (case aL => have := LMc46.out; omega); intro v659 w47 ho hb hg hat; rw [← Ny658.out] at ho; have n0_ := Aside0.mk (Kd.R_after (ok := (fun k_ => some k_ ≠ (u636002 : Value).ownBlock)) (by (with_reducible repeat (first | apply Kd.za9 | apply Kd.zaa | apply Kd.zac)); exact Kd.zak HO_46.out (fun _ hk => ⟨hk.2, hk.1⟩)) hg hat); have n1_ := Aside0.mk (Kd.R_over' (by (with_reducible repeat (first | apply Kd.za9 | apply Kd.zaa | apply Kd.zac)); exact HO_636001.out) (Kd.R_typed (by (with_reducible repeat (first | apply Kd.za9 | apply Kd.zaa | apply Kd.zac)); exact HO_6.out)) (by decide) hg); have n2_ := Aside0.mk (Kd.R_after (ok := (fun k_ => some k_ ≠ (.slice Ao29 t655.length co29 : Value).ownBlock)) (by (with_reducible repeat (first | apply Kd.za9 | apply Kd.zaa | apply Kd.zac)); exact Kd.zak HO_636002.out (fun _ hk => ⟨hk.2, hk.1⟩)) hg hat); have n3_ := Aside0.mk (blk_grown (g := gb632) (o := .cells #[.int .i64 0, .slice none 0 0, .slice none 0 0] 36 (0, 0)) (by (with_reducible repeat (first | refine za5 ?_ _ | refine za7 ?_ | refine za6 ?_ _)); exact BK632.out) hg (Kd.R_ne HO_6.out BK632.out (by decide))); have n4_ := Aside0.mk (blk_grown (g := gb635) (o := .cells #[.int .i64 x636000_4, u636001, u636002] 36 (0, 0)) (by (with_reducible repeat (first | refine za5 ?_ _ | refine za7 ?_ | refine za6 ?_ _)); exact BK635.out) hg (Kd.R_ne HO_6.out BK635.out (by decide))); have n5_ := Aside0.mk (hb); have n6_ := Aside0.mk (ho); clear HO_46; clear HO_636001; clear HO_636002; clear BK632; clear BK635; clear HB; clear HO_6; have HO_46 := n0_; have HO_636001 := n1_; have HO_636002 := n2_; have BK632 := n3_; have BK635 := n4_; have HB := n5_; have HO660 := n6_; clear n0_ n1_ n2_ n3_ n4_ n5_ n6_; clear ho hb hg hat))
                                go_roundg k4
                                case measure => have := HJ1.out; have := HK2.out; have := HK3.out; have := HK4.out; omega
                                case rel => exact ⟨(y658), (wrap64 (x41_3 + 1)), (x636000_4), (x636001_4), (x636002_4), (u636001), (u636002), (by first | rfl | (simp; done) | (simp [*]; done)), H', ⟨by have := HJ1.out; have := HK2.out; have := HK3.out; have := HK4.out; omega⟩, ⟨by (with_reducible repeat (first | apply Kd.za9 | apply Kd.zaa | apply Kd.zac)); exact Kd.zak HO660.out (fun _ hk => hk.2)⟩, ⟨by (with_reducible repeat (first | apply Kd.za9 | apply Kd.zaa | apply Kd.zac)); exact HO_636001.out⟩, ⟨by (with_reducible repeat (first | apply Kd.za9 | apply Kd.zaa | apply Kd.zac)); exact Kd.zak HO_636002.out (fun _ hk => hk.2)⟩, ⟨by (with_reducible repeat (first | refine za5 ?_ _ | refine za7 ?_ | refine za6 ?_ _)); exact BK632.out⟩, ⟨by (with_reducible repeat (first | refine za5 ?_ _ | refine za7 ?_ | refine za6 ?_ _)); exact BK635.out⟩, ⟨by repeat (first | (with_reducible first | exact HB.out | apply za1 | apply za0 | apply za2 | refine za3 ?_ GE632.out | refine za3 ?_ GE635.out) | exact HB.out)⟩⟩
                              · rw [if_neg c46] at H
                                exact absurd H (by simp)
                      · rw [if_neg c26] at H
                        exact absurd H (by simp)
                    · rw [if_neg c25] at H
                      exact absurd H (by simp)
                  · rw [if_neg c24] at H
                    have c24b0 : decide (x41_3 < (l0.length : Int)) = false := decide_eq_false c24
                    clear c24
                    replace H := Option.bind_eq_some_iff.mp H
                    obtain ⟨⟨t646, t647, t650, t653⟩, A480, H⟩ := H
                    replace H : (some (t646, t647, t650, t653)) = some (r1, r2, r3, r4) := H
                    have A48 := Aside0.mk A480
                    clear A480
                    simp only [Option.some.injEq, Prod.mk.injEq] at H
                    obtain ⟨rfl, rfl, rfl, rfl⟩ := H
                    obtain ⟨Ao49, co49, eo49⟩ := Kd.zax HO_6.out
                    subst eo49
                    have hnb50 := NB635_632.out
                    have hnc50 := NB632_635.out
                    have hcz51_0 : wr.cell? ⟨gb635, 0, none⟩ = some (.int .i64 x636000_3) := (za8 BK635.out 0).trans rfl
                    have hcz51_1 : wr.cell? ⟨gb635, 1, none⟩ = some (u636001) := (za8 BK635.out 1).trans rfl
                    have hcz51_2 : wr.cell? ⟨gb635, 2, none⟩ = some (u636002) := (za8 BK635.out 2).trans rfl
                    have hfz51_0 := za4 BK635.out 0
                    have hfz51_1 := za4 BK635.out 1
                    have hfz51_2 := za4 BK635.out 2
                    go_wp2_with (first | ((with_reducible refine gate_store (t := 22) (p := 76) rfl ?_); refine store_event (t := 22) (p := 76) (v := ?vo_w52) (w1 := (wr.setCell ⟨gb635, 2, none⟩ (.slice Ao49 x6_3.length co49))) ?hg ?ho ?hn ?hr ?_; (case ho => rfl); (case hg => rfl); (case hn => rfl); (case hr => first | (go_simp; done) | (go_simp; rfl)); intro w52 hw; have n0_ : Aside0 (Kd.R (Kd.int .i64) 3 w52 w.heap.size (fun k_ => some k_ ≠ (u636002 : Value).ownBlock) (.slice Ao49 x6_3.length co49) x6_3) := ⟨(by rw [hw]; exact (by (with_reducible repeat (first | apply Kd.za9 | apply Kd.zaa | apply Kd.zac)); exact Kd.zak (Kd.R_far (p := ⟨gb635, 2, none⟩) (Kd.zas HO_6.out BK635.out (by decide)) (fun _ hk => hk.2) (.slice Ao49 x6_3.length co49)) (fun _ hk => hk.1)))⟩; have n1_ : Aside0 (Kd.R k117 117 w52 w.heap.size (fun _ => True) u636001 x636001_3) := ⟨(by rw [hw]; exact (by (with_reducible repeat (first | apply Kd.za9 | apply Kd.zaa | apply Kd.zac)); exact Kd.zak (Kd.R_far (p := ⟨gb635, 2, none⟩) (Kd.zas HO_636001.out BK635.out (by decide)) (fun _ hk => hk.2) (.slice Ao49 x6_3.length co49)) (fun _ hk => trivial)))⟩; have n2_ : Aside0 (Kd.R (Kd.int .i64) 3 w52 w.heap.size (fun k_ => some k_ ≠ (.slice Ao49 x6_3.length co49 : Value).ownBlock) u636002 x636002_3) := ⟨(by rw [hw]; exact (by (with_reducible repeat (first | apply Kd.za9 | apply Kd.zaa | apply Kd.zac)); exact Kd.zak (Kd.R_far (p := ⟨gb635, 2, none⟩) (Kd.zas HO_636002.out BK635.out (by decide)) (fun _ hk => hk.2) (.slice Ao49 x6_3.length co49)) (fun _ hk => hk.1)))⟩; have n3_ : Aside0 (w52.heap[gb632]? = some (.cells #[.int .i64 0, .slice none 0 0, .slice none 0 0] 36 (0, 0))) := ⟨(by rw [hw]; exact (by (with_reducible repeat (first | refine za5 ?_ _ | refine za7 ?_ | refine za6 ?_ _)); refine zb1 ?_ NB632_635.out _; (with_reducible repeat (first | refine za5 ?_ _ | refine za7 ?_ | refine za6 ?_ _)); exact BK632.out))⟩; have n4_ : Aside0 (w52.heap[gb635]? = some (.cells #[.int .i64 x636000_3, u636001, .slice Ao49 x6_3.length co49] 36 (0, 0))) := ⟨(by rw [hw]; exact (by (with_reducible repeat (first | refine za5 ?_ _ | refine za7 ?_ | refine za6 ?_ _)); refine zaw (cs := #[.int .i64 x636000_3, u636001, u636002]) ?_ 2 _ rfl; (with_reducible repeat (first | refine za5 ?_ _ | refine za7 ?_ | refine za6 ?_ _)); exact BK635.out))⟩; have n5_ : Aside0 (Below w.heap.size w w52) := ⟨(by rw [hw]; exact (by repeat (first | (with_reducible first | exact HB.out | apply za1 | apply za0 | apply za2 | refine za3 ?_ GE632.out | refine za3 ?_ GE635.out) | exact HB.out)))⟩; clear hw; clear HO_6; clear HO_636001; clear HO_636002; clear BK632; clear BK635; clear HB; have HO_6 := n0_; have HO_636001 := n1_; have HO_636002 := n2_; have BK632 := n3_; have BK635 := n4_; have HB := n5_; clear n0_ n1_ n2_ n3_ n4_ n5_; have hcz53_0 : w52.cell? ⟨gb635, 0, none⟩ = some (.int .i64 x636000_3) := (za8 BK635.out 0).trans rfl; have hcz53_1 : w52.cell? ⟨gb635, 1, none⟩ = some (u636001) := (za8 BK635.out 1).trans rfl; have hcz53_2 : w52.cell? ⟨gb635, 2, none⟩ = some (.slice Ao49 x6_3.length co49) := (za8 BK635.out 2).trans rfl; have hfz53_0 := za4 BK635.out 0; have hfz53_1 := za4 BK635.out 1; have hfz53_2 := za4 BK635.out 2; obtain ⟨Ao54, co54, eo54⟩ := Kd.zax HO_636001.out; subst eo54) | ((with_reducible refine zah (f := 82) rfl ?_); refine zay (some 78) rfl rfl Try.func82 (by kernel_rfl) rfl #[.agg #[.int .i64 x636000_3, .slice Ao54 x636001_3.length co54, .slice Ao49 x6_3.length co49]] rfl (by (try simp only [List.map_toArray, List.map_cons, List.map_nil]); first | done | rfl | (simp only [List.length_drop, List.length_take]; rfl)) ?_; (with_reducible refine (spec_plIf.calls k3 x636000_3 (fun k_ => some k_ = (.slice Ao54 x636001_3.length co54 : Value).ownBlock) (.slice Ao54 x636001_3.length co54) x636001_3 (fun k_ => some k_ = (.slice Ao49 x6_3.length co49 : Value).ownBlock) (.slice Ao49 x6_3.length co49) x6_3 t646 t647 t650 t653 w _ ?side1 ?side2 ?side3 A48.out).mono ?_); (case side1 => repeat (first | (with_reducible first | exact HB.out | apply za1 | apply za0 | apply za2 | refine za3 ?_ GE632.out | refine za3 ?_ GE635.out) | exact HB.out)); (case side2 => exact Kd.R_tight rfl HO_636001.out); (case side3 => exact Kd.R_tight rfl HO_6.out); rintro e w55 ⟨v648, v651, rfl, ho0, ho1, hb, hkp⟩; refine ⟨_, rfl, ?_⟩; have n0_ := Aside0.mk (Kd.zak (ok' := fun k_ => some k_ ≠ (v651 : Value).ownBlock) (Kd.R_keptB ((Kd.R_apart' HO_636002.out (Kd.R_typed HO_636001.out) (by decide))) hkp (fun k_ hk_ hs_ => Or.elim hs_ (fun e_ => (hk_.2) e_) (fun e_ => (hk_.1) e_))) (fun k_ hk_ => fun e_ => Or.elim (ho1.1 k_ e_.symm) (fun hs_ => hk_.2.1 hs_) (fun hn_ => Nat.not_le.2 hk_.2.2 hn_))); have n1_ := Aside0.mk (blk_kept (by (with_reducible repeat (first | refine za5 ?_ _ | refine za7 ?_ | refine za6 ?_ _)); exact BK632.out) hkp (fun hs_ => Or.elim hs_ (fun e_ => (fun e_ => (Kd.R_ne HO_636001.out BK632.out (by decide)) e_) e_) (fun e_ => (fun e_ => (Kd.R_ne HO_6.out BK632.out (by decide)) e_) e_))); have n2_ := Aside0.mk (blk_kept (by (with_reducible repeat (first | refine za5 ?_ _ | refine za7 ?_ | refine za6 ?_ _)); exact BK635.out) hkp (fun hs_ => Or.elim hs_ (fun e_ => (fun e_ => (Kd.R_ne HO_636001.out BK635.out (by decide)) e_) e_) (fun e_ => (fun e_ => (Kd.R_ne HO_6.out BK635.out (by decide)) e_) e_))); have n3_ := Aside0.mk (Kd.zak (ok' := fun k_ => True) ho0 (fun k_ hk_ => trivial)); have n4_ := Aside0.mk (Kd.zak (ok' := fun k_ => some k_ ≠ (u636002 : Value).ownBlock) ho1 (fun k_ hk_ => Or.elim hk_ (fun hs_ => Or.elim hs_ (fun hs_ => fun e_ => ((((Kd.R_apart' HO_636002.out (Kd.R_typed HO_636001.out) (by decide))).1 k_ e_.symm).2) hs_) (fun hs_ => fun e_ => ((((Kd.R_apart' HO_636002.out (Kd.R_typed HO_636001.out) (by decide))).1 k_ e_.symm).1) hs_)) (fun hn_ => (Kd.fresh' (Kd.R_lt (by (with_reducible repeat (first | apply Kd.za9 | apply Kd.zaa | apply Kd.zac)); exact HO_636002.out)) k_ hn_)))); have n5_ := Aside0.mk (hb); clear HO_636002; clear BK632; clear BK635; clear HB; clear HO_6; clear HO_636001; have HO_636002 := n0_; have BK632 := n1_; have BK635 := n2_; have HO649 := n3_; have HO652 := n4_; have HB := n5_; clear n0_ n1_ n2_ n3_ n4_ n5_; (try clear hb); (try clear hkp); (try clear ho0); (try clear ho1); have hcz56_0 : w55.cell? ⟨gb632, 0, none⟩ = some (.int .i64 0) := (za8 BK632.out 0).trans rfl; have hcz56_1 : w55.cell? ⟨gb632, 1, none⟩ = some (.slice none 0 0) := (za8 BK632.out 1).trans rfl; have hcz56_2 : w55.cell? ⟨gb632, 2, none⟩ = some (.slice none 0 0) := (za8 BK632.out 2).trans rfl; have hfz56_0 := za4 BK632.out 0; have hfz56_1 := za4 BK632.out 1; have hfz56_2 := za4 BK632.out 2; obtain ⟨Ao57, co57, eo57⟩ := Kd.zax HO649.out; subst eo57; obtain ⟨Ao58, co58, eo58⟩ := Kd.zax HO652.out; subst eo58))
                    refine bodyPost_ret (results_ct rfl _ _ gb632 36 #[.int .i64 t646, .slice Ao57 t647.length co57, .slice Ao58 t650.length co58] (0, 0) _ rfl (by (with_reducible repeat (first | refine za5 ?_ _ | refine za7 ?_ | refine za6 ?_ _)); refine zaw (cs := #[.int .i64 t646, .slice Ao57 t647.length co57, .slice none 0 0]) ?_ 2 _ rfl; (with_reducible repeat (first | refine za5 ?_ _ | refine za7 ?_ | refine za6 ?_ _)); refine zaw (cs := #[.int .i64 t646, .slice none 0 0, .slice none 0 0]) ?_ 1 _ rfl; (with_reducible repeat (first | refine za5 ?_ _ | refine za7 ?_ | refine za6 ?_ _)); refine zaw (cs := #[.int .i64 0, .slice none 0 0, .slice none 0 0]) ?_ 0 _ rfl; (with_reducible repeat (first | refine za5 ?_ _ | refine za7 ?_ | refine za6 ?_ _)); exact BK632.out) Try.underlying36 rfl (by kernel_rfl)) rfl ?_
                    exact ⟨_, _, by first | rfl | (simp [zai, zaj] <;> rfl) | (simp [*, zai, zaj] <;> rfl), by (with_reducible repeat (first | apply Kd.za9 | apply Kd.zaa | apply Kd.zac)); exact Kd.zak (Kd.R_far (p := ⟨gb632, 2, none⟩) (Kd.R_far (p := ⟨gb632, 1, none⟩) (Kd.R_far (p := ⟨gb632, 0, none⟩) (Kd.zas HO649.out BK632.out (by decide)) (fun _ hk => hk.2) (.int .i64 t646)) (fun _ hk => hk.2) (.slice Ao57 t647.length co57)) (fun _ hk => hk.2) (.slice Ao58 t650.length co58)) (fun _ hk => trivial), by (with_reducible repeat (first | apply Kd.za9 | apply Kd.zaa | apply Kd.zac)); exact Kd.zak (Kd.R_far (p := ⟨gb632, 2, none⟩) (Kd.R_far (p := ⟨gb632, 1, none⟩) (Kd.R_far (p := ⟨gb632, 0, none⟩) (Kd.zas HO652.out BK632.out (by decide)) (fun _ hk => hk.2) (.int .i64 t646)) (fun _ hk => hk.2) (.slice Ao57 t647.length co57)) (fun _ hk => hk.2) (.slice Ao58 t650.length co58)) (fun _ hk => trivial), by repeat (first | (with_reducible first | exact HB.out | apply za1 | apply za0 | apply za2 | refine za3 ?_ GE632.out | refine za3 ?_ GE635.out) | exact HB.out)⟩

/-! ### impl_isNumber: function 86 -/
def impl_isNumber.f (a0 : Int) : Option (Bool) := (impl_in.f a0 1 1000000).bind fun t670 => (some t670)
set_option maxHeartbeats 8000000 in
set_option maxRecDepth 100000 in
theorem impl_isNumber.calls (a0 : Int) (r : Bool) (w : World) (h : impl_isNumber.f a0 = some r) :
    Calls Try.prog 86 #[.int .i64 a0] w fun e w' => e = .returned (.bool r) ∧ Drawn0 w w' := by
  have H : ((impl_in.f a0 1 1000000).bind fun t670 => (some t670)) = some r := h
  clear h
  replace H := Option.bind_eq_some_iff.mp H
  obtain ⟨t670, A20, H⟩ := H
  replace H : (some t670) = some r := H
  have A2 := Aside0.mk A20
  clear A20
  obtain rfl := Option.some.inj H
  go_enter Try.func86, Try.ntmps86
  go_wp2_with (first | ((with_reducible refine zah (f := 83) rfl ?_); refine zay (some 4) rfl rfl Try.func83 (by kernel_rfl) rfl #[.int .i64 a0, .int .i64 1, .int .i64 1000000] rfl (by (try simp only [List.map_toArray, List.map_cons, List.map_nil]); first | done | rfl | (simp only [List.length_drop, List.length_take]; rfl)) ?_; (with_reducible refine (impl_in.calls a0 1 1000000 t670 _ A2.out).mono ?_); rintro e w' ⟨rfl, ⟨nd, rfl⟩⟩; refine ⟨_, rfl, ?_⟩))
  go_ret
  exact ⟨by first | rfl | (simp; done) | (simp [*]; done), by repeat (first | exact Drawn0.refl _ | apply Drawn0.step)⟩

/-! ### impl_SquaresPlan_1: function 85 -/
def impl_SquaresPlan_1.f (a0 : Int) : Option (Bool) := (impl_isNumber.f a0).bind fun t671 => (some (!t671))
set_option maxHeartbeats 8000000 in
set_option maxRecDepth 100000 in
theorem impl_SquaresPlan_1.calls (a0 : Int) (r : Bool) (w : World) (h : impl_SquaresPlan_1.f a0 = some r) :
    Calls Try.prog 85 #[.int .i64 a0] w fun e w' => e = .returned (.bool r) ∧ Drawn0 w w' := by
  have H : ((impl_isNumber.f a0).bind fun t671 => (some (!t671))) = some r := h
  clear h
  replace H := Option.bind_eq_some_iff.mp H
  obtain ⟨t671, A20, H⟩ := H
  replace H : (some (!t671)) = some r := H
  have A2 := Aside0.mk A20
  clear A20
  obtain rfl := Option.some.inj H
  go_enter Try.func85, Try.ntmps85
  go_wp2_with (first | ((with_reducible refine zah (f := 86) rfl ?_); refine zay (some 4) rfl rfl Try.func86 (by kernel_rfl) rfl #[.int .i64 a0] rfl (by (try simp only [List.map_toArray, List.map_cons, List.map_nil]); first | done | rfl | (simp only [List.length_drop, List.length_take]; rfl)) ?_; (with_reducible refine (impl_isNumber.calls a0 t671 _ A2.out).mono ?_); rintro e w' ⟨rfl, ⟨nd, rfl⟩⟩; refine ⟨_, rfl, ?_⟩))
  go_ret
  exact ⟨by first | rfl | (simp; done) | (simp [*]; done), by repeat (first | exact Drawn0.refl _ | apply Drawn0.step)⟩

/-! ### bits_Len64: function 150 -/
/-- how many binary digits, of a number below 2^24 -/
def bits_Len64.f (a0 : Int) : Option Int := if 0 ≤ a0 ∧ a0 ≤ 16777215 then some (Lib.bitLen a0.toNat) else none
theorem len8tab_size : (Lib.len8tab.size : Int) = 256 := by
  have : Lib.len8tab.size = 256 := by decide +kernel
  omega
theorem len_add (k a b : Nat) (hk : k ≤ 56) (ha : a ≤ 8) (hb : b = k + a) : wrap64 ((k : Int) + wrap64 (a : Int)) = (b : Int) := by
  unfold wrap64
  omega
theorem len_one (a : Nat) (ha : a ≤ 8) : wrap64 (a : Int) = (a : Int) := by
  unfold wrap64
  omega
theorem len_two (a : Nat) (ha : a ≤ 8) : wrap64 (wrap64 (a : Int)) = (a : Int) := by
  unfold wrap64
  omega
theorem len8_get (y : Int) (h : y.toNat < Lib.len8tab.size) : ((Lib.len8tab[y.toNat]'h).toNat : Int) = Lib.len8 y := by
  unfold Lib.len8
  rw [getElem?_pos Lib.len8tab y.toNat h]
  rfl
set_option maxHeartbeats 4000000 in
set_option maxRecDepth 100000 in
theorem bits_Len64.calls (a0 : Int) (r : Int) (w : World) (h : bits_Len64.f a0 = some r) :
    Calls Try.prog 150 #[.int .u64 a0] w fun e w' => e = .returned (.int .i64 r) ∧ Drawn0 w w' := by
  unfold bits_Len64.f at h
  by_cases hc : 0 ≤ a0 ∧ a0 ≤ 16777215
  · rw [if_pos hc] at h
    obtain rfl := Option.some.inj h
    clear h
    obtain ⟨h0, h1⟩ := hc
    have c1 : decide (4294967296 ≤ a0) = false := decide_eq_false (by omega)
    go_enter Try.func150, Try.ntmps150
    go_wp2
    all_goals first
      | (go_ret; refine ⟨congrArg Ending.returned (congrArg (Value.int IntKind.i64) ?_), ⟨0, rfl⟩⟩)
      | (exfalso
         have hs := len8tab_size
         omega)
    all_goals first
      | (simp only [len8_get (a0 / 65536) _]
         rw [Lib.len8_of (a0 / 65536) (by omega) (by omega)]
         have e : (a0 / 65536).toNat = a0.toNat / 65536 := by omega
         have l := Lib.bitLen_le8' (a0 / 65536) (by omega) (by omega)
         have s := Lib.bitLen_shift16 a0.toNat (by omega) (by omega)
         rw [e] at l ⊢
         exact len_add 16 _ _ (by decide) l s)
      | (simp only [len8_get (a0 / 256) _]
         rw [Lib.len8_of (a0 / 256) (by omega) (by omega)]
         have e : (a0 / 256).toNat = a0.toNat / 256 := by omega
         have l := Lib.bitLen_le8' (a0 / 256) (by omega) (by omega)
         have s := Lib.bitLen_shift8 a0.toNat (by omega) (by omega)
         rw [e] at l ⊢
         exact len_add 8 _ _ (by decide) l s)
      | (simp only [len8_get (a0) _]
         rw [Lib.len8_of (a0) (by omega) (by omega)]
         have l := Lib.bitLen_le8' (a0) (by omega) (by omega)
         first | exact len_two _ l | exact len_add 0 _ _ (by decide) l (by omega) | exact len_one _ l)
  · rw [if_neg hc] at h
    cases h

/-! ### bits_Len: function 88 -/
def bits_Len.f (a0 : Int) : Option (Int) := (bits_Len64.f a0).bind fun t672 => (some t672)
set_option maxHeartbeats 8000000 in
set_option maxRecDepth 100000 in
theorem bits_Len.calls (a0 : Int) (r : Int) (w : World) (h : bits_Len.f a0 = some r) :
    Calls Try.prog 88 #[.int .u64 a0] w fun e w' => e = .returned (.int .i64 r) ∧ Drawn0 w w' := by
  have H : ((bits_Len64.f a0).bind fun t672 => (some t672)) = some r := h
  clear h
  replace H := Option.bind_eq_some_iff.mp H
  obtain ⟨t672, A20, H⟩ := H
  replace H : (some t672) = some r := H
  have A2 := Aside0.mk A20
  clear A20
  obtain rfl := Option.some.inj H
  go_enter Try.func88, Try.ntmps88
  go_wp2_with (first | ((with_reducible refine zah (f := 150) rfl ?_); refine zay (some 7) rfl rfl Try.func150 (by kernel_rfl) rfl #[.int .u64 a0] rfl (by (try simp only [List.map_toArray, List.map_cons, List.map_nil]); first | done | rfl | (simp only [List.length_drop, List.length_take]; rfl)) ?_; (with_reducible refine (bits_Len64.calls a0 t672 _ A2.out).mono ?_); rintro e w' ⟨rfl, ⟨nd, rfl⟩⟩; refine ⟨_, rfl, ?_⟩))
  go_ret
  exact ⟨by first | rfl | (simp; done) | (simp [*]; done), by repeat (first | exact Drawn0.refl _ | apply Drawn0.step)⟩

/-! ### impl_maker_multiply: function 90 -/
/-- The maker: a box that holds its plan's inputs, its steps, and whatever stands as outputs. -/
def mkr {base : Nat} (g : Nat) (n : Int) (o : Value) (l : List S117) : Thing base := obj g 108 (fun v => #[.int .i64 n, v, o]) k117 117 l
def timesV (n : Int) (l : List S117) (a b : Int) : Int := if a < 0 then b else n + (l.length : Int)
def timesL (l : List S117) (a b : Int) : List S117 := if a < 0 then l else l ++ [(⟨mn a b, mx a b⟩ : S117)]
section

variable {w0 ws w : World} {P0 : Nat → Prop} {L : List (Thing w0.heap.size)} {i j g : Nat} {l : List S117} {n : Int} {o : Value}
set_option maxHeartbeats 4000000 in
set_option maxRecDepth 100000 in
theorem multiply_fr (a b : Int) (h : Fr w0 ws P0 L w) (hi : L[i]? = some (mkr g n o l)) (hn : 0 ≤ n ∧ n ≤ 1000) (hl : l.length + 1 < 1000000) :
    Calls Try.prog 90 #[.pointer (some ⟨g, 0, none⟩), .int .i64 a, .int .i64 b] w fun e w' => e = .returned (.int .i64 (n + (l.length : Int))) ∧ Fr w0 ws P0 (L.set i (mkr g n o (l ++ [(⟨mn a b, mx a b⟩ : S117)]))) w' := by
  have hu := Try.underlying117
  obtain ⟨v, h1⟩ := h.obj_open hi
  have hB1 : ∀ (d : Thing w0.heap.size) (cs : Array Value), (d :: L.set i (box g 108 cs))[i + 1]? = some (box g 108 cs) := fun d cs => by simpa using Fr.set_at hi
  obtain ⟨A, c, rfl, hcap, hC⟩ := h1.row_reads (i := 0) rfl
  have hc0 : w.cell? ⟨g, 1, none⟩ = some (.slice A l.length c) := h1.zam (hB1 _ _) 1 rfl
  have H1 := Aside0.mk h1
  have HL := Aside0.mk (show l.length + 1 < 1000000 ∧ 0 ≤ n ∧ n ≤ 1000 from ⟨hl, hn.1, hn.2⟩)
  have HI := Aside0.mk hi
  have HB1 := Aside0.mk hB1
  have HST := Aside0.mk (fun (W : World) => impl_step.calls a b (mn a b) (mx a b) W rfl)
  clear h h1 hl hn hi hcap hC hB1
  go_enter Try.func90, Try.ntmps90
  go_wp2_with fail
  refine start_ (n := 15) (S := fun w' => w'.cell? ⟨g, 1, none⟩ = some (.slice A l.length c)) (ds := [14]) #[false, false, false, false, false, false, false, false, false, false, false, false, false, false, false] (by kernel_rfl) rfl rfl (H1.out.drew.zam (HB1.out _ _) 1 rfl) (fun hHeld => ?_)
  refine pure_ (i := 0) (N := some 7) (v := ?_) (a' := ?_) #[true, false, false, false, false, false, false, false, false, false, false, false, false, false, false] rfl rfl (by kernel_rfl) (fun _ _ _ h => h) (Or.inl ⟨by rfl, ?_⟩) ?_ ?_
  rotate_left
  · intro w'
    go_simp
    with_reducible rfl
  rotate_left
  · simp only [Act.put, List.setIfInBounds_toArray, List.set_cons_zero, List.set_cons_succ, i64_w, i32_w]
    rfl
  refine pure_ (i := 1) (N := some 8) (v := ?_) (a' := ?_) #[true, true, false, false, false, false, false, false, false, false, false, false, false, false, false] rfl rfl (by kernel_rfl) (fun _ _ _ h => h) (Or.inl ⟨by rfl, ?_⟩) ?_ ?_
  rotate_left
  · intro w'
    go_simp
    with_reducible rfl
  rotate_left
  · simp only [Act.put, List.setIfInBounds_toArray, List.set_cons_zero, List.set_cons_succ, i64_w, i32_w]
    rfl
  refine pure_ (i := 2) (N := some 9) (v := ?_) (a' := ?_) #[true, true, true, false, false, false, false, false, false, false, false, false, false, false, false] rfl rfl (by kernel_rfl) (fun _ _ _ h => h) (Or.inl ⟨by rfl, ?_⟩) ?_ ?_
  rotate_left
  · intro w'
    go_simp
    with_reducible rfl
  rotate_left
  · simp only [Act.put, List.setIfInBounds_toArray, List.set_cons_zero, List.set_cons_succ, i64_w, i32_w]
    rfl
  refine pure_ (i := 3) (N := some 10) (v := ?_) (a' := ?_) #[true, true, true, true, false, false, false, false, false, false, false, false, false, false, false] rfl rfl (by kernel_rfl) (fun _ _ _ h => h) (Or.inl ⟨by rfl, ?_⟩) ?_ ?_
  rotate_left
  · intro w'
    go_simp
    with_reducible rfl
  rotate_left
  · simp only [Act.put, List.setIfInBounds_toArray, List.set_cons_zero, List.set_cons_succ, i64_w, i32_w]
    rfl
  refine pure_ (i := 4) (N := some 11) (v := ?_) (a' := ?_) #[true, true, true, true, true, false, false, false, false, false, false, false, false, false, false] rfl rfl (by kernel_rfl) (fun _ _ _ h => h) (Or.inl ⟨by rfl, ?_⟩) ?_ ?_
  rotate_left
  · intro w'
    go_simp
    with_reducible rfl
  rotate_left
  · simp only [Act.put, List.setIfInBounds_toArray, List.set_cons_zero, List.set_cons_succ, i64_w, i32_w]
    rfl
  refine pure_ (i := 6) (N := some 13) (v := ?_) (a' := ?_) #[true, true, true, true, true, false, true, false, false, false, false, false, false, false, false] rfl rfl (by kernel_rfl) (fun _ _ _ h => h) (Or.inl ⟨by rfl, ?_⟩) ?_ ?_
  rotate_left
  · intro w'
    go_simp
    with_reducible rfl
  rotate_left
  · simp only [Act.put, List.setIfInBounds_toArray, List.set_cons_zero, List.set_cons_succ, i64_w, i32_w]
    rfl
  refine pure_ (i := 7) (N := some 14) (v := ?_) (a' := ?_) #[true, true, true, true, true, false, true, true, false, false, false, false, false, false, false] rfl rfl (by kernel_rfl) (fun _ _ _ h => h) (Or.inl ⟨by rfl, ?_⟩) ?_ ?_
  rotate_left
  · intro w'
    go_simp
    with_reducible rfl
  rotate_left
  · simp only [Act.put, List.setIfInBounds_toArray, List.set_cons_zero, List.set_cons_succ, i64_w, i32_w]
    rfl
  refine take_ (i := 5) (N := some 12) (v := ?_) (a' := ?_) #[true, true, true, true, true, true, true, true, false, false, false, false, false, false, false] rfl rfl (by kernel_rfl) (fun _ _ _ h => h) (Or.inl ⟨by rfl, ?_⟩) hHeld ?_ ?_
  rotate_left
  · intro w' s0
    go_simp
    with_reducible rfl
  rotate_left
  · simp only [Act.put, List.setIfInBounds_toArray, List.set_cons_zero, List.set_cons_succ, i64_w, i32_w]
    rfl
  refine one_ (i := 8) (N := some 15) #[true, true, true, true, true, true, true, true, true, false, false, false, false, false, false] rfl rfl (by kernel_rfl) (by decide) (fun K hK => ?_)
  refine goes_ Try.func151 (by kernel_rfl) rfl #[.int .i64 a, .int .i64 b] (by rfl) rfl rfl (by simp only [List.map_toArray, List.map_cons, List.map_nil]; rfl) ?_
  with_reducible refine (HST.out _).mono ?_
  rintro e w10 ⟨rfl, hb_⟩
  refine ⟨_, rfl, ?_⟩
  have H11 := Aside0.mk (H1.out.drew.below hb_)
  clear hb_
  refine hK.out _ _ (H11.out.zam (HB1.out _ _) 1 rfl) (fun hHeld => ?_)
  clear hK K
  refine norm_ (a' := ?_) ?_ ?_
  rotate_left
  · show Act.put _ (some 15) _ = _
    simp only [Act.put, List.setIfInBounds_toArray, List.set_cons_zero, List.set_cons_succ, i64_w, i32_w]
    rfl
  refine one_ (i := 9) (N := some 16) #[true, true, true, true, true, true, true, true, true, true, false, false, false, false, false] rfl rfl (by kernel_rfl) (by decide) (fun K hK => ?_)
  refine value_ (w1 := ?_) (v := ?_) (by rfl) rfl ?_ ?_
  rotate_left 2
  · go_simp
    constructor
    · rfl
    · rfl
  refine hK.out _ _ ((H11.out.alloc _).zam (HB1.out _ _) 1 rfl) (fun hHeld => ?_)
  clear hK K
  refine norm_ (a' := ?_) ?_ ?_
  rotate_left
  · show Act.put _ (some 16) _ = _
    simp only [Act.put, List.setIfInBounds_toArray, List.set_cons_zero, List.set_cons_succ, i64_w, i32_w]
    rfl
  refine one_ (i := 10) (N := some 17) #[true, true, true, true, true, true, true, true, true, true, true, false, false, false, false] rfl rfl (by kernel_rfl) (by decide) (fun K hK => ?_)
  obtain ⟨ok_, hR_, hF_, hX_⟩ := (H11.out).row_append (i := 0) rfl
  refine Kd.R_append_step k117 (w0 := w0) w0.heap.size (by rfl) (.tmp 12) (.tmp 16) 34 117 (.agg #[(.int .i64 0), (.int .i64 0)]) 16 rfl Try.underlying34 info117 rfl (by decide) (by omega) (.slice A l.length c) l (⟨mn a b, mx a b⟩ : S117) [.int .i64 (mn a b), .int .i64 (mx a b)] ok_ (fun _ => False) rfl (by first | rfl | (go_simp; done) | (go_simp; rfl)) ?aP (fun _ hk => hk.elim) ?aF ?aO ?aB ?aS ?aL ?_; (case aP => exact k117_mkM _ _ _ (⟨mn a b, mx a b⟩ : S117)); (case aB => exact (H11.out).bel); (case aF => exact hF_); (case aO => exact hR_); (case aS => exact (H11.out).size); (case aL => have := HL.out; omega)
  intro v_ w12 ho_ hb_ hg_ ha_; have H12 := Aside0.mk (hX_ _ _ _ ho_ hg_); obtain ⟨A_, c_, rfl⟩ := Kd.zax ho_; simp only [List.set_cons_zero, List.set_cons_succ] at H12; clear ho_ hb_ hg_ ha_ hR_ hF_ hX_
  refine hK.out _ _ (H12.out.zam (HB1.out _ _) 1 rfl) (fun hHeld => ?_)
  clear hK K
  refine norm_ (a' := ?_) ?_ ?_
  rotate_left
  · show Act.put _ (some 17) _ = _
    simp only [Act.put, List.setIfInBounds_toArray, List.set_cons_zero, List.set_cons_succ, i64_w, i32_w]
    rfl
  refine pure_ (i := 11) (N := some 18) (v := ?_) (a' := ?_) #[true, true, true, true, true, true, true, true, true, true, true, true, false, false, false] rfl rfl (by kernel_rfl) (fun _ _ _ h => h) (Or.inl ⟨by rfl, ?_⟩) ?_ ?_
  rotate_left
  · intro w'
    go_simp
    with_reducible rfl
  rotate_left
  · simp only [Act.put, List.setIfInBounds_toArray, List.set_cons_zero, List.set_cons_succ, i64_w, i32_w]
    rfl
  refine pure_ (i := 12) (N := some 19) (v := ?_) (a' := ?_) #[true, true, true, true, true, true, true, true, true, true, true, true, true, false, false] rfl rfl (by kernel_rfl) (fun _ _ _ h => h) (Or.inl ⟨by rfl, ?_⟩) ?_ ?_
  rotate_left
  · intro w'
    go_simp
    with_reducible rfl
  rotate_left
  · simp only [Act.put, List.setIfInBounds_toArray, List.set_cons_zero, List.set_cons_succ, i64_w, i32_w]
    rfl
  refine pure_ (i := 13) (N := some 20) (v := ?_) (a' := ?_) #[true, true, true, true, true, true, true, true, true, true, true, true, true, true, false] rfl rfl (by kernel_rfl) (fun _ _ _ h => h) (Or.inl ⟨by rfl, ?_⟩) ?_ ?_
  rotate_left
  · intro w'
    go_simp
    with_reducible rfl
  rotate_left
  · simp only [Act.put, List.setIfInBounds_toArray, List.set_cons_zero, List.set_cons_succ, i64_w, i32_w]
    rfl
  refine last_ (i := 14) (N := none) #[true, true, true, true, true, true, true, true, true, true, true, true, true, true, true] rfl rfl (by kernel_rfl) (by decide) (fun K hK => ?_)
  have y0 : w12.cell? ⟨g, 1, none⟩ = some (.slice A l.length c) := H12.out.zam (HB1.out _ _) 1 rfl
  have y1 := za4 (H12.out.box_at (HB1.out _ _)) 1
  refine skip_ (w1 := ?_) (by rfl) rfl ?_ ?_
  rotate_left
  · go_simp
    rfl
  refine hK.out _ _ ?_
  clear hK K
  refine done_ (by kernel_rfl) ?_
  have h13 := H12.out.box_set (HB1.out _ _) 1 (.slice A_ (l ++ [(⟨mn a b, mx a b⟩ : S117)]).length c_) rfl
  simp only [List.set_cons_succ, List.set_cons_zero, List.set_set] at h13
  rw [show (l ++ [(⟨mn a b, mx a b⟩ : S117)]).length = l.length + 1 from by simp] at h13
  generalize w12.setCell ⟨g, 1, none⟩ (.slice A_ (l.length + 1) c_) = w13 at h13 ⊢
  have H13 := Aside0.mk h13
  have HMA := Aside0.mk (many_any g 108 n A_ (l.length + 1) c_ o w13 (h13.box_at (HB1.out _ _)))
  have hw1 : wrap64 (n + ((l.length + 1 : Nat) : Int)) = n + (l.length : Int) + 1 := by have := HL.out; unfold wrap64; omega
  rw [hw1] at HMA
  clear h13 y0 y1 hHeld H12 H11 H1 hw1 hc0 HST
  go_wp2_with fail
  refine HMA.out.mono ?_
  rintro e w14 ⟨rfl, hb_⟩
  have H14 := Aside0.mk (H13.out.below hb_)
  clear hb_ H13
  have q0 : n + (l.length : Int) + 1 - 1 = n + (l.length : Int) := by omega
  have q1 : -9223372036854775808 ≤ n + (l.length : Int) := by have := HL.out; omega
  have q2 : n + (l.length : Int) ≤ 9223372036854775807 := by have := HL.out; omega
  go_wp2
  go_ret
  have h4 := H14.out.obj_close (i := i) (f := fun v => #[.int .i64 n, v, o]) (t := 108) (g := g) (Fr.set_at HI.out)
  rw [List.set_set] at h4
  exact ⟨by first | rfl | (simp; done), h4⟩

set_option maxHeartbeats 4000000 in
set_option maxRecDepth 100000 in
theorem times_fr (a b : Int) (h : Fr w0 ws P0 L w) (hi : L[i]? = some (mkr g n o l)) (hn : 0 ≤ n ∧ n ≤ 1000) (hl : l.length + 1 < 1000000) :
    Calls Try.prog 91 #[.pointer (some ⟨g, 0, none⟩), .int .i64 a, .int .i64 b] w fun e w' => e = .returned (.int .i64 (timesV n l a b)) ∧ Fr w0 ws P0 (L.set i (mkr g n o (timesL l a b))) w' := by
  have HM := Aside0.mk (multiply_fr a b h hi hn hl)
  by_cases ha : a < 0
  · have c1 : decide (a < 0) = true := decide_eq_true ha
    have HA := Aside0.mk ha
    have H0 := Aside0.mk h
    have HI := Aside0.mk hi
    clear HM h hi hn hl ha
    go_enter Try.func91, Try.ntmps91
    go_wp2_with fail
    go_ret
    refine ⟨by rw [show timesV n l a b = b from if_pos HA.out]; rfl, ?_⟩
    rw [show timesL l a b = l from if_pos HA.out]
    rw [show L.set i (mkr g n o l) = L from by rw [← (List.getElem?_eq_some_iff.1 HI.out).2]; simp]
    exact H0.out
  · have c1 : decide (a < 0) = false := decide_eq_false ha
    have HA := Aside0.mk ha
    clear h hi hn hl ha
    go_enter Try.func91, Try.ntmps91
    go_wp2_with (go_at_call 90; refine HM.out.mono ?_; rintro e w' ⟨rfl, h1⟩; have H := Aside0.mk h1; clear h1)
    go_ret
    refine ⟨by rw [show timesV n l a b = n + (l.length : Int) from if_neg (by have := HA.out; omega)]; rfl, ?_⟩
    rw [show timesL l a b = l ++ [(⟨mn a b, mx a b⟩ : S117)] from if_neg (by have := HA.out; omega)]
    exact H.out
set_option maxHeartbeats 4000000 in
set_option maxRecDepth 100000 in
theorem newMaker_fr (n : Int) (h : Fr w0 ws P0 L w) :
    Calls Try.prog 87 #[.int .i64 n] w fun e w' => ∃ g, e = .returned (.pointer (some ⟨g, 0, none⟩)) ∧ Fr w0 ws P0 (mkr g n (.slice none 0 0) [] :: L) w' := by
  have hu := Try.underlying36
  have hu2 := Try.underlying108
  have H0 := Aside0.mk h
  clear h
  go_enter Try.func87, Try.ntmps87
  go_wp2_with (((with_reducible refine zaq (N := 6) rfl ?_); refine zan ?hg (N := 6) ?hd (cs := #[.int .i64 n, .slice none 0 0, .slice none 0 0]) (t := 108) ?hr ?_; (case hd => rfl); (case hg => rfl); (case hr => first | (go_simp; done) | (go_simp; rfl)); intro g1 hg_ w1 hbox_ hb_; have H1 := Aside0.mk ((H0.out).box_new hbox_ hb_ hg_); clear hbox_ hb_ hg_))
  go_ret
  exact ⟨g1, rfl, (H1.out.row_nil k117 117).obj_close (i := 0) (f := fun v => #[.int .i64 n, v, .slice none 0 0]) rfl⟩
theorem results_c1 {P : Program} {fn : Func} {p : Tmp} {ty : TypeId} (h : fn.results = #[.cell p ty]) (tmps : Array Value) (w : World) (g : Nat) (t : TypeId) (cs : Array Value) (fr : Nat × Nat) (d : TypeDesc)
    (hp : tmps.getD p undef = .pointer (some ⟨g, 0, none⟩)) (hg : w.heap[g]? = some (.cells cs t fr))
    (hu : P.underlying ty = some d) (hd : (match d with | .struct _ | .array _ _ => true | _ => false) = true) (hi : (P.info? ty).map (·.size) = some cs.size) :
    (results fn tmps).run P w = .ok (.agg cs) w := by
  have hp' : tmps[p]?.getD undef = .pointer (some ⟨g, 0, none⟩) := by simpa using hp
  simp [results, h, hp', asAddr, run_loadVar_row w g t ty cs fr d hg hu hd hi]
set_option maxHeartbeats 4000000 in
set_option maxRecDepth 100000 in
/-- The plan of what has been made: the maker's steps go over to the caller. -/
theorem plan_fr (ov : Value) {A9 : Option Addr} {m9 c9 : Nat} (hov : ov = .slice A9 m9 c9) {Ao : Option Addr} {mo co : Nat} (ho : o = .slice Ao mo co) (h : Fr w0 ws P0 L w) (hi : L[i]? = some (mkr g n o l)) :
    Calls Try.prog 93 #[.pointer (some ⟨g, 0, none⟩), ov] w fun e w' => ∃ v, e = .returned (.agg #[.int .i64 n, v, ov]) ∧ Fr w0 ws P0 (row k117 117 v l :: L.set i gone) w' := by
  subst hov
  subst ho
  have hu := Try.underlying36
  have hu2 := Try.underlying108
  obtain ⟨v, h1⟩ := h.obj_open hi
  have hB1 : ∀ (d d' : Thing w0.heap.size) (cs : Array Value), (d' :: d :: L.set i (box g 108 cs))[i + 2]? = some (box g 108 cs) := fun d d' cs => by simpa using Fr.set_at hi
  have hB2 : ∀ (d : Thing w0.heap.size) (cs : Array Value), (d :: L.set i (box g 108 cs))[i + 1]? = some (box g 108 cs) := fun d cs => by simpa using Fr.set_at hi
  obtain ⟨A, c, rfl, hcap, hC⟩ := h1.row_reads (i := 0) rfl
  have H1 := Aside0.mk h1
  have HB1 := Aside0.mk hB1
  have HB2 := Aside0.mk hB2
  have HI := Aside0.mk hi
  clear h h1 hi hcap hC hB1 hB2
  go_enter Try.func93, Try.ntmps93
  go_wp2_with (((with_reducible refine zaq (N := 4) rfl ?_); refine zan ?hg (N := 4) ?hd (cs := #[.int .i64 0, .slice none 0 0, .slice none 0 0]) (t := 36) ?hr ?_; (case hd => rfl); (case hg => rfl); (case hr => first | (go_simp; done) | (go_simp; rfl)); intro g4 hg_ w2 hbox_ hb_; have H2 := Aside0.mk ((H1.out).box_new hbox_ hb_ hg_); clear hbox_ hb_ hg_; have y0 : w2.cell? ⟨g, 0, none⟩ = some (.int .i64 n) := H2.out.zam (HB1.out _ _ _) 0 rfl; have y1 : w2.cell? ⟨g, 1, none⟩ = some (.slice A l.length c) := H2.out.zam (HB1.out _ _ _) 1 rfl; have y2 : w2.cell? ⟨g, 2, none⟩ = some (.slice Ao mo co) := H2.out.zam (HB1.out _ _ _) 2 rfl; have f2 := za4 (H2.out.box_at (HB1.out _ _ _)) 2; have nn1 := H2.out.box_ne (i := 0) (j := i + 2) (by omega) rfl (HB1.out _ _ _); have nn2 := nn1.symm; have hsg4_0 : w2.cell? ⟨g4, 0, none⟩ = some (.int .i64 0) := (H2.out).zam (i := 0) rfl 0 rfl; have hfg4_0 := za4 ((H2.out).box_at (i := 0) rfl) 0; have hsg4_1 : w2.cell? ⟨g4, 1, none⟩ = some (.slice none 0 0) := (H2.out).zam (i := 0) rfl 1 rfl; have hfg4_1 := za4 ((H2.out).box_at (i := 0) rfl) 1; have hsg4_2 : w2.cell? ⟨g4, 2, none⟩ = some (.slice none 0 0) := (H2.out).zam (i := 0) rfl 2 rfl; have hfg4_2 := za4 ((H2.out).box_at (i := 0) rfl) 2))
  have h4 := (((H2.out.box_set (HB1.out _ _ _) 2 (.slice A9 m9 c9) rfl).box_set (i := 0) (g := g4) (t := 36) (cs := #[.int .i64 0, .slice none 0 0, .slice none 0 0]) (by simp) 0 (.int .i64 n) rfl).box_set (i := 0) (g := g4) (t := 36) (by simp; rfl) 1 (.slice A l.length c) rfl).box_set (i := 0) (g := g4) (t := 36) (by simp; rfl) 2 (.slice A9 m9 c9) rfl
  simp only [List.set_cons_zero, List.set_cons_succ, List.set_set] at h4
  refine bodyPost_ret (results_c1 rfl _ _ g4 36 #[.int .i64 n, .slice A l.length c, .slice A9 m9 c9] (0, 0) _ rfl (h4.box_at (i := 0) rfl) Try.underlying36 rfl (by kernel_rfl)) rfl ?_
  have h5 := h4.drop.forget (i + 1)
  simp only [List.set_cons_zero, List.set_cons_succ, List.set_set] at h5
  exact ⟨_, rfl, h5⟩
end

end Go.Proofs.Ytpdpomjgfmdjfaa.Z
