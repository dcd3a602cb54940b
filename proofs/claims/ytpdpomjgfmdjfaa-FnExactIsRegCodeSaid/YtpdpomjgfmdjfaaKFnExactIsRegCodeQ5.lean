-- Written by a program of this session (wip/tools/stubprint.py): contracts by hand where the kit's print has none.
import Derived.Test.YtpdpomjgfmdjfaaKFnExactIsRegCodeQ0
import Derived.Test.YtpdpomjgfmdjfaaKFnExactIsRegCodeQ1
import Derived.Test.YtpdpomjgfmdjfaaKFnExactIsRegCodeQ2
import Derived.Test.YtpdpomjgfmdjfaaKFnExactIsRegCodeQ3
import Derived.Test.YtpdpomjgfmdjfaaKFnExactIsRegCodeQ4
namespace Go.Proofs.Ytpdpomjgfmdjfaa.Z
open Go.RowKit Go.Proofs.YtpdpomjgfmdjfaaW.PrintWords Go.Proofs.YtpdpomjgfmdjfaaW.PrintLast Go.Proofs.YtpdpomjgfmdjfaaW.PrintMore
attribute [local go_sem] max2_int min2_int max_two min_two max_three min_three max_four min_four   -- for this text's walks alone
set_option linter.unusedVariables false
set_option linter.unusedSimpArgs false

/-! ### laws_eqRegOpS: function 61 -/
def laws_eqRegOpS.l0 : Nat → List (S80) → List (S80) → Int → Option (Bool)
  | 0, _, _, _ => none
  | k + 1, x0, x1, x5 => if x5 < (x0.length : Int) then (if 0 ≤ x5 then (if x5 < (x1.length : Int) then ((laws_eqRegOp.f ((zah x0 x5).f0) ((zah x0 x5).f1) ((zah x0 x5).f2) ((zah x1 x5).f0) ((zah x1 x5).f1) ((zah x1 x5).f2)).bind fun t305 => (if t305 = true then (laws_eqRegOpS.l0 k x0 x1 (wrap64 (x5 + 1))) else (some false))) else (none)) else (none)) else (some true)
def laws_eqRegOpS.f (k : Nat) (l0 : List (S80)) (l1 : List (S80)) : Option (Bool) := if (l0.length : Int) = (l1.length : Int) then (laws_eqRegOpS.l0 k l0 l1 0) else (some false)
theorem laws_eqRegOpS.mono_l : ∀ k, (∀ y0 y1 y2, LeO (laws_eqRegOpS.l0 k y0 y1 y2) (laws_eqRegOpS.l0 (k + 1) y0 y1 y2))
  | 0 => fun _ _ _ r h => by simp [laws_eqRegOpS.l0] at h
  | k + 1 => by
    have ih0 := laws_eqRegOpS.mono_l k
    · intro y0 y1 y2
      unfold laws_eqRegOpS.l0
      repeat' first
      | (with_reducible exact ih0 _ _ _)
      | (with_reducible exact LeO.refl _)
      | (with_reducible exact LeO.none _)
      | (with_reducible refine LeO.ite ?_ ?_)
      | (with_reducible refine LeO.bind ?_ (fun _ => ?_))
      | exact ih0 _ _ _
      | exact LeO.none _
      | refine LeO.ite ?_ ?_
      | refine LeO.bind ?_ (fun _ => ?_)
theorem laws_eqRegOpS.mono : ∀ a0 a1 k, LeO (laws_eqRegOpS.f k a0 a1) (laws_eqRegOpS.f (k + 1) a0 a1) := by
  intro a0 a1 k
  have ih0 := laws_eqRegOpS.mono_l k
  unfold laws_eqRegOpS.f
  repeat' first
      | (with_reducible exact ih0 _ _ _)
      | (with_reducible exact LeO.refl _)
      | (with_reducible exact LeO.none _)
      | (with_reducible refine LeO.ite ?_ ?_)
      | (with_reducible refine LeO.bind ?_ (fun _ => ?_))
      | exact ih0 _ _ _
      | exact LeO.none _
      | refine LeO.ite ?_ ?_
      | refine LeO.bind ?_ (fun _ => ?_)
def laws_eqRegOpS.T6 : Bool × List (List Nat × List Nat) := (true, [([], []), ([], []), ([0, 1], [0, 1]), ([2], [2]), ([], []), ([], []), ([4, 5], [4, 5]), ([6], [6]), ([3, 7], [3, 7]), ([8], [8])])
def laws_eqRegOpS.B6 : List Nat := [0, 0, 3, 7, 0, 0, 48, 112, 255, 511]
theorem laws_eqRegOpS.tab6 : rtab .any (opsOf Try.f61 6) = laws_eqRegOpS.T6 := by kernel_rfl
theorem laws_eqRegOpS.bits6 : waitsOk laws_eqRegOpS.T6.2 laws_eqRegOpS.B6 = true := by kernel_rfl
set_option maxHeartbeats 8000000 in
set_option maxRecDepth 100000 in
theorem laws_eqRegOpS.calls (k : Nat) (A0 : Option Addr) (c0 : Nat) (l0 : List (S80)) (A1 : Option Addr) (c1 : Nat) (l1 : List (S80)) (r : Bool) (w : World) (hr0 : Kd.C k80 w A0 l0.length l0) (hc0 : l0.length ≤ c0) (hr1 : Kd.C k80 w A1 l1.length l1) (hc1 : l1.length ≤ c1) (h : laws_eqRegOpS.f k l0 l1 = some r) :
    Calls Try.prog 61 #[.slice A0 l0.length c0, .slice A1 l1.length c1] w fun e w' => e = .returned (.bool r) ∧ Below w.heap.size w w' := by
  have hu80 := Try.underlying80
  have HR0 := Aside0.mk hr0
  have HC0 := Aside0.mk hc0
  clear hr0 hc0
  have HR1 := Aside0.mk hr1
  have HC1 := Aside0.mk hc1
  clear hr1 hc1
  have HB := Aside0.mk (Below.refl w.heap.size w)
  have H : (if (l0.length : Int) = (l1.length : Int) then (laws_eqRegOpS.l0 k l0 l1 0) else (some false)) = some r := h
  clear h
  by_cases c3 : (l0.length : Int) = (l1.length : Int)
  · rw [if_pos c3] at H
    have c3b0 : ((l0.length : Int) == (l1.length : Int)) = true := beq_iff_eq.mpr c3
    have c3b1 : ((l0.length : Int) != (l1.length : Int)) = false := bne_eq_false_iff_eq.mpr c3
    have c3b2 : (l0.length == l1.length) = true := by first | simpa using c3 | (simp at c3 ⊢; omega)
    clear c3
    have H' := Aside0.mk H
    clear H
    go_enter Try.func61, Try.ntmps61
    go_wp2
    go_loopg [5] k (fun kq v5 w' => ∃ (x5_1 : Int), v5 = .int .i64 x5_1 ∧ Aside0 (laws_eqRegOpS.l0 kq l0 l1 x5_1 = some r) ∧ Aside0 (kq ≤ k) ∧ Aside0 (Below w.heap.size w w'))
    case atStart => exact ⟨(0), (by first | rfl | (simp; done) | (simp [*]; done)), H', ⟨Nat.le_refl _⟩, ⟨by repeat (first | (with_reducible first | exact HB.out | apply za1 | apply za0 | apply za2) | exact HB.out)⟩⟩
    case round =>
      clear H'
      try clear c1
      try clear p2
      try clear c3
      try clear c3b0
      try clear c3b1
      try clear c3b2
      obtain ⟨x5_1, rfl, HA, HK1, HB⟩ := hrel
      cases gk with
      | zero => exact absurd HA.out (by simp [laws_eqRegOpS.l0])
      | succ k1 =>
        have H := HA.out
        clear HA
        simp only [laws_eqRegOpS.l0] at H
        by_cases c4 : x5_1 < (l0.length : Int)
        · rw [if_pos c4] at H
          have c4b0 : decide (x5_1 < (l0.length : Int)) = true := decide_eq_true c4
          clear c4
          by_cases c5 : 0 ≤ x5_1
          · rw [if_pos c5] at H
            have c5b0 : decide (0 ≤ x5_1) = true := decide_eq_true c5
            clear c5
            by_cases c6 : x5_1 < (l1.length : Int)
            · rw [if_pos c6] at H
              have c6b0 : decide (x5_1 < (l1.length : Int)) = true := decide_eq_true c6
              clear c6
              replace H := Option.bind_eq_some_iff.mp H
              obtain ⟨t305, A70, H⟩ := H
              replace H : (if t305 = true then (laws_eqRegOpS.l0 k1 l0 l1 (wrap64 (x5_1 + 1))) else (some false)) = some r := H
              have A7 := Aside0.mk A70
              clear A70
              by_cases c8 : t305 = true
              · subst c8
                have H1 : (laws_eqRegOpS.l0 k1 l0 l1 (wrap64 (x5_1 + 1))) = some r := by rw [if_pos rfl] at H; exact H
                clear H
                have H := H1
                clear H1
                have H' := Aside0.mk H
                clear H
                try go_wp2
                have n0_ := Aside0.mk (za2 HB.out)
                clear HB
                have HB := n0_
                clear n0_
                have p303 : 0 ≤ (x5_1 : Int) := of_decide_eq_true (by first | (with_reducible assumption) | assumption)
                have q303 : x5_1 < (l0.length : Int) := of_decide_eq_true (by first | (with_reducible assumption) | assumption)
                obtain ⟨ad303, e303, hx303_0, hx303_1, hx303_2⟩ := at_T80 HR0.out x5_1 p303 q303
                have hw303_2 := hx303_2
                have hw303_1 := hx303_1
                have hw303_0 := hx303_0
                cases e303
                replace hx303_0 := (HB.out.cell (World.block_lt_of_cell? w _ hx303_0)).trans hx303_0
                replace hx303_1 := (HB.out.cell (World.block_lt_of_cell? w _ hx303_1)).trans hx303_1
                replace hx303_2 := (HB.out.cell (World.block_lt_of_cell? w _ hx303_2)).trans hx303_2
                replace p303 := eq_true p303
                replace q303 := eq_true q303
                have p304 : 0 ≤ (x5_1 : Int) := of_decide_eq_true (by first | (with_reducible assumption) | assumption)
                have q304 : x5_1 < (l1.length : Int) := of_decide_eq_true (by first | (with_reducible assumption) | assumption)
                obtain ⟨ad304, e304, hx304_0, hx304_1, hx304_2⟩ := at_T80 HR1.out x5_1 p304 q304
                have hw304_2 := hx304_2
                have hw304_1 := hx304_1
                have hw304_0 := hx304_0
                cases e304
                replace hx304_0 := (HB.out.cell (World.block_lt_of_cell? w _ hx304_0)).trans hx304_0
                replace hx304_1 := (HB.out.cell (World.block_lt_of_cell? w _ hx304_1)).trans hx304_1
                replace hx304_2 := (HB.out.cell (World.block_lt_of_cell? w _ hx304_2)).trans hx304_2
                replace p304 := eq_true p304
                replace q304 := eq_true q304
                refine start_ (n := 10) (S := fun w' => w'.cell? (ad303.add ((x5_1).toNat * 3)) = some (.int .i64 ((zah l0 x5_1).f0)) ∧ w'.cell? ⟨(ad303.add ((x5_1).toNat * 3)).block, (ad303.add ((x5_1).toNat * 3)).off + 1, none⟩ = some (.int .i64 ((zah l0 x5_1).f1)) ∧ w'.cell? ⟨(ad303.add ((x5_1).toNat * 3)).block, (ad303.add ((x5_1).toNat * 3)).off + 2, none⟩ = some (.int .i64 ((zah l0 x5_1).f2)) ∧ w'.cell? (ad304.add ((x5_1).toNat * 3)) = some (.int .i64 ((zah l1 x5_1).f0)) ∧ w'.cell? ⟨(ad304.add ((x5_1).toNat * 3)).block, (ad304.add ((x5_1).toNat * 3)).off + 1, none⟩ = some (.int .i64 ((zah l1 x5_1).f1)) ∧ w'.cell? ⟨(ad304.add ((x5_1).toNat * 3)).block, (ad304.add ((x5_1).toNat * 3)).off + 2, none⟩ = some (.int .i64 ((zah l1 x5_1).f2))) (ds := []) #[false, false, false, false, false, false, false, false, false, false] (by kernel_rfl) rfl rfl ⟨((HB.out.cell (World.block_lt_of_cell? w _ hw303_0)).trans hw303_0), ((HB.out.cell (World.block_lt_of_cell? w _ hw303_1)).trans hw303_1), ((HB.out.cell (World.block_lt_of_cell? w _ hw303_2)).trans hw303_2), ((HB.out.cell (World.block_lt_of_cell? w _ hw304_0)).trans hw304_0), ((HB.out.cell (World.block_lt_of_cell? w _ hw304_1)).trans hw304_1), ((HB.out.cell (World.block_lt_of_cell? w _ hw304_2)).trans hw304_2)⟩ (fun hHeld => ?_); refine with_tabW laws_eqRegOpS.tab6 laws_eqRegOpS.bits6 (fun HT_ HW_ => ?_)
                generalize wr.drew = w9 at HB hx303_0 hx303_1 hx303_2 hx304_0 hx304_1 hx304_2 hHeld ⊢
                refine pure_ (i := 0) (N := some 17) (v := ?_) (a' := ?_) #[true, false, false, false, false, false, false, false, false, false] rfl rfl (any_of HT_.out (by kernel_rfl)) (fun _ _ _ h => h) (Or.inl ⟨by rfl, ?_⟩) ?_ ?_
                rotate_left
                · intro w'
                  go_simp
                  with_reducible rfl
                rotate_left
                · simp only [Act.put, List.setIfInBounds_toArray, List.set_cons_zero, List.set_cons_succ, i64_w, i32_w]
                  rfl
                refine pure_ (i := 1) (N := some 18) (v := ?_) (a' := ?_) #[true, true, false, false, false, false, false, false, false, false] rfl rfl (any_of HT_.out (by kernel_rfl)) (fun _ _ _ h => h) (Or.inl ⟨by rfl, ?_⟩) ?_ ?_
                rotate_left
                · intro w'
                  go_simp
                  with_reducible rfl
                rotate_left
                · simp only [Act.put, List.setIfInBounds_toArray, List.set_cons_zero, List.set_cons_succ, i64_w, i32_w]
                  rfl
                refine pure_ (i := 2) (N := some 19) (v := ?_) (a' := ?_) #[true, true, true, false, false, false, false, false, false, false] rfl rfl (any_of HT_.out (by kernel_rfl)) (fun _ _ _ h => h) (Or.inl ⟨by rfl, ?_⟩) ?_ ?_
                rotate_left
                · intro w'
                  go_simp
                  with_reducible rfl
                rotate_left
                · simp only [Act.put, List.setIfInBounds_toArray, List.set_cons_zero, List.set_cons_succ, i64_w, i32_w]
                  rfl
                refine pure_ (i := 4) (N := some 21) (v := ?_) (a' := ?_) #[true, true, true, false, true, false, false, false, false, false] rfl rfl (any_of HT_.out (by kernel_rfl)) (fun _ _ _ h => h) (Or.inl ⟨by rfl, ?_⟩) ?_ ?_
                rotate_left
                · intro w'
                  go_simp
                  with_reducible rfl
                rotate_left
                · simp only [Act.put, List.setIfInBounds_toArray, List.set_cons_zero, List.set_cons_succ, i64_w, i32_w]
                  rfl
                refine pure_ (i := 5) (N := some 22) (v := ?_) (a' := ?_) #[true, true, true, false, true, true, false, false, false, false] rfl rfl (any_of HT_.out (by kernel_rfl)) (fun _ _ _ h => h) (Or.inl ⟨by rfl, ?_⟩) ?_ ?_
                rotate_left
                · intro w'
                  go_simp
                  with_reducible rfl
                rotate_left
                · simp only [Act.put, List.setIfInBounds_toArray, List.set_cons_zero, List.set_cons_succ, i64_w, i32_w]
                  rfl
                refine pure_ (i := 6) (N := some 23) (v := ?_) (a' := ?_) #[true, true, true, false, true, true, true, false, false, false] rfl rfl (any_of HT_.out (by kernel_rfl)) (fun _ _ _ h => h) (Or.inl ⟨by rfl, ?_⟩) ?_ ?_
                rotate_left
                · intro w'
                  go_simp
                  with_reducible rfl
                rotate_left
                · simp only [Act.put, List.setIfInBounds_toArray, List.set_cons_zero, List.set_cons_succ, i64_w, i32_w]
                  rfl
                refine take_ (i := 3) (N := some 20) (v := ?_) (a' := ?_) #[true, true, true, true, true, true, true, false, false, false] rfl rfl (take_ofW HT_.out HW_.out (by kernel_rfl)) (fun _ _ _ h => h) (Or.inl ⟨by rfl, ?_⟩) hHeld ?_ ?_
                rotate_left
                · rintro w' ⟨s0, s1, s2, s3, s4, s5⟩
                  go_simp
                  with_reducible rfl
                rotate_left
                · simp only [Act.put, List.setIfInBounds_toArray, List.set_cons_zero, List.set_cons_succ, i64_w, i32_w]
                  rfl
                refine take_ (i := 7) (N := some 24) (v := ?_) (a' := ?_) #[true, true, true, true, true, true, true, true, false, false] rfl rfl (take_ofW HT_.out HW_.out (by kernel_rfl)) (fun _ _ _ h => h) (Or.inl ⟨by rfl, ?_⟩) hHeld ?_ ?_
                rotate_left
                · rintro w' ⟨s0, s1, s2, s3, s4, s5⟩
                  go_simp
                  with_reducible rfl
                rotate_left
                · simp only [Act.put, List.setIfInBounds_toArray, List.set_cons_zero, List.set_cons_succ, i64_w, i32_w]
                  rfl
                refine one_ (i := 8) (N := some 25) #[true, true, true, true, true, true, true, true, true, false] rfl rfl (one_of HT_.out (by kernel_rfl)) (by decide) (fun K hK => ?_)
                refine goes_ Try.func127 (by kernel_rfl) rfl #[.agg #[.int .i64 ((zah l0 x5_1).f0), .int .i64 ((zah l0 x5_1).f1), .int .i64 ((zah l0 x5_1).f2)], .agg #[.int .i64 ((zah l1 x5_1).f0), .int .i64 ((zah l1 x5_1).f1), .int .i64 ((zah l1 x5_1).f2)]] (by rfl) rfl rfl (by (try simp only [List.map_toArray, List.map_cons, List.map_nil]); first | done | rfl | (simp only [List.length_drop, List.length_take]; rfl)) ?_
                with_reducible refine (laws_eqRegOp.calls ((zah l0 x5_1).f0) ((zah l0 x5_1).f1) ((zah l0 x5_1).f2) ((zah l1 x5_1).f0) ((zah l1 x5_1).f1) ((zah l1 x5_1).f2) true _ A7.out).mono ?_
                rintro e w10 ⟨rfl, hb⟩
                refine ⟨_, rfl, ?_⟩
                have n0_ := Aside0.mk (zad (by repeat (first | (with_reducible first | exact HB.out | apply za1 | apply za0 | apply za2) | exact HB.out)) hb)
                clear HB
                have HB := n0_
                clear n0_
                (try clear hb)
                (try clear hb2)
                (try clear hk)
                (try clear hi)
                refine hK.out _ _ ⟨((HB.out.cell (World.block_lt_of_cell? w _ hw303_0)).trans hw303_0), ((HB.out.cell (World.block_lt_of_cell? w _ hw303_1)).trans hw303_1), ((HB.out.cell (World.block_lt_of_cell? w _ hw303_2)).trans hw303_2), ((HB.out.cell (World.block_lt_of_cell? w _ hw304_0)).trans hw304_0), ((HB.out.cell (World.block_lt_of_cell? w _ hw304_1)).trans hw304_1), ((HB.out.cell (World.block_lt_of_cell? w _ hw304_2)).trans hw304_2)⟩ (fun hHeld => ?_)
                clear hK K
                refine norm_ (a' := ?_) ?_ ?_
                rotate_left
                · show Act.put _ (some 25) _ = _
                  simp only [Act.put, List.setIfInBounds_toArray, List.set_cons_zero, List.set_cons_succ, i64_w, i32_w]
                  rfl
                refine pure_ (i := 9) (N := some 26) (v := ?_) (a' := ?_) #[true, true, true, true, true, true, true, true, true, true] rfl rfl (any_of HT_.out (by kernel_rfl)) (fun _ _ _ h => h) (Or.inl ⟨by rfl, ?_⟩) ?_ ?_
                rotate_left
                · intro w'
                  go_simp
                  with_reducible rfl
                rotate_left
                · simp only [Act.put, List.setIfInBounds_toArray, List.set_cons_zero, List.set_cons_succ, i64_w, i32_w]
                  rfl
                refine done_ (done_of HT_.out (by kernel_rfl)) ?_
                try go_wp2
                go_roundg k1
                case measure => have := HK1.out; omega
                case rel => exact ⟨(wrap64 (x5_1 + 1)), (by first | rfl | (simp; done) | (simp [*]; done)), H', ⟨by have := HK1.out; omega⟩, ⟨by repeat (first | (with_reducible first | exact HB.out | apply za1 | apply za0 | apply za2) | exact HB.out)⟩⟩
              · replace c8 := Bool.eq_false_iff.mpr c8
                subst c8
                have H1 : (some false) = some r := by rw [if_neg (show ¬ (false = true) by decide)] at H; exact H
                clear H
                have H := H1
                clear H1
                obtain rfl := Option.some.inj H
                try go_wp2
                have n0_ := Aside0.mk (za2 HB.out)
                clear HB
                have HB := n0_
                clear n0_
                have p303 : 0 ≤ (x5_1 : Int) := of_decide_eq_true (by first | (with_reducible assumption) | assumption)
                have q303 : x5_1 < (l0.length : Int) := of_decide_eq_true (by first | (with_reducible assumption) | assumption)
                obtain ⟨ad303, e303, hx303_0, hx303_1, hx303_2⟩ := at_T80 HR0.out x5_1 p303 q303
                have hw303_2 := hx303_2
                have hw303_1 := hx303_1
                have hw303_0 := hx303_0
                cases e303
                replace hx303_0 := (HB.out.cell (World.block_lt_of_cell? w _ hx303_0)).trans hx303_0
                replace hx303_1 := (HB.out.cell (World.block_lt_of_cell? w _ hx303_1)).trans hx303_1
                replace hx303_2 := (HB.out.cell (World.block_lt_of_cell? w _ hx303_2)).trans hx303_2
                replace p303 := eq_true p303
                replace q303 := eq_true q303
                have p304 : 0 ≤ (x5_1 : Int) := of_decide_eq_true (by first | (with_reducible assumption) | assumption)
                have q304 : x5_1 < (l1.length : Int) := of_decide_eq_true (by first | (with_reducible assumption) | assumption)
                obtain ⟨ad304, e304, hx304_0, hx304_1, hx304_2⟩ := at_T80 HR1.out x5_1 p304 q304
                have hw304_2 := hx304_2
                have hw304_1 := hx304_1
                have hw304_0 := hx304_0
                cases e304
                replace hx304_0 := (HB.out.cell (World.block_lt_of_cell? w _ hx304_0)).trans hx304_0
                replace hx304_1 := (HB.out.cell (World.block_lt_of_cell? w _ hx304_1)).trans hx304_1
                replace hx304_2 := (HB.out.cell (World.block_lt_of_cell? w _ hx304_2)).trans hx304_2
                replace p304 := eq_true p304
                replace q304 := eq_true q304
                refine start_ (n := 10) (S := fun w' => w'.cell? (ad303.add ((x5_1).toNat * 3)) = some (.int .i64 ((zah l0 x5_1).f0)) ∧ w'.cell? ⟨(ad303.add ((x5_1).toNat * 3)).block, (ad303.add ((x5_1).toNat * 3)).off + 1, none⟩ = some (.int .i64 ((zah l0 x5_1).f1)) ∧ w'.cell? ⟨(ad303.add ((x5_1).toNat * 3)).block, (ad303.add ((x5_1).toNat * 3)).off + 2, none⟩ = some (.int .i64 ((zah l0 x5_1).f2)) ∧ w'.cell? (ad304.add ((x5_1).toNat * 3)) = some (.int .i64 ((zah l1 x5_1).f0)) ∧ w'.cell? ⟨(ad304.add ((x5_1).toNat * 3)).block, (ad304.add ((x5_1).toNat * 3)).off + 1, none⟩ = some (.int .i64 ((zah l1 x5_1).f1)) ∧ w'.cell? ⟨(ad304.add ((x5_1).toNat * 3)).block, (ad304.add ((x5_1).toNat * 3)).off + 2, none⟩ = some (.int .i64 ((zah l1 x5_1).f2))) (ds := []) #[false, false, false, false, false, false, false, false, false, false] (by kernel_rfl) rfl rfl ⟨((HB.out.cell (World.block_lt_of_cell? w _ hw303_0)).trans hw303_0), ((HB.out.cell (World.block_lt_of_cell? w _ hw303_1)).trans hw303_1), ((HB.out.cell (World.block_lt_of_cell? w _ hw303_2)).trans hw303_2), ((HB.out.cell (World.block_lt_of_cell? w _ hw304_0)).trans hw304_0), ((HB.out.cell (World.block_lt_of_cell? w _ hw304_1)).trans hw304_1), ((HB.out.cell (World.block_lt_of_cell? w _ hw304_2)).trans hw304_2)⟩ (fun hHeld => ?_); refine with_tabW laws_eqRegOpS.tab6 laws_eqRegOpS.bits6 (fun HT_ HW_ => ?_)
                generalize wr.drew = w11 at HB hx303_0 hx303_1 hx303_2 hx304_0 hx304_1 hx304_2 hHeld ⊢
                refine pure_ (i := 0) (N := some 17) (v := ?_) (a' := ?_) #[true, false, false, false, false, false, false, false, false, false] rfl rfl (any_of HT_.out (by kernel_rfl)) (fun _ _ _ h => h) (Or.inl ⟨by rfl, ?_⟩) ?_ ?_
                rotate_left
                · intro w'
                  go_simp
                  with_reducible rfl
                rotate_left
                · simp only [Act.put, List.setIfInBounds_toArray, List.set_cons_zero, List.set_cons_succ, i64_w, i32_w]
                  rfl
                refine pure_ (i := 1) (N := some 18) (v := ?_) (a' := ?_) #[true, true, false, false, false, false, false, false, false, false] rfl rfl (any_of HT_.out (by kernel_rfl)) (fun _ _ _ h => h) (Or.inl ⟨by rfl, ?_⟩) ?_ ?_
                rotate_left
                · intro w'
                  go_simp
                  with_reducible rfl
                rotate_left
                · simp only [Act.put, List.setIfInBounds_toArray, List.set_cons_zero, List.set_cons_succ, i64_w, i32_w]
                  rfl
                refine pure_ (i := 2) (N := some 19) (v := ?_) (a' := ?_) #[true, true, true, false, false, false, false, false, false, false] rfl rfl (any_of HT_.out (by kernel_rfl)) (fun _ _ _ h => h) (Or.inl ⟨by rfl, ?_⟩) ?_ ?_
                rotate_left
                · intro w'
                  go_simp
                  with_reducible rfl
                rotate_left
                · simp only [Act.put, List.setIfInBounds_toArray, List.set_cons_zero, List.set_cons_succ, i64_w, i32_w]
                  rfl
                refine pure_ (i := 4) (N := some 21) (v := ?_) (a' := ?_) #[true, true, true, false, true, false, false, false, false, false] rfl rfl (any_of HT_.out (by kernel_rfl)) (fun _ _ _ h => h) (Or.inl ⟨by rfl, ?_⟩) ?_ ?_
                rotate_left
                · intro w'
                  go_simp
                  with_reducible rfl
                rotate_left
                · simp only [Act.put, List.setIfInBounds_toArray, List.set_cons_zero, List.set_cons_succ, i64_w, i32_w]
                  rfl
                refine pure_ (i := 5) (N := some 22) (v := ?_) (a' := ?_) #[true, true, true, false, true, true, false, false, false, false] rfl rfl (any_of HT_.out (by kernel_rfl)) (fun _ _ _ h => h) (Or.inl ⟨by rfl, ?_⟩) ?_ ?_
                rotate_left
                · intro w'
                  go_simp
                  with_reducible rfl
                rotate_left
                · simp only [Act.put, List.setIfInBounds_toArray, List.set_cons_zero, List.set_cons_succ, i64_w, i32_w]
                  rfl
                refine pure_ (i := 6) (N := some 23) (v := ?_) (a' := ?_) #[true, true, true, false, true, true, true, false, false, false] rfl rfl (any_of HT_.out (by kernel_rfl)) (fun _ _ _ h => h) (Or.inl ⟨by rfl, ?_⟩) ?_ ?_
                rotate_left
                · intro w'
                  go_simp
                  with_reducible rfl
                rotate_left
                · simp only [Act.put, List.setIfInBounds_toArray, List.set_cons_zero, List.set_cons_succ, i64_w, i32_w]
                  rfl
                refine take_ (i := 3) (N := some 20) (v := ?_) (a' := ?_) #[true, true, true, true, true, true, true, false, false, false] rfl rfl (take_ofW HT_.out HW_.out (by kernel_rfl)) (fun _ _ _ h => h) (Or.inl ⟨by rfl, ?_⟩) hHeld ?_ ?_
                rotate_left
                · rintro w' ⟨s0, s1, s2, s3, s4, s5⟩
                  go_simp
                  with_reducible rfl
                rotate_left
                · simp only [Act.put, List.setIfInBounds_toArray, List.set_cons_zero, List.set_cons_succ, i64_w, i32_w]
                  rfl
                refine take_ (i := 7) (N := some 24) (v := ?_) (a' := ?_) #[true, true, true, true, true, true, true, true, false, false] rfl rfl (take_ofW HT_.out HW_.out (by kernel_rfl)) (fun _ _ _ h => h) (Or.inl ⟨by rfl, ?_⟩) hHeld ?_ ?_
                rotate_left
                · rintro w' ⟨s0, s1, s2, s3, s4, s5⟩
                  go_simp
                  with_reducible rfl
                rotate_left
                · simp only [Act.put, List.setIfInBounds_toArray, List.set_cons_zero, List.set_cons_succ, i64_w, i32_w]
                  rfl
                refine one_ (i := 8) (N := some 25) #[true, true, true, true, true, true, true, true, true, false] rfl rfl (one_of HT_.out (by kernel_rfl)) (by decide) (fun K hK => ?_)
                refine goes_ Try.func127 (by kernel_rfl) rfl #[.agg #[.int .i64 ((zah l0 x5_1).f0), .int .i64 ((zah l0 x5_1).f1), .int .i64 ((zah l0 x5_1).f2)], .agg #[.int .i64 ((zah l1 x5_1).f0), .int .i64 ((zah l1 x5_1).f1), .int .i64 ((zah l1 x5_1).f2)]] (by rfl) rfl rfl (by (try simp only [List.map_toArray, List.map_cons, List.map_nil]); first | done | rfl | (simp only [List.length_drop, List.length_take]; rfl)) ?_
                with_reducible refine (laws_eqRegOp.calls ((zah l0 x5_1).f0) ((zah l0 x5_1).f1) ((zah l0 x5_1).f2) ((zah l1 x5_1).f0) ((zah l1 x5_1).f1) ((zah l1 x5_1).f2) false _ A7.out).mono ?_
                rintro e w12 ⟨rfl, hb⟩
                refine ⟨_, rfl, ?_⟩
                have n0_ := Aside0.mk (zad (by repeat (first | (with_reducible first | exact HB.out | apply za1 | apply za0 | apply za2) | exact HB.out)) hb)
                clear HB
                have HB := n0_
                clear n0_
                (try clear hb)
                (try clear hb2)
                (try clear hk)
                (try clear hi)
                refine hK.out _ _ ⟨((HB.out.cell (World.block_lt_of_cell? w _ hw303_0)).trans hw303_0), ((HB.out.cell (World.block_lt_of_cell? w _ hw303_1)).trans hw303_1), ((HB.out.cell (World.block_lt_of_cell? w _ hw303_2)).trans hw303_2), ((HB.out.cell (World.block_lt_of_cell? w _ hw304_0)).trans hw304_0), ((HB.out.cell (World.block_lt_of_cell? w _ hw304_1)).trans hw304_1), ((HB.out.cell (World.block_lt_of_cell? w _ hw304_2)).trans hw304_2)⟩ (fun hHeld => ?_)
                clear hK K
                refine norm_ (a' := ?_) ?_ ?_
                rotate_left
                · show Act.put _ (some 25) _ = _
                  simp only [Act.put, List.setIfInBounds_toArray, List.set_cons_zero, List.set_cons_succ, i64_w, i32_w]
                  rfl
                refine pure_ (i := 9) (N := some 26) (v := ?_) (a' := ?_) #[true, true, true, true, true, true, true, true, true, true] rfl rfl (any_of HT_.out (by kernel_rfl)) (fun _ _ _ h => h) (Or.inl ⟨by rfl, ?_⟩) ?_ ?_
                rotate_left
                · intro w'
                  go_simp
                  with_reducible rfl
                rotate_left
                · simp only [Act.put, List.setIfInBounds_toArray, List.set_cons_zero, List.set_cons_succ, i64_w, i32_w]
                  rfl
                refine done_ (done_of HT_.out (by kernel_rfl)) ?_
                try go_wp2
                go_ret
                exact ⟨by first | rfl | (simp [zai, zaj] <;> rfl) | (simp [*, zai, zaj] <;> rfl), by repeat (first | (with_reducible first | exact HB.out | apply za1 | apply za0 | apply za2) | exact HB.out)⟩
            · rw [if_neg c6] at H
              exact absurd H (by simp)
          · rw [if_neg c5] at H
            exact absurd H (by simp)
        · rw [if_neg c4] at H
          have c4b0 : decide (x5_1 < (l0.length : Int)) = false := decide_eq_false c4
          clear c4
          obtain rfl := Option.some.inj H
          go_wp2
          go_ret
          exact ⟨by first | rfl | (simp [zai, zaj] <;> rfl) | (simp [*, zai, zaj] <;> rfl), by repeat (first | (with_reducible first | exact HB.out | apply za1 | apply za0 | apply za2) | exact HB.out)⟩
  · rw [if_neg c3] at H
    have c3b0 : ((l0.length : Int) == (l1.length : Int)) = false := beq_eq_false_iff_ne.mpr c3
    have c3b1 : ((l0.length : Int) != (l1.length : Int)) = true := bne_iff_ne.mpr c3
    have c3b2 : (l0.length == l1.length) = false := by first | simpa using c3 | (simp at c3 ⊢; omega)
    obtain rfl := Option.some.inj H
    go_enter Try.func61, Try.ntmps61
    go_wp2
    go_ret
    exact ⟨by first | rfl | (simp [zai, zaj] <;> rfl) | (simp [*, zai, zaj] <;> rfl), by repeat (first | (with_reducible first | exact HB.out | apply za1 | apply za0 | apply za2) | exact HB.out)⟩

/-! ### laws_eqRegCode: function 20 -/
def laws_eqRegCode.f (k : Nat) (a0_0 : Int) (l0_1 : List Int) (l0_2 : List (S80)) (l0_3 : List Int) (a1_0 : Int) (l1_1 : List Int) (l1_2 : List (S80)) (l1_3 : List Int) : Option (Bool) := if a0_0 = a1_0 then ((laws_eqIntS.f k l0_1 l1_1).bind fun t308 => (if t308 = true then ((laws_eqRegOpS.f k l0_2 l1_2).bind fun t309 => (if t309 = true then ((laws_eqIntS.f k l0_3 l1_3).bind fun t310 => (if t310 = true then (some true) else (some false))) else (some false))) else (some false))) else (some false)
theorem laws_eqRegCode.mono : ∀ a0 a1 a2 a3 a4 a5 a6 a7 k, LeO (laws_eqRegCode.f k a0 a1 a2 a3 a4 a5 a6 a7) (laws_eqRegCode.f (k + 1) a0 a1 a2 a3 a4 a5 a6 a7) := by
  intro a0 a1 a2 a3 a4 a5 a6 a7 k
  unfold laws_eqRegCode.f
  repeat' first
      | (with_reducible exact laws_eqIntS.mono _ _ _)
      | (with_reducible exact laws_eqRegOpS.mono _ _ _)
      | (with_reducible exact LeO.refl _)
      | (with_reducible exact LeO.none _)
      | (with_reducible refine LeO.ite ?_ ?_)
      | (with_reducible refine LeO.bind ?_ (fun _ => ?_))
      | exact laws_eqIntS.mono _ _ _
      | exact laws_eqRegOpS.mono _ _ _
      | exact LeO.none _
      | refine LeO.ite ?_ ?_
      | refine LeO.bind ?_ (fun _ => ?_)
set_option maxHeartbeats 8000000 in
set_option maxRecDepth 100000 in
theorem laws_eqRegCode.calls (k : Nat) (a0_0 : Int) (A0_1 : Option Addr) (c0_1 : Nat) (l0_1 : List Int) (A0_2 : Option Addr) (c0_2 : Nat) (l0_2 : List (S80)) (A0_3 : Option Addr) (c0_3 : Nat) (l0_3 : List Int) (a1_0 : Int) (A1_1 : Option Addr) (c1_1 : Nat) (l1_1 : List Int) (A1_2 : Option Addr) (c1_2 : Nat) (l1_2 : List (S80)) (A1_3 : Option Addr) (c1_3 : Nat) (l1_3 : List Int) (r : Bool) (w : World) (hr0_1 : Kd.C (Kd.int .i64) w A0_1 l0_1.length l0_1) (hc0_1 : l0_1.length ≤ c0_1) (hr0_2 : Kd.C k80 w A0_2 l0_2.length l0_2) (hc0_2 : l0_2.length ≤ c0_2) (hr0_3 : Kd.C (Kd.int .i64) w A0_3 l0_3.length l0_3) (hc0_3 : l0_3.length ≤ c0_3) (hr1_1 : Kd.C (Kd.int .i64) w A1_1 l1_1.length l1_1) (hc1_1 : l1_1.length ≤ c1_1) (hr1_2 : Kd.C k80 w A1_2 l1_2.length l1_2) (hc1_2 : l1_2.length ≤ c1_2) (hr1_3 : Kd.C (Kd.int .i64) w A1_3 l1_3.length l1_3) (hc1_3 : l1_3.length ≤ c1_3) (h : laws_eqRegCode.f k a0_0 l0_1 l0_2 l0_3 a1_0 l1_1 l1_2 l1_3 = some r) :
    Calls Try.prog 20 #[.agg #[.int .i64 a0_0, .slice A0_1 l0_1.length c0_1, .slice A0_2 l0_2.length c0_2, .slice A0_3 l0_3.length c0_3], .agg #[.int .i64 a1_0, .slice A1_1 l1_1.length c1_1, .slice A1_2 l1_2.length c1_2, .slice A1_3 l1_3.length c1_3]] w fun e w' => e = .returned (.bool r) ∧ Below w.heap.size w w' := by
  have hu30 := Try.underlying30
  have HR0_1 := Aside0.mk hr0_1
  have HC0_1 := Aside0.mk hc0_1
  clear hr0_1 hc0_1
  have HR0_2 := Aside0.mk hr0_2
  have HC0_2 := Aside0.mk hc0_2
  clear hr0_2 hc0_2
  have HR0_3 := Aside0.mk hr0_3
  have HC0_3 := Aside0.mk hc0_3
  clear hr0_3 hc0_3
  have HR1_1 := Aside0.mk hr1_1
  have HC1_1 := Aside0.mk hc1_1
  clear hr1_1 hc1_1
  have HR1_2 := Aside0.mk hr1_2
  have HC1_2 := Aside0.mk hc1_2
  clear hr1_2 hc1_2
  have HR1_3 := Aside0.mk hr1_3
  have HC1_3 := Aside0.mk hc1_3
  clear hr1_3 hc1_3
  have HB := Aside0.mk (Below.refl w.heap.size w)
  have H : (if a0_0 = a1_0 then ((laws_eqIntS.f k l0_1 l1_1).bind fun t308 => (if t308 = true then ((laws_eqRegOpS.f k l0_2 l1_2).bind fun t309 => (if t309 = true then ((laws_eqIntS.f k l0_3 l1_3).bind fun t310 => (if t310 = true then (some true) else (some false))) else (some false))) else (some false))) else (some false)) = some r := h
  clear h
  by_cases c3 : a0_0 = a1_0
  · rw [if_pos c3] at H
    have c3b0 : (a0_0 == a1_0) = true := beq_iff_eq.mpr c3
    have c3b1 : (a0_0 != a1_0) = false := bne_eq_false_iff_eq.mpr c3
    clear c3
    replace H := Option.bind_eq_some_iff.mp H
    obtain ⟨t308, A40, H⟩ := H
    replace H : (if t308 = true then ((laws_eqRegOpS.f k l0_2 l1_2).bind fun t309 => (if t309 = true then ((laws_eqIntS.f k l0_3 l1_3).bind fun t310 => (if t310 = true then (some true) else (some false))) else (some false))) else (some false)) = some r := H
    have A4 := Aside0.mk A40
    clear A40
    by_cases c5 : t308 = true
    · subst c5
      have H1 : ((laws_eqRegOpS.f k l0_2 l1_2).bind fun t309 => (if t309 = true then ((laws_eqIntS.f k l0_3 l1_3).bind fun t310 => (if t310 = true then (some true) else (some false))) else (some false))) = some r := by rw [if_pos rfl] at H; exact H
      clear H
      have H := H1
      clear H1
      replace H := Option.bind_eq_some_iff.mp H
      obtain ⟨t309, A60, H⟩ := H
      replace H : (if t309 = true then ((laws_eqIntS.f k l0_3 l1_3).bind fun t310 => (if t310 = true then (some true) else (some false))) else (some false)) = some r := H
      have A6 := Aside0.mk A60
      clear A60
      by_cases c7 : t309 = true
      · subst c7
        have H1 : ((laws_eqIntS.f k l0_3 l1_3).bind fun t310 => (if t310 = true then (some true) else (some false))) = some r := by rw [if_pos rfl] at H; exact H
        clear H
        have H := H1
        clear H1
        replace H := Option.bind_eq_some_iff.mp H
        obtain ⟨t310, A80, H⟩ := H
        replace H : (if t310 = true then (some true) else (some false)) = some r := H
        have A8 := Aside0.mk A80
        clear A80
        by_cases c9 : t310 = true
        · subst c9
          have H1 : (some true) = some r := by rw [if_pos rfl] at H; exact H
          clear H
          have H := H1
          clear H1
          obtain rfl := Option.some.inj H
          go_enter Try.func20, Try.ntmps20
          go_wp2_with (first | ((with_reducible refine zar (N := 2) rfl ?_); refine zaq ?hg (N := 2) ?hd (cs := #[.int .i64 a0_0, .slice A0_1 l0_1.length c0_1, .slice A0_2 l0_2.length c0_2, .slice A0_3 l0_3.length c0_3]) (t := 30) ?hr ?_; (case hd => rfl); (case hg => rfl); (case hr => first | (go_simp; done) | (go_simp; rfl)); intro gb306 hg w10 hbox hb; have n0_ := Aside0.mk (zad (by repeat (first | (with_reducible first | exact HB.out | apply za1 | apply za0 | apply za2) | exact HB.out)) hb); have n1_ := Aside0.mk (hbox); have n2_ := Aside0.mk ((by rw [hg]; exact (za9 (by repeat (first | (with_reducible first | exact HB.out | apply za1 | apply za0 | apply za2) | exact HB.out))) : w.heap.size ≤ gb306)); have n3_ := Aside0.mk ((by rw [hg]; exact (za9 (by repeat (first | (with_reducible first | exact HB.out | apply za1 | apply za0 | apply za2) | exact HB.out))) : w.heap.size ≤ gb306)); clear HB; have HB := n0_; have BK306 := n1_; have GW306 := n2_; have GE306 := n3_; clear n0_ n1_ n2_ n3_; clear hb hbox hg) | ((with_reducible refine zar (N := 3) rfl ?_); refine zaq ?hg (N := 3) ?hd (cs := #[.int .i64 a1_0, .slice A1_1 l1_1.length c1_1, .slice A1_2 l1_2.length c1_2, .slice A1_3 l1_3.length c1_3]) (t := 30) ?hr ?_; (case hd => rfl); (case hg => rfl); (case hr => first | (go_simp; done) | (go_simp; rfl)); intro gb307 hg w11 hbox hb; have n0_ := Aside0.mk (zaa (g := gb306) (o := .cells #[.int .i64 a0_0, .slice A0_1 l0_1.length c0_1, .slice A0_2 l0_2.length c0_2, .slice A0_3 l0_3.length c0_3] 30 (0, 0)) (by (with_reducible repeat (first | refine za7 ?_ _ | refine za8 ?_ | refine za6 ?_ _)); exact BK306.out) hb); have n1_ := Aside0.mk (zad (by repeat (first | (with_reducible first | exact HB.out | apply za1 | apply za0 | apply za2 | refine za5 ?_ GE306.out) | exact HB.out)) hb); have n2_ := Aside0.mk (hbox); have n3_ := Aside0.mk ((by rw [hg]; exact (za9 (by repeat (first | (with_reducible first | exact HB.out | apply za1 | apply za0 | apply za2 | refine za5 ?_ GE306.out) | exact HB.out))) : w.heap.size ≤ gb307)); have n4_ := Aside0.mk ((by rw [hg]; exact (za9 (by repeat (first | (with_reducible first | exact HB.out | apply za1 | apply za0 | apply za2 | refine za5 ?_ GE306.out) | exact HB.out))) : w.heap.size ≤ gb307)); have n5_ := Aside0.mk ((by rw [hg]; exact Nat.ne_of_lt (zax (g := gb306) (o := .cells #[.int .i64 a0_0, .slice A0_1 l0_1.length c0_1, .slice A0_2 l0_2.length c0_2, .slice A0_3 l0_3.length c0_3] 30 (0, 0)) (by (with_reducible repeat (first | refine za7 ?_ _ | refine za8 ?_ | refine za6 ?_ _)); exact BK306.out)) : gb306 ≠ gb307)); have n6_ := Aside0.mk ((by rw [hg]; exact Nat.ne_of_gt (zax (g := gb306) (o := .cells #[.int .i64 a0_0, .slice A0_1 l0_1.length c0_1, .slice A0_2 l0_2.length c0_2, .slice A0_3 l0_3.length c0_3] 30 (0, 0)) (by (with_reducible repeat (first | refine za7 ?_ _ | refine za8 ?_ | refine za6 ?_ _)); exact BK306.out)) : gb307 ≠ gb306)); clear BK306; clear HB; have BK306 := n0_; have HB := n1_; have BK307 := n2_; have GW307 := n3_; have GE307 := n4_; have NB306_307 := n5_; have NB307_306 := n6_; clear n0_ n1_ n2_ n3_ n4_ n5_ n6_; clear hb hbox hg; have hnb12 := NB306_307.out; have hnc12 := NB307_306.out; have hcz13_0 : w11.cell? ⟨gb306, 0, none⟩ = some (.int .i64 a0_0) := (za4 BK306.out 0).trans rfl; have hcz13_1 : w11.cell? ⟨gb306, 1, none⟩ = some (.slice A0_1 l0_1.length c0_1) := (za4 BK306.out 1).trans rfl; have hcz13_2 : w11.cell? ⟨gb306, 2, none⟩ = some (.slice A0_2 l0_2.length c0_2) := (za4 BK306.out 2).trans rfl; have hcz13_3 : w11.cell? ⟨gb306, 3, none⟩ = some (.slice A0_3 l0_3.length c0_3) := (za4 BK306.out 3).trans rfl; have hfz13_0 := za3 BK306.out 0; have hfz13_1 := za3 BK306.out 1; have hfz13_2 := za3 BK306.out 2; have hfz13_3 := za3 BK306.out 3; have hcz14_0 : w11.cell? ⟨gb307, 0, none⟩ = some (.int .i64 a1_0) := (za4 BK307.out 0).trans rfl; have hcz14_1 : w11.cell? ⟨gb307, 1, none⟩ = some (.slice A1_1 l1_1.length c1_1) := (za4 BK307.out 1).trans rfl; have hcz14_2 : w11.cell? ⟨gb307, 2, none⟩ = some (.slice A1_2 l1_2.length c1_2) := (za4 BK307.out 2).trans rfl; have hcz14_3 : w11.cell? ⟨gb307, 3, none⟩ = some (.slice A1_3 l1_3.length c1_3) := (za4 BK307.out 3).trans rfl; have hfz14_0 := za3 BK307.out 0; have hfz14_1 := za3 BK307.out 1; have hfz14_2 := za3 BK307.out 2; have hfz14_3 := za3 BK307.out 3) | ((with_reducible refine zal (f := 30) rfl ?_); refine zb1 (some 14) rfl rfl Try.func30 (by kernel_rfl) rfl #[.slice A0_1 l0_1.length c0_1, .slice A1_1 l1_1.length c1_1] rfl (by (try simp only [List.map_toArray, List.map_cons, List.map_nil]); first | done | rfl | (simp only [List.length_drop, List.length_take]; rfl)) ?_; (with_reducible refine (laws_eqIntS.calls k _ _ l0_1 _ _ l1_1 true _ ?side1 ?side2 ?side3 ?side4 A4.out).mono ?_); (case side1 => repeat (first | exact (Kd.zao HR0_1.out HB.out) | (with_reducible refine Kd.zan ?_ _) | (with_reducible refine Kd.zam ?_ _) | (with_reducible refine Kd.zas ?_))); (case side2 => exact HC0_1.out); (case side3 => repeat (first | exact (Kd.zao HR1_1.out HB.out) | (with_reducible refine Kd.zan ?_ _) | (with_reducible refine Kd.zam ?_ _) | (with_reducible refine Kd.zas ?_))); (case side4 => exact HC1_1.out); rintro e w' ⟨rfl, ⟨nd, rfl⟩⟩; refine ⟨_, rfl, ?_⟩) | ((with_reducible refine zal (f := 61) rfl ?_); refine zb1 (some 20) rfl rfl Try.func61 (by kernel_rfl) rfl #[.slice A0_2 l0_2.length c0_2, .slice A1_2 l1_2.length c1_2] rfl (by (try simp only [List.map_toArray, List.map_cons, List.map_nil]); first | done | rfl | (simp only [List.length_drop, List.length_take]; rfl)) ?_; (with_reducible refine (laws_eqRegOpS.calls k _ _ l0_2 _ _ l1_2 true _ ?side1 ?side2 ?side3 ?side4 A6.out).mono ?_); (case side1 => repeat (first | exact (Kd.zao HR0_2.out (by repeat (first | (with_reducible first | exact HB.out | apply za1 | apply za0 | apply za2 | refine za5 ?_ GE306.out | refine za5 ?_ GE307.out) | exact HB.out))) | (with_reducible refine Kd.zan ?_ _) | (with_reducible refine Kd.zam ?_ _) | (with_reducible refine Kd.zas ?_))); (case side2 => exact HC0_2.out); (case side3 => repeat (first | exact (Kd.zao HR1_2.out (by repeat (first | (with_reducible first | exact HB.out | apply za1 | apply za0 | apply za2 | refine za5 ?_ GE306.out | refine za5 ?_ GE307.out) | exact HB.out))) | (with_reducible refine Kd.zan ?_ _) | (with_reducible refine Kd.zam ?_ _) | (with_reducible refine Kd.zas ?_))); (case side4 => exact HC1_2.out); rintro e w15 ⟨rfl, hb⟩; refine ⟨_, rfl, ?_⟩; have n0_ := Aside0.mk (zaa (g := gb306) (o := .cells #[.int .i64 a0_0, .slice A0_1 l0_1.length c0_1, .slice A0_2 l0_2.length c0_2, .slice A0_3 l0_3.length c0_3] 30 (0, 0)) (by (with_reducible repeat (first | refine za7 ?_ _ | refine za8 ?_ | refine za6 ?_ _)); exact BK306.out) hb); have n1_ := Aside0.mk (zaa (g := gb307) (o := .cells #[.int .i64 a1_0, .slice A1_1 l1_1.length c1_1, .slice A1_2 l1_2.length c1_2, .slice A1_3 l1_3.length c1_3] 30 (0, 0)) (by (with_reducible repeat (first | refine za7 ?_ _ | refine za8 ?_ | refine za6 ?_ _)); exact BK307.out) hb); have n2_ := Aside0.mk (zad (by repeat (first | (with_reducible first | exact HB.out | apply za1 | apply za0 | apply za2 | refine za5 ?_ GE306.out | refine za5 ?_ GE307.out) | exact HB.out)) hb); clear BK306; clear BK307; clear HB; have BK306 := n0_; have BK307 := n1_; have HB := n2_; clear n0_ n1_ n2_; (try clear hb); (try clear hb2); (try clear hk); (try clear hi); have hcz16_0 : w15.cell? ⟨gb306, 0, none⟩ = some (.int .i64 a0_0) := (za4 BK306.out 0).trans rfl; have hcz16_1 : w15.cell? ⟨gb306, 1, none⟩ = some (.slice A0_1 l0_1.length c0_1) := (za4 BK306.out 1).trans rfl; have hcz16_2 : w15.cell? ⟨gb306, 2, none⟩ = some (.slice A0_2 l0_2.length c0_2) := (za4 BK306.out 2).trans rfl; have hcz16_3 : w15.cell? ⟨gb306, 3, none⟩ = some (.slice A0_3 l0_3.length c0_3) := (za4 BK306.out 3).trans rfl; have hfz16_0 := za3 BK306.out 0; have hfz16_1 := za3 BK306.out 1; have hfz16_2 := za3 BK306.out 2; have hfz16_3 := za3 BK306.out 3; have hcz17_0 : w15.cell? ⟨gb307, 0, none⟩ = some (.int .i64 a1_0) := (za4 BK307.out 0).trans rfl; have hcz17_1 : w15.cell? ⟨gb307, 1, none⟩ = some (.slice A1_1 l1_1.length c1_1) := (za4 BK307.out 1).trans rfl; have hcz17_2 : w15.cell? ⟨gb307, 2, none⟩ = some (.slice A1_2 l1_2.length c1_2) := (za4 BK307.out 2).trans rfl; have hcz17_3 : w15.cell? ⟨gb307, 3, none⟩ = some (.slice A1_3 l1_3.length c1_3) := (za4 BK307.out 3).trans rfl; have hfz17_0 := za3 BK307.out 0; have hfz17_1 := za3 BK307.out 1; have hfz17_2 := za3 BK307.out 2; have hfz17_3 := za3 BK307.out 3) | ((with_reducible refine zal (f := 30) rfl ?_); refine zb1 (some 26) rfl rfl Try.func30 (by kernel_rfl) rfl #[.slice A0_3 l0_3.length c0_3, .slice A1_3 l1_3.length c1_3] rfl (by (try simp only [List.map_toArray, List.map_cons, List.map_nil]); first | done | rfl | (simp only [List.length_drop, List.length_take]; rfl)) ?_; (with_reducible refine (laws_eqIntS.calls k _ _ l0_3 _ _ l1_3 true _ ?side1 ?side2 ?side3 ?side4 A8.out).mono ?_); (case side1 => repeat (first | exact (Kd.zao HR0_3.out HB.out) | (with_reducible refine Kd.zan ?_ _) | (with_reducible refine Kd.zam ?_ _) | (with_reducible refine Kd.zas ?_))); (case side2 => exact HC0_3.out); (case side3 => repeat (first | exact (Kd.zao HR1_3.out HB.out) | (with_reducible refine Kd.zan ?_ _) | (with_reducible refine Kd.zam ?_ _) | (with_reducible refine Kd.zas ?_))); (case side4 => exact HC1_3.out); rintro e w' ⟨rfl, ⟨nd, rfl⟩⟩; refine ⟨_, rfl, ?_⟩))
          go_ret
          exact ⟨by first | rfl | (simp [zai, zaj] <;> rfl) | (simp [*, zai, zaj] <;> rfl), by repeat (first | (with_reducible first | exact HB.out | apply za1 | apply za0 | apply za2 | refine za5 ?_ GE306.out | refine za5 ?_ GE307.out) | exact HB.out)⟩
        · replace c9 := Bool.eq_false_iff.mpr c9
          subst c9
          have H1 : (some false) = some r := by rw [if_neg (show ¬ (false = true) by decide)] at H; exact H
          clear H
          have H := H1
          clear H1
          obtain rfl := Option.some.inj H
          go_enter Try.func20, Try.ntmps20
          go_wp2_with (first | ((with_reducible refine zar (N := 2) rfl ?_); refine zaq ?hg (N := 2) ?hd (cs := #[.int .i64 a0_0, .slice A0_1 l0_1.length c0_1, .slice A0_2 l0_2.length c0_2, .slice A0_3 l0_3.length c0_3]) (t := 30) ?hr ?_; (case hd => rfl); (case hg => rfl); (case hr => first | (go_simp; done) | (go_simp; rfl)); intro gb306 hg w18 hbox hb; have n0_ := Aside0.mk (zad (by repeat (first | (with_reducible first | exact HB.out | apply za1 | apply za0 | apply za2) | exact HB.out)) hb); have n1_ := Aside0.mk (hbox); have n2_ := Aside0.mk ((by rw [hg]; exact (za9 (by repeat (first | (with_reducible first | exact HB.out | apply za1 | apply za0 | apply za2) | exact HB.out))) : w.heap.size ≤ gb306)); have n3_ := Aside0.mk ((by rw [hg]; exact (za9 (by repeat (first | (with_reducible first | exact HB.out | apply za1 | apply za0 | apply za2) | exact HB.out))) : w.heap.size ≤ gb306)); clear HB; have HB := n0_; have BK306 := n1_; have GW306 := n2_; have GE306 := n3_; clear n0_ n1_ n2_ n3_; clear hb hbox hg) | ((with_reducible refine zar (N := 3) rfl ?_); refine zaq ?hg (N := 3) ?hd (cs := #[.int .i64 a1_0, .slice A1_1 l1_1.length c1_1, .slice A1_2 l1_2.length c1_2, .slice A1_3 l1_3.length c1_3]) (t := 30) ?hr ?_; (case hd => rfl); (case hg => rfl); (case hr => first | (go_simp; done) | (go_simp; rfl)); intro gb307 hg w19 hbox hb; have n0_ := Aside0.mk (zaa (g := gb306) (o := .cells #[.int .i64 a0_0, .slice A0_1 l0_1.length c0_1, .slice A0_2 l0_2.length c0_2, .slice A0_3 l0_3.length c0_3] 30 (0, 0)) (by (with_reducible repeat (first | refine za7 ?_ _ | refine za8 ?_ | refine za6 ?_ _)); exact BK306.out) hb); have n1_ := Aside0.mk (zad (by repeat (first | (with_reducible first | exact HB.out | apply za1 | apply za0 | apply za2 | refine za5 ?_ GE306.out) | exact HB.out)) hb); have n2_ := Aside0.mk (hbox); have n3_ := Aside0.mk ((by rw [hg]; exact (za9 (by repeat (first | (with_reducible first | exact HB.out | apply za1 | apply za0 | apply za2 | refine za5 ?_ GE306.out) | exact HB.out))) : w.heap.size ≤ gb307)); have n4_ := Aside0.mk ((by rw [hg]; exact (za9 (by repeat (first | (with_reducible first | exact HB.out | apply za1 | apply za0 | apply za2 | refine za5 ?_ GE306.out) | exact HB.out))) : w.heap.size ≤ gb307)); have n5_ := Aside0.mk ((by rw [hg]; exact Nat.ne_of_lt (zax (g := gb306) (o := .cells #[.int .i64 a0_0, .slice A0_1 l0_1.length c0_1, .slice A0_2 l0_2.length c0_2, .slice A0_3 l0_3.length c0_3] 30 (0, 0)) (by (with_reducible repeat (first | refine za7 ?_ _ | refine za8 ?_ | refine za6 ?_ _)); exact BK306.out)) : gb306 ≠ gb307)); have n6_ := Aside0.mk ((by rw [hg]; exact Nat.ne_of_gt (zax (g := gb306) (o := .cells #[.int .i64 a0_0, .slice A0_1 l0_1.length c0_1, .slice A0_2 l0_2.length c0_2, .slice A0_3 l0_3.length c0_3] 30 (0, 0)) (by (with_reducible repeat (first | refine za7 ?_ _ | refine za8 ?_ | refine za6 ?_ _)); exact BK306.out)) : gb307 ≠ gb306)); clear BK306; clear HB; have BK306 := n0_; have HB := n1_; have BK307 := n2_; have GW307 := n3_; have GE307 := n4_; have NB306_307 := n5_; have NB307_306 := n6_; clear n0_ n1_ n2_ n3_ n4_ n5_ n6_; clear hb hbox hg; have hnb20 := NB306_307.out; have hnc20 := NB307_306.out; have hcz21_0 : w19.cell? ⟨gb306, 0, none⟩ = some (.int .i64 a0_0) := (za4 BK306.out 0).trans rfl; have hcz21_1 : w19.cell? ⟨gb306, 1, none⟩ = some (.slice A0_1 l0_1.length c0_1) := (za4 BK306.out 1).trans rfl; have hcz21_2 : w19.cell? ⟨gb306, 2, none⟩ = some (.slice A0_2 l0_2.length c0_2) := (za4 BK306.out 2).trans rfl; have hcz21_3 : w19.cell? ⟨gb306, 3, none⟩ = some (.slice A0_3 l0_3.length c0_3) := (za4 BK306.out 3).trans rfl; have hfz21_0 := za3 BK306.out 0; have hfz21_1 := za3 BK306.out 1; have hfz21_2 := za3 BK306.out 2; have hfz21_3 := za3 BK306.out 3; have hcz22_0 : w19.cell? ⟨gb307, 0, none⟩ = some (.int .i64 a1_0) := (za4 BK307.out 0).trans rfl; have hcz22_1 : w19.cell? ⟨gb307, 1, none⟩ = some (.slice A1_1 l1_1.length c1_1) := (za4 BK307.out 1).trans rfl; have hcz22_2 : w19.cell? ⟨gb307, 2, none⟩ = some (.slice A1_2 l1_2.length c1_2) := (za4 BK307.out 2).trans rfl; have hcz22_3 : w19.cell? ⟨gb307, 3, none⟩ = some (.slice A1_3 l1_3.length c1_3) := (za4 BK307.out 3).trans rfl; have hfz22_0 := za3 BK307.out 0; have hfz22_1 := za3 BK307.out 1; have hfz22_2 := za3 BK307.out 2; have hfz22_3 := za3 BK307.out 3) | ((with_reducible refine zal (f := 30) rfl ?_); refine zb1 (some 14) rfl rfl Try.func30 (by kernel_rfl) rfl #[.slice A0_1 l0_1.length c0_1, .slice A1_1 l1_1.length c1_1] rfl (by (try simp only [List.map_toArray, List.map_cons, List.map_nil]); first | done | rfl | (simp only [List.length_drop, List.length_take]; rfl)) ?_; (with_reducible refine (laws_eqIntS.calls k _ _ l0_1 _ _ l1_1 true _ ?side1 ?side2 ?side3 ?side4 A4.out).mono ?_); (case side1 => repeat (first | exact (Kd.zao HR0_1.out HB.out) | (with_reducible refine Kd.zan ?_ _) | (with_reducible refine Kd.zam ?_ _) | (with_reducible refine Kd.zas ?_))); (case side2 => exact HC0_1.out); (case side3 => repeat (first | exact (Kd.zao HR1_1.out HB.out) | (with_reducible refine Kd.zan ?_ _) | (with_reducible refine Kd.zam ?_ _) | (with_reducible refine Kd.zas ?_))); (case side4 => exact HC1_1.out); rintro e w' ⟨rfl, ⟨nd, rfl⟩⟩; refine ⟨_, rfl, ?_⟩) | ((with_reducible refine zal (f := 61) rfl ?_); refine zb1 (some 20) rfl rfl Try.func61 (by kernel_rfl) rfl #[.slice A0_2 l0_2.length c0_2, .slice A1_2 l1_2.length c1_2] rfl (by (try simp only [List.map_toArray, List.map_cons, List.map_nil]); first | done | rfl | (simp only [List.length_drop, List.length_take]; rfl)) ?_; (with_reducible refine (laws_eqRegOpS.calls k _ _ l0_2 _ _ l1_2 true _ ?side1 ?side2 ?side3 ?side4 A6.out).mono ?_); (case side1 => repeat (first | exact (Kd.zao HR0_2.out (by repeat (first | (with_reducible first | exact HB.out | apply za1 | apply za0 | apply za2 | refine za5 ?_ GE306.out | refine za5 ?_ GE307.out) | exact HB.out))) | (with_reducible refine Kd.zan ?_ _) | (with_reducible refine Kd.zam ?_ _) | (with_reducible refine Kd.zas ?_))); (case side2 => exact HC0_2.out); (case side3 => repeat (first | exact (Kd.zao HR1_2.out (by repeat (first | (with_reducible first | exact HB.out | apply za1 | apply za0 | apply za2 | refine za5 ?_ GE306.out | refine za5 ?_ GE307.out) | exact HB.out))) | (with_reducible refine Kd.zan ?_ _) | (with_reducible refine Kd.zam ?_ _) | (with_reducible refine Kd.zas ?_))); (case side4 => exact HC1_2.out); rintro e w23 ⟨rfl, hb⟩; refine ⟨_, rfl, ?_⟩; have n0_ := Aside0.mk (zaa (g := gb306) (o := .cells #[.int .i64 a0_0, .slice A0_1 l0_1.length c0_1, .slice A0_2 l0_2.length c0_2, .slice A0_3 l0_3.length c0_3] 30 (0, 0)) (by (with_reducible repeat (first | refine za7 ?_ _ | refine za8 ?_ | refine za6 ?_ _)); exact BK306.out) hb); have n1_ := Aside0.mk (zaa (g := gb307) (o := .cells #[.int .i64 a1_0, .slice A1_1 l1_1.length c1_1, .slice A1_2 l1_2.length c1_2, .slice A1_3 l1_3.length c1_3] 30 (0, 0)) (by (with_reducible repeat (first | refine za7 ?_ _ | refine za8 ?_ | refine za6 ?_ _)); exact BK307.out) hb); have n2_ := Aside0.mk (zad (by repeat (first | (with_reducible first | exact HB.out | apply za1 | apply za0 | apply za2 | refine za5 ?_ GE306.out | refine za5 ?_ GE307.out) | exact HB.out)) hb); clear BK306; clear BK307; clear HB; have BK306 := n0_; have BK307 := n1_; have HB := n2_; clear n0_ n1_ n2_; (try clear hb); (try clear hb2); (try clear hk); (try clear hi); have hcz24_0 : w23.cell? ⟨gb306, 0, none⟩ = some (.int .i64 a0_0) := (za4 BK306.out 0).trans rfl; have hcz24_1 : w23.cell? ⟨gb306, 1, none⟩ = some (.slice A0_1 l0_1.length c0_1) := (za4 BK306.out 1).trans rfl; have hcz24_2 : w23.cell? ⟨gb306, 2, none⟩ = some (.slice A0_2 l0_2.length c0_2) := (za4 BK306.out 2).trans rfl; have hcz24_3 : w23.cell? ⟨gb306, 3, none⟩ = some (.slice A0_3 l0_3.length c0_3) := (za4 BK306.out 3).trans rfl; have hfz24_0 := za3 BK306.out 0; have hfz24_1 := za3 BK306.out 1; have hfz24_2 := za3 BK306.out 2; have hfz24_3 := za3 BK306.out 3; have hcz25_0 : w23.cell? ⟨gb307, 0, none⟩ = some (.int .i64 a1_0) := (za4 BK307.out 0).trans rfl; have hcz25_1 : w23.cell? ⟨gb307, 1, none⟩ = some (.slice A1_1 l1_1.length c1_1) := (za4 BK307.out 1).trans rfl; have hcz25_2 : w23.cell? ⟨gb307, 2, none⟩ = some (.slice A1_2 l1_2.length c1_2) := (za4 BK307.out 2).trans rfl; have hcz25_3 : w23.cell? ⟨gb307, 3, none⟩ = some (.slice A1_3 l1_3.length c1_3) := (za4 BK307.out 3).trans rfl; have hfz25_0 := za3 BK307.out 0; have hfz25_1 := za3 BK307.out 1; have hfz25_2 := za3 BK307.out 2; have hfz25_3 := za3 BK307.out 3) | ((with_reducible refine zal (f := 30) rfl ?_); refine zb1 (some 26) rfl rfl Try.func30 (by kernel_rfl) rfl #[.slice A0_3 l0_3.length c0_3, .slice A1_3 l1_3.length c1_3] rfl (by (try simp only [List.map_toArray, List.map_cons, List.map_nil]); first | done | rfl | (simp only [List.length_drop, List.length_take]; rfl)) ?_; (with_reducible refine (laws_eqIntS.calls k _ _ l0_3 _ _ l1_3 false _ ?side1 ?side2 ?side3 ?side4 A8.out).mono ?_); (case side1 => repeat (first | exact (Kd.zao HR0_3.out HB.out) | (with_reducible refine Kd.zan ?_ _) | (with_reducible refine Kd.zam ?_ _) | (with_reducible refine Kd.zas ?_))); (case side2 => exact HC0_3.out); (case side3 => repeat (first | exact (Kd.zao HR1_3.out HB.out) | (with_reducible refine Kd.zan ?_ _) | (with_reducible refine Kd.zam ?_ _) | (with_reducible refine Kd.zas ?_))); (case side4 => exact HC1_3.out); rintro e w' ⟨rfl, ⟨nd, rfl⟩⟩; refine ⟨_, rfl, ?_⟩))
          go_ret
          exact ⟨by first | rfl | (simp [zai, zaj] <;> rfl) | (simp [*, zai, zaj] <;> rfl), by repeat (first | (with_reducible first | exact HB.out | apply za1 | apply za0 | apply za2 | refine za5 ?_ GE306.out | refine za5 ?_ GE307.out) | exact HB.out)⟩
      · replace c7 := Bool.eq_false_iff.mpr c7
        subst c7
        have H1 : (some false) = some r := by rw [if_neg (show ¬ (false = true) by decide)] at H; exact H
        clear H
        have H := H1
        clear H1
        obtain rfl := Option.some.inj H
        go_enter Try.func20, Try.ntmps20
        go_wp2_with (first | ((with_reducible refine zar (N := 2) rfl ?_); refine zaq ?hg (N := 2) ?hd (cs := #[.int .i64 a0_0, .slice A0_1 l0_1.length c0_1, .slice A0_2 l0_2.length c0_2, .slice A0_3 l0_3.length c0_3]) (t := 30) ?hr ?_; (case hd => rfl); (case hg => rfl); (case hr => first | (go_simp; done) | (go_simp; rfl)); intro gb306 hg w26 hbox hb; have n0_ := Aside0.mk (zad (by repeat (first | (with_reducible first | exact HB.out | apply za1 | apply za0 | apply za2) | exact HB.out)) hb); have n1_ := Aside0.mk (hbox); have n2_ := Aside0.mk ((by rw [hg]; exact (za9 (by repeat (first | (with_reducible first | exact HB.out | apply za1 | apply za0 | apply za2) | exact HB.out))) : w.heap.size ≤ gb306)); have n3_ := Aside0.mk ((by rw [hg]; exact (za9 (by repeat (first | (with_reducible first | exact HB.out | apply za1 | apply za0 | apply za2) | exact HB.out))) : w.heap.size ≤ gb306)); clear HB; have HB := n0_; have BK306 := n1_; have GW306 := n2_; have GE306 := n3_; clear n0_ n1_ n2_ n3_; clear hb hbox hg) | ((with_reducible refine zar (N := 3) rfl ?_); refine zaq ?hg (N := 3) ?hd (cs := #[.int .i64 a1_0, .slice A1_1 l1_1.length c1_1, .slice A1_2 l1_2.length c1_2, .slice A1_3 l1_3.length c1_3]) (t := 30) ?hr ?_; (case hd => rfl); (case hg => rfl); (case hr => first | (go_simp; done) | (go_simp; rfl)); intro gb307 hg w27 hbox hb; have n0_ := Aside0.mk (zaa (g := gb306) (o := .cells #[.int .i64 a0_0, .slice A0_1 l0_1.length c0_1, .slice A0_2 l0_2.length c0_2, .slice A0_3 l0_3.length c0_3] 30 (0, 0)) (by (with_reducible repeat (first | refine za7 ?_ _ | refine za8 ?_ | refine za6 ?_ _)); exact BK306.out) hb); have n1_ := Aside0.mk (zad (by repeat (first | (with_reducible first | exact HB.out | apply za1 | apply za0 | apply za2 | refine za5 ?_ GE306.out) | exact HB.out)) hb); have n2_ := Aside0.mk (hbox); have n3_ := Aside0.mk ((by rw [hg]; exact (za9 (by repeat (first | (with_reducible first | exact HB.out | apply za1 | apply za0 | apply za2 | refine za5 ?_ GE306.out) | exact HB.out))) : w.heap.size ≤ gb307)); have n4_ := Aside0.mk ((by rw [hg]; exact (za9 (by repeat (first | (with_reducible first | exact HB.out | apply za1 | apply za0 | apply za2 | refine za5 ?_ GE306.out) | exact HB.out))) : w.heap.size ≤ gb307)); have n5_ := Aside0.mk ((by rw [hg]; exact Nat.ne_of_lt (zax (g := gb306) (o := .cells #[.int .i64 a0_0, .slice A0_1 l0_1.length c0_1, .slice A0_2 l0_2.length c0_2, .slice A0_3 l0_3.length c0_3] 30 (0, 0)) (by (with_reducible repeat (first | refine za7 ?_ _ | refine za8 ?_ | refine za6 ?_ _)); exact BK306.out)) : gb306 ≠ gb307)); have n6_ := Aside0.mk ((by rw [hg]; exact Nat.ne_of_gt (zax (g := gb306) (o := .cells #[.int .i64 a0_0, .slice A0_1 l0_1.length c0_1, .slice A0_2 l0_2.length c0_2, .slice A0_3 l0_3.length c0_3] 30 (0, 0)) (by (with_reducible repeat (first | refine za7 ?_ _ | refine za8 ?_ | refine za6 ?_ _)); exact BK306.out)) : gb307 ≠ gb306)); clear BK306; clear HB; have BK306 := n0_; have HB := n1_; have BK307 := n2_; have GW307 := n3_; have GE307 := n4_; have NB306_307 := n5_; have NB307_306 := n6_; clear n0_ n1_ n2_ n3_ n4_ n5_ n6_; clear hb hbox hg; have hnb28 := NB306_307.out; have hnc28 := NB307_306.out; have hcz29_0 : w27.cell? ⟨gb306, 0, none⟩ = some (.int .i64 a0_0) := (za4 BK306.out 0).trans rfl; have hcz29_1 : w27.cell? ⟨gb306, 1, none⟩ = some (.slice A0_1 l0_1.length c0_1) := (za4 BK306.out 1).trans rfl; have hcz29_2 : w27.cell? ⟨gb306, 2, none⟩ = some (.slice A0_2 l0_2.length c0_2) := (za4 BK306.out 2).trans rfl; have hcz29_3 : w27.cell? ⟨gb306, 3, none⟩ = some (.slice A0_3 l0_3.length c0_3) := (za4 BK306.out 3).trans rfl; have hfz29_0 := za3 BK306.out 0; have hfz29_1 := za3 BK306.out 1; have hfz29_2 := za3 BK306.out 2; have hfz29_3 := za3 BK306.out 3; have hcz30_0 : w27.cell? ⟨gb307, 0, none⟩ = some (.int .i64 a1_0) := (za4 BK307.out 0).trans rfl; have hcz30_1 : w27.cell? ⟨gb307, 1, none⟩ = some (.slice A1_1 l1_1.length c1_1) := (za4 BK307.out 1).trans rfl; have hcz30_2 : w27.cell? ⟨gb307, 2, none⟩ = some (.slice A1_2 l1_2.length c1_2) := (za4 BK307.out 2).trans rfl; have hcz30_3 : w27.cell? ⟨gb307, 3, none⟩ = some (.slice A1_3 l1_3.length c1_3) := (za4 BK307.out 3).trans rfl; have hfz30_0 := za3 BK307.out 0; have hfz30_1 := za3 BK307.out 1; have hfz30_2 := za3 BK307.out 2; have hfz30_3 := za3 BK307.out 3) | ((with_reducible refine zal (f := 30) rfl ?_); refine zb1 (some 14) rfl rfl Try.func30 (by kernel_rfl) rfl #[.slice A0_1 l0_1.length c0_1, .slice A1_1 l1_1.length c1_1] rfl (by (try simp only [List.map_toArray, List.map_cons, List.map_nil]); first | done | rfl | (simp only [List.length_drop, List.length_take]; rfl)) ?_; (with_reducible refine (laws_eqIntS.calls k _ _ l0_1 _ _ l1_1 true _ ?side1 ?side2 ?side3 ?side4 A4.out).mono ?_); (case side1 => repeat (first | exact (Kd.zao HR0_1.out HB.out) | (with_reducible refine Kd.zan ?_ _) | (with_reducible refine Kd.zam ?_ _) | (with_reducible refine Kd.zas ?_))); (case side2 => exact HC0_1.out); (case side3 => repeat (first | exact (Kd.zao HR1_1.out HB.out) | (with_reducible refine Kd.zan ?_ _) | (with_reducible refine Kd.zam ?_ _) | (with_reducible refine Kd.zas ?_))); (case side4 => exact HC1_1.out); rintro e w' ⟨rfl, ⟨nd, rfl⟩⟩; refine ⟨_, rfl, ?_⟩) | ((with_reducible refine zal (f := 61) rfl ?_); refine zb1 (some 20) rfl rfl Try.func61 (by kernel_rfl) rfl #[.slice A0_2 l0_2.length c0_2, .slice A1_2 l1_2.length c1_2] rfl (by (try simp only [List.map_toArray, List.map_cons, List.map_nil]); first | done | rfl | (simp only [List.length_drop, List.length_take]; rfl)) ?_; (with_reducible refine (laws_eqRegOpS.calls k _ _ l0_2 _ _ l1_2 false _ ?side1 ?side2 ?side3 ?side4 A6.out).mono ?_); (case side1 => repeat (first | exact (Kd.zao HR0_2.out (by repeat (first | (with_reducible first | exact HB.out | apply za1 | apply za0 | apply za2 | refine za5 ?_ GE306.out | refine za5 ?_ GE307.out) | exact HB.out))) | (with_reducible refine Kd.zan ?_ _) | (with_reducible refine Kd.zam ?_ _) | (with_reducible refine Kd.zas ?_))); (case side2 => exact HC0_2.out); (case side3 => repeat (first | exact (Kd.zao HR1_2.out (by repeat (first | (with_reducible first | exact HB.out | apply za1 | apply za0 | apply za2 | refine za5 ?_ GE306.out | refine za5 ?_ GE307.out) | exact HB.out))) | (with_reducible refine Kd.zan ?_ _) | (with_reducible refine Kd.zam ?_ _) | (with_reducible refine Kd.zas ?_))); (case side4 => exact HC1_2.out); rintro e w31 ⟨rfl, hb⟩; refine ⟨_, rfl, ?_⟩; have n0_ := Aside0.mk (zaa (g := gb306) (o := .cells #[.int .i64 a0_0, .slice A0_1 l0_1.length c0_1, .slice A0_2 l0_2.length c0_2, .slice A0_3 l0_3.length c0_3] 30 (0, 0)) (by (with_reducible repeat (first | refine za7 ?_ _ | refine za8 ?_ | refine za6 ?_ _)); exact BK306.out) hb); have n1_ := Aside0.mk (zaa (g := gb307) (o := .cells #[.int .i64 a1_0, .slice A1_1 l1_1.length c1_1, .slice A1_2 l1_2.length c1_2, .slice A1_3 l1_3.length c1_3] 30 (0, 0)) (by (with_reducible repeat (first | refine za7 ?_ _ | refine za8 ?_ | refine za6 ?_ _)); exact BK307.out) hb); have n2_ := Aside0.mk (zad (by repeat (first | (with_reducible first | exact HB.out | apply za1 | apply za0 | apply za2 | refine za5 ?_ GE306.out | refine za5 ?_ GE307.out) | exact HB.out)) hb); clear BK306; clear BK307; clear HB; have BK306 := n0_; have BK307 := n1_; have HB := n2_; clear n0_ n1_ n2_; (try clear hb); (try clear hb2); (try clear hk); (try clear hi)))
        go_ret
        exact ⟨by first | rfl | (simp [zai, zaj] <;> rfl) | (simp [*, zai, zaj] <;> rfl), by repeat (first | (with_reducible first | exact HB.out | apply za1 | apply za0 | apply za2 | refine za5 ?_ GE306.out | refine za5 ?_ GE307.out) | exact HB.out)⟩
    · replace c5 := Bool.eq_false_iff.mpr c5
      subst c5
      have H1 : (some false) = some r := by rw [if_neg (show ¬ (false = true) by decide)] at H; exact H
      clear H
      have H := H1
      clear H1
      obtain rfl := Option.some.inj H
      go_enter Try.func20, Try.ntmps20
      go_wp2_with (first | ((with_reducible refine zar (N := 2) rfl ?_); refine zaq ?hg (N := 2) ?hd (cs := #[.int .i64 a0_0, .slice A0_1 l0_1.length c0_1, .slice A0_2 l0_2.length c0_2, .slice A0_3 l0_3.length c0_3]) (t := 30) ?hr ?_; (case hd => rfl); (case hg => rfl); (case hr => first | (go_simp; done) | (go_simp; rfl)); intro gb306 hg w32 hbox hb; have n0_ := Aside0.mk (zad (by repeat (first | (with_reducible first | exact HB.out | apply za1 | apply za0 | apply za2) | exact HB.out)) hb); have n1_ := Aside0.mk (hbox); have n2_ := Aside0.mk ((by rw [hg]; exact (za9 (by repeat (first | (with_reducible first | exact HB.out | apply za1 | apply za0 | apply za2) | exact HB.out))) : w.heap.size ≤ gb306)); have n3_ := Aside0.mk ((by rw [hg]; exact (za9 (by repeat (first | (with_reducible first | exact HB.out | apply za1 | apply za0 | apply za2) | exact HB.out))) : w.heap.size ≤ gb306)); clear HB; have HB := n0_; have BK306 := n1_; have GW306 := n2_; have GE306 := n3_; clear n0_ n1_ n2_ n3_; clear hb hbox hg) | ((with_reducible refine zar (N := 3) rfl ?_); refine zaq ?hg (N := 3) ?hd (cs := #[.int .i64 a1_0, .slice A1_1 l1_1.length c1_1, .slice A1_2 l1_2.length c1_2, .slice A1_3 l1_3.length c1_3]) (t := 30) ?hr ?_; (case hd => rfl); (case hg => rfl); (case hr => first | (go_simp; done) | (go_simp; rfl)); intro gb307 hg w33 hbox hb; have n0_ := Aside0.mk (zaa (g := gb306) (o := .cells #[.int .i64 a0_0, .slice A0_1 l0_1.length c0_1, .slice A0_2 l0_2.length c0_2, .slice A0_3 l0_3.length c0_3] 30 (0, 0)) (by (with_reducible repeat (first | refine za7 ?_ _ | refine za8 ?_ | refine za6 ?_ _)); exact BK306.out) hb); have n1_ := Aside0.mk (zad (by repeat (first | (with_reducible first | exact HB.out | apply za1 | apply za0 | apply za2 | refine za5 ?_ GE306.out) | exact HB.out)) hb); have n2_ := Aside0.mk (hbox); have n3_ := Aside0.mk ((by rw [hg]; exact (za9 (by repeat (first | (with_reducible first | exact HB.out | apply za1 | apply za0 | apply za2 | refine za5 ?_ GE306.out) | exact HB.out))) : w.heap.size ≤ gb307)); have n4_ := Aside0.mk ((by rw [hg]; exact (za9 (by repeat (first | (with_reducible first | exact HB.out | apply za1 | apply za0 | apply za2 | refine za5 ?_ GE306.out) | exact HB.out))) : w.heap.size ≤ gb307)); have n5_ := Aside0.mk ((by rw [hg]; exact Nat.ne_of_lt (zax (g := gb306) (o := .cells #[.int .i64 a0_0, .slice A0_1 l0_1.length c0_1, .slice A0_2 l0_2.length c0_2, .slice A0_3 l0_3.length c0_3] 30 (0, 0)) (by (with_reducible repeat (first | refine za7 ?_ _ | refine za8 ?_ | refine za6 ?_ _)); exact BK306.out)) : gb306 ≠ gb307)); have n6_ := Aside0.mk ((by rw [hg]; exact Nat.ne_of_gt (zax (g := gb306) (o := .cells #[.int .i64 a0_0, .slice A0_1 l0_1.length c0_1, .slice A0_2 l0_2.length c0_2, .slice A0_3 l0_3.length c0_3] 30 (0, 0)) (by (with_reducible repeat (first | refine za7 ?_ _ | refine za8 ?_ | refine za6 ?_ _)); exact BK306.out)) : gb307 ≠ gb306)); clear BK306; clear HB; have BK306 := n0_; have HB := n1_; have BK307 := n2_; have GW307 := n3_; have GE307 := n4_; have NB306_307 := n5_; have NB307_306 := n6_; clear n0_ n1_ n2_ n3_ n4_ n5_ n6_; clear hb hbox hg; have hnb34 := NB306_307.out; have hnc34 := NB307_306.out; have hcz35_0 : w33.cell? ⟨gb306, 0, none⟩ = some (.int .i64 a0_0) := (za4 BK306.out 0).trans rfl; have hcz35_1 : w33.cell? ⟨gb306, 1, none⟩ = some (.slice A0_1 l0_1.length c0_1) := (za4 BK306.out 1).trans rfl; have hcz35_2 : w33.cell? ⟨gb306, 2, none⟩ = some (.slice A0_2 l0_2.length c0_2) := (za4 BK306.out 2).trans rfl; have hcz35_3 : w33.cell? ⟨gb306, 3, none⟩ = some (.slice A0_3 l0_3.length c0_3) := (za4 BK306.out 3).trans rfl; have hfz35_0 := za3 BK306.out 0; have hfz35_1 := za3 BK306.out 1; have hfz35_2 := za3 BK306.out 2; have hfz35_3 := za3 BK306.out 3; have hcz36_0 : w33.cell? ⟨gb307, 0, none⟩ = some (.int .i64 a1_0) := (za4 BK307.out 0).trans rfl; have hcz36_1 : w33.cell? ⟨gb307, 1, none⟩ = some (.slice A1_1 l1_1.length c1_1) := (za4 BK307.out 1).trans rfl; have hcz36_2 : w33.cell? ⟨gb307, 2, none⟩ = some (.slice A1_2 l1_2.length c1_2) := (za4 BK307.out 2).trans rfl; have hcz36_3 : w33.cell? ⟨gb307, 3, none⟩ = some (.slice A1_3 l1_3.length c1_3) := (za4 BK307.out 3).trans rfl; have hfz36_0 := za3 BK307.out 0; have hfz36_1 := za3 BK307.out 1; have hfz36_2 := za3 BK307.out 2; have hfz36_3 := za3 BK307.out 3) | ((with_reducible refine zal (f := 30) rfl ?_); refine zb1 (some 14) rfl rfl Try.func30 (by kernel_rfl) rfl #[.slice A0_1 l0_1.length c0_1, .slice A1_1 l1_1.length c1_1] rfl (by (try simp only [List.map_toArray, List.map_cons, List.map_nil]); first | done | rfl | (simp only [List.length_drop, List.length_take]; rfl)) ?_; (with_reducible refine (laws_eqIntS.calls k _ _ l0_1 _ _ l1_1 false _ ?side1 ?side2 ?side3 ?side4 A4.out).mono ?_); (case side1 => repeat (first | exact (Kd.zao HR0_1.out HB.out) | (with_reducible refine Kd.zan ?_ _) | (with_reducible refine Kd.zam ?_ _) | (with_reducible refine Kd.zas ?_))); (case side2 => exact HC0_1.out); (case side3 => repeat (first | exact (Kd.zao HR1_1.out HB.out) | (with_reducible refine Kd.zan ?_ _) | (with_reducible refine Kd.zam ?_ _) | (with_reducible refine Kd.zas ?_))); (case side4 => exact HC1_1.out); rintro e w' ⟨rfl, ⟨nd, rfl⟩⟩; refine ⟨_, rfl, ?_⟩))
      go_ret
      exact ⟨by first | rfl | (simp [zai, zaj] <;> rfl) | (simp [*, zai, zaj] <;> rfl), by repeat (first | (with_reducible first | exact HB.out | apply za1 | apply za0 | apply za2 | refine za5 ?_ GE306.out | refine za5 ?_ GE307.out) | exact HB.out)⟩
  · rw [if_neg c3] at H
    have c3b0 : (a0_0 == a1_0) = false := beq_eq_false_iff_ne.mpr c3
    have c3b1 : (a0_0 != a1_0) = true := bne_iff_ne.mpr c3
    obtain rfl := Option.some.inj H
    go_enter Try.func20, Try.ntmps20
    go_wp2_with (first | ((with_reducible refine zar (N := 2) rfl ?_); refine zaq ?hg (N := 2) ?hd (cs := #[.int .i64 a0_0, .slice A0_1 l0_1.length c0_1, .slice A0_2 l0_2.length c0_2, .slice A0_3 l0_3.length c0_3]) (t := 30) ?hr ?_; (case hd => rfl); (case hg => rfl); (case hr => first | (go_simp; done) | (go_simp; rfl)); intro gb306 hg w37 hbox hb; have n0_ := Aside0.mk (zad (by repeat (first | (with_reducible first | exact HB.out | apply za1 | apply za0 | apply za2) | exact HB.out)) hb); have n1_ := Aside0.mk (hbox); have n2_ := Aside0.mk ((by rw [hg]; exact (za9 (by repeat (first | (with_reducible first | exact HB.out | apply za1 | apply za0 | apply za2) | exact HB.out))) : w.heap.size ≤ gb306)); have n3_ := Aside0.mk ((by rw [hg]; exact (za9 (by repeat (first | (with_reducible first | exact HB.out | apply za1 | apply za0 | apply za2) | exact HB.out))) : w.heap.size ≤ gb306)); clear HB; have HB := n0_; have BK306 := n1_; have GW306 := n2_; have GE306 := n3_; clear n0_ n1_ n2_ n3_; clear hb hbox hg) | ((with_reducible refine zar (N := 3) rfl ?_); refine zaq ?hg (N := 3) ?hd (cs := #[.int .i64 a1_0, .slice A1_1 l1_1.length c1_1, .slice A1_2 l1_2.length c1_2, .slice A1_3 l1_3.length c1_3]) (t := 30) ?hr ?_; (case hd => rfl); (case hg => rfl); (case hr => first | (go_simp; done) | (go_simp; rfl)); intro gb307 hg w38 hbox hb; have n0_ := Aside0.mk (zaa (g := gb306) (o := .cells #[.int .i64 a0_0, .slice A0_1 l0_1.length c0_1, .slice A0_2 l0_2.length c0_2, .slice A0_3 l0_3.length c0_3] 30 (0, 0)) (by (with_reducible repeat (first | refine za7 ?_ _ | refine za8 ?_ | refine za6 ?_ _)); exact BK306.out) hb); have n1_ := Aside0.mk (zad (by repeat (first | (with_reducible first | exact HB.out | apply za1 | apply za0 | apply za2 | refine za5 ?_ GE306.out) | exact HB.out)) hb); have n2_ := Aside0.mk (hbox); have n3_ := Aside0.mk ((by rw [hg]; exact (za9 (by repeat (first | (with_reducible first | exact HB.out | apply za1 | apply za0 | apply za2 | refine za5 ?_ GE306.out) | exact HB.out))) : w.heap.size ≤ gb307)); have n4_ := Aside0.mk ((by rw [hg]; exact (za9 (by repeat (first | (with_reducible first | exact HB.out | apply za1 | apply za0 | apply za2 | refine za5 ?_ GE306.out) | exact HB.out))) : w.heap.size ≤ gb307)); have n5_ := Aside0.mk ((by rw [hg]; exact Nat.ne_of_lt (zax (g := gb306) (o := .cells #[.int .i64 a0_0, .slice A0_1 l0_1.length c0_1, .slice A0_2 l0_2.length c0_2, .slice A0_3 l0_3.length c0_3] 30 (0, 0)) (by (with_reducible repeat (first | refine za7 ?_ _ | refine za8 ?_ | refine za6 ?_ _)); exact BK306.out)) : gb306 ≠ gb307)); have n6_ := Aside0.mk ((by rw [hg]; exact Nat.ne_of_gt (zax (g := gb306) (o := .cells #[.int .i64 a0_0, .slice A0_1 l0_1.length c0_1, .slice A0_2 l0_2.length c0_2, .slice A0_3 l0_3.length c0_3] 30 (0, 0)) (by (with_reducible repeat (first | refine za7 ?_ _ | refine za8 ?_ | refine za6 ?_ _)); exact BK306.out)) : gb307 ≠ gb306)); clear BK306; clear HB; have BK306 := n0_; have HB := n1_; have BK307 := n2_; have GW307 := n3_; have GE307 := n4_; have NB306_307 := n5_; have NB307_306 := n6_; clear n0_ n1_ n2_ n3_ n4_ n5_ n6_; clear hb hbox hg; have hnb39 := NB306_307.out; have hnc39 := NB307_306.out; have hcz40_0 : w38.cell? ⟨gb306, 0, none⟩ = some (.int .i64 a0_0) := (za4 BK306.out 0).trans rfl; have hcz40_1 : w38.cell? ⟨gb306, 1, none⟩ = some (.slice A0_1 l0_1.length c0_1) := (za4 BK306.out 1).trans rfl; have hcz40_2 : w38.cell? ⟨gb306, 2, none⟩ = some (.slice A0_2 l0_2.length c0_2) := (za4 BK306.out 2).trans rfl; have hcz40_3 : w38.cell? ⟨gb306, 3, none⟩ = some (.slice A0_3 l0_3.length c0_3) := (za4 BK306.out 3).trans rfl; have hfz40_0 := za3 BK306.out 0; have hfz40_1 := za3 BK306.out 1; have hfz40_2 := za3 BK306.out 2; have hfz40_3 := za3 BK306.out 3; have hcz41_0 : w38.cell? ⟨gb307, 0, none⟩ = some (.int .i64 a1_0) := (za4 BK307.out 0).trans rfl; have hcz41_1 : w38.cell? ⟨gb307, 1, none⟩ = some (.slice A1_1 l1_1.length c1_1) := (za4 BK307.out 1).trans rfl; have hcz41_2 : w38.cell? ⟨gb307, 2, none⟩ = some (.slice A1_2 l1_2.length c1_2) := (za4 BK307.out 2).trans rfl; have hcz41_3 : w38.cell? ⟨gb307, 3, none⟩ = some (.slice A1_3 l1_3.length c1_3) := (za4 BK307.out 3).trans rfl; have hfz41_0 := za3 BK307.out 0; have hfz41_1 := za3 BK307.out 1; have hfz41_2 := za3 BK307.out 2; have hfz41_3 := za3 BK307.out 3))
    go_ret
    exact ⟨by first | rfl | (simp [zai, zaj] <;> rfl) | (simp [*, zai, zaj] <;> rfl), by repeat (first | (with_reducible first | exact HB.out | apply za1 | apply za0 | apply za2 | refine za5 ?_ GE306.out | refine za5 ?_ GE307.out) | exact HB.out)⟩

/-! ### laws_FnExactIsRegCode: function 3 -/
def laws_FnExactIsRegCode.f (k : Nat) (a0_0 : Int) (l0_1 : List Int) (l0_2 : List (S126)) (l0_3 : List Int) : Option (Bool) := (laws_szRegCode.f a0_0 l0_1 l0_2 l0_3 1048576).bind fun t312 => (if t312 < 0 then (some true) else ((laws_toRegCode.f k a0_0 l0_1 l0_2 l0_3).bind fun bt313 => ((spec_IsRegCode.f k bt313.1 bt313.2.1 bt313.2.2.1 bt313.2.2.2).bind fun t323 => ((laws_toRegCode.f k a0_0 l0_1 l0_2 l0_3).bind fun bt324 => ((impl_IsRegCode.f k bt324.1 bt324.2.1 bt324.2.2.1 bt324.2.2.2).bind fun t335 => (if (t335 != t323) = true then (some false) else ((laws_toRegCode.f k a0_0 l0_1 l0_2 l0_3).bind fun bt336 => ((laws_eqRegCode.f k bt324.1 bt324.2.1 bt324.2.2.1 bt324.2.2.2 bt336.1 bt336.2.1 bt336.2.2.1 bt336.2.2.2).bind fun t346 => (if t346 = true then (some true) else (some false))))))))))
theorem laws_FnExactIsRegCode.mono : ∀ a0 a1 a2 a3 k, LeO (laws_FnExactIsRegCode.f k a0 a1 a2 a3) (laws_FnExactIsRegCode.f (k + 1) a0 a1 a2 a3) := by
  intro a0 a1 a2 a3 k
  unfold laws_FnExactIsRegCode.f
  repeat' first
      | (with_reducible exact impl_IsRegCode.mono _ _ _ _ _)
      | (with_reducible exact laws_eqRegCode.mono _ _ _ _ _ _ _ _ _)
      | (with_reducible exact laws_toRegCode.mono _ _ _ _ _)
      | (with_reducible exact spec_IsRegCode.mono _ _ _ _ _)
      | (with_reducible exact LeO.refl _)
      | (with_reducible exact LeO.none _)
      | (with_reducible refine LeO.ite ?_ ?_)
      | (with_reducible refine LeO.bind ?_ (fun _ => ?_))
      | exact impl_IsRegCode.mono _ _ _ _ _
      | exact laws_eqRegCode.mono _ _ _ _ _ _ _ _ _
      | exact laws_toRegCode.mono _ _ _ _ _
      | exact spec_IsRegCode.mono _ _ _ _ _
      | exact LeO.none _
      | refine LeO.ite ?_ ?_
      | refine LeO.bind ?_ (fun _ => ?_)
set_option maxHeartbeats 8000000 in
set_option maxRecDepth 100000 in
theorem laws_FnExactIsRegCode.calls (k : Nat) (a0_0 : Int) (A0_1 : Option Addr) (c0_1 : Nat) (l0_1 : List Int) (A0_2 : Option Addr) (c0_2 : Nat) (l0_2 : List (S126)) (A0_3 : Option Addr) (c0_3 : Nat) (l0_3 : List Int) (r : Bool) (w : World) (hr0_1 : Kd.C (Kd.int .i64) w A0_1 l0_1.length l0_1) (hc0_1 : l0_1.length ≤ c0_1) (hr0_2 : Kd.C k126 w A0_2 l0_2.length l0_2) (hc0_2 : l0_2.length ≤ c0_2) (hr0_3 : Kd.C (Kd.int .i64) w A0_3 l0_3.length l0_3) (hc0_3 : l0_3.length ≤ c0_3) (h : laws_FnExactIsRegCode.f k a0_0 l0_1 l0_2 l0_3 = some r) :
    Calls Try.prog 3 #[.agg #[.int .i64 a0_0, .slice A0_1 l0_1.length c0_1, .slice A0_2 l0_2.length c0_2, .slice A0_3 l0_3.length c0_3]] w fun e w' => e = .returned (.bool r) ∧ Below w.heap.size w w' := by
  have hu25 := Try.underlying25
  have hu30 := Try.underlying30
  have HR0_1 := Aside0.mk hr0_1
  have HC0_1 := Aside0.mk hc0_1
  clear hr0_1 hc0_1
  have HR0_2 := Aside0.mk hr0_2
  have HC0_2 := Aside0.mk hc0_2
  clear hr0_2 hc0_2
  have HR0_3 := Aside0.mk hr0_3
  have HC0_3 := Aside0.mk hc0_3
  clear hr0_3 hc0_3
  have HB := Aside0.mk (Below.refl w.heap.size w)
  have H : ((laws_szRegCode.f a0_0 l0_1 l0_2 l0_3 1048576).bind fun t312 => (if t312 < 0 then (some true) else ((laws_toRegCode.f k a0_0 l0_1 l0_2 l0_3).bind fun bt313 => ((spec_IsRegCode.f k bt313.1 bt313.2.1 bt313.2.2.1 bt313.2.2.2).bind fun t323 => ((laws_toRegCode.f k a0_0 l0_1 l0_2 l0_3).bind fun bt324 => ((impl_IsRegCode.f k bt324.1 bt324.2.1 bt324.2.2.1 bt324.2.2.2).bind fun t335 => (if (t335 != t323) = true then (some false) else ((laws_toRegCode.f k a0_0 l0_1 l0_2 l0_3).bind fun bt336 => ((laws_eqRegCode.f k bt324.1 bt324.2.1 bt324.2.2.1 bt324.2.2.2 bt336.1 bt336.2.1 bt336.2.2.1 bt336.2.2.2).bind fun t346 => (if t346 = true then (some true) else (some false))))))))))) = some r := h
  clear h
  replace H := Option.bind_eq_some_iff.mp H
  obtain ⟨t312, A20, H⟩ := H
  replace H : (if t312 < 0 then (some true) else ((laws_toRegCode.f k a0_0 l0_1 l0_2 l0_3).bind fun bt313 => ((spec_IsRegCode.f k bt313.1 bt313.2.1 bt313.2.2.1 bt313.2.2.2).bind fun t323 => ((laws_toRegCode.f k a0_0 l0_1 l0_2 l0_3).bind fun bt324 => ((impl_IsRegCode.f k bt324.1 bt324.2.1 bt324.2.2.1 bt324.2.2.2).bind fun t335 => (if (t335 != t323) = true then (some false) else ((laws_toRegCode.f k a0_0 l0_1 l0_2 l0_3).bind fun bt336 => ((laws_eqRegCode.f k bt324.1 bt324.2.1 bt324.2.2.1 bt324.2.2.2 bt336.1 bt336.2.1 bt336.2.2.1 bt336.2.2.2).bind fun t346 => (if t346 = true then (some true) else (some false)))))))))) = some r := H
  have A2 := Aside0.mk A20
  clear A20
  by_cases c3 : t312 < 0
  · rw [if_pos c3] at H
    have c3b0 : decide (t312 < 0) = true := decide_eq_true c3
    clear c3
    obtain rfl := Option.some.inj H
    go_enter Try.func3, Try.ntmps3
    go_wp2_with (first | ((with_reducible refine zar (N := 1) rfl ?_); refine zaq ?hg (N := 1) ?hd (cs := #[.int .i64 a0_0, .slice A0_1 l0_1.length c0_1, .slice A0_2 l0_2.length c0_2, .slice A0_3 l0_3.length c0_3]) (t := 25) ?hr ?_; (case hd => rfl); (case hg => rfl); (case hr => first | (go_simp; done) | (go_simp; rfl)); intro gb311 hg w4 hbox hb; have n0_ := Aside0.mk (zad (by repeat (first | (with_reducible first | exact HB.out | apply za1 | apply za0 | apply za2) | exact HB.out)) hb); have n1_ := Aside0.mk (hbox); have n2_ := Aside0.mk ((by rw [hg]; exact (za9 (by repeat (first | (with_reducible first | exact HB.out | apply za1 | apply za0 | apply za2) | exact HB.out))) : w.heap.size ≤ gb311)); have n3_ := Aside0.mk ((by rw [hg]; exact (za9 (by repeat (first | (with_reducible first | exact HB.out | apply za1 | apply za0 | apply za2) | exact HB.out))) : w.heap.size ≤ gb311)); clear HB; have HB := n0_; have BK311 := n1_; have GW311 := n2_; have GE311 := n3_; clear n0_ n1_ n2_ n3_; clear hb hbox hg; have hcz5_0 : w4.cell? ⟨gb311, 0, none⟩ = some (.int .i64 a0_0) := (za4 BK311.out 0).trans rfl; have hcz5_1 : w4.cell? ⟨gb311, 1, none⟩ = some (.slice A0_1 l0_1.length c0_1) := (za4 BK311.out 1).trans rfl; have hcz5_2 : w4.cell? ⟨gb311, 2, none⟩ = some (.slice A0_2 l0_2.length c0_2) := (za4 BK311.out 2).trans rfl; have hcz5_3 : w4.cell? ⟨gb311, 3, none⟩ = some (.slice A0_3 l0_3.length c0_3) := (za4 BK311.out 3).trans rfl; have hfz5_0 := za3 BK311.out 0; have hfz5_1 := za3 BK311.out 1; have hfz5_2 := za3 BK311.out 2; have hfz5_3 := za3 BK311.out 3) | ((with_reducible refine zal (f := 16) rfl ?_); refine zb1 (some 9) rfl rfl Try.func16 (by kernel_rfl) rfl #[.agg #[.int .i64 a0_0, .slice A0_1 l0_1.length c0_1, .slice A0_2 l0_2.length c0_2, .slice A0_3 l0_3.length c0_3], .int .i64 1048576] rfl (by (try simp only [List.map_toArray, List.map_cons, List.map_nil]); first | done | rfl | (simp only [List.length_drop, List.length_take]; rfl)) ?_; (with_reducible refine (laws_szRegCode.calls a0_0 _ _ l0_1 _ _ l0_2 _ _ l0_3 1048576 t312 _ ?side1 ?side2 ?side3 ?side4 ?side5 ?side6 A2.out).mono ?_); (case side1 => repeat (first | exact (Kd.zao HR0_1.out HB.out) | (with_reducible refine Kd.zan ?_ _) | (with_reducible refine Kd.zam ?_ _) | (with_reducible refine Kd.zas ?_))); (case side2 => exact HC0_1.out); (case side3 => repeat (first | exact (Kd.zao HR0_2.out HB.out) | (with_reducible refine Kd.zan ?_ _) | (with_reducible refine Kd.zam ?_ _) | (with_reducible refine Kd.zas ?_))); (case side4 => exact HC0_2.out); (case side5 => repeat (first | exact (Kd.zao HR0_3.out HB.out) | (with_reducible refine Kd.zan ?_ _) | (with_reducible refine Kd.zam ?_ _) | (with_reducible refine Kd.zas ?_))); (case side6 => exact HC0_3.out); rintro e w6 ⟨rfl, hb⟩; refine ⟨_, rfl, ?_⟩; have n0_ := Aside0.mk (zaa (g := gb311) (o := .cells #[.int .i64 a0_0, .slice A0_1 l0_1.length c0_1, .slice A0_2 l0_2.length c0_2, .slice A0_3 l0_3.length c0_3] 25 (0, 0)) (by (with_reducible repeat (first | refine za7 ?_ _ | refine za8 ?_ | refine za6 ?_ _)); exact BK311.out) hb); have n1_ := Aside0.mk (zad (by repeat (first | (with_reducible first | exact HB.out | apply za1 | apply za0 | apply za2 | refine za5 ?_ GE311.out) | exact HB.out)) hb); clear BK311; clear HB; have BK311 := n0_; have HB := n1_; clear n0_ n1_; (try clear hb); (try clear hb2); (try clear hk); (try clear hi)))
    go_ret
    exact ⟨by first | rfl | (simp [zai, zaj] <;> rfl) | (simp [*, zai, zaj] <;> rfl), by repeat (first | (with_reducible first | exact HB.out | apply za1 | apply za0 | apply za2 | refine za5 ?_ GE311.out) | exact HB.out)⟩
  · rw [if_neg c3] at H
    have c3b0 : decide (t312 < 0) = false := decide_eq_false c3
    clear c3
    replace H := Option.bind_eq_some_iff.mp H
    obtain ⟨⟨t313, t314, t317, t320⟩, A70, H⟩ := H
    replace H : ((spec_IsRegCode.f k t313 t314 t317 t320).bind fun t323 => ((laws_toRegCode.f k a0_0 l0_1 l0_2 l0_3).bind fun bt324 => ((impl_IsRegCode.f k bt324.1 bt324.2.1 bt324.2.2.1 bt324.2.2.2).bind fun t335 => (if (t335 != t323) = true then (some false) else ((laws_toRegCode.f k a0_0 l0_1 l0_2 l0_3).bind fun bt336 => ((laws_eqRegCode.f k bt324.1 bt324.2.1 bt324.2.2.1 bt324.2.2.2 bt336.1 bt336.2.1 bt336.2.2.1 bt336.2.2.2).bind fun t346 => (if t346 = true then (some true) else (some false)))))))) = some r := H
    have A7 := Aside0.mk A70
    clear A70
    replace H := Option.bind_eq_some_iff.mp H
    obtain ⟨t323, A80, H⟩ := H
    replace H : ((laws_toRegCode.f k a0_0 l0_1 l0_2 l0_3).bind fun bt324 => ((impl_IsRegCode.f k bt324.1 bt324.2.1 bt324.2.2.1 bt324.2.2.2).bind fun t335 => (if (t335 != t323) = true then (some false) else ((laws_toRegCode.f k a0_0 l0_1 l0_2 l0_3).bind fun bt336 => ((laws_eqRegCode.f k bt324.1 bt324.2.1 bt324.2.2.1 bt324.2.2.2 bt336.1 bt336.2.1 bt336.2.2.1 bt336.2.2.2).bind fun t346 => (if t346 = true then (some true) else (some false))))))) = some r := H
    have A8 := Aside0.mk A80
    clear A80
    replace H := Option.bind_eq_some_iff.mp H
    obtain ⟨⟨t324, t325, t328, t331⟩, A90, H⟩ := H
    replace H : ((impl_IsRegCode.f k t324 t325 t328 t331).bind fun t335 => (if (t335 != t323) = true then (some false) else ((laws_toRegCode.f k a0_0 l0_1 l0_2 l0_3).bind fun bt336 => ((laws_eqRegCode.f k t324 t325 t328 t331 bt336.1 bt336.2.1 bt336.2.2.1 bt336.2.2.2).bind fun t346 => (if t346 = true then (some true) else (some false)))))) = some r := H
    have A9 := Aside0.mk A90
    clear A90
    replace H := Option.bind_eq_some_iff.mp H
    obtain ⟨t335, A100, H⟩ := H
    replace H : (if (t335 != t323) = true then (some false) else ((laws_toRegCode.f k a0_0 l0_1 l0_2 l0_3).bind fun bt336 => ((laws_eqRegCode.f k t324 t325 t328 t331 bt336.1 bt336.2.1 bt336.2.2.1 bt336.2.2.2).bind fun t346 => (if t346 = true then (some true) else (some false))))) = some r := H
    have A10 := Aside0.mk A100
    clear A100
    by_cases c11 : (t335 != t323) = true
    · rw [if_pos c11] at H
      have c11b0 : (t335 != t323) = true := c11
      (try (have c11b1 : decide (t335 = t323) = false := by simpa using c11))
      (try (have c11b2 : (t335 == t323) = false := by simpa using c11))
      (try (have c11b3 : ¬ (t335 = t323) := by simpa using c11))
      clear c11
      obtain rfl := Option.some.inj H
      go_enter Try.func3, Try.ntmps3
      go_wp2_with (first | ((with_reducible refine zar (N := 1) rfl ?_); refine zaq ?hg (N := 1) ?hd (cs := #[.int .i64 a0_0, .slice A0_1 l0_1.length c0_1, .slice A0_2 l0_2.length c0_2, .slice A0_3 l0_3.length c0_3]) (t := 25) ?hr ?_; (case hd => rfl); (case hg => rfl); (case hr => first | (go_simp; done) | (go_simp; rfl)); intro gb311 hg w12 hbox hb; have n0_ := Aside0.mk (zad (by repeat (first | (with_reducible first | exact HB.out | apply za1 | apply za0 | apply za2) | exact HB.out)) hb); have n1_ := Aside0.mk (hbox); have n2_ := Aside0.mk ((by rw [hg]; exact (za9 (by repeat (first | (with_reducible first | exact HB.out | apply za1 | apply za0 | apply za2) | exact HB.out))) : w.heap.size ≤ gb311)); have n3_ := Aside0.mk ((by rw [hg]; exact (za9 (by repeat (first | (with_reducible first | exact HB.out | apply za1 | apply za0 | apply za2) | exact HB.out))) : w.heap.size ≤ gb311)); clear HB; have HB := n0_; have BK311 := n1_; have GW311 := n2_; have GE311 := n3_; clear n0_ n1_ n2_ n3_; clear hb hbox hg; have hcz13_0 : w12.cell? ⟨gb311, 0, none⟩ = some (.int .i64 a0_0) := (za4 BK311.out 0).trans rfl; have hcz13_1 : w12.cell? ⟨gb311, 1, none⟩ = some (.slice A0_1 l0_1.length c0_1) := (za4 BK311.out 1).trans rfl; have hcz13_2 : w12.cell? ⟨gb311, 2, none⟩ = some (.slice A0_2 l0_2.length c0_2) := (za4 BK311.out 2).trans rfl; have hcz13_3 : w12.cell? ⟨gb311, 3, none⟩ = some (.slice A0_3 l0_3.length c0_3) := (za4 BK311.out 3).trans rfl; have hfz13_0 := za3 BK311.out 0; have hfz13_1 := za3 BK311.out 1; have hfz13_2 := za3 BK311.out 2; have hfz13_3 := za3 BK311.out 3) | ((with_reducible refine zal (f := 16) rfl ?_); refine zb1 (some 9) rfl rfl Try.func16 (by kernel_rfl) rfl #[.agg #[.int .i64 a0_0, .slice A0_1 l0_1.length c0_1, .slice A0_2 l0_2.length c0_2, .slice A0_3 l0_3.length c0_3], .int .i64 1048576] rfl (by (try simp only [List.map_toArray, List.map_cons, List.map_nil]); first | done | rfl | (simp only [List.length_drop, List.length_take]; rfl)) ?_; (with_reducible refine (laws_szRegCode.calls a0_0 _ _ l0_1 _ _ l0_2 _ _ l0_3 1048576 t312 _ ?side1 ?side2 ?side3 ?side4 ?side5 ?side6 A2.out).mono ?_); (case side1 => repeat (first | exact (Kd.zao HR0_1.out HB.out) | (with_reducible refine Kd.zan ?_ _) | (with_reducible refine Kd.zam ?_ _) | (with_reducible refine Kd.zas ?_))); (case side2 => exact HC0_1.out); (case side3 => repeat (first | exact (Kd.zao HR0_2.out HB.out) | (with_reducible refine Kd.zan ?_ _) | (with_reducible refine Kd.zam ?_ _) | (with_reducible refine Kd.zas ?_))); (case side4 => exact HC0_2.out); (case side5 => repeat (first | exact (Kd.zao HR0_3.out HB.out) | (with_reducible refine Kd.zan ?_ _) | (with_reducible refine Kd.zam ?_ _) | (with_reducible refine Kd.zas ?_))); (case side6 => exact HC0_3.out); rintro e w14 ⟨rfl, hb⟩; refine ⟨_, rfl, ?_⟩; have n0_ := Aside0.mk (zaa (g := gb311) (o := .cells #[.int .i64 a0_0, .slice A0_1 l0_1.length c0_1, .slice A0_2 l0_2.length c0_2, .slice A0_3 l0_3.length c0_3] 25 (0, 0)) (by (with_reducible repeat (first | refine za7 ?_ _ | refine za8 ?_ | refine za6 ?_ _)); exact BK311.out) hb); have n1_ := Aside0.mk (zad (by repeat (first | (with_reducible first | exact HB.out | apply za1 | apply za0 | apply za2 | refine za5 ?_ GE311.out) | exact HB.out)) hb); clear BK311; clear HB; have BK311 := n0_; have HB := n1_; clear n0_ n1_; (try clear hb); (try clear hb2); (try clear hk); (try clear hi); have hcz15_0 : w14.cell? ⟨gb311, 0, none⟩ = some (.int .i64 a0_0) := (za4 BK311.out 0).trans rfl; have hcz15_1 : w14.cell? ⟨gb311, 1, none⟩ = some (.slice A0_1 l0_1.length c0_1) := (za4 BK311.out 1).trans rfl; have hcz15_2 : w14.cell? ⟨gb311, 2, none⟩ = some (.slice A0_2 l0_2.length c0_2) := (za4 BK311.out 2).trans rfl; have hcz15_3 : w14.cell? ⟨gb311, 3, none⟩ = some (.slice A0_3 l0_3.length c0_3) := (za4 BK311.out 3).trans rfl; have hfz15_0 := za3 BK311.out 0; have hfz15_1 := za3 BK311.out 1; have hfz15_2 := za3 BK311.out 2; have hfz15_3 := za3 BK311.out 3) | ((with_reducible refine zal (f := 18) rfl ?_); refine zb1 (some 13) rfl rfl Try.func18 (by kernel_rfl) rfl #[.agg #[.int .i64 a0_0, .slice A0_1 l0_1.length c0_1, .slice A0_2 l0_2.length c0_2, .slice A0_3 l0_3.length c0_3]] rfl (by (try simp only [List.map_toArray, List.map_cons, List.map_nil]); first | done | rfl | (simp only [List.length_drop, List.length_take]; rfl)) ?_; (with_reducible refine (laws_toRegCode.calls k a0_0 _ _ l0_1 _ _ l0_2 _ _ l0_3 t313 t314 t317 t320 _ ?side1 ?side2 ?side3 ?side4 ?side5 ?side6 A7.out).mono ?_); (case side1 => repeat (first | exact (Kd.zao HR0_1.out HB.out) | (with_reducible refine Kd.zan ?_ _) | (with_reducible refine Kd.zam ?_ _) | (with_reducible refine Kd.zas ?_))); (case side2 => exact HC0_1.out); (case side3 => repeat (first | exact (Kd.zao HR0_2.out HB.out) | (with_reducible refine Kd.zan ?_ _) | (with_reducible refine Kd.zam ?_ _) | (with_reducible refine Kd.zas ?_))); (case side4 => exact HC0_2.out); (case side5 => repeat (first | exact (Kd.zao HR0_3.out HB.out) | (with_reducible refine Kd.zan ?_ _) | (with_reducible refine Kd.zam ?_ _) | (with_reducible refine Kd.zas ?_))); (case side6 => exact HC0_3.out); rintro e w16 ⟨v315, v318, v321, rfl, ho0, ho1, ho2, hb⟩; refine ⟨_, rfl, ?_⟩; have n0_ := Aside0.mk (Kd.zb5 ho0 (za9 (by repeat (first | (with_reducible first | exact HB.out | apply za1 | apply za0 | apply za2 | refine za5 ?_ GE311.out) | exact HB.out)))); have n1_ := Aside0.mk (Kd.zb5 ho1 (za9 (by repeat (first | (with_reducible first | exact HB.out | apply za1 | apply za0 | apply za2 | refine za5 ?_ GE311.out) | exact HB.out)))); have n2_ := Aside0.mk (Kd.zb5 ho2 (za9 (by repeat (first | (with_reducible first | exact HB.out | apply za1 | apply za0 | apply za2 | refine za5 ?_ GE311.out) | exact HB.out)))); have n3_ := Aside0.mk (zaa (g := gb311) (o := .cells #[.int .i64 a0_0, .slice A0_1 l0_1.length c0_1, .slice A0_2 l0_2.length c0_2, .slice A0_3 l0_3.length c0_3] 25 (0, 0)) (by (with_reducible repeat (first | refine za7 ?_ _ | refine za8 ?_ | refine za6 ?_ _)); exact BK311.out) hb); have n4_ := Aside0.mk (zad (by repeat (first | (with_reducible first | exact HB.out | apply za1 | apply za0 | apply za2 | refine za5 ?_ GE311.out) | exact HB.out)) hb); clear BK311; clear HB; have HO316 := n0_; have HO319 := n1_; have HO322 := n2_; have BK311 := n3_; have HB := n4_; clear n0_ n1_ n2_ n3_ n4_; (try clear hb); (try clear hb2); (try clear hk); (try clear hi); (try clear ho0); (try clear ho1); (try clear ho2); obtain ⟨Ao17, co17, eo17⟩ := Kd.zb0 HO316.out; subst eo17; obtain ⟨Ao18, co18, eo18⟩ := Kd.zb0 HO319.out; subst eo18; obtain ⟨Ao19, co19, eo19⟩ := Kd.zb0 HO322.out; subst eo19) | ((with_reducible refine zal (f := 17) rfl ?_); refine zb1 (some 14) rfl rfl Try.func17 (by kernel_rfl) rfl #[.agg #[.int .i64 t313, .slice Ao17 t314.length co17, .slice Ao18 t317.length co18, .slice Ao19 t320.length co19]] rfl (by (try simp only [List.map_toArray, List.map_cons, List.map_nil]); first | done | rfl | (simp only [List.length_drop, List.length_take]; rfl)) ?_; (with_reducible refine (spec_IsRegCode.calls k t313 _ _ t314 _ _ t317 _ _ t320 t323 _ ?side1 ?side2 ?side3 ?side4 ?side5 ?side6 A8.out).mono ?_); (case side1 => repeat (first | exact (Kd.R_reads' HO316.out).2.2 | (with_reducible refine Kd.zan ?_ _) | (with_reducible refine Kd.zam ?_ _) | (with_reducible refine Kd.zas ?_))); (case side2 => exact (Kd.R_reads' HO316.out).2.1); (case side3 => repeat (first | exact (Kd.R_reads' HO319.out).2.2 | (with_reducible refine Kd.zan ?_ _) | (with_reducible refine Kd.zam ?_ _) | (with_reducible refine Kd.zas ?_))); (case side4 => exact (Kd.R_reads' HO319.out).2.1); (case side5 => repeat (first | exact (Kd.R_reads' HO322.out).2.2 | (with_reducible refine Kd.zan ?_ _) | (with_reducible refine Kd.zam ?_ _) | (with_reducible refine Kd.zas ?_))); (case side6 => exact (Kd.R_reads' HO322.out).2.1); rintro e w20 ⟨rfl, hb⟩; refine ⟨_, rfl, ?_⟩; have n0_ := Aside0.mk (Kd.zau (by (with_reducible repeat (first | apply Kd.zac | apply Kd.zab | apply Kd.zae)); exact HO316.out) hb); have n1_ := Aside0.mk (Kd.zau (by (with_reducible repeat (first | apply Kd.zac | apply Kd.zab | apply Kd.zae)); exact HO319.out) hb); have n2_ := Aside0.mk (Kd.zau (by (with_reducible repeat (first | apply Kd.zac | apply Kd.zab | apply Kd.zae)); exact HO322.out) hb); have n3_ := Aside0.mk (zaa (g := gb311) (o := .cells #[.int .i64 a0_0, .slice A0_1 l0_1.length c0_1, .slice A0_2 l0_2.length c0_2, .slice A0_3 l0_3.length c0_3] 25 (0, 0)) (by (with_reducible repeat (first | refine za7 ?_ _ | refine za8 ?_ | refine za6 ?_ _)); exact BK311.out) hb); have n4_ := Aside0.mk (zad (by repeat (first | (with_reducible first | exact HB.out | apply za1 | apply za0 | apply za2 | refine za5 ?_ GE311.out) | exact HB.out)) hb); clear HO316; clear HO319; clear HO322; clear BK311; clear HB; have HO316 := n0_; have HO319 := n1_; have HO322 := n2_; have BK311 := n3_; have HB := n4_; clear n0_ n1_ n2_ n3_ n4_; (try clear hb); (try clear hb2); (try clear hk); (try clear hi); have hcz21_0 : w20.cell? ⟨gb311, 0, none⟩ = some (.int .i64 a0_0) := (za4 BK311.out 0).trans rfl; have hcz21_1 : w20.cell? ⟨gb311, 1, none⟩ = some (.slice A0_1 l0_1.length c0_1) := (za4 BK311.out 1).trans rfl; have hcz21_2 : w20.cell? ⟨gb311, 2, none⟩ = some (.slice A0_2 l0_2.length c0_2) := (za4 BK311.out 2).trans rfl; have hcz21_3 : w20.cell? ⟨gb311, 3, none⟩ = some (.slice A0_3 l0_3.length c0_3) := (za4 BK311.out 3).trans rfl; have hfz21_0 := za3 BK311.out 0; have hfz21_1 := za3 BK311.out 1; have hfz21_2 := za3 BK311.out 2; have hfz21_3 := za3 BK311.out 3) | ((with_reducible refine zal (f := 18) rfl ?_); refine zb1 (some 16) rfl rfl Try.func18 (by kernel_rfl) rfl #[.agg #[.int .i64 a0_0, .slice A0_1 l0_1.length c0_1, .slice A0_2 l0_2.length c0_2, .slice A0_3 l0_3.length c0_3]] rfl (by (try simp only [List.map_toArray, List.map_cons, List.map_nil]); first | done | rfl | (simp only [List.length_drop, List.length_take]; rfl)) ?_; (with_reducible refine (laws_toRegCode.calls k a0_0 _ _ l0_1 _ _ l0_2 _ _ l0_3 t324 t325 t328 t331 _ ?side1 ?side2 ?side3 ?side4 ?side5 ?side6 A9.out).mono ?_); (case side1 => repeat (first | exact (Kd.zao HR0_1.out HB.out) | (with_reducible refine Kd.zan ?_ _) | (with_reducible refine Kd.zam ?_ _) | (with_reducible refine Kd.zas ?_))); (case side2 => exact HC0_1.out); (case side3 => repeat (first | exact (Kd.zao HR0_2.out HB.out) | (with_reducible refine Kd.zan ?_ _) | (with_reducible refine Kd.zam ?_ _) | (with_reducible refine Kd.zas ?_))); (case side4 => exact HC0_2.out); (case side5 => repeat (first | exact (Kd.zao HR0_3.out HB.out) | (with_reducible refine Kd.zan ?_ _) | (with_reducible refine Kd.zam ?_ _) | (with_reducible refine Kd.zas ?_))); (case side6 => exact HC0_3.out); rintro e w22 ⟨v326, v329, v332, rfl, ho0, ho1, ho2, hb⟩; refine ⟨_, rfl, ?_⟩; have n0_ := Aside0.mk (Kd.zav (Kd.R_told (Kd.R_told (Kd.R_old (by (with_reducible repeat (first | apply Kd.zac | apply Kd.zab | apply Kd.zae)); exact HO316.out) hb) (Kd.R_base ho0)) (Kd.R_base ho2)) (fun _ h_ => h_.1)); have n1_ := Aside0.mk (Kd.R_elder' (by (with_reducible repeat (first | apply Kd.zac | apply Kd.zab | apply Kd.zae)); exact HO319.out) (Kd.R_base ho1) hb); have n2_ := Aside0.mk (Kd.zav (Kd.R_told (Kd.R_told (Kd.R_old (by (with_reducible repeat (first | apply Kd.zac | apply Kd.zab | apply Kd.zae)); exact HO322.out) hb) (Kd.R_base ho0)) (Kd.R_base ho2)) (fun _ h_ => h_.1)); have n3_ := Aside0.mk (Kd.zb5 (Kd.R_new' (Kd.R_new' ho0 (Kd.R_lt (by (with_reducible repeat (first | apply Kd.zac | apply Kd.zab | apply Kd.zae)); exact HO316.out))) (Kd.R_lt (by (with_reducible repeat (first | apply Kd.zac | apply Kd.zab | apply Kd.zae)); exact HO322.out))) (za9 (by repeat (first | (with_reducible first | exact HB.out | apply za1 | apply za0 | apply za2 | refine za5 ?_ GE311.out) | exact HB.out)))); have n4_ := Aside0.mk (Kd.zb5 (Kd.R_new' ho1 (Kd.R_lt (by (with_reducible repeat (first | apply Kd.zac | apply Kd.zab | apply Kd.zae)); exact HO319.out))) (za9 (by repeat (first | (with_reducible first | exact HB.out | apply za1 | apply za0 | apply za2 | refine za5 ?_ GE311.out) | exact HB.out)))); have n5_ := Aside0.mk (Kd.zb5 (Kd.R_new' (Kd.R_new' ho2 (Kd.R_lt (by (with_reducible repeat (first | apply Kd.zac | apply Kd.zab | apply Kd.zae)); exact HO316.out))) (Kd.R_lt (by (with_reducible repeat (first | apply Kd.zac | apply Kd.zab | apply Kd.zae)); exact HO322.out))) (za9 (by repeat (first | (with_reducible first | exact HB.out | apply za1 | apply za0 | apply za2 | refine za5 ?_ GE311.out) | exact HB.out)))); have n6_ := Aside0.mk (zaa (g := gb311) (o := .cells #[.int .i64 a0_0, .slice A0_1 l0_1.length c0_1, .slice A0_2 l0_2.length c0_2, .slice A0_3 l0_3.length c0_3] 25 (0, 0)) (by (with_reducible repeat (first | refine za7 ?_ _ | refine za8 ?_ | refine za6 ?_ _)); exact BK311.out) hb); have n7_ := Aside0.mk (zad (by repeat (first | (with_reducible first | exact HB.out | apply za1 | apply za0 | apply za2 | refine za5 ?_ GE311.out) | exact HB.out)) hb); clear HO316; clear HO319; clear HO322; clear BK311; clear HB; have HO316 := n0_; have HO319 := n1_; have HO322 := n2_; have HO327 := n3_; have HO330 := n4_; have HO333 := n5_; have BK311 := n6_; have HB := n7_; clear n0_ n1_ n2_ n3_ n4_ n5_ n6_ n7_; (try clear hb); (try clear hb2); (try clear hk); (try clear hi); (try clear ho0); (try clear ho1); (try clear ho2)) | ((with_reducible refine zar (N := 5) rfl ?_); refine zaq ?hg (N := 5) ?hd (cs := #[.int .i64 0, .slice none 0 0, .slice none 0 0, .slice none 0 0]) (t := 30) ?hr ?_; (case hd => rfl); (case hg => rfl); (case hr => first | (go_simp; done) | (go_simp; rfl)); intro gb334 hg w23 hbox hb; have n0_ := Aside0.mk (Kd.zau (by (with_reducible repeat (first | apply Kd.zac | apply Kd.zab | apply Kd.zae)); exact HO316.out) hb); have n1_ := Aside0.mk (Kd.zau (by (with_reducible repeat (first | apply Kd.zac | apply Kd.zab | apply Kd.zae)); exact HO319.out) hb); have n2_ := Aside0.mk (Kd.zau (by (with_reducible repeat (first | apply Kd.zac | apply Kd.zab | apply Kd.zae)); exact HO322.out) hb); have n3_ := Aside0.mk (Kd.zau (by (with_reducible repeat (first | apply Kd.zac | apply Kd.zab | apply Kd.zae)); exact HO327.out) hb); have n4_ := Aside0.mk (Kd.zau (by (with_reducible repeat (first | apply Kd.zac | apply Kd.zab | apply Kd.zae)); exact HO330.out) hb); have n5_ := Aside0.mk (Kd.zau (by (with_reducible repeat (first | apply Kd.zac | apply Kd.zab | apply Kd.zae)); exact HO333.out) hb); have n6_ := Aside0.mk (zaa (g := gb311) (o := .cells #[.int .i64 a0_0, .slice A0_1 l0_1.length c0_1, .slice A0_2 l0_2.length c0_2, .slice A0_3 l0_3.length c0_3] 25 (0, 0)) (by (with_reducible repeat (first | refine za7 ?_ _ | refine za8 ?_ | refine za6 ?_ _)); exact BK311.out) hb); have n7_ := Aside0.mk (zad (by repeat (first | (with_reducible first | exact HB.out | apply za1 | apply za0 | apply za2 | refine za5 ?_ GE311.out) | exact HB.out)) hb); have n8_ := Aside0.mk (hbox); have n9_ := Aside0.mk ((by rw [hg]; exact (za9 (by repeat (first | (with_reducible first | exact HB.out | apply za1 | apply za0 | apply za2 | refine za5 ?_ GE311.out) | exact HB.out))) : w.heap.size ≤ gb334)); have n10_ := Aside0.mk ((by rw [hg]; exact (za9 (by repeat (first | (with_reducible first | exact HB.out | apply za1 | apply za0 | apply za2 | refine za5 ?_ GE311.out) | exact HB.out))) : w.heap.size ≤ gb334)); have n11_ := Aside0.mk ((by rw [hg]; exact Nat.ne_of_lt (zax (g := gb311) (o := .cells #[.int .i64 a0_0, .slice A0_1 l0_1.length c0_1, .slice A0_2 l0_2.length c0_2, .slice A0_3 l0_3.length c0_3] 25 (0, 0)) (by (with_reducible repeat (first | refine za7 ?_ _ | refine za8 ?_ | refine za6 ?_ _)); exact BK311.out)) : gb311 ≠ gb334)); have n12_ := Aside0.mk ((by rw [hg]; exact Nat.ne_of_gt (zax (g := gb311) (o := .cells #[.int .i64 a0_0, .slice A0_1 l0_1.length c0_1, .slice A0_2 l0_2.length c0_2, .slice A0_3 l0_3.length c0_3] 25 (0, 0)) (by (with_reducible repeat (first | refine za7 ?_ _ | refine za8 ?_ | refine za6 ?_ _)); exact BK311.out)) : gb334 ≠ gb311)); clear HO316; clear HO319; clear HO322; clear HO327; clear HO330; clear HO333; clear BK311; clear HB; have HO316 := n0_; have HO319 := n1_; have HO322 := n2_; have HO327 := n3_; have HO330 := n4_; have HO333 := n5_; have BK311 := n6_; have HB := n7_; have BK334 := n8_; have GW334 := n9_; have GE334 := n10_; have NB311_334 := n11_; have NB334_311 := n12_; clear n0_ n1_ n2_ n3_ n4_ n5_ n6_ n7_ n8_ n9_ n10_ n11_ n12_; clear hb hbox hg; have hnb24 := NB334_311.out; have hnc24 := NB311_334.out; have hcz25_0 : w23.cell? ⟨gb334, 0, none⟩ = some (.int .i64 0) := (za4 BK334.out 0).trans rfl; have hcz25_1 : w23.cell? ⟨gb334, 1, none⟩ = some (.slice none 0 0) := (za4 BK334.out 1).trans rfl; have hcz25_2 : w23.cell? ⟨gb334, 2, none⟩ = some (.slice none 0 0) := (za4 BK334.out 2).trans rfl; have hcz25_3 : w23.cell? ⟨gb334, 3, none⟩ = some (.slice none 0 0) := (za4 BK334.out 3).trans rfl; have hfz25_0 := za3 BK334.out 0; have hfz25_1 := za3 BK334.out 1; have hfz25_2 := za3 BK334.out 2; have hfz25_3 := za3 BK334.out 3; obtain ⟨Ao26, co26, eo26⟩ := Kd.zb0 HO327.out; subst eo26; obtain ⟨Ao27, co27, eo27⟩ := Kd.zb0 HO330.out; subst eo27; obtain ⟨Ao28, co28, eo28⟩ := Kd.zb0 HO333.out; subst eo28) | ((with_reducible refine zal (f := 19) rfl ?_); refine zb1 (some 18) rfl rfl Try.func19 (by kernel_rfl) rfl #[.agg #[.int .i64 t324, .slice Ao26 t325.length co26, .slice Ao27 t328.length co27, .slice Ao28 t331.length co28]] rfl (by (try simp only [List.map_toArray, List.map_cons, List.map_nil]); first | done | rfl | (simp only [List.length_drop, List.length_take]; rfl)) ?_; (with_reducible refine (impl_IsRegCode.calls k t324 _ _ t325 _ _ t328 _ _ t331 t335 _ ?side1 ?side2 ?side3 ?side4 ?side5 ?side6 A10.out).mono ?_); (case side1 => refine (Kd.R_reads' (e := 3) (base := w.heap.size) (ok := fun k_ => ((some k_ ≠ (.slice Ao28 t331.length co28 : Value).ownBlock ∧ some k_ ≠ (.slice Ao17 t314.length co17 : Value).ownBlock) ∧ some k_ ≠ (.slice Ao19 t320.length co19 : Value).ownBlock)) (n := t325.length) (c := co26) ?_).2.2; exact (by (with_reducible repeat (first | apply Kd.zac | apply Kd.zab | apply Kd.zae)); exact (Kd.zav (Kd.R_far (p := ⟨gb334, 3, none⟩) (Kd.R_far (p := ⟨gb334, 2, none⟩) (Kd.R_far (p := ⟨gb334, 1, none⟩) (Kd.R_far (p := ⟨gb334, 0, none⟩) (Kd.zb4 HO327.out BK334.out (by decide)) (fun _ hk => hk.2) (.int .i64 t324)) (fun _ hk => hk.2) (.slice Ao26 t325.length co26)) (fun _ hk => hk.2) (.slice Ao27 t328.length co27)) (fun _ hk => hk.2) (.slice Ao28 t331.length co28)) (fun _ h_ => h_.1)))); (case side2 => exact (Kd.R_reads' HO327.out).2.1); (case side3 => refine (Kd.R_reads' (e := 80) (base := w.heap.size) (ok := fun k_ => (True ∧ some k_ ≠ (.slice Ao18 t317.length co18 : Value).ownBlock)) (n := t328.length) (c := co27) ?_).2.2; exact (by (with_reducible repeat (first | apply Kd.zac | apply Kd.zab | apply Kd.zae)); exact (Kd.zav (Kd.R_far (p := ⟨gb334, 3, none⟩) (Kd.R_far (p := ⟨gb334, 2, none⟩) (Kd.R_far (p := ⟨gb334, 1, none⟩) (Kd.R_far (p := ⟨gb334, 0, none⟩) (Kd.zb4 HO330.out BK334.out (by decide)) (fun _ hk => hk.2) (.int .i64 t324)) (fun _ hk => hk.2) (.slice Ao26 t325.length co26)) (fun _ hk => hk.2) (.slice Ao27 t328.length co27)) (fun _ hk => hk.2) (.slice Ao28 t331.length co28)) (fun _ h_ => h_.1)))); (case side4 => exact (Kd.R_reads' HO330.out).2.1); (case side5 => refine (Kd.R_reads' (e := 3) (base := w.heap.size) (ok := fun k_ => ((some k_ ≠ (.slice Ao26 t325.length co26 : Value).ownBlock ∧ some k_ ≠ (.slice Ao17 t314.length co17 : Value).ownBlock) ∧ some k_ ≠ (.slice Ao19 t320.length co19 : Value).ownBlock)) (n := t331.length) (c := co28) ?_).2.2; exact (by (with_reducible repeat (first | apply Kd.zac | apply Kd.zab | apply Kd.zae)); exact (Kd.zav (Kd.R_far (p := ⟨gb334, 3, none⟩) (Kd.R_far (p := ⟨gb334, 2, none⟩) (Kd.R_far (p := ⟨gb334, 1, none⟩) (Kd.R_far (p := ⟨gb334, 0, none⟩) (Kd.zb4 HO333.out BK334.out (by decide)) (fun _ hk => hk.2) (.int .i64 t324)) (fun _ hk => hk.2) (.slice Ao26 t325.length co26)) (fun _ hk => hk.2) (.slice Ao27 t328.length co27)) (fun _ hk => hk.2) (.slice Ao28 t331.length co28)) (fun _ h_ => h_.1)))); (case side6 => exact (Kd.R_reads' HO333.out).2.1); rintro e w29 ⟨rfl, hb⟩; refine ⟨_, rfl, ?_⟩; have n0_ := Aside0.mk (Kd.zau (by (with_reducible repeat (first | apply Kd.zac | apply Kd.zab | apply Kd.zae)); exact (Kd.zav (Kd.R_far (p := ⟨gb334, 3, none⟩) (Kd.R_far (p := ⟨gb334, 2, none⟩) (Kd.R_far (p := ⟨gb334, 1, none⟩) (Kd.R_far (p := ⟨gb334, 0, none⟩) (Kd.zb4 HO316.out BK334.out (by decide)) (fun _ hk => hk.2) (.int .i64 t324)) (fun _ hk => hk.2) (.slice Ao26 t325.length co26)) (fun _ hk => hk.2) (.slice Ao27 t328.length co27)) (fun _ hk => hk.2) (.slice Ao28 t331.length co28)) (fun _ h_ => h_.1))) hb); have n1_ := Aside0.mk (Kd.zau (by (with_reducible repeat (first | apply Kd.zac | apply Kd.zab | apply Kd.zae)); exact (Kd.zav (Kd.R_far (p := ⟨gb334, 3, none⟩) (Kd.R_far (p := ⟨gb334, 2, none⟩) (Kd.R_far (p := ⟨gb334, 1, none⟩) (Kd.R_far (p := ⟨gb334, 0, none⟩) (Kd.zb4 HO319.out BK334.out (by decide)) (fun _ hk => hk.2) (.int .i64 t324)) (fun _ hk => hk.2) (.slice Ao26 t325.length co26)) (fun _ hk => hk.2) (.slice Ao27 t328.length co27)) (fun _ hk => hk.2) (.slice Ao28 t331.length co28)) (fun _ h_ => h_.1))) hb); have n2_ := Aside0.mk (Kd.zau (by (with_reducible repeat (first | apply Kd.zac | apply Kd.zab | apply Kd.zae)); exact (Kd.zav (Kd.R_far (p := ⟨gb334, 3, none⟩) (Kd.R_far (p := ⟨gb334, 2, none⟩) (Kd.R_far (p := ⟨gb334, 1, none⟩) (Kd.R_far (p := ⟨gb334, 0, none⟩) (Kd.zb4 HO322.out BK334.out (by decide)) (fun _ hk => hk.2) (.int .i64 t324)) (fun _ hk => hk.2) (.slice Ao26 t325.length co26)) (fun _ hk => hk.2) (.slice Ao27 t328.length co27)) (fun _ hk => hk.2) (.slice Ao28 t331.length co28)) (fun _ h_ => h_.1))) hb); have n3_ := Aside0.mk (Kd.zau (by (with_reducible repeat (first | apply Kd.zac | apply Kd.zab | apply Kd.zae)); exact (Kd.zav (Kd.R_far (p := ⟨gb334, 3, none⟩) (Kd.R_far (p := ⟨gb334, 2, none⟩) (Kd.R_far (p := ⟨gb334, 1, none⟩) (Kd.R_far (p := ⟨gb334, 0, none⟩) (Kd.zb4 HO327.out BK334.out (by decide)) (fun _ hk => hk.2) (.int .i64 t324)) (fun _ hk => hk.2) (.slice Ao26 t325.length co26)) (fun _ hk => hk.2) (.slice Ao27 t328.length co27)) (fun _ hk => hk.2) (.slice Ao28 t331.length co28)) (fun _ h_ => h_.1))) hb); have n4_ := Aside0.mk (Kd.zau (by (with_reducible repeat (first | apply Kd.zac | apply Kd.zab | apply Kd.zae)); exact (Kd.zav (Kd.R_far (p := ⟨gb334, 3, none⟩) (Kd.R_far (p := ⟨gb334, 2, none⟩) (Kd.R_far (p := ⟨gb334, 1, none⟩) (Kd.R_far (p := ⟨gb334, 0, none⟩) (Kd.zb4 HO330.out BK334.out (by decide)) (fun _ hk => hk.2) (.int .i64 t324)) (fun _ hk => hk.2) (.slice Ao26 t325.length co26)) (fun _ hk => hk.2) (.slice Ao27 t328.length co27)) (fun _ hk => hk.2) (.slice Ao28 t331.length co28)) (fun _ h_ => h_.1))) hb); have n5_ := Aside0.mk (Kd.zau (by (with_reducible repeat (first | apply Kd.zac | apply Kd.zab | apply Kd.zae)); exact (Kd.zav (Kd.R_far (p := ⟨gb334, 3, none⟩) (Kd.R_far (p := ⟨gb334, 2, none⟩) (Kd.R_far (p := ⟨gb334, 1, none⟩) (Kd.R_far (p := ⟨gb334, 0, none⟩) (Kd.zb4 HO333.out BK334.out (by decide)) (fun _ hk => hk.2) (.int .i64 t324)) (fun _ hk => hk.2) (.slice Ao26 t325.length co26)) (fun _ hk => hk.2) (.slice Ao27 t328.length co27)) (fun _ hk => hk.2) (.slice Ao28 t331.length co28)) (fun _ h_ => h_.1))) hb); have n6_ := Aside0.mk (zaa (g := gb311) (o := .cells #[.int .i64 a0_0, .slice A0_1 l0_1.length c0_1, .slice A0_2 l0_2.length c0_2, .slice A0_3 l0_3.length c0_3] 25 (0, 0)) (by (with_reducible repeat (first | refine za7 ?_ _ | refine za8 ?_ | refine za6 ?_ _)); refine zaz ?_ NB311_334.out _; (with_reducible repeat (first | refine za7 ?_ _ | refine za8 ?_ | refine za6 ?_ _)); refine zaz ?_ NB311_334.out _; (with_reducible repeat (first | refine za7 ?_ _ | refine za8 ?_ | refine za6 ?_ _)); refine zaz ?_ NB311_334.out _; (with_reducible repeat (first | refine za7 ?_ _ | refine za8 ?_ | refine za6 ?_ _)); refine zaz ?_ NB311_334.out _; (with_reducible repeat (first | refine za7 ?_ _ | refine za8 ?_ | refine za6 ?_ _)); exact BK311.out) hb); have n7_ := Aside0.mk (zaa (g := gb334) (o := .cells #[.int .i64 t324, .slice Ao26 t325.length co26, .slice Ao27 t328.length co27, .slice Ao28 t331.length co28] 30 (0, 0)) (by (with_reducible repeat (first | refine za7 ?_ _ | refine za8 ?_ | refine za6 ?_ _)); refine zaw (cs := #[.int .i64 t324, .slice Ao26 t325.length co26, .slice Ao27 t328.length co27, .slice none 0 0]) ?_ 3 _ rfl; (with_reducible repeat (first | refine za7 ?_ _ | refine za8 ?_ | refine za6 ?_ _)); refine zaw (cs := #[.int .i64 t324, .slice Ao26 t325.length co26, .slice none 0 0, .slice none 0 0]) ?_ 2 _ rfl; (with_reducible repeat (first | refine za7 ?_ _ | refine za8 ?_ | refine za6 ?_ _)); refine zaw (cs := #[.int .i64 t324, .slice none 0 0, .slice none 0 0, .slice none 0 0]) ?_ 1 _ rfl; (with_reducible repeat (first | refine za7 ?_ _ | refine za8 ?_ | refine za6 ?_ _)); refine zaw (cs := #[.int .i64 0, .slice none 0 0, .slice none 0 0, .slice none 0 0]) ?_ 0 _ rfl; (with_reducible repeat (first | refine za7 ?_ _ | refine za8 ?_ | refine za6 ?_ _)); exact BK334.out) hb); have n8_ := Aside0.mk (zad (by repeat (first | (with_reducible first | exact HB.out | apply za1 | apply za0 | apply za2 | refine za5 ?_ GE311.out | refine za5 ?_ GE334.out) | exact HB.out)) hb); clear HO316; clear HO319; clear HO322; clear HO327; clear HO330; clear HO333; clear BK311; clear BK334; clear HB; have HO316 := n0_; have HO319 := n1_; have HO322 := n2_; have HO327 := n3_; have HO330 := n4_; have HO333 := n5_; have BK311 := n6_; have BK334 := n7_; have HB := n8_; clear n0_ n1_ n2_ n3_ n4_ n5_ n6_ n7_ n8_; (try clear hb); (try clear hb2); (try clear hk); (try clear hi)))
      go_ret
      exact ⟨by first | rfl | (simp [zai, zaj] <;> rfl) | (simp [*, zai, zaj] <;> rfl), by repeat (first | (with_reducible first | exact HB.out | apply za1 | apply za0 | apply za2 | refine za5 ?_ GE311.out | refine za5 ?_ GE334.out) | exact HB.out)⟩
    · rw [if_neg c11] at H
      have c11b0 : (t335 != t323) = false := by simpa using c11
      (try (have c11b1 : decide (t335 = t323) = true := by simpa using c11))
      (try (have c11b2 : (t335 == t323) = true := by simpa using c11))
      clear c11
      replace H := Option.bind_eq_some_iff.mp H
      obtain ⟨⟨t336, t337, t340, t343⟩, A300, H⟩ := H
      replace H : ((laws_eqRegCode.f k t324 t325 t328 t331 t336 t337 t340 t343).bind fun t346 => (if t346 = true then (some true) else (some false))) = some r := H
      have A30 := Aside0.mk A300
      clear A300
      replace H := Option.bind_eq_some_iff.mp H
      obtain ⟨t346, A310, H⟩ := H
      replace H : (if t346 = true then (some true) else (some false)) = some r := H
      have A31 := Aside0.mk A310
      clear A310
      by_cases c32 : t346 = true
      · subst c32
        have H1 : (some true) = some r := by rw [if_pos rfl] at H; exact H
        clear H
        have H := H1
        clear H1
        obtain rfl := Option.some.inj H
        go_enter Try.func3, Try.ntmps3
        try go_wp2_with (first | ((with_reducible refine zar (N := 1) rfl ?_); refine zaq ?hg (N := 1) ?hd (cs := #[.int .i64 a0_0, .slice A0_1 l0_1.length c0_1, .slice A0_2 l0_2.length c0_2, .slice A0_3 l0_3.length c0_3]) (t := 25) ?hr ?_; (case hd => rfl); (case hg => rfl); (case hr => first | (go_simp; done) | (go_simp; rfl)); intro gb311 hg w33 hbox hb; have n0_ := Aside0.mk (zad (by repeat (first | (with_reducible first | exact HB.out | apply za1 | apply za0 | apply za2) | exact HB.out)) hb); have n1_ := Aside0.mk (hbox); have n2_ := Aside0.mk ((by rw [hg]; exact (za9 (by repeat (first | (with_reducible first | exact HB.out | apply za1 | apply za0 | apply za2) | exact HB.out))) : w.heap.size ≤ gb311)); have n3_ := Aside0.mk ((by rw [hg]; exact (za9 (by repeat (first | (with_reducible first | exact HB.out | apply za1 | apply za0 | apply za2) | exact HB.out))) : w.heap.size ≤ gb311)); clear HB; have HB := n0_; have BK311 := n1_; have GW311 := n2_; have GE311 := n3_; clear n0_ n1_ n2_ n3_; clear hb hbox hg; have hcz34_0 : w33.cell? ⟨gb311, 0, none⟩ = some (.int .i64 a0_0) := (za4 BK311.out 0).trans rfl; have hcz34_1 : w33.cell? ⟨gb311, 1, none⟩ = some (.slice A0_1 l0_1.length c0_1) := (za4 BK311.out 1).trans rfl; have hcz34_2 : w33.cell? ⟨gb311, 2, none⟩ = some (.slice A0_2 l0_2.length c0_2) := (za4 BK311.out 2).trans rfl; have hcz34_3 : w33.cell? ⟨gb311, 3, none⟩ = some (.slice A0_3 l0_3.length c0_3) := (za4 BK311.out 3).trans rfl; have hfz34_0 := za3 BK311.out 0; have hfz34_1 := za3 BK311.out 1; have hfz34_2 := za3 BK311.out 2; have hfz34_3 := za3 BK311.out 3) | ((with_reducible refine zal (f := 16) rfl ?_); refine zb1 (some 9) rfl rfl Try.func16 (by kernel_rfl) rfl #[.agg #[.int .i64 a0_0, .slice A0_1 l0_1.length c0_1, .slice A0_2 l0_2.length c0_2, .slice A0_3 l0_3.length c0_3], .int .i64 1048576] rfl (by (try simp only [List.map_toArray, List.map_cons, List.map_nil]); first | done | rfl | (simp only [List.length_drop, List.length_take]; rfl)) ?_; (with_reducible refine (laws_szRegCode.calls a0_0 _ _ l0_1 _ _ l0_2 _ _ l0_3 1048576 t312 _ ?side1 ?side2 ?side3 ?side4 ?side5 ?side6 A2.out).mono ?_); (case side1 => repeat (first | exact (Kd.zao HR0_1.out HB.out) | (with_reducible refine Kd.zan ?_ _) | (with_reducible refine Kd.zam ?_ _) | (with_reducible refine Kd.zas ?_))); (case side2 => exact HC0_1.out); (case side3 => repeat (first | exact (Kd.zao HR0_2.out HB.out) | (with_reducible refine Kd.zan ?_ _) | (with_reducible refine Kd.zam ?_ _) | (with_reducible refine Kd.zas ?_))); (case side4 => exact HC0_2.out); (case side5 => repeat (first | exact (Kd.zao HR0_3.out HB.out) | (with_reducible refine Kd.zan ?_ _) | (with_reducible refine Kd.zam ?_ _) | (with_reducible refine Kd.zas ?_))); (case side6 => exact HC0_3.out); rintro e w35 ⟨rfl, hb⟩; refine ⟨_, rfl, ?_⟩; have n0_ := Aside0.mk (zaa (g := gb311) (o := .cells #[.int .i64 a0_0, .slice A0_1 l0_1.length c0_1, .slice A0_2 l0_2.length c0_2, .slice A0_3 l0_3.length c0_3] 25 (0, 0)) (by (with_reducible repeat (first | refine za7 ?_ _ | refine za8 ?_ | refine za6 ?_ _)); exact BK311.out) hb); have n1_ := Aside0.mk (zad (by repeat (first | (with_reducible first | exact HB.out | apply za1 | apply za0 | apply za2 | refine za5 ?_ GE311.out) | exact HB.out)) hb); clear BK311; clear HB; have BK311 := n0_; have HB := n1_; clear n0_ n1_; (try clear hb); (try clear hb2); (try clear hk); (try clear hi); have hcz36_0 : w35.cell? ⟨gb311, 0, none⟩ = some (.int .i64 a0_0) := (za4 BK311.out 0).trans rfl; have hcz36_1 : w35.cell? ⟨gb311, 1, none⟩ = some (.slice A0_1 l0_1.length c0_1) := (za4 BK311.out 1).trans rfl; have hcz36_2 : w35.cell? ⟨gb311, 2, none⟩ = some (.slice A0_2 l0_2.length c0_2) := (za4 BK311.out 2).trans rfl; have hcz36_3 : w35.cell? ⟨gb311, 3, none⟩ = some (.slice A0_3 l0_3.length c0_3) := (za4 BK311.out 3).trans rfl; have hfz36_0 := za3 BK311.out 0; have hfz36_1 := za3 BK311.out 1; have hfz36_2 := za3 BK311.out 2; have hfz36_3 := za3 BK311.out 3) | ((with_reducible refine zal (f := 18) rfl ?_); refine zb1 (some 13) rfl rfl Try.func18 (by kernel_rfl) rfl #[.agg #[.int .i64 a0_0, .slice A0_1 l0_1.length c0_1, .slice A0_2 l0_2.length c0_2, .slice A0_3 l0_3.length c0_3]] rfl (by (try simp only [List.map_toArray, List.map_cons, List.map_nil]); first | done | rfl | (simp only [List.length_drop, List.length_take]; rfl)) ?_; (with_reducible refine (laws_toRegCode.calls k a0_0 _ _ l0_1 _ _ l0_2 _ _ l0_3 t313 t314 t317 t320 _ ?side1 ?side2 ?side3 ?side4 ?side5 ?side6 A7.out).mono ?_); (case side1 => repeat (first | exact (Kd.zao HR0_1.out HB.out) | (with_reducible refine Kd.zan ?_ _) | (with_reducible refine Kd.zam ?_ _) | (with_reducible refine Kd.zas ?_))); (case side2 => exact HC0_1.out); (case side3 => repeat (first | exact (Kd.zao HR0_2.out HB.out) | (with_reducible refine Kd.zan ?_ _) | (with_reducible refine Kd.zam ?_ _) | (with_reducible refine Kd.zas ?_))); (case side4 => exact HC0_2.out); (case side5 => repeat (first | exact (Kd.zao HR0_3.out HB.out) | (with_reducible refine Kd.zan ?_ _) | (with_reducible refine Kd.zam ?_ _) | (with_reducible refine Kd.zas ?_))); (case side6 => exact HC0_3.out); rintro e w37 ⟨v315, v318, v321, rfl, ho0, ho1, ho2, hb⟩; refine ⟨_, rfl, ?_⟩; have n0_ := Aside0.mk (Kd.zb5 ho0 (za9 (by repeat (first | (with_reducible first | exact HB.out | apply za1 | apply za0 | apply za2 | refine za5 ?_ GE311.out) | exact HB.out)))); have n1_ := Aside0.mk (Kd.zb5 ho1 (za9 (by repeat (first | (with_reducible first | exact HB.out | apply za1 | apply za0 | apply za2 | refine za5 ?_ GE311.out) | exact HB.out)))); have n2_ := Aside0.mk (Kd.zb5 ho2 (za9 (by repeat (first | (with_reducible first | exact HB.out | apply za1 | apply za0 | apply za2 | refine za5 ?_ GE311.out) | exact HB.out)))); have n3_ := Aside0.mk (zaa (g := gb311) (o := .cells #[.int .i64 a0_0, .slice A0_1 l0_1.length c0_1, .slice A0_2 l0_2.length c0_2, .slice A0_3 l0_3.length c0_3] 25 (0, 0)) (by (with_reducible repeat (first | refine za7 ?_ _ | refine za8 ?_ | refine za6 ?_ _)); exact BK311.out) hb); have n4_ := Aside0.mk (zad (by repeat (first | (with_reducible first | exact HB.out | apply za1 | apply za0 | apply za2 | refine za5 ?_ GE311.out) | exact HB.out)) hb); clear BK311; clear HB; have HO316 := n0_; have HO319 := n1_; have HO322 := n2_; have BK311 := n3_; have HB := n4_; clear n0_ n1_ n2_ n3_ n4_; (try clear hb); (try clear hb2); (try clear hk); (try clear hi); (try clear ho0); (try clear ho1); (try clear ho2); obtain ⟨Ao38, co38, eo38⟩ := Kd.zb0 HO316.out; subst eo38; obtain ⟨Ao39, co39, eo39⟩ := Kd.zb0 HO319.out; subst eo39; obtain ⟨Ao40, co40, eo40⟩ := Kd.zb0 HO322.out; subst eo40) | ((with_reducible refine zal (f := 17) rfl ?_); refine zb1 (some 14) rfl rfl Try.func17 (by kernel_rfl) rfl #[.agg #[.int .i64 t313, .slice Ao38 t314.length co38, .slice Ao39 t317.length co39, .slice Ao40 t320.length co40]] rfl (by (try simp only [List.map_toArray, List.map_cons, List.map_nil]); first | done | rfl | (simp only [List.length_drop, List.length_take]; rfl)) ?_; (with_reducible refine (spec_IsRegCode.calls k t313 _ _ t314 _ _ t317 _ _ t320 t323 _ ?side1 ?side2 ?side3 ?side4 ?side5 ?side6 A8.out).mono ?_); (case side1 => repeat (first | exact (Kd.R_reads' HO316.out).2.2 | (with_reducible refine Kd.zan ?_ _) | (with_reducible refine Kd.zam ?_ _) | (with_reducible refine Kd.zas ?_))); (case side2 => exact (Kd.R_reads' HO316.out).2.1); (case side3 => repeat (first | exact (Kd.R_reads' HO319.out).2.2 | (with_reducible refine Kd.zan ?_ _) | (with_reducible refine Kd.zam ?_ _) | (with_reducible refine Kd.zas ?_))); (case side4 => exact (Kd.R_reads' HO319.out).2.1); (case side5 => repeat (first | exact (Kd.R_reads' HO322.out).2.2 | (with_reducible refine Kd.zan ?_ _) | (with_reducible refine Kd.zam ?_ _) | (with_reducible refine Kd.zas ?_))); (case side6 => exact (Kd.R_reads' HO322.out).2.1); rintro e w41 ⟨rfl, hb⟩; refine ⟨_, rfl, ?_⟩; have n0_ := Aside0.mk (Kd.zau (by (with_reducible repeat (first | apply Kd.zac | apply Kd.zab | apply Kd.zae)); exact HO316.out) hb); have n1_ := Aside0.mk (Kd.zau (by (with_reducible repeat (first | apply Kd.zac | apply Kd.zab | apply Kd.zae)); exact HO319.out) hb); have n2_ := Aside0.mk (Kd.zau (by (with_reducible repeat (first | apply Kd.zac | apply Kd.zab | apply Kd.zae)); exact HO322.out) hb); have n3_ := Aside0.mk (zaa (g := gb311) (o := .cells #[.int .i64 a0_0, .slice A0_1 l0_1.length c0_1, .slice A0_2 l0_2.length c0_2, .slice A0_3 l0_3.length c0_3] 25 (0, 0)) (by (with_reducible repeat (first | refine za7 ?_ _ | refine za8 ?_ | refine za6 ?_ _)); exact BK311.out) hb); have n4_ := Aside0.mk (zad (by repeat (first | (with_reducible first | exact HB.out | apply za1 | apply za0 | apply za2 | refine za5 ?_ GE311.out) | exact HB.out)) hb); clear HO316; clear HO319; clear HO322; clear BK311; clear HB; have HO316 := n0_; have HO319 := n1_; have HO322 := n2_; have BK311 := n3_; have HB := n4_; clear n0_ n1_ n2_ n3_ n4_; (try clear hb); (try clear hb2); (try clear hk); (try clear hi); have hcz42_0 : w41.cell? ⟨gb311, 0, none⟩ = some (.int .i64 a0_0) := (za4 BK311.out 0).trans rfl; have hcz42_1 : w41.cell? ⟨gb311, 1, none⟩ = some (.slice A0_1 l0_1.length c0_1) := (za4 BK311.out 1).trans rfl; have hcz42_2 : w41.cell? ⟨gb311, 2, none⟩ = some (.slice A0_2 l0_2.length c0_2) := (za4 BK311.out 2).trans rfl; have hcz42_3 : w41.cell? ⟨gb311, 3, none⟩ = some (.slice A0_3 l0_3.length c0_3) := (za4 BK311.out 3).trans rfl; have hfz42_0 := za3 BK311.out 0; have hfz42_1 := za3 BK311.out 1; have hfz42_2 := za3 BK311.out 2; have hfz42_3 := za3 BK311.out 3) | ((with_reducible refine zal (f := 18) rfl ?_); refine zb1 (some 16) rfl rfl Try.func18 (by kernel_rfl) rfl #[.agg #[.int .i64 a0_0, .slice A0_1 l0_1.length c0_1, .slice A0_2 l0_2.length c0_2, .slice A0_3 l0_3.length c0_3]] rfl (by (try simp only [List.map_toArray, List.map_cons, List.map_nil]); first | done | rfl | (simp only [List.length_drop, List.length_take]; rfl)) ?_; (with_reducible refine (laws_toRegCode.calls k a0_0 _ _ l0_1 _ _ l0_2 _ _ l0_3 t324 t325 t328 t331 _ ?side1 ?side2 ?side3 ?side4 ?side5 ?side6 A9.out).mono ?_); (case side1 => repeat (first | exact (Kd.zao HR0_1.out HB.out) | (with_reducible refine Kd.zan ?_ _) | (with_reducible refine Kd.zam ?_ _) | (with_reducible refine Kd.zas ?_))); (case side2 => exact HC0_1.out); (case side3 => repeat (first | exact (Kd.zao HR0_2.out HB.out) | (with_reducible refine Kd.zan ?_ _) | (with_reducible refine Kd.zam ?_ _) | (with_reducible refine Kd.zas ?_))); (case side4 => exact HC0_2.out); (case side5 => repeat (first | exact (Kd.zao HR0_3.out HB.out) | (with_reducible refine Kd.zan ?_ _) | (with_reducible refine Kd.zam ?_ _) | (with_reducible refine Kd.zas ?_))); (case side6 => exact HC0_3.out); rintro e w43 ⟨v326, v329, v332, rfl, ho0, ho1, ho2, hb⟩; refine ⟨_, rfl, ?_⟩; have n0_ := Aside0.mk (Kd.zav (Kd.R_told (Kd.R_told (Kd.R_old (by (with_reducible repeat (first | apply Kd.zac | apply Kd.zab | apply Kd.zae)); exact HO316.out) hb) (Kd.R_base ho0)) (Kd.R_base ho2)) (fun _ h_ => h_.1)); have n1_ := Aside0.mk (Kd.R_elder' (by (with_reducible repeat (first | apply Kd.zac | apply Kd.zab | apply Kd.zae)); exact HO319.out) (Kd.R_base ho1) hb); have n2_ := Aside0.mk (Kd.zav (Kd.R_told (Kd.R_told (Kd.R_old (by (with_reducible repeat (first | apply Kd.zac | apply Kd.zab | apply Kd.zae)); exact HO322.out) hb) (Kd.R_base ho0)) (Kd.R_base ho2)) (fun _ h_ => h_.1)); have n3_ := Aside0.mk (Kd.zb5 (Kd.R_new' (Kd.R_new' ho0 (Kd.R_lt (by (with_reducible repeat (first | apply Kd.zac | apply Kd.zab | apply Kd.zae)); exact HO316.out))) (Kd.R_lt (by (with_reducible repeat (first | apply Kd.zac | apply Kd.zab | apply Kd.zae)); exact HO322.out))) (za9 (by repeat (first | (with_reducible first | exact HB.out | apply za1 | apply za0 | apply za2 | refine za5 ?_ GE311.out) | exact HB.out)))); have n4_ := Aside0.mk (Kd.zb5 (Kd.R_new' ho1 (Kd.R_lt (by (with_reducible repeat (first | apply Kd.zac | apply Kd.zab | apply Kd.zae)); exact HO319.out))) (za9 (by repeat (first | (with_reducible first | exact HB.out | apply za1 | apply za0 | apply za2 | refine za5 ?_ GE311.out) | exact HB.out)))); have n5_ := Aside0.mk (Kd.zb5 (Kd.R_new' (Kd.R_new' ho2 (Kd.R_lt (by (with_reducible repeat (first | apply Kd.zac | apply Kd.zab | apply Kd.zae)); exact HO316.out))) (Kd.R_lt (by (with_reducible repeat (first | apply Kd.zac | apply Kd.zab | apply Kd.zae)); exact HO322.out))) (za9 (by repeat (first | (with_reducible first | exact HB.out | apply za1 | apply za0 | apply za2 | refine za5 ?_ GE311.out) | exact HB.out)))); have n6_ := Aside0.mk (zaa (g := gb311) (o := .cells #[.int .i64 a0_0, .slice A0_1 l0_1.length c0_1, .slice A0_2 l0_2.length c0_2, .slice A0_3 l0_3.length c0_3] 25 (0, 0)) (by (with_reducible repeat (first | refine za7 ?_ _ | refine za8 ?_ | refine za6 ?_ _)); exact BK311.out) hb); have n7_ := Aside0.mk (zad (by repeat (first | (with_reducible first | exact HB.out | apply za1 | apply za0 | apply za2 | refine za5 ?_ GE311.out) | exact HB.out)) hb); clear HO316; clear HO319; clear HO322; clear BK311; clear HB; have HO316 := n0_; have HO319 := n1_; have HO322 := n2_; have HO327 := n3_; have HO330 := n4_; have HO333 := n5_; have BK311 := n6_; have HB := n7_; clear n0_ n1_ n2_ n3_ n4_ n5_ n6_ n7_; (try clear hb); (try clear hb2); (try clear hk); (try clear hi); (try clear ho0); (try clear ho1); (try clear ho2)) | ((with_reducible refine zar (N := 5) rfl ?_); refine zaq ?hg (N := 5) ?hd (cs := #[.int .i64 0, .slice none 0 0, .slice none 0 0, .slice none 0 0]) (t := 30) ?hr ?_; (case hd => rfl); (case hg => rfl); (case hr => first | (go_simp; done) | (go_simp; rfl)); intro gb334 hg w44 hbox hb; have n0_ := Aside0.mk (Kd.zau (by (with_reducible repeat (first | apply Kd.zac | apply Kd.zab | apply Kd.zae)); exact HO316.out) hb); have n1_ := Aside0.mk (Kd.zau (by (with_reducible repeat (first | apply Kd.zac | apply Kd.zab | apply Kd.zae)); exact HO319.out) hb); have n2_ := Aside0.mk (Kd.zau (by (with_reducible repeat (first | apply Kd.zac | apply Kd.zab | apply Kd.zae)); exact HO322.out) hb); have n3_ := Aside0.mk (Kd.zau (by (with_reducible repeat (first | apply Kd.zac | apply Kd.zab | apply Kd.zae)); exact HO327.out) hb); have n4_ := Aside0.mk (Kd.zau (by (with_reducible repeat (first | apply Kd.zac | apply Kd.zab | apply Kd.zae)); exact HO330.out) hb); have n5_ := Aside0.mk (Kd.zau (by (with_reducible repeat (first | apply Kd.zac | apply Kd.zab | apply Kd.zae)); exact HO333.out) hb); have n6_ := Aside0.mk (zaa (g := gb311) (o := .cells #[.int .i64 a0_0, .slice A0_1 l0_1.length c0_1, .slice A0_2 l0_2.length c0_2, .slice A0_3 l0_3.length c0_3] 25 (0, 0)) (by (with_reducible repeat (first | refine za7 ?_ _ | refine za8 ?_ | refine za6 ?_ _)); exact BK311.out) hb); have n7_ := Aside0.mk (zad (by repeat (first | (with_reducible first | exact HB.out | apply za1 | apply za0 | apply za2 | refine za5 ?_ GE311.out) | exact HB.out)) hb); have n8_ := Aside0.mk (hbox); have n9_ := Aside0.mk ((by rw [hg]; exact (za9 (by repeat (first | (with_reducible first | exact HB.out | apply za1 | apply za0 | apply za2 | refine za5 ?_ GE311.out) | exact HB.out))) : w.heap.size ≤ gb334)); have n10_ := Aside0.mk ((by rw [hg]; exact (za9 (by repeat (first | (with_reducible first | exact HB.out | apply za1 | apply za0 | apply za2 | refine za5 ?_ GE311.out) | exact HB.out))) : w.heap.size ≤ gb334)); have n11_ := Aside0.mk ((by rw [hg]; exact Nat.ne_of_lt (zax (g := gb311) (o := .cells #[.int .i64 a0_0, .slice A0_1 l0_1.length c0_1, .slice A0_2 l0_2.length c0_2, .slice A0_3 l0_3.length c0_3] 25 (0, 0)) (by (with_reducible repeat (first | refine za7 ?_ _ | refine za8 ?_ | refine za6 ?_ _)); exact BK311.out)) : gb311 ≠ gb334)); have n12_ := Aside0.mk ((by rw [hg]; exact Nat.ne_of_gt (zax (g := gb311) (o := .cells #[.int .i64 a0_0, .slice A0_1 l0_1.length c0_1, .slice A0_2 l0_2.length c0_2, .slice A0_3 l0_3.length c0_3] 25 (0, 0)) (by (with_reducible repeat (first | refine za7 ?_ _ | refine za8 ?_ | refine za6 ?_ _)); exact BK311.out)) : gb334 ≠ gb311)); clear HO316; clear HO319; clear HO322; clear HO327; clear HO330; clear HO333; clear BK311; clear HB; have HO316 := n0_; have HO319 := n1_; have HO322 := n2_; have HO327 := n3_; have HO330 := n4_; have HO333 := n5_; have BK311 := n6_; have HB := n7_; have BK334 := n8_; have GW334 := n9_; have GE334 := n10_; have NB311_334 := n11_; have NB334_311 := n12_; clear n0_ n1_ n2_ n3_ n4_ n5_ n6_ n7_ n8_ n9_ n10_ n11_ n12_; clear hb hbox hg; have hnb45 := NB334_311.out; have hnc45 := NB311_334.out; have hcz46_0 : w44.cell? ⟨gb334, 0, none⟩ = some (.int .i64 0) := (za4 BK334.out 0).trans rfl; have hcz46_1 : w44.cell? ⟨gb334, 1, none⟩ = some (.slice none 0 0) := (za4 BK334.out 1).trans rfl; have hcz46_2 : w44.cell? ⟨gb334, 2, none⟩ = some (.slice none 0 0) := (za4 BK334.out 2).trans rfl; have hcz46_3 : w44.cell? ⟨gb334, 3, none⟩ = some (.slice none 0 0) := (za4 BK334.out 3).trans rfl; have hfz46_0 := za3 BK334.out 0; have hfz46_1 := za3 BK334.out 1; have hfz46_2 := za3 BK334.out 2; have hfz46_3 := za3 BK334.out 3; obtain ⟨Ao47, co47, eo47⟩ := Kd.zb0 HO327.out; subst eo47; obtain ⟨Ao48, co48, eo48⟩ := Kd.zb0 HO330.out; subst eo48; obtain ⟨Ao49, co49, eo49⟩ := Kd.zb0 HO333.out; subst eo49) | ((with_reducible refine zal (f := 19) rfl ?_); refine zb1 (some 18) rfl rfl Try.func19 (by kernel_rfl) rfl #[.agg #[.int .i64 t324, .slice Ao47 t325.length co47, .slice Ao48 t328.length co48, .slice Ao49 t331.length co49]] rfl (by (try simp only [List.map_toArray, List.map_cons, List.map_nil]); first | done | rfl | (simp only [List.length_drop, List.length_take]; rfl)) ?_; (with_reducible refine (impl_IsRegCode.calls k t324 _ _ t325 _ _ t328 _ _ t331 t335 _ ?side1 ?side2 ?side3 ?side4 ?side5 ?side6 A10.out).mono ?_); (case side1 => refine (Kd.R_reads' (e := 3) (base := w.heap.size) (ok := fun k_ => ((some k_ ≠ (.slice Ao49 t331.length co49 : Value).ownBlock ∧ some k_ ≠ (.slice Ao38 t314.length co38 : Value).ownBlock) ∧ some k_ ≠ (.slice Ao40 t320.length co40 : Value).ownBlock)) (n := t325.length) (c := co47) ?_).2.2; exact (by (with_reducible repeat (first | apply Kd.zac | apply Kd.zab | apply Kd.zae)); exact (Kd.zav (Kd.R_far (p := ⟨gb334, 3, none⟩) (Kd.R_far (p := ⟨gb334, 2, none⟩) (Kd.R_far (p := ⟨gb334, 1, none⟩) (Kd.R_far (p := ⟨gb334, 0, none⟩) (Kd.zb4 HO327.out BK334.out (by decide)) (fun _ hk => hk.2) (.int .i64 t324)) (fun _ hk => hk.2) (.slice Ao47 t325.length co47)) (fun _ hk => hk.2) (.slice Ao48 t328.length co48)) (fun _ hk => hk.2) (.slice Ao49 t331.length co49)) (fun _ h_ => h_.1)))); (case side2 => exact (Kd.R_reads' HO327.out).2.1); (case side3 => refine (Kd.R_reads' (e := 80) (base := w.heap.size) (ok := fun k_ => (True ∧ some k_ ≠ (.slice Ao39 t317.length co39 : Value).ownBlock)) (n := t328.length) (c := co48) ?_).2.2; exact (by (with_reducible repeat (first | apply Kd.zac | apply Kd.zab | apply Kd.zae)); exact (Kd.zav (Kd.R_far (p := ⟨gb334, 3, none⟩) (Kd.R_far (p := ⟨gb334, 2, none⟩) (Kd.R_far (p := ⟨gb334, 1, none⟩) (Kd.R_far (p := ⟨gb334, 0, none⟩) (Kd.zb4 HO330.out BK334.out (by decide)) (fun _ hk => hk.2) (.int .i64 t324)) (fun _ hk => hk.2) (.slice Ao47 t325.length co47)) (fun _ hk => hk.2) (.slice Ao48 t328.length co48)) (fun _ hk => hk.2) (.slice Ao49 t331.length co49)) (fun _ h_ => h_.1)))); (case side4 => exact (Kd.R_reads' HO330.out).2.1); (case side5 => refine (Kd.R_reads' (e := 3) (base := w.heap.size) (ok := fun k_ => ((some k_ ≠ (.slice Ao47 t325.length co47 : Value).ownBlock ∧ some k_ ≠ (.slice Ao38 t314.length co38 : Value).ownBlock) ∧ some k_ ≠ (.slice Ao40 t320.length co40 : Value).ownBlock)) (n := t331.length) (c := co49) ?_).2.2; exact (by (with_reducible repeat (first | apply Kd.zac | apply Kd.zab | apply Kd.zae)); exact (Kd.zav (Kd.R_far (p := ⟨gb334, 3, none⟩) (Kd.R_far (p := ⟨gb334, 2, none⟩) (Kd.R_far (p := ⟨gb334, 1, none⟩) (Kd.R_far (p := ⟨gb334, 0, none⟩) (Kd.zb4 HO333.out BK334.out (by decide)) (fun _ hk => hk.2) (.int .i64 t324)) (fun _ hk => hk.2) (.slice Ao47 t325.length co47)) (fun _ hk => hk.2) (.slice Ao48 t328.length co48)) (fun _ hk => hk.2) (.slice Ao49 t331.length co49)) (fun _ h_ => h_.1)))); (case side6 => exact (Kd.R_reads' HO333.out).2.1); rintro e w50 ⟨rfl, hb⟩; refine ⟨_, rfl, ?_⟩; have n0_ := Aside0.mk (Kd.zau (by (with_reducible repeat (first | apply Kd.zac | apply Kd.zab | apply Kd.zae)); exact (Kd.zav (Kd.R_far (p := ⟨gb334, 3, none⟩) (Kd.R_far (p := ⟨gb334, 2, none⟩) (Kd.R_far (p := ⟨gb334, 1, none⟩) (Kd.R_far (p := ⟨gb334, 0, none⟩) (Kd.zb4 HO316.out BK334.out (by decide)) (fun _ hk => hk.2) (.int .i64 t324)) (fun _ hk => hk.2) (.slice Ao47 t325.length co47)) (fun _ hk => hk.2) (.slice Ao48 t328.length co48)) (fun _ hk => hk.2) (.slice Ao49 t331.length co49)) (fun _ h_ => h_.1))) hb); have n1_ := Aside0.mk (Kd.zau (by (with_reducible repeat (first | apply Kd.zac | apply Kd.zab | apply Kd.zae)); exact (Kd.zav (Kd.R_far (p := ⟨gb334, 3, none⟩) (Kd.R_far (p := ⟨gb334, 2, none⟩) (Kd.R_far (p := ⟨gb334, 1, none⟩) (Kd.R_far (p := ⟨gb334, 0, none⟩) (Kd.zb4 HO319.out BK334.out (by decide)) (fun _ hk => hk.2) (.int .i64 t324)) (fun _ hk => hk.2) (.slice Ao47 t325.length co47)) (fun _ hk => hk.2) (.slice Ao48 t328.length co48)) (fun _ hk => hk.2) (.slice Ao49 t331.length co49)) (fun _ h_ => h_.1))) hb); have n2_ := Aside0.mk (Kd.zau (by (with_reducible repeat (first | apply Kd.zac | apply Kd.zab | apply Kd.zae)); exact (Kd.zav (Kd.R_far (p := ⟨gb334, 3, none⟩) (Kd.R_far (p := ⟨gb334, 2, none⟩) (Kd.R_far (p := ⟨gb334, 1, none⟩) (Kd.R_far (p := ⟨gb334, 0, none⟩) (Kd.zb4 HO322.out BK334.out (by decide)) (fun _ hk => hk.2) (.int .i64 t324)) (fun _ hk => hk.2) (.slice Ao47 t325.length co47)) (fun _ hk => hk.2) (.slice Ao48 t328.length co48)) (fun _ hk => hk.2) (.slice Ao49 t331.length co49)) (fun _ h_ => h_.1))) hb); have n3_ := Aside0.mk (Kd.zau (by (with_reducible repeat (first | apply Kd.zac | apply Kd.zab | apply Kd.zae)); exact (Kd.zav (Kd.R_far (p := ⟨gb334, 3, none⟩) (Kd.R_far (p := ⟨gb334, 2, none⟩) (Kd.R_far (p := ⟨gb334, 1, none⟩) (Kd.R_far (p := ⟨gb334, 0, none⟩) (Kd.zb4 HO327.out BK334.out (by decide)) (fun _ hk => hk.2) (.int .i64 t324)) (fun _ hk => hk.2) (.slice Ao47 t325.length co47)) (fun _ hk => hk.2) (.slice Ao48 t328.length co48)) (fun _ hk => hk.2) (.slice Ao49 t331.length co49)) (fun _ h_ => h_.1))) hb); have n4_ := Aside0.mk (Kd.zau (by (with_reducible repeat (first | apply Kd.zac | apply Kd.zab | apply Kd.zae)); exact (Kd.zav (Kd.R_far (p := ⟨gb334, 3, none⟩) (Kd.R_far (p := ⟨gb334, 2, none⟩) (Kd.R_far (p := ⟨gb334, 1, none⟩) (Kd.R_far (p := ⟨gb334, 0, none⟩) (Kd.zb4 HO330.out BK334.out (by decide)) (fun _ hk => hk.2) (.int .i64 t324)) (fun _ hk => hk.2) (.slice Ao47 t325.length co47)) (fun _ hk => hk.2) (.slice Ao48 t328.length co48)) (fun _ hk => hk.2) (.slice Ao49 t331.length co49)) (fun _ h_ => h_.1))) hb); have n5_ := Aside0.mk (Kd.zau (by (with_reducible repeat (first | apply Kd.zac | apply Kd.zab | apply Kd.zae)); exact (Kd.zav (Kd.R_far (p := ⟨gb334, 3, none⟩) (Kd.R_far (p := ⟨gb334, 2, none⟩) (Kd.R_far (p := ⟨gb334, 1, none⟩) (Kd.R_far (p := ⟨gb334, 0, none⟩) (Kd.zb4 HO333.out BK334.out (by decide)) (fun _ hk => hk.2) (.int .i64 t324)) (fun _ hk => hk.2) (.slice Ao47 t325.length co47)) (fun _ hk => hk.2) (.slice Ao48 t328.length co48)) (fun _ hk => hk.2) (.slice Ao49 t331.length co49)) (fun _ h_ => h_.1))) hb); have n6_ := Aside0.mk (zaa (g := gb311) (o := .cells #[.int .i64 a0_0, .slice A0_1 l0_1.length c0_1, .slice A0_2 l0_2.length c0_2, .slice A0_3 l0_3.length c0_3] 25 (0, 0)) (by (with_reducible repeat (first | refine za7 ?_ _ | refine za8 ?_ | refine za6 ?_ _)); refine zaz ?_ NB311_334.out _; (with_reducible repeat (first | refine za7 ?_ _ | refine za8 ?_ | refine za6 ?_ _)); refine zaz ?_ NB311_334.out _; (with_reducible repeat (first | refine za7 ?_ _ | refine za8 ?_ | refine za6 ?_ _)); refine zaz ?_ NB311_334.out _; (with_reducible repeat (first | refine za7 ?_ _ | refine za8 ?_ | refine za6 ?_ _)); refine zaz ?_ NB311_334.out _; (with_reducible repeat (first | refine za7 ?_ _ | refine za8 ?_ | refine za6 ?_ _)); exact BK311.out) hb); have n7_ := Aside0.mk (zaa (g := gb334) (o := .cells #[.int .i64 t324, .slice Ao47 t325.length co47, .slice Ao48 t328.length co48, .slice Ao49 t331.length co49] 30 (0, 0)) (by (with_reducible repeat (first | refine za7 ?_ _ | refine za8 ?_ | refine za6 ?_ _)); refine zaw (cs := #[.int .i64 t324, .slice Ao47 t325.length co47, .slice Ao48 t328.length co48, .slice none 0 0]) ?_ 3 _ rfl; (with_reducible repeat (first | refine za7 ?_ _ | refine za8 ?_ | refine za6 ?_ _)); refine zaw (cs := #[.int .i64 t324, .slice Ao47 t325.length co47, .slice none 0 0, .slice none 0 0]) ?_ 2 _ rfl; (with_reducible repeat (first | refine za7 ?_ _ | refine za8 ?_ | refine za6 ?_ _)); refine zaw (cs := #[.int .i64 t324, .slice none 0 0, .slice none 0 0, .slice none 0 0]) ?_ 1 _ rfl; (with_reducible repeat (first | refine za7 ?_ _ | refine za8 ?_ | refine za6 ?_ _)); refine zaw (cs := #[.int .i64 0, .slice none 0 0, .slice none 0 0, .slice none 0 0]) ?_ 0 _ rfl; (with_reducible repeat (first | refine za7 ?_ _ | refine za8 ?_ | refine za6 ?_ _)); exact BK334.out) hb); have n8_ := Aside0.mk (zad (by repeat (first | (with_reducible first | exact HB.out | apply za1 | apply za0 | apply za2 | refine za5 ?_ GE311.out | refine za5 ?_ GE334.out) | exact HB.out)) hb); clear HO316; clear HO319; clear HO322; clear HO327; clear HO330; clear HO333; clear BK311; clear BK334; clear HB; have HO316 := n0_; have HO319 := n1_; have HO322 := n2_; have HO327 := n3_; have HO330 := n4_; have HO333 := n5_; have BK311 := n6_; have BK334 := n7_; have HB := n8_; clear n0_ n1_ n2_ n3_ n4_ n5_ n6_ n7_ n8_; (try clear hb); (try clear hb2); (try clear hk); (try clear hi)))
        have n0_ := Aside0.mk (Kd.zae HO316.out)
        have n1_ := Aside0.mk (Kd.zae HO319.out)
        have n2_ := Aside0.mk (Kd.zae HO322.out)
        have n3_ := Aside0.mk (Kd.zae HO327.out)
        have n4_ := Aside0.mk (Kd.zae HO330.out)
        have n5_ := Aside0.mk (Kd.zae HO333.out)
        have n6_ := Aside0.mk (za8 BK311.out)
        have n7_ := Aside0.mk (za8 BK334.out)
        have n8_ := Aside0.mk (za2 HB.out)
        clear HO316
        clear HO319
        clear HO322
        clear HO327
        clear HO330
        clear HO333
        clear BK311
        clear BK334
        clear HB
        have HO316 := n0_
        have HO319 := n1_
        have HO322 := n2_
        have HO327 := n3_
        have HO330 := n4_
        have HO333 := n5_
        have BK311 := n6_
        have BK334 := n7_
        have HB := n8_
        clear n0_ n1_ n2_ n3_ n4_ n5_ n6_ n7_ n8_
        refine start_ (n := 5) (S := fun w' => w'.cell? ⟨gb334, 0, none⟩ = some (.int .i64 t324) ∧ w'.cell? ⟨gb334, 1, none⟩ = some (.slice Ao47 t325.length co47) ∧ w'.cell? ⟨gb334, 2, none⟩ = some (.slice Ao48 t328.length co48) ∧ w'.cell? ⟨gb334, 3, none⟩ = some (.slice Ao49 t331.length co49) ∧ w'.cell? ⟨gb311, 0, none⟩ = some (.int .i64 a0_0) ∧ w'.cell? ⟨gb311, 1, none⟩ = some (.slice A0_1 l0_1.length c0_1) ∧ w'.cell? ⟨gb311, 2, none⟩ = some (.slice A0_2 l0_2.length c0_2) ∧ w'.cell? ⟨gb311, 3, none⟩ = some (.slice A0_3 l0_3.length c0_3)) (ds := []) #[false, false, false, false, false] (by kernel_rfl) rfl rfl ⟨(za4 BK334.out 0).trans rfl, (za4 BK334.out 1).trans rfl, (za4 BK334.out 2).trans rfl, (za4 BK334.out 3).trans rfl, (za4 BK311.out 0).trans rfl, (za4 BK311.out 1).trans rfl, (za4 BK311.out 2).trans rfl, (za4 BK311.out 3).trans rfl⟩ (fun hHeld => ?_)
        generalize w50.drew = w51 at HO316 HO319 HO322 HO327 HO330 HO333 BK311 BK334 HB hHeld ⊢
        refine take_ (i := 0) (N := some 22) (v := ?_) (a' := ?_) #[true, false, false, false, false] rfl rfl (by kernel_rfl) (fun _ _ _ h => h) (Or.inl ⟨by rfl, ?_⟩) hHeld ?_ ?_
        rotate_left
        · rintro w' ⟨s0, s1, s2, s3, s4, s5, s6, s7⟩
          go_simp
          with_reducible rfl
        rotate_left
        · simp only [Act.put, List.setIfInBounds_toArray, List.set_cons_zero, List.set_cons_succ, i64_w, i32_w]
          rfl
        refine take_ (i := 1) (N := some 23) (v := ?_) (a' := ?_) #[true, true, false, false, false] rfl rfl (by kernel_rfl) (fun _ _ _ h => h) (Or.inl ⟨by rfl, ?_⟩) hHeld ?_ ?_
        rotate_left
        · rintro w' ⟨s0, s1, s2, s3, s4, s5, s6, s7⟩
          go_simp
          with_reducible rfl
        rotate_left
        · simp only [Act.put, List.setIfInBounds_toArray, List.set_cons_zero, List.set_cons_succ, i64_w, i32_w]
          rfl
        refine one_ (i := 2) (N := some 24) #[true, true, true, false, false] rfl rfl (by kernel_rfl) (by decide) (fun K hK => ?_)
        refine goes_ Try.func18 (by kernel_rfl) rfl #[.agg #[.int .i64 a0_0, .slice A0_1 l0_1.length c0_1, .slice A0_2 l0_2.length c0_2, .slice A0_3 l0_3.length c0_3]] (by rfl) rfl rfl (by (try simp only [List.map_toArray, List.map_cons, List.map_nil]); first | done | rfl | (simp only [List.length_drop, List.length_take]; rfl)) ?_
        with_reducible refine (laws_toRegCode.calls k a0_0 _ _ l0_1 _ _ l0_2 _ _ l0_3 t336 t337 t340 t343 _ ?side1 ?side2 ?side3 ?side4 ?side5 ?side6 A30.out).mono ?_
        (case side1 => repeat (first | exact (Kd.zao HR0_1.out HB.out) | (with_reducible refine Kd.zan ?_ _) | (with_reducible refine Kd.zam ?_ _) | (with_reducible refine Kd.zas ?_)))
        (case side2 => exact HC0_1.out)
        (case side3 => repeat (first | exact (Kd.zao HR0_2.out HB.out) | (with_reducible refine Kd.zan ?_ _) | (with_reducible refine Kd.zam ?_ _) | (with_reducible refine Kd.zas ?_)))
        (case side4 => exact HC0_2.out)
        (case side5 => repeat (first | exact (Kd.zao HR0_3.out HB.out) | (with_reducible refine Kd.zan ?_ _) | (with_reducible refine Kd.zam ?_ _) | (with_reducible refine Kd.zas ?_)))
        (case side6 => exact HC0_3.out)
        rintro e w52 ⟨v338, v341, v344, rfl, ho0, ho1, ho2, hb⟩
        refine ⟨_, rfl, ?_⟩
        have n0_ := Aside0.mk (Kd.zav (Kd.R_told (Kd.R_told (Kd.R_old (by (with_reducible repeat (first | apply Kd.zac | apply Kd.zab | apply Kd.zae)); exact HO316.out) hb) (Kd.R_base ho0)) (Kd.R_base ho2)) (fun _ h_ => h_.1))
        have n1_ := Aside0.mk (Kd.R_elder' (by (with_reducible repeat (first | apply Kd.zac | apply Kd.zab | apply Kd.zae)); exact HO319.out) (Kd.R_base ho1) hb)
        have n2_ := Aside0.mk (Kd.zav (Kd.R_told (Kd.R_told (Kd.R_old (by (with_reducible repeat (first | apply Kd.zac | apply Kd.zab | apply Kd.zae)); exact HO322.out) hb) (Kd.R_base ho0)) (Kd.R_base ho2)) (fun _ h_ => h_.1))
        have n3_ := Aside0.mk (Kd.zav (Kd.R_told (Kd.R_told (Kd.R_old (by (with_reducible repeat (first | apply Kd.zac | apply Kd.zab | apply Kd.zae)); exact HO327.out) hb) (Kd.R_base ho0)) (Kd.R_base ho2)) (fun _ h_ => h_.1))
        have n4_ := Aside0.mk (Kd.R_elder' (by (with_reducible repeat (first | apply Kd.zac | apply Kd.zab | apply Kd.zae)); exact HO330.out) (Kd.R_base ho1) hb)
        have n5_ := Aside0.mk (Kd.zav (Kd.R_told (Kd.R_told (Kd.R_old (by (with_reducible repeat (first | apply Kd.zac | apply Kd.zab | apply Kd.zae)); exact HO333.out) hb) (Kd.R_base ho0)) (Kd.R_base ho2)) (fun _ h_ => h_.1))
        have n6_ := Aside0.mk (Kd.zb5 (Kd.R_new' (Kd.R_new' (Kd.R_new' (Kd.R_new' ho0 (Kd.R_lt (by (with_reducible repeat (first | apply Kd.zac | apply Kd.zab | apply Kd.zae)); exact HO316.out))) (Kd.R_lt (by (with_reducible repeat (first | apply Kd.zac | apply Kd.zab | apply Kd.zae)); exact HO322.out))) (Kd.R_lt (by (with_reducible repeat (first | apply Kd.zac | apply Kd.zab | apply Kd.zae)); exact HO327.out))) (Kd.R_lt (by (with_reducible repeat (first | apply Kd.zac | apply Kd.zab | apply Kd.zae)); exact HO333.out))) (za9 (by repeat (first | (with_reducible first | exact HB.out | apply za1 | apply za0 | apply za2 | refine za5 ?_ GE311.out | refine za5 ?_ GE334.out) | exact HB.out))))
        have n7_ := Aside0.mk (Kd.zb5 (Kd.R_new' (Kd.R_new' ho1 (Kd.R_lt (by (with_reducible repeat (first | apply Kd.zac | apply Kd.zab | apply Kd.zae)); exact HO319.out))) (Kd.R_lt (by (with_reducible repeat (first | apply Kd.zac | apply Kd.zab | apply Kd.zae)); exact HO330.out))) (za9 (by repeat (first | (with_reducible first | exact HB.out | apply za1 | apply za0 | apply za2 | refine za5 ?_ GE311.out | refine za5 ?_ GE334.out) | exact HB.out))))
        have n8_ := Aside0.mk (Kd.zb5 (Kd.R_new' (Kd.R_new' (Kd.R_new' (Kd.R_new' ho2 (Kd.R_lt (by (with_reducible repeat (first | apply Kd.zac | apply Kd.zab | apply Kd.zae)); exact HO316.out))) (Kd.R_lt (by (with_reducible repeat (first | apply Kd.zac | apply Kd.zab | apply Kd.zae)); exact HO322.out))) (Kd.R_lt (by (with_reducible repeat (first | apply Kd.zac | apply Kd.zab | apply Kd.zae)); exact HO327.out))) (Kd.R_lt (by (with_reducible repeat (first | apply Kd.zac | apply Kd.zab | apply Kd.zae)); exact HO333.out))) (za9 (by repeat (first | (with_reducible first | exact HB.out | apply za1 | apply za0 | apply za2 | refine za5 ?_ GE311.out | refine za5 ?_ GE334.out) | exact HB.out))))
        have n9_ := Aside0.mk (zaa (g := gb311) (o := .cells #[.int .i64 a0_0, .slice A0_1 l0_1.length c0_1, .slice A0_2 l0_2.length c0_2, .slice A0_3 l0_3.length c0_3] 25 (0, 0)) (by (with_reducible repeat (first | refine za7 ?_ _ | refine za8 ?_ | refine za6 ?_ _)); exact BK311.out) hb)
        have n10_ := Aside0.mk (zaa (g := gb334) (o := .cells #[.int .i64 t324, .slice Ao47 t325.length co47, .slice Ao48 t328.length co48, .slice Ao49 t331.length co49] 30 (0, 0)) (by (with_reducible repeat (first | refine za7 ?_ _ | refine za8 ?_ | refine za6 ?_ _)); exact BK334.out) hb)
        have n11_ := Aside0.mk (zad (by repeat (first | (with_reducible first | exact HB.out | apply za1 | apply za0 | apply za2 | refine za5 ?_ GE311.out | refine za5 ?_ GE334.out) | exact HB.out)) hb)
        clear HO316
        clear HO319
        clear HO322
        clear HO327
        clear HO330
        clear HO333
        clear BK311
        clear BK334
        clear HB
        have HO316 := n0_
        have HO319 := n1_
        have HO322 := n2_
        have HO327 := n3_
        have HO330 := n4_
        have HO333 := n5_
        have HO339 := n6_
        have HO342 := n7_
        have HO345 := n8_
        have BK311 := n9_
        have BK334 := n10_
        have HB := n11_
        clear n0_ n1_ n2_ n3_ n4_ n5_ n6_ n7_ n8_ n9_ n10_ n11_
        (try clear hb)
        (try clear hb2)
        (try clear hk)
        (try clear hi)
        (try clear ho0)
        (try clear ho1)
        (try clear ho2)
        obtain ⟨Ao53, co53, eo53⟩ := Kd.zb0 HO339.out
        (first | subst eo53 | (injection eo53 with f1_ f2_ f3_; have f4_ := f1_.symm; have f5_ := f3_.symm; clear f1_ f2_ f3_; subst f4_; subst f5_))
        obtain ⟨Ao54, co54, eo54⟩ := Kd.zb0 HO342.out
        (first | subst eo54 | (injection eo54 with f1_ f2_ f3_; have f4_ := f1_.symm; have f5_ := f3_.symm; clear f1_ f2_ f3_; subst f4_; subst f5_))
        obtain ⟨Ao55, co55, eo55⟩ := Kd.zb0 HO345.out
        (first | subst eo55 | (injection eo55 with f1_ f2_ f3_; have f4_ := f1_.symm; have f5_ := f3_.symm; clear f1_ f2_ f3_; subst f4_; subst f5_))
        refine hK.out _ _ ⟨(za4 BK334.out 0).trans rfl, (za4 BK334.out 1).trans rfl, (za4 BK334.out 2).trans rfl, (za4 BK334.out 3).trans rfl, (za4 BK311.out 0).trans rfl, (za4 BK311.out 1).trans rfl, (za4 BK311.out 2).trans rfl, (za4 BK311.out 3).trans rfl⟩ (fun hHeld => ?_)
        clear hK K
        refine norm_ (a' := ?_) ?_ ?_
        rotate_left
        · show Act.put _ (some 24) _ = _
          simp only [Act.put, List.setIfInBounds_toArray, List.set_cons_zero, List.set_cons_succ, i64_w, i32_w]
          rfl
        refine one_ (i := 3) (N := some 25) #[true, true, true, true, false] rfl rfl (by kernel_rfl) (by decide) (fun K hK => ?_)
        refine goes_ Try.func20 (by kernel_rfl) rfl #[.agg #[.int .i64 t324, .slice Ao47 t325.length co47, .slice Ao48 t328.length co48, .slice Ao49 t331.length co49], .agg #[.int .i64 t336, .slice Ao53 t337.length co53, .slice Ao54 t340.length co54, .slice Ao55 t343.length co55]] (by rfl) rfl rfl (by (try simp only [List.map_toArray, List.map_cons, List.map_nil]); first | done | rfl | (simp only [List.length_drop, List.length_take]; rfl)) ?_
        with_reducible refine (laws_eqRegCode.calls k t324 _ _ t325 _ _ t328 _ _ t331 t336 _ _ t337 _ _ t340 _ _ t343 true _ ?side1 ?side2 ?side3 ?side4 ?side5 ?side6 ?side7 ?side8 ?side9 ?side10 ?side11 ?side12 A31.out).mono ?_
        (case side1 => repeat (first | exact (Kd.R_reads' HO327.out).2.2 | (with_reducible refine Kd.zan ?_ _) | (with_reducible refine Kd.zam ?_ _) | (with_reducible refine Kd.zas ?_)))
        (case side2 => exact (Kd.R_reads' HO327.out).2.1)
        (case side3 => repeat (first | exact (Kd.R_reads' HO330.out).2.2 | (with_reducible refine Kd.zan ?_ _) | (with_reducible refine Kd.zam ?_ _) | (with_reducible refine Kd.zas ?_)))
        (case side4 => exact (Kd.R_reads' HO330.out).2.1)
        (case side5 => repeat (first | exact (Kd.R_reads' HO333.out).2.2 | (with_reducible refine Kd.zan ?_ _) | (with_reducible refine Kd.zam ?_ _) | (with_reducible refine Kd.zas ?_)))
        (case side6 => exact (Kd.R_reads' HO333.out).2.1)
        (case side7 => repeat (first | exact (Kd.R_reads' HO339.out).2.2 | (with_reducible refine Kd.zan ?_ _) | (with_reducible refine Kd.zam ?_ _) | (with_reducible refine Kd.zas ?_)))
        (case side8 => exact (Kd.R_reads' HO339.out).2.1)
        (case side9 => repeat (first | exact (Kd.R_reads' HO342.out).2.2 | (with_reducible refine Kd.zan ?_ _) | (with_reducible refine Kd.zam ?_ _) | (with_reducible refine Kd.zas ?_)))
        (case side10 => exact (Kd.R_reads' HO342.out).2.1)
        (case side11 => repeat (first | exact (Kd.R_reads' HO345.out).2.2 | (with_reducible refine Kd.zan ?_ _) | (with_reducible refine Kd.zam ?_ _) | (with_reducible refine Kd.zas ?_)))
        (case side12 => exact (Kd.R_reads' HO345.out).2.1)
        rintro e w56 ⟨rfl, hb⟩
        refine ⟨_, rfl, ?_⟩
        have n0_ := Aside0.mk (Kd.zau (by (with_reducible repeat (first | apply Kd.zac | apply Kd.zab | apply Kd.zae)); exact HO316.out) hb)
        have n1_ := Aside0.mk (Kd.zau (by (with_reducible repeat (first | apply Kd.zac | apply Kd.zab | apply Kd.zae)); exact HO319.out) hb)
        have n2_ := Aside0.mk (Kd.zau (by (with_reducible repeat (first | apply Kd.zac | apply Kd.zab | apply Kd.zae)); exact HO322.out) hb)
        have n3_ := Aside0.mk (Kd.zau (by (with_reducible repeat (first | apply Kd.zac | apply Kd.zab | apply Kd.zae)); exact HO327.out) hb)
        have n4_ := Aside0.mk (Kd.zau (by (with_reducible repeat (first | apply Kd.zac | apply Kd.zab | apply Kd.zae)); exact HO330.out) hb)
        have n5_ := Aside0.mk (Kd.zau (by (with_reducible repeat (first | apply Kd.zac | apply Kd.zab | apply Kd.zae)); exact HO333.out) hb)
        have n6_ := Aside0.mk (Kd.zau (by (with_reducible repeat (first | apply Kd.zac | apply Kd.zab | apply Kd.zae)); exact HO339.out) hb)
        have n7_ := Aside0.mk (Kd.zau (by (with_reducible repeat (first | apply Kd.zac | apply Kd.zab | apply Kd.zae)); exact HO342.out) hb)
        have n8_ := Aside0.mk (Kd.zau (by (with_reducible repeat (first | apply Kd.zac | apply Kd.zab | apply Kd.zae)); exact HO345.out) hb)
        have n9_ := Aside0.mk (zaa (g := gb311) (o := .cells #[.int .i64 a0_0, .slice A0_1 l0_1.length c0_1, .slice A0_2 l0_2.length c0_2, .slice A0_3 l0_3.length c0_3] 25 (0, 0)) (by (with_reducible repeat (first | refine za7 ?_ _ | refine za8 ?_ | refine za6 ?_ _)); exact BK311.out) hb)
        have n10_ := Aside0.mk (zaa (g := gb334) (o := .cells #[.int .i64 t324, .slice Ao47 t325.length co47, .slice Ao48 t328.length co48, .slice Ao49 t331.length co49] 30 (0, 0)) (by (with_reducible repeat (first | refine za7 ?_ _ | refine za8 ?_ | refine za6 ?_ _)); exact BK334.out) hb)
        have n11_ := Aside0.mk (zad (by repeat (first | (with_reducible first | exact HB.out | apply za1 | apply za0 | apply za2 | refine za5 ?_ GE311.out | refine za5 ?_ GE334.out) | exact HB.out)) hb)
        clear HO316
        clear HO319
        clear HO322
        clear HO327
        clear HO330
        clear HO333
        clear HO339
        clear HO342
        clear HO345
        clear BK311
        clear BK334
        clear HB
        have HO316 := n0_
        have HO319 := n1_
        have HO322 := n2_
        have HO327 := n3_
        have HO330 := n4_
        have HO333 := n5_
        have HO339 := n6_
        have HO342 := n7_
        have HO345 := n8_
        have BK311 := n9_
        have BK334 := n10_
        have HB := n11_
        clear n0_ n1_ n2_ n3_ n4_ n5_ n6_ n7_ n8_ n9_ n10_ n11_
        (try clear hb)
        (try clear hb2)
        (try clear hk)
        (try clear hi)
        refine hK.out _ _ ⟨(za4 BK334.out 0).trans rfl, (za4 BK334.out 1).trans rfl, (za4 BK334.out 2).trans rfl, (za4 BK334.out 3).trans rfl, (za4 BK311.out 0).trans rfl, (za4 BK311.out 1).trans rfl, (za4 BK311.out 2).trans rfl, (za4 BK311.out 3).trans rfl⟩ (fun hHeld => ?_)
        clear hK K
        refine norm_ (a' := ?_) ?_ ?_
        rotate_left
        · show Act.put _ (some 25) _ = _
          simp only [Act.put, List.setIfInBounds_toArray, List.set_cons_zero, List.set_cons_succ, i64_w, i32_w]
          rfl
        refine pure_ (i := 4) (N := some 26) (v := ?_) (a' := ?_) #[true, true, true, true, true] rfl rfl (by kernel_rfl) (fun _ _ _ h => h) (Or.inl ⟨by rfl, ?_⟩) ?_ ?_
        rotate_left
        · intro w'
          go_simp
          with_reducible rfl
        rotate_left
        · simp only [Act.put, List.setIfInBounds_toArray, List.set_cons_zero, List.set_cons_succ, i64_w, i32_w]
          rfl
        refine done_ (by kernel_rfl) ?_
        try go_wp2
        go_ret
        exact ⟨by first | rfl | (simp [zai, zaj] <;> rfl) | (simp [*, zai, zaj] <;> rfl), by repeat (first | (with_reducible first | exact HB.out | apply za1 | apply za0 | apply za2 | refine za5 ?_ GE311.out | refine za5 ?_ GE334.out) | exact HB.out)⟩
      · replace c32 := Bool.eq_false_iff.mpr c32
        subst c32
        have H1 : (some false) = some r := by rw [if_neg (show ¬ (false = true) by decide)] at H; exact H
        clear H
        have H := H1
        clear H1
        obtain rfl := Option.some.inj H
        go_enter Try.func3, Try.ntmps3
        try go_wp2_with (first | ((with_reducible refine zar (N := 1) rfl ?_); refine zaq ?hg (N := 1) ?hd (cs := #[.int .i64 a0_0, .slice A0_1 l0_1.length c0_1, .slice A0_2 l0_2.length c0_2, .slice A0_3 l0_3.length c0_3]) (t := 25) ?hr ?_; (case hd => rfl); (case hg => rfl); (case hr => first | (go_simp; done) | (go_simp; rfl)); intro gb311 hg w57 hbox hb; have n0_ := Aside0.mk (zad (by repeat (first | (with_reducible first | exact HB.out | apply za1 | apply za0 | apply za2) | exact HB.out)) hb); have n1_ := Aside0.mk (hbox); have n2_ := Aside0.mk ((by rw [hg]; exact (za9 (by repeat (first | (with_reducible first | exact HB.out | apply za1 | apply za0 | apply za2) | exact HB.out))) : w.heap.size ≤ gb311)); have n3_ := Aside0.mk ((by rw [hg]; exact (za9 (by repeat (first | (with_reducible first | exact HB.out | apply za1 | apply za0 | apply za2) | exact HB.out))) : w.heap.size ≤ gb311)); clear HB; have HB := n0_; have BK311 := n1_; have GW311 := n2_; have GE311 := n3_; clear n0_ n1_ n2_ n3_; clear hb hbox hg; have hcz58_0 : w57.cell? ⟨gb311, 0, none⟩ = some (.int .i64 a0_0) := (za4 BK311.out 0).trans rfl; have hcz58_1 : w57.cell? ⟨gb311, 1, none⟩ = some (.slice A0_1 l0_1.length c0_1) := (za4 BK311.out 1).trans rfl; have hcz58_2 : w57.cell? ⟨gb311, 2, none⟩ = some (.slice A0_2 l0_2.length c0_2) := (za4 BK311.out 2).trans rfl; have hcz58_3 : w57.cell? ⟨gb311, 3, none⟩ = some (.slice A0_3 l0_3.length c0_3) := (za4 BK311.out 3).trans rfl; have hfz58_0 := za3 BK311.out 0; have hfz58_1 := za3 BK311.out 1; have hfz58_2 := za3 BK311.out 2; have hfz58_3 := za3 BK311.out 3) | ((with_reducible refine zal (f := 16) rfl ?_); refine zb1 (some 9) rfl rfl Try.func16 (by kernel_rfl) rfl #[.agg #[.int .i64 a0_0, .slice A0_1 l0_1.length c0_1, .slice A0_2 l0_2.length c0_2, .slice A0_3 l0_3.length c0_3], .int .i64 1048576] rfl (by (try simp only [List.map_toArray, List.map_cons, List.map_nil]); first | done | rfl | (simp only [List.length_drop, List.length_take]; rfl)) ?_; (with_reducible refine (laws_szRegCode.calls a0_0 _ _ l0_1 _ _ l0_2 _ _ l0_3 1048576 t312 _ ?side1 ?side2 ?side3 ?side4 ?side5 ?side6 A2.out).mono ?_); (case side1 => repeat (first | exact (Kd.zao HR0_1.out HB.out) | (with_reducible refine Kd.zan ?_ _) | (with_reducible refine Kd.zam ?_ _) | (with_reducible refine Kd.zas ?_))); (case side2 => exact HC0_1.out); (case side3 => repeat (first | exact (Kd.zao HR0_2.out HB.out) | (with_reducible refine Kd.zan ?_ _) | (with_reducible refine Kd.zam ?_ _) | (with_reducible refine Kd.zas ?_))); (case side4 => exact HC0_2.out); (case side5 => repeat (first | exact (Kd.zao HR0_3.out HB.out) | (with_reducible refine Kd.zan ?_ _) | (with_reducible refine Kd.zam ?_ _) | (with_reducible refine Kd.zas ?_))); (case side6 => exact HC0_3.out); rintro e w59 ⟨rfl, hb⟩; refine ⟨_, rfl, ?_⟩; have n0_ := Aside0.mk (zaa (g := gb311) (o := .cells #[.int .i64 a0_0, .slice A0_1 l0_1.length c0_1, .slice A0_2 l0_2.length c0_2, .slice A0_3 l0_3.length c0_3] 25 (0, 0)) (by (with_reducible repeat (first | refine za7 ?_ _ | refine za8 ?_ | refine za6 ?_ _)); exact BK311.out) hb); have n1_ := Aside0.mk (zad (by repeat (first | (with_reducible first | exact HB.out | apply za1 | apply za0 | apply za2 | refine za5 ?_ GE311.out) | exact HB.out)) hb); clear BK311; clear HB; have BK311 := n0_; have HB := n1_; clear n0_ n1_; (try clear hb); (try clear hb2); (try clear hk); (try clear hi); have hcz60_0 : w59.cell? ⟨gb311, 0, none⟩ = some (.int .i64 a0_0) := (za4 BK311.out 0).trans rfl; have hcz60_1 : w59.cell? ⟨gb311, 1, none⟩ = some (.slice A0_1 l0_1.length c0_1) := (za4 BK311.out 1).trans rfl; have hcz60_2 : w59.cell? ⟨gb311, 2, none⟩ = some (.slice A0_2 l0_2.length c0_2) := (za4 BK311.out 2).trans rfl; have hcz60_3 : w59.cell? ⟨gb311, 3, none⟩ = some (.slice A0_3 l0_3.length c0_3) := (za4 BK311.out 3).trans rfl; have hfz60_0 := za3 BK311.out 0; have hfz60_1 := za3 BK311.out 1; have hfz60_2 := za3 BK311.out 2; have hfz60_3 := za3 BK311.out 3) | ((with_reducible refine zal (f := 18) rfl ?_); refine zb1 (some 13) rfl rfl Try.func18 (by kernel_rfl) rfl #[.agg #[.int .i64 a0_0, .slice A0_1 l0_1.length c0_1, .slice A0_2 l0_2.length c0_2, .slice A0_3 l0_3.length c0_3]] rfl (by (try simp only [List.map_toArray, List.map_cons, List.map_nil]); first | done | rfl | (simp only [List.length_drop, List.length_take]; rfl)) ?_; (with_reducible refine (laws_toRegCode.calls k a0_0 _ _ l0_1 _ _ l0_2 _ _ l0_3 t313 t314 t317 t320 _ ?side1 ?side2 ?side3 ?side4 ?side5 ?side6 A7.out).mono ?_); (case side1 => repeat (first | exact (Kd.zao HR0_1.out HB.out) | (with_reducible refine Kd.zan ?_ _) | (with_reducible refine Kd.zam ?_ _) | (with_reducible refine Kd.zas ?_))); (case side2 => exact HC0_1.out); (case side3 => repeat (first | exact (Kd.zao HR0_2.out HB.out) | (with_reducible refine Kd.zan ?_ _) | (with_reducible refine Kd.zam ?_ _) | (with_reducible refine Kd.zas ?_))); (case side4 => exact HC0_2.out); (case side5 => repeat (first | exact (Kd.zao HR0_3.out HB.out) | (with_reducible refine Kd.zan ?_ _) | (with_reducible refine Kd.zam ?_ _) | (with_reducible refine Kd.zas ?_))); (case side6 => exact HC0_3.out); rintro e w61 ⟨v315, v318, v321, rfl, ho0, ho1, ho2, hb⟩; refine ⟨_, rfl, ?_⟩; have n0_ := Aside0.mk (Kd.zb5 ho0 (za9 (by repeat (first | (with_reducible first | exact HB.out | apply za1 | apply za0 | apply za2 | refine za5 ?_ GE311.out) | exact HB.out)))); have n1_ := Aside0.mk (Kd.zb5 ho1 (za9 (by repeat (first | (with_reducible first | exact HB.out | apply za1 | apply za0 | apply za2 | refine za5 ?_ GE311.out) | exact HB.out)))); have n2_ := Aside0.mk (Kd.zb5 ho2 (za9 (by repeat (first | (with_reducible first | exact HB.out | apply za1 | apply za0 | apply za2 | refine za5 ?_ GE311.out) | exact HB.out)))); have n3_ := Aside0.mk (zaa (g := gb311) (o := .cells #[.int .i64 a0_0, .slice A0_1 l0_1.length c0_1, .slice A0_2 l0_2.length c0_2, .slice A0_3 l0_3.length c0_3] 25 (0, 0)) (by (with_reducible repeat (first | refine za7 ?_ _ | refine za8 ?_ | refine za6 ?_ _)); exact BK311.out) hb); have n4_ := Aside0.mk (zad (by repeat (first | (with_reducible first | exact HB.out | apply za1 | apply za0 | apply za2 | refine za5 ?_ GE311.out) | exact HB.out)) hb); clear BK311; clear HB; have HO316 := n0_; have HO319 := n1_; have HO322 := n2_; have BK311 := n3_; have HB := n4_; clear n0_ n1_ n2_ n3_ n4_; (try clear hb); (try clear hb2); (try clear hk); (try clear hi); (try clear ho0); (try clear ho1); (try clear ho2); obtain ⟨Ao62, co62, eo62⟩ := Kd.zb0 HO316.out; subst eo62; obtain ⟨Ao63, co63, eo63⟩ := Kd.zb0 HO319.out; subst eo63; obtain ⟨Ao64, co64, eo64⟩ := Kd.zb0 HO322.out; subst eo64) | ((with_reducible refine zal (f := 17) rfl ?_); refine zb1 (some 14) rfl rfl Try.func17 (by kernel_rfl) rfl #[.agg #[.int .i64 t313, .slice Ao62 t314.length co62, .slice Ao63 t317.length co63, .slice Ao64 t320.length co64]] rfl (by (try simp only [List.map_toArray, List.map_cons, List.map_nil]); first | done | rfl | (simp only [List.length_drop, List.length_take]; rfl)) ?_; (with_reducible refine (spec_IsRegCode.calls k t313 _ _ t314 _ _ t317 _ _ t320 t323 _ ?side1 ?side2 ?side3 ?side4 ?side5 ?side6 A8.out).mono ?_); (case side1 => repeat (first | exact (Kd.R_reads' HO316.out).2.2 | (with_reducible refine Kd.zan ?_ _) | (with_reducible refine Kd.zam ?_ _) | (with_reducible refine Kd.zas ?_))); (case side2 => exact (Kd.R_reads' HO316.out).2.1); (case side3 => repeat (first | exact (Kd.R_reads' HO319.out).2.2 | (with_reducible refine Kd.zan ?_ _) | (with_reducible refine Kd.zam ?_ _) | (with_reducible refine Kd.zas ?_))); (case side4 => exact (Kd.R_reads' HO319.out).2.1); (case side5 => repeat (first | exact (Kd.R_reads' HO322.out).2.2 | (with_reducible refine Kd.zan ?_ _) | (with_reducible refine Kd.zam ?_ _) | (with_reducible refine Kd.zas ?_))); (case side6 => exact (Kd.R_reads' HO322.out).2.1); rintro e w65 ⟨rfl, hb⟩; refine ⟨_, rfl, ?_⟩; have n0_ := Aside0.mk (Kd.zau (by (with_reducible repeat (first | apply Kd.zac | apply Kd.zab | apply Kd.zae)); exact HO316.out) hb); have n1_ := Aside0.mk (Kd.zau (by (with_reducible repeat (first | apply Kd.zac | apply Kd.zab | apply Kd.zae)); exact HO319.out) hb); have n2_ := Aside0.mk (Kd.zau (by (with_reducible repeat (first | apply Kd.zac | apply Kd.zab | apply Kd.zae)); exact HO322.out) hb); have n3_ := Aside0.mk (zaa (g := gb311) (o := .cells #[.int .i64 a0_0, .slice A0_1 l0_1.length c0_1, .slice A0_2 l0_2.length c0_2, .slice A0_3 l0_3.length c0_3] 25 (0, 0)) (by (with_reducible repeat (first | refine za7 ?_ _ | refine za8 ?_ | refine za6 ?_ _)); exact BK311.out) hb); have n4_ := Aside0.mk (zad (by repeat (first | (with_reducible first | exact HB.out | apply za1 | apply za0 | apply za2 | refine za5 ?_ GE311.out) | exact HB.out)) hb); clear HO316; clear HO319; clear HO322; clear BK311; clear HB; have HO316 := n0_; have HO319 := n1_; have HO322 := n2_; have BK311 := n3_; have HB := n4_; clear n0_ n1_ n2_ n3_ n4_; (try clear hb); (try clear hb2); (try clear hk); (try clear hi); have hcz66_0 : w65.cell? ⟨gb311, 0, none⟩ = some (.int .i64 a0_0) := (za4 BK311.out 0).trans rfl; have hcz66_1 : w65.cell? ⟨gb311, 1, none⟩ = some (.slice A0_1 l0_1.length c0_1) := (za4 BK311.out 1).trans rfl; have hcz66_2 : w65.cell? ⟨gb311, 2, none⟩ = some (.slice A0_2 l0_2.length c0_2) := (za4 BK311.out 2).trans rfl; have hcz66_3 : w65.cell? ⟨gb311, 3, none⟩ = some (.slice A0_3 l0_3.length c0_3) := (za4 BK311.out 3).trans rfl; have hfz66_0 := za3 BK311.out 0; have hfz66_1 := za3 BK311.out 1; have hfz66_2 := za3 BK311.out 2; have hfz66_3 := za3 BK311.out 3) | ((with_reducible refine zal (f := 18) rfl ?_); refine zb1 (some 16) rfl rfl Try.func18 (by kernel_rfl) rfl #[.agg #[.int .i64 a0_0, .slice A0_1 l0_1.length c0_1, .slice A0_2 l0_2.length c0_2, .slice A0_3 l0_3.length c0_3]] rfl (by (try simp only [List.map_toArray, List.map_cons, List.map_nil]); first | done | rfl | (simp only [List.length_drop, List.length_take]; rfl)) ?_; (with_reducible refine (laws_toRegCode.calls k a0_0 _ _ l0_1 _ _ l0_2 _ _ l0_3 t324 t325 t328 t331 _ ?side1 ?side2 ?side3 ?side4 ?side5 ?side6 A9.out).mono ?_); (case side1 => repeat (first | exact (Kd.zao HR0_1.out HB.out) | (with_reducible refine Kd.zan ?_ _) | (with_reducible refine Kd.zam ?_ _) | (with_reducible refine Kd.zas ?_))); (case side2 => exact HC0_1.out); (case side3 => repeat (first | exact (Kd.zao HR0_2.out HB.out) | (with_reducible refine Kd.zan ?_ _) | (with_reducible refine Kd.zam ?_ _) | (with_reducible refine Kd.zas ?_))); (case side4 => exact HC0_2.out); (case side5 => repeat (first | exact (Kd.zao HR0_3.out HB.out) | (with_reducible refine Kd.zan ?_ _) | (with_reducible refine Kd.zam ?_ _) | (with_reducible refine Kd.zas ?_))); (case side6 => exact HC0_3.out); rintro e w67 ⟨v326, v329, v332, rfl, ho0, ho1, ho2, hb⟩; refine ⟨_, rfl, ?_⟩; have n0_ := Aside0.mk (Kd.zav (Kd.R_told (Kd.R_told (Kd.R_old (by (with_reducible repeat (first | apply Kd.zac | apply Kd.zab | apply Kd.zae)); exact HO316.out) hb) (Kd.R_base ho0)) (Kd.R_base ho2)) (fun _ h_ => h_.1)); have n1_ := Aside0.mk (Kd.R_elder' (by (with_reducible repeat (first | apply Kd.zac | apply Kd.zab | apply Kd.zae)); exact HO319.out) (Kd.R_base ho1) hb); have n2_ := Aside0.mk (Kd.zav (Kd.R_told (Kd.R_told (Kd.R_old (by (with_reducible repeat (first | apply Kd.zac | apply Kd.zab | apply Kd.zae)); exact HO322.out) hb) (Kd.R_base ho0)) (Kd.R_base ho2)) (fun _ h_ => h_.1)); have n3_ := Aside0.mk (Kd.zb5 (Kd.R_new' (Kd.R_new' ho0 (Kd.R_lt (by (with_reducible repeat (first | apply Kd.zac | apply Kd.zab | apply Kd.zae)); exact HO316.out))) (Kd.R_lt (by (with_reducible repeat (first | apply Kd.zac | apply Kd.zab | apply Kd.zae)); exact HO322.out))) (za9 (by repeat (first | (with_reducible first | exact HB.out | apply za1 | apply za0 | apply za2 | refine za5 ?_ GE311.out) | exact HB.out)))); have n4_ := Aside0.mk (Kd.zb5 (Kd.R_new' ho1 (Kd.R_lt (by (with_reducible repeat (first | apply Kd.zac | apply Kd.zab | apply Kd.zae)); exact HO319.out))) (za9 (by repeat (first | (with_reducible first | exact HB.out | apply za1 | apply za0 | apply za2 | refine za5 ?_ GE311.out) | exact HB.out)))); have n5_ := Aside0.mk (Kd.zb5 (Kd.R_new' (Kd.R_new' ho2 (Kd.R_lt (by (with_reducible repeat (first | apply Kd.zac | apply Kd.zab | apply Kd.zae)); exact HO316.out))) (Kd.R_lt (by (with_reducible repeat (first | apply Kd.zac | apply Kd.zab | apply Kd.zae)); exact HO322.out))) (za9 (by repeat (first | (with_reducible first | exact HB.out | apply za1 | apply za0 | apply za2 | refine za5 ?_ GE311.out) | exact HB.out)))); have n6_ := Aside0.mk (zaa (g := gb311) (o := .cells #[.int .i64 a0_0, .slice A0_1 l0_1.length c0_1, .slice A0_2 l0_2.length c0_2, .slice A0_3 l0_3.length c0_3] 25 (0, 0)) (by (with_reducible repeat (first | refine za7 ?_ _ | refine za8 ?_ | refine za6 ?_ _)); exact BK311.out) hb); have n7_ := Aside0.mk (zad (by repeat (first | (with_reducible first | exact HB.out | apply za1 | apply za0 | apply za2 | refine za5 ?_ GE311.out) | exact HB.out)) hb); clear HO316; clear HO319; clear HO322; clear BK311; clear HB; have HO316 := n0_; have HO319 := n1_; have HO322 := n2_; have HO327 := n3_; have HO330 := n4_; have HO333 := n5_; have BK311 := n6_; have HB := n7_; clear n0_ n1_ n2_ n3_ n4_ n5_ n6_ n7_; (try clear hb); (try clear hb2); (try clear hk); (try clear hi); (try clear ho0); (try clear ho1); (try clear ho2)) | ((with_reducible refine zar (N := 5) rfl ?_); refine zaq ?hg (N := 5) ?hd (cs := #[.int .i64 0, .slice none 0 0, .slice none 0 0, .slice none 0 0]) (t := 30) ?hr ?_; (case hd => rfl); (case hg => rfl); (case hr => first | (go_simp; done) | (go_simp; rfl)); intro gb334 hg w68 hbox hb; have n0_ := Aside0.mk (Kd.zau (by (with_reducible repeat (first | apply Kd.zac | apply Kd.zab | apply Kd.zae)); exact HO316.out) hb); have n1_ := Aside0.mk (Kd.zau (by (with_reducible repeat (first | apply Kd.zac | apply Kd.zab | apply Kd.zae)); exact HO319.out) hb); have n2_ := Aside0.mk (Kd.zau (by (with_reducible repeat (first | apply Kd.zac | apply Kd.zab | apply Kd.zae)); exact HO322.out) hb); have n3_ := Aside0.mk (Kd.zau (by (with_reducible repeat (first | apply Kd.zac | apply Kd.zab | apply Kd.zae)); exact HO327.out) hb); have n4_ := Aside0.mk (Kd.zau (by (with_reducible repeat (first | apply Kd.zac | apply Kd.zab | apply Kd.zae)); exact HO330.out) hb); have n5_ := Aside0.mk (Kd.zau (by (with_reducible repeat (first | apply Kd.zac | apply Kd.zab | apply Kd.zae)); exact HO333.out) hb); have n6_ := Aside0.mk (zaa (g := gb311) (o := .cells #[.int .i64 a0_0, .slice A0_1 l0_1.length c0_1, .slice A0_2 l0_2.length c0_2, .slice A0_3 l0_3.length c0_3] 25 (0, 0)) (by (with_reducible repeat (first | refine za7 ?_ _ | refine za8 ?_ | refine za6 ?_ _)); exact BK311.out) hb); have n7_ := Aside0.mk (zad (by repeat (first | (with_reducible first | exact HB.out | apply za1 | apply za0 | apply za2 | refine za5 ?_ GE311.out) | exact HB.out)) hb); have n8_ := Aside0.mk (hbox); have n9_ := Aside0.mk ((by rw [hg]; exact (za9 (by repeat (first | (with_reducible first | exact HB.out | apply za1 | apply za0 | apply za2 | refine za5 ?_ GE311.out) | exact HB.out))) : w.heap.size ≤ gb334)); have n10_ := Aside0.mk ((by rw [hg]; exact (za9 (by repeat (first | (with_reducible first | exact HB.out | apply za1 | apply za0 | apply za2 | refine za5 ?_ GE311.out) | exact HB.out))) : w.heap.size ≤ gb334)); have n11_ := Aside0.mk ((by rw [hg]; exact Nat.ne_of_lt (zax (g := gb311) (o := .cells #[.int .i64 a0_0, .slice A0_1 l0_1.length c0_1, .slice A0_2 l0_2.length c0_2, .slice A0_3 l0_3.length c0_3] 25 (0, 0)) (by (with_reducible repeat (first | refine za7 ?_ _ | refine za8 ?_ | refine za6 ?_ _)); exact BK311.out)) : gb311 ≠ gb334)); have n12_ := Aside0.mk ((by rw [hg]; exact Nat.ne_of_gt (zax (g := gb311) (o := .cells #[.int .i64 a0_0, .slice A0_1 l0_1.length c0_1, .slice A0_2 l0_2.length c0_2, .slice A0_3 l0_3.length c0_3] 25 (0, 0)) (by (with_reducible repeat (first | refine za7 ?_ _ | refine za8 ?_ | refine za6 ?_ _)); exact BK311.out)) : gb334 ≠ gb311)); clear HO316; clear HO319; clear HO322; clear HO327; clear HO330; clear HO333; clear BK311; clear HB; have HO316 := n0_; have HO319 := n1_; have HO322 := n2_; have HO327 := n3_; have HO330 := n4_; have HO333 := n5_; have BK311 := n6_; have HB := n7_; have BK334 := n8_; have GW334 := n9_; have GE334 := n10_; have NB311_334 := n11_; have NB334_311 := n12_; clear n0_ n1_ n2_ n3_ n4_ n5_ n6_ n7_ n8_ n9_ n10_ n11_ n12_; clear hb hbox hg; have hnb69 := NB334_311.out; have hnc69 := NB311_334.out; have hcz70_0 : w68.cell? ⟨gb334, 0, none⟩ = some (.int .i64 0) := (za4 BK334.out 0).trans rfl; have hcz70_1 : w68.cell? ⟨gb334, 1, none⟩ = some (.slice none 0 0) := (za4 BK334.out 1).trans rfl; have hcz70_2 : w68.cell? ⟨gb334, 2, none⟩ = some (.slice none 0 0) := (za4 BK334.out 2).trans rfl; have hcz70_3 : w68.cell? ⟨gb334, 3, none⟩ = some (.slice none 0 0) := (za4 BK334.out 3).trans rfl; have hfz70_0 := za3 BK334.out 0; have hfz70_1 := za3 BK334.out 1; have hfz70_2 := za3 BK334.out 2; have hfz70_3 := za3 BK334.out 3; obtain ⟨Ao71, co71, eo71⟩ := Kd.zb0 HO327.out; subst eo71; obtain ⟨Ao72, co72, eo72⟩ := Kd.zb0 HO330.out; subst eo72; obtain ⟨Ao73, co73, eo73⟩ := Kd.zb0 HO333.out; subst eo73) | ((with_reducible refine zal (f := 19) rfl ?_); refine zb1 (some 18) rfl rfl Try.func19 (by kernel_rfl) rfl #[.agg #[.int .i64 t324, .slice Ao71 t325.length co71, .slice Ao72 t328.length co72, .slice Ao73 t331.length co73]] rfl (by (try simp only [List.map_toArray, List.map_cons, List.map_nil]); first | done | rfl | (simp only [List.length_drop, List.length_take]; rfl)) ?_; (with_reducible refine (impl_IsRegCode.calls k t324 _ _ t325 _ _ t328 _ _ t331 t335 _ ?side1 ?side2 ?side3 ?side4 ?side5 ?side6 A10.out).mono ?_); (case side1 => refine (Kd.R_reads' (e := 3) (base := w.heap.size) (ok := fun k_ => ((some k_ ≠ (.slice Ao73 t331.length co73 : Value).ownBlock ∧ some k_ ≠ (.slice Ao62 t314.length co62 : Value).ownBlock) ∧ some k_ ≠ (.slice Ao64 t320.length co64 : Value).ownBlock)) (n := t325.length) (c := co71) ?_).2.2; exact (by (with_reducible repeat (first | apply Kd.zac | apply Kd.zab | apply Kd.zae)); exact (Kd.zav (Kd.R_far (p := ⟨gb334, 3, none⟩) (Kd.R_far (p := ⟨gb334, 2, none⟩) (Kd.R_far (p := ⟨gb334, 1, none⟩) (Kd.R_far (p := ⟨gb334, 0, none⟩) (Kd.zb4 HO327.out BK334.out (by decide)) (fun _ hk => hk.2) (.int .i64 t324)) (fun _ hk => hk.2) (.slice Ao71 t325.length co71)) (fun _ hk => hk.2) (.slice Ao72 t328.length co72)) (fun _ hk => hk.2) (.slice Ao73 t331.length co73)) (fun _ h_ => h_.1)))); (case side2 => exact (Kd.R_reads' HO327.out).2.1); (case side3 => refine (Kd.R_reads' (e := 80) (base := w.heap.size) (ok := fun k_ => (True ∧ some k_ ≠ (.slice Ao63 t317.length co63 : Value).ownBlock)) (n := t328.length) (c := co72) ?_).2.2; exact (by (with_reducible repeat (first | apply Kd.zac | apply Kd.zab | apply Kd.zae)); exact (Kd.zav (Kd.R_far (p := ⟨gb334, 3, none⟩) (Kd.R_far (p := ⟨gb334, 2, none⟩) (Kd.R_far (p := ⟨gb334, 1, none⟩) (Kd.R_far (p := ⟨gb334, 0, none⟩) (Kd.zb4 HO330.out BK334.out (by decide)) (fun _ hk => hk.2) (.int .i64 t324)) (fun _ hk => hk.2) (.slice Ao71 t325.length co71)) (fun _ hk => hk.2) (.slice Ao72 t328.length co72)) (fun _ hk => hk.2) (.slice Ao73 t331.length co73)) (fun _ h_ => h_.1)))); (case side4 => exact (Kd.R_reads' HO330.out).2.1); (case side5 => refine (Kd.R_reads' (e := 3) (base := w.heap.size) (ok := fun k_ => ((some k_ ≠ (.slice Ao71 t325.length co71 : Value).ownBlock ∧ some k_ ≠ (.slice Ao62 t314.length co62 : Value).ownBlock) ∧ some k_ ≠ (.slice Ao64 t320.length co64 : Value).ownBlock)) (n := t331.length) (c := co73) ?_).2.2; exact (by (with_reducible repeat (first | apply Kd.zac | apply Kd.zab | apply Kd.zae)); exact (Kd.zav (Kd.R_far (p := ⟨gb334, 3, none⟩) (Kd.R_far (p := ⟨gb334, 2, none⟩) (Kd.R_far (p := ⟨gb334, 1, none⟩) (Kd.R_far (p := ⟨gb334, 0, none⟩) (Kd.zb4 HO333.out BK334.out (by decide)) (fun _ hk => hk.2) (.int .i64 t324)) (fun _ hk => hk.2) (.slice Ao71 t325.length co71)) (fun _ hk => hk.2) (.slice Ao72 t328.length co72)) (fun _ hk => hk.2) (.slice Ao73 t331.length co73)) (fun _ h_ => h_.1)))); (case side6 => exact (Kd.R_reads' HO333.out).2.1); rintro e w74 ⟨rfl, hb⟩; refine ⟨_, rfl, ?_⟩; have n0_ := Aside0.mk (Kd.zau (by (with_reducible repeat (first | apply Kd.zac | apply Kd.zab | apply Kd.zae)); exact (Kd.zav (Kd.R_far (p := ⟨gb334, 3, none⟩) (Kd.R_far (p := ⟨gb334, 2, none⟩) (Kd.R_far (p := ⟨gb334, 1, none⟩) (Kd.R_far (p := ⟨gb334, 0, none⟩) (Kd.zb4 HO316.out BK334.out (by decide)) (fun _ hk => hk.2) (.int .i64 t324)) (fun _ hk => hk.2) (.slice Ao71 t325.length co71)) (fun _ hk => hk.2) (.slice Ao72 t328.length co72)) (fun _ hk => hk.2) (.slice Ao73 t331.length co73)) (fun _ h_ => h_.1))) hb); have n1_ := Aside0.mk (Kd.zau (by (with_reducible repeat (first | apply Kd.zac | apply Kd.zab | apply Kd.zae)); exact (Kd.zav (Kd.R_far (p := ⟨gb334, 3, none⟩) (Kd.R_far (p := ⟨gb334, 2, none⟩) (Kd.R_far (p := ⟨gb334, 1, none⟩) (Kd.R_far (p := ⟨gb334, 0, none⟩) (Kd.zb4 HO319.out BK334.out (by decide)) (fun _ hk => hk.2) (.int .i64 t324)) (fun _ hk => hk.2) (.slice Ao71 t325.length co71)) (fun _ hk => hk.2) (.slice Ao72 t328.length co72)) (fun _ hk => hk.2) (.slice Ao73 t331.length co73)) (fun _ h_ => h_.1))) hb); have n2_ := Aside0.mk (Kd.zau (by (with_reducible repeat (first | apply Kd.zac | apply Kd.zab | apply Kd.zae)); exact (Kd.zav (Kd.R_far (p := ⟨gb334, 3, none⟩) (Kd.R_far (p := ⟨gb334, 2, none⟩) (Kd.R_far (p := ⟨gb334, 1, none⟩) (Kd.R_far (p := ⟨gb334, 0, none⟩) (Kd.zb4 HO322.out BK334.out (by decide)) (fun _ hk => hk.2) (.int .i64 t324)) (fun _ hk => hk.2) (.slice Ao71 t325.length co71)) (fun _ hk => hk.2) (.slice Ao72 t328.length co72)) (fun _ hk => hk.2) (.slice Ao73 t331.length co73)) (fun _ h_ => h_.1))) hb); have n3_ := Aside0.mk (Kd.zau (by (with_reducible repeat (first | apply Kd.zac | apply Kd.zab | apply Kd.zae)); exact (Kd.zav (Kd.R_far (p := ⟨gb334, 3, none⟩) (Kd.R_far (p := ⟨gb334, 2, none⟩) (Kd.R_far (p := ⟨gb334, 1, none⟩) (Kd.R_far (p := ⟨gb334, 0, none⟩) (Kd.zb4 HO327.out BK334.out (by decide)) (fun _ hk => hk.2) (.int .i64 t324)) (fun _ hk => hk.2) (.slice Ao71 t325.length co71)) (fun _ hk => hk.2) (.slice Ao72 t328.length co72)) (fun _ hk => hk.2) (.slice Ao73 t331.length co73)) (fun _ h_ => h_.1))) hb); have n4_ := Aside0.mk (Kd.zau (by (with_reducible repeat (first | apply Kd.zac | apply Kd.zab | apply Kd.zae)); exact (Kd.zav (Kd.R_far (p := ⟨gb334, 3, none⟩) (Kd.R_far (p := ⟨gb334, 2, none⟩) (Kd.R_far (p := ⟨gb334, 1, none⟩) (Kd.R_far (p := ⟨gb334, 0, none⟩) (Kd.zb4 HO330.out BK334.out (by decide)) (fun _ hk => hk.2) (.int .i64 t324)) (fun _ hk => hk.2) (.slice Ao71 t325.length co71)) (fun _ hk => hk.2) (.slice Ao72 t328.length co72)) (fun _ hk => hk.2) (.slice Ao73 t331.length co73)) (fun _ h_ => h_.1))) hb); have n5_ := Aside0.mk (Kd.zau (by (with_reducible repeat (first | apply Kd.zac | apply Kd.zab | apply Kd.zae)); exact (Kd.zav (Kd.R_far (p := ⟨gb334, 3, none⟩) (Kd.R_far (p := ⟨gb334, 2, none⟩) (Kd.R_far (p := ⟨gb334, 1, none⟩) (Kd.R_far (p := ⟨gb334, 0, none⟩) (Kd.zb4 HO333.out BK334.out (by decide)) (fun _ hk => hk.2) (.int .i64 t324)) (fun _ hk => hk.2) (.slice Ao71 t325.length co71)) (fun _ hk => hk.2) (.slice Ao72 t328.length co72)) (fun _ hk => hk.2) (.slice Ao73 t331.length co73)) (fun _ h_ => h_.1))) hb); have n6_ := Aside0.mk (zaa (g := gb311) (o := .cells #[.int .i64 a0_0, .slice A0_1 l0_1.length c0_1, .slice A0_2 l0_2.length c0_2, .slice A0_3 l0_3.length c0_3] 25 (0, 0)) (by (with_reducible repeat (first | refine za7 ?_ _ | refine za8 ?_ | refine za6 ?_ _)); refine zaz ?_ NB311_334.out _; (with_reducible repeat (first | refine za7 ?_ _ | refine za8 ?_ | refine za6 ?_ _)); refine zaz ?_ NB311_334.out _; (with_reducible repeat (first | refine za7 ?_ _ | refine za8 ?_ | refine za6 ?_ _)); refine zaz ?_ NB311_334.out _; (with_reducible repeat (first | refine za7 ?_ _ | refine za8 ?_ | refine za6 ?_ _)); refine zaz ?_ NB311_334.out _; (with_reducible repeat (first | refine za7 ?_ _ | refine za8 ?_ | refine za6 ?_ _)); exact BK311.out) hb); have n7_ := Aside0.mk (zaa (g := gb334) (o := .cells #[.int .i64 t324, .slice Ao71 t325.length co71, .slice Ao72 t328.length co72, .slice Ao73 t331.length co73] 30 (0, 0)) (by (with_reducible repeat (first | refine za7 ?_ _ | refine za8 ?_ | refine za6 ?_ _)); refine zaw (cs := #[.int .i64 t324, .slice Ao71 t325.length co71, .slice Ao72 t328.length co72, .slice none 0 0]) ?_ 3 _ rfl; (with_reducible repeat (first | refine za7 ?_ _ | refine za8 ?_ | refine za6 ?_ _)); refine zaw (cs := #[.int .i64 t324, .slice Ao71 t325.length co71, .slice none 0 0, .slice none 0 0]) ?_ 2 _ rfl; (with_reducible repeat (first | refine za7 ?_ _ | refine za8 ?_ | refine za6 ?_ _)); refine zaw (cs := #[.int .i64 t324, .slice none 0 0, .slice none 0 0, .slice none 0 0]) ?_ 1 _ rfl; (with_reducible repeat (first | refine za7 ?_ _ | refine za8 ?_ | refine za6 ?_ _)); refine zaw (cs := #[.int .i64 0, .slice none 0 0, .slice none 0 0, .slice none 0 0]) ?_ 0 _ rfl; (with_reducible repeat (first | refine za7 ?_ _ | refine za8 ?_ | refine za6 ?_ _)); exact BK334.out) hb); have n8_ := Aside0.mk (zad (by repeat (first | (with_reducible first | exact HB.out | apply za1 | apply za0 | apply za2 | refine za5 ?_ GE311.out | refine za5 ?_ GE334.out) | exact HB.out)) hb); clear HO316; clear HO319; clear HO322; clear HO327; clear HO330; clear HO333; clear BK311; clear BK334; clear HB; have HO316 := n0_; have HO319 := n1_; have HO322 := n2_; have HO327 := n3_; have HO330 := n4_; have HO333 := n5_; have BK311 := n6_; have BK334 := n7_; have HB := n8_; clear n0_ n1_ n2_ n3_ n4_ n5_ n6_ n7_ n8_; (try clear hb); (try clear hb2); (try clear hk); (try clear hi)))
        have n0_ := Aside0.mk (Kd.zae HO316.out)
        have n1_ := Aside0.mk (Kd.zae HO319.out)
        have n2_ := Aside0.mk (Kd.zae HO322.out)
        have n3_ := Aside0.mk (Kd.zae HO327.out)
        have n4_ := Aside0.mk (Kd.zae HO330.out)
        have n5_ := Aside0.mk (Kd.zae HO333.out)
        have n6_ := Aside0.mk (za8 BK311.out)
        have n7_ := Aside0.mk (za8 BK334.out)
        have n8_ := Aside0.mk (za2 HB.out)
        clear HO316
        clear HO319
        clear HO322
        clear HO327
        clear HO330
        clear HO333
        clear BK311
        clear BK334
        clear HB
        have HO316 := n0_
        have HO319 := n1_
        have HO322 := n2_
        have HO327 := n3_
        have HO330 := n4_
        have HO333 := n5_
        have BK311 := n6_
        have BK334 := n7_
        have HB := n8_
        clear n0_ n1_ n2_ n3_ n4_ n5_ n6_ n7_ n8_
        refine start_ (n := 5) (S := fun w' => w'.cell? ⟨gb334, 0, none⟩ = some (.int .i64 t324) ∧ w'.cell? ⟨gb334, 1, none⟩ = some (.slice Ao71 t325.length co71) ∧ w'.cell? ⟨gb334, 2, none⟩ = some (.slice Ao72 t328.length co72) ∧ w'.cell? ⟨gb334, 3, none⟩ = some (.slice Ao73 t331.length co73) ∧ w'.cell? ⟨gb311, 0, none⟩ = some (.int .i64 a0_0) ∧ w'.cell? ⟨gb311, 1, none⟩ = some (.slice A0_1 l0_1.length c0_1) ∧ w'.cell? ⟨gb311, 2, none⟩ = some (.slice A0_2 l0_2.length c0_2) ∧ w'.cell? ⟨gb311, 3, none⟩ = some (.slice A0_3 l0_3.length c0_3)) (ds := []) #[false, false, false, false, false] (by kernel_rfl) rfl rfl ⟨(za4 BK334.out 0).trans rfl, (za4 BK334.out 1).trans rfl, (za4 BK334.out 2).trans rfl, (za4 BK334.out 3).trans rfl, (za4 BK311.out 0).trans rfl, (za4 BK311.out 1).trans rfl, (za4 BK311.out 2).trans rfl, (za4 BK311.out 3).trans rfl⟩ (fun hHeld => ?_)
        generalize w74.drew = w75 at HO316 HO319 HO322 HO327 HO330 HO333 BK311 BK334 HB hHeld ⊢
        refine take_ (i := 0) (N := some 22) (v := ?_) (a' := ?_) #[true, false, false, false, false] rfl rfl (by kernel_rfl) (fun _ _ _ h => h) (Or.inl ⟨by rfl, ?_⟩) hHeld ?_ ?_
        rotate_left
        · rintro w' ⟨s0, s1, s2, s3, s4, s5, s6, s7⟩
          go_simp
          with_reducible rfl
        rotate_left
        · simp only [Act.put, List.setIfInBounds_toArray, List.set_cons_zero, List.set_cons_succ, i64_w, i32_w]
          rfl
        refine take_ (i := 1) (N := some 23) (v := ?_) (a' := ?_) #[true, true, false, false, false] rfl rfl (by kernel_rfl) (fun _ _ _ h => h) (Or.inl ⟨by rfl, ?_⟩) hHeld ?_ ?_
        rotate_left
        · rintro w' ⟨s0, s1, s2, s3, s4, s5, s6, s7⟩
          go_simp
          with_reducible rfl
        rotate_left
        · simp only [Act.put, List.setIfInBounds_toArray, List.set_cons_zero, List.set_cons_succ, i64_w, i32_w]
          rfl
        refine one_ (i := 2) (N := some 24) #[true, true, true, false, false] rfl rfl (by kernel_rfl) (by decide) (fun K hK => ?_)
        refine goes_ Try.func18 (by kernel_rfl) rfl #[.agg #[.int .i64 a0_0, .slice A0_1 l0_1.length c0_1, .slice A0_2 l0_2.length c0_2, .slice A0_3 l0_3.length c0_3]] (by rfl) rfl rfl (by (try simp only [List.map_toArray, List.map_cons, List.map_nil]); first | done | rfl | (simp only [List.length_drop, List.length_take]; rfl)) ?_
        with_reducible refine (laws_toRegCode.calls k a0_0 _ _ l0_1 _ _ l0_2 _ _ l0_3 t336 t337 t340 t343 _ ?side1 ?side2 ?side3 ?side4 ?side5 ?side6 A30.out).mono ?_
        (case side1 => repeat (first | exact (Kd.zao HR0_1.out HB.out) | (with_reducible refine Kd.zan ?_ _) | (with_reducible refine Kd.zam ?_ _) | (with_reducible refine Kd.zas ?_)))
        (case side2 => exact HC0_1.out)
        (case side3 => repeat (first | exact (Kd.zao HR0_2.out HB.out) | (with_reducible refine Kd.zan ?_ _) | (with_reducible refine Kd.zam ?_ _) | (with_reducible refine Kd.zas ?_)))
        (case side4 => exact HC0_2.out)
        (case side5 => repeat (first | exact (Kd.zao HR0_3.out HB.out) | (with_reducible refine Kd.zan ?_ _) | (with_reducible refine Kd.zam ?_ _) | (with_reducible refine Kd.zas ?_)))
        (case side6 => exact HC0_3.out)
        rintro e w76 ⟨v338, v341, v344, rfl, ho0, ho1, ho2, hb⟩
        refine ⟨_, rfl, ?_⟩
        have n0_ := Aside0.mk (Kd.zav (Kd.R_told (Kd.R_told (Kd.R_old (by (with_reducible repeat (first | apply Kd.zac | apply Kd.zab | apply Kd.zae)); exact HO316.out) hb) (Kd.R_base ho0)) (Kd.R_base ho2)) (fun _ h_ => h_.1))
        have n1_ := Aside0.mk (Kd.R_elder' (by (with_reducible repeat (first | apply Kd.zac | apply Kd.zab | apply Kd.zae)); exact HO319.out) (Kd.R_base ho1) hb)
        have n2_ := Aside0.mk (Kd.zav (Kd.R_told (Kd.R_told (Kd.R_old (by (with_reducible repeat (first | apply Kd.zac | apply Kd.zab | apply Kd.zae)); exact HO322.out) hb) (Kd.R_base ho0)) (Kd.R_base ho2)) (fun _ h_ => h_.1))
        have n3_ := Aside0.mk (Kd.zav (Kd.R_told (Kd.R_told (Kd.R_old (by (with_reducible repeat (first | apply Kd.zac | apply Kd.zab | apply Kd.zae)); exact HO327.out) hb) (Kd.R_base ho0)) (Kd.R_base ho2)) (fun _ h_ => h_.1))
        have n4_ := Aside0.mk (Kd.R_elder' (by (with_reducible repeat (first | apply Kd.zac | apply Kd.zab | apply Kd.zae)); exact HO330.out) (Kd.R_base ho1) hb)
        have n5_ := Aside0.mk (Kd.zav (Kd.R_told (Kd.R_told (Kd.R_old (by (with_reducible repeat (first | apply Kd.zac | apply Kd.zab | apply Kd.zae)); exact HO333.out) hb) (Kd.R_base ho0)) (Kd.R_base ho2)) (fun _ h_ => h_.1))
        have n6_ := Aside0.mk (Kd.zb5 (Kd.R_new' (Kd.R_new' (Kd.R_new' (Kd.R_new' ho0 (Kd.R_lt (by (with_reducible repeat (first | apply Kd.zac | apply Kd.zab | apply Kd.zae)); exact HO316.out))) (Kd.R_lt (by (with_reducible repeat (first | apply Kd.zac | apply Kd.zab | apply Kd.zae)); exact HO322.out))) (Kd.R_lt (by (with_reducible repeat (first | apply Kd.zac | apply Kd.zab | apply Kd.zae)); exact HO327.out))) (Kd.R_lt (by (with_reducible repeat (first | apply Kd.zac | apply Kd.zab | apply Kd.zae)); exact HO333.out))) (za9 (by repeat (first | (with_reducible first | exact HB.out | apply za1 | apply za0 | apply za2 | refine za5 ?_ GE311.out | refine za5 ?_ GE334.out) | exact HB.out))))
        have n7_ := Aside0.mk (Kd.zb5 (Kd.R_new' (Kd.R_new' ho1 (Kd.R_lt (by (with_reducible repeat (first | apply Kd.zac | apply Kd.zab | apply Kd.zae)); exact HO319.out))) (Kd.R_lt (by (with_reducible repeat (first | apply Kd.zac | apply Kd.zab | apply Kd.zae)); exact HO330.out))) (za9 (by repeat (first | (with_reducible first | exact HB.out | apply za1 | apply za0 | apply za2 | refine za5 ?_ GE311.out | refine za5 ?_ GE334.out) | exact HB.out))))
        have n8_ := Aside0.mk (Kd.zb5 (Kd.R_new' (Kd.R_new' (Kd.R_new' (Kd.R_new' ho2 (Kd.R_lt (by (with_reducible repeat (first | apply Kd.zac | apply Kd.zab | apply Kd.zae)); exact HO316.out))) (Kd.R_lt (by (with_reducible repeat (first | apply Kd.zac | apply Kd.zab | apply Kd.zae)); exact HO322.out))) (Kd.R_lt (by (with_reducible repeat (first | apply Kd.zac | apply Kd.zab | apply Kd.zae)); exact HO327.out))) (Kd.R_lt (by (with_reducible repeat (first | apply Kd.zac | apply Kd.zab | apply Kd.zae)); exact HO333.out))) (za9 (by repeat (first | (with_reducible first | exact HB.out | apply za1 | apply za0 | apply za2 | refine za5 ?_ GE311.out | refine za5 ?_ GE334.out) | exact HB.out))))
        have n9_ := Aside0.mk (zaa (g := gb311) (o := .cells #[.int .i64 a0_0, .slice A0_1 l0_1.length c0_1, .slice A0_2 l0_2.length c0_2, .slice A0_3 l0_3.length c0_3] 25 (0, 0)) (by (with_reducible repeat (first | refine za7 ?_ _ | refine za8 ?_ | refine za6 ?_ _)); exact BK311.out) hb)
        have n10_ := Aside0.mk (zaa (g := gb334) (o := .cells #[.int .i64 t324, .slice Ao71 t325.length co71, .slice Ao72 t328.length co72, .slice Ao73 t331.length co73] 30 (0, 0)) (by (with_reducible repeat (first | refine za7 ?_ _ | refine za8 ?_ | refine za6 ?_ _)); exact BK334.out) hb)
        have n11_ := Aside0.mk (zad (by repeat (first | (with_reducible first | exact HB.out | apply za1 | apply za0 | apply za2 | refine za5 ?_ GE311.out | refine za5 ?_ GE334.out) | exact HB.out)) hb)
        clear HO316
        clear HO319
        clear HO322
        clear HO327
        clear HO330
        clear HO333
        clear BK311
        clear BK334
        clear HB
        have HO316 := n0_
        have HO319 := n1_
        have HO322 := n2_
        have HO327 := n3_
        have HO330 := n4_
        have HO333 := n5_
        have HO339 := n6_
        have HO342 := n7_
        have HO345 := n8_
        have BK311 := n9_
        have BK334 := n10_
        have HB := n11_
        clear n0_ n1_ n2_ n3_ n4_ n5_ n6_ n7_ n8_ n9_ n10_ n11_
        (try clear hb)
        (try clear hb2)
        (try clear hk)
        (try clear hi)
        (try clear ho0)
        (try clear ho1)
        (try clear ho2)
        obtain ⟨Ao77, co77, eo77⟩ := Kd.zb0 HO339.out
        (first | subst eo77 | (injection eo77 with f1_ f2_ f3_; have f4_ := f1_.symm; have f5_ := f3_.symm; clear f1_ f2_ f3_; subst f4_; subst f5_))
        obtain ⟨Ao78, co78, eo78⟩ := Kd.zb0 HO342.out
        (first | subst eo78 | (injection eo78 with f1_ f2_ f3_; have f4_ := f1_.symm; have f5_ := f3_.symm; clear f1_ f2_ f3_; subst f4_; subst f5_))
        obtain ⟨Ao79, co79, eo79⟩ := Kd.zb0 HO345.out
        (first | subst eo79 | (injection eo79 with f1_ f2_ f3_; have f4_ := f1_.symm; have f5_ := f3_.symm; clear f1_ f2_ f3_; subst f4_; subst f5_))
        refine hK.out _ _ ⟨(za4 BK334.out 0).trans rfl, (za4 BK334.out 1).trans rfl, (za4 BK334.out 2).trans rfl, (za4 BK334.out 3).trans rfl, (za4 BK311.out 0).trans rfl, (za4 BK311.out 1).trans rfl, (za4 BK311.out 2).trans rfl, (za4 BK311.out 3).trans rfl⟩ (fun hHeld => ?_)
        clear hK K
        refine norm_ (a' := ?_) ?_ ?_
        rotate_left
        · show Act.put _ (some 24) _ = _
          simp only [Act.put, List.setIfInBounds_toArray, List.set_cons_zero, List.set_cons_succ, i64_w, i32_w]
          rfl
        refine one_ (i := 3) (N := some 25) #[true, true, true, true, false] rfl rfl (by kernel_rfl) (by decide) (fun K hK => ?_)
        refine goes_ Try.func20 (by kernel_rfl) rfl #[.agg #[.int .i64 t324, .slice Ao71 t325.length co71, .slice Ao72 t328.length co72, .slice Ao73 t331.length co73], .agg #[.int .i64 t336, .slice Ao77 t337.length co77, .slice Ao78 t340.length co78, .slice Ao79 t343.length co79]] (by rfl) rfl rfl (by (try simp only [List.map_toArray, List.map_cons, List.map_nil]); first | done | rfl | (simp only [List.length_drop, List.length_take]; rfl)) ?_
        with_reducible refine (laws_eqRegCode.calls k t324 _ _ t325 _ _ t328 _ _ t331 t336 _ _ t337 _ _ t340 _ _ t343 false _ ?side1 ?side2 ?side3 ?side4 ?side5 ?side6 ?side7 ?side8 ?side9 ?side10 ?side11 ?side12 A31.out).mono ?_
        (case side1 => repeat (first | exact (Kd.R_reads' HO327.out).2.2 | (with_reducible refine Kd.zan ?_ _) | (with_reducible refine Kd.zam ?_ _) | (with_reducible refine Kd.zas ?_)))
        (case side2 => exact (Kd.R_reads' HO327.out).2.1)
        (case side3 => repeat (first | exact (Kd.R_reads' HO330.out).2.2 | (with_reducible refine Kd.zan ?_ _) | (with_reducible refine Kd.zam ?_ _) | (with_reducible refine Kd.zas ?_)))
        (case side4 => exact (Kd.R_reads' HO330.out).2.1)
        (case side5 => repeat (first | exact (Kd.R_reads' HO333.out).2.2 | (with_reducible refine Kd.zan ?_ _) | (with_reducible refine Kd.zam ?_ _) | (with_reducible refine Kd.zas ?_)))
        (case side6 => exact (Kd.R_reads' HO333.out).2.1)
        (case side7 => repeat (first | exact (Kd.R_reads' HO339.out).2.2 | (with_reducible refine Kd.zan ?_ _) | (with_reducible refine Kd.zam ?_ _) | (with_reducible refine Kd.zas ?_)))
        (case side8 => exact (Kd.R_reads' HO339.out).2.1)
        (case side9 => repeat (first | exact (Kd.R_reads' HO342.out).2.2 | (with_reducible refine Kd.zan ?_ _) | (with_reducible refine Kd.zam ?_ _) | (with_reducible refine Kd.zas ?_)))
        (case side10 => exact (Kd.R_reads' HO342.out).2.1)
        (case side11 => repeat (first | exact (Kd.R_reads' HO345.out).2.2 | (with_reducible refine Kd.zan ?_ _) | (with_reducible refine Kd.zam ?_ _) | (with_reducible refine Kd.zas ?_)))
        (case side12 => exact (Kd.R_reads' HO345.out).2.1)
        rintro e w80 ⟨rfl, hb⟩
        refine ⟨_, rfl, ?_⟩
        have n0_ := Aside0.mk (Kd.zau (by (with_reducible repeat (first | apply Kd.zac | apply Kd.zab | apply Kd.zae)); exact HO316.out) hb)
        have n1_ := Aside0.mk (Kd.zau (by (with_reducible repeat (first | apply Kd.zac | apply Kd.zab | apply Kd.zae)); exact HO319.out) hb)
        have n2_ := Aside0.mk (Kd.zau (by (with_reducible repeat (first | apply Kd.zac | apply Kd.zab | apply Kd.zae)); exact HO322.out) hb)
        have n3_ := Aside0.mk (Kd.zau (by (with_reducible repeat (first | apply Kd.zac | apply Kd.zab | apply Kd.zae)); exact HO327.out) hb)
        have n4_ := Aside0.mk (Kd.zau (by (with_reducible repeat (first | apply Kd.zac | apply Kd.zab | apply Kd.zae)); exact HO330.out) hb)
        have n5_ := Aside0.mk (Kd.zau (by (with_reducible repeat (first | apply Kd.zac | apply Kd.zab | apply Kd.zae)); exact HO333.out) hb)
        have n6_ := Aside0.mk (Kd.zau (by (with_reducible repeat (first | apply Kd.zac | apply Kd.zab | apply Kd.zae)); exact HO339.out) hb)
        have n7_ := Aside0.mk (Kd.zau (by (with_reducible repeat (first | apply Kd.zac | apply Kd.zab | apply Kd.zae)); exact HO342.out) hb)
        have n8_ := Aside0.mk (Kd.zau (by (with_reducible repeat (first | apply Kd.zac | apply Kd.zab | apply Kd.zae)); exact HO345.out) hb)
        have n9_ := Aside0.mk (zaa (g := gb311) (o := .cells #[.int .i64 a0_0, .slice A0_1 l0_1.length c0_1, .slice A0_2 l0_2.length c0_2, .slice A0_3 l0_3.length c0_3] 25 (0, 0)) (by (with_reducible repeat (first | refine za7 ?_ _ | refine za8 ?_ | refine za6 ?_ _)); exact BK311.out) hb)
        have n10_ := Aside0.mk (zaa (g := gb334) (o := .cells #[.int .i64 t324, .slice Ao71 t325.length co71, .slice Ao72 t328.length co72, .slice Ao73 t331.length co73] 30 (0, 0)) (by (with_reducible repeat (first | refine za7 ?_ _ | refine za8 ?_ | refine za6 ?_ _)); exact BK334.out) hb)
        have n11_ := Aside0.mk (zad (by repeat (first | (with_reducible first | exact HB.out | apply za1 | apply za0 | apply za2 | refine za5 ?_ GE311.out | refine za5 ?_ GE334.out) | exact HB.out)) hb)
        clear HO316
        clear HO319
        clear HO322
        clear HO327
        clear HO330
        clear HO333
        clear HO339
        clear HO342
        clear HO345
        clear BK311
        clear BK334
        clear HB
        have HO316 := n0_
        have HO319 := n1_
        have HO322 := n2_
        have HO327 := n3_
        have HO330 := n4_
        have HO333 := n5_
        have HO339 := n6_
        have HO342 := n7_
        have HO345 := n8_
        have BK311 := n9_
        have BK334 := n10_
        have HB := n11_
        clear n0_ n1_ n2_ n3_ n4_ n5_ n6_ n7_ n8_ n9_ n10_ n11_
        (try clear hb)
        (try clear hb2)
        (try clear hk)
        (try clear hi)
        refine hK.out _ _ ⟨(za4 BK334.out 0).trans rfl, (za4 BK334.out 1).trans rfl, (za4 BK334.out 2).trans rfl, (za4 BK334.out 3).trans rfl, (za4 BK311.out 0).trans rfl, (za4 BK311.out 1).trans rfl, (za4 BK311.out 2).trans rfl, (za4 BK311.out 3).trans rfl⟩ (fun hHeld => ?_)
        clear hK K
        refine norm_ (a' := ?_) ?_ ?_
        rotate_left
        · show Act.put _ (some 25) _ = _
          simp only [Act.put, List.setIfInBounds_toArray, List.set_cons_zero, List.set_cons_succ, i64_w, i32_w]
          rfl
        refine pure_ (i := 4) (N := some 26) (v := ?_) (a' := ?_) #[true, true, true, true, true] rfl rfl (by kernel_rfl) (fun _ _ _ h => h) (Or.inl ⟨by rfl, ?_⟩) ?_ ?_
        rotate_left
        · intro w'
          go_simp
          with_reducible rfl
        rotate_left
        · simp only [Act.put, List.setIfInBounds_toArray, List.set_cons_zero, List.set_cons_succ, i64_w, i32_w]
          rfl
        refine done_ (by kernel_rfl) ?_
        try go_wp2
        go_ret
        exact ⟨by first | rfl | (simp [zai, zaj] <;> rfl) | (simp [*, zai, zaj] <;> rfl), by repeat (first | (with_reducible first | exact HB.out | apply za1 | apply za0 | apply za2 | refine za5 ?_ GE311.out | refine za5 ?_ GE334.out) | exact HB.out)⟩

/-- THE ONE PURE STATEMENT of laws_FnExactIsRegCode: yours. -/
def laws_FnExactIsRegCode.Pure : Prop := ∀ (a0_0 : Int) (l0_1 : List Int) (l0_2 : List (S126)) (l0_3 : List Int), (Lit.int .i64 a0_0).wf = true → l0_1.length ≤ maxLen → (∀ y ∈ l0_1, (Lit.int .i64 y).wf = true) → l0_2.length ≤ maxLen → (∀ y ∈ l0_2, (Lit.int .i64 y.f0).wf = true ∧ (Lit.int .i64 y.f1).wf = true ∧ (Lit.int .i64 y.f2).wf = true) → l0_3.length ≤ maxLen → (∀ y ∈ l0_3, (Lit.int .i64 y).wf = true) → ∃ k, laws_FnExactIsRegCode.f k a0_0 l0_1 l0_2 l0_3 = some true
theorem laws_FnExactIsRegCode.walk (P : laws_FnExactIsRegCode.Pure) (a0_0 : Int) (A0_1 : Option Addr) (c0_1 : Nat) (l0_1 : List Int) (A0_2 : Option Addr) (c0_2 : Nat) (l0_2 : List (S126)) (A0_3 : Option Addr) (c0_3 : Nat) (l0_3 : List Int) (w : World) (hr0_1 : Kd.C (Kd.int .i64) w A0_1 l0_1.length l0_1) (hc0_1 : l0_1.length ≤ c0_1) (hr0_2 : Kd.C k126 w A0_2 l0_2.length l0_2) (hc0_2 : l0_2.length ≤ c0_2) (hr0_3 : Kd.C (Kd.int .i64) w A0_3 l0_3.length l0_3) (hc0_3 : l0_3.length ≤ c0_3) (q0 : (Lit.int .i64 a0_0).wf = true) (q1 : l0_1.length ≤ maxLen) (q2 : (∀ y ∈ l0_1, (Lit.int .i64 y).wf = true)) (q3 : l0_2.length ≤ maxLen) (q4 : (∀ y ∈ l0_2, (Lit.int .i64 y.f0).wf = true ∧ (Lit.int .i64 y.f1).wf = true ∧ (Lit.int .i64 y.f2).wf = true)) (q5 : l0_3.length ≤ maxLen) (q6 : (∀ y ∈ l0_3, (Lit.int .i64 y).wf = true)) :
    Calls Try.prog 3 #[.agg #[.int .i64 a0_0, .slice A0_1 l0_1.length c0_1, .slice A0_2 l0_2.length c0_2, .slice A0_3 l0_3.length c0_3]] w fun e w' => e = .returned (.bool true) ∧ Below w.heap.size w w' := by
  obtain ⟨k, h⟩ := P a0_0 l0_1 l0_2 l0_3 q0 q1 q2 q3 q4 q5 q6
  refine (laws_FnExactIsRegCode.calls k a0_0 _ _ l0_1 _ _ l0_2 _ _ l0_3 true w hr0_1 hc0_1 hr0_2 hc0_2 hr0_3 hc0_3 h).mono ?_
  rintro e w' ⟨rfl, hd⟩
  exact ⟨rfl, hd⟩

end Go.Proofs.Ytpdpomjgfmdjfaa.Z
