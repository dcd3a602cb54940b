-- Written by a program of this session (wip/tools/stubprint.py): contracts by hand where the kit's print has none.
import Derived.Test.YtgglemlhombgkaaKFnExactThenCodeQ0
import Derived.Test.YtgglemlhombgkaaKFnExactThenCodeQ1
import Derived.Test.YtgglemlhombgkaaKFnExactThenCodeQ4
import Derived.Test.YtgglemlhombgkaaKFnExactThenCodeQ5
namespace Go.Proofs.Ytgglemlhombgkaa.T
open Go.RowKit Go.Proofs.YtgglemlhombgkaaW.PrintWords Go.Proofs.YtgglemlhombgkaaW.PrintLast Go.Proofs.YtgglemlhombgkaaW.PrintMore
attribute [local go_sem] max2_int min2_int max_two min_two max_three min_three max_four min_four   -- for this text's walks alone
set_option linter.unusedVariables false
set_option linter.unusedSimpArgs false

/-! ### impl_Op_moved: function 90 -/
def impl_Op_moved.f (a0_0 : Int) (a0_1 : Int) (a0_2 : Int) (l1 : List Int) : Option (Int × Int × Int) := if a0_0 = 0 then (if a0_0 = 1 then (if 0 ≤ a0_2 then (if a0_2 < (l1.length : Int) then (some (a0_0, a0_1, rd l1 a0_2)) else (none)) else (none)) else (if a0_0 = 3 then (if 0 ≤ a0_2 then (if a0_2 < (l1.length : Int) then (some (a0_0, a0_1, rd l1 a0_2)) else (none)) else (none)) else (some (a0_0, a0_1, a0_2)))) else (if 0 ≤ a0_1 then (if a0_1 < (l1.length : Int) then (if a0_0 = 1 then (if 0 ≤ a0_2 then (if a0_2 < (l1.length : Int) then (some (a0_0, rd l1 a0_1, rd l1 a0_2)) else (none)) else (none)) else (if a0_0 = 3 then (if 0 ≤ a0_2 then (if a0_2 < (l1.length : Int) then (some (a0_0, rd l1 a0_1, rd l1 a0_2)) else (none)) else (none)) else (some (a0_0, rd l1 a0_1, a0_2)))) else (none)) else (none))
set_option maxHeartbeats 8000000 in
set_option maxRecDepth 100000 in
theorem impl_Op_moved.calls (a0_0 : Int) (a0_1 : Int) (a0_2 : Int) (A1 : Option Addr) (c1 : Nat) (l1 : List Int) (r1 : Int) (r2 : Int) (r3 : Int) (w : World) (hr1 : Kd.C (Kd.int .i64) w A1 l1.length l1) (hc1 : l1.length ≤ c1) (h : impl_Op_moved.f a0_0 a0_1 a0_2 l1 = some (r1, r2, r3)) :
  Calls Try.prog 90 #[.agg #[.int .i64 a0_0, .int .i64 a0_1, .int .i64 a0_2], .slice A1 l1.length c1] w fun e w' => e = .returned (.agg #[.int .i64 r1, .int .i64 r2, .int .i64 r3]) ∧ Below w.heap.size w w' := by
 have hu69 := Try.underlying69
 have HR1 := Aside0.mk hr1
 have HC1 := Aside0.mk hc1
 clear hr1 hc1
 have HB := Aside0.mk (Below.refl w.heap.size w)
 have H : (if a0_0 = 0 then (if a0_0 = 1 then (if 0 ≤ a0_2 then (if a0_2 < (l1.length : Int) then (some (a0_0, a0_1, rd l1 a0_2)) else (none)) else (none)) else (if a0_0 = 3 then (if 0 ≤ a0_2 then (if a0_2 < (l1.length : Int) then (some (a0_0, a0_1, rd l1 a0_2)) else (none)) else (none)) else (some (a0_0, a0_1, a0_2)))) else (if 0 ≤ a0_1 then (if a0_1 < (l1.length : Int) then (if a0_0 = 1 then (if 0 ≤ a0_2 then (if a0_2 < (l1.length : Int) then (some (a0_0, rd l1 a0_1, rd l1 a0_2)) else (none)) else (none)) else (if a0_0 = 3 then (if 0 ≤ a0_2 then (if a0_2 < (l1.length : Int) then (some (a0_0, rd l1 a0_1, rd l1 a0_2)) else (none)) else (none)) else (some (a0_0, rd l1 a0_1, a0_2)))) else (none)) else (none))) = some (r1, r2, r3) := h
 clear h
 by_cases c3 : a0_0 = 0
 ·rw [if_pos c3] at H
  have c3b0 : (a0_0 == 0) = true := beq_iff_eq.mpr c3
  have c3b1 : (a0_0 != 0) = false := bne_eq_false_iff_eq.mpr c3
  clear c3
  by_cases c4 : a0_0 = 1
  ·rw [if_pos c4] at H
   have c4b0 : (a0_0 == 1) = true := beq_iff_eq.mpr c4
   have c4b1 : (a0_0 != 1) = false := bne_eq_false_iff_eq.mpr c4
   clear c4
   by_cases c5 : 0 ≤ a0_2
   ·rw [if_pos c5] at H
    have c5b0 : decide (0 ≤ a0_2) = true := decide_eq_true c5
    clear c5
    by_cases c6 : a0_2 < (l1.length : Int)
    ·rw [if_pos c6] at H
     have c6b0 : decide (a0_2 < (l1.length : Int)) = true := decide_eq_true c6
     clear c6
     simp only [Option.some.injEq, Prod.mk.injEq] at H
     obtain ⟨rfl, rfl, rfl⟩ := H
     go_enter Try.func90, Try.ntmps90
     go_wp2_with (first | ((with_reducible refine zai (N := 2) rfl ?_); refine zah ?hg (N := 2) ?hd (cs := #[.int .i64 a0_0, .int .i64 a0_1, .int .i64 a0_2]) (t := 69) ?hr ?_; (case hd => rfl); (case hg => rfl); (case hr => first | (go_simp; done) | (go_simp; rfl)); intro gb468 hg w7 hbox hb; have n0_ := Aside0.mk (zac (by repeat (first | (with_reducible first | exact HB.out | apply za2 | apply za0 | apply za1) | exact HB.out)) hb); have n1_ := Aside0.mk (hbox); have n2_ := Aside0.mk ((by rw [hg]; exact (zaa (by repeat (first | (with_reducible first | exact HB.out | apply za2 | apply za0 | apply za1) | exact HB.out))) : w.heap.size ≤ gb468)); have n3_ := Aside0.mk ((by rw [hg]; exact (zaa (by repeat (first | (with_reducible first | exact HB.out | apply za2 | apply za0 | apply za1) | exact HB.out))) : w.heap.size ≤ gb468)); clear HB; have HB := n0_; have BK468 := n1_; have GW468 := n2_; have GE468 := n3_; clear n0_ n1_ n2_ n3_; clear hb hbox hg) | ((with_reducible refine zai (N := 4) rfl ?_); refine zah ?hg (N := 4) ?hd (cs := #[.int .i64 0, .int .i64 0, .int .i64 0]) (t := 69) ?hr ?_; (case hd => rfl); (case hg => rfl); (case hr => first | (go_simp; done) | (go_simp; rfl)); intro gb469 hg w8 hbox hb; have n0_ := Aside0.mk (zad (g := gb468) (o := .cells #[.int .i64 a0_0, .int .i64 a0_1, .int .i64 a0_2] 69 (0, 0)) (by (with_reducible repeat (first | refine za5 ?_ _ | refine za6 ?_ | refine za4 ?_ _)); exact BK468.out) hb); have n1_ := Aside0.mk (zac (by repeat (first | (with_reducible first | exact HB.out | apply za2 | apply za0 | apply za1 | refine za3 ?_ GE468.out) | exact HB.out)) hb); have n2_ := Aside0.mk (hbox); have n3_ := Aside0.mk ((by rw [hg]; exact (zaa (by repeat (first | (with_reducible first | exact HB.out | apply za2 | apply za0 | apply za1 | refine za3 ?_ GE468.out) | exact HB.out))) : w.heap.size ≤ gb469)); have n4_ := Aside0.mk ((by rw [hg]; exact (zaa (by repeat (first | (with_reducible first | exact HB.out | apply za2 | apply za0 | apply za1 | refine za3 ?_ GE468.out) | exact HB.out))) : w.heap.size ≤ gb469)); have n5_ := Aside0.mk ((by rw [hg]; exact Nat.ne_of_lt (zao (g := gb468) (o := .cells #[.int .i64 a0_0, .int .i64 a0_1, .int .i64 a0_2] 69 (0, 0)) (by (with_reducible repeat (first | refine za5 ?_ _ | refine za6 ?_ | refine za4 ?_ _)); exact BK468.out)) : gb468 ≠ gb469)); have n6_ := Aside0.mk ((by rw [hg]; exact Nat.ne_of_gt (zao (g := gb468) (o := .cells #[.int .i64 a0_0, .int .i64 a0_1, .int .i64 a0_2] 69 (0, 0)) (by (with_reducible repeat (first | refine za5 ?_ _ | refine za6 ?_ | refine za4 ?_ _)); exact BK468.out)) : gb469 ≠ gb468)); clear BK468; clear HB; have BK468 := n0_; have HB := n1_; have BK469 := n2_; have GW469 := n3_; have GE469 := n4_; have NB468_469 := n5_; have NB469_468 := n6_; clear n0_ n1_ n2_ n3_ n4_ n5_ n6_; clear hb hbox hg; have hnb9 := NB468_469.out; have hnc9 := NB469_468.out; have hcz10_0 : w8.cell? ⟨gb468, 0, none⟩ = some (.int .i64 a0_0) := (za8 BK468.out 0).trans rfl; have hcz10_1 : w8.cell? ⟨gb468, 1, none⟩ = some (.int .i64 a0_1) := (za8 BK468.out 1).trans rfl; have hcz10_2 : w8.cell? ⟨gb468, 2, none⟩ = some (.int .i64 a0_2) := (za8 BK468.out 2).trans rfl; have hfz10_0 := za7 BK468.out 0; have hfz10_1 := za7 BK468.out 1; have hfz10_2 := za7 BK468.out 2; have p470 : 0 ≤ (a0_2 : Int) := of_decide_eq_true (by first | (with_reducible assumption) | assumption); have q470 : a0_2 < (l1.length : Int) := of_decide_eq_true (by first | (with_reducible assumption) | assumption); obtain ⟨ad470, e470, hx470_0⟩ := Kd.at_int HR1.out a0_2 p470 q470; cases e470; replace hx470_0 := (HB.out.cell (World.block_lt_of_cell? w _ hx470_0)).trans hx470_0; replace p470 := eq_true p470; replace q470 := eq_true q470; have hcz11_0 : w8.cell? ⟨gb469, 0, none⟩ = some (.int .i64 0) := (za8 BK469.out 0).trans rfl; have hcz11_1 : w8.cell? ⟨gb469, 1, none⟩ = some (.int .i64 0) := (za8 BK469.out 1).trans rfl; have hcz11_2 : w8.cell? ⟨gb469, 2, none⟩ = some (.int .i64 0) := (za8 BK469.out 2).trans rfl; have hfz11_0 := za7 BK469.out 0; have hfz11_1 := za7 BK469.out 1; have hfz11_2 := za7 BK469.out 2))
     refine bodyPost_ret (results_cell_row rfl _ _ gb469 69 #[.int .i64 a0_0, .int .i64 a0_1, .int .i64 (rd l1 a0_2)] (0, 0) _ rfl (by (with_reducible repeat (first | refine za5 ?_ _ | refine za6 ?_ | refine za4 ?_ _)); refine zat (cs := #[.int .i64 a0_0, .int .i64 a0_1, .int .i64 0]) ?_ 2 _ rfl; (with_reducible repeat (first | refine za5 ?_ _ | refine za6 ?_ | refine za4 ?_ _)); refine zat (cs := #[.int .i64 a0_0, .int .i64 0, .int .i64 0]) ?_ 1 _ rfl; (with_reducible repeat (first | refine za5 ?_ _ | refine za6 ?_ | refine za4 ?_ _)); refine zat (cs := #[.int .i64 0, .int .i64 0, .int .i64 0]) ?_ 0 _ rfl; (with_reducible repeat (first | refine za5 ?_ _ | refine za6 ?_ | refine za4 ?_ _)); refine zay ?_ NB469_468.out _; (with_reducible repeat (first | refine za5 ?_ _ | refine za6 ?_ | refine za4 ?_ _)); exact BK469.out) Try.underlying69 rfl (by kernel_rfl)) rfl ?_
     exact ⟨by first | rfl | (simp [zaf, zae] <;> rfl) | (simp [*, zaf, zae] <;> rfl), by repeat (first | (with_reducible first | exact HB.out | apply za2 | apply za0 | apply za1 | refine za3 ?_ GE468.out | refine za3 ?_ GE469.out) | exact HB.out)⟩
    ·rw [if_neg c6] at H
     exact absurd H (by simp)
   ·rw [if_neg c5] at H
    exact absurd H (by simp)
  ·rw [if_neg c4] at H
   have c4b0 : (a0_0 == 1) = false := beq_eq_false_iff_ne.mpr c4
   have c4b1 : (a0_0 != 1) = true := bne_iff_ne.mpr c4
   by_cases c12 : a0_0 = 3
   ·rw [if_pos c12] at H
    have c12b0 : (a0_0 == 3) = true := beq_iff_eq.mpr c12
    have c12b1 : (a0_0 != 3) = false := bne_eq_false_iff_eq.mpr c12
    clear c12
    by_cases c13 : 0 ≤ a0_2
    ·rw [if_pos c13] at H
     have c13b0 : decide (0 ≤ a0_2) = true := decide_eq_true c13
     clear c13
     by_cases c14 : a0_2 < (l1.length : Int)
     ·rw [if_pos c14] at H
      have c14b0 : decide (a0_2 < (l1.length : Int)) = true := decide_eq_true c14
      clear c14
      simp only [Option.some.injEq, Prod.mk.injEq] at H
      obtain ⟨rfl, rfl, rfl⟩ := H
      go_enter Try.func90, Try.ntmps90
      go_wp2_with (first | ((with_reducible refine zai (N := 2) rfl ?_); refine zah ?hg (N := 2) ?hd (cs := #[.int .i64 a0_0, .int .i64 a0_1, .int .i64 a0_2]) (t := 69) ?hr ?_; (case hd => rfl); (case hg => rfl); (case hr => first | (go_simp; done) | (go_simp; rfl)); intro gb468 hg w15 hbox hb; have n0_ := Aside0.mk (zac (by repeat (first | (with_reducible first | exact HB.out | apply za2 | apply za0 | apply za1) | exact HB.out)) hb); have n1_ := Aside0.mk (hbox); have n2_ := Aside0.mk ((by rw [hg]; exact (zaa (by repeat (first | (with_reducible first | exact HB.out | apply za2 | apply za0 | apply za1) | exact HB.out))) : w.heap.size ≤ gb468)); have n3_ := Aside0.mk ((by rw [hg]; exact (zaa (by repeat (first | (with_reducible first | exact HB.out | apply za2 | apply za0 | apply za1) | exact HB.out))) : w.heap.size ≤ gb468)); clear HB; have HB := n0_; have BK468 := n1_; have GW468 := n2_; have GE468 := n3_; clear n0_ n1_ n2_ n3_; clear hb hbox hg) | ((with_reducible refine zai (N := 4) rfl ?_); refine zah ?hg (N := 4) ?hd (cs := #[.int .i64 0, .int .i64 0, .int .i64 0]) (t := 69) ?hr ?_; (case hd => rfl); (case hg => rfl); (case hr => first | (go_simp; done) | (go_simp; rfl)); intro gb469 hg w16 hbox hb; have n0_ := Aside0.mk (zad (g := gb468) (o := .cells #[.int .i64 a0_0, .int .i64 a0_1, .int .i64 a0_2] 69 (0, 0)) (by (with_reducible repeat (first | refine za5 ?_ _ | refine za6 ?_ | refine za4 ?_ _)); exact BK468.out) hb); have n1_ := Aside0.mk (zac (by repeat (first | (with_reducible first | exact HB.out | apply za2 | apply za0 | apply za1 | refine za3 ?_ GE468.out) | exact HB.out)) hb); have n2_ := Aside0.mk (hbox); have n3_ := Aside0.mk ((by rw [hg]; exact (zaa (by repeat (first | (with_reducible first | exact HB.out | apply za2 | apply za0 | apply za1 | refine za3 ?_ GE468.out) | exact HB.out))) : w.heap.size ≤ gb469)); have n4_ := Aside0.mk ((by rw [hg]; exact (zaa (by repeat (first | (with_reducible first | exact HB.out | apply za2 | apply za0 | apply za1 | refine za3 ?_ GE468.out) | exact HB.out))) : w.heap.size ≤ gb469)); have n5_ := Aside0.mk ((by rw [hg]; exact Nat.ne_of_lt (zao (g := gb468) (o := .cells #[.int .i64 a0_0, .int .i64 a0_1, .int .i64 a0_2] 69 (0, 0)) (by (with_reducible repeat (first | refine za5 ?_ _ | refine za6 ?_ | refine za4 ?_ _)); exact BK468.out)) : gb468 ≠ gb469)); have n6_ := Aside0.mk ((by rw [hg]; exact Nat.ne_of_gt (zao (g := gb468) (o := .cells #[.int .i64 a0_0, .int .i64 a0_1, .int .i64 a0_2] 69 (0, 0)) (by (with_reducible repeat (first | refine za5 ?_ _ | refine za6 ?_ | refine za4 ?_ _)); exact BK468.out)) : gb469 ≠ gb468)); clear BK468; clear HB; have BK468 := n0_; have HB := n1_; have BK469 := n2_; have GW469 := n3_; have GE469 := n4_; have NB468_469 := n5_; have NB469_468 := n6_; clear n0_ n1_ n2_ n3_ n4_ n5_ n6_; clear hb hbox hg; have hnb17 := NB468_469.out; have hnc17 := NB469_468.out; have hcz18_0 : w16.cell? ⟨gb468, 0, none⟩ = some (.int .i64 a0_0) := (za8 BK468.out 0).trans rfl; have hcz18_1 : w16.cell? ⟨gb468, 1, none⟩ = some (.int .i64 a0_1) := (za8 BK468.out 1).trans rfl; have hcz18_2 : w16.cell? ⟨gb468, 2, none⟩ = some (.int .i64 a0_2) := (za8 BK468.out 2).trans rfl; have hfz18_0 := za7 BK468.out 0; have hfz18_1 := za7 BK468.out 1; have hfz18_2 := za7 BK468.out 2; have p471 : 0 ≤ (a0_2 : Int) := of_decide_eq_true (by first | (with_reducible assumption) | assumption); have q471 : a0_2 < (l1.length : Int) := of_decide_eq_true (by first | (with_reducible assumption) | assumption); obtain ⟨ad471, e471, hx471_0⟩ := Kd.at_int HR1.out a0_2 p471 q471; cases e471; replace hx471_0 := (HB.out.cell (World.block_lt_of_cell? w _ hx471_0)).trans hx471_0; replace p471 := eq_true p471; replace q471 := eq_true q471; have hcz19_0 : w16.cell? ⟨gb469, 0, none⟩ = some (.int .i64 0) := (za8 BK469.out 0).trans rfl; have hcz19_1 : w16.cell? ⟨gb469, 1, none⟩ = some (.int .i64 0) := (za8 BK469.out 1).trans rfl; have hcz19_2 : w16.cell? ⟨gb469, 2, none⟩ = some (.int .i64 0) := (za8 BK469.out 2).trans rfl; have hfz19_0 := za7 BK469.out 0; have hfz19_1 := za7 BK469.out 1; have hfz19_2 := za7 BK469.out 2))
      refine bodyPost_ret (results_cell_row rfl _ _ gb469 69 #[.int .i64 a0_0, .int .i64 a0_1, .int .i64 (rd l1 a0_2)] (0, 0) _ rfl (by (with_reducible repeat (first | refine za5 ?_ _ | refine za6 ?_ | refine za4 ?_ _)); refine zat (cs := #[.int .i64 a0_0, .int .i64 a0_1, .int .i64 0]) ?_ 2 _ rfl; (with_reducible repeat (first | refine za5 ?_ _ | refine za6 ?_ | refine za4 ?_ _)); refine zat (cs := #[.int .i64 a0_0, .int .i64 0, .int .i64 0]) ?_ 1 _ rfl; (with_reducible repeat (first | refine za5 ?_ _ | refine za6 ?_ | refine za4 ?_ _)); refine zat (cs := #[.int .i64 0, .int .i64 0, .int .i64 0]) ?_ 0 _ rfl; (with_reducible repeat (first | refine za5 ?_ _ | refine za6 ?_ | refine za4 ?_ _)); refine zay ?_ NB469_468.out _; (with_reducible repeat (first | refine za5 ?_ _ | refine za6 ?_ | refine za4 ?_ _)); exact BK469.out) Try.underlying69 rfl (by kernel_rfl)) rfl ?_
      exact ⟨by first | rfl | (simp [zaf, zae] <;> rfl) | (simp [*, zaf, zae] <;> rfl), by repeat (first | (with_reducible first | exact HB.out | apply za2 | apply za0 | apply za1 | refine za3 ?_ GE468.out | refine za3 ?_ GE469.out) | exact HB.out)⟩
     ·rw [if_neg c14] at H
      exact absurd H (by simp)
    ·rw [if_neg c13] at H
     exact absurd H (by simp)
   ·rw [if_neg c12] at H
    have c12b0 : (a0_0 == 3) = false := beq_eq_false_iff_ne.mpr c12
    have c12b1 : (a0_0 != 3) = true := bne_iff_ne.mpr c12
    simp only [Option.some.injEq, Prod.mk.injEq] at H
    obtain ⟨rfl, rfl, rfl⟩ := H
    go_enter Try.func90, Try.ntmps90
    go_wp2_with (first | ((with_reducible refine zai (N := 2) rfl ?_); refine zah ?hg (N := 2) ?hd (cs := #[.int .i64 a0_0, .int .i64 a0_1, .int .i64 a0_2]) (t := 69) ?hr ?_; (case hd => rfl); (case hg => rfl); (case hr => first | (go_simp; done) | (go_simp; rfl)); intro gb468 hg w20 hbox hb; have n0_ := Aside0.mk (zac (by repeat (first | (with_reducible first | exact HB.out | apply za2 | apply za0 | apply za1) | exact HB.out)) hb); have n1_ := Aside0.mk (hbox); have n2_ := Aside0.mk ((by rw [hg]; exact (zaa (by repeat (first | (with_reducible first | exact HB.out | apply za2 | apply za0 | apply za1) | exact HB.out))) : w.heap.size ≤ gb468)); have n3_ := Aside0.mk ((by rw [hg]; exact (zaa (by repeat (first | (with_reducible first | exact HB.out | apply za2 | apply za0 | apply za1) | exact HB.out))) : w.heap.size ≤ gb468)); clear HB; have HB := n0_; have BK468 := n1_; have GW468 := n2_; have GE468 := n3_; clear n0_ n1_ n2_ n3_; clear hb hbox hg) | ((with_reducible refine zai (N := 4) rfl ?_); refine zah ?hg (N := 4) ?hd (cs := #[.int .i64 0, .int .i64 0, .int .i64 0]) (t := 69) ?hr ?_; (case hd => rfl); (case hg => rfl); (case hr => first | (go_simp; done) | (go_simp; rfl)); intro gb469 hg w21 hbox hb; have n0_ := Aside0.mk (zad (g := gb468) (o := .cells #[.int .i64 a0_0, .int .i64 a0_1, .int .i64 a0_2] 69 (0, 0)) (by (with_reducible repeat (first | refine za5 ?_ _ | refine za6 ?_ | refine za4 ?_ _)); exact BK468.out) hb); have n1_ := Aside0.mk (zac (by repeat (first | (with_reducible first | exact HB.out | apply za2 | apply za0 | apply za1 | refine za3 ?_ GE468.out) | exact HB.out)) hb); have n2_ := Aside0.mk (hbox); have n3_ := Aside0.mk ((by rw [hg]; exact (zaa (by repeat (first | (with_reducible first | exact HB.out | apply za2 | apply za0 | apply za1 | refine za3 ?_ GE468.out) | exact HB.out))) : w.heap.size ≤ gb469)); have n4_ := Aside0.mk ((by rw [hg]; exact (zaa (by repeat (first | (with_reducible first | exact HB.out | apply za2 | apply za0 | apply za1 | refine za3 ?_ GE468.out) | exact HB.out))) : w.heap.size ≤ gb469)); have n5_ := Aside0.mk ((by rw [hg]; exact Nat.ne_of_lt (zao (g := gb468) (o := .cells #[.int .i64 a0_0, .int .i64 a0_1, .int .i64 a0_2] 69 (0, 0)) (by (with_reducible repeat (first | refine za5 ?_ _ | refine za6 ?_ | refine za4 ?_ _)); exact BK468.out)) : gb468 ≠ gb469)); have n6_ := Aside0.mk ((by rw [hg]; exact Nat.ne_of_gt (zao (g := gb468) (o := .cells #[.int .i64 a0_0, .int .i64 a0_1, .int .i64 a0_2] 69 (0, 0)) (by (with_reducible repeat (first | refine za5 ?_ _ | refine za6 ?_ | refine za4 ?_ _)); exact BK468.out)) : gb469 ≠ gb468)); clear BK468; clear HB; have BK468 := n0_; have HB := n1_; have BK469 := n2_; have GW469 := n3_; have GE469 := n4_; have NB468_469 := n5_; have NB469_468 := n6_; clear n0_ n1_ n2_ n3_ n4_ n5_ n6_; clear hb hbox hg; have hnb22 := NB468_469.out; have hnc22 := NB469_468.out; have hcz23_0 : w21.cell? ⟨gb468, 0, none⟩ = some (.int .i64 a0_0) := (za8 BK468.out 0).trans rfl; have hcz23_1 : w21.cell? ⟨gb468, 1, none⟩ = some (.int .i64 a0_1) := (za8 BK468.out 1).trans rfl; have hcz23_2 : w21.cell? ⟨gb468, 2, none⟩ = some (.int .i64 a0_2) := (za8 BK468.out 2).trans rfl; have hfz23_0 := za7 BK468.out 0; have hfz23_1 := za7 BK468.out 1; have hfz23_2 := za7 BK468.out 2; have hcz24_0 : w21.cell? ⟨gb469, 0, none⟩ = some (.int .i64 0) := (za8 BK469.out 0).trans rfl; have hcz24_1 : w21.cell? ⟨gb469, 1, none⟩ = some (.int .i64 0) := (za8 BK469.out 1).trans rfl; have hcz24_2 : w21.cell? ⟨gb469, 2, none⟩ = some (.int .i64 0) := (za8 BK469.out 2).trans rfl; have hfz24_0 := za7 BK469.out 0; have hfz24_1 := za7 BK469.out 1; have hfz24_2 := za7 BK469.out 2))
    refine bodyPost_ret (results_cell_row rfl _ _ gb469 69 #[.int .i64 a0_0, .int .i64 a0_1, .int .i64 a0_2] (0, 0) _ rfl (by (with_reducible repeat (first | refine za5 ?_ _ | refine za6 ?_ | refine za4 ?_ _)); refine zat (cs := #[.int .i64 a0_0, .int .i64 a0_1, .int .i64 0]) ?_ 2 _ rfl; (with_reducible repeat (first | refine za5 ?_ _ | refine za6 ?_ | refine za4 ?_ _)); refine zat (cs := #[.int .i64 a0_0, .int .i64 0, .int .i64 0]) ?_ 1 _ rfl; (with_reducible repeat (first | refine za5 ?_ _ | refine za6 ?_ | refine za4 ?_ _)); refine zat (cs := #[.int .i64 0, .int .i64 0, .int .i64 0]) ?_ 0 _ rfl; (with_reducible repeat (first | refine za5 ?_ _ | refine za6 ?_ | refine za4 ?_ _)); exact BK469.out) Try.underlying69 rfl (by kernel_rfl)) rfl ?_
    exact ⟨by first | rfl | (simp [zaf, zae] <;> rfl) | (simp [*, zaf, zae] <;> rfl), by repeat (first | (with_reducible first | exact HB.out | apply za2 | apply za0 | apply za1 | refine za3 ?_ GE468.out | refine za3 ?_ GE469.out) | exact HB.out)⟩
 ·rw [if_neg c3] at H
  have c3b0 : (a0_0 == 0) = false := beq_eq_false_iff_ne.mpr c3
  have c3b1 : (a0_0 != 0) = true := bne_iff_ne.mpr c3
  by_cases c25 : 0 ≤ a0_1
  ·rw [if_pos c25] at H
   have c25b0 : decide (0 ≤ a0_1) = true := decide_eq_true c25
   clear c25
   by_cases c26 : a0_1 < (l1.length : Int)
   ·rw [if_pos c26] at H
    have c26b0 : decide (a0_1 < (l1.length : Int)) = true := decide_eq_true c26
    clear c26
    by_cases c27 : a0_0 = 1
    ·rw [if_pos c27] at H
     have c27b0 : (a0_0 == 1) = true := beq_iff_eq.mpr c27
     have c27b1 : (a0_0 != 1) = false := bne_eq_false_iff_eq.mpr c27
     clear c27
     by_cases c28 : 0 ≤ a0_2
     ·rw [if_pos c28] at H
      have c28b0 : decide (0 ≤ a0_2) = true := decide_eq_true c28
      clear c28
      by_cases c29 : a0_2 < (l1.length : Int)
      ·rw [if_pos c29] at H
       have c29b0 : decide (a0_2 < (l1.length : Int)) = true := decide_eq_true c29
       clear c29
       simp only [Option.some.injEq, Prod.mk.injEq] at H
       obtain ⟨rfl, rfl, rfl⟩ := H
       go_enter Try.func90, Try.ntmps90
       go_wp2_with (first | ((with_reducible refine zai (N := 2) rfl ?_); refine zah ?hg (N := 2) ?hd (cs := #[.int .i64 a0_0, .int .i64 a0_1, .int .i64 a0_2]) (t := 69) ?hr ?_; (case hd => rfl); (case hg => rfl); (case hr => first | (go_simp; done) | (go_simp; rfl)); intro gb468 hg w30 hbox hb; have n0_ := Aside0.mk (zac (by repeat (first | (with_reducible first | exact HB.out | apply za2 | apply za0 | apply za1) | exact HB.out)) hb); have n1_ := Aside0.mk (hbox); have n2_ := Aside0.mk ((by rw [hg]; exact (zaa (by repeat (first | (with_reducible first | exact HB.out | apply za2 | apply za0 | apply za1) | exact HB.out))) : w.heap.size ≤ gb468)); have n3_ := Aside0.mk ((by rw [hg]; exact (zaa (by repeat (first | (with_reducible first | exact HB.out | apply za2 | apply za0 | apply za1) | exact HB.out))) : w.heap.size ≤ gb468)); clear HB; have HB := n0_; have BK468 := n1_; have GW468 := n2_; have GE468 := n3_; clear n0_ n1_ n2_ n3_; clear hb hbox hg) | ((with_reducible refine zai (N := 4) rfl ?_); refine zah ?hg (N := 4) ?hd (cs := #[.int .i64 0, .int .i64 0, .int .i64 0]) (t := 69) ?hr ?_; (case hd => rfl); (case hg => rfl); (case hr => first | (go_simp; done) | (go_simp; rfl)); intro gb469 hg w31 hbox hb; have n0_ := Aside0.mk (zad (g := gb468) (o := .cells #[.int .i64 a0_0, .int .i64 a0_1, .int .i64 a0_2] 69 (0, 0)) (by (with_reducible repeat (first | refine za5 ?_ _ | refine za6 ?_ | refine za4 ?_ _)); exact BK468.out) hb); have n1_ := Aside0.mk (zac (by repeat (first | (with_reducible first | exact HB.out | apply za2 | apply za0 | apply za1 | refine za3 ?_ GE468.out) | exact HB.out)) hb); have n2_ := Aside0.mk (hbox); have n3_ := Aside0.mk ((by rw [hg]; exact (zaa (by repeat (first | (with_reducible first | exact HB.out | apply za2 | apply za0 | apply za1 | refine za3 ?_ GE468.out) | exact HB.out))) : w.heap.size ≤ gb469)); have n4_ := Aside0.mk ((by rw [hg]; exact (zaa (by repeat (first | (with_reducible first | exact HB.out | apply za2 | apply za0 | apply za1 | refine za3 ?_ GE468.out) | exact HB.out))) : w.heap.size ≤ gb469)); have n5_ := Aside0.mk ((by rw [hg]; exact Nat.ne_of_lt (zao (g := gb468) (o := .cells #[.int .i64 a0_0, .int .i64 a0_1, .int .i64 a0_2] 69 (0, 0)) (by (with_reducible repeat (first | refine za5 ?_ _ | refine za6 ?_ | refine za4 ?_ _)); exact BK468.out)) : gb468 ≠ gb469)); have n6_ := Aside0.mk ((by rw [hg]; exact Nat.ne_of_gt (zao (g := gb468) (o := .cells #[.int .i64 a0_0, .int .i64 a0_1, .int .i64 a0_2] 69 (0, 0)) (by (with_reducible repeat (first | refine za5 ?_ _ | refine za6 ?_ | refine za4 ?_ _)); exact BK468.out)) : gb469 ≠ gb468)); clear BK468; clear HB; have BK468 := n0_; have HB := n1_; have BK469 := n2_; have GW469 := n3_; have GE469 := n4_; have NB468_469 := n5_; have NB469_468 := n6_; clear n0_ n1_ n2_ n3_ n4_ n5_ n6_; clear hb hbox hg; have hnb32 := NB468_469.out; have hnc32 := NB469_468.out; have hcz33_0 : w31.cell? ⟨gb468, 0, none⟩ = some (.int .i64 a0_0) := (za8 BK468.out 0).trans rfl; have hcz33_1 : w31.cell? ⟨gb468, 1, none⟩ = some (.int .i64 a0_1) := (za8 BK468.out 1).trans rfl; have hcz33_2 : w31.cell? ⟨gb468, 2, none⟩ = some (.int .i64 a0_2) := (za8 BK468.out 2).trans rfl; have hfz33_0 := za7 BK468.out 0; have hfz33_1 := za7 BK468.out 1; have hfz33_2 := za7 BK468.out 2; have p472 : 0 ≤ (a0_1 : Int) := of_decide_eq_true (by first | (with_reducible assumption) | assumption); have q472 : a0_1 < (l1.length : Int) := of_decide_eq_true (by first | (with_reducible assumption) | assumption); obtain ⟨ad472, e472, hx472_0⟩ := Kd.at_int HR1.out a0_1 p472 q472; cases e472; replace hx472_0 := (HB.out.cell (World.block_lt_of_cell? w _ hx472_0)).trans hx472_0; replace p472 := eq_true p472; replace q472 := eq_true q472; have p473 : 0 ≤ (a0_2 : Int) := of_decide_eq_true (by first | (with_reducible assumption) | assumption); have q473 : a0_2 < (l1.length : Int) := of_decide_eq_true (by first | (with_reducible assumption) | assumption); obtain ⟨ad473, e473, hx473_0⟩ := Kd.at_int HR1.out a0_2 p473 q473; obtain rfl : ad472 = ad473 := (by injection e473); have hn473_0 : ad472.block ≠ gb468 := Nat.ne_of_lt (Nat.lt_of_lt_of_le (by have := World.block_lt_of_cell? _ _ hx473_0; first | rwa [add_block] at this | exact this) GW468.out); replace hx473_0 := (HB.out.cell (World.block_lt_of_cell? w _ hx473_0)).trans hx473_0; replace hx473_0 := (cell_far (p := ⟨gb468, 1, none⟩) (by first | (rw [add_block]; exact hn473_0) | (show (Addr.add _ _).block ≠ _; rw [add_block]; exact hn473_0) | exact hn473_0) (.int .i64 (rd l1 a0_1))).trans hx473_0; clear hn473_0; replace p473 := eq_true p473; replace q473 := eq_true q473; have hcz34_0 : w31.cell? ⟨gb469, 0, none⟩ = some (.int .i64 0) := (za8 BK469.out 0).trans rfl; have hcz34_1 : w31.cell? ⟨gb469, 1, none⟩ = some (.int .i64 0) := (za8 BK469.out 1).trans rfl; have hcz34_2 : w31.cell? ⟨gb469, 2, none⟩ = some (.int .i64 0) := (za8 BK469.out 2).trans rfl; have hfz34_0 := za7 BK469.out 0; have hfz34_1 := za7 BK469.out 1; have hfz34_2 := za7 BK469.out 2))
       refine bodyPost_ret (results_cell_row rfl _ _ gb469 69 #[.int .i64 a0_0, .int .i64 (rd l1 a0_1), .int .i64 (rd l1 a0_2)] (0, 0) _ rfl (by (with_reducible repeat (first | refine za5 ?_ _ | refine za6 ?_ | refine za4 ?_ _)); refine zat (cs := #[.int .i64 a0_0, .int .i64 (rd l1 a0_1), .int .i64 0]) ?_ 2 _ rfl; (with_reducible repeat (first | refine za5 ?_ _ | refine za6 ?_ | refine za4 ?_ _)); refine zat (cs := #[.int .i64 a0_0, .int .i64 0, .int .i64 0]) ?_ 1 _ rfl; (with_reducible repeat (first | refine za5 ?_ _ | refine za6 ?_ | refine za4 ?_ _)); refine zat (cs := #[.int .i64 0, .int .i64 0, .int .i64 0]) ?_ 0 _ rfl; (with_reducible repeat (first | refine za5 ?_ _ | refine za6 ?_ | refine za4 ?_ _)); refine zay ?_ NB469_468.out _; (with_reducible repeat (first | refine za5 ?_ _ | refine za6 ?_ | refine za4 ?_ _)); refine zay ?_ NB469_468.out _; (with_reducible repeat (first | refine za5 ?_ _ | refine za6 ?_ | refine za4 ?_ _)); exact BK469.out) Try.underlying69 rfl (by kernel_rfl)) rfl ?_
       exact ⟨by first | rfl | (simp [zaf, zae] <;> rfl) | (simp [*, zaf, zae] <;> rfl), by repeat (first | (with_reducible first | exact HB.out | apply za2 | apply za0 | apply za1 | refine za3 ?_ GE468.out | refine za3 ?_ GE469.out) | exact HB.out)⟩
      ·rw [if_neg c29] at H
       exact absurd H (by simp)
     ·rw [if_neg c28] at H
      exact absurd H (by simp)
    ·rw [if_neg c27] at H
     have c27b0 : (a0_0 == 1) = false := beq_eq_false_iff_ne.mpr c27
     have c27b1 : (a0_0 != 1) = true := bne_iff_ne.mpr c27
     by_cases c35 : a0_0 = 3
     ·rw [if_pos c35] at H
      have c35b0 : (a0_0 == 3) = true := beq_iff_eq.mpr c35
      have c35b1 : (a0_0 != 3) = false := bne_eq_false_iff_eq.mpr c35
      clear c35
      by_cases c36 : 0 ≤ a0_2
      ·rw [if_pos c36] at H
       have c36b0 : decide (0 ≤ a0_2) = true := decide_eq_true c36
       clear c36
       by_cases c37 : a0_2 < (l1.length : Int)
       ·rw [if_pos c37] at H
        have c37b0 : decide (a0_2 < (l1.length : Int)) = true := decide_eq_true c37
        clear c37
        simp only [Option.some.injEq, Prod.mk.injEq] at H
        obtain ⟨rfl, rfl, rfl⟩ := H
        go_enter Try.func90, Try.ntmps90
        go_wp2_with (first | ((with_reducible refine zai (N := 2) rfl ?_); refine zah ?hg (N := 2) ?hd (cs := #[.int .i64 a0_0, .int .i64 a0_1, .int .i64 a0_2]) (t := 69) ?hr ?_; (case hd => rfl); (case hg => rfl); (case hr => first | (go_simp; done) | (go_simp; rfl)); intro gb468 hg w38 hbox hb; have n0_ := Aside0.mk (zac (by repeat (first | (with_reducible first | exact HB.out | apply za2 | apply za0 | apply za1) | exact HB.out)) hb); have n1_ := Aside0.mk (hbox); have n2_ := Aside0.mk ((by rw [hg]; exact (zaa (by repeat (first | (with_reducible first | exact HB.out | apply za2 | apply za0 | apply za1) | exact HB.out))) : w.heap.size ≤ gb468)); have n3_ := Aside0.mk ((by rw [hg]; exact (zaa (by repeat (first | (with_reducible first | exact HB.out | apply za2 | apply za0 | apply za1) | exact HB.out))) : w.heap.size ≤ gb468)); clear HB; have HB := n0_; have BK468 := n1_; have GW468 := n2_; have GE468 := n3_; clear n0_ n1_ n2_ n3_; clear hb hbox hg) | ((with_reducible refine zai (N := 4) rfl ?_); refine zah ?hg (N := 4) ?hd (cs := #[.int .i64 0, .int .i64 0, .int .i64 0]) (t := 69) ?hr ?_; (case hd => rfl); (case hg => rfl); (case hr => first | (go_simp; done) | (go_simp; rfl)); intro gb469 hg w39 hbox hb; have n0_ := Aside0.mk (zad (g := gb468) (o := .cells #[.int .i64 a0_0, .int .i64 a0_1, .int .i64 a0_2] 69 (0, 0)) (by (with_reducible repeat (first | refine za5 ?_ _ | refine za6 ?_ | refine za4 ?_ _)); exact BK468.out) hb); have n1_ := Aside0.mk (zac (by repeat (first | (with_reducible first | exact HB.out | apply za2 | apply za0 | apply za1 | refine za3 ?_ GE468.out) | exact HB.out)) hb); have n2_ := Aside0.mk (hbox); have n3_ := Aside0.mk ((by rw [hg]; exact (zaa (by repeat (first | (with_reducible first | exact HB.out | apply za2 | apply za0 | apply za1 | refine za3 ?_ GE468.out) | exact HB.out))) : w.heap.size ≤ gb469)); have n4_ := Aside0.mk ((by rw [hg]; exact (zaa (by repeat (first | (with_reducible first | exact HB.out | apply za2 | apply za0 | apply za1 | refine za3 ?_ GE468.out) | exact HB.out))) : w.heap.size ≤ gb469)); have n5_ := Aside0.mk ((by rw [hg]; exact Nat.ne_of_lt (zao (g := gb468) (o := .cells #[.int .i64 a0_0, .int .i64 a0_1, .int .i64 a0_2] 69 (0, 0)) (by (with_reducible repeat (first | refine za5 ?_ _ | refine za6 ?_ | refine za4 ?_ _)); exact BK468.out)) : gb468 ≠ gb469)); have n6_ := Aside0.mk ((by rw [hg]; exact Nat.ne_of_gt (zao (g := gb468) (o := .cells #[.int .i64 a0_0, .int .i64 a0_1, .int .i64 a0_2] 69 (0, 0)) (by (with_reducible repeat (first | refine za5 ?_ _ | refine za6 ?_ | refine za4 ?_ _)); exact BK468.out)) : gb469 ≠ gb468)); clear BK468; clear HB; have BK468 := n0_; have HB := n1_; have BK469 := n2_; have GW469 := n3_; have GE469 := n4_; have NB468_469 := n5_; have NB469_468 := n6_; clear n0_ n1_ n2_ n3_ n4_ n5_ n6_; clear hb hbox hg; have hnb40 := NB468_469.out; have hnc40 := NB469_468.out; have hcz41_0 : w39.cell? ⟨gb468, 0, none⟩ = some (.int .i64 a0_0) := (za8 BK468.out 0).trans rfl; have hcz41_1 : w39.cell? ⟨gb468, 1, none⟩ = some (.int .i64 a0_1) := (za8 BK468.out 1).trans rfl; have hcz41_2 : w39.cell? ⟨gb468, 2, none⟩ = some (.int .i64 a0_2) := (za8 BK468.out 2).trans rfl; have hfz41_0 := za7 BK468.out 0; have hfz41_1 := za7 BK468.out 1; have hfz41_2 := za7 BK468.out 2; have p472 : 0 ≤ (a0_1 : Int) := of_decide_eq_true (by first | (with_reducible assumption) | assumption); have q472 : a0_1 < (l1.length : Int) := of_decide_eq_true (by first | (with_reducible assumption) | assumption); obtain ⟨ad472, e472, hx472_0⟩ := Kd.at_int HR1.out a0_1 p472 q472; cases e472; replace hx472_0 := (HB.out.cell (World.block_lt_of_cell? w _ hx472_0)).trans hx472_0; replace p472 := eq_true p472; replace q472 := eq_true q472; have p474 : 0 ≤ (a0_2 : Int) := of_decide_eq_true (by first | (with_reducible assumption) | assumption); have q474 : a0_2 < (l1.length : Int) := of_decide_eq_true (by first | (with_reducible assumption) | assumption); obtain ⟨ad474, e474, hx474_0⟩ := Kd.at_int HR1.out a0_2 p474 q474; obtain rfl : ad472 = ad474 := (by injection e474); have hn474_0 : ad472.block ≠ gb468 := Nat.ne_of_lt (Nat.lt_of_lt_of_le (by have := World.block_lt_of_cell? _ _ hx474_0; first | rwa [add_block] at this | exact this) GW468.out); replace hx474_0 := (HB.out.cell (World.block_lt_of_cell? w _ hx474_0)).trans hx474_0; replace hx474_0 := (cell_far (p := ⟨gb468, 1, none⟩) (by first | (rw [add_block]; exact hn474_0) | (show (Addr.add _ _).block ≠ _; rw [add_block]; exact hn474_0) | exact hn474_0) (.int .i64 (rd l1 a0_1))).trans hx474_0; clear hn474_0; replace p474 := eq_true p474; replace q474 := eq_true q474; have hcz42_0 : w39.cell? ⟨gb469, 0, none⟩ = some (.int .i64 0) := (za8 BK469.out 0).trans rfl; have hcz42_1 : w39.cell? ⟨gb469, 1, none⟩ = some (.int .i64 0) := (za8 BK469.out 1).trans rfl; have hcz42_2 : w39.cell? ⟨gb469, 2, none⟩ = some (.int .i64 0) := (za8 BK469.out 2).trans rfl; have hfz42_0 := za7 BK469.out 0; have hfz42_1 := za7 BK469.out 1; have hfz42_2 := za7 BK469.out 2))
        refine bodyPost_ret (results_cell_row rfl _ _ gb469 69 #[.int .i64 a0_0, .int .i64 (rd l1 a0_1), .int .i64 (rd l1 a0_2)] (0, 0) _ rfl (by (with_reducible repeat (first | refine za5 ?_ _ | refine za6 ?_ | refine za4 ?_ _)); refine zat (cs := #[.int .i64 a0_0, .int .i64 (rd l1 a0_1), .int .i64 0]) ?_ 2 _ rfl; (with_reducible repeat (first | refine za5 ?_ _ | refine za6 ?_ | refine za4 ?_ _)); refine zat (cs := #[.int .i64 a0_0, .int .i64 0, .int .i64 0]) ?_ 1 _ rfl; (with_reducible repeat (first | refine za5 ?_ _ | refine za6 ?_ | refine za4 ?_ _)); refine zat (cs := #[.int .i64 0, .int .i64 0, .int .i64 0]) ?_ 0 _ rfl; (with_reducible repeat (first | refine za5 ?_ _ | refine za6 ?_ | refine za4 ?_ _)); refine zay ?_ NB469_468.out _; (with_reducible repeat (first | refine za5 ?_ _ | refine za6 ?_ | refine za4 ?_ _)); refine zay ?_ NB469_468.out _; (with_reducible repeat (first | refine za5 ?_ _ | refine za6 ?_ | refine za4 ?_ _)); exact BK469.out) Try.underlying69 rfl (by kernel_rfl)) rfl ?_
        exact ⟨by first | rfl | (simp [zaf, zae] <;> rfl) | (simp [*, zaf, zae] <;> rfl), by repeat (first | (with_reducible first | exact HB.out | apply za2 | apply za0 | apply za1 | refine za3 ?_ GE468.out | refine za3 ?_ GE469.out) | exact HB.out)⟩
       ·rw [if_neg c37] at H
        exact absurd H (by simp)
      ·rw [if_neg c36] at H
       exact absurd H (by simp)
     ·rw [if_neg c35] at H
      have c35b0 : (a0_0 == 3) = false := beq_eq_false_iff_ne.mpr c35
      have c35b1 : (a0_0 != 3) = true := bne_iff_ne.mpr c35
      simp only [Option.some.injEq, Prod.mk.injEq] at H
      obtain ⟨rfl, rfl, rfl⟩ := H
      go_enter Try.func90, Try.ntmps90
      go_wp2_with (first | ((with_reducible refine zai (N := 2) rfl ?_); refine zah ?hg (N := 2) ?hd (cs := #[.int .i64 a0_0, .int .i64 a0_1, .int .i64 a0_2]) (t := 69) ?hr ?_; (case hd => rfl); (case hg => rfl); (case hr => first | (go_simp; done) | (go_simp; rfl)); intro gb468 hg w43 hbox hb; have n0_ := Aside0.mk (zac (by repeat (first | (with_reducible first | exact HB.out | apply za2 | apply za0 | apply za1) | exact HB.out)) hb); have n1_ := Aside0.mk (hbox); have n2_ := Aside0.mk ((by rw [hg]; exact (zaa (by repeat (first | (with_reducible first | exact HB.out | apply za2 | apply za0 | apply za1) | exact HB.out))) : w.heap.size ≤ gb468)); have n3_ := Aside0.mk ((by rw [hg]; exact (zaa (by repeat (first | (with_reducible first | exact HB.out | apply za2 | apply za0 | apply za1) | exact HB.out))) : w.heap.size ≤ gb468)); clear HB; have HB := n0_; have BK468 := n1_; have GW468 := n2_; have GE468 := n3_; clear n0_ n1_ n2_ n3_; clear hb hbox hg) | ((with_reducible refine zai (N := 4) rfl ?_); refine zah ?hg (N := 4) ?hd (cs := #[.int .i64 0, .int .i64 0, .int .i64 0]) (t := 69) ?hr ?_; (case hd => rfl); (case hg => rfl); (case hr => first | (go_simp; done) | (go_simp; rfl)); intro gb469 hg w44 hbox hb; have n0_ := Aside0.mk (zad (g := gb468) (o := .cells #[.int .i64 a0_0, .int .i64 a0_1, .int .i64 a0_2] 69 (0, 0)) (by (with_reducible repeat (first | refine za5 ?_ _ | refine za6 ?_ | refine za4 ?_ _)); exact BK468.out) hb); have n1_ := Aside0.mk (zac (by repeat (first | (with_reducible first | exact HB.out | apply za2 | apply za0 | apply za1 | refine za3 ?_ GE468.out) | exact HB.out)) hb); have n2_ := Aside0.mk (hbox); have n3_ := Aside0.mk ((by rw [hg]; exact (zaa (by repeat (first | (with_reducible first | exact HB.out | apply za2 | apply za0 | apply za1 | refine za3 ?_ GE468.out) | exact HB.out))) : w.heap.size ≤ gb469)); have n4_ := Aside0.mk ((by rw [hg]; exact (zaa (by repeat (first | (with_reducible first | exact HB.out | apply za2 | apply za0 | apply za1 | refine za3 ?_ GE468.out) | exact HB.out))) : w.heap.size ≤ gb469)); have n5_ := Aside0.mk ((by rw [hg]; exact Nat.ne_of_lt (zao (g := gb468) (o := .cells #[.int .i64 a0_0, .int .i64 a0_1, .int .i64 a0_2] 69 (0, 0)) (by (with_reducible repeat (first | refine za5 ?_ _ | refine za6 ?_ | refine za4 ?_ _)); exact BK468.out)) : gb468 ≠ gb469)); have n6_ := Aside0.mk ((by rw [hg]; exact Nat.ne_of_gt (zao (g := gb468) (o := .cells #[.int .i64 a0_0, .int .i64 a0_1, .int .i64 a0_2] 69 (0, 0)) (by (with_reducible repeat (first | refine za5 ?_ _ | refine za6 ?_ | refine za4 ?_ _)); exact BK468.out)) : gb469 ≠ gb468)); clear BK468; clear HB; have BK468 := n0_; have HB := n1_; have BK469 := n2_; have GW469 := n3_; have GE469 := n4_; have NB468_469 := n5_; have NB469_468 := n6_; clear n0_ n1_ n2_ n3_ n4_ n5_ n6_; clear hb hbox hg; have hnb45 := NB468_469.out; have hnc45 := NB469_468.out; have hcz46_0 : w44.cell? ⟨gb468, 0, none⟩ = some (.int .i64 a0_0) := (za8 BK468.out 0).trans rfl; have hcz46_1 : w44.cell? ⟨gb468, 1, none⟩ = some (.int .i64 a0_1) := (za8 BK468.out 1).trans rfl; have hcz46_2 : w44.cell? ⟨gb468, 2, none⟩ = some (.int .i64 a0_2) := (za8 BK468.out 2).trans rfl; have hfz46_0 := za7 BK468.out 0; have hfz46_1 := za7 BK468.out 1; have hfz46_2 := za7 BK468.out 2; have p472 : 0 ≤ (a0_1 : Int) := of_decide_eq_true (by first | (with_reducible assumption) | assumption); have q472 : a0_1 < (l1.length : Int) := of_decide_eq_true (by first | (with_reducible assumption) | assumption); obtain ⟨ad472, e472, hx472_0⟩ := Kd.at_int HR1.out a0_1 p472 q472; cases e472; replace hx472_0 := (HB.out.cell (World.block_lt_of_cell? w _ hx472_0)).trans hx472_0; replace p472 := eq_true p472; replace q472 := eq_true q472; have hcz47_0 : w44.cell? ⟨gb469, 0, none⟩ = some (.int .i64 0) := (za8 BK469.out 0).trans rfl; have hcz47_1 : w44.cell? ⟨gb469, 1, none⟩ = some (.int .i64 0) := (za8 BK469.out 1).trans rfl; have hcz47_2 : w44.cell? ⟨gb469, 2, none⟩ = some (.int .i64 0) := (za8 BK469.out 2).trans rfl; have hfz47_0 := za7 BK469.out 0; have hfz47_1 := za7 BK469.out 1; have hfz47_2 := za7 BK469.out 2))
      refine bodyPost_ret (results_cell_row rfl _ _ gb469 69 #[.int .i64 a0_0, .int .i64 (rd l1 a0_1), .int .i64 a0_2] (0, 0) _ rfl (by (with_reducible repeat (first | refine za5 ?_ _ | refine za6 ?_ | refine za4 ?_ _)); refine zat (cs := #[.int .i64 a0_0, .int .i64 (rd l1 a0_1), .int .i64 0]) ?_ 2 _ rfl; (with_reducible repeat (first | refine za5 ?_ _ | refine za6 ?_ | refine za4 ?_ _)); refine zat (cs := #[.int .i64 a0_0, .int .i64 0, .int .i64 0]) ?_ 1 _ rfl; (with_reducible repeat (first | refine za5 ?_ _ | refine za6 ?_ | refine za4 ?_ _)); refine zat (cs := #[.int .i64 0, .int .i64 0, .int .i64 0]) ?_ 0 _ rfl; (with_reducible repeat (first | refine za5 ?_ _ | refine za6 ?_ | refine za4 ?_ _)); refine zay ?_ NB469_468.out _; (with_reducible repeat (first | refine za5 ?_ _ | refine za6 ?_ | refine za4 ?_ _)); exact BK469.out) Try.underlying69 rfl (by kernel_rfl)) rfl ?_
      exact ⟨by first | rfl | (simp [zaf, zae] <;> rfl) | (simp [*, zaf, zae] <;> rfl), by repeat (first | (with_reducible first | exact HB.out | apply za2 | apply za0 | apply za1 | refine za3 ?_ GE468.out | refine za3 ?_ GE469.out) | exact HB.out)⟩
   ·rw [if_neg c26] at H
    exact absurd H (by simp)
  ·rw [if_neg c25] at H
   exact absurd H (by simp)

/-! ### impl_ThenCode: function 48 -/
def thGo (l1 : List SOp) : Nat → Nat → List Int → List SOp → Option (List Int × List SOp)
 | 0, _, places, m => some (places, m)
 | d + 1, i, places, m => (impl_Op_moved.f (za9 l1 (i : Int)).f0 (za9 l1 (i : Int)).f1 (za9 l1 (i : Int)).f2 places).bind fun r => thGo l1 d (i + 1) (places ++ [(m.length : Int) + 1]) (m ++ [⟨r.1, r.2.1, r.2.2⟩])
def impl_ThenCode.f (k : Nat) (l0 : List SOp) (a0 : Int) (l1 : List SOp) (a1 : Int) : Option (List SOp × Int × Bool) :=
 (impl_IsCode.f k l0 a0).bind fun b => if b = true then (impl_IsCode.f k l1 a1).bind fun b2 => if b2 = true then (if l0.length ≤ 1000000 then if l1.length ≤ 1000000 then (thGo l1 l1.length 0 [a0] l0).bind fun r => if 0 ≤ a1 then if a1 < (r.1.length : Int) then impl_toldCode.f k r.2 (rd r.1 a1) else none else none else none else none) else some ([], 0, false) else some ([], 0, false)
theorem impl_ThenCode.mono : ∀ a0 a1 a2 a3 k, LeO (impl_ThenCode.f k a0 a1 a2 a3) (impl_ThenCode.f (k + 1) a0 a1 a2 a3) := by
 intro a0 a1 a2 a3 k
 unfold impl_ThenCode.f
 exact LeO.bind (impl_IsCode.mono _ _ _) (fun b => LeO.ite (LeO.bind (impl_IsCode.mono _ _ _) (fun b2 => LeO.ite (LeO.ite (LeO.ite (LeO.bind (LeO.refl _) (fun r => LeO.ite (LeO.ite (impl_toldCode.mono _ _ _) (LeO.refl _)) (LeO.refl _))) (LeO.refl _)) (LeO.refl _)) (LeO.refl _))) (LeO.refl _))

set_option maxHeartbeats 8000000 in
set_option maxRecDepth 100000 in
theorem impl_ThenCode.calls (k : Nat) (A0 : Option Addr) (c0 : Nat) (l0 : List SOp) (a0 : Int) (A1 : Option Addr) (c1 : Nat) (l1 : List SOp) (a1 : Int) (r1 : List SOp) (r2 : Int) (r3 : Bool) (w : World) (hr0 : Kd.C k69 w A0 l0.length l0) (hc0 : l0.length ≤ c0) (hr1 : Kd.C k69 w A1 l1.length l1) (hc1 : l1.length ≤ c1) (h : impl_ThenCode.f k l0 a0 l1 a1 = some (r1, r2, r3)) :
  Calls Try.prog 48 #[.agg #[.slice A0 l0.length c0, .int .i64 a0], .agg #[.slice A1 l1.length c1, .int .i64 a1]] w fun e w' => ∃ v, e = .returned (.tuple #[.agg #[v, .int .i64 r2], .bool r3]) ∧ Kd.R k69 69 w' w.heap.size (fun _ => True) v r1 ∧ Below w.heap.size w w' := by
 have hu39 := Try.underlying39
 have hu69 := Try.underlying69
 have HC0 := Aside0.mk hr0
 have HC1 := Aside0.mk hr1
 have HN := Aside0.mk (And.intro hc0 hc1)
 unfold impl_ThenCode.f at h
 obtain ⟨b, hT, h⟩ := Option.bind_eq_some_iff.1 h
 have HT := Aside0.mk hT
 clear hr0 hr1 hc0 hc1 hT
 cases b with
 | false =>
  simp only [Bool.false_eq_true, if_false, Option.some.injEq, Prod.mk.injEq] at h
  obtain ⟨rfl, rfl, rfl⟩ := h
  go_enter Try.func48, Try.ntmps48
  go_wp2_with (first | ((with_reducible refine zai (N := 2) rfl ?_); refine zah ?hg (N := 2) ?hd (cs := #[.slice A0 l0.length c0, .int .i64 a0]) (t := 39) ?hr ?_; (case hd => rfl); (case hg => rfl); (case hr => first | (go_simp; done) | (go_simp; rfl)); intro gc hg_ w1 hbox_ hb_; have H1 := Aside0.mk ((Fr.start w).box_new hbox_ hb_ hg_); clear hbox_ hb_ hg_) | ((with_reducible refine zai (N := 3) rfl ?_); refine zah ?hg (N := 3) ?hd (cs := #[.slice A1 l1.length c1, .int .i64 a1]) (t := 39) ?hr ?_; (case hd => rfl); (case hg => rfl); (case hr => first | (go_simp; done) | (go_simp; rfl)); intro gd hg_ w2 hbox_ hb_; have H2 := Aside0.mk ((H1.out).box_new hbox_ hb_ hg_); clear hbox_ hb_ hg_) | ((with_reducible refine zai (N := 4) rfl ?_); refine zah ?hg (N := 4) ?hd (cs := #[.slice none 0 0, .int .i64 0]) (t := 39) ?hr ?_; (case hd => rfl); (case hg => rfl); (case hr => first | (go_simp; done) | (go_simp; rfl)); intro gr hg_ w3 hbox_ hb_; have H3 := Aside0.mk ((H2.out).box_new hbox_ hb_ hg_); clear hbox_ hb_ hg_; have hsgc_0 : w3.cell? ⟨gc, 0, none⟩ = some (.slice A0 l0.length c0) := (H3.out).zab (i := 2) rfl 0 rfl; have hfgc_0 := za7 ((H3.out).zaq (i := 2) rfl) 0; have hsgc_1 : w3.cell? ⟨gc, 1, none⟩ = some (.int .i64 a0) := (H3.out).zab (i := 2) rfl 1 rfl; have hfgc_1 := za7 ((H3.out).zaq (i := 2) rfl) 1; have hsgd_0 : w3.cell? ⟨gd, 0, none⟩ = some (.slice A1 l1.length c1) := (H3.out).zab (i := 1) rfl 0 rfl; have hfgd_0 := za7 ((H3.out).zaq (i := 1) rfl) 0; have hsgd_1 : w3.cell? ⟨gd, 1, none⟩ = some (.int .i64 a1) := (H3.out).zab (i := 1) rfl 1 rfl; have hfgd_1 := za7 ((H3.out).zaq (i := 1) rfl) 1; have HA := Aside0.mk (impl_IsCode.calls k A0 c0 l0 a0 _ w3 (Kd.zar HC0.out H3.out.bel) HN.out.1 HT.out)) | (go_at_call 27; refine HA.out.mono ?_; clear HA; rintro e w4 ⟨rfl, hb⟩; have H4 := Aside0.mk (H3.out.below hb); clear hb; clear hsgc_0 hfgc_0 hsgc_1 hfgc_1 hsgd_0 hfgd_0 hsgd_1 hfgd_1; have hsgc_0 : w4.cell? ⟨gc, 0, none⟩ = some (.slice A0 l0.length c0) := (H4.out).zab (i := 2) rfl 0 rfl; have hfgc_0 := za7 ((H4.out).zaq (i := 2) rfl) 0; have hsgc_1 : w4.cell? ⟨gc, 1, none⟩ = some (.int .i64 a0) := (H4.out).zab (i := 2) rfl 1 rfl; have hfgc_1 := za7 ((H4.out).zaq (i := 2) rfl) 1; have hsgd_0 : w4.cell? ⟨gd, 0, none⟩ = some (.slice A1 l1.length c1) := (H4.out).zab (i := 1) rfl 0 rfl; have hfgd_0 := za7 ((H4.out).zaq (i := 1) rfl) 0; have hsgd_1 : w4.cell? ⟨gd, 1, none⟩ = some (.int .i64 a1) := (H4.out).zab (i := 1) rfl 1 rfl; have hfgd_1 := za7 ((H4.out).zaq (i := 1) rfl) 1; have hsgr_0 : w4.cell? ⟨gr, 0, none⟩ = some (.slice none 0 0) := (H4.out).zab (i := 0) rfl 0 rfl; have hfgr_0 := za7 ((H4.out).zaq (i := 0) rfl) 0; have hsgr_1 : w4.cell? ⟨gr, 1, none⟩ = some (.int .i64 0) := (H4.out).zab (i := 0) rfl 1 rfl; have hfgr_1 := za7 ((H4.out).zaq (i := 0) rfl) 1))
  have h4 := (H4.out.box_set (i := 0) rfl 0 (.slice none 0 0) rfl).box_set (i := 0) rfl 1 (.int .i64 0) rfl
  refine bodyPost_ret (results_ct rfl _ _ gr 39 #[.slice none 0 0, .int .i64 0] (0, 0) _ rfl (h4.zaq (i := 0) rfl) Try.underlying39 rfl (by kernel_rfl)) rfl ?_
  exact ⟨_, rfl, Kd.R_nil _ _ _ _ _, h4.bel⟩
 | true =>
  simp only [if_true] at h
  obtain ⟨b2, hU, h⟩ := Option.bind_eq_some_iff.1 h
  have HU := Aside0.mk hU
  clear hU
  cases b2 with
  | false =>
   simp only [Bool.false_eq_true, if_false, Option.some.injEq, Prod.mk.injEq] at h
   obtain ⟨rfl, rfl, rfl⟩ := h
   go_enter Try.func48, Try.ntmps48
   go_wp2_with (first | ((with_reducible refine zai (N := 2) rfl ?_); refine zah ?hg (N := 2) ?hd (cs := #[.slice A0 l0.length c0, .int .i64 a0]) (t := 39) ?hr ?_; (case hd => rfl); (case hg => rfl); (case hr => first | (go_simp; done) | (go_simp; rfl)); intro gc hg_ w1 hbox_ hb_; have H1 := Aside0.mk ((Fr.start w).box_new hbox_ hb_ hg_); clear hbox_ hb_ hg_) | ((with_reducible refine zai (N := 3) rfl ?_); refine zah ?hg (N := 3) ?hd (cs := #[.slice A1 l1.length c1, .int .i64 a1]) (t := 39) ?hr ?_; (case hd => rfl); (case hg => rfl); (case hr => first | (go_simp; done) | (go_simp; rfl)); intro gd hg_ w2 hbox_ hb_; have H2 := Aside0.mk ((H1.out).box_new hbox_ hb_ hg_); clear hbox_ hb_ hg_) | ((with_reducible refine zai (N := 4) rfl ?_); refine zah ?hg (N := 4) ?hd (cs := #[.slice none 0 0, .int .i64 0]) (t := 39) ?hr ?_; (case hd => rfl); (case hg => rfl); (case hr => first | (go_simp; done) | (go_simp; rfl)); intro gr hg_ w3 hbox_ hb_; have H3 := Aside0.mk ((H2.out).box_new hbox_ hb_ hg_); clear hbox_ hb_ hg_; have hsgc_0 : w3.cell? ⟨gc, 0, none⟩ = some (.slice A0 l0.length c0) := (H3.out).zab (i := 2) rfl 0 rfl; have hfgc_0 := za7 ((H3.out).zaq (i := 2) rfl) 0; have hsgc_1 : w3.cell? ⟨gc, 1, none⟩ = some (.int .i64 a0) := (H3.out).zab (i := 2) rfl 1 rfl; have hfgc_1 := za7 ((H3.out).zaq (i := 2) rfl) 1; have hsgd_0 : w3.cell? ⟨gd, 0, none⟩ = some (.slice A1 l1.length c1) := (H3.out).zab (i := 1) rfl 0 rfl; have hfgd_0 := za7 ((H3.out).zaq (i := 1) rfl) 0; have hsgd_1 : w3.cell? ⟨gd, 1, none⟩ = some (.int .i64 a1) := (H3.out).zab (i := 1) rfl 1 rfl; have hfgd_1 := za7 ((H3.out).zaq (i := 1) rfl) 1; have HA := Aside0.mk (impl_IsCode.calls k A0 c0 l0 a0 _ w3 (Kd.zar HC0.out H3.out.bel) HN.out.1 HT.out)) | (go_at_call 27; refine HA.out.mono ?_; clear HA; rintro e w4 ⟨rfl, hb⟩; have H4 := Aside0.mk (H3.out.below hb); clear hb; clear hsgc_0 hfgc_0 hsgc_1 hfgc_1 hsgd_0 hfgd_0 hsgd_1 hfgd_1; have hsgc_0 : w4.cell? ⟨gc, 0, none⟩ = some (.slice A0 l0.length c0) := (H4.out).zab (i := 2) rfl 0 rfl; have hfgc_0 := za7 ((H4.out).zaq (i := 2) rfl) 0; have hsgc_1 : w4.cell? ⟨gc, 1, none⟩ = some (.int .i64 a0) := (H4.out).zab (i := 2) rfl 1 rfl; have hfgc_1 := za7 ((H4.out).zaq (i := 2) rfl) 1; have hsgd_0 : w4.cell? ⟨gd, 0, none⟩ = some (.slice A1 l1.length c1) := (H4.out).zab (i := 1) rfl 0 rfl; have hfgd_0 := za7 ((H4.out).zaq (i := 1) rfl) 0; have hsgd_1 : w4.cell? ⟨gd, 1, none⟩ = some (.int .i64 a1) := (H4.out).zab (i := 1) rfl 1 rfl; have hfgd_1 := za7 ((H4.out).zaq (i := 1) rfl) 1; have hsgr_0 : w4.cell? ⟨gr, 0, none⟩ = some (.slice none 0 0) := (H4.out).zab (i := 0) rfl 0 rfl; have hfgr_0 := za7 ((H4.out).zaq (i := 0) rfl) 0; have hsgr_1 : w4.cell? ⟨gr, 1, none⟩ = some (.int .i64 0) := (H4.out).zab (i := 0) rfl 1 rfl; have hfgr_1 := za7 ((H4.out).zaq (i := 0) rfl) 1; have HB := Aside0.mk (impl_IsCode.calls k A1 c1 l1 a1 _ w4 (Kd.zar HC1.out H4.out.bel) HN.out.2 HU.out)) | (go_at_call 27; refine HB.out.mono ?_; clear HB; rintro e w5 ⟨rfl, hb⟩; have H5 := Aside0.mk (H4.out.below hb); clear hb; clear hsgc_0 hfgc_0 hsgc_1 hfgc_1 hsgd_0 hfgd_0 hsgd_1 hfgd_1; clear hsgr_0 hsgr_1 hfgr_0 hfgr_1; have hsgc_0 : w5.cell? ⟨gc, 0, none⟩ = some (.slice A0 l0.length c0) := (H5.out).zab (i := 2) rfl 0 rfl; have hfgc_0 := za7 ((H5.out).zaq (i := 2) rfl) 0; have hsgc_1 : w5.cell? ⟨gc, 1, none⟩ = some (.int .i64 a0) := (H5.out).zab (i := 2) rfl 1 rfl; have hfgc_1 := za7 ((H5.out).zaq (i := 2) rfl) 1; have hsgd_0 : w5.cell? ⟨gd, 0, none⟩ = some (.slice A1 l1.length c1) := (H5.out).zab (i := 1) rfl 0 rfl; have hfgd_0 := za7 ((H5.out).zaq (i := 1) rfl) 0; have hsgd_1 : w5.cell? ⟨gd, 1, none⟩ = some (.int .i64 a1) := (H5.out).zab (i := 1) rfl 1 rfl; have hfgd_1 := za7 ((H5.out).zaq (i := 1) rfl) 1; have hsgr_0 : w5.cell? ⟨gr, 0, none⟩ = some (.slice none 0 0) := (H5.out).zab (i := 0) rfl 0 rfl; have hfgr_0 := za7 ((H5.out).zaq (i := 0) rfl) 0; have hsgr_1 : w5.cell? ⟨gr, 1, none⟩ = some (.int .i64 0) := (H5.out).zab (i := 0) rfl 1 rfl; have hfgr_1 := za7 ((H5.out).zaq (i := 0) rfl) 1))
   have h4 := (H5.out.box_set (i := 0) rfl 0 (.slice none 0 0) rfl).box_set (i := 0) rfl 1 (.int .i64 0) rfl
   refine bodyPost_ret (results_ct rfl _ _ gr 39 #[.slice none 0 0, .int .i64 0] (0, 0) _ rfl (h4.zaq (i := 0) rfl) Try.underlying39 rfl (by kernel_rfl)) rfl ?_
   exact ⟨_, rfl, Kd.R_nil _ _ _ _ _, h4.bel⟩
  | true =>
   simp only [if_true] at h
   by_cases hl0 : l0.length ≤ 1000000
   rotate_left
   ·rw [if_neg hl0] at h; cases h
   rw [if_pos hl0] at h
   by_cases hl1 : l1.length ≤ 1000000
   rotate_left
   ·rw [if_neg hl1] at h; cases h
   rw [if_pos hl1] at h
   obtain ⟨⟨pl, ms⟩, hG, h⟩ := Option.bind_eq_some_iff.1 h
   by_cases ha0 : 0 ≤ a1
   rotate_left
   ·rw [if_neg ha0] at h; cases h
   rw [if_pos ha0] at h
   by_cases ha1 : a1 < (pl.length : Int)
   rotate_left
   ·rw [if_neg ha1] at h; cases h
   rw [if_pos ha1] at h
   have HF := Aside0.mk h
   have HG := Aside0.mk hG
   have HLL := Aside0.mk (show l0.length ≤ 1000000 ∧ l1.length ≤ 1000000 ∧ 0 ≤ a1 ∧ a1 < (pl.length : Int) from ⟨hl0, hl1, ha0, ha1⟩)
   clear h hG hl0 hl1 ha0 ha1
   go_enter Try.func48, Try.ntmps48
   go_wp2_with (first | ((with_reducible refine zai (N := 2) rfl ?_); refine zah ?hg (N := 2) ?hd (cs := #[.slice A0 l0.length c0, .int .i64 a0]) (t := 39) ?hr ?_; (case hd => rfl); (case hg => rfl); (case hr => first | (go_simp; done) | (go_simp; rfl)); intro gc hg_ w1 hbox_ hb_; have H1 := Aside0.mk ((Fr.start w).box_new hbox_ hb_ hg_); clear hbox_ hb_ hg_) | ((with_reducible refine zai (N := 3) rfl ?_); refine zah ?hg (N := 3) ?hd (cs := #[.slice A1 l1.length c1, .int .i64 a1]) (t := 39) ?hr ?_; (case hd => rfl); (case hg => rfl); (case hr => first | (go_simp; done) | (go_simp; rfl)); intro gd hg_ w2 hbox_ hb_; have H2 := Aside0.mk ((H1.out).box_new hbox_ hb_ hg_); clear hbox_ hb_ hg_) | ((with_reducible refine zai (N := 4) rfl ?_); refine zah ?hg (N := 4) ?hd (cs := #[.slice none 0 0, .int .i64 0]) (t := 39) ?hr ?_; (case hd => rfl); (case hg => rfl); (case hr => first | (go_simp; done) | (go_simp; rfl)); intro gr hg_ w3 hbox_ hb_; have H3 := Aside0.mk ((H2.out).box_new hbox_ hb_ hg_); clear hbox_ hb_ hg_; have hsgc_0 : w3.cell? ⟨gc, 0, none⟩ = some (.slice A0 l0.length c0) := (H3.out).zab (i := 2) rfl 0 rfl; have hfgc_0 := za7 ((H3.out).zaq (i := 2) rfl) 0; have hsgc_1 : w3.cell? ⟨gc, 1, none⟩ = some (.int .i64 a0) := (H3.out).zab (i := 2) rfl 1 rfl; have hfgc_1 := za7 ((H3.out).zaq (i := 2) rfl) 1; have hsgd_0 : w3.cell? ⟨gd, 0, none⟩ = some (.slice A1 l1.length c1) := (H3.out).zab (i := 1) rfl 0 rfl; have hfgd_0 := za7 ((H3.out).zaq (i := 1) rfl) 0; have hsgd_1 : w3.cell? ⟨gd, 1, none⟩ = some (.int .i64 a1) := (H3.out).zab (i := 1) rfl 1 rfl; have hfgd_1 := za7 ((H3.out).zaq (i := 1) rfl) 1; have HA := Aside0.mk (impl_IsCode.calls k A0 c0 l0 a0 _ w3 (Kd.zar HC0.out H3.out.bel) HN.out.1 HT.out)) | (go_at_call 27; refine HA.out.mono ?_; clear HA; rintro e w4 ⟨rfl, hb⟩; have H4 := Aside0.mk (H3.out.below hb); clear hb; clear hsgc_0 hfgc_0 hsgc_1 hfgc_1 hsgd_0 hfgd_0 hsgd_1 hfgd_1; have hsgc_0 : w4.cell? ⟨gc, 0, none⟩ = some (.slice A0 l0.length c0) := (H4.out).zab (i := 2) rfl 0 rfl; have hfgc_0 := za7 ((H4.out).zaq (i := 2) rfl) 0; have hsgc_1 : w4.cell? ⟨gc, 1, none⟩ = some (.int .i64 a0) := (H4.out).zab (i := 2) rfl 1 rfl; have hfgc_1 := za7 ((H4.out).zaq (i := 2) rfl) 1; have hsgd_0 : w4.cell? ⟨gd, 0, none⟩ = some (.slice A1 l1.length c1) := (H4.out).zab (i := 1) rfl 0 rfl; have hfgd_0 := za7 ((H4.out).zaq (i := 1) rfl) 0; have hsgd_1 : w4.cell? ⟨gd, 1, none⟩ = some (.int .i64 a1) := (H4.out).zab (i := 1) rfl 1 rfl; have hfgd_1 := za7 ((H4.out).zaq (i := 1) rfl) 1; have hsgr_0 : w4.cell? ⟨gr, 0, none⟩ = some (.slice none 0 0) := (H4.out).zab (i := 0) rfl 0 rfl; have hfgr_0 := za7 ((H4.out).zaq (i := 0) rfl) 0; have hsgr_1 : w4.cell? ⟨gr, 1, none⟩ = some (.int .i64 0) := (H4.out).zab (i := 0) rfl 1 rfl; have hfgr_1 := za7 ((H4.out).zaq (i := 0) rfl) 1; have HB := Aside0.mk (impl_IsCode.calls k A1 c1 l1 a1 _ w4 (Kd.zar HC1.out H4.out.bel) HN.out.2 HU.out)) | (go_at_call 27; refine HB.out.mono ?_; clear HB; rintro e w5 ⟨rfl, hb⟩; have H5 := Aside0.mk (H4.out.below hb); clear hb; clear hsgc_0 hfgc_0 hsgc_1 hfgc_1 hsgd_0 hfgd_0 hsgd_1 hfgd_1; clear hsgr_0 hsgr_1 hfgr_0 hfgr_1))
   have HCL := Aside0.mk (show impl_Op.f l0 = some l0 by unfold impl_Op.f; rw [if_pos (by have := HLL.out.1; omega)])
   clear H1 H2 H3 H4
   refine start_ (n := 10) (S := fun w' => w'.cell? ⟨gc, 0, none⟩ = some (.slice A0 l0.length c0) ∧ w'.cell? ⟨gc, 1, none⟩ = some (.int .i64 a0)) (ds := []) #[false, false, false, false, false, false, false, false, false, false] (by kernel_rfl) rfl rfl ⟨H5.out.zab (i := 2) rfl 0 rfl, H5.out.zab (i := 2) rfl 1 rfl⟩ (fun hHeld => ?_)
   refine pure_ (i := 0) (N := some 19) (v := ?_) (a' := ?_) #[true, false, false, false, false, false, false, false, false, false] rfl rfl (by kernel_rfl) (fun _ _ _ h => h) (Or.inl ⟨by rfl, ?_⟩) ?_ ?_
   rotate_left
   ·intro w'
    go_simp
    with_reducible rfl
   rotate_left
   ·simp only [Act.put, List.setIfInBounds_toArray, List.set_cons_zero, List.set_cons_succ, i64_w, i32_w]
    rfl
   refine pure_ (i := 5) (N := some 24) (v := ?_) (a' := ?_) #[true, false, false, false, false, true, false, false, false, false] rfl rfl (by kernel_rfl) (fun _ _ _ h => h) (Or.inl ⟨by rfl, ?_⟩) ?_ ?_
   rotate_left
   ·intro w'
    go_simp
    with_reducible rfl
   rotate_left
   ·simp only [Act.put, List.setIfInBounds_toArray, List.set_cons_zero, List.set_cons_succ, i64_w, i32_w]
    rfl
   refine take_ (i := 1) (N := some 20) (v := ?_) (a' := ?_) #[true, true, false, false, false, true, false, false, false, false] rfl rfl (by kernel_rfl) (fun _ _ _ h => h) (Or.inl ⟨by rfl, ?_⟩) hHeld ?_ ?_
   rotate_left
   ·rintro w' ⟨s0, s1⟩
    go_simp
    with_reducible rfl
   rotate_left
   ·simp only [Act.put, List.setIfInBounds_toArray, List.set_cons_zero, List.set_cons_succ, i64_w, i32_w]
    rfl
   refine take_ (i := 6) (N := some 25) (v := ?_) (a' := ?_) #[true, true, false, false, false, true, true, false, false, false] rfl rfl (by kernel_rfl) (fun _ _ _ h => h) (Or.inl ⟨by rfl, ?_⟩) hHeld ?_ ?_
   rotate_left
   ·rintro w' ⟨s0, s1⟩
    go_simp
    with_reducible rfl
   rotate_left
   ·simp only [Act.put, List.setIfInBounds_toArray, List.set_cons_zero, List.set_cons_succ, i64_w, i32_w]
    rfl
   refine join_ (σ := Option Addr × Nat × Nat × Value) 1 #[true, true, true, true, true, true, true, true, true, false] (fun s_ => [(21, .slice s_.1 l0.length s_.2.1), (22, .agg #[.slice s_.1 l0.length s_.2.1]), (23, .pointer (some ⟨s_.2.2.1, 0, none⟩)), (26, s_.2.2.2), (6, .pointer (some ⟨s_.2.2.1, 0, none⟩))]) (fun s_ w' => Fr w w (fun _ => False) [wr8 s_.2.2.1 l0, row (Kd.int .i64) 3 s_.2.2.2 [a0], box gr 39 #[.slice none 0 0, .int .i64 0], box gd 39 #[.slice A1 l1.length c1, .int .i64 a1], box gc 39 #[.slice A0 l0.length c0, .int .i64 a0]] w') ?_ ?_
   rotate_left
   ·intro hCont
    refine two_ (i := 2) (j := 7) (Ni := some 21) (Nj := some 26) #[true, true, true, false, false, true, true, false, false, false] #[true, true, false, false, false, true, true, true, false, false] rfl rfl rfl rfl (by kernel_rfl) (by decide) (by decide) (fun K hK => ?_) (fun K hK => ?_)
    ·skip
     refine goes_ Try.func89 (by kernel_rfl) rfl #[.slice A0 l0.length c0] (by rfl) rfl rfl (by simp only [List.map_toArray, List.map_cons, List.map_nil]; rfl) ?_
     with_reducible refine (impl_Op.calls A0 c0 l0 l0 _ (Kd.zar HC0.out (H5.out.drew).bel) HN.out.1 HCL.out).mono ?_
     rintro e wa ⟨v_, rfl, hr_, hb_⟩
     refine ⟨_, rfl, ?_⟩
     have H6 := Aside0.mk ((H5.out.drew).row_new hr_ hb_)
     obtain ⟨Av, cv, rfl⟩ := Kd.zas hr_
     clear hr_ hb_
     refine hK.out _ _ ⟨H6.out.zab (i := 3) rfl 0 rfl, H6.out.zab (i := 3) rfl 1 rfl⟩ (fun hHeld => ?_)
     clear hK K
     refine norm_ (a' := ?_) ?_ ?_
     rotate_left
     ·show Act.put _ (some 21) _ = _
      simp only [Act.put, List.setIfInBounds_toArray, List.set_cons_zero, List.set_cons_succ, i64_w, i32_w]
      rfl
     refine pure_ (i := 3) (N := some 22) (v := ?_) (a' := ?_) #[true, true, true, true, false, true, true, false, false, false] rfl rfl (by kernel_rfl) (fun _ _ _ h => h) (Or.inl ⟨by rfl, ?_⟩) ?_ ?_
     rotate_left
     ·intro w'
      go_simp
      with_reducible rfl
     rotate_left
     ·simp only [Act.put, List.setIfInBounds_toArray, List.set_cons_zero, List.set_cons_succ, i64_w, i32_w]
      rfl
     refine two_ (i := 4) (j := 7) (Ni := some 23) (Nj := some 26) #[true, true, true, true, true, true, true, false, false, false] #[true, true, true, true, false, true, true, true, false, false] rfl rfl rfl rfl (by kernel_rfl) (by decide) (by decide) (fun K hK => ?_) (fun K hK => ?_)
     ·skip
      refine box_step ?hg (N := 23) ?hd (cs := #[.slice Av l0.length cv]) (t := 78) ?hr ?_; (case hd => rfl); (case hg => rfl); (case hr => first | (go_simp; done) | (go_simp; rfl))
      intro gw hg_ wb_1 hbox_ hb_; have H7 := Aside0.mk ((H6.out).box_new hbox_ hb_ hg_); clear hbox_ hb_ hg_
      refine hK.out _ _ ⟨H7.out.zab (i := 4) rfl 0 rfl, H7.out.zab (i := 4) rfl 1 rfl⟩ (fun hHeld => ?_)
      clear hK K
      refine norm_ (a' := ?_) ?_ ?_
      rotate_left
      ·show Act.put _ (some 23) _ = _
       simp only [Act.put, List.setIfInBounds_toArray, List.set_cons_zero, List.set_cons_succ, i64_w, i32_w]
       rfl
      refine pure_ (i := 8) (N := some 6) (v := ?_) (a' := ?_) #[true, true, true, true, true, true, true, false, true, false] rfl rfl (by kernel_rfl) (fun _ _ _ h => h) (Or.inl ⟨by rfl, ?_⟩) ?_ ?_
      rotate_left
      ·intro w'
       go_simp
       with_reducible rfl
      rotate_left
      ·simp only [Act.put, List.setIfInBounds_toArray, List.set_cons_zero, List.set_cons_succ, i64_w, i32_w]
       rfl
      refine one_ (i := 7) (N := some 26) #[true, true, true, true, true, true, true, true, true, false] rfl rfl (by kernel_rfl) (by decide) (fun K hK => ?_)
      refine Kd.R_lit_step (Kd.int .i64) (w0 := w) w.heap.size 3 ?hg (N := 26) ?hd (xs := ([a0] : List Int)) (inner := [.int .i64 a0]) (ok := fun k => wb_1.heap.size ≤ k) (okp := fun k => wb_1.heap.size ≤ k) ?hr ?hp (fun _ hk => hk) (Nat.le_refl _) (H7.out).bel (H7.out).size (by simp) ?_; (case hd => rfl); (case hg => rfl); (case hr => first | (go_simp; done) | (go_simp; rfl)); (case hp => exact (Reps.one (show Kd.M (Kd.int .i64) _ _ _ (a0) [.int .i64 (a0)] from rfl) (Reps.none _ _)))
      intro vp wc_2 hr_ hb_ hg_ hn_; have H8 := Aside0.mk ((H7.out).row_lit hr_ hg_); clear hb_ hg_ hn_; clear hr_
      refine hK.out _ _ ⟨H8.out.zab (i := 5) rfl 0 rfl, H8.out.zab (i := 5) rfl 1 rfl⟩ (fun hHeld => ?_)
      clear hK K
      refine norm_ (a' := ?_) ?_ ?_
      rotate_left
      ·show Act.put _ (some 26) _ = _
       simp only [Act.put, List.setIfInBounds_toArray, List.set_cons_zero, List.set_cons_succ, i64_w, i32_w]
       rfl
      exact norm_ (by simp only [putAll, Act.put, List.setIfInBounds_toArray, List.set_cons_zero, List.set_cons_succ]) (hCont (Av, cv, gw, vp) _ (H8.out.swap.swap1.swap.obj_close (i := 0) (f := fun v => #[v]) rfl))
     ·skip
      refine Kd.R_lit_step (Kd.int .i64) (w0 := w) w.heap.size 3 ?hg (N := 26) ?hd (xs := ([a0] : List Int)) (inner := [.int .i64 a0]) (ok := fun k => wa.heap.size ≤ k) (okp := fun k => wa.heap.size ≤ k) ?hr ?hp (fun _ hk => hk) (Nat.le_refl _) (H6.out).bel (H6.out).size (by simp) ?_; (case hd => rfl); (case hg => rfl); (case hr => first | (go_simp; done) | (go_simp; rfl)); (case hp => exact (Reps.one (show Kd.M (Kd.int .i64) _ _ _ (a0) [.int .i64 (a0)] from rfl) (Reps.none _ _)))
      intro vp wc_1 hr_ hb_ hg_ hn_; have H7 := Aside0.mk ((H6.out).row_lit hr_ hg_); clear hb_ hg_ hn_; clear hr_
      refine hK.out _ _ ⟨H7.out.zab (i := 4) rfl 0 rfl, H7.out.zab (i := 4) rfl 1 rfl⟩ (fun hHeld => ?_)
      clear hK K
      refine norm_ (a' := ?_) ?_ ?_
      rotate_left
      ·show Act.put _ (some 26) _ = _
       simp only [Act.put, List.setIfInBounds_toArray, List.set_cons_zero, List.set_cons_succ, i64_w, i32_w]
       rfl
      refine one_ (i := 4) (N := some 23) #[true, true, true, true, true, true, true, true, false, false] rfl rfl (by kernel_rfl) (by decide) (fun K hK => ?_)
      refine box_step ?hg (N := 23) ?hd (cs := #[.slice Av l0.length cv]) (t := 78) ?hr ?_; (case hd => rfl); (case hg => rfl); (case hr => first | (go_simp; done) | (go_simp; rfl))
      intro gw hg_ wb_2 hbox_ hb_; have H8 := Aside0.mk ((H7.out).box_new hbox_ hb_ hg_); clear hbox_ hb_ hg_
      refine hK.out _ _ ⟨H8.out.zab (i := 5) rfl 0 rfl, H8.out.zab (i := 5) rfl 1 rfl⟩ (fun hHeld => ?_)
      clear hK K
      refine norm_ (a' := ?_) ?_ ?_
      rotate_left
      ·show Act.put _ (some 23) _ = _
       simp only [Act.put, List.setIfInBounds_toArray, List.set_cons_zero, List.set_cons_succ, i64_w, i32_w]
       rfl
      refine pure_ (i := 8) (N := some 6) (v := ?_) (a' := ?_) #[true, true, true, true, true, true, true, true, true, false] rfl rfl (by kernel_rfl) (fun _ _ _ h => h) (Or.inl ⟨by rfl, ?_⟩) ?_ ?_
      rotate_left
      ·intro w'
       go_simp
       with_reducible rfl
      rotate_left
      ·simp only [Act.put, List.setIfInBounds_toArray, List.set_cons_zero, List.set_cons_succ, i64_w, i32_w]
       rfl
      exact norm_ (by simp only [putAll, Act.put, List.setIfInBounds_toArray, List.set_cons_zero, List.set_cons_succ]) (hCont (Av, cv, gw, vp) _ (H8.out.swap1.swap.obj_close (i := 0) (f := fun v => #[v]) rfl))
    ·skip
     refine Kd.R_lit_step (Kd.int .i64) (w0 := w) w.heap.size 3 ?hg (N := 26) ?hd (xs := ([a0] : List Int)) (inner := [.int .i64 a0]) (ok := fun k => w5.heap.size ≤ k) (okp := fun k => w5.heap.size ≤ k) ?hr ?hp (fun _ hk => hk) (Nat.le_refl _) (H5.out.drew).bel (H5.out.drew).size (by simp) ?_; (case hd => rfl); (case hg => rfl); (case hr => first | (go_simp; done) | (go_simp; rfl)); (case hp => exact (Reps.one (show Kd.M (Kd.int .i64) _ _ _ (a0) [.int .i64 (a0)] from rfl) (Reps.none _ _)))
     intro vp wc_0 hr_ hb_ hg_ hn_; have H6 := Aside0.mk ((H5.out.drew).row_lit hr_ hg_); clear hb_ hg_ hn_; clear hr_
     refine hK.out _ _ ⟨H6.out.zab (i := 3) rfl 0 rfl, H6.out.zab (i := 3) rfl 1 rfl⟩ (fun hHeld => ?_)
     clear hK K
     refine norm_ (a' := ?_) ?_ ?_
     rotate_left
     ·show Act.put _ (some 26) _ = _
      simp only [Act.put, List.setIfInBounds_toArray, List.set_cons_zero, List.set_cons_succ, i64_w, i32_w]
      rfl
     refine one_ (i := 2) (N := some 21) #[true, true, true, false, false, true, true, true, false, false] rfl rfl (by kernel_rfl) (by decide) (fun K hK => ?_)
     refine goes_ Try.func89 (by kernel_rfl) rfl #[.slice A0 l0.length c0] (by rfl) rfl rfl (by simp only [List.map_toArray, List.map_cons, List.map_nil]; rfl) ?_
     with_reducible refine (impl_Op.calls A0 c0 l0 l0 _ (Kd.zar HC0.out (H6.out).bel) HN.out.1 HCL.out).mono ?_
     rintro e wa ⟨v_, rfl, hr_, hb_⟩
     refine ⟨_, rfl, ?_⟩
     have H7 := Aside0.mk ((H6.out).row_new hr_ hb_)
     obtain ⟨Av, cv, rfl⟩ := Kd.zas hr_
     clear hr_ hb_
     refine hK.out _ _ ⟨H7.out.zab (i := 4) rfl 0 rfl, H7.out.zab (i := 4) rfl 1 rfl⟩ (fun hHeld => ?_)
     clear hK K
     refine norm_ (a' := ?_) ?_ ?_
     rotate_left
     ·show Act.put _ (some 21) _ = _
      simp only [Act.put, List.setIfInBounds_toArray, List.set_cons_zero, List.set_cons_succ, i64_w, i32_w]
      rfl
     refine pure_ (i := 3) (N := some 22) (v := ?_) (a' := ?_) #[true, true, true, true, false, true, true, true, false, false] rfl rfl (by kernel_rfl) (fun _ _ _ h => h) (Or.inl ⟨by rfl, ?_⟩) ?_ ?_
     rotate_left
     ·intro w'
      go_simp
      with_reducible rfl
     rotate_left
     ·simp only [Act.put, List.setIfInBounds_toArray, List.set_cons_zero, List.set_cons_succ, i64_w, i32_w]
      rfl
     refine one_ (i := 4) (N := some 23) #[true, true, true, true, true, true, true, true, false, false] rfl rfl (by kernel_rfl) (by decide) (fun K hK => ?_)
     refine box_step ?hg (N := 23) ?hd (cs := #[.slice Av l0.length cv]) (t := 78) ?hr ?_; (case hd => rfl); (case hg => rfl); (case hr => first | (go_simp; done) | (go_simp; rfl))
     intro gw hg_ wb_2 hbox_ hb_; have H8 := Aside0.mk ((H7.out).box_new hbox_ hb_ hg_); clear hbox_ hb_ hg_
     refine hK.out _ _ ⟨H8.out.zab (i := 5) rfl 0 rfl, H8.out.zab (i := 5) rfl 1 rfl⟩ (fun hHeld => ?_)
     clear hK K
     refine norm_ (a' := ?_) ?_ ?_
     rotate_left
     ·show Act.put _ (some 23) _ = _
      simp only [Act.put, List.setIfInBounds_toArray, List.set_cons_zero, List.set_cons_succ, i64_w, i32_w]
      rfl
     refine pure_ (i := 8) (N := some 6) (v := ?_) (a' := ?_) #[true, true, true, true, true, true, true, true, true, false] rfl rfl (by kernel_rfl) (fun _ _ _ h => h) (Or.inl ⟨by rfl, ?_⟩) ?_ ?_
     rotate_left
     ·intro w'
      go_simp
      with_reducible rfl
     rotate_left
     ·simp only [Act.put, List.setIfInBounds_toArray, List.set_cons_zero, List.set_cons_succ, i64_w, i32_w]
      rfl
     exact norm_ (by simp only [putAll, Act.put, List.setIfInBounds_toArray, List.set_cons_zero, List.set_cons_succ]) (hCont (Av, cv, gw, vp) _ (H8.out.swap.obj_close (i := 0) (f := fun v => #[v]) rfl))
   rintro ⟨Av, cv, gw, vp⟩ w6 h6
   have H6 := Aside0.mk (show Fr w w (fun _ => False) [wr8 gw l0, row (Kd.int .i64) 3 vp [a0], box gr 39 #[.slice none 0 0, .int .i64 0], box gd 39 #[.slice A1 l1.length c1, .int .i64 a1], box gc 39 #[.slice A0 l0.length c0, .int .i64 a0]] w6 from h6)
   clear h6
   refine norm_ (a' := ?_) ?_ ?_
   rotate_left
   ·simp only [putAll, Act.put, List.setIfInBounds_toArray, List.set_cons_zero, List.set_cons_succ]
    rfl
   refine pure_ (i := 9) (N := some 7) (v := ?_) (a' := ?_) #[true, true, true, true, true, true, true, true, true, true] rfl rfl (by kernel_rfl) (fun _ _ _ h => h) (Or.inl ⟨by rfl, ?_⟩) ?_ ?_
   rotate_left
   ·intro w'
    go_simp
    with_reducible rfl
   rotate_left
   ·simp only [Act.put, List.setIfInBounds_toArray, List.set_cons_zero, List.set_cons_succ, i64_w, i32_w]
    rfl
   refine done_ (by kernel_rfl) ?_
   have hsgd_0 : w6.cell? ⟨gd, 0, none⟩ = some (.slice A1 l1.length c1) := H6.out.zab (i := 3) rfl 0 rfl
   clear H5 hHeld
   go_wp2
   go_loopg [7, 30] l1.length (fun d v7 v30 w' => ∃ (i : Nat) (places : List Int) (m : List SOp), v30 = .int .i64 (i : Int) ∧ Aside0 (thGo l1 d i places m = some (pl, ms)) ∧ Aside0 (i + d = l1.length ∧ places.length = i + 1 ∧ m.length = l0.length + i) ∧ Aside0 (Fr w w (fun _ => False) [wr8 gw m, row (Kd.int .i64) 3 v7 places, box gr 39 #[.slice none 0 0, .int .i64 0], box gd 39 #[.slice A1 l1.length c1, .int .i64 a1], box gc 39 #[.slice A0 l0.length c0, .int .i64 a0]] w'))
   case atStart => exact ⟨0, [a0], l0, rfl, HG, ⟨by simp⟩, H6⟩
   case round =>
    obtain ⟨i, places, m, rfl, HE, HM, H7⟩ := hrel
    clear H6 HG hsgd_0
    obtain ⟨Ap, cp, rfl, hcp, hCp⟩ := H7.out.row_reads (i := 1) rfl
    cases gk with
    | zero =>
     have he := HE.out
     simp only [thGo, Option.some.injEq, Prod.mk.injEq] at he
     obtain ⟨rfl, rfl⟩ := he
     have hm := HM.out
     have hl := HLL.out
     have c1_ : decide (i < l1.length) = false := decide_eq_false (by omega)
     obtain ⟨ad, e1, hx⟩ := Kd.at_int hCp a1 (by omega) (by omega)
     cases e1
     have q1 : (0 ≤ a1) = True := eq_true (by omega)
     have q2 : (a1 < (places.length : Int)) = True := eq_true (by omega)
     have hsgd_1 : wr.cell? ⟨gd, 1, none⟩ = some (.int .i64 a1) := H7.out.zab (i := 3) rfl 1 rfl
     have HCd := Aside0.mk (code_fr (i := 0) k H7.out rfl HF.out)
     clear hm hl hCp hcp HE HM HF
     go_wp2_with (go_at_call 81; refine HCd.out.mono ?_; clear HCd; rintro e w9 ⟨v, rfl, k_⟩; obtain ⟨A6, c6, rfl, _, _⟩ := k_.row_reads (i := 0) rfl; have H10 := Aside0.mk k_; simp only [List.set_cons_zero, List.set_cons_succ] at H10; clear k_; have hsgr_0 : w9.cell? ⟨gr, 0, none⟩ = some (.slice none 0 0) := (H10.out).zab (i := 3) rfl 0 rfl; have hfgr_0 := za7 ((H10.out).zaq (i := 3) rfl) 0; have hsgr_1 : w9.cell? ⟨gr, 1, none⟩ = some (.int .i64 0) := (H10.out).zab (i := 3) rfl 1 rfl; have hfgr_1 := za7 ((H10.out).zaq (i := 3) rfl) 1)
     have h4 := (H10.out.box_set (i := 3) rfl 0 (.slice A6 r1.length c6) rfl).box_set (i := 3) rfl 1 (.int .i64 r2) rfl
     simp only [List.set_cons_succ, List.set_cons_zero] at h4
     refine bodyPost_ret (results_ct rfl _ _ gr 39 #[.slice A6 r1.length c6, .int .i64 r2] (0, 0) _ rfl (h4.zaq (i := 3) rfl) Try.underlying39 rfl (by kernel_rfl)) rfl ?_
     exact ⟨_, rfl, h4.row_R (i := 0) rfl, h4.bel⟩
    | succ d =>
     have hm := HM.out
     have hl := HLL.out
     have c1_ : decide (i < l1.length) = true := decide_eq_true (by omega)
     obtain ⟨ad, e1, hx0, hx1, hx2⟩ := at_T69 (Kd.zar HC1.out H7.out.bel) (i : Int) (by omega) (by omega)
     cases e1
     rw [Int.toNat_natCast] at hx0 hx1 hx2
     have q1 : (i < l1.length) = True := eq_true (by omega)
     have he := HE.out
     simp only [thGo] at he
     generalize hog : za9 l1 (i : Int) = og at he hx0 hx1 hx2
     obtain ⟨⟨m0, m1, m2⟩, hMV, he⟩ := Option.bind_eq_some_iff.1 he
     have HMV := Aside0.mk hMV
     have HE3 := Aside0.mk he
     obtain ⟨vw, h8⟩ := H7.out.obj_open (i := 0) rfl
     obtain ⟨Aw, cw, rfl, _, _⟩ := h8.row_reads (i := 0) rfl
     have H8 := Aside0.mk (show Fr w w (fun _ => False) [row k69 69 (.slice Aw m.length cw) m, box gw 78 #[.slice Aw m.length cw], row (Kd.int .i64) 3 (.slice Ap places.length cp) places, box gr 39 #[.slice none 0 0, .int .i64 0], box gd 39 #[.slice (some ad) l1.length c1, .int .i64 a1], box gc 39 #[.slice A0 l0.length c0, .int .i64 a0]] wr from h8)
     have hib : i < 1000000 := by omega
     have HMB := Aside0.mk (show places.length = i + 1 ∧ m.length = l0.length + i ∧ i < 1000000 ∧ l0.length ≤ 1000000 from ⟨by omega, by omega, by omega, by omega⟩)
     clear hm hl hCp hcp HE he hMV h8 hog
     go_wp2_with ((with_reducible refine zai (N := 9) rfl ?_); refine zah ?hg (N := 9) ?hd (cs := #[.int .i64 0, .int .i64 0, .int .i64 0]) (t := 69) ?hr ?_; (case hd => rfl); (case hg => rfl); (case hr => first | (go_simp; done) | (go_simp; rfl)); intro gb hg_ w8 hbox_ hb_; have H9 := Aside0.mk ((H8.out).box_new hbox_ hb_ hg_); clear hbox_ hb_ hg_; have hsgb_0 : w8.cell? ⟨gb, 0, none⟩ = some (.int .i64 0) := (H9.out).zab (i := 0) rfl 0 rfl; have hfgb_0 := za7 ((H9.out).zaq (i := 0) rfl) 0; have hsgb_1 : w8.cell? ⟨gb, 1, none⟩ = some (.int .i64 0) := (H9.out).zab (i := 0) rfl 1 rfl; have hfgb_1 := za7 ((H9.out).zaq (i := 0) rfl) 1; have hsgb_2 : w8.cell? ⟨gb, 2, none⟩ = some (.int .i64 0) := (H9.out).zab (i := 0) rfl 2 rfl; have hfgb_2 := za7 ((H9.out).zaq (i := 0) rfl) 2)
     have h10 := ((H9.out.box_set (i := 0) rfl 0 (.int .i64 og.f0) rfl).box_set (i := 0) rfl 1 (.int .i64 og.f1) rfl).box_set (i := 0) rfl 2 (.int .i64 og.f2) rfl
     generalize ((w8.setCell ⟨gb, 0, none⟩ (.int .i64 og.f0)).setCell ⟨gb, 1, none⟩ (.int .i64 og.f1)).setCell ⟨gb, 2, none⟩ (.int .i64 og.f2) = w9 at h10 ⊢
     have H10 := Aside0.mk (show Fr w w (fun _ => False) [box gb 69 #[.int .i64 og.f0, .int .i64 og.f1, .int .i64 og.f2], row k69 69 (.slice Aw m.length cw) m, box gw 78 #[.slice Aw m.length cw], row (Kd.int .i64) 3 (.slice Ap places.length cp) places, box gr 39 #[.slice none 0 0, .int .i64 0], box gd 39 #[.slice (some ad) l1.length c1, .int .i64 a1], box gc 39 #[.slice A0 l0.length c0, .int .i64 a0]] w9 from h10)
     clear H9 h10 H8 H7 hsgb_0 hsgb_1 hsgb_2 hfgb_0 hfgb_1 hfgb_2 hx0 hx1 hx2
     refine start_ (n := 13) (S := fun w' => w'.cell? ⟨gw, 0, none⟩ = some (.slice Aw m.length cw) ∧ w'.cell? ⟨gb, 0, none⟩ = some (.int .i64 og.f0) ∧ w'.cell? ⟨gb, 1, none⟩ = some (.int .i64 og.f1) ∧ w'.cell? ⟨gb, 2, none⟩ = some (.int .i64 og.f2)) (ds := [12]) #[false, false, false, false, false, false, false, false, false, false, false, false, false] (by kernel_rfl) rfl rfl ⟨H10.out.zab (i := 2) rfl 0 rfl, H10.out.zab (i := 0) rfl 0 rfl, H10.out.zab (i := 0) rfl 1 rfl, H10.out.zab (i := 0) rfl 2 rfl⟩ (fun hHeld => ?_)
     refine pure_ (i := 0) (N := some 34) (v := ?_) (a' := ?_) #[true, false, false, false, false, false, false, false, false, false, false, false, false] rfl rfl (by kernel_rfl) (fun _ _ _ h => h) (Or.inl ⟨by rfl, ?_⟩) ?_ ?_
     rotate_left
     ·intro w'
      go_simp
      with_reducible rfl
     rotate_left
     ·simp only [Act.put, List.setIfInBounds_toArray, List.set_cons_zero, List.set_cons_succ, i64_w, i32_w]
      rfl
     refine pure_ (i := 1) (N := some 35) (v := ?_) (a' := ?_) #[true, true, false, false, false, false, false, false, false, false, false, false, false] rfl rfl (by kernel_rfl) (fun _ _ _ h => h) (Or.inl ⟨by rfl, ?_⟩) ?_ ?_
     rotate_left
     ·intro w'
      go_simp
      with_reducible rfl
     rotate_left
     ·simp only [Act.put, List.setIfInBounds_toArray, List.set_cons_zero, List.set_cons_succ, i64_w, i32_w]
      rfl
     refine pure_ (i := 2) (N := some 36) (v := ?_) (a' := ?_) #[true, true, true, false, false, false, false, false, false, false, false, false, false] rfl rfl (by kernel_rfl) (fun _ _ _ h => h) (Or.inl ⟨by rfl, ?_⟩) ?_ ?_
     rotate_left
     ·intro w'
      go_simp
      with_reducible rfl
     rotate_left
     ·simp only [Act.put, List.setIfInBounds_toArray, List.set_cons_zero, List.set_cons_succ, i64_w, i32_w]
      rfl
     refine pure_ (i := 3) (N := some 37) (v := ?_) (a' := ?_) #[true, true, true, true, false, false, false, false, false, false, false, false, false] rfl rfl (by kernel_rfl) (fun _ _ _ h => h) (Or.inl ⟨by rfl, ?_⟩) ?_ ?_
     rotate_left
     ·intro w'
      go_simp
      with_reducible rfl
     rotate_left
     ·simp only [Act.put, List.setIfInBounds_toArray, List.set_cons_zero, List.set_cons_succ, i64_w, i32_w]
      rfl
     refine pure_ (i := 6) (N := some 40) (v := ?_) (a' := ?_) #[true, true, true, true, false, false, true, false, false, false, false, false, false] rfl rfl (by kernel_rfl) (fun _ _ _ h => h) (Or.inl ⟨by rfl, ?_⟩) ?_ ?_
     rotate_left
     ·intro w'
      go_simp
      with_reducible rfl
     rotate_left
     ·simp only [Act.put, List.setIfInBounds_toArray, List.set_cons_zero, List.set_cons_succ, i64_w, i32_w]
      rfl
     refine take_ (i := 4) (N := some 38) (v := ?_) (a' := ?_) #[true, true, true, true, true, false, true, false, false, false, false, false, false] rfl rfl (by kernel_rfl) (fun _ _ _ h => h) (Or.inl ⟨by rfl, ?_⟩) hHeld ?_ ?_
     rotate_left
     ·rintro w' ⟨s0, s1, s2, s3⟩
      go_simp
      with_reducible rfl
     rotate_left
     ·simp only [Act.put, List.setIfInBounds_toArray, List.set_cons_zero, List.set_cons_succ, i64_w, i32_w]
      rfl
     refine take_ (i := 5) (N := some 39) (v := ?_) (a' := ?_) #[true, true, true, true, true, true, true, false, false, false, false, false, false] rfl rfl (by kernel_rfl) (fun _ _ _ h => h) (Or.inl ⟨by rfl, ?_⟩) hHeld ?_ ?_
     rotate_left
     ·rintro w' ⟨s0, s1, s2, s3⟩
      go_simp
      with_reducible rfl
     rotate_left
     ·simp only [Act.put, List.setIfInBounds_toArray, List.set_cons_zero, List.set_cons_succ, i64_w, i32_w]
      rfl
     refine one_ (i := 7) (N := some 41) #[true, true, true, true, true, true, true, true, false, false, false, false, false] rfl rfl (by kernel_rfl) (by decide) (fun K hK => ?_)
     refine goes_ Try.func90 (by kernel_rfl) rfl #[.agg #[.int .i64 og.f0, .int .i64 og.f1, .int .i64 og.f2], .slice Ap places.length cp] (by rfl) rfl rfl (by simp only [List.map_toArray, List.map_cons, List.map_nil]; rfl) ?_
     with_reducible refine (impl_Op_moved.calls og.f0 og.f1 og.f2 Ap cp places m0 m1 m2 _ (H10.out.drew.row_C (i := 3) rfl).1 (H10.out.row_C (i := 3) rfl).2.2 HMV.out).mono ?_
     rintro e w10 ⟨rfl, hb_⟩
     refine ⟨_, rfl, ?_⟩
     have H11 := Aside0.mk (H10.out.drew.below hb_)
     clear hb_
     refine hK.out _ _ ⟨H11.out.zab (i := 2) rfl 0 rfl, H11.out.zab (i := 0) rfl 0 rfl, H11.out.zab (i := 0) rfl 1 rfl, H11.out.zab (i := 0) rfl 2 rfl⟩ (fun hHeld => ?_)
     clear hK K
     refine norm_ (a' := ?_) ?_ ?_
     rotate_left
     ·show Act.put _ (some 41) _ = _
      simp only [Act.put, List.setIfInBounds_toArray, List.set_cons_zero, List.set_cons_succ, i64_w, i32_w]
      rfl
     refine one_ (i := 8) (N := some 42) #[true, true, true, true, true, true, true, true, true, false, false, false, false] rfl rfl (by kernel_rfl) (by decide) (fun K hK => ?_)
     refine value_ (w1 := ?_) (v := ?_) (by rfl) rfl ?_ ?_
     rotate_left 2
     ·go_simp
      constructor
      ·rfl
      ·rfl
     refine hK.out _ _ ⟨(H11.out.alloc _).zab (i := 2) rfl 0 rfl, (H11.out.alloc _).zab (i := 0) rfl 0 rfl, (H11.out.alloc _).zab (i := 0) rfl 1 rfl, (H11.out.alloc _).zab (i := 0) rfl 2 rfl⟩ (fun hHeld => ?_)
     clear hK K
     refine norm_ (a' := ?_) ?_ ?_
     rotate_left
     ·show Act.put _ (some 42) _ = _
      simp only [Act.put, List.setIfInBounds_toArray, List.set_cons_zero, List.set_cons_succ, i64_w, i32_w]
      rfl
     refine one_ (i := 9) (N := some 43) #[true, true, true, true, true, true, true, true, true, true, false, false, false] rfl rfl (by kernel_rfl) (by decide) (fun K hK => ?_)
     obtain ⟨ok_, hR_, hF_, hX_⟩ := (H11.out).row_append (i := 1) rfl
     refine Kd.R_append_step k69 (w0 := w) w.heap.size (by rfl) (.tmp 38) (.tmp 42) 37 69 (.agg #[(.int .i64 0), (.int .i64 0), (.int .i64 0)]) 24 rfl Try.underlying37 info69 rfl (by decide) (by omega) (.slice Aw m.length cw) m (⟨m0, m1, m2⟩ : SOp) [.int .i64 m0, .int .i64 m1, .int .i64 m2] ok_ (fun _ => False) rfl (by first | rfl | (go_simp; done) | (go_simp; rfl)) ?aP (fun _ hk => hk.elim) ?aF ?aO ?aB ?aS ?aL ?_; (case aP => exact k69_mkM _ _ _ (⟨m0, m1, m2⟩ : SOp)); (case aB => exact (H11.out).bel); (case aF => exact hF_); (case aO => exact hR_); (case aS => exact (H11.out).size); (case aL => have := HMB.out; omega)
     intro v_ w12 ho_ hb_ hg_ ha_; have H12 := Aside0.mk (hX_ _ _ _ ho_ hg_); obtain ⟨A_, c_, rfl⟩ := Kd.zas ho_; simp only [List.set_cons_zero, List.set_cons_succ] at H12; clear ho_ hb_ hg_ ha_ hR_ hF_ hX_
     refine hK.out _ _ ⟨H12.out.zab (i := 2) rfl 0 rfl, H12.out.zab (i := 0) rfl 0 rfl, H12.out.zab (i := 0) rfl 1 rfl, H12.out.zab (i := 0) rfl 2 rfl⟩ (fun hHeld => ?_)
     clear hK K
     refine norm_ (a' := ?_) ?_ ?_
     rotate_left
     ·show Act.put _ (some 43) _ = _
      simp only [Act.put, List.setIfInBounds_toArray, List.set_cons_zero, List.set_cons_succ, i64_w, i32_w]
      rfl
     refine pure_ (i := 10) (N := some 44) (v := ?_) (a' := ?_) #[true, true, true, true, true, true, true, true, true, true, true, false, false] rfl rfl (by kernel_rfl) (fun _ _ _ h => h) (Or.inl ⟨by rfl, ?_⟩) ?_ ?_
     rotate_left
     ·intro w'
      go_simp
      with_reducible rfl
     rotate_left
     ·simp only [Act.put, List.setIfInBounds_toArray, List.set_cons_zero, List.set_cons_succ, i64_w, i32_w]
      rfl
     refine pure_ (i := 11) (N := some 45) (v := ?_) (a' := ?_) #[true, true, true, true, true, true, true, true, true, true, true, true, false] rfl rfl (by kernel_rfl) (fun _ _ _ h => h) (Or.inl ⟨by rfl, ?_⟩) ?_ ?_
     rotate_left
     ·intro w'
      go_simp
      with_reducible rfl
     rotate_left
     ·simp only [Act.put, List.setIfInBounds_toArray, List.set_cons_zero, List.set_cons_succ, i64_w, i32_w]
      rfl
     refine last_ (i := 12) (N := none) #[true, true, true, true, true, true, true, true, true, true, true, true, true] rfl rfl (by kernel_rfl) (by decide) (fun K hK => ?_)
     have y0 : w12.cell? ⟨gw, 0, none⟩ = some (.slice Aw m.length cw) := H12.out.zab (i := 2) rfl 0 rfl
     have y1 := za7 (H12.out.zaq (i := 2) rfl) 0
     refine skip_ (w1 := ?_) (by rfl) rfl ?_ ?_
     rotate_left
     ·go_simp
      rfl
     refine hK.out _ _ ?_
     clear hK K
     refine done_ (by kernel_rfl) ?_
     have h13 := (H12.out.box_set (i := 2) rfl 0 (.slice A_ (m ++ [(⟨m0, m1, m2⟩ : SOp)]).length c_) rfl).drop
     simp only [List.set_cons_succ, List.set_cons_zero] at h13
     rw [show (m ++ [(⟨m0, m1, m2⟩ : SOp)]).length = m.length + 1 from by simp] at h13
     generalize w12.setCell ⟨gw, 0, none⟩ (.slice A_ (m.length + 1) c_) = w13 at h13 ⊢
     have H13 := Aside0.mk h13
     have hgw : w13.cell? ⟨gw, 0, none⟩ = some (.slice A_ (m.length + 1) c_) := h13.zab (i := 1) rfl 0 rfl
     clear h13 y0 y1 hHeld H12 H11 H10
     go_wp2_with ((with_reducible refine gate_builtin (b := .append) (xs := #[.tmp 46, .tmp 52]) rfl ?_); at_builtin; obtain ⟨ok_, hR_, hF_, hX_⟩ := (H13.out).row_append (i := 2) rfl; refine Kd.R_append (Kd.int .i64) (w0 := w) w.heap.size (by rfl) (.tmp 46) (.tmp 52) 22 3 (.int .i64 0) 8 rfl Try.underlying22 info3 rfl (by decide) (by omega) (.slice Ap places.length cp) places ((m.length : Int) + 1) [.int .i64 ((m.length : Int) + 1)] ok_ (fun _ => False) rfl (by first | rfl | (go_simp; done) | (go_simp; rfl)) ?aP (fun _ hk => hk.elim) ?aF ?aO ?aB ?aS ?aL ?_; (case aP => exact rfl); (case aB => exact (H13.out).bel); (case aF => exact hF_); (case aO => exact hR_); (case aS => exact (H13.out).size); (case aL => have := HMB.out; omega); intro v_ w14 ho_ hb_ hg_ ha_; have H14 := Aside0.mk (hX_ _ _ _ ho_ hg_); obtain ⟨A2_, c2_, rfl⟩ := Kd.zas ho_; simp only [List.set_cons_zero, List.set_cons_succ] at H14; clear ho_ hb_ hg_ ha_ hR_ hF_ hX_)
     have h15 := H14.out.obj_close (i := 0) (f := fun v => #[v]) rfl
     simp only [List.set_cons_succ, List.set_cons_zero] at h15
     go_roundg d
     case measure => omega
     case rel => exact ⟨i + 1, places ++ [(m.length : Int) + 1], m ++ [(⟨m0, m1, m2⟩ : SOp)], by go_num, HE3, ⟨by have := HM.out; simp; omega⟩, ⟨by simpa [wr8] using h15⟩⟩

/-! ### laws_FnExactThenCode: function 14 -/
theorem Fr_box_ne {w0 ws w : World} {P0 : Nat → Prop} {L : List (Thing w0.heap.size)} {i j g t : Nat} {cs : Array Value} {g' t' : Nat} {cs' : Array Value} (h : Fr w0 ws P0 L w) (hij : i ≠ j) (hi : L[i]? = some (box g t cs)) (hj : L[j]? = some (box g' t' cs')) : g ≠ g' := by
 obtain ⟨F, F', h1, h1', hd, _, _⟩ := h.focus2 hij hi hj
 exact fun e => hd g h1.1 (by rw [e]; exact h1'.1)
/-- Some of the things, in another order, by their numbers. -/
theorem Fr_pick {w0 ws w : World} {P0 : Nat → Prop} {L : List (Thing w0.heap.size)} (h : Fr w0 ws P0 L w) (is : List Nat) (hn : is.Nodup) (hl : ∀ j ∈ is, j < L.length) : Fr w0 ws P0 (is.map fun j => L.getD j gone) w := by
 obtain ⟨hb, hk, Fs, h1, h2, h3⟩ := h
 refine ⟨hb, hk, fun m k => ∃ j, is[m]? = some j ∧ Fs j k, fun m V hm => ?_, fun m k hF => ?_, fun m m' k hne hF hF' => ?_⟩
 ·rw [List.getElem?_map] at hm
  obtain ⟨j, hj, rfl⟩ := Option.map_eq_some_iff.1 hm
  have hjl := hl j (List.mem_of_getElem? hj)
  refine Thing.mono _ (h1 j _ ?_) (fun k hF => ⟨j, hj, hF⟩)
  rw [List.getD_eq_getElem?_getD, List.getElem?_eq_getElem hjl]
  rfl
 ·obtain ⟨j, _, hF⟩ := hF
  exact h2 j k hF
 ·obtain ⟨j, hj, hF⟩ := hF
  obtain ⟨j', hj', hF'⟩ := hF'
  refine h3 j j' k (fun e => hne ?_) hF hF'
  subst e
  have a1 := (List.getElem?_eq_some_iff.1 hj)
  have a2 := (List.getElem?_eq_some_iff.1 hj')
  exact (List.getElem_inj (h₀ := a1.1) (h₁ := a2.1) hn).1 (a1.2.trans a2.2.symm)
set_option maxHeartbeats 8000000 in
set_option maxRecDepth 100000 in
theorem lawThen_large0 (A0_0 : Option Addr) (c0_0 : Nat) (l0_0 : List S93) (a0_1 : Int) (A1_0 : Option Addr) (c1_0 : Nat) (l1_0 : List S93) (a1_1 : Int) (w : World) (hr0_0 : Kd.C k93 w A0_0 l0_0.length l0_0) (hc0_0 : l0_0.length ≤ c0_0) (hr1_0 : Kd.C k93 w A1_0 l1_0.length l1_0) (hc1_0 : l1_0.length ≤ c1_0) (hs : laws_szCode.f l0_0 a0_1 1048576 = some (-1)) : Calls Try.prog 14 #[.agg #[.slice A0_0 l0_0.length c0_0, .int .i64 a0_1], .agg #[.slice A1_0 l1_0.length c1_0, .int .i64 a1_1]] w fun e w' => e = .returned (.bool true) ∧ Below w.heap.size w w' := by
 have hu39 := Try.underlying39
 have hu34 := Try.underlying34
 have HC0 := Aside0.mk hr0_0
 have HC1 := Aside0.mk hr1_0
 have HN := Aside0.mk (And.intro hc0_0 hc1_0)
 clear hr0_0 hr1_0 hc0_0 hc1_0
 have HS := Aside0.mk hs
 clear hs
 go_enter Try.func14, Try.ntmps14
 go_wp2_with (first | ((with_reducible refine zai (N := 2) rfl ?_); refine zah ?hg (N := 2) ?hd (cs := #[.slice A0_0 l0_0.length c0_0, .int .i64 a0_1]) (t := 34) ?hr ?_; (case hd => rfl); (case hg => rfl); (case hr => first | (go_simp; done) | (go_simp; rfl)); intro gC hg_ w1 hbox_ hb_; have H1 := Aside0.mk ((Fr.start w).box_new hbox_ hb_ hg_); clear hbox_ hb_ hg_) | ((with_reducible refine zai (N := 3) rfl ?_); refine zah ?hg (N := 3) ?hd (cs := #[.slice A1_0 l1_0.length c1_0, .int .i64 a1_1]) (t := 34) ?hr ?_; (case hd => rfl); (case hg => rfl); (case hr => first | (go_simp; done) | (go_simp; rfl)); intro gD hg_ w2 hbox_ hb_; have H2 := Aside0.mk ((H1.out).box_new hbox_ hb_ hg_); clear hbox_ hb_ hg_; have xgC_0 : w2.cell? ⟨gC, 0, none⟩ = some (.slice A0_0 l0_0.length c0_0) := (H2.out).zab (i := 1) rfl 0 rfl; have fgC_0 := za7 ((H2.out).zaq (i := 1) rfl) 0; have xgC_1 : w2.cell? ⟨gC, 1, none⟩ = some (.int .i64 a0_1) := (H2.out).zab (i := 1) rfl 1 rfl; have fgC_1 := za7 ((H2.out).zaq (i := 1) rfl) 1; have xgD_0 : w2.cell? ⟨gD, 0, none⟩ = some (.slice A1_0 l1_0.length c1_0) := (H2.out).zab (i := 0) rfl 0 rfl; have fgD_0 := za7 ((H2.out).zaq (i := 0) rfl) 0; have xgD_1 : w2.cell? ⟨gD, 1, none⟩ = some (.int .i64 a1_1) := (H2.out).zab (i := 0) rfl 1 rfl; have fgD_1 := za7 ((H2.out).zaq (i := 0) rfl) 1))
 have T_ := Aside0.mk trivial
 go_wp2_with (go_at_call 24; clear T_; refine (laws_szCode.calls A0_0 c0_0 l0_0 a0_1 1048576 (-1) _ (Kd.zar HC0.out H2.out.bel) HN.out.1 HS.out).mono ?_; rintro e w3 ⟨rfl, hb_⟩; have H3 := Aside0.mk ((H2.out).below hb_); clear hb_; clear xgC_0 fgC_0 xgC_1 fgC_1 xgD_0 fgD_0 xgD_1 fgD_1)
 go_ret
 exact ⟨rfl, H3.out.bel⟩
set_option maxHeartbeats 8000000 in
set_option maxRecDepth 100000 in
theorem lawThen_large1 (A0_0 : Option Addr) (c0_0 : Nat) (l0_0 : List S93) (a0_1 : Int) (A1_0 : Option Addr) (c1_0 : Nat) (l1_0 : List S93) (a1_1 : Int) (w : World) (hr0_0 : Kd.C k93 w A0_0 l0_0.length l0_0) (hc0_0 : l0_0.length ≤ c0_0) (hr1_0 : Kd.C k93 w A1_0 l1_0.length l1_0) (hc1_0 : l1_0.length ≤ c1_0) (s1 : Int) (hs0 : 0 ≤ s1) (hs : laws_szCode.f l0_0 a0_1 1048576 = some s1) (hs2 : laws_szCode.f l1_0 a1_1 s1 = some (-1)) : Calls Try.prog 14 #[.agg #[.slice A0_0 l0_0.length c0_0, .int .i64 a0_1], .agg #[.slice A1_0 l1_0.length c1_0, .int .i64 a1_1]] w fun e w' => e = .returned (.bool true) ∧ Below w.heap.size w w' := by
 have hu39 := Try.underlying39
 have hu34 := Try.underlying34
 have HC0 := Aside0.mk hr0_0
 have HC1 := Aside0.mk hr1_0
 have HN := Aside0.mk (And.intro hc0_0 hc1_0)
 clear hr0_0 hr1_0 hc0_0 hc1_0
 have HS := Aside0.mk hs
 have HS2 := Aside0.mk hs2
 have hs1 : decide (s1 < 0) = false := decide_eq_false (by omega)
 clear hs hs2
 go_enter Try.func14, Try.ntmps14
 go_wp2_with (first | ((with_reducible refine zai (N := 2) rfl ?_); refine zah ?hg (N := 2) ?hd (cs := #[.slice A0_0 l0_0.length c0_0, .int .i64 a0_1]) (t := 34) ?hr ?_; (case hd => rfl); (case hg => rfl); (case hr => first | (go_simp; done) | (go_simp; rfl)); intro gC hg_ w1 hbox_ hb_; have H1 := Aside0.mk ((Fr.start w).box_new hbox_ hb_ hg_); clear hbox_ hb_ hg_) | ((with_reducible refine zai (N := 3) rfl ?_); refine zah ?hg (N := 3) ?hd (cs := #[.slice A1_0 l1_0.length c1_0, .int .i64 a1_1]) (t := 34) ?hr ?_; (case hd => rfl); (case hg => rfl); (case hr => first | (go_simp; done) | (go_simp; rfl)); intro gD hg_ w2 hbox_ hb_; have H2 := Aside0.mk ((H1.out).box_new hbox_ hb_ hg_); clear hbox_ hb_ hg_; have xgC_0 : w2.cell? ⟨gC, 0, none⟩ = some (.slice A0_0 l0_0.length c0_0) := (H2.out).zab (i := 1) rfl 0 rfl; have fgC_0 := za7 ((H2.out).zaq (i := 1) rfl) 0; have xgC_1 : w2.cell? ⟨gC, 1, none⟩ = some (.int .i64 a0_1) := (H2.out).zab (i := 1) rfl 1 rfl; have fgC_1 := za7 ((H2.out).zaq (i := 1) rfl) 1; have xgD_0 : w2.cell? ⟨gD, 0, none⟩ = some (.slice A1_0 l1_0.length c1_0) := (H2.out).zab (i := 0) rfl 0 rfl; have fgD_0 := za7 ((H2.out).zaq (i := 0) rfl) 0; have xgD_1 : w2.cell? ⟨gD, 1, none⟩ = some (.int .i64 a1_1) := (H2.out).zab (i := 0) rfl 1 rfl; have fgD_1 := za7 ((H2.out).zaq (i := 0) rfl) 1))
 have T_ := Aside0.mk trivial
 go_wp2_with (go_at_call 24; clear T_; refine (laws_szCode.calls A0_0 c0_0 l0_0 a0_1 1048576 s1 _ (Kd.zar HC0.out H2.out.bel) HN.out.1 HS.out).mono ?_; rintro e w3 ⟨rfl, hb_⟩; have H3 := Aside0.mk ((H2.out).below hb_); clear hb_; clear xgC_0 fgC_0 xgC_1 fgC_1 xgD_0 fgD_0 xgD_1 fgD_1; have xgC_0 : w3.cell? ⟨gC, 0, none⟩ = some (.slice A0_0 l0_0.length c0_0) := (H3.out).zab (i := 1) rfl 0 rfl; have fgC_0 := za7 ((H3.out).zaq (i := 1) rfl) 0; have xgC_1 : w3.cell? ⟨gC, 1, none⟩ = some (.int .i64 a0_1) := (H3.out).zab (i := 1) rfl 1 rfl; have fgC_1 := za7 ((H3.out).zaq (i := 1) rfl) 1; have xgD_0 : w3.cell? ⟨gD, 0, none⟩ = some (.slice A1_0 l1_0.length c1_0) := (H3.out).zab (i := 0) rfl 0 rfl; have fgD_0 := za7 ((H3.out).zaq (i := 0) rfl) 0; have xgD_1 : w3.cell? ⟨gD, 1, none⟩ = some (.int .i64 a1_1) := (H3.out).zab (i := 0) rfl 1 rfl; have fgD_1 := za7 ((H3.out).zaq (i := 0) rfl) 1)
 have T_ := Aside0.mk trivial
 go_wp2_with (go_at_call 24; clear T_; refine (laws_szCode.calls A1_0 c1_0 l1_0 a1_1 s1 (-1) _ (Kd.zar HC1.out H3.out.bel) HN.out.2 HS2.out).mono ?_; rintro e w4 ⟨rfl, hb_⟩; have H4 := Aside0.mk ((H3.out).below hb_); clear hb_; clear xgC_0 fgC_0 xgC_1 fgC_1 xgD_0 fgD_0 xgD_1 fgD_1)
 go_ret
 exact ⟨rfl, H4.out.bel⟩
set_option maxHeartbeats 8000000 in
set_option maxRecDepth 100000 in
theorem lawThen_small (A0_0 : Option Addr) (c0_0 : Nat) (l0_0 : List S93) (a0_1 : Int) (A1_0 : Option Addr) (c1_0 : Nat) (l1_0 : List S93) (a1_1 : Int) (w : World) (hr0_0 : Kd.C k93 w A0_0 l0_0.length l0_0) (hc0_0 : l0_0.length ≤ c0_0) (hr1_0 : Kd.C k93 w A1_0 l1_0.length l1_0) (hc1_0 : l1_0.length ≤ c1_0) (s1 s2 k1 k2 mm : Int) (m0 m1 n0 n1 n2 r : List S69) (o : Int) (b : Bool) (k : Nat) (hs0 : 0 ≤ s1) (hs : laws_szCode.f l0_0 a0_1 1048576 = some s1) (hs3 : 0 ≤ s2) (hs2 : laws_szCode.f l1_0 a1_1 s1 = some s2)
  (ht0 : laws_toCode.f k l0_0 a0_1 = some (m0, a0_1)) (ht1 : laws_toCode.f k l1_0 a1_1 = some (m1, a1_1)) (hsp : spec_ThenCode.f k m0 a0_1 m1 a1_1 = some (r, o, b)) (him : impl_ThenCode.f k m0 a0_1 m1 a1_1 = some (r, o, b))
  (heq : laws_eqCode.f k r o r o = some true) (heq0 : laws_eqCode.f k m0 a0_1 m0 a0_1 = some true) (heq1 : laws_eqCode.f k m1 a1_1 m1 a1_1 = some true) (hmk0 : laws_markCode.f k m0 a0_1 1 = some (k1, n0)) (hmk1 : laws_markCode.f k m1 a1_1 k1 = some (k2, n1)) (hk2 : 0 ≤ k2)
  (hmk : laws_markCode.f k r o 1 = some (mm, n2)) (hmm : 0 ≤ mm) (hh : laws_heldCode.f k n2 o 1 = some mm) : Calls Try.prog 14 #[.agg #[.slice A0_0 l0_0.length c0_0, .int .i64 a0_1], .agg #[.slice A1_0 l1_0.length c1_0, .int .i64 a1_1]] w fun e w' => e = .returned (.bool true) ∧ Below w.heap.size w w' := by
 have hu39 := Try.underlying39
 have hu34 := Try.underlying34
 have HC0 := Aside0.mk hr0_0
 have HC1 := Aside0.mk hr1_0
 have HN := Aside0.mk (And.intro hc0_0 hc1_0)
 clear hr0_0 hr1_0 hc0_0 hc1_0
 have X := Aside0.mk (And.intro hs (And.intro hs2 (And.intro ht0 (And.intro ht1 (And.intro hsp (And.intro him (And.intro heq (And.intro heq0 (And.intro heq1 (And.intro hmk0 (And.intro hmk1 (And.intro hmk (hh)))))))))))))
 have hs1_ : decide (s1 < 0) = false := decide_eq_false (by omega)
 have hs2_ : decide (s2 < 0) = false := decide_eq_false (by omega)
 have hk2_ : decide (k2 < 0) = false := decide_eq_false (by omega)
 have hmm_ : decide (mm < 0) = false := decide_eq_false (by omega)
 clear hs hs2 ht0 ht1 hsp him heq heq0 heq1 hmk0 hmk1 hmk hh hs0 hs3 hk2 hmm
 go_enter Try.func14, Try.ntmps14
 go_wp2_with (first | ((with_reducible refine zai (N := 2) rfl ?_); refine zah ?hg (N := 2) ?hd (cs := #[.slice A0_0 l0_0.length c0_0, .int .i64 a0_1]) (t := 34) ?hr ?_; (case hd => rfl); (case hg => rfl); (case hr => first | (go_simp; done) | (go_simp; rfl)); intro gC hg_ w1 hbox_ hb_; have H1 := Aside0.mk ((Fr.start w).box_new hbox_ hb_ hg_); clear hbox_ hb_ hg_) | ((with_reducible refine zai (N := 3) rfl ?_); refine zah ?hg (N := 3) ?hd (cs := #[.slice A1_0 l1_0.length c1_0, .int .i64 a1_1]) (t := 34) ?hr ?_; (case hd => rfl); (case hg => rfl); (case hr => first | (go_simp; done) | (go_simp; rfl)); intro gD hg_ w2 hbox_ hb_; have H2 := Aside0.mk ((H1.out).box_new hbox_ hb_ hg_); clear hbox_ hb_ hg_; have xgC_0 : w2.cell? ⟨gC, 0, none⟩ = some (.slice A0_0 l0_0.length c0_0) := (H2.out).zab (i := 1) rfl 0 rfl; have fgC_0 := za7 ((H2.out).zaq (i := 1) rfl) 0; have xgC_1 : w2.cell? ⟨gC, 1, none⟩ = some (.int .i64 a0_1) := (H2.out).zab (i := 1) rfl 1 rfl; have fgC_1 := za7 ((H2.out).zaq (i := 1) rfl) 1; have xgD_0 : w2.cell? ⟨gD, 0, none⟩ = some (.slice A1_0 l1_0.length c1_0) := (H2.out).zab (i := 0) rfl 0 rfl; have fgD_0 := za7 ((H2.out).zaq (i := 0) rfl) 0; have xgD_1 : w2.cell? ⟨gD, 1, none⟩ = some (.int .i64 a1_1) := (H2.out).zab (i := 0) rfl 1 rfl; have fgD_1 := za7 ((H2.out).zaq (i := 0) rfl) 1))
 have T_ := Aside0.mk trivial
 go_wp2_with (go_at_call 24; clear T_; refine (laws_szCode.calls A0_0 c0_0 l0_0 a0_1 1048576 s1 _ (Kd.zar HC0.out H2.out.bel) HN.out.1 X.out.1).mono ?_; rintro e w3 ⟨rfl, hb_⟩; have H3 := Aside0.mk ((H2.out).below hb_); clear hb_; clear xgC_0 fgC_0 xgC_1 fgC_1 xgD_0 fgD_0 xgD_1 fgD_1; have xgC_0 : w3.cell? ⟨gC, 0, none⟩ = some (.slice A0_0 l0_0.length c0_0) := (H3.out).zab (i := 1) rfl 0 rfl; have fgC_0 := za7 ((H3.out).zaq (i := 1) rfl) 0; have xgC_1 : w3.cell? ⟨gC, 1, none⟩ = some (.int .i64 a0_1) := (H3.out).zab (i := 1) rfl 1 rfl; have fgC_1 := za7 ((H3.out).zaq (i := 1) rfl) 1; have xgD_0 : w3.cell? ⟨gD, 0, none⟩ = some (.slice A1_0 l1_0.length c1_0) := (H3.out).zab (i := 0) rfl 0 rfl; have fgD_0 := za7 ((H3.out).zaq (i := 0) rfl) 0; have xgD_1 : w3.cell? ⟨gD, 1, none⟩ = some (.int .i64 a1_1) := (H3.out).zab (i := 0) rfl 1 rfl; have fgD_1 := za7 ((H3.out).zaq (i := 0) rfl) 1)
 have T_ := Aside0.mk trivial
 go_wp2_with (go_at_call 24; clear T_; refine (laws_szCode.calls A1_0 c1_0 l1_0 a1_1 s1 s2 _ (Kd.zar HC1.out H3.out.bel) HN.out.2 X.out.2.1).mono ?_; rintro e w4 ⟨rfl, hb_⟩; have H4 := Aside0.mk ((H3.out).below hb_); clear hb_; clear xgC_0 fgC_0 xgC_1 fgC_1 xgD_0 fgD_0 xgD_1 fgD_1)
 refine start_ (n := 11) (S := fun w' => w'.cell? ⟨gC, 0, none⟩ = some (.slice A0_0 l0_0.length c0_0) ∧ w'.cell? ⟨gC, 1, none⟩ = some (.int .i64 a0_1) ∧ w'.cell? ⟨gD, 0, none⟩ = some (.slice A1_0 l1_0.length c1_0) ∧ w'.cell? ⟨gD, 1, none⟩ = some (.int .i64 a1_1)) (ds := [9]) #[false, false, false, false, false, false, false, false, false, false, false] (by kernel_rfl) rfl rfl ⟨(H4.out).zab (i := 1) rfl 0 rfl, (H4.out).zab (i := 1) rfl 1 rfl, (H4.out).zab (i := 0) rfl 0 rfl, (H4.out).zab (i := 0) rfl 1 rfl⟩ (fun hHeld => ?_)
 refine take_ (i := 0) (N := some 28) (v := ?_) (a' := ?_) #[true, false, false, false, false, false, false, false, false, false, false] rfl rfl (by kernel_rfl) (fun _ _ _ h => h) (Or.inl ⟨by rfl, ?_⟩) hHeld ?_ ?_
 rotate_left
 ·rintro w' ⟨s0, s1, s2, s3⟩
  go_simp
  with_reducible rfl
 rotate_left
 ·simp only [Act.put, List.setIfInBounds_toArray, List.set_cons_zero, List.set_cons_succ, i64_w, i32_w]
  rfl
 refine take_ (i := 2) (N := some 30) (v := ?_) (a' := ?_) #[true, false, true, false, false, false, false, false, false, false, false] rfl rfl (by kernel_rfl) (fun _ _ _ h => h) (Or.inl ⟨by rfl, ?_⟩) hHeld ?_ ?_
 rotate_left
 ·rintro w' ⟨s0, s1, s2, s3⟩
  go_simp
  with_reducible rfl
 rotate_left
 ·simp only [Act.put, List.setIfInBounds_toArray, List.set_cons_zero, List.set_cons_succ, i64_w, i32_w]
  rfl
 refine join_ (σ := Option Addr × Nat × Nat × Value × Value) 2 #[true, true, true, true, true, true, true, true, true, false, false] (fun s_ => [(29, s_.2.2.2.1), (31, s_.2.2.2.2), (32, .tuple #[.agg #[.slice s_.1 r.length s_.2.1, .int .i64 o], .bool b]), (27, .tuple #[.agg #[.slice s_.1 r.length s_.2.1, .int .i64 o], .bool b]), (33, .agg #[.slice s_.1 r.length s_.2.1, .int .i64 o]), (34, .bool b), (6, .pointer (some ⟨s_.2.2.1, 0, none⟩))]) (fun s_ w' => Fr w w (fun _ => False) [box s_.2.2.1 39 #[.slice none 0 0, .int .i64 0], row k69 69 (.slice s_.1 r.length s_.2.1) r, box gD 34 #[.slice A1_0 l1_0.length c1_0, .int .i64 a1_1], box gC 34 #[.slice A0_0 l0_0.length c0_0, .int .i64 a0_1]] w') ?_ ?_
 rotate_left
 ·intro hCont
  refine two_ (i := 1) (j := 8) (Ni := some 29) (Nj := some 6) #[true, true, true, false, false, false, false, false, false, false, false] #[true, false, true, false, false, false, false, false, true, false, false] rfl rfl rfl rfl (by kernel_rfl) (by decide) (by decide) (fun K hK => ?_) (fun K hK => ?_)
  ·skip
   refine goes_ Try.func26 (by kernel_rfl) rfl #[.agg #[.slice A0_0 l0_0.length c0_0, .int .i64 a0_1]] (by rfl) rfl rfl (by simp only [List.map_toArray, List.map_cons, List.map_nil]; rfl) ?_
   with_reducible refine (laws_toCode.calls k A0_0 c0_0 l0_0 a0_1 m0 a0_1 _ (Kd.zar HC0.out ((H4.out).drew).bel) HN.out.1 X.out.2.2.1).mono ?_
   rintro e wd1 ⟨v_, rfl, hr_, hb_⟩
   refine ⟨_, rfl, ?_⟩
   have HD1 := Aside0.mk (((H4.out).drew).row_new hr_ hb_)
   obtain ⟨AaP, caP, rfl⟩ := Kd.zas hr_
   clear hr_ hb_
   refine hK.out _ _ ⟨(HD1.out).zab (i := 2) rfl 0 rfl, (HD1.out).zab (i := 2) rfl 1 rfl, (HD1.out).zab (i := 1) rfl 0 rfl, (HD1.out).zab (i := 1) rfl 1 rfl⟩ (fun hHeld => ?_)
   clear hK K
   refine norm_ (a' := ?_) ?_ ?_
   rotate_left
   ·show Act.put _ (some 29) _ = _
    simp only [Act.put, List.setIfInBounds_toArray, List.set_cons_zero, List.set_cons_succ, i64_w, i32_w]
    rfl
   refine two_ (i := 3) (j := 8) (Ni := some 31) (Nj := some 6) #[true, true, true, true, false, false, false, false, false, false, false] #[true, true, true, false, false, false, false, false, true, false, false] rfl rfl rfl rfl (by kernel_rfl) (by decide) (by decide) (fun K hK => ?_) (fun K hK => ?_)
   ·skip
    refine goes_ Try.func26 (by kernel_rfl) rfl #[.agg #[.slice A1_0 l1_0.length c1_0, .int .i64 a1_1]] (by rfl) rfl rfl (by simp only [List.map_toArray, List.map_cons, List.map_nil]; rfl) ?_
    with_reducible refine (laws_toCode.calls k A1_0 c1_0 l1_0 a1_1 m1 a1_1 _ (Kd.zar HC1.out (HD1.out).bel) HN.out.2 X.out.2.2.2.1).mono ?_
    rintro e wd2 ⟨v_, rfl, hr_, hb_⟩
    refine ⟨_, rfl, ?_⟩
    have HD2 := Aside0.mk ((HD1.out).row_new hr_ hb_)
    obtain ⟨AaQ, caQ, rfl⟩ := Kd.zas hr_
    clear hr_ hb_
    refine hK.out _ _ ⟨(HD2.out).zab (i := 3) rfl 0 rfl, (HD2.out).zab (i := 3) rfl 1 rfl, (HD2.out).zab (i := 2) rfl 0 rfl, (HD2.out).zab (i := 2) rfl 1 rfl⟩ (fun hHeld => ?_)
    clear hK K
    refine norm_ (a' := ?_) ?_ ?_
    rotate_left
    ·show Act.put _ (some 31) _ = _
     simp only [Act.put, List.setIfInBounds_toArray, List.set_cons_zero, List.set_cons_succ, i64_w, i32_w]
     rfl
    refine two_ (i := 4) (j := 8) (Ni := some 32) (Nj := some 6) #[true, true, true, true, true, false, false, false, false, false, false] #[true, true, true, true, false, false, false, false, true, false, false] rfl rfl rfl rfl (by kernel_rfl) (by decide) (by decide) (fun K hK => ?_) (fun K hK => ?_)
    ·skip
     refine goes_ Try.func47 (by kernel_rfl) rfl #[.agg #[.slice AaP m0.length caP, .int .i64 a0_1], .agg #[.slice AaQ m1.length caQ, .int .i64 a1_1]] (by rfl) rfl rfl (by simp only [List.map_toArray, List.map_cons, List.map_nil]; rfl) ?_
     with_reducible refine (spec_ThenCode.calls k AaP caP m0 a0_1 AaQ caQ m1 a1_1 r o b _ ((HD2.out).row_C (i := 1) rfl).1 ((HD2.out).row_C (i := 1) rfl).2.2 ((HD2.out).row_C (i := 0) rfl).1 ((HD2.out).row_C (i := 0) rfl).2.2 X.out.2.2.2.2.1).mono ?_
     rintro e wd3 ⟨v_, rfl, hr_, hb_⟩
     refine ⟨_, rfl, ?_⟩
     have HD3 := Aside0.mk ((HD2.out).row_new hr_ hb_)
     obtain ⟨AaR, caR, rfl⟩ := Kd.zas hr_
     clear hr_ hb_
     refine hK.out _ _ ⟨(HD3.out).zab (i := 4) rfl 0 rfl, (HD3.out).zab (i := 4) rfl 1 rfl, (HD3.out).zab (i := 3) rfl 0 rfl, (HD3.out).zab (i := 3) rfl 1 rfl⟩ (fun hHeld => ?_)
     clear hK K
     refine norm_ (a' := ?_) ?_ ?_
     rotate_left
     ·show Act.put _ (some 32) _ = _
      simp only [Act.put, List.setIfInBounds_toArray, List.set_cons_zero, List.set_cons_succ, i64_w, i32_w]
      rfl
     refine pure_ (i := 5) (N := some 27) (v := ?_) (a' := ?_) #[true, true, true, true, true, true, false, false, false, false, false] rfl rfl (by kernel_rfl) (fun _ _ _ h => h) (Or.inl ⟨by rfl, ?_⟩) ?_ ?_
     rotate_left
     ·intro w'
      go_simp
      with_reducible rfl
     rotate_left
     ·simp only [Act.put, List.setIfInBounds_toArray, List.set_cons_zero, List.set_cons_succ, i64_w, i32_w]
      rfl
     refine pure_ (i := 6) (N := some 33) (v := ?_) (a' := ?_) #[true, true, true, true, true, true, true, false, false, false, false] rfl rfl (by kernel_rfl) (fun _ _ _ h => h) (Or.inl ⟨by rfl, ?_⟩) ?_ ?_
     rotate_left
     ·intro w'
      go_simp
      with_reducible rfl
     rotate_left
     ·simp only [Act.put, List.setIfInBounds_toArray, List.set_cons_zero, List.set_cons_succ, i64_w, i32_w]
      rfl
     refine pure_ (i := 7) (N := some 34) (v := ?_) (a' := ?_) #[true, true, true, true, true, true, true, true, false, false, false] rfl rfl (by kernel_rfl) (fun _ _ _ h => h) (Or.inl ⟨by rfl, ?_⟩) ?_ ?_
     rotate_left
     ·intro w'
      go_simp
      with_reducible rfl
     rotate_left
     ·simp only [Act.put, List.setIfInBounds_toArray, List.set_cons_zero, List.set_cons_succ, i64_w, i32_w]
      rfl
     refine one_ (i := 8) (N := some 6) #[true, true, true, true, true, true, true, true, true, false, false] rfl rfl (by kernel_rfl) (by decide) (fun K hK => ?_)
     refine box_step ?hg (N := 6) ?hd (cs := #[.slice none 0 0, .int .i64 0]) (t := 39) ?hr ?_; (case hd => rfl); (case hg => rfl); (case hr => first | (go_simp; done) | (go_simp; rfl))
     intro g6 hg_ wd4 hbox_ hb_; have HD4 := Aside0.mk ((HD3.out).box_new hbox_ hb_ hg_); clear hbox_ hb_ hg_
     refine hK.out _ _ ⟨(HD4.out).zab (i := 5) rfl 0 rfl, (HD4.out).zab (i := 5) rfl 1 rfl, (HD4.out).zab (i := 4) rfl 0 rfl, (HD4.out).zab (i := 4) rfl 1 rfl⟩ (fun hHeld => ?_)
     clear hK K
     refine norm_ (a' := ?_) ?_ ?_
     rotate_left
     ·show Act.put _ (some 6) _ = _
      simp only [Act.put, List.setIfInBounds_toArray, List.set_cons_zero, List.set_cons_succ, i64_w, i32_w]
      rfl
     exact norm_ (by simp only [putAll, Act.put, List.setIfInBounds_toArray, List.set_cons_zero, List.set_cons_succ]) (hCont (AaR, caR, g6, .agg #[.slice AaP m0.length caP, .int .i64 a0_1], .agg #[.slice AaQ m1.length caQ, .int .i64 a1_1]) _ (Fr_pick HD4.out [0, 1, 4, 5] (by decide) (by simp)))
    ·skip
     refine box_step ?hg (N := 6) ?hd (cs := #[.slice none 0 0, .int .i64 0]) (t := 39) ?hr ?_; (case hd => rfl); (case hg => rfl); (case hr => first | (go_simp; done) | (go_simp; rfl))
     intro g6 hg_ wd3 hbox_ hb_; have HD3 := Aside0.mk ((HD2.out).box_new hbox_ hb_ hg_); clear hbox_ hb_ hg_
     refine hK.out _ _ ⟨(HD3.out).zab (i := 4) rfl 0 rfl, (HD3.out).zab (i := 4) rfl 1 rfl, (HD3.out).zab (i := 3) rfl 0 rfl, (HD3.out).zab (i := 3) rfl 1 rfl⟩ (fun hHeld => ?_)
     clear hK K
     refine norm_ (a' := ?_) ?_ ?_
     rotate_left
     ·show Act.put _ (some 6) _ = _
      simp only [Act.put, List.setIfInBounds_toArray, List.set_cons_zero, List.set_cons_succ, i64_w, i32_w]
      rfl
     refine one_ (i := 4) (N := some 32) #[true, true, true, true, true, false, false, false, true, false, false] rfl rfl (by kernel_rfl) (by decide) (fun K hK => ?_)
     refine goes_ Try.func47 (by kernel_rfl) rfl #[.agg #[.slice AaP m0.length caP, .int .i64 a0_1], .agg #[.slice AaQ m1.length caQ, .int .i64 a1_1]] (by rfl) rfl rfl (by simp only [List.map_toArray, List.map_cons, List.map_nil]; rfl) ?_
     with_reducible refine (spec_ThenCode.calls k AaP caP m0 a0_1 AaQ caQ m1 a1_1 r o b _ ((HD3.out).row_C (i := 2) rfl).1 ((HD3.out).row_C (i := 2) rfl).2.2 ((HD3.out).row_C (i := 1) rfl).1 ((HD3.out).row_C (i := 1) rfl).2.2 X.out.2.2.2.2.1).mono ?_
     rintro e wd4 ⟨v_, rfl, hr_, hb_⟩
     refine ⟨_, rfl, ?_⟩
     have HD4 := Aside0.mk ((HD3.out).row_new hr_ hb_)
     obtain ⟨AaR, caR, rfl⟩ := Kd.zas hr_
     clear hr_ hb_
     refine hK.out _ _ ⟨(HD4.out).zab (i := 5) rfl 0 rfl, (HD4.out).zab (i := 5) rfl 1 rfl, (HD4.out).zab (i := 4) rfl 0 rfl, (HD4.out).zab (i := 4) rfl 1 rfl⟩ (fun hHeld => ?_)
     clear hK K
     refine norm_ (a' := ?_) ?_ ?_
     rotate_left
     ·show Act.put _ (some 32) _ = _
      simp only [Act.put, List.setIfInBounds_toArray, List.set_cons_zero, List.set_cons_succ, i64_w, i32_w]
      rfl
     refine pure_ (i := 5) (N := some 27) (v := ?_) (a' := ?_) #[true, true, true, true, true, true, false, false, true, false, false] rfl rfl (by kernel_rfl) (fun _ _ _ h => h) (Or.inl ⟨by rfl, ?_⟩) ?_ ?_
     rotate_left
     ·intro w'
      go_simp
      with_reducible rfl
     rotate_left
     ·simp only [Act.put, List.setIfInBounds_toArray, List.set_cons_zero, List.set_cons_succ, i64_w, i32_w]
      rfl
     refine pure_ (i := 6) (N := some 33) (v := ?_) (a' := ?_) #[true, true, true, true, true, true, true, false, true, false, false] rfl rfl (by kernel_rfl) (fun _ _ _ h => h) (Or.inl ⟨by rfl, ?_⟩) ?_ ?_
     rotate_left
     ·intro w'
      go_simp
      with_reducible rfl
     rotate_left
     ·simp only [Act.put, List.setIfInBounds_toArray, List.set_cons_zero, List.set_cons_succ, i64_w, i32_w]
      rfl
     refine pure_ (i := 7) (N := some 34) (v := ?_) (a' := ?_) #[true, true, true, true, true, true, true, true, true, false, false] rfl rfl (by kernel_rfl) (fun _ _ _ h => h) (Or.inl ⟨by rfl, ?_⟩) ?_ ?_
     rotate_left
     ·intro w'
      go_simp
      with_reducible rfl
     rotate_left
     ·simp only [Act.put, List.setIfInBounds_toArray, List.set_cons_zero, List.set_cons_succ, i64_w, i32_w]
      rfl
     exact norm_ (by simp only [putAll, Act.put, List.setIfInBounds_toArray, List.set_cons_zero, List.set_cons_succ]) (hCont (AaR, caR, g6, .agg #[.slice AaP m0.length caP, .int .i64 a0_1], .agg #[.slice AaQ m1.length caQ, .int .i64 a1_1]) _ (Fr_pick HD4.out [1, 0, 4, 5] (by decide) (by simp)))
   ·skip
    refine box_step ?hg (N := 6) ?hd (cs := #[.slice none 0 0, .int .i64 0]) (t := 39) ?hr ?_; (case hd => rfl); (case hg => rfl); (case hr => first | (go_simp; done) | (go_simp; rfl))
    intro g6 hg_ wd2 hbox_ hb_; have HD2 := Aside0.mk ((HD1.out).box_new hbox_ hb_ hg_); clear hbox_ hb_ hg_
    refine hK.out _ _ ⟨(HD2.out).zab (i := 3) rfl 0 rfl, (HD2.out).zab (i := 3) rfl 1 rfl, (HD2.out).zab (i := 2) rfl 0 rfl, (HD2.out).zab (i := 2) rfl 1 rfl⟩ (fun hHeld => ?_)
    clear hK K
    refine norm_ (a' := ?_) ?_ ?_
    rotate_left
    ·show Act.put _ (some 6) _ = _
     simp only [Act.put, List.setIfInBounds_toArray, List.set_cons_zero, List.set_cons_succ, i64_w, i32_w]
     rfl
    refine one_ (i := 3) (N := some 31) #[true, true, true, true, false, false, false, false, true, false, false] rfl rfl (by kernel_rfl) (by decide) (fun K hK => ?_)
    refine goes_ Try.func26 (by kernel_rfl) rfl #[.agg #[.slice A1_0 l1_0.length c1_0, .int .i64 a1_1]] (by rfl) rfl rfl (by simp only [List.map_toArray, List.map_cons, List.map_nil]; rfl) ?_
    with_reducible refine (laws_toCode.calls k A1_0 c1_0 l1_0 a1_1 m1 a1_1 _ (Kd.zar HC1.out (HD2.out).bel) HN.out.2 X.out.2.2.2.1).mono ?_
    rintro e wd3 ⟨v_, rfl, hr_, hb_⟩
    refine ⟨_, rfl, ?_⟩
    have HD3 := Aside0.mk ((HD2.out).row_new hr_ hb_)
    obtain ⟨AaQ, caQ, rfl⟩ := Kd.zas hr_
    clear hr_ hb_
    refine hK.out _ _ ⟨(HD3.out).zab (i := 4) rfl 0 rfl, (HD3.out).zab (i := 4) rfl 1 rfl, (HD3.out).zab (i := 3) rfl 0 rfl, (HD3.out).zab (i := 3) rfl 1 rfl⟩ (fun hHeld => ?_)
    clear hK K
    refine norm_ (a' := ?_) ?_ ?_
    rotate_left
    ·show Act.put _ (some 31) _ = _
     simp only [Act.put, List.setIfInBounds_toArray, List.set_cons_zero, List.set_cons_succ, i64_w, i32_w]
     rfl
    refine one_ (i := 4) (N := some 32) #[true, true, true, true, true, false, false, false, true, false, false] rfl rfl (by kernel_rfl) (by decide) (fun K hK => ?_)
    refine goes_ Try.func47 (by kernel_rfl) rfl #[.agg #[.slice AaP m0.length caP, .int .i64 a0_1], .agg #[.slice AaQ m1.length caQ, .int .i64 a1_1]] (by rfl) rfl rfl (by simp only [List.map_toArray, List.map_cons, List.map_nil]; rfl) ?_
    with_reducible refine (spec_ThenCode.calls k AaP caP m0 a0_1 AaQ caQ m1 a1_1 r o b _ ((HD3.out).row_C (i := 2) rfl).1 ((HD3.out).row_C (i := 2) rfl).2.2 ((HD3.out).row_C (i := 0) rfl).1 ((HD3.out).row_C (i := 0) rfl).2.2 X.out.2.2.2.2.1).mono ?_
    rintro e wd4 ⟨v_, rfl, hr_, hb_⟩
    refine ⟨_, rfl, ?_⟩
    have HD4 := Aside0.mk ((HD3.out).row_new hr_ hb_)
    obtain ⟨AaR, caR, rfl⟩ := Kd.zas hr_
    clear hr_ hb_
    refine hK.out _ _ ⟨(HD4.out).zab (i := 5) rfl 0 rfl, (HD4.out).zab (i := 5) rfl 1 rfl, (HD4.out).zab (i := 4) rfl 0 rfl, (HD4.out).zab (i := 4) rfl 1 rfl⟩ (fun hHeld => ?_)
    clear hK K
    refine norm_ (a' := ?_) ?_ ?_
    rotate_left
    ·show Act.put _ (some 32) _ = _
     simp only [Act.put, List.setIfInBounds_toArray, List.set_cons_zero, List.set_cons_succ, i64_w, i32_w]
     rfl
    refine pure_ (i := 5) (N := some 27) (v := ?_) (a' := ?_) #[true, true, true, true, true, true, false, false, true, false, false] rfl rfl (by kernel_rfl) (fun _ _ _ h => h) (Or.inl ⟨by rfl, ?_⟩) ?_ ?_
    rotate_left
    ·intro w'
     go_simp
     with_reducible rfl
    rotate_left
    ·simp only [Act.put, List.setIfInBounds_toArray, List.set_cons_zero, List.set_cons_succ, i64_w, i32_w]
     rfl
    refine pure_ (i := 6) (N := some 33) (v := ?_) (a' := ?_) #[true, true, true, true, true, true, true, false, true, false, false] rfl rfl (by kernel_rfl) (fun _ _ _ h => h) (Or.inl ⟨by rfl, ?_⟩) ?_ ?_
    rotate_left
    ·intro w'
     go_simp
     with_reducible rfl
    rotate_left
    ·simp only [Act.put, List.setIfInBounds_toArray, List.set_cons_zero, List.set_cons_succ, i64_w, i32_w]
     rfl
    refine pure_ (i := 7) (N := some 34) (v := ?_) (a' := ?_) #[true, true, true, true, true, true, true, true, true, false, false] rfl rfl (by kernel_rfl) (fun _ _ _ h => h) (Or.inl ⟨by rfl, ?_⟩) ?_ ?_
    rotate_left
    ·intro w'
     go_simp
     with_reducible rfl
    rotate_left
    ·simp only [Act.put, List.setIfInBounds_toArray, List.set_cons_zero, List.set_cons_succ, i64_w, i32_w]
     rfl
    exact norm_ (by simp only [putAll, Act.put, List.setIfInBounds_toArray, List.set_cons_zero, List.set_cons_succ]) (hCont (AaR, caR, g6, .agg #[.slice AaP m0.length caP, .int .i64 a0_1], .agg #[.slice AaQ m1.length caQ, .int .i64 a1_1]) _ (Fr_pick HD4.out [2, 0, 4, 5] (by decide) (by simp)))
  ·skip
   refine box_step ?hg (N := 6) ?hd (cs := #[.slice none 0 0, .int .i64 0]) (t := 39) ?hr ?_; (case hd => rfl); (case hg => rfl); (case hr => first | (go_simp; done) | (go_simp; rfl))
   intro g6 hg_ wd1 hbox_ hb_; have HD1 := Aside0.mk (((H4.out).drew).box_new hbox_ hb_ hg_); clear hbox_ hb_ hg_
   refine hK.out _ _ ⟨(HD1.out).zab (i := 2) rfl 0 rfl, (HD1.out).zab (i := 2) rfl 1 rfl, (HD1.out).zab (i := 1) rfl 0 rfl, (HD1.out).zab (i := 1) rfl 1 rfl⟩ (fun hHeld => ?_)
   clear hK K
   refine norm_ (a' := ?_) ?_ ?_
   rotate_left
   ·show Act.put _ (some 6) _ = _
    simp only [Act.put, List.setIfInBounds_toArray, List.set_cons_zero, List.set_cons_succ, i64_w, i32_w]
    rfl
   refine one_ (i := 1) (N := some 29) #[true, true, true, false, false, false, false, false, true, false, false] rfl rfl (by kernel_rfl) (by decide) (fun K hK => ?_)
   refine goes_ Try.func26 (by kernel_rfl) rfl #[.agg #[.slice A0_0 l0_0.length c0_0, .int .i64 a0_1]] (by rfl) rfl rfl (by simp only [List.map_toArray, List.map_cons, List.map_nil]; rfl) ?_
   with_reducible refine (laws_toCode.calls k A0_0 c0_0 l0_0 a0_1 m0 a0_1 _ (Kd.zar HC0.out (HD1.out).bel) HN.out.1 X.out.2.2.1).mono ?_
   rintro e wd2 ⟨v_, rfl, hr_, hb_⟩
   refine ⟨_, rfl, ?_⟩
   have HD2 := Aside0.mk ((HD1.out).row_new hr_ hb_)
   obtain ⟨AaP, caP, rfl⟩ := Kd.zas hr_
   clear hr_ hb_
   refine hK.out _ _ ⟨(HD2.out).zab (i := 3) rfl 0 rfl, (HD2.out).zab (i := 3) rfl 1 rfl, (HD2.out).zab (i := 2) rfl 0 rfl, (HD2.out).zab (i := 2) rfl 1 rfl⟩ (fun hHeld => ?_)
   clear hK K
   refine norm_ (a' := ?_) ?_ ?_
   rotate_left
   ·show Act.put _ (some 29) _ = _
    simp only [Act.put, List.setIfInBounds_toArray, List.set_cons_zero, List.set_cons_succ, i64_w, i32_w]
    rfl
   refine one_ (i := 3) (N := some 31) #[true, true, true, true, false, false, false, false, true, false, false] rfl rfl (by kernel_rfl) (by decide) (fun K hK => ?_)
   refine goes_ Try.func26 (by kernel_rfl) rfl #[.agg #[.slice A1_0 l1_0.length c1_0, .int .i64 a1_1]] (by rfl) rfl rfl (by simp only [List.map_toArray, List.map_cons, List.map_nil]; rfl) ?_
   with_reducible refine (laws_toCode.calls k A1_0 c1_0 l1_0 a1_1 m1 a1_1 _ (Kd.zar HC1.out (HD2.out).bel) HN.out.2 X.out.2.2.2.1).mono ?_
   rintro e wd3 ⟨v_, rfl, hr_, hb_⟩
   refine ⟨_, rfl, ?_⟩
   have HD3 := Aside0.mk ((HD2.out).row_new hr_ hb_)
   obtain ⟨AaQ, caQ, rfl⟩ := Kd.zas hr_
   clear hr_ hb_
   refine hK.out _ _ ⟨(HD3.out).zab (i := 4) rfl 0 rfl, (HD3.out).zab (i := 4) rfl 1 rfl, (HD3.out).zab (i := 3) rfl 0 rfl, (HD3.out).zab (i := 3) rfl 1 rfl⟩ (fun hHeld => ?_)
   clear hK K
   refine norm_ (a' := ?_) ?_ ?_
   rotate_left
   ·show Act.put _ (some 31) _ = _
    simp only [Act.put, List.setIfInBounds_toArray, List.set_cons_zero, List.set_cons_succ, i64_w, i32_w]
    rfl
   refine one_ (i := 4) (N := some 32) #[true, true, true, true, true, false, false, false, true, false, false] rfl rfl (by kernel_rfl) (by decide) (fun K hK => ?_)
   refine goes_ Try.func47 (by kernel_rfl) rfl #[.agg #[.slice AaP m0.length caP, .int .i64 a0_1], .agg #[.slice AaQ m1.length caQ, .int .i64 a1_1]] (by rfl) rfl rfl (by simp only [List.map_toArray, List.map_cons, List.map_nil]; rfl) ?_
   with_reducible refine (spec_ThenCode.calls k AaP caP m0 a0_1 AaQ caQ m1 a1_1 r o b _ ((HD3.out).row_C (i := 1) rfl).1 ((HD3.out).row_C (i := 1) rfl).2.2 ((HD3.out).row_C (i := 0) rfl).1 ((HD3.out).row_C (i := 0) rfl).2.2 X.out.2.2.2.2.1).mono ?_
   rintro e wd4 ⟨v_, rfl, hr_, hb_⟩
   refine ⟨_, rfl, ?_⟩
   have HD4 := Aside0.mk ((HD3.out).row_new hr_ hb_)
   obtain ⟨AaR, caR, rfl⟩ := Kd.zas hr_
   clear hr_ hb_
   refine hK.out _ _ ⟨(HD4.out).zab (i := 5) rfl 0 rfl, (HD4.out).zab (i := 5) rfl 1 rfl, (HD4.out).zab (i := 4) rfl 0 rfl, (HD4.out).zab (i := 4) rfl 1 rfl⟩ (fun hHeld => ?_)
   clear hK K
   refine norm_ (a' := ?_) ?_ ?_
   rotate_left
   ·show Act.put _ (some 32) _ = _
    simp only [Act.put, List.setIfInBounds_toArray, List.set_cons_zero, List.set_cons_succ, i64_w, i32_w]
    rfl
   refine pure_ (i := 5) (N := some 27) (v := ?_) (a' := ?_) #[true, true, true, true, true, true, false, false, true, false, false] rfl rfl (by kernel_rfl) (fun _ _ _ h => h) (Or.inl ⟨by rfl, ?_⟩) ?_ ?_
   rotate_left
   ·intro w'
    go_simp
    with_reducible rfl
   rotate_left
   ·simp only [Act.put, List.setIfInBounds_toArray, List.set_cons_zero, List.set_cons_succ, i64_w, i32_w]
    rfl
   refine pure_ (i := 6) (N := some 33) (v := ?_) (a' := ?_) #[true, true, true, true, true, true, true, false, true, false, false] rfl rfl (by kernel_rfl) (fun _ _ _ h => h) (Or.inl ⟨by rfl, ?_⟩) ?_ ?_
   rotate_left
   ·intro w'
    go_simp
    with_reducible rfl
   rotate_left
   ·simp only [Act.put, List.setIfInBounds_toArray, List.set_cons_zero, List.set_cons_succ, i64_w, i32_w]
    rfl
   refine pure_ (i := 7) (N := some 34) (v := ?_) (a' := ?_) #[true, true, true, true, true, true, true, true, true, false, false] rfl rfl (by kernel_rfl) (fun _ _ _ h => h) (Or.inl ⟨by rfl, ?_⟩) ?_ ?_
   rotate_left
   ·intro w'
    go_simp
    with_reducible rfl
   rotate_left
   ·simp only [Act.put, List.setIfInBounds_toArray, List.set_cons_zero, List.set_cons_succ, i64_w, i32_w]
    rfl
   exact norm_ (by simp only [putAll, Act.put, List.setIfInBounds_toArray, List.set_cons_zero, List.set_cons_succ]) (hCont (AaR, caR, g6, .agg #[.slice AaP m0.length caP, .int .i64 a0_1], .agg #[.slice AaQ m1.length caQ, .int .i64 a1_1]) _ (Fr_pick HD4.out [3, 0, 4, 5] (by decide) (by simp)))
 rintro ⟨AaR, caR, g6, VaP, VaQ⟩ wo h_
 have HO := Aside0.mk (show Fr w w (fun _ => False) [box g6 39 #[.slice none 0 0, .int .i64 0], row k69 69 (.slice AaR r.length caR) r, box gD 34 #[.slice A1_0 l1_0.length c1_0, .int .i64 a1_1], box gC 34 #[.slice A0_0 l0_0.length c0_0, .int .i64 a0_1]] wo from h_)
 clear h_
 have xg6_0 : wo.cell? ⟨g6, 0, none⟩ = some (.slice none 0 0) := HO.out.zab (i := 0) rfl 0 rfl
 have fg6_0 := za7 (HO.out.zaq (i := 0) rfl) 0
 have xg6_1 : wo.cell? ⟨g6, 1, none⟩ = some (.int .i64 0) := HO.out.zab (i := 0) rfl 1 rfl
 have fg6_1 := za7 (HO.out.zaq (i := 0) rfl) 1
 refine norm_ (a' := ?_) ?_ ?_
 rotate_left
 ·simp only [putAll, Act.put, List.setIfInBounds_toArray, List.set_cons_zero, List.set_cons_succ]
  rfl
 refine last_ (i := 9) (N := none) #[true, true, true, true, true, true, true, true, true, true, false] rfl rfl (by kernel_rfl) (by decide) (fun K hK => ?_)
 refine skip_ (w1 := ?_) (by rfl) rfl ?_ ?_
 rotate_left
 ·go_simp
  rfl
 refine hK.out _ _ ?_
 clear hK K
 refine pure_ (i := 10) (N := some 7) (v := ?_) (a' := ?_) #[true, true, true, true, true, true, true, true, true, true, true] rfl rfl (by kernel_rfl) (fun _ _ _ h => h) (Or.inl ⟨by rfl, ?_⟩) ?_ ?_
 rotate_left
 ·intro w'
  go_simp
  with_reducible rfl
 rotate_left
 ·simp only [Act.put, List.setIfInBounds_toArray, List.set_cons_zero, List.set_cons_succ, i64_w, i32_w]
  rfl
 refine done_ (by kernel_rfl) ?_
 have h_ := (HO.out.box_set (i := 0) rfl 0 (.slice AaR r.length caR) rfl).box_set (i := 0) rfl 1 (.int .i64 o) rfl
 simp only [List.set_cons_zero, List.set_cons_succ] at h_
 generalize (wo.setCell ⟨g6, 0, none⟩ (.slice AaR r.length caR)).setCell ⟨g6, 1, none⟩ (.int .i64 o) = w5 at h_ ⊢
 have H5 := Aside0.mk (show Fr w w (fun _ => False) [box g6 39 #[.slice AaR r.length caR, .int .i64 o], row k69 69 (.slice AaR r.length caR) r, box gD 34 #[.slice A1_0 l1_0.length c1_0, .int .i64 a1_1], box gC 34 #[.slice A0_0 l0_0.length c0_0, .int .i64 a0_1]] w5 from h_)
 clear h_ HO hHeld xg6_0 fg6_0 xg6_1 fg6_1
 have xgC_0 : w5.cell? ⟨gC, 0, none⟩ = some (.slice A0_0 l0_0.length c0_0) := (H5.out).zab (i := 3) rfl 0 rfl
 have fgC_0 := za7 ((H5.out).zaq (i := 3) rfl) 0
 have xgC_1 : w5.cell? ⟨gC, 1, none⟩ = some (.int .i64 a0_1) := (H5.out).zab (i := 3) rfl 1 rfl
 have fgC_1 := za7 ((H5.out).zaq (i := 3) rfl) 1
 have xgD_0 : w5.cell? ⟨gD, 0, none⟩ = some (.slice A1_0 l1_0.length c1_0) := (H5.out).zab (i := 2) rfl 0 rfl
 have fgD_0 := za7 ((H5.out).zaq (i := 2) rfl) 0
 have xgD_1 : w5.cell? ⟨gD, 1, none⟩ = some (.int .i64 a1_1) := (H5.out).zab (i := 2) rfl 1 rfl
 have fgD_1 := za7 ((H5.out).zaq (i := 2) rfl) 1
 go_wp2_with fail
 have T_ := Aside0.mk trivial
 go_wp2_with (first | (go_at_call 26; clear T_; refine (laws_toCode.calls k A0_0 c0_0 l0_0 a0_1 m0 a0_1 _ (Kd.zar HC0.out H5.out.bel) HN.out.1 X.out.2.2.1).mono ?_; rintro e w6 ⟨v_, rfl, hr_, hb_⟩; have H6 := Aside0.mk ((H5.out).row_new hr_ hb_); obtain ⟨A8, c8, rfl⟩ := Kd.zas hr_; clear hr_ hb_) | ((with_reducible refine zai (N := 8) rfl ?_); refine zah ?hg (N := 8) ?hd (cs := #[.slice none 0 0, .int .i64 0]) (t := 39) ?hr ?_; (case hd => rfl); (case hg => rfl); (case hr => first | (go_simp; done) | (go_simp; rfl)); intro g8 hg_ w7 hbox_ hb_; have H7 := Aside0.mk ((H6.out).box_new hbox_ hb_ hg_); clear hbox_ hb_ hg_; clear xgC_0 fgC_0 xgC_1 fgC_1 xgD_0 fgD_0 xgD_1 fgD_1; have xg8_0 : w7.cell? ⟨g8, 0, none⟩ = some (.slice none 0 0) := (H7.out).zab (i := 0) rfl 0 rfl; have fg8_0 := za7 ((H7.out).zaq (i := 0) rfl) 0; have xg8_1 : w7.cell? ⟨g8, 1, none⟩ = some (.int .i64 0) := (H7.out).zab (i := 0) rfl 1 rfl; have fg8_1 := za7 ((H7.out).zaq (i := 0) rfl) 1; have xgC_0 : w7.cell? ⟨gC, 0, none⟩ = some (.slice A0_0 l0_0.length c0_0) := (H7.out).zab (i := 5) rfl 0 rfl; have fgC_0 := za7 ((H7.out).zaq (i := 5) rfl) 0; have xgC_1 : w7.cell? ⟨gC, 1, none⟩ = some (.int .i64 a0_1) := (H7.out).zab (i := 5) rfl 1 rfl; have fgC_1 := za7 ((H7.out).zaq (i := 5) rfl) 1; have xgD_0 : w7.cell? ⟨gD, 0, none⟩ = some (.slice A1_0 l1_0.length c1_0) := (H7.out).zab (i := 4) rfl 0 rfl; have fgD_0 := za7 ((H7.out).zaq (i := 4) rfl) 0; have xgD_1 : w7.cell? ⟨gD, 1, none⟩ = some (.int .i64 a1_1) := (H7.out).zab (i := 4) rfl 1 rfl; have fgD_1 := za7 ((H7.out).zaq (i := 4) rfl) 1; have ng8_gC := Fr_box_ne (H7.out) (i := 0) (j := 5) (by decide) rfl rfl; have ngC_g8 := Fr_box_ne (H7.out) (i := 5) (j := 0) (by decide) rfl rfl; have ng8_gD := Fr_box_ne (H7.out) (i := 0) (j := 4) (by decide) rfl rfl; have ngD_g8 := Fr_box_ne (H7.out) (i := 4) (j := 0) (by decide) rfl rfl))
 have h_ := ((H7.out).box_set (i := 0) rfl 0 (.slice A8 m0.length c8) rfl).box_set (i := 0) rfl 1 (.int .i64 a0_1) rfl
 simp only [List.set_cons_zero, List.set_cons_succ] at h_
 generalize ((w7).setCell ⟨g8, 0, none⟩ (.slice A8 m0.length c8)).setCell ⟨g8, 1, none⟩ (.int .i64 a0_1) = w8 at h_ ⊢
 have H8 := Aside0.mk (show Fr w w (fun _ => False) [box g8 39 #[.slice A8 m0.length c8, .int .i64 a0_1], row k69 69 (.slice A8 m0.length c8) m0, box g6 39 #[.slice AaR r.length caR, .int .i64 o], row k69 69 (.slice AaR r.length caR) r, box gD 34 #[.slice A1_0 l1_0.length c1_0, .int .i64 a1_1], box gC 34 #[.slice A0_0 l0_0.length c0_0, .int .i64 a0_1]] w8 from h_)
 clear h_
 clear xg8_0 fg8_0 xg8_1 fg8_1 xgC_0 fgC_0 xgC_1 fgC_1 xgD_0 fgD_0 xgD_1 fgD_1 ng8_gC ngC_g8 ng8_gD ngD_g8
 have T_ := Aside0.mk trivial
 go_wp2_with (first | (go_at_call 26; clear T_; refine (laws_toCode.calls k A1_0 c1_0 l1_0 a1_1 m1 a1_1 _ (Kd.zar HC1.out H8.out.bel) HN.out.2 X.out.2.2.2.1).mono ?_; rintro e w9 ⟨v_, rfl, hr_, hb_⟩; have H9 := Aside0.mk ((H8.out).row_new hr_ hb_); obtain ⟨A9, c9, rfl⟩ := Kd.zas hr_; clear hr_ hb_) | ((with_reducible refine zai (N := 9) rfl ?_); refine zah ?hg (N := 9) ?hd (cs := #[.slice none 0 0, .int .i64 0]) (t := 39) ?hr ?_; (case hd => rfl); (case hg => rfl); (case hr => first | (go_simp; done) | (go_simp; rfl)); intro g9 hg_ w10 hbox_ hb_; have H10 := Aside0.mk ((H9.out).box_new hbox_ hb_ hg_); clear hbox_ hb_ hg_; have xg9_0 : w10.cell? ⟨g9, 0, none⟩ = some (.slice none 0 0) := (H10.out).zab (i := 0) rfl 0 rfl; have fg9_0 := za7 ((H10.out).zaq (i := 0) rfl) 0; have xg9_1 : w10.cell? ⟨g9, 1, none⟩ = some (.int .i64 0) := (H10.out).zab (i := 0) rfl 1 rfl; have fg9_1 := za7 ((H10.out).zaq (i := 0) rfl) 1; have xg8_0 : w10.cell? ⟨g8, 0, none⟩ = some (.slice A8 m0.length c8) := (H10.out).zab (i := 2) rfl 0 rfl; have fg8_0 := za7 ((H10.out).zaq (i := 2) rfl) 0; have xg8_1 : w10.cell? ⟨g8, 1, none⟩ = some (.int .i64 a0_1) := (H10.out).zab (i := 2) rfl 1 rfl; have fg8_1 := za7 ((H10.out).zaq (i := 2) rfl) 1; have ng9_g8 := Fr_box_ne (H10.out) (i := 0) (j := 2) (by decide) rfl rfl; have ng8_g9 := Fr_box_ne (H10.out) (i := 2) (j := 0) (by decide) rfl rfl))
 have h_ := ((H10.out).box_set (i := 0) rfl 0 (.slice A9 m1.length c9) rfl).box_set (i := 0) rfl 1 (.int .i64 a1_1) rfl
 simp only [List.set_cons_zero, List.set_cons_succ] at h_
 generalize ((w10).setCell ⟨g9, 0, none⟩ (.slice A9 m1.length c9)).setCell ⟨g9, 1, none⟩ (.int .i64 a1_1) = w11 at h_ ⊢
 have H11 := Aside0.mk (show Fr w w (fun _ => False) [box g9 39 #[.slice A9 m1.length c9, .int .i64 a1_1], row k69 69 (.slice A9 m1.length c9) m1, box g8 39 #[.slice A8 m0.length c8, .int .i64 a0_1], row k69 69 (.slice A8 m0.length c8) m0, box g6 39 #[.slice AaR r.length caR, .int .i64 o], row k69 69 (.slice AaR r.length caR) r, box gD 34 #[.slice A1_0 l1_0.length c1_0, .int .i64 a1_1], box gC 34 #[.slice A0_0 l0_0.length c0_0, .int .i64 a0_1]] w11 from h_)
 clear h_
 clear xg9_0 fg9_0 xg9_1 fg9_1 xg8_0 fg8_0 xg8_1 fg8_1 ng9_g8 ng8_g9
 have T_ := Aside0.mk trivial
 go_wp2_with (first | (go_at_call 48; clear T_; refine (impl_ThenCode.calls k A8 c8 m0 a0_1 A9 c9 m1 a1_1 r o b _ ((H11.out).row_C (i := 3) rfl).1 ((H11.out).row_C (i := 3) rfl).2.2 ((H11.out).row_C (i := 1) rfl).1 ((H11.out).row_C (i := 1) rfl).2.2 X.out.2.2.2.2.2.1).mono ?_; rintro e w12 ⟨v_, rfl, hr_, hb_⟩; have H12 := Aside0.mk ((H11.out).row_new hr_ hb_); obtain ⟨A10, c10, rfl⟩ := Kd.zas hr_; clear hr_ hb_) | ((with_reducible refine zai (N := 10) rfl ?_); refine zah ?hg (N := 10) ?hd (cs := #[.slice none 0 0, .int .i64 0]) (t := 39) ?hr ?_; (case hd => rfl); (case hg => rfl); (case hr => first | (go_simp; done) | (go_simp; rfl)); intro g10 hg_ w13 hbox_ hb_; have H13 := Aside0.mk ((H12.out).box_new hbox_ hb_ hg_); clear hbox_ hb_ hg_; have xg10_0 : w13.cell? ⟨g10, 0, none⟩ = some (.slice none 0 0) := (H13.out).zab (i := 0) rfl 0 rfl; have fg10_0 := za7 ((H13.out).zaq (i := 0) rfl) 0; have xg10_1 : w13.cell? ⟨g10, 1, none⟩ = some (.int .i64 0) := (H13.out).zab (i := 0) rfl 1 rfl; have fg10_1 := za7 ((H13.out).zaq (i := 0) rfl) 1; have xg6_0 : w13.cell? ⟨g6, 0, none⟩ = some (.slice AaR r.length caR) := (H13.out).zab (i := 6) rfl 0 rfl; have fg6_0 := za7 ((H13.out).zaq (i := 6) rfl) 0; have xg6_1 : w13.cell? ⟨g6, 1, none⟩ = some (.int .i64 o) := (H13.out).zab (i := 6) rfl 1 rfl; have fg6_1 := za7 ((H13.out).zaq (i := 6) rfl) 1; have ng10_g6 := Fr_box_ne (H13.out) (i := 0) (j := 6) (by decide) rfl rfl; have ng6_g10 := Fr_box_ne (H13.out) (i := 6) (j := 0) (by decide) rfl rfl))
 have h_ := ((H13.out).box_set (i := 0) rfl 0 (.slice A10 r.length c10) rfl).box_set (i := 0) rfl 1 (.int .i64 o) rfl
 simp only [List.set_cons_zero, List.set_cons_succ] at h_
 generalize ((w13).setCell ⟨g10, 0, none⟩ (.slice A10 r.length c10)).setCell ⟨g10, 1, none⟩ (.int .i64 o) = w14 at h_ ⊢
 have H14 := Aside0.mk (show Fr w w (fun _ => False) [box g10 39 #[.slice A10 r.length c10, .int .i64 o], row k69 69 (.slice A10 r.length c10) r, box g9 39 #[.slice A9 m1.length c9, .int .i64 a1_1], row k69 69 (.slice A9 m1.length c9) m1, box g8 39 #[.slice A8 m0.length c8, .int .i64 a0_1], row k69 69 (.slice A8 m0.length c8) m0, box g6 39 #[.slice AaR r.length caR, .int .i64 o], row k69 69 (.slice AaR r.length caR) r, box gD 34 #[.slice A1_0 l1_0.length c1_0, .int .i64 a1_1], box gC 34 #[.slice A0_0 l0_0.length c0_0, .int .i64 a0_1]] w14 from h_)
 clear h_
 clear xg10_0 fg10_0 xg10_1 fg10_1 xg6_0 fg6_0 xg6_1 fg6_1 ng10_g6 ng6_g10
 have T_ := Aside0.mk trivial
 go_wp2_with (go_at_call 28; clear T_; refine (laws_eqCode.calls k A10 c10 r o AaR caR r o true _ ((H14.out).row_C (i := 1) rfl).1 ((H14.out).row_C (i := 1) rfl).2.2 ((H14.out).row_C (i := 7) rfl).1 ((H14.out).row_C (i := 7) rfl).2.2 X.out.2.2.2.2.2.2.1).mono ?_; rintro e w15 ⟨rfl, hb_⟩; have H15 := Aside0.mk ((H14.out).below hb_); clear hb_)
 refine start_ (n := 5) (S := fun w' => w'.cell? ⟨g8, 0, none⟩ = some (.slice A8 m0.length c8) ∧ w'.cell? ⟨g8, 1, none⟩ = some (.int .i64 a0_1) ∧ w'.cell? ⟨gC, 0, none⟩ = some (.slice A0_0 l0_0.length c0_0) ∧ w'.cell? ⟨gC, 1, none⟩ = some (.int .i64 a0_1)) (ds := []) #[false, false, false, false, false] (by kernel_rfl) rfl rfl ⟨((H15.out).drew).zab (i := 4) rfl 0 rfl, ((H15.out).drew).zab (i := 4) rfl 1 rfl, ((H15.out).drew).zab (i := 9) rfl 0 rfl, ((H15.out).drew).zab (i := 9) rfl 1 rfl⟩ (fun hHeld => ?_)
 refine take_ (i := 0) (N := some 54) (v := ?_) (a' := ?_) #[true, false, false, false, false] rfl rfl (by kernel_rfl) (fun _ _ _ h => h) (Or.inl ⟨by rfl, ?_⟩) hHeld ?_ ?_
 rotate_left
 ·rintro w' ⟨s0, s1, s2, s3⟩
  go_simp
  with_reducible rfl
 rotate_left
 ·simp only [Act.put, List.setIfInBounds_toArray, List.set_cons_zero, List.set_cons_succ, i64_w, i32_w]
  rfl
 refine take_ (i := 1) (N := some 55) (v := ?_) (a' := ?_) #[true, true, false, false, false] rfl rfl (by kernel_rfl) (fun _ _ _ h => h) (Or.inl ⟨by rfl, ?_⟩) hHeld ?_ ?_
 rotate_left
 ·rintro w' ⟨s0, s1, s2, s3⟩
  go_simp
  with_reducible rfl
 rotate_left
 ·simp only [Act.put, List.setIfInBounds_toArray, List.set_cons_zero, List.set_cons_succ, i64_w, i32_w]
  rfl
 refine one_ (i := 2) (N := some 56) #[true, true, true, false, false] rfl rfl (by kernel_rfl) (by decide) (fun K hK => ?_)
 refine goes_ Try.func26 (by kernel_rfl) rfl #[.agg #[.slice A0_0 l0_0.length c0_0, .int .i64 a0_1]] (by rfl) rfl rfl (by simp only [List.map_toArray, List.map_cons, List.map_nil]; rfl) ?_
 with_reducible refine (laws_toCode.calls k A0_0 c0_0 l0_0 a0_1 m0 a0_1 _ (Kd.zar HC0.out (H15.out).drew.bel) HN.out.1 X.out.2.2.1).mono ?_
 rintro e w16 ⟨v_, rfl, hr_, hb_⟩
 refine ⟨_, rfl, ?_⟩
 have H16 := Aside0.mk ((H15.out).drew.row_new hr_ hb_)
 obtain ⟨Ay14, cy14, rfl⟩ := Kd.zas hr_
 clear hr_ hb_
 refine hK.out _ _ ⟨(H16.out).zab (i := 5) rfl 0 rfl, (H16.out).zab (i := 5) rfl 1 rfl, (H16.out).zab (i := 10) rfl 0 rfl, (H16.out).zab (i := 10) rfl 1 rfl⟩ (fun hHeld => ?_)
 clear hK K
 refine norm_ (a' := ?_) ?_ ?_
 rotate_left
 ·show Act.put _ (some 56) _ = _
  simp only [Act.put, List.setIfInBounds_toArray, List.set_cons_zero, List.set_cons_succ, i64_w, i32_w]
  rfl
 refine one_ (i := 3) (N := some 57) #[true, true, true, true, false] rfl rfl (by kernel_rfl) (by decide) (fun K hK => ?_)
 refine goes_ Try.func28 (by kernel_rfl) rfl #[.agg #[.slice A8 m0.length c8, .int .i64 a0_1], .agg #[.slice Ay14 m0.length cy14, .int .i64 a0_1]] (by rfl) rfl rfl (by simp only [List.map_toArray, List.map_cons, List.map_nil]; rfl) ?_
 with_reducible refine (laws_eqCode.calls k A8 c8 m0 a0_1 Ay14 cy14 m0 a0_1 true _ ((H16.out).row_C (i := 6) rfl).1 ((H16.out).row_C (i := 6) rfl).2.2 ((H16.out).row_C (i := 0) rfl).1 ((H16.out).row_C (i := 0) rfl).2.2 X.out.2.2.2.2.2.2.2.1).mono ?_
 rintro e w17 ⟨rfl, hb_⟩
 refine ⟨_, rfl, ?_⟩
 have H17 := Aside0.mk ((H16.out).below hb_)
 clear hb_
 refine hK.out _ _ ⟨(H17.out).zab (i := 5) rfl 0 rfl, (H17.out).zab (i := 5) rfl 1 rfl, (H17.out).zab (i := 10) rfl 0 rfl, (H17.out).zab (i := 10) rfl 1 rfl⟩ (fun hHeld => ?_)
 clear hK K
 refine norm_ (a' := ?_) ?_ ?_
 rotate_left
 ·show Act.put _ (some 57) _ = _
  simp only [Act.put, List.setIfInBounds_toArray, List.set_cons_zero, List.set_cons_succ, i64_w, i32_w]
  rfl
 refine pure_ (i := 4) (N := some 58) (v := ?_) (a' := ?_) #[true, true, true, true, true] rfl rfl (by kernel_rfl) (fun _ _ _ h => h) (Or.inl ⟨by rfl, ?_⟩) ?_ ?_
 rotate_left
 ·intro w'
  go_simp
  with_reducible rfl
 rotate_left
 ·simp only [Act.put, List.setIfInBounds_toArray, List.set_cons_zero, List.set_cons_succ, i64_w, i32_w]
  rfl
 refine done_ (by kernel_rfl) ?_
 clear hHeld
 have H18 := Aside0.mk (show Fr w w (fun _ => False) [box g10 39 #[.slice A10 r.length c10, .int .i64 o], row k69 69 (.slice A10 r.length c10) r, box g9 39 #[.slice A9 m1.length c9, .int .i64 a1_1], row k69 69 (.slice A9 m1.length c9) m1, box g8 39 #[.slice A8 m0.length c8, .int .i64 a0_1], row k69 69 (.slice A8 m0.length c8) m0, box g6 39 #[.slice AaR r.length caR, .int .i64 o], row k69 69 (.slice AaR r.length caR) r, box gD 34 #[.slice A1_0 l1_0.length c1_0, .int .i64 a1_1], box gC 34 #[.slice A0_0 l0_0.length c0_0, .int .i64 a0_1]] w17 from Fr_pick (H17.out) [1, 2, 3, 4, 5, 6, 7, 8, 9, 10] (by decide) (by simp))
 go_wp2_with fail
 refine start_ (n := 5) (S := fun w' => w'.cell? ⟨g9, 0, none⟩ = some (.slice A9 m1.length c9) ∧ w'.cell? ⟨g9, 1, none⟩ = some (.int .i64 a1_1) ∧ w'.cell? ⟨gD, 0, none⟩ = some (.slice A1_0 l1_0.length c1_0) ∧ w'.cell? ⟨gD, 1, none⟩ = some (.int .i64 a1_1)) (ds := []) #[false, false, false, false, false] (by kernel_rfl) rfl rfl ⟨((H18.out).drew).zab (i := 2) rfl 0 rfl, ((H18.out).drew).zab (i := 2) rfl 1 rfl, ((H18.out).drew).zab (i := 8) rfl 0 rfl, ((H18.out).drew).zab (i := 8) rfl 1 rfl⟩ (fun hHeld => ?_)
 refine take_ (i := 0) (N := some 59) (v := ?_) (a' := ?_) #[true, false, false, false, false] rfl rfl (by kernel_rfl) (fun _ _ _ h => h) (Or.inl ⟨by rfl, ?_⟩) hHeld ?_ ?_
 rotate_left
 ·rintro w' ⟨s0, s1, s2, s3⟩
  go_simp
  with_reducible rfl
 rotate_left
 ·simp only [Act.put, List.setIfInBounds_toArray, List.set_cons_zero, List.set_cons_succ, i64_w, i32_w]
  rfl
 refine take_ (i := 1) (N := some 60) (v := ?_) (a' := ?_) #[true, true, false, false, false] rfl rfl (by kernel_rfl) (fun _ _ _ h => h) (Or.inl ⟨by rfl, ?_⟩) hHeld ?_ ?_
 rotate_left
 ·rintro w' ⟨s0, s1, s2, s3⟩
  go_simp
  with_reducible rfl
 rotate_left
 ·simp only [Act.put, List.setIfInBounds_toArray, List.set_cons_zero, List.set_cons_succ, i64_w, i32_w]
  rfl
 refine one_ (i := 2) (N := some 61) #[true, true, true, false, false] rfl rfl (by kernel_rfl) (by decide) (fun K hK => ?_)
 refine goes_ Try.func26 (by kernel_rfl) rfl #[.agg #[.slice A1_0 l1_0.length c1_0, .int .i64 a1_1]] (by rfl) rfl rfl (by simp only [List.map_toArray, List.map_cons, List.map_nil]; rfl) ?_
 with_reducible refine (laws_toCode.calls k A1_0 c1_0 l1_0 a1_1 m1 a1_1 _ (Kd.zar HC1.out (H18.out).drew.bel) HN.out.2 X.out.2.2.2.1).mono ?_
 rintro e w19 ⟨v_, rfl, hr_, hb_⟩
 refine ⟨_, rfl, ?_⟩
 have H19 := Aside0.mk ((H18.out).drew.row_new hr_ hb_)
 obtain ⟨Ay16, cy16, rfl⟩ := Kd.zas hr_
 clear hr_ hb_
 refine hK.out _ _ ⟨(H19.out).zab (i := 3) rfl 0 rfl, (H19.out).zab (i := 3) rfl 1 rfl, (H19.out).zab (i := 9) rfl 0 rfl, (H19.out).zab (i := 9) rfl 1 rfl⟩ (fun hHeld => ?_)
 clear hK K
 refine norm_ (a' := ?_) ?_ ?_
 rotate_left
 ·show Act.put _ (some 61) _ = _
  simp only [Act.put, List.setIfInBounds_toArray, List.set_cons_zero, List.set_cons_succ, i64_w, i32_w]
  rfl
 refine one_ (i := 3) (N := some 62) #[true, true, true, true, false] rfl rfl (by kernel_rfl) (by decide) (fun K hK => ?_)
 refine goes_ Try.func28 (by kernel_rfl) rfl #[.agg #[.slice A9 m1.length c9, .int .i64 a1_1], .agg #[.slice Ay16 m1.length cy16, .int .i64 a1_1]] (by rfl) rfl rfl (by simp only [List.map_toArray, List.map_cons, List.map_nil]; rfl) ?_
 with_reducible refine (laws_eqCode.calls k A9 c9 m1 a1_1 Ay16 cy16 m1 a1_1 true _ ((H19.out).row_C (i := 4) rfl).1 ((H19.out).row_C (i := 4) rfl).2.2 ((H19.out).row_C (i := 0) rfl).1 ((H19.out).row_C (i := 0) rfl).2.2 X.out.2.2.2.2.2.2.2.2.1).mono ?_
 rintro e w20 ⟨rfl, hb_⟩
 refine ⟨_, rfl, ?_⟩
 have H20 := Aside0.mk ((H19.out).below hb_)
 clear hb_
 refine hK.out _ _ ⟨(H20.out).zab (i := 3) rfl 0 rfl, (H20.out).zab (i := 3) rfl 1 rfl, (H20.out).zab (i := 9) rfl 0 rfl, (H20.out).zab (i := 9) rfl 1 rfl⟩ (fun hHeld => ?_)
 clear hK K
 refine norm_ (a' := ?_) ?_ ?_
 rotate_left
 ·show Act.put _ (some 62) _ = _
  simp only [Act.put, List.setIfInBounds_toArray, List.set_cons_zero, List.set_cons_succ, i64_w, i32_w]
  rfl
 refine pure_ (i := 4) (N := some 63) (v := ?_) (a' := ?_) #[true, true, true, true, true] rfl rfl (by kernel_rfl) (fun _ _ _ h => h) (Or.inl ⟨by rfl, ?_⟩) ?_ ?_
 rotate_left
 ·intro w'
  go_simp
  with_reducible rfl
 rotate_left
 ·simp only [Act.put, List.setIfInBounds_toArray, List.set_cons_zero, List.set_cons_succ, i64_w, i32_w]
  rfl
 refine done_ (by kernel_rfl) ?_
 clear hHeld
 have H21 := Aside0.mk (show Fr w w (fun _ => False) [box g10 39 #[.slice A10 r.length c10, .int .i64 o], row k69 69 (.slice A10 r.length c10) r, box g9 39 #[.slice A9 m1.length c9, .int .i64 a1_1], row k69 69 (.slice A9 m1.length c9) m1, box g8 39 #[.slice A8 m0.length c8, .int .i64 a0_1], row k69 69 (.slice A8 m0.length c8) m0, box g6 39 #[.slice AaR r.length caR, .int .i64 o], row k69 69 (.slice AaR r.length caR) r, box gD 34 #[.slice A1_0 l1_0.length c1_0, .int .i64 a1_1], box gC 34 #[.slice A0_0 l0_0.length c0_0, .int .i64 a0_1]] w20 from Fr_pick (H20.out) [1, 2, 3, 4, 5, 6, 7, 8, 9, 10] (by decide) (by simp))
 have xg8_0 : w20.cell? ⟨g8, 0, none⟩ = some (.slice A8 m0.length c8) := (H21.out).zab (i := 4) rfl 0 rfl
 have fg8_0 := za7 ((H21.out).zaq (i := 4) rfl) 0
 have xg8_1 : w20.cell? ⟨g8, 1, none⟩ = some (.int .i64 a0_1) := (H21.out).zab (i := 4) rfl 1 rfl
 have fg8_1 := za7 ((H21.out).zaq (i := 4) rfl) 1
 go_wp2_with fail
 obtain ⟨F_, f1_, f3_⟩ := (H21.out).focusP (i := 5) rfl
 have T_ := Aside0.mk trivial
 go_wp2_with (go_at_call 37; clear T_; refine (laws_markCode.calls k F_ (.slice A8 m0.length c8) m0 a0_1 1 k1 n0 w _ H21.out.bel f1_ X.out.2.2.2.2.2.2.2.2.2.1).mono ?_; rintro e w22 ⟨rfl, hr_, hb_, hk_⟩; have H22 := Aside0.mk (f3_ w22 (row k69 69 (.slice A8 m0.length c8) n0) hb_ hk_ hr_); simp only [List.set_cons_zero, List.set_cons_succ] at H22; clear hr_ hb_ hk_ f1_ f3_; clear xg8_0 fg8_0 xg8_1 fg8_1; have xg9_0 : w22.cell? ⟨g9, 0, none⟩ = some (.slice A9 m1.length c9) := (H22.out).zab (i := 2) rfl 0 rfl; have fg9_0 := za7 ((H22.out).zaq (i := 2) rfl) 0; have xg9_1 : w22.cell? ⟨g9, 1, none⟩ = some (.int .i64 a1_1) := (H22.out).zab (i := 2) rfl 1 rfl; have fg9_1 := za7 ((H22.out).zaq (i := 2) rfl) 1)
 obtain ⟨F_, f1_, f3_⟩ := (H22.out).focusP (i := 3) rfl
 have T_ := Aside0.mk trivial
 go_wp2_with (go_at_call 37; clear T_; refine (laws_markCode.calls k F_ (.slice A9 m1.length c9) m1 a1_1 k1 k2 n1 w _ H22.out.bel f1_ X.out.2.2.2.2.2.2.2.2.2.2.1).mono ?_; rintro e w23 ⟨rfl, hr_, hb_, hk_⟩; have H23 := Aside0.mk (f3_ w23 (row k69 69 (.slice A9 m1.length c9) n1) hb_ hk_ hr_); simp only [List.set_cons_zero, List.set_cons_succ] at H23; clear hr_ hb_ hk_ f1_ f3_; clear xg9_0 fg9_0 xg9_1 fg9_1; have xg10_0 : w23.cell? ⟨g10, 0, none⟩ = some (.slice A10 r.length c10) := (H23.out).zab (i := 0) rfl 0 rfl; have fg10_0 := za7 ((H23.out).zaq (i := 0) rfl) 0; have xg10_1 : w23.cell? ⟨g10, 1, none⟩ = some (.int .i64 o) := (H23.out).zab (i := 0) rfl 1 rfl; have fg10_1 := za7 ((H23.out).zaq (i := 0) rfl) 1; have xg6_0 : w23.cell? ⟨g6, 0, none⟩ = some (.slice AaR r.length caR) := (H23.out).zab (i := 6) rfl 0 rfl; have fg6_0 := za7 ((H23.out).zaq (i := 6) rfl) 0; have xg6_1 : w23.cell? ⟨g6, 1, none⟩ = some (.int .i64 o) := (H23.out).zab (i := 6) rfl 1 rfl; have fg6_1 := za7 ((H23.out).zaq (i := 6) rfl) 1)
 have T_ := Aside0.mk trivial
 go_wp2_with (go_at_call 28; clear T_; refine (laws_eqCode.calls k A10 c10 r o AaR caR r o true _ ((H23.out).row_C (i := 1) rfl).1 ((H23.out).row_C (i := 1) rfl).2.2 ((H23.out).row_C (i := 7) rfl).1 ((H23.out).row_C (i := 7) rfl).2.2 X.out.2.2.2.2.2.2.1).mono ?_; rintro e w24 ⟨rfl, hb_⟩; have H24 := Aside0.mk ((H23.out).below hb_); clear hb_; clear xg10_0 fg10_0 xg10_1 fg10_1 xg6_0 fg6_0 xg6_1 fg6_1; have xg10_0 : w24.cell? ⟨g10, 0, none⟩ = some (.slice A10 r.length c10) := (H24.out).zab (i := 0) rfl 0 rfl; have fg10_0 := za7 ((H24.out).zaq (i := 0) rfl) 0; have xg10_1 : w24.cell? ⟨g10, 1, none⟩ = some (.int .i64 o) := (H24.out).zab (i := 0) rfl 1 rfl; have fg10_1 := za7 ((H24.out).zaq (i := 0) rfl) 1)
 obtain ⟨F_, f1_, f3_⟩ := (H24.out).focusP (i := 1) rfl
 have T_ := Aside0.mk trivial
 go_wp2_with (go_at_call 37; clear T_; refine (laws_markCode.calls k F_ (.slice A10 r.length c10) r o 1 mm n2 w _ H24.out.bel f1_ X.out.2.2.2.2.2.2.2.2.2.2.2.1).mono ?_; rintro e w25 ⟨rfl, hr_, hb_, hk_⟩; have H25 := Aside0.mk (f3_ w25 (row k69 69 (.slice A10 r.length c10) n2) hb_ hk_ hr_); simp only [List.set_cons_zero, List.set_cons_succ] at H25; clear hr_ hb_ hk_ f1_ f3_; clear xg10_0 fg10_0 xg10_1 fg10_1; have xg10_0 : w25.cell? ⟨g10, 0, none⟩ = some (.slice A10 r.length c10) := (H25.out).zab (i := 0) rfl 0 rfl; have fg10_0 := za7 ((H25.out).zaq (i := 0) rfl) 0; have xg10_1 : w25.cell? ⟨g10, 1, none⟩ = some (.int .i64 o) := (H25.out).zab (i := 0) rfl 1 rfl; have fg10_1 := za7 ((H25.out).zaq (i := 0) rfl) 1)
 have HH := Aside0.mk (laws_heldCode.calls k A10 c10 n2 o 1 mm _ ((H25.out).row_C (i := 1) rfl).1 ((H25.out).row_C (i := 1) rfl).2.2 X.out.2.2.2.2.2.2.2.2.2.2.2.2)
 rw [← ((H25.out).row_C (i := 1) rfl).2.1] at HH
 have T_ := Aside0.mk trivial
 go_wp2_with (go_at_call 44; clear T_; refine (HH.out).mono ?_; rintro e w26 ⟨rfl, hb_⟩; have H26 := Aside0.mk ((H25.out).below hb_); clear hb_ HH; clear xg10_0 fg10_0 xg10_1 fg10_1)
 refine start_ (n := 11) (S := fun w' => w'.cell? ⟨gC, 0, none⟩ = some (.slice A0_0 l0_0.length c0_0) ∧ w'.cell? ⟨gC, 1, none⟩ = some (.int .i64 a0_1) ∧ w'.cell? ⟨gD, 0, none⟩ = some (.slice A1_0 l1_0.length c1_0) ∧ w'.cell? ⟨gD, 1, none⟩ = some (.int .i64 a1_1)) (ds := [9]) #[false, false, false, false, false, false, false, false, false, false, false] (by kernel_rfl) rfl rfl ⟨(H26.out).zab (i := 9) rfl 0 rfl, (H26.out).zab (i := 9) rfl 1 rfl, (H26.out).zab (i := 8) rfl 0 rfl, (H26.out).zab (i := 8) rfl 1 rfl⟩ (fun hHeld => ?_)
 refine take_ (i := 0) (N := some 95) (v := ?_) (a' := ?_) #[true, false, false, false, false, false, false, false, false, false, false] rfl rfl (by kernel_rfl) (fun _ _ _ h => h) (Or.inl ⟨by rfl, ?_⟩) hHeld ?_ ?_
 rotate_left
 ·rintro w' ⟨s0, s1, s2, s3⟩
  go_simp
  with_reducible rfl
 rotate_left
 ·simp only [Act.put, List.setIfInBounds_toArray, List.set_cons_zero, List.set_cons_succ, i64_w, i32_w]
  rfl
 refine take_ (i := 2) (N := some 97) (v := ?_) (a' := ?_) #[true, false, true, false, false, false, false, false, false, false, false] rfl rfl (by kernel_rfl) (fun _ _ _ h => h) (Or.inl ⟨by rfl, ?_⟩) hHeld ?_ ?_
 rotate_left
 ·rintro w' ⟨s0, s1, s2, s3⟩
  go_simp
  with_reducible rfl
 rotate_left
 ·simp only [Act.put, List.setIfInBounds_toArray, List.set_cons_zero, List.set_cons_succ, i64_w, i32_w]
  rfl
 refine join_ (σ := Option Addr × Nat × Nat × Value × Value) 2 #[true, true, true, true, true, true, true, true, true, false, false] (fun s_ => [(96, s_.2.2.2.1), (98, s_.2.2.2.2), (99, .tuple #[.agg #[.slice s_.1 r.length s_.2.1, .int .i64 o], .bool b]), (94, .tuple #[.agg #[.slice s_.1 r.length s_.2.1, .int .i64 o], .bool b]), (100, .agg #[.slice s_.1 r.length s_.2.1, .int .i64 o]), (101, .bool b), (15, .pointer (some ⟨s_.2.2.1, 0, none⟩))]) (fun s_ w' => Fr w w (fun _ => False) [box s_.2.2.1 39 #[.slice none 0 0, .int .i64 0], row k69 69 (.slice s_.1 r.length s_.2.1) r, box g10 39 #[.slice A10 r.length c10, .int .i64 o], row k69 69 (.slice A10 r.length c10) n2, box g9 39 #[.slice A9 m1.length c9, .int .i64 a1_1], row k69 69 (.slice A9 m1.length c9) n1, box g8 39 #[.slice A8 m0.length c8, .int .i64 a0_1], row k69 69 (.slice A8 m0.length c8) n0, box g6 39 #[.slice AaR r.length caR, .int .i64 o], row k69 69 (.slice AaR r.length caR) r, box gD 34 #[.slice A1_0 l1_0.length c1_0, .int .i64 a1_1], box gC 34 #[.slice A0_0 l0_0.length c0_0, .int .i64 a0_1]] w') ?_ ?_
 rotate_left
 ·intro hCont
  refine two_ (i := 1) (j := 8) (Ni := some 96) (Nj := some 15) #[true, true, true, false, false, false, false, false, false, false, false] #[true, false, true, false, false, false, false, false, true, false, false] rfl rfl rfl rfl (by kernel_rfl) (by decide) (by decide) (fun K hK => ?_) (fun K hK => ?_)
  ·skip
   refine goes_ Try.func26 (by kernel_rfl) rfl #[.agg #[.slice A0_0 l0_0.length c0_0, .int .i64 a0_1]] (by rfl) rfl rfl (by simp only [List.map_toArray, List.map_cons, List.map_nil]; rfl) ?_
   with_reducible refine (laws_toCode.calls k A0_0 c0_0 l0_0 a0_1 m0 a0_1 _ (Kd.zar HC0.out ((H26.out).drew).bel) HN.out.1 X.out.2.2.1).mono ?_
   rintro e wd1 ⟨v_, rfl, hr_, hb_⟩
   refine ⟨_, rfl, ?_⟩
   have HD1 := Aside0.mk (((H26.out).drew).row_new hr_ hb_)
   obtain ⟨AbP, cbP, rfl⟩ := Kd.zas hr_
   clear hr_ hb_
   refine hK.out _ _ ⟨(HD1.out).zab (i := 10) rfl 0 rfl, (HD1.out).zab (i := 10) rfl 1 rfl, (HD1.out).zab (i := 9) rfl 0 rfl, (HD1.out).zab (i := 9) rfl 1 rfl⟩ (fun hHeld => ?_)
   clear hK K
   refine norm_ (a' := ?_) ?_ ?_
   rotate_left
   ·show Act.put _ (some 96) _ = _
    simp only [Act.put, List.setIfInBounds_toArray, List.set_cons_zero, List.set_cons_succ, i64_w, i32_w]
    rfl
   refine two_ (i := 3) (j := 8) (Ni := some 98) (Nj := some 15) #[true, true, true, true, false, false, false, false, false, false, false] #[true, true, true, false, false, false, false, false, true, false, false] rfl rfl rfl rfl (by kernel_rfl) (by decide) (by decide) (fun K hK => ?_) (fun K hK => ?_)
   ·skip
    refine goes_ Try.func26 (by kernel_rfl) rfl #[.agg #[.slice A1_0 l1_0.length c1_0, .int .i64 a1_1]] (by rfl) rfl rfl (by simp only [List.map_toArray, List.map_cons, List.map_nil]; rfl) ?_
    with_reducible refine (laws_toCode.calls k A1_0 c1_0 l1_0 a1_1 m1 a1_1 _ (Kd.zar HC1.out (HD1.out).bel) HN.out.2 X.out.2.2.2.1).mono ?_
    rintro e wd2 ⟨v_, rfl, hr_, hb_⟩
    refine ⟨_, rfl, ?_⟩
    have HD2 := Aside0.mk ((HD1.out).row_new hr_ hb_)
    obtain ⟨AbQ, cbQ, rfl⟩ := Kd.zas hr_
    clear hr_ hb_
    refine hK.out _ _ ⟨(HD2.out).zab (i := 11) rfl 0 rfl, (HD2.out).zab (i := 11) rfl 1 rfl, (HD2.out).zab (i := 10) rfl 0 rfl, (HD2.out).zab (i := 10) rfl 1 rfl⟩ (fun hHeld => ?_)
    clear hK K
    refine norm_ (a' := ?_) ?_ ?_
    rotate_left
    ·show Act.put _ (some 98) _ = _
     simp only [Act.put, List.setIfInBounds_toArray, List.set_cons_zero, List.set_cons_succ, i64_w, i32_w]
     rfl
    refine two_ (i := 4) (j := 8) (Ni := some 99) (Nj := some 15) #[true, true, true, true, true, false, false, false, false, false, false] #[true, true, true, true, false, false, false, false, true, false, false] rfl rfl rfl rfl (by kernel_rfl) (by decide) (by decide) (fun K hK => ?_) (fun K hK => ?_)
    ·skip
     refine goes_ Try.func48 (by kernel_rfl) rfl #[.agg #[.slice AbP m0.length cbP, .int .i64 a0_1], .agg #[.slice AbQ m1.length cbQ, .int .i64 a1_1]] (by rfl) rfl rfl (by simp only [List.map_toArray, List.map_cons, List.map_nil]; rfl) ?_
     with_reducible refine (impl_ThenCode.calls k AbP cbP m0 a0_1 AbQ cbQ m1 a1_1 r o b _ ((HD2.out).row_C (i := 1) rfl).1 ((HD2.out).row_C (i := 1) rfl).2.2 ((HD2.out).row_C (i := 0) rfl).1 ((HD2.out).row_C (i := 0) rfl).2.2 X.out.2.2.2.2.2.1).mono ?_
     rintro e wd3 ⟨v_, rfl, hr_, hb_⟩
     refine ⟨_, rfl, ?_⟩
     have HD3 := Aside0.mk ((HD2.out).row_new hr_ hb_)
     obtain ⟨AbR, cbR, rfl⟩ := Kd.zas hr_
     clear hr_ hb_
     refine hK.out _ _ ⟨(HD3.out).zab (i := 12) rfl 0 rfl, (HD3.out).zab (i := 12) rfl 1 rfl, (HD3.out).zab (i := 11) rfl 0 rfl, (HD3.out).zab (i := 11) rfl 1 rfl⟩ (fun hHeld => ?_)
     clear hK K
     refine norm_ (a' := ?_) ?_ ?_
     rotate_left
     ·show Act.put _ (some 99) _ = _
      simp only [Act.put, List.setIfInBounds_toArray, List.set_cons_zero, List.set_cons_succ, i64_w, i32_w]
      rfl
     refine pure_ (i := 5) (N := some 94) (v := ?_) (a' := ?_) #[true, true, true, true, true, true, false, false, false, false, false] rfl rfl (by kernel_rfl) (fun _ _ _ h => h) (Or.inl ⟨by rfl, ?_⟩) ?_ ?_
     rotate_left
     ·intro w'
      go_simp
      with_reducible rfl
     rotate_left
     ·simp only [Act.put, List.setIfInBounds_toArray, List.set_cons_zero, List.set_cons_succ, i64_w, i32_w]
      rfl
     refine pure_ (i := 6) (N := some 100) (v := ?_) (a' := ?_) #[true, true, true, true, true, true, true, false, false, false, false] rfl rfl (by kernel_rfl) (fun _ _ _ h => h) (Or.inl ⟨by rfl, ?_⟩) ?_ ?_
     rotate_left
     ·intro w'
      go_simp
      with_reducible rfl
     rotate_left
     ·simp only [Act.put, List.setIfInBounds_toArray, List.set_cons_zero, List.set_cons_succ, i64_w, i32_w]
      rfl
     refine pure_ (i := 7) (N := some 101) (v := ?_) (a' := ?_) #[true, true, true, true, true, true, true, true, false, false, false] rfl rfl (by kernel_rfl) (fun _ _ _ h => h) (Or.inl ⟨by rfl, ?_⟩) ?_ ?_
     rotate_left
     ·intro w'
      go_simp
      with_reducible rfl
     rotate_left
     ·simp only [Act.put, List.setIfInBounds_toArray, List.set_cons_zero, List.set_cons_succ, i64_w, i32_w]
      rfl
     refine one_ (i := 8) (N := some 15) #[true, true, true, true, true, true, true, true, true, false, false] rfl rfl (by kernel_rfl) (by decide) (fun K hK => ?_)
     refine box_step ?hg (N := 15) ?hd (cs := #[.slice none 0 0, .int .i64 0]) (t := 39) ?hr ?_; (case hd => rfl); (case hg => rfl); (case hr => first | (go_simp; done) | (go_simp; rfl))
     intro g15 hg_ wd4 hbox_ hb_; have HD4 := Aside0.mk ((HD3.out).box_new hbox_ hb_ hg_); clear hbox_ hb_ hg_
     refine hK.out _ _ ⟨(HD4.out).zab (i := 13) rfl 0 rfl, (HD4.out).zab (i := 13) rfl 1 rfl, (HD4.out).zab (i := 12) rfl 0 rfl, (HD4.out).zab (i := 12) rfl 1 rfl⟩ (fun hHeld => ?_)
     clear hK K
     refine norm_ (a' := ?_) ?_ ?_
     rotate_left
     ·show Act.put _ (some 15) _ = _
      simp only [Act.put, List.setIfInBounds_toArray, List.set_cons_zero, List.set_cons_succ, i64_w, i32_w]
      rfl
     exact norm_ (by simp only [putAll, Act.put, List.setIfInBounds_toArray, List.set_cons_zero, List.set_cons_succ]) (hCont (AbR, cbR, g15, .agg #[.slice AbP m0.length cbP, .int .i64 a0_1], .agg #[.slice AbQ m1.length cbQ, .int .i64 a1_1]) _ (Fr_pick HD4.out [0, 1, 4, 5, 6, 7, 8, 9, 10, 11, 12, 13] (by decide) (by simp)))
    ·skip
     refine box_step ?hg (N := 15) ?hd (cs := #[.slice none 0 0, .int .i64 0]) (t := 39) ?hr ?_; (case hd => rfl); (case hg => rfl); (case hr => first | (go_simp; done) | (go_simp; rfl))
     intro g15 hg_ wd3 hbox_ hb_; have HD3 := Aside0.mk ((HD2.out).box_new hbox_ hb_ hg_); clear hbox_ hb_ hg_
     refine hK.out _ _ ⟨(HD3.out).zab (i := 12) rfl 0 rfl, (HD3.out).zab (i := 12) rfl 1 rfl, (HD3.out).zab (i := 11) rfl 0 rfl, (HD3.out).zab (i := 11) rfl 1 rfl⟩ (fun hHeld => ?_)
     clear hK K
     refine norm_ (a' := ?_) ?_ ?_
     rotate_left
     ·show Act.put _ (some 15) _ = _
      simp only [Act.put, List.setIfInBounds_toArray, List.set_cons_zero, List.set_cons_succ, i64_w, i32_w]
      rfl
     refine one_ (i := 4) (N := some 99) #[true, true, true, true, true, false, false, false, true, false, false] rfl rfl (by kernel_rfl) (by decide) (fun K hK => ?_)
     refine goes_ Try.func48 (by kernel_rfl) rfl #[.agg #[.slice AbP m0.length cbP, .int .i64 a0_1], .agg #[.slice AbQ m1.length cbQ, .int .i64 a1_1]] (by rfl) rfl rfl (by simp only [List.map_toArray, List.map_cons, List.map_nil]; rfl) ?_
     with_reducible refine (impl_ThenCode.calls k AbP cbP m0 a0_1 AbQ cbQ m1 a1_1 r o b _ ((HD3.out).row_C (i := 2) rfl).1 ((HD3.out).row_C (i := 2) rfl).2.2 ((HD3.out).row_C (i := 1) rfl).1 ((HD3.out).row_C (i := 1) rfl).2.2 X.out.2.2.2.2.2.1).mono ?_
     rintro e wd4 ⟨v_, rfl, hr_, hb_⟩
     refine ⟨_, rfl, ?_⟩
     have HD4 := Aside0.mk ((HD3.out).row_new hr_ hb_)
     obtain ⟨AbR, cbR, rfl⟩ := Kd.zas hr_
     clear hr_ hb_
     refine hK.out _ _ ⟨(HD4.out).zab (i := 13) rfl 0 rfl, (HD4.out).zab (i := 13) rfl 1 rfl, (HD4.out).zab (i := 12) rfl 0 rfl, (HD4.out).zab (i := 12) rfl 1 rfl⟩ (fun hHeld => ?_)
     clear hK K
     refine norm_ (a' := ?_) ?_ ?_
     rotate_left
     ·show Act.put _ (some 99) _ = _
      simp only [Act.put, List.setIfInBounds_toArray, List.set_cons_zero, List.set_cons_succ, i64_w, i32_w]
      rfl
     refine pure_ (i := 5) (N := some 94) (v := ?_) (a' := ?_) #[true, true, true, true, true, true, false, false, true, false, false] rfl rfl (by kernel_rfl) (fun _ _ _ h => h) (Or.inl ⟨by rfl, ?_⟩) ?_ ?_
     rotate_left
     ·intro w'
      go_simp
      with_reducible rfl
     rotate_left
     ·simp only [Act.put, List.setIfInBounds_toArray, List.set_cons_zero, List.set_cons_succ, i64_w, i32_w]
      rfl
     refine pure_ (i := 6) (N := some 100) (v := ?_) (a' := ?_) #[true, true, true, true, true, true, true, false, true, false, false] rfl rfl (by kernel_rfl) (fun _ _ _ h => h) (Or.inl ⟨by rfl, ?_⟩) ?_ ?_
     rotate_left
     ·intro w'
      go_simp
      with_reducible rfl
     rotate_left
     ·simp only [Act.put, List.setIfInBounds_toArray, List.set_cons_zero, List.set_cons_succ, i64_w, i32_w]
      rfl
     refine pure_ (i := 7) (N := some 101) (v := ?_) (a' := ?_) #[true, true, true, true, true, true, true, true, true, false, false] rfl rfl (by kernel_rfl) (fun _ _ _ h => h) (Or.inl ⟨by rfl, ?_⟩) ?_ ?_
     rotate_left
     ·intro w'
      go_simp
      with_reducible rfl
     rotate_left
     ·simp only [Act.put, List.setIfInBounds_toArray, List.set_cons_zero, List.set_cons_succ, i64_w, i32_w]
      rfl
     exact norm_ (by simp only [putAll, Act.put, List.setIfInBounds_toArray, List.set_cons_zero, List.set_cons_succ]) (hCont (AbR, cbR, g15, .agg #[.slice AbP m0.length cbP, .int .i64 a0_1], .agg #[.slice AbQ m1.length cbQ, .int .i64 a1_1]) _ (Fr_pick HD4.out [1, 0, 4, 5, 6, 7, 8, 9, 10, 11, 12, 13] (by decide) (by simp)))
   ·skip
    refine box_step ?hg (N := 15) ?hd (cs := #[.slice none 0 0, .int .i64 0]) (t := 39) ?hr ?_; (case hd => rfl); (case hg => rfl); (case hr => first | (go_simp; done) | (go_simp; rfl))
    intro g15 hg_ wd2 hbox_ hb_; have HD2 := Aside0.mk ((HD1.out).box_new hbox_ hb_ hg_); clear hbox_ hb_ hg_
    refine hK.out _ _ ⟨(HD2.out).zab (i := 11) rfl 0 rfl, (HD2.out).zab (i := 11) rfl 1 rfl, (HD2.out).zab (i := 10) rfl 0 rfl, (HD2.out).zab (i := 10) rfl 1 rfl⟩ (fun hHeld => ?_)
    clear hK K
    refine norm_ (a' := ?_) ?_ ?_
    rotate_left
    ·show Act.put _ (some 15) _ = _
     simp only [Act.put, List.setIfInBounds_toArray, List.set_cons_zero, List.set_cons_succ, i64_w, i32_w]
     rfl
    refine one_ (i := 3) (N := some 98) #[true, true, true, true, false, false, false, false, true, false, false] rfl rfl (by kernel_rfl) (by decide) (fun K hK => ?_)
    refine goes_ Try.func26 (by kernel_rfl) rfl #[.agg #[.slice A1_0 l1_0.length c1_0, .int .i64 a1_1]] (by rfl) rfl rfl (by simp only [List.map_toArray, List.map_cons, List.map_nil]; rfl) ?_
    with_reducible refine (laws_toCode.calls k A1_0 c1_0 l1_0 a1_1 m1 a1_1 _ (Kd.zar HC1.out (HD2.out).bel) HN.out.2 X.out.2.2.2.1).mono ?_
    rintro e wd3 ⟨v_, rfl, hr_, hb_⟩
    refine ⟨_, rfl, ?_⟩
    have HD3 := Aside0.mk ((HD2.out).row_new hr_ hb_)
    obtain ⟨AbQ, cbQ, rfl⟩ := Kd.zas hr_
    clear hr_ hb_
    refine hK.out _ _ ⟨(HD3.out).zab (i := 12) rfl 0 rfl, (HD3.out).zab (i := 12) rfl 1 rfl, (HD3.out).zab (i := 11) rfl 0 rfl, (HD3.out).zab (i := 11) rfl 1 rfl⟩ (fun hHeld => ?_)
    clear hK K
    refine norm_ (a' := ?_) ?_ ?_
    rotate_left
    ·show Act.put _ (some 98) _ = _
     simp only [Act.put, List.setIfInBounds_toArray, List.set_cons_zero, List.set_cons_succ, i64_w, i32_w]
     rfl
    refine one_ (i := 4) (N := some 99) #[true, true, true, true, true, false, false, false, true, false, false] rfl rfl (by kernel_rfl) (by decide) (fun K hK => ?_)
    refine goes_ Try.func48 (by kernel_rfl) rfl #[.agg #[.slice AbP m0.length cbP, .int .i64 a0_1], .agg #[.slice AbQ m1.length cbQ, .int .i64 a1_1]] (by rfl) rfl rfl (by simp only [List.map_toArray, List.map_cons, List.map_nil]; rfl) ?_
    with_reducible refine (impl_ThenCode.calls k AbP cbP m0 a0_1 AbQ cbQ m1 a1_1 r o b _ ((HD3.out).row_C (i := 2) rfl).1 ((HD3.out).row_C (i := 2) rfl).2.2 ((HD3.out).row_C (i := 0) rfl).1 ((HD3.out).row_C (i := 0) rfl).2.2 X.out.2.2.2.2.2.1).mono ?_
    rintro e wd4 ⟨v_, rfl, hr_, hb_⟩
    refine ⟨_, rfl, ?_⟩
    have HD4 := Aside0.mk ((HD3.out).row_new hr_ hb_)
    obtain ⟨AbR, cbR, rfl⟩ := Kd.zas hr_
    clear hr_ hb_
    refine hK.out _ _ ⟨(HD4.out).zab (i := 13) rfl 0 rfl, (HD4.out).zab (i := 13) rfl 1 rfl, (HD4.out).zab (i := 12) rfl 0 rfl, (HD4.out).zab (i := 12) rfl 1 rfl⟩ (fun hHeld => ?_)
    clear hK K
    refine norm_ (a' := ?_) ?_ ?_
    rotate_left
    ·show Act.put _ (some 99) _ = _
     simp only [Act.put, List.setIfInBounds_toArray, List.set_cons_zero, List.set_cons_succ, i64_w, i32_w]
     rfl
    refine pure_ (i := 5) (N := some 94) (v := ?_) (a' := ?_) #[true, true, true, true, true, true, false, false, true, false, false] rfl rfl (by kernel_rfl) (fun _ _ _ h => h) (Or.inl ⟨by rfl, ?_⟩) ?_ ?_
    rotate_left
    ·intro w'
     go_simp
     with_reducible rfl
    rotate_left
    ·simp only [Act.put, List.setIfInBounds_toArray, List.set_cons_zero, List.set_cons_succ, i64_w, i32_w]
     rfl
    refine pure_ (i := 6) (N := some 100) (v := ?_) (a' := ?_) #[true, true, true, true, true, true, true, false, true, false, false] rfl rfl (by kernel_rfl) (fun _ _ _ h => h) (Or.inl ⟨by rfl, ?_⟩) ?_ ?_
    rotate_left
    ·intro w'
     go_simp
     with_reducible rfl
    rotate_left
    ·simp only [Act.put, List.setIfInBounds_toArray, List.set_cons_zero, List.set_cons_succ, i64_w, i32_w]
     rfl
    refine pure_ (i := 7) (N := some 101) (v := ?_) (a' := ?_) #[true, true, true, true, true, true, true, true, true, false, false] rfl rfl (by kernel_rfl) (fun _ _ _ h => h) (Or.inl ⟨by rfl, ?_⟩) ?_ ?_
    rotate_left
    ·intro w'
     go_simp
     with_reducible rfl
    rotate_left
    ·simp only [Act.put, List.setIfInBounds_toArray, List.set_cons_zero, List.set_cons_succ, i64_w, i32_w]
     rfl
    exact norm_ (by simp only [putAll, Act.put, List.setIfInBounds_toArray, List.set_cons_zero, List.set_cons_succ]) (hCont (AbR, cbR, g15, .agg #[.slice AbP m0.length cbP, .int .i64 a0_1], .agg #[.slice AbQ m1.length cbQ, .int .i64 a1_1]) _ (Fr_pick HD4.out [2, 0, 4, 5, 6, 7, 8, 9, 10, 11, 12, 13] (by decide) (by simp)))
  ·skip
   refine box_step ?hg (N := 15) ?hd (cs := #[.slice none 0 0, .int .i64 0]) (t := 39) ?hr ?_; (case hd => rfl); (case hg => rfl); (case hr => first | (go_simp; done) | (go_simp; rfl))
   intro g15 hg_ wd1 hbox_ hb_; have HD1 := Aside0.mk (((H26.out).drew).box_new hbox_ hb_ hg_); clear hbox_ hb_ hg_
   refine hK.out _ _ ⟨(HD1.out).zab (i := 10) rfl 0 rfl, (HD1.out).zab (i := 10) rfl 1 rfl, (HD1.out).zab (i := 9) rfl 0 rfl, (HD1.out).zab (i := 9) rfl 1 rfl⟩ (fun hHeld => ?_)
   clear hK K
   refine norm_ (a' := ?_) ?_ ?_
   rotate_left
   ·show Act.put _ (some 15) _ = _
    simp only [Act.put, List.setIfInBounds_toArray, List.set_cons_zero, List.set_cons_succ, i64_w, i32_w]
    rfl
   refine one_ (i := 1) (N := some 96) #[true, true, true, false, false, false, false, false, true, false, false] rfl rfl (by kernel_rfl) (by decide) (fun K hK => ?_)
   refine goes_ Try.func26 (by kernel_rfl) rfl #[.agg #[.slice A0_0 l0_0.length c0_0, .int .i64 a0_1]] (by rfl) rfl rfl (by simp only [List.map_toArray, List.map_cons, List.map_nil]; rfl) ?_
   with_reducible refine (laws_toCode.calls k A0_0 c0_0 l0_0 a0_1 m0 a0_1 _ (Kd.zar HC0.out (HD1.out).bel) HN.out.1 X.out.2.2.1).mono ?_
   rintro e wd2 ⟨v_, rfl, hr_, hb_⟩
   refine ⟨_, rfl, ?_⟩
   have HD2 := Aside0.mk ((HD1.out).row_new hr_ hb_)
   obtain ⟨AbP, cbP, rfl⟩ := Kd.zas hr_
   clear hr_ hb_
   refine hK.out _ _ ⟨(HD2.out).zab (i := 11) rfl 0 rfl, (HD2.out).zab (i := 11) rfl 1 rfl, (HD2.out).zab (i := 10) rfl 0 rfl, (HD2.out).zab (i := 10) rfl 1 rfl⟩ (fun hHeld => ?_)
   clear hK K
   refine norm_ (a' := ?_) ?_ ?_
   rotate_left
   ·show Act.put _ (some 96) _ = _
    simp only [Act.put, List.setIfInBounds_toArray, List.set_cons_zero, List.set_cons_succ, i64_w, i32_w]
    rfl
   refine one_ (i := 3) (N := some 98) #[true, true, true, true, false, false, false, false, true, false, false] rfl rfl (by kernel_rfl) (by decide) (fun K hK => ?_)
   refine goes_ Try.func26 (by kernel_rfl) rfl #[.agg #[.slice A1_0 l1_0.length c1_0, .int .i64 a1_1]] (by rfl) rfl rfl (by simp only [List.map_toArray, List.map_cons, List.map_nil]; rfl) ?_
   with_reducible refine (laws_toCode.calls k A1_0 c1_0 l1_0 a1_1 m1 a1_1 _ (Kd.zar HC1.out (HD2.out).bel) HN.out.2 X.out.2.2.2.1).mono ?_
   rintro e wd3 ⟨v_, rfl, hr_, hb_⟩
   refine ⟨_, rfl, ?_⟩
   have HD3 := Aside0.mk ((HD2.out).row_new hr_ hb_)
   obtain ⟨AbQ, cbQ, rfl⟩ := Kd.zas hr_
   clear hr_ hb_
   refine hK.out _ _ ⟨(HD3.out).zab (i := 12) rfl 0 rfl, (HD3.out).zab (i := 12) rfl 1 rfl, (HD3.out).zab (i := 11) rfl 0 rfl, (HD3.out).zab (i := 11) rfl 1 rfl⟩ (fun hHeld => ?_)
   clear hK K
   refine norm_ (a' := ?_) ?_ ?_
   rotate_left
   ·show Act.put _ (some 98) _ = _
    simp only [Act.put, List.setIfInBounds_toArray, List.set_cons_zero, List.set_cons_succ, i64_w, i32_w]
    rfl
   refine one_ (i := 4) (N := some 99) #[true, true, true, true, true, false, false, false, true, false, false] rfl rfl (by kernel_rfl) (by decide) (fun K hK => ?_)
   refine goes_ Try.func48 (by kernel_rfl) rfl #[.agg #[.slice AbP m0.length cbP, .int .i64 a0_1], .agg #[.slice AbQ m1.length cbQ, .int .i64 a1_1]] (by rfl) rfl rfl (by simp only [List.map_toArray, List.map_cons, List.map_nil]; rfl) ?_
   with_reducible refine (impl_ThenCode.calls k AbP cbP m0 a0_1 AbQ cbQ m1 a1_1 r o b _ ((HD3.out).row_C (i := 1) rfl).1 ((HD3.out).row_C (i := 1) rfl).2.2 ((HD3.out).row_C (i := 0) rfl).1 ((HD3.out).row_C (i := 0) rfl).2.2 X.out.2.2.2.2.2.1).mono ?_
   rintro e wd4 ⟨v_, rfl, hr_, hb_⟩
   refine ⟨_, rfl, ?_⟩
   have HD4 := Aside0.mk ((HD3.out).row_new hr_ hb_)
   obtain ⟨AbR, cbR, rfl⟩ := Kd.zas hr_
   clear hr_ hb_
   refine hK.out _ _ ⟨(HD4.out).zab (i := 13) rfl 0 rfl, (HD4.out).zab (i := 13) rfl 1 rfl, (HD4.out).zab (i := 12) rfl 0 rfl, (HD4.out).zab (i := 12) rfl 1 rfl⟩ (fun hHeld => ?_)
   clear hK K
   refine norm_ (a' := ?_) ?_ ?_
   rotate_left
   ·show Act.put _ (some 99) _ = _
    simp only [Act.put, List.setIfInBounds_toArray, List.set_cons_zero, List.set_cons_succ, i64_w, i32_w]
    rfl
   refine pure_ (i := 5) (N := some 94) (v := ?_) (a' := ?_) #[true, true, true, true, true, true, false, false, true, false, false] rfl rfl (by kernel_rfl) (fun _ _ _ h => h) (Or.inl ⟨by rfl, ?_⟩) ?_ ?_
   rotate_left
   ·intro w'
    go_simp
    with_reducible rfl
   rotate_left
   ·simp only [Act.put, List.setIfInBounds_toArray, List.set_cons_zero, List.set_cons_succ, i64_w, i32_w]
    rfl
   refine pure_ (i := 6) (N := some 100) (v := ?_) (a' := ?_) #[true, true, true, true, true, true, true, false, true, false, false] rfl rfl (by kernel_rfl) (fun _ _ _ h => h) (Or.inl ⟨by rfl, ?_⟩) ?_ ?_
   rotate_left
   ·intro w'
    go_simp
    with_reducible rfl
   rotate_left
   ·simp only [Act.put, List.setIfInBounds_toArray, List.set_cons_zero, List.set_cons_succ, i64_w, i32_w]
    rfl
   refine pure_ (i := 7) (N := some 101) (v := ?_) (a' := ?_) #[true, true, true, true, true, true, true, true, true, false, false] rfl rfl (by kernel_rfl) (fun _ _ _ h => h) (Or.inl ⟨by rfl, ?_⟩) ?_ ?_
   rotate_left
   ·intro w'
    go_simp
    with_reducible rfl
   rotate_left
   ·simp only [Act.put, List.setIfInBounds_toArray, List.set_cons_zero, List.set_cons_succ, i64_w, i32_w]
    rfl
   exact norm_ (by simp only [putAll, Act.put, List.setIfInBounds_toArray, List.set_cons_zero, List.set_cons_succ]) (hCont (AbR, cbR, g15, .agg #[.slice AbP m0.length cbP, .int .i64 a0_1], .agg #[.slice AbQ m1.length cbQ, .int .i64 a1_1]) _ (Fr_pick HD4.out [3, 0, 4, 5, 6, 7, 8, 9, 10, 11, 12, 13] (by decide) (by simp)))
 rintro ⟨AbR, cbR, g15, VbP, VbQ⟩ wo h_
 have HO := Aside0.mk (show Fr w w (fun _ => False) [box g15 39 #[.slice none 0 0, .int .i64 0], row k69 69 (.slice AbR r.length cbR) r, box g10 39 #[.slice A10 r.length c10, .int .i64 o], row k69 69 (.slice A10 r.length c10) n2, box g9 39 #[.slice A9 m1.length c9, .int .i64 a1_1], row k69 69 (.slice A9 m1.length c9) n1, box g8 39 #[.slice A8 m0.length c8, .int .i64 a0_1], row k69 69 (.slice A8 m0.length c8) n0, box g6 39 #[.slice AaR r.length caR, .int .i64 o], row k69 69 (.slice AaR r.length caR) r, box gD 34 #[.slice A1_0 l1_0.length c1_0, .int .i64 a1_1], box gC 34 #[.slice A0_0 l0_0.length c0_0, .int .i64 a0_1]] wo from h_)
 clear h_
 have xg15_0 : wo.cell? ⟨g15, 0, none⟩ = some (.slice none 0 0) := HO.out.zab (i := 0) rfl 0 rfl
 have fg15_0 := za7 (HO.out.zaq (i := 0) rfl) 0
 have xg15_1 : wo.cell? ⟨g15, 1, none⟩ = some (.int .i64 0) := HO.out.zab (i := 0) rfl 1 rfl
 have fg15_1 := za7 (HO.out.zaq (i := 0) rfl) 1
 refine norm_ (a' := ?_) ?_ ?_
 rotate_left
 ·simp only [putAll, Act.put, List.setIfInBounds_toArray, List.set_cons_zero, List.set_cons_succ]
  rfl
 refine last_ (i := 9) (N := none) #[true, true, true, true, true, true, true, true, true, true, false] rfl rfl (by kernel_rfl) (by decide) (fun K hK => ?_)
 refine skip_ (w1 := ?_) (by rfl) rfl ?_ ?_
 rotate_left
 ·go_simp
  rfl
 refine hK.out _ _ ?_
 clear hK K
 refine pure_ (i := 10) (N := some 16) (v := ?_) (a' := ?_) #[true, true, true, true, true, true, true, true, true, true, true] rfl rfl (by kernel_rfl) (fun _ _ _ h => h) (Or.inl ⟨by rfl, ?_⟩) ?_ ?_
 rotate_left
 ·intro w'
  go_simp
  with_reducible rfl
 rotate_left
 ·simp only [Act.put, List.setIfInBounds_toArray, List.set_cons_zero, List.set_cons_succ, i64_w, i32_w]
  rfl
 refine done_ (by kernel_rfl) ?_
 have h_ := (HO.out.box_set (i := 0) rfl 0 (.slice AbR r.length cbR) rfl).box_set (i := 0) rfl 1 (.int .i64 o) rfl
 simp only [List.set_cons_zero, List.set_cons_succ] at h_
 generalize (wo.setCell ⟨g15, 0, none⟩ (.slice AbR r.length cbR)).setCell ⟨g15, 1, none⟩ (.int .i64 o) = w27 at h_ ⊢
 have H27 := Aside0.mk (show Fr w w (fun _ => False) [box g15 39 #[.slice AbR r.length cbR, .int .i64 o], row k69 69 (.slice AbR r.length cbR) r, box g10 39 #[.slice A10 r.length c10, .int .i64 o], row k69 69 (.slice A10 r.length c10) n2, box g9 39 #[.slice A9 m1.length c9, .int .i64 a1_1], row k69 69 (.slice A9 m1.length c9) n1, box g8 39 #[.slice A8 m0.length c8, .int .i64 a0_1], row k69 69 (.slice A8 m0.length c8) n0, box g6 39 #[.slice AaR r.length caR, .int .i64 o], row k69 69 (.slice AaR r.length caR) r, box gD 34 #[.slice A1_0 l1_0.length c1_0, .int .i64 a1_1], box gC 34 #[.slice A0_0 l0_0.length c0_0, .int .i64 a0_1]] w27 from h_)
 clear h_ HO hHeld xg15_0 fg15_0 xg15_1 fg15_1
 have xg15_0 : w27.cell? ⟨g15, 0, none⟩ = some (.slice AbR r.length cbR) := (H27.out).zab (i := 0) rfl 0 rfl
 have fg15_0 := za7 ((H27.out).zaq (i := 0) rfl) 0
 have xg15_1 : w27.cell? ⟨g15, 1, none⟩ = some (.int .i64 o) := (H27.out).zab (i := 0) rfl 1 rfl
 have fg15_1 := za7 ((H27.out).zaq (i := 0) rfl) 1
 have xg6_0 : w27.cell? ⟨g6, 0, none⟩ = some (.slice AaR r.length caR) := (H27.out).zab (i := 8) rfl 0 rfl
 have fg6_0 := za7 ((H27.out).zaq (i := 8) rfl) 0
 have xg6_1 : w27.cell? ⟨g6, 1, none⟩ = some (.int .i64 o) := (H27.out).zab (i := 8) rfl 1 rfl
 have fg6_1 := za7 ((H27.out).zaq (i := 8) rfl) 1
 go_wp2_with fail
 have T_ := Aside0.mk trivial
 go_wp2_with (go_at_call 28; clear T_; refine (laws_eqCode.calls k AbR cbR r o AaR caR r o true _ ((H27.out).row_C (i := 1) rfl).1 ((H27.out).row_C (i := 1) rfl).2.2 ((H27.out).row_C (i := 9) rfl).1 ((H27.out).row_C (i := 9) rfl).2.2 X.out.2.2.2.2.2.2.1).mono ?_; rintro e w28 ⟨rfl, hb_⟩; have H28 := Aside0.mk ((H27.out).below hb_); clear hb_; clear xg15_0 fg15_0 xg15_1 fg15_1 xg6_0 fg6_0 xg6_1 fg6_1; have xg10_0 : w28.cell? ⟨g10, 0, none⟩ = some (.slice A10 r.length c10) := (H28.out).zab (i := 2) rfl 0 rfl; have fg10_0 := za7 ((H28.out).zaq (i := 2) rfl) 0; have xg10_1 : w28.cell? ⟨g10, 1, none⟩ = some (.int .i64 o) := (H28.out).zab (i := 2) rfl 1 rfl; have fg10_1 := za7 ((H28.out).zaq (i := 2) rfl) 1)
 have HH := Aside0.mk (laws_heldCode.calls k A10 c10 n2 o 1 mm _ ((H28.out).row_C (i := 3) rfl).1 ((H28.out).row_C (i := 3) rfl).2.2 X.out.2.2.2.2.2.2.2.2.2.2.2.2)
 rw [← ((H28.out).row_C (i := 3) rfl).2.1] at HH
 have T_ := Aside0.mk trivial
 go_wp2_with (go_at_call 44; clear T_; refine (HH.out).mono ?_; rintro e w29 ⟨rfl, hb_⟩; have H29 := Aside0.mk ((H28.out).below hb_); clear hb_ HH; clear xg10_0 fg10_0 xg10_1 fg10_1)
 go_ret
 exact ⟨rfl, H29.out.bel⟩
/-- THE ONE PURE STATEMENT of the law: each of the calls on the path that it takes. -/
def laws_FnExactThenCode.Pure : Prop := ∀ (l0_0 : List S93) (a0_1 : Int) (l1_0 : List S93) (a1_1 : Int), l0_0.length ≤ maxLen → l1_0.length ≤ maxLen →
 laws_szCode.f l0_0 a0_1 1048576 = some (-1) ∨ ∃ s1 : Int, 0 ≤ s1 ∧ laws_szCode.f l0_0 a0_1 1048576 = some s1 ∧ (laws_szCode.f l1_0 a1_1 s1 = some (-1) ∨
  ∃ (s2 k1 k2 mm : Int) (m0 m1 n0 n1 n2 r : List S69) (o : Int) (b : Bool) (k : Nat), 0 ≤ s2 ∧ laws_szCode.f l1_0 a1_1 s1 = some s2 ∧ laws_toCode.f k l0_0 a0_1 = some (m0, a0_1) ∧ laws_toCode.f k l1_0 a1_1 = some (m1, a1_1) ∧ spec_ThenCode.f k m0 a0_1 m1 a1_1 = some (r, o, b) ∧ impl_ThenCode.f k m0 a0_1 m1 a1_1 = some (r, o, b) ∧
   laws_eqCode.f k r o r o = some true ∧ laws_eqCode.f k m0 a0_1 m0 a0_1 = some true ∧ laws_eqCode.f k m1 a1_1 m1 a1_1 = some true ∧ laws_markCode.f k m0 a0_1 1 = some (k1, n0) ∧ laws_markCode.f k m1 a1_1 k1 = some (k2, n1) ∧ 0 ≤ k2 ∧ laws_markCode.f k r o 1 = some (mm, n2) ∧ 0 ≤ mm ∧ laws_heldCode.f k n2 o 1 = some mm)
theorem laws_FnExactThenCode.walk (P : laws_FnExactThenCode.Pure) (A0_0 : Option Addr) (c0_0 : Nat) (l0_0 : List S93) (a0_1 : Int) (A1_0 : Option Addr) (c1_0 : Nat) (l1_0 : List S93) (a1_1 : Int) (w : World) (hr0_0 : Kd.C k93 w A0_0 l0_0.length l0_0) (hc0_0 : l0_0.length ≤ c0_0) (hr1_0 : Kd.C k93 w A1_0 l1_0.length l1_0) (hc1_0 : l1_0.length ≤ c1_0) (q0 : l0_0.length ≤ maxLen) (q1 : ∀ y ∈ l0_0, (Lit.int .i64 y.f0).wf = true ∧ (Lit.int .i64 y.f1).wf = true ∧ (Lit.int .i64 y.f2).wf = true) (q2 : (Lit.int .i64 a0_1).wf = true) (q3 : l1_0.length ≤ maxLen) (q4 : ∀ y ∈ l1_0, (Lit.int .i64 y.f0).wf = true ∧ (Lit.int .i64 y.f1).wf = true ∧ (Lit.int .i64 y.f2).wf = true) (q5 : (Lit.int .i64 a1_1).wf = true) :
  Calls Try.prog 14 #[.agg #[.slice A0_0 l0_0.length c0_0, .int .i64 a0_1], .agg #[.slice A1_0 l1_0.length c1_0, .int .i64 a1_1]] w fun e w' => e = .returned (.bool true) ∧ Below w.heap.size w w' := by
 rcases P l0_0 a0_1 l1_0 a1_1 q0 q3 with hs | ⟨s1, h0, hs, hs2 | ⟨s2, k1, k2, mm, m0, m1, n0, n1, n2, r, o, b, k, h1, hs2, ht0, ht1, hsp, him, heq, heq0, heq1, hmk0, hmk1, hk2, hmk, hmm, hh⟩⟩
 ·exact lawThen_large0 A0_0 c0_0 l0_0 a0_1 A1_0 c1_0 l1_0 a1_1 w hr0_0 hc0_0 hr1_0 hc1_0 hs
 ·exact lawThen_large1 A0_0 c0_0 l0_0 a0_1 A1_0 c1_0 l1_0 a1_1 w hr0_0 hc0_0 hr1_0 hc1_0 s1 h0 hs hs2
 ·exact lawThen_small A0_0 c0_0 l0_0 a0_1 A1_0 c1_0 l1_0 a1_1 w hr0_0 hc0_0 hr1_0 hc1_0 s1 s2 k1 k2 mm m0 m1 n0 n1 n2 r o b k h0 hs h1 hs2 ht0 ht1 hsp him heq heq0 heq1 hmk0 hmk1 hk2 hmk hmm hh

end Go.Proofs.Ytgglemlhombgkaa.T
