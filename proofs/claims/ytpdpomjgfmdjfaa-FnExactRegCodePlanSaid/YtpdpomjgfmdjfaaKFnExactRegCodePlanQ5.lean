-- Written by a program of this session (wip/tools/stubprint.py): contracts by hand where the kit's print has none.
import Derived.Test.YtpdpomjgfmdjfaaKFnExactRegCodePlanQ0
import Derived.Test.YtpdpomjgfmdjfaaKFnExactRegCodePlanQ2
import Derived.Test.YtpdpomjgfmdjfaaKFnExactRegCodePlanQ4
namespace Go.Proofs.Ytpdpomjgfmdjfaa.Z
open Go.RowKit Go.Proofs.YtpdpomjgfmdjfaaW.PrintWords Go.Proofs.YtpdpomjgfmdjfaaW.PrintLast Go.Proofs.YtpdpomjgfmdjfaaW.PrintMore
attribute [local go_sem] max2_int min2_int max_two min_two max_three min_three max_four min_four   -- for this text's walks alone
set_option linter.unusedVariables false
set_option linter.unusedSimpArgs false

/-! ### laws_eqRegCode: function 20 -/
def laws_eqRegCode.f (k : Nat) (a0_0 : Int) (l0_1 : List Int) (l0_2 : List (S80)) (l0_3 : List Int) (a1_0 : Int) (l1_1 : List Int) (l1_2 : List (S80)) (l1_3 : List Int) : Option (Bool) := if a0_0 = a1_0 then ((laws_eqIntS.f k l0_1 l1_1).bind fun t308 => (if t308 = true then ((laws_eqRegOpS.f k l0_2 l1_2).bind fun t309 => (if t309 = true then ((laws_eqIntS.f k l0_3 l1_3).bind fun t310 => (if t310 = true then (some true) else (some false))) else (some false))) else (some false))) else (some false)
theorem laws_eqRegCode.mono : ∀ a0 a1 a2 a3 a4 a5 a6 a7 k, LeO (laws_eqRegCode.f k a0 a1 a2 a3 a4 a5 a6 a7) (laws_eqRegCode.f (k + 1) a0 a1 a2 a3 a4 a5 a6 a7) := by
 intro a0 a1 a2 a3 a4 a5 a6 a7 k
 unfold laws_eqRegCode.f
 repeat' first
   | (with_reducible exact laws_eqIntS.mono _ _ _)
   | (with_reducible exact laws_eqRegOpS.mono _ _ _)
   | (with_reducible exact LeO.refl _)
   | (with_reducible exact LeO.none _)
   | (with_reducible refine LeO.ite ?_ ?_)
   | (with_reducible refine LeO.bind ?_ (fun _ => ?_))
   | exact laws_eqIntS.mono _ _ _
   | exact laws_eqRegOpS.mono _ _ _
   | exact LeO.none _
   | refine LeO.ite ?_ ?_
   | refine LeO.bind ?_ (fun _ => ?_)
set_option maxHeartbeats 8000000 in
set_option maxRecDepth 100000 in
theorem laws_eqRegCode.calls (k : Nat) (a0_0 : Int) (A0_1 : Option Addr) (c0_1 : Nat) (l0_1 : List Int) (A0_2 : Option Addr) (c0_2 : Nat) (l0_2 : List (S80)) (A0_3 : Option Addr) (c0_3 : Nat) (l0_3 : List Int) (a1_0 : Int) (A1_1 : Option Addr) (c1_1 : Nat) (l1_1 : List Int) (A1_2 : Option Addr) (c1_2 : Nat) (l1_2 : List (S80)) (A1_3 : Option Addr) (c1_3 : Nat) (l1_3 : List Int) (r : Bool) (w : World) (hr0_1 : Kd.C (Kd.int .i64) w A0_1 l0_1.length l0_1) (hc0_1 : l0_1.length ≤ c0_1) (hr0_2 : Kd.C k80 w A0_2 l0_2.length l0_2) (hc0_2 : l0_2.length ≤ c0_2) (hr0_3 : Kd.C (Kd.int .i64) w A0_3 l0_3.length l0_3) (hc0_3 : l0_3.length ≤ c0_3) (hr1_1 : Kd.C (Kd.int .i64) w A1_1 l1_1.length l1_1) (hc1_1 : l1_1.length ≤ c1_1) (hr1_2 : Kd.C k80 w A1_2 l1_2.length l1_2) (hc1_2 : l1_2.length ≤ c1_2) (hr1_3 : Kd.C (Kd.int .i64) w A1_3 l1_3.length l1_3) (hc1_3 : l1_3.length ≤ c1_3) (h : laws_eqRegCode.f k a0_0 l0_1 l0_2 l0_3 a1_0 l1_1 l1_2 l1_3 = some r) :
  Calls Try.prog 20 #[.agg #[.int .i64 a0_0, .slice A0_1 l0_1.length c0_1, .slice A0_2 l0_2.length c0_2, .slice A0_3 l0_3.length c0_3], .agg #[.int .i64 a1_0, .slice A1_1 l1_1.length c1_1, .slice A1_2 l1_2.length c1_2, .slice A1_3 l1_3.length c1_3]] w fun e w' => e = .returned (.bool r) ∧ Below w.heap.size w w' := by
 have hu30 := Try.underlying30
 have HR0_1 := Aside0.mk hr0_1
 have HC0_1 := Aside0.mk hc0_1
 clear hr0_1 hc0_1
 have HR0_2 := Aside0.mk hr0_2
 have HC0_2 := Aside0.mk hc0_2
 clear hr0_2 hc0_2
 have HR0_3 := Aside0.mk hr0_3
 have HC0_3 := Aside0.mk hc0_3
 clear hr0_3 hc0_3
 have HR1_1 := Aside0.mk hr1_1
 have HC1_1 := Aside0.mk hc1_1
 clear hr1_1 hc1_1
 have HR1_2 := Aside0.mk hr1_2
 have HC1_2 := Aside0.mk hc1_2
 clear hr1_2 hc1_2
 have HR1_3 := Aside0.mk hr1_3
 have HC1_3 := Aside0.mk hc1_3
 clear hr1_3 hc1_3
 have HB := Aside0.mk (Below.refl w.heap.size w)
 have H : (if a0_0 = a1_0 then ((laws_eqIntS.f k l0_1 l1_1).bind fun t308 => (if t308 = true then ((laws_eqRegOpS.f k l0_2 l1_2).bind fun t309 => (if t309 = true then ((laws_eqIntS.f k l0_3 l1_3).bind fun t310 => (if t310 = true then (some true) else (some false))) else (some false))) else (some false))) else (some false)) = some r := h
 clear h
 by_cases c3 : a0_0 = a1_0
 ·rw [if_pos c3] at H
  have c3b0 : (a0_0 == a1_0) = true := beq_iff_eq.mpr c3
  have c3b1 : (a0_0 != a1_0) = false := bne_eq_false_iff_eq.mpr c3
  clear c3
  replace H := Option.bind_eq_some_iff.mp H
  obtain ⟨t308, A40, H⟩ := H
  replace H : (if t308 = true then ((laws_eqRegOpS.f k l0_2 l1_2).bind fun t309 => (if t309 = true then ((laws_eqIntS.f k l0_3 l1_3).bind fun t310 => (if t310 = true then (some true) else (some false))) else (some false))) else (some false)) = some r := H
  have A4 := Aside0.mk A40
  clear A40
  by_cases c5 : t308 = true
  ·subst c5
   have H1 : ((laws_eqRegOpS.f k l0_2 l1_2).bind fun t309 => (if t309 = true then ((laws_eqIntS.f k l0_3 l1_3).bind fun t310 => (if t310 = true then (some true) else (some false))) else (some false))) = some r := by rw [if_pos rfl] at H; exact H
   clear H
   have H := H1
   clear H1
   replace H := Option.bind_eq_some_iff.mp H
   obtain ⟨t309, A60, H⟩ := H
   replace H : (if t309 = true then ((laws_eqIntS.f k l0_3 l1_3).bind fun t310 => (if t310 = true then (some true) else (some false))) else (some false)) = some r := H
   have A6 := Aside0.mk A60
   clear A60
   by_cases c7 : t309 = true
   ·subst c7
    have H1 : ((laws_eqIntS.f k l0_3 l1_3).bind fun t310 => (if t310 = true then (some true) else (some false))) = some r := by rw [if_pos rfl] at H; exact H
    clear H
    have H := H1
    clear H1
    replace H := Option.bind_eq_some_iff.mp H
    obtain ⟨t310, A80, H⟩ := H
    replace H : (if t310 = true then (some true) else (some false)) = some r := H
    have A8 := Aside0.mk A80
    clear A80
    by_cases c9 : t310 = true
    ·subst c9
     have H1 : (some true) = some r := by rw [if_pos rfl] at H; exact H
     clear H
     have H := H1
     clear H1
     obtain rfl := Option.some.inj H
     go_enter Try.func20, Try.ntmps20
     go_wp2_with (first | ((with_reducible refine zak (N := 2) rfl ?_); refine zaj ?hg (N := 2) ?hd (cs := #[.int .i64 a0_0, .slice A0_1 l0_1.length c0_1, .slice A0_2 l0_2.length c0_2, .slice A0_3 l0_3.length c0_3]) (t := 30) ?hr ?_; (case hd => rfl); (case hg => rfl); (case hr => first | (go_simp; done) | (go_simp; rfl)); intro gb306 hg w10 hbox hb; have n0_ := Aside0.mk (zad (by repeat (first | (with_reducible first | exact HB.out | apply za3 | apply za0 | apply za2) | exact HB.out)) hb); have n1_ := Aside0.mk (hbox); have n2_ := Aside0.mk ((by rw [hg]; exact (za9 (by repeat (first | (with_reducible first | exact HB.out | apply za3 | apply za0 | apply za2) | exact HB.out))) : w.heap.size ≤ gb306)); have n3_ := Aside0.mk ((by rw [hg]; exact (za9 (by repeat (first | (with_reducible first | exact HB.out | apply za3 | apply za0 | apply za2) | exact HB.out))) : w.heap.size ≤ gb306)); clear HB; have HB := n0_; have BK306 := n1_; have GW306 := n2_; have GE306 := n3_; clear n0_ n1_ n2_ n3_; clear hb hbox hg) | ((with_reducible refine zak (N := 3) rfl ?_); refine zaj ?hg (N := 3) ?hd (cs := #[.int .i64 a1_0, .slice A1_1 l1_1.length c1_1, .slice A1_2 l1_2.length c1_2, .slice A1_3 l1_3.length c1_3]) (t := 30) ?hr ?_; (case hd => rfl); (case hg => rfl); (case hr => first | (go_simp; done) | (go_simp; rfl)); intro gb307 hg w11 hbox hb; have n0_ := Aside0.mk (zaa (g := gb306) (o := .cells #[.int .i64 a0_0, .slice A0_1 l0_1.length c0_1, .slice A0_2 l0_2.length c0_2, .slice A0_3 l0_3.length c0_3] 30 (0, 0)) (by (with_reducible repeat (first | refine za7 ?_ _ | refine za8 ?_ | refine za6 ?_ _)); exact BK306.out) hb); have n1_ := Aside0.mk (zad (by repeat (first | (with_reducible first | exact HB.out | apply za3 | apply za0 | apply za2 | refine za4 ?_ GE306.out) | exact HB.out)) hb); have n2_ := Aside0.mk (hbox); have n3_ := Aside0.mk ((by rw [hg]; exact (za9 (by repeat (first | (with_reducible first | exact HB.out | apply za3 | apply za0 | apply za2 | refine za4 ?_ GE306.out) | exact HB.out))) : w.heap.size ≤ gb307)); have n4_ := Aside0.mk ((by rw [hg]; exact (za9 (by repeat (first | (with_reducible first | exact HB.out | apply za3 | apply za0 | apply za2 | refine za4 ?_ GE306.out) | exact HB.out))) : w.heap.size ≤ gb307)); have n5_ := Aside0.mk ((by rw [hg]; exact Nat.ne_of_lt (zau (g := gb306) (o := .cells #[.int .i64 a0_0, .slice A0_1 l0_1.length c0_1, .slice A0_2 l0_2.length c0_2, .slice A0_3 l0_3.length c0_3] 30 (0, 0)) (by (with_reducible repeat (first | refine za7 ?_ _ | refine za8 ?_ | refine za6 ?_ _)); exact BK306.out)) : gb306 ≠ gb307)); have n6_ := Aside0.mk ((by rw [hg]; exact Nat.ne_of_gt (zau (g := gb306) (o := .cells #[.int .i64 a0_0, .slice A0_1 l0_1.length c0_1, .slice A0_2 l0_2.length c0_2, .slice A0_3 l0_3.length c0_3] 30 (0, 0)) (by (with_reducible repeat (first | refine za7 ?_ _ | refine za8 ?_ | refine za6 ?_ _)); exact BK306.out)) : gb307 ≠ gb306)); clear BK306; clear HB; have BK306 := n0_; have HB := n1_; have BK307 := n2_; have GW307 := n3_; have GE307 := n4_; have NB306_307 := n5_; have NB307_306 := n6_; clear n0_ n1_ n2_ n3_ n4_ n5_ n6_; clear hb hbox hg; have hnb12 := NB306_307.out; have hnc12 := NB307_306.out; have hcz13_0 : w11.cell? ⟨gb306, 0, none⟩ = some (.int .i64 a0_0) := (za5 BK306.out 0).trans rfl; have hcz13_1 : w11.cell? ⟨gb306, 1, none⟩ = some (.slice A0_1 l0_1.length c0_1) := (za5 BK306.out 1).trans rfl; have hcz13_2 : w11.cell? ⟨gb306, 2, none⟩ = some (.slice A0_2 l0_2.length c0_2) := (za5 BK306.out 2).trans rfl; have hcz13_3 : w11.cell? ⟨gb306, 3, none⟩ = some (.slice A0_3 l0_3.length c0_3) := (za5 BK306.out 3).trans rfl; have hfz13_0 := za1 BK306.out 0; have hfz13_1 := za1 BK306.out 1; have hfz13_2 := za1 BK306.out 2; have hfz13_3 := za1 BK306.out 3; have hcz14_0 : w11.cell? ⟨gb307, 0, none⟩ = some (.int .i64 a1_0) := (za5 BK307.out 0).trans rfl; have hcz14_1 : w11.cell? ⟨gb307, 1, none⟩ = some (.slice A1_1 l1_1.length c1_1) := (za5 BK307.out 1).trans rfl; have hcz14_2 : w11.cell? ⟨gb307, 2, none⟩ = some (.slice A1_2 l1_2.length c1_2) := (za5 BK307.out 2).trans rfl; have hcz14_3 : w11.cell? ⟨gb307, 3, none⟩ = some (.slice A1_3 l1_3.length c1_3) := (za5 BK307.out 3).trans rfl; have hfz14_0 := za1 BK307.out 0; have hfz14_1 := za1 BK307.out 1; have hfz14_2 := za1 BK307.out 2; have hfz14_3 := za1 BK307.out 3) | ((with_reducible refine zai (f := 30) rfl ?_); refine zb1 (some 14) rfl rfl Try.func30 (by kernel_rfl) rfl #[.slice A0_1 l0_1.length c0_1, .slice A1_1 l1_1.length c1_1] rfl (by (try simp only [List.map_toArray, List.map_cons, List.map_nil]); first | done | rfl | (simp only [List.length_drop, List.length_take]; rfl)) ?_; (with_reducible refine (laws_eqIntS.calls k _ _ l0_1 _ _ l1_1 true _ ?side1 ?side2 ?side3 ?side4 A4.out).mono ?_); (case side1 => repeat (first | exact (Kd.zam HR0_1.out HB.out) | (with_reducible refine Kd.zat ?_ _) | (with_reducible refine Kd.zar ?_ _) | (with_reducible refine Kd.zaw ?_))); (case side2 => exact HC0_1.out); (case side3 => repeat (first | exact (Kd.zam HR1_1.out HB.out) | (with_reducible refine Kd.zat ?_ _) | (with_reducible refine Kd.zar ?_ _) | (with_reducible refine Kd.zaw ?_))); (case side4 => exact HC1_1.out); rintro e w' ⟨rfl, ⟨nd, rfl⟩⟩; refine ⟨_, rfl, ?_⟩) | ((with_reducible refine zai (f := 61) rfl ?_); refine zb1 (some 20) rfl rfl Try.func61 (by kernel_rfl) rfl #[.slice A0_2 l0_2.length c0_2, .slice A1_2 l1_2.length c1_2] rfl (by (try simp only [List.map_toArray, List.map_cons, List.map_nil]); first | done | rfl | (simp only [List.length_drop, List.length_take]; rfl)) ?_; (with_reducible refine (laws_eqRegOpS.calls k _ _ l0_2 _ _ l1_2 true _ ?side1 ?side2 ?side3 ?side4 A6.out).mono ?_); (case side1 => repeat (first | exact (Kd.zam HR0_2.out (by repeat (first | (with_reducible first | exact HB.out | apply za3 | apply za0 | apply za2 | refine za4 ?_ GE306.out | refine za4 ?_ GE307.out) | exact HB.out))) | (with_reducible refine Kd.zat ?_ _) | (with_reducible refine Kd.zar ?_ _) | (with_reducible refine Kd.zaw ?_))); (case side2 => exact HC0_2.out); (case side3 => repeat (first | exact (Kd.zam HR1_2.out (by repeat (first | (with_reducible first | exact HB.out | apply za3 | apply za0 | apply za2 | refine za4 ?_ GE306.out | refine za4 ?_ GE307.out) | exact HB.out))) | (with_reducible refine Kd.zat ?_ _) | (with_reducible refine Kd.zar ?_ _) | (with_reducible refine Kd.zaw ?_))); (case side4 => exact HC1_2.out); rintro e w15 ⟨rfl, hb⟩; refine ⟨_, rfl, ?_⟩; have n0_ := Aside0.mk (zaa (g := gb306) (o := .cells #[.int .i64 a0_0, .slice A0_1 l0_1.length c0_1, .slice A0_2 l0_2.length c0_2, .slice A0_3 l0_3.length c0_3] 30 (0, 0)) (by (with_reducible repeat (first | refine za7 ?_ _ | refine za8 ?_ | refine za6 ?_ _)); exact BK306.out) hb); have n1_ := Aside0.mk (zaa (g := gb307) (o := .cells #[.int .i64 a1_0, .slice A1_1 l1_1.length c1_1, .slice A1_2 l1_2.length c1_2, .slice A1_3 l1_3.length c1_3] 30 (0, 0)) (by (with_reducible repeat (first | refine za7 ?_ _ | refine za8 ?_ | refine za6 ?_ _)); exact BK307.out) hb); have n2_ := Aside0.mk (zad (by repeat (first | (with_reducible first | exact HB.out | apply za3 | apply za0 | apply za2 | refine za4 ?_ GE306.out | refine za4 ?_ GE307.out) | exact HB.out)) hb); clear BK306; clear BK307; clear HB; have BK306 := n0_; have BK307 := n1_; have HB := n2_; clear n0_ n1_ n2_; (try clear hb); (try clear hb2); (try clear hk); (try clear hi); have hcz16_0 : w15.cell? ⟨gb306, 0, none⟩ = some (.int .i64 a0_0) := (za5 BK306.out 0).trans rfl; have hcz16_1 : w15.cell? ⟨gb306, 1, none⟩ = some (.slice A0_1 l0_1.length c0_1) := (za5 BK306.out 1).trans rfl; have hcz16_2 : w15.cell? ⟨gb306, 2, none⟩ = some (.slice A0_2 l0_2.length c0_2) := (za5 BK306.out 2).trans rfl; have hcz16_3 : w15.cell? ⟨gb306, 3, none⟩ = some (.slice A0_3 l0_3.length c0_3) := (za5 BK306.out 3).trans rfl; have hfz16_0 := za1 BK306.out 0; have hfz16_1 := za1 BK306.out 1; have hfz16_2 := za1 BK306.out 2; have hfz16_3 := za1 BK306.out 3; have hcz17_0 : w15.cell? ⟨gb307, 0, none⟩ = some (.int .i64 a1_0) := (za5 BK307.out 0).trans rfl; have hcz17_1 : w15.cell? ⟨gb307, 1, none⟩ = some (.slice A1_1 l1_1.length c1_1) := (za5 BK307.out 1).trans rfl; have hcz17_2 : w15.cell? ⟨gb307, 2, none⟩ = some (.slice A1_2 l1_2.length c1_2) := (za5 BK307.out 2).trans rfl; have hcz17_3 : w15.cell? ⟨gb307, 3, none⟩ = some (.slice A1_3 l1_3.length c1_3) := (za5 BK307.out 3).trans rfl; have hfz17_0 := za1 BK307.out 0; have hfz17_1 := za1 BK307.out 1; have hfz17_2 := za1 BK307.out 2; have hfz17_3 := za1 BK307.out 3) | ((with_reducible refine zai (f := 30) rfl ?_); refine zb1 (some 26) rfl rfl Try.func30 (by kernel_rfl) rfl #[.slice A0_3 l0_3.length c0_3, .slice A1_3 l1_3.length c1_3] rfl (by (try simp only [List.map_toArray, List.map_cons, List.map_nil]); first | done | rfl | (simp only [List.length_drop, List.length_take]; rfl)) ?_; (with_reducible refine (laws_eqIntS.calls k _ _ l0_3 _ _ l1_3 true _ ?side1 ?side2 ?side3 ?side4 A8.out).mono ?_); (case side1 => repeat (first | exact (Kd.zam HR0_3.out HB.out) | (with_reducible refine Kd.zat ?_ _) | (with_reducible refine Kd.zar ?_ _) | (with_reducible refine Kd.zaw ?_))); (case side2 => exact HC0_3.out); (case side3 => repeat (first | exact (Kd.zam HR1_3.out HB.out) | (with_reducible refine Kd.zat ?_ _) | (with_reducible refine Kd.zar ?_ _) | (with_reducible refine Kd.zaw ?_))); (case side4 => exact HC1_3.out); rintro e w' ⟨rfl, ⟨nd, rfl⟩⟩; refine ⟨_, rfl, ?_⟩))
     go_ret
     exact ⟨by first | rfl | (simp [zae, zaf] <;> rfl) | (simp [*, zae, zaf] <;> rfl), by repeat (first | (with_reducible first | exact HB.out | apply za3 | apply za0 | apply za2 | refine za4 ?_ GE306.out | refine za4 ?_ GE307.out) | exact HB.out)⟩
    ·replace c9 := Bool.eq_false_iff.mpr c9
     subst c9
     have H1 : (some false) = some r := by rw [if_neg (show ¬ (false = true) by decide)] at H; exact H
     clear H
     have H := H1
     clear H1
     obtain rfl := Option.some.inj H
     go_enter Try.func20, Try.ntmps20
     go_wp2_with (first | ((with_reducible refine zak (N := 2) rfl ?_); refine zaj ?hg (N := 2) ?hd (cs := #[.int .i64 a0_0, .slice A0_1 l0_1.length c0_1, .slice A0_2 l0_2.length c0_2, .slice A0_3 l0_3.length c0_3]) (t := 30) ?hr ?_; (case hd => rfl); (case hg => rfl); (case hr => first | (go_simp; done) | (go_simp; rfl)); intro gb306 hg w18 hbox hb; have n0_ := Aside0.mk (zad (by repeat (first | (with_reducible first | exact HB.out | apply za3 | apply za0 | apply za2) | exact HB.out)) hb); have n1_ := Aside0.mk (hbox); have n2_ := Aside0.mk ((by rw [hg]; exact (za9 (by repeat (first | (with_reducible first | exact HB.out | apply za3 | apply za0 | apply za2) | exact HB.out))) : w.heap.size ≤ gb306)); have n3_ := Aside0.mk ((by rw [hg]; exact (za9 (by repeat (first | (with_reducible first | exact HB.out | apply za3 | apply za0 | apply za2) | exact HB.out))) : w.heap.size ≤ gb306)); clear HB; have HB := n0_; have BK306 := n1_; have GW306 := n2_; have GE306 := n3_; clear n0_ n1_ n2_ n3_; clear hb hbox hg) | ((with_reducible refine zak (N := 3) rfl ?_); refine zaj ?hg (N := 3) ?hd (cs := #[.int .i64 a1_0, .slice A1_1 l1_1.length c1_1, .slice A1_2 l1_2.length c1_2, .slice A1_3 l1_3.length c1_3]) (t := 30) ?hr ?_; (case hd => rfl); (case hg => rfl); (case hr => first | (go_simp; done) | (go_simp; rfl)); intro gb307 hg w19 hbox hb; have n0_ := Aside0.mk (zaa (g := gb306) (o := .cells #[.int .i64 a0_0, .slice A0_1 l0_1.length c0_1, .slice A0_2 l0_2.length c0_2, .slice A0_3 l0_3.length c0_3] 30 (0, 0)) (by (with_reducible repeat (first | refine za7 ?_ _ | refine za8 ?_ | refine za6 ?_ _)); exact BK306.out) hb); have n1_ := Aside0.mk (zad (by repeat (first | (with_reducible first | exact HB.out | apply za3 | apply za0 | apply za2 | refine za4 ?_ GE306.out) | exact HB.out)) hb); have n2_ := Aside0.mk (hbox); have n3_ := Aside0.mk ((by rw [hg]; exact (za9 (by repeat (first | (with_reducible first | exact HB.out | apply za3 | apply za0 | apply za2 | refine za4 ?_ GE306.out) | exact HB.out))) : w.heap.size ≤ gb307)); have n4_ := Aside0.mk ((by rw [hg]; exact (za9 (by repeat (first | (with_reducible first | exact HB.out | apply za3 | apply za0 | apply za2 | refine za4 ?_ GE306.out) | exact HB.out))) : w.heap.size ≤ gb307)); have n5_ := Aside0.mk ((by rw [hg]; exact Nat.ne_of_lt (zau (g := gb306) (o := .cells #[.int .i64 a0_0, .slice A0_1 l0_1.length c0_1, .slice A0_2 l0_2.length c0_2, .slice A0_3 l0_3.length c0_3] 30 (0, 0)) (by (with_reducible repeat (first | refine za7 ?_ _ | refine za8 ?_ | refine za6 ?_ _)); exact BK306.out)) : gb306 ≠ gb307)); have n6_ := Aside0.mk ((by rw [hg]; exact Nat.ne_of_gt (zau (g := gb306) (o := .cells #[.int .i64 a0_0, .slice A0_1 l0_1.length c0_1, .slice A0_2 l0_2.length c0_2, .slice A0_3 l0_3.length c0_3] 30 (0, 0)) (by (with_reducible repeat (first | refine za7 ?_ _ | refine za8 ?_ | refine za6 ?_ _)); exact BK306.out)) : gb307 ≠ gb306)); clear BK306; clear HB; have BK306 := n0_; have HB := n1_; have BK307 := n2_; have GW307 := n3_; have GE307 := n4_; have NB306_307 := n5_; have NB307_306 := n6_; clear n0_ n1_ n2_ n3_ n4_ n5_ n6_; clear hb hbox hg; have hnb20 := NB306_307.out; have hnc20 := NB307_306.out; have hcz21_0 : w19.cell? ⟨gb306, 0, none⟩ = some (.int .i64 a0_0) := (za5 BK306.out 0).trans rfl; have hcz21_1 : w19.cell? ⟨gb306, 1, none⟩ = some (.slice A0_1 l0_1.length c0_1) := (za5 BK306.out 1).trans rfl; have hcz21_2 : w19.cell? ⟨gb306, 2, none⟩ = some (.slice A0_2 l0_2.length c0_2) := (za5 BK306.out 2).trans rfl; have hcz21_3 : w19.cell? ⟨gb306, 3, none⟩ = some (.slice A0_3 l0_3.length c0_3) := (za5 BK306.out 3).trans rfl; have hfz21_0 := za1 BK306.out 0; have hfz21_1 := za1 BK306.out 1; have hfz21_2 := za1 BK306.out 2; have hfz21_3 := za1 BK306.out 3; have hcz22_0 : w19.cell? ⟨gb307, 0, none⟩ = some (.int .i64 a1_0) := (za5 BK307.out 0).trans rfl; have hcz22_1 : w19.cell? ⟨gb307, 1, none⟩ = some (.slice A1_1 l1_1.length c1_1) := (za5 BK307.out 1).trans rfl; have hcz22_2 : w19.cell? ⟨gb307, 2, none⟩ = some (.slice A1_2 l1_2.length c1_2) := (za5 BK307.out 2).trans rfl; have hcz22_3 : w19.cell? ⟨gb307, 3, none⟩ = some (.slice A1_3 l1_3.length c1_3) := (za5 BK307.out 3).trans rfl; have hfz22_0 := za1 BK307.out 0; have hfz22_1 := za1 BK307.out 1; have hfz22_2 := za1 BK307.out 2; have hfz22_3 := za1 BK307.out 3) | ((with_reducible refine zai (f := 30) rfl ?_); refine zb1 (some 14) rfl rfl Try.func30 (by kernel_rfl) rfl #[.slice A0_1 l0_1.length c0_1, .slice A1_1 l1_1.length c1_1] rfl (by (try simp only [List.map_toArray, List.map_cons, List.map_nil]); first | done | rfl | (simp only [List.length_drop, List.length_take]; rfl)) ?_; (with_reducible refine (laws_eqIntS.calls k _ _ l0_1 _ _ l1_1 true _ ?side1 ?side2 ?side3 ?side4 A4.out).mono ?_); (case side1 => repeat (first | exact (Kd.zam HR0_1.out HB.out) | (with_reducible refine Kd.zat ?_ _) | (with_reducible refine Kd.zar ?_ _) | (with_reducible refine Kd.zaw ?_))); (case side2 => exact HC0_1.out); (case side3 => repeat (first | exact (Kd.zam HR1_1.out HB.out) | (with_reducible refine Kd.zat ?_ _) | (with_reducible refine Kd.zar ?_ _) | (with_reducible refine Kd.zaw ?_))); (case side4 => exact HC1_1.out); rintro e w' ⟨rfl, ⟨nd, rfl⟩⟩; refine ⟨_, rfl, ?_⟩) | ((with_reducible refine zai (f := 61) rfl ?_); refine zb1 (some 20) rfl rfl Try.func61 (by kernel_rfl) rfl #[.slice A0_2 l0_2.length c0_2, .slice A1_2 l1_2.length c1_2] rfl (by (try simp only [List.map_toArray, List.map_cons, List.map_nil]); first | done | rfl | (simp only [List.length_drop, List.length_take]; rfl)) ?_; (with_reducible refine (laws_eqRegOpS.calls k _ _ l0_2 _ _ l1_2 true _ ?side1 ?side2 ?side3 ?side4 A6.out).mono ?_); (case side1 => repeat (first | exact (Kd.zam HR0_2.out (by repeat (first | (with_reducible first | exact HB.out | apply za3 | apply za0 | apply za2 | refine za4 ?_ GE306.out | refine za4 ?_ GE307.out) | exact HB.out))) | (with_reducible refine Kd.zat ?_ _) | (with_reducible refine Kd.zar ?_ _) | (with_reducible refine Kd.zaw ?_))); (case side2 => exact HC0_2.out); (case side3 => repeat (first | exact (Kd.zam HR1_2.out (by repeat (first | (with_reducible first | exact HB.out | apply za3 | apply za0 | apply za2 | refine za4 ?_ GE306.out | refine za4 ?_ GE307.out) | exact HB.out))) | (with_reducible refine Kd.zat ?_ _) | (with_reducible refine Kd.zar ?_ _) | (with_reducible refine Kd.zaw ?_))); (case side4 => exact HC1_2.out); rintro e w23 ⟨rfl, hb⟩; refine ⟨_, rfl, ?_⟩; have n0_ := Aside0.mk (zaa (g := gb306) (o := .cells #[.int .i64 a0_0, .slice A0_1 l0_1.length c0_1, .slice A0_2 l0_2.length c0_2, .slice A0_3 l0_3.length c0_3] 30 (0, 0)) (by (with_reducible repeat (first | refine za7 ?_ _ | refine za8 ?_ | refine za6 ?_ _)); exact BK306.out) hb); have n1_ := Aside0.mk (zaa (g := gb307) (o := .cells #[.int .i64 a1_0, .slice A1_1 l1_1.length c1_1, .slice A1_2 l1_2.length c1_2, .slice A1_3 l1_3.length c1_3] 30 (0, 0)) (by (with_reducible repeat (first | refine za7 ?_ _ | refine za8 ?_ | refine za6 ?_ _)); exact BK307.out) hb); have n2_ := Aside0.mk (zad (by repeat (first | (with_reducible first | exact HB.out | apply za3 | apply za0 | apply za2 | refine za4 ?_ GE306.out | refine za4 ?_ GE307.out) | exact HB.out)) hb); clear BK306; clear BK307; clear HB; have BK306 := n0_; have BK307 := n1_; have HB := n2_; clear n0_ n1_ n2_; (try clear hb); (try clear hb2); (try clear hk); (try clear hi); have hcz24_0 : w23.cell? ⟨gb306, 0, none⟩ = some (.int .i64 a0_0) := (za5 BK306.out 0).trans rfl; have hcz24_1 : w23.cell? ⟨gb306, 1, none⟩ = some (.slice A0_1 l0_1.length c0_1) := (za5 BK306.out 1).trans rfl; have hcz24_2 : w23.cell? ⟨gb306, 2, none⟩ = some (.slice A0_2 l0_2.length c0_2) := (za5 BK306.out 2).trans rfl; have hcz24_3 : w23.cell? ⟨gb306, 3, none⟩ = some (.slice A0_3 l0_3.length c0_3) := (za5 BK306.out 3).trans rfl; have hfz24_0 := za1 BK306.out 0; have hfz24_1 := za1 BK306.out 1; have hfz24_2 := za1 BK306.out 2; have hfz24_3 := za1 BK306.out 3; have hcz25_0 : w23.cell? ⟨gb307, 0, none⟩ = some (.int .i64 a1_0) := (za5 BK307.out 0).trans rfl; have hcz25_1 : w23.cell? ⟨gb307, 1, none⟩ = some (.slice A1_1 l1_1.length c1_1) := (za5 BK307.out 1).trans rfl; have hcz25_2 : w23.cell? ⟨gb307, 2, none⟩ = some (.slice A1_2 l1_2.length c1_2) := (za5 BK307.out 2).trans rfl; have hcz25_3 : w23.cell? ⟨gb307, 3, none⟩ = some (.slice A1_3 l1_3.length c1_3) := (za5 BK307.out 3).trans rfl; have hfz25_0 := za1 BK307.out 0; have hfz25_1 := za1 BK307.out 1; have hfz25_2 := za1 BK307.out 2; have hfz25_3 := za1 BK307.out 3) | ((with_reducible refine zai (f := 30) rfl ?_); refine zb1 (some 26) rfl rfl Try.func30 (by kernel_rfl) rfl #[.slice A0_3 l0_3.length c0_3, .slice A1_3 l1_3.length c1_3] rfl (by (try simp only [List.map_toArray, List.map_cons, List.map_nil]); first | done | rfl | (simp only [List.length_drop, List.length_take]; rfl)) ?_; (with_reducible refine (laws_eqIntS.calls k _ _ l0_3 _ _ l1_3 false _ ?side1 ?side2 ?side3 ?side4 A8.out).mono ?_); (case side1 => repeat (first | exact (Kd.zam HR0_3.out HB.out) | (with_reducible refine Kd.zat ?_ _) | (with_reducible refine Kd.zar ?_ _) | (with_reducible refine Kd.zaw ?_))); (case side2 => exact HC0_3.out); (case side3 => repeat (first | exact (Kd.zam HR1_3.out HB.out) | (with_reducible refine Kd.zat ?_ _) | (with_reducible refine Kd.zar ?_ _) | (with_reducible refine Kd.zaw ?_))); (case side4 => exact HC1_3.out); rintro e w' ⟨rfl, ⟨nd, rfl⟩⟩; refine ⟨_, rfl, ?_⟩))
     go_ret
     exact ⟨by first | rfl | (simp [zae, zaf] <;> rfl) | (simp [*, zae, zaf] <;> rfl), by repeat (first | (with_reducible first | exact HB.out | apply za3 | apply za0 | apply za2 | refine za4 ?_ GE306.out | refine za4 ?_ GE307.out) | exact HB.out)⟩
   ·replace c7 := Bool.eq_false_iff.mpr c7
    subst c7
    have H1 : (some false) = some r := by rw [if_neg (show ¬ (false = true) by decide)] at H; exact H
    clear H
    have H := H1
    clear H1
    obtain rfl := Option.some.inj H
    go_enter Try.func20, Try.ntmps20
    go_wp2_with (first | ((with_reducible refine zak (N := 2) rfl ?_); refine zaj ?hg (N := 2) ?hd (cs := #[.int .i64 a0_0, .slice A0_1 l0_1.length c0_1, .slice A0_2 l0_2.length c0_2, .slice A0_3 l0_3.length c0_3]) (t := 30) ?hr ?_; (case hd => rfl); (case hg => rfl); (case hr => first | (go_simp; done) | (go_simp; rfl)); intro gb306 hg w26 hbox hb; have n0_ := Aside0.mk (zad (by repeat (first | (with_reducible first | exact HB.out | apply za3 | apply za0 | apply za2) | exact HB.out)) hb); have n1_ := Aside0.mk (hbox); have n2_ := Aside0.mk ((by rw [hg]; exact (za9 (by repeat (first | (with_reducible first | exact HB.out | apply za3 | apply za0 | apply za2) | exact HB.out))) : w.heap.size ≤ gb306)); have n3_ := Aside0.mk ((by rw [hg]; exact (za9 (by repeat (first | (with_reducible first | exact HB.out | apply za3 | apply za0 | apply za2) | exact HB.out))) : w.heap.size ≤ gb306)); clear HB; have HB := n0_; have BK306 := n1_; have GW306 := n2_; have GE306 := n3_; clear n0_ n1_ n2_ n3_; clear hb hbox hg) | ((with_reducible refine zak (N := 3) rfl ?_); refine zaj ?hg (N := 3) ?hd (cs := #[.int .i64 a1_0, .slice A1_1 l1_1.length c1_1, .slice A1_2 l1_2.length c1_2, .slice A1_3 l1_3.length c1_3]) (t := 30) ?hr ?_; (case hd => rfl); (case hg => rfl); (case hr => first | (go_simp; done) | (go_simp; rfl)); intro gb307 hg w27 hbox hb; have n0_ := Aside0.mk (zaa (g := gb306) (o := .cells #[.int .i64 a0_0, .slice A0_1 l0_1.length c0_1, .slice A0_2 l0_2.length c0_2, .slice A0_3 l0_3.length c0_3] 30 (0, 0)) (by (with_reducible repeat (first | refine za7 ?_ _ | refine za8 ?_ | refine za6 ?_ _)); exact BK306.out) hb); have n1_ := Aside0.mk (zad (by repeat (first | (with_reducible first | exact HB.out | apply za3 | apply za0 | apply za2 | refine za4 ?_ GE306.out) | exact HB.out)) hb); have n2_ := Aside0.mk (hbox); have n3_ := Aside0.mk ((by rw [hg]; exact (za9 (by repeat (first | (with_reducible first | exact HB.out | apply za3 | apply za0 | apply za2 | refine za4 ?_ GE306.out) | exact HB.out))) : w.heap.size ≤ gb307)); have n4_ := Aside0.mk ((by rw [hg]; exact (za9 (by repeat (first | (with_reducible first | exact HB.out | apply za3 | apply za0 | apply za2 | refine za4 ?_ GE306.out) | exact HB.out))) : w.heap.size ≤ gb307)); have n5_ := Aside0.mk ((by rw [hg]; exact Nat.ne_of_lt (zau (g := gb306) (o := .cells #[.int .i64 a0_0, .slice A0_1 l0_1.length c0_1, .slice A0_2 l0_2.length c0_2, .slice A0_3 l0_3.length c0_3] 30 (0, 0)) (by (with_reducible repeat (first | refine za7 ?_ _ | refine za8 ?_ | refine za6 ?_ _)); exact BK306.out)) : gb306 ≠ gb307)); have n6_ := Aside0.mk ((by rw [hg]; exact Nat.ne_of_gt (zau (g := gb306) (o := .cells #[.int .i64 a0_0, .slice A0_1 l0_1.length c0_1, .slice A0_2 l0_2.length c0_2, .slice A0_3 l0_3.length c0_3] 30 (0, 0)) (by (with_reducible repeat (first | refine za7 ?_ _ | refine za8 ?_ | refine za6 ?_ _)); exact BK306.out)) : gb307 ≠ gb306)); clear BK306; clear HB; have BK306 := n0_; have HB := n1_; have BK307 := n2_; have GW307 := n3_; have GE307 := n4_; have NB306_307 := n5_; have NB307_306 := n6_; clear n0_ n1_ n2_ n3_ n4_ n5_ n6_; clear hb hbox hg; have hnb28 := NB306_307.out; have hnc28 := NB307_306.out; have hcz29_0 : w27.cell? ⟨gb306, 0, none⟩ = some (.int .i64 a0_0) := (za5 BK306.out 0).trans rfl; have hcz29_1 : w27.cell? ⟨gb306, 1, none⟩ = some (.slice A0_1 l0_1.length c0_1) := (za5 BK306.out 1).trans rfl; have hcz29_2 : w27.cell? ⟨gb306, 2, none⟩ = some (.slice A0_2 l0_2.length c0_2) := (za5 BK306.out 2).trans rfl; have hcz29_3 : w27.cell? ⟨gb306, 3, none⟩ = some (.slice A0_3 l0_3.length c0_3) := (za5 BK306.out 3).trans rfl; have hfz29_0 := za1 BK306.out 0; have hfz29_1 := za1 BK306.out 1; have hfz29_2 := za1 BK306.out 2; have hfz29_3 := za1 BK306.out 3; have hcz30_0 : w27.cell? ⟨gb307, 0, none⟩ = some (.int .i64 a1_0) := (za5 BK307.out 0).trans rfl; have hcz30_1 : w27.cell? ⟨gb307, 1, none⟩ = some (.slice A1_1 l1_1.length c1_1) := (za5 BK307.out 1).trans rfl; have hcz30_2 : w27.cell? ⟨gb307, 2, none⟩ = some (.slice A1_2 l1_2.length c1_2) := (za5 BK307.out 2).trans rfl; have hcz30_3 : w27.cell? ⟨gb307, 3, none⟩ = some (.slice A1_3 l1_3.length c1_3) := (za5 BK307.out 3).trans rfl; have hfz30_0 := za1 BK307.out 0; have hfz30_1 := za1 BK307.out 1; have hfz30_2 := za1 BK307.out 2; have hfz30_3 := za1 BK307.out 3) | ((with_reducible refine zai (f := 30) rfl ?_); refine zb1 (some 14) rfl rfl Try.func30 (by kernel_rfl) rfl #[.slice A0_1 l0_1.length c0_1, .slice A1_1 l1_1.length c1_1] rfl (by (try simp only [List.map_toArray, List.map_cons, List.map_nil]); first | done | rfl | (simp only [List.length_drop, List.length_take]; rfl)) ?_; (with_reducible refine (laws_eqIntS.calls k _ _ l0_1 _ _ l1_1 true _ ?side1 ?side2 ?side3 ?side4 A4.out).mono ?_); (case side1 => repeat (first | exact (Kd.zam HR0_1.out HB.out) | (with_reducible refine Kd.zat ?_ _) | (with_reducible refine Kd.zar ?_ _) | (with_reducible refine Kd.zaw ?_))); (case side2 => exact HC0_1.out); (case side3 => repeat (first | exact (Kd.zam HR1_1.out HB.out) | (with_reducible refine Kd.zat ?_ _) | (with_reducible refine Kd.zar ?_ _) | (with_reducible refine Kd.zaw ?_))); (case side4 => exact HC1_1.out); rintro e w' ⟨rfl, ⟨nd, rfl⟩⟩; refine ⟨_, rfl, ?_⟩) | ((with_reducible refine zai (f := 61) rfl ?_); refine zb1 (some 20) rfl rfl Try.func61 (by kernel_rfl) rfl #[.slice A0_2 l0_2.length c0_2, .slice A1_2 l1_2.length c1_2] rfl (by (try simp only [List.map_toArray, List.map_cons, List.map_nil]); first | done | rfl | (simp only [List.length_drop, List.length_take]; rfl)) ?_; (with_reducible refine (laws_eqRegOpS.calls k _ _ l0_2 _ _ l1_2 false _ ?side1 ?side2 ?side3 ?side4 A6.out).mono ?_); (case side1 => repeat (first | exact (Kd.zam HR0_2.out (by repeat (first | (with_reducible first | exact HB.out | apply za3 | apply za0 | apply za2 | refine za4 ?_ GE306.out | refine za4 ?_ GE307.out) | exact HB.out))) | (with_reducible refine Kd.zat ?_ _) | (with_reducible refine Kd.zar ?_ _) | (with_reducible refine Kd.zaw ?_))); (case side2 => exact HC0_2.out); (case side3 => repeat (first | exact (Kd.zam HR1_2.out (by repeat (first | (with_reducible first | exact HB.out | apply za3 | apply za0 | apply za2 | refine za4 ?_ GE306.out | refine za4 ?_ GE307.out) | exact HB.out))) | (with_reducible refine Kd.zat ?_ _) | (with_reducible refine Kd.zar ?_ _) | (with_reducible refine Kd.zaw ?_))); (case side4 => exact HC1_2.out); rintro e w31 ⟨rfl, hb⟩; refine ⟨_, rfl, ?_⟩; have n0_ := Aside0.mk (zaa (g := gb306) (o := .cells #[.int .i64 a0_0, .slice A0_1 l0_1.length c0_1, .slice A0_2 l0_2.length c0_2, .slice A0_3 l0_3.length c0_3] 30 (0, 0)) (by (with_reducible repeat (first | refine za7 ?_ _ | refine za8 ?_ | refine za6 ?_ _)); exact BK306.out) hb); have n1_ := Aside0.mk (zaa (g := gb307) (o := .cells #[.int .i64 a1_0, .slice A1_1 l1_1.length c1_1, .slice A1_2 l1_2.length c1_2, .slice A1_3 l1_3.length c1_3] 30 (0, 0)) (by (with_reducible repeat (first | refine za7 ?_ _ | refine za8 ?_ | refine za6 ?_ _)); exact BK307.out) hb); have n2_ := Aside0.mk (zad (by repeat (first | (with_reducible first | exact HB.out | apply za3 | apply za0 | apply za2 | refine za4 ?_ GE306.out | refine za4 ?_ GE307.out) | exact HB.out)) hb); clear BK306; clear BK307; clear HB; have BK306 := n0_; have BK307 := n1_; have HB := n2_; clear n0_ n1_ n2_; (try clear hb); (try clear hb2); (try clear hk); (try clear hi)))
    go_ret
    exact ⟨by first | rfl | (simp [zae, zaf] <;> rfl) | (simp [*, zae, zaf] <;> rfl), by repeat (first | (with_reducible first | exact HB.out | apply za3 | apply za0 | apply za2 | refine za4 ?_ GE306.out | refine za4 ?_ GE307.out) | exact HB.out)⟩
  ·replace c5 := Bool.eq_false_iff.mpr c5
   subst c5
   have H1 : (some false) = some r := by rw [if_neg (show ¬ (false = true) by decide)] at H; exact H
   clear H
   have H := H1
   clear H1
   obtain rfl := Option.some.inj H
   go_enter Try.func20, Try.ntmps20
   go_wp2_with (first | ((with_reducible refine zak (N := 2) rfl ?_); refine zaj ?hg (N := 2) ?hd (cs := #[.int .i64 a0_0, .slice A0_1 l0_1.length c0_1, .slice A0_2 l0_2.length c0_2, .slice A0_3 l0_3.length c0_3]) (t := 30) ?hr ?_; (case hd => rfl); (case hg => rfl); (case hr => first | (go_simp; done) | (go_simp; rfl)); intro gb306 hg w32 hbox hb; have n0_ := Aside0.mk (zad (by repeat (first | (with_reducible first | exact HB.out | apply za3 | apply za0 | apply za2) | exact HB.out)) hb); have n1_ := Aside0.mk (hbox); have n2_ := Aside0.mk ((by rw [hg]; exact (za9 (by repeat (first | (with_reducible first | exact HB.out | apply za3 | apply za0 | apply za2) | exact HB.out))) : w.heap.size ≤ gb306)); have n3_ := Aside0.mk ((by rw [hg]; exact (za9 (by repeat (first | (with_reducible first | exact HB.out | apply za3 | apply za0 | apply za2) | exact HB.out))) : w.heap.size ≤ gb306)); clear HB; have HB := n0_; have BK306 := n1_; have GW306 := n2_; have GE306 := n3_; clear n0_ n1_ n2_ n3_; clear hb hbox hg) | ((with_reducible refine zak (N := 3) rfl ?_); refine zaj ?hg (N := 3) ?hd (cs := #[.int .i64 a1_0, .slice A1_1 l1_1.length c1_1, .slice A1_2 l1_2.length c1_2, .slice A1_3 l1_3.length c1_3]) (t := 30) ?hr ?_; (case hd => rfl); (case hg => rfl); (case hr => first | (go_simp; done) | (go_simp; rfl)); intro gb307 hg w33 hbox hb; have n0_ := Aside0.mk (zaa (g := gb306) (o := .cells #[.int .i64 a0_0, .slice A0_1 l0_1.length c0_1, .slice A0_2 l0_2.length c0_2, .slice A0_3 l0_3.length c0_3] 30 (0, 0)) (by (with_reducible repeat (first | refine za7 ?_ _ | refine za8 ?_ | refine za6 ?_ _)); exact BK306.out) hb); have n1_ := Aside0.mk (zad (by repeat (first | (with_reducible first | exact HB.out | apply za3 | apply za0 | apply za2 | refine za4 ?_ GE306.out) | exact HB.out)) hb); have n2_ := Aside0.mk (hbox); have n3_ := Aside0.mk ((by rw [hg]; exact (za9 (by repeat (first | (with_reducible first | exact HB.out | apply za3 | apply za0 | apply za2 | refine za4 ?_ GE306.out) | exact HB.out))) : w.heap.size ≤ gb307)); have n4_ := Aside0.mk ((by rw [hg]; exact (za9 (by repeat (first | (with_reducible first | exact HB.out | apply za3 | apply za0 | apply za2 | refine za4 ?_ GE306.out) | exact HB.out))) : w.heap.size ≤ gb307)); have n5_ := Aside0.mk ((by rw [hg]; exact Nat.ne_of_lt (zau (g := gb306) (o := .cells #[.int .i64 a0_0, .slice A0_1 l0_1.length c0_1, .slice A0_2 l0_2.length c0_2, .slice A0_3 l0_3.length c0_3] 30 (0, 0)) (by (with_reducible repeat (first | refine za7 ?_ _ | refine za8 ?_ | refine za6 ?_ _)); exact BK306.out)) : gb306 ≠ gb307)); have n6_ := Aside0.mk ((by rw [hg]; exact Nat.ne_of_gt (zau (g := gb306) (o := .cells #[.int .i64 a0_0, .slice A0_1 l0_1.length c0_1, .slice A0_2 l0_2.length c0_2, .slice A0_3 l0_3.length c0_3] 30 (0, 0)) (by (with_reducible repeat (first | refine za7 ?_ _ | refine za8 ?_ | refine za6 ?_ _)); exact BK306.out)) : gb307 ≠ gb306)); clear BK306; clear HB; have BK306 := n0_; have HB := n1_; have BK307 := n2_; have GW307 := n3_; have GE307 := n4_; have NB306_307 := n5_; have NB307_306 := n6_; clear n0_ n1_ n2_ n3_ n4_ n5_ n6_; clear hb hbox hg; have hnb34 := NB306_307.out; have hnc34 := NB307_306.out; have hcz35_0 : w33.cell? ⟨gb306, 0, none⟩ = some (.int .i64 a0_0) := (za5 BK306.out 0).trans rfl; have hcz35_1 : w33.cell? ⟨gb306, 1, none⟩ = some (.slice A0_1 l0_1.length c0_1) := (za5 BK306.out 1).trans rfl; have hcz35_2 : w33.cell? ⟨gb306, 2, none⟩ = some (.slice A0_2 l0_2.length c0_2) := (za5 BK306.out 2).trans rfl; have hcz35_3 : w33.cell? ⟨gb306, 3, none⟩ = some (.slice A0_3 l0_3.length c0_3) := (za5 BK306.out 3).trans rfl; have hfz35_0 := za1 BK306.out 0; have hfz35_1 := za1 BK306.out 1; have hfz35_2 := za1 BK306.out 2; have hfz35_3 := za1 BK306.out 3; have hcz36_0 : w33.cell? ⟨gb307, 0, none⟩ = some (.int .i64 a1_0) := (za5 BK307.out 0).trans rfl; have hcz36_1 : w33.cell? ⟨gb307, 1, none⟩ = some (.slice A1_1 l1_1.length c1_1) := (za5 BK307.out 1).trans rfl; have hcz36_2 : w33.cell? ⟨gb307, 2, none⟩ = some (.slice A1_2 l1_2.length c1_2) := (za5 BK307.out 2).trans rfl; have hcz36_3 : w33.cell? ⟨gb307, 3, none⟩ = some (.slice A1_3 l1_3.length c1_3) := (za5 BK307.out 3).trans rfl; have hfz36_0 := za1 BK307.out 0; have hfz36_1 := za1 BK307.out 1; have hfz36_2 := za1 BK307.out 2; have hfz36_3 := za1 BK307.out 3) | ((with_reducible refine zai (f := 30) rfl ?_); refine zb1 (some 14) rfl rfl Try.func30 (by kernel_rfl) rfl #[.slice A0_1 l0_1.length c0_1, .slice A1_1 l1_1.length c1_1] rfl (by (try simp only [List.map_toArray, List.map_cons, List.map_nil]); first | done | rfl | (simp only [List.length_drop, List.length_take]; rfl)) ?_; (with_reducible refine (laws_eqIntS.calls k _ _ l0_1 _ _ l1_1 false _ ?side1 ?side2 ?side3 ?side4 A4.out).mono ?_); (case side1 => repeat (first | exact (Kd.zam HR0_1.out HB.out) | (with_reducible refine Kd.zat ?_ _) | (with_reducible refine Kd.zar ?_ _) | (with_reducible refine Kd.zaw ?_))); (case side2 => exact HC0_1.out); (case side3 => repeat (first | exact (Kd.zam HR1_1.out HB.out) | (with_reducible refine Kd.zat ?_ _) | (with_reducible refine Kd.zar ?_ _) | (with_reducible refine Kd.zaw ?_))); (case side4 => exact HC1_1.out); rintro e w' ⟨rfl, ⟨nd, rfl⟩⟩; refine ⟨_, rfl, ?_⟩))
   go_ret
   exact ⟨by first | rfl | (simp [zae, zaf] <;> rfl) | (simp [*, zae, zaf] <;> rfl), by repeat (first | (with_reducible first | exact HB.out | apply za3 | apply za0 | apply za2 | refine za4 ?_ GE306.out | refine za4 ?_ GE307.out) | exact HB.out)⟩
 ·rw [if_neg c3] at H
  have c3b0 : (a0_0 == a1_0) = false := beq_eq_false_iff_ne.mpr c3
  have c3b1 : (a0_0 != a1_0) = true := bne_iff_ne.mpr c3
  obtain rfl := Option.some.inj H
  go_enter Try.func20, Try.ntmps20
  go_wp2_with (first | ((with_reducible refine zak (N := 2) rfl ?_); refine zaj ?hg (N := 2) ?hd (cs := #[.int .i64 a0_0, .slice A0_1 l0_1.length c0_1, .slice A0_2 l0_2.length c0_2, .slice A0_3 l0_3.length c0_3]) (t := 30) ?hr ?_; (case hd => rfl); (case hg => rfl); (case hr => first | (go_simp; done) | (go_simp; rfl)); intro gb306 hg w37 hbox hb; have n0_ := Aside0.mk (zad (by repeat (first | (with_reducible first | exact HB.out | apply za3 | apply za0 | apply za2) | exact HB.out)) hb); have n1_ := Aside0.mk (hbox); have n2_ := Aside0.mk ((by rw [hg]; exact (za9 (by repeat (first | (with_reducible first | exact HB.out | apply za3 | apply za0 | apply za2) | exact HB.out))) : w.heap.size ≤ gb306)); have n3_ := Aside0.mk ((by rw [hg]; exact (za9 (by repeat (first | (with_reducible first | exact HB.out | apply za3 | apply za0 | apply za2) | exact HB.out))) : w.heap.size ≤ gb306)); clear HB; have HB := n0_; have BK306 := n1_; have GW306 := n2_; have GE306 := n3_; clear n0_ n1_ n2_ n3_; clear hb hbox hg) | ((with_reducible refine zak (N := 3) rfl ?_); refine zaj ?hg (N := 3) ?hd (cs := #[.int .i64 a1_0, .slice A1_1 l1_1.length c1_1, .slice A1_2 l1_2.length c1_2, .slice A1_3 l1_3.length c1_3]) (t := 30) ?hr ?_; (case hd => rfl); (case hg => rfl); (case hr => first | (go_simp; done) | (go_simp; rfl)); intro gb307 hg w38 hbox hb; have n0_ := Aside0.mk (zaa (g := gb306) (o := .cells #[.int .i64 a0_0, .slice A0_1 l0_1.length c0_1, .slice A0_2 l0_2.length c0_2, .slice A0_3 l0_3.length c0_3] 30 (0, 0)) (by (with_reducible repeat (first | refine za7 ?_ _ | refine za8 ?_ | refine za6 ?_ _)); exact BK306.out) hb); have n1_ := Aside0.mk (zad (by repeat (first | (with_reducible first | exact HB.out | apply za3 | apply za0 | apply za2 | refine za4 ?_ GE306.out) | exact HB.out)) hb); have n2_ := Aside0.mk (hbox); have n3_ := Aside0.mk ((by rw [hg]; exact (za9 (by repeat (first | (with_reducible first | exact HB.out | apply za3 | apply za0 | apply za2 | refine za4 ?_ GE306.out) | exact HB.out))) : w.heap.size ≤ gb307)); have n4_ := Aside0.mk ((by rw [hg]; exact (za9 (by repeat (first | (with_reducible first | exact HB.out | apply za3 | apply za0 | apply za2 | refine za4 ?_ GE306.out) | exact HB.out))) : w.heap.size ≤ gb307)); have n5_ := Aside0.mk ((by rw [hg]; exact Nat.ne_of_lt (zau (g := gb306) (o := .cells #[.int .i64 a0_0, .slice A0_1 l0_1.length c0_1, .slice A0_2 l0_2.length c0_2, .slice A0_3 l0_3.length c0_3] 30 (0, 0)) (by (with_reducible repeat (first | refine za7 ?_ _ | refine za8 ?_ | refine za6 ?_ _)); exact BK306.out)) : gb306 ≠ gb307)); have n6_ := Aside0.mk ((by rw [hg]; exact Nat.ne_of_gt (zau (g := gb306) (o := .cells #[.int .i64 a0_0, .slice A0_1 l0_1.length c0_1, .slice A0_2 l0_2.length c0_2, .slice A0_3 l0_3.length c0_3] 30 (0, 0)) (by (with_reducible repeat (first | refine za7 ?_ _ | refine za8 ?_ | refine za6 ?_ _)); exact BK306.out)) : gb307 ≠ gb306)); clear BK306; clear HB; have BK306 := n0_; have HB := n1_; have BK307 := n2_; have GW307 := n3_; have GE307 := n4_; have NB306_307 := n5_; have NB307_306 := n6_; clear n0_ n1_ n2_ n3_ n4_ n5_ n6_; clear hb hbox hg; have hnb39 := NB306_307.out; have hnc39 := NB307_306.out; have hcz40_0 : w38.cell? ⟨gb306, 0, none⟩ = some (.int .i64 a0_0) := (za5 BK306.out 0).trans rfl; have hcz40_1 : w38.cell? ⟨gb306, 1, none⟩ = some (.slice A0_1 l0_1.length c0_1) := (za5 BK306.out 1).trans rfl; have hcz40_2 : w38.cell? ⟨gb306, 2, none⟩ = some (.slice A0_2 l0_2.length c0_2) := (za5 BK306.out 2).trans rfl; have hcz40_3 : w38.cell? ⟨gb306, 3, none⟩ = some (.slice A0_3 l0_3.length c0_3) := (za5 BK306.out 3).trans rfl; have hfz40_0 := za1 BK306.out 0; have hfz40_1 := za1 BK306.out 1; have hfz40_2 := za1 BK306.out 2; have hfz40_3 := za1 BK306.out 3; have hcz41_0 : w38.cell? ⟨gb307, 0, none⟩ = some (.int .i64 a1_0) := (za5 BK307.out 0).trans rfl; have hcz41_1 : w38.cell? ⟨gb307, 1, none⟩ = some (.slice A1_1 l1_1.length c1_1) := (za5 BK307.out 1).trans rfl; have hcz41_2 : w38.cell? ⟨gb307, 2, none⟩ = some (.slice A1_2 l1_2.length c1_2) := (za5 BK307.out 2).trans rfl; have hcz41_3 : w38.cell? ⟨gb307, 3, none⟩ = some (.slice A1_3 l1_3.length c1_3) := (za5 BK307.out 3).trans rfl; have hfz41_0 := za1 BK307.out 0; have hfz41_1 := za1 BK307.out 1; have hfz41_2 := za1 BK307.out 2; have hfz41_3 := za1 BK307.out 3))
  go_ret
  exact ⟨by first | rfl | (simp [zae, zaf] <;> rfl) | (simp [*, zae, zaf] <;> rfl), by repeat (first | (with_reducible first | exact HB.out | apply za3 | apply za0 | apply za2 | refine za4 ?_ GE306.out | refine za4 ?_ GE307.out) | exact HB.out)⟩

/-! ### spec_RegCodePlan: function 21 -/
def spec_RegCodePlan.f (k : Nat) (a0_0 : Int) (l0_1 : List Int) (l0_2 : List (S80)) (l0_3 : List Int) : Option (Int × (List (S117)) × List Int × Bool) := (spec_rePlan.f k a0_0 l0_1 l0_2 l0_3).bind fun bt349 => (if bt349.2.2.2 = true then (some (bt349.1, bt349.2.1, bt349.2.2.1, true)) else (some (0, ([] : List (S117)), ([] : List Int), false)))
theorem spec_RegCodePlan.mono : ∀ a0 a1 a2 a3 k, LeO (spec_RegCodePlan.f k a0 a1 a2 a3) (spec_RegCodePlan.f (k + 1) a0 a1 a2 a3) := by
 intro a0 a1 a2 a3 k
 unfold spec_RegCodePlan.f
 repeat' first
   | (with_reducible exact spec_rePlan.mono _ _ _ _ _)
   | (with_reducible exact LeO.refl _)
   | (with_reducible exact LeO.none _)
   | (with_reducible refine LeO.ite ?_ ?_)
   | (with_reducible refine LeO.bind ?_ (fun _ => ?_))
   | exact spec_rePlan.mono _ _ _ _ _
   | exact LeO.none _
   | refine LeO.ite ?_ ?_
   | refine LeO.bind ?_ (fun _ => ?_)
set_option maxHeartbeats 8000000 in
set_option maxRecDepth 100000 in
theorem spec_RegCodePlan.calls (k : Nat) (a0_0 : Int) (A0_1 : Option Addr) (c0_1 : Nat) (l0_1 : List Int) (A0_2 : Option Addr) (c0_2 : Nat) (l0_2 : List (S80)) (A0_3 : Option Addr) (c0_3 : Nat) (l0_3 : List Int) (r1 : Int) (r2 : List (S117)) (r3 : List Int) (r4 : Bool) (w : World) (hr0_1 : Kd.C (Kd.int .i64) w A0_1 l0_1.length l0_1) (hc0_1 : l0_1.length ≤ c0_1) (hr0_2 : Kd.C k80 w A0_2 l0_2.length l0_2) (hc0_2 : l0_2.length ≤ c0_2) (hr0_3 : Kd.C (Kd.int .i64) w A0_3 l0_3.length l0_3) (hc0_3 : l0_3.length ≤ c0_3) (h : spec_RegCodePlan.f k a0_0 l0_1 l0_2 l0_3 = some (r1, r2, r3, r4)) :
  Calls Try.prog 21 #[.agg #[.int .i64 a0_0, .slice A0_1 l0_1.length c0_1, .slice A0_2 l0_2.length c0_2, .slice A0_3 l0_3.length c0_3]] w fun e w' => ∃ v1_ v2_ : Value, e = .returned (.tuple #[.agg #[.int .i64 r1, v1_, v2_], .bool r4]) ∧ Kd.R k117 117 w' w.heap.size (fun _ => True) v1_ r2 ∧ Kd.R (Kd.int .i64) 3 w' w.heap.size (fun _ => True) v2_ r3 ∧ Below w.heap.size w w' := by
 have hu30 := Try.underlying30
 have hu36 := Try.underlying36
 have HR0_1 := Aside0.mk hr0_1
 have HC0_1 := Aside0.mk hc0_1
 clear hr0_1 hc0_1
 have HR0_2 := Aside0.mk hr0_2
 have HC0_2 := Aside0.mk hc0_2
 clear hr0_2 hc0_2
 have HR0_3 := Aside0.mk hr0_3
 have HC0_3 := Aside0.mk hc0_3
 clear hr0_3 hc0_3
 have HB := Aside0.mk (Below.refl w.heap.size w)
 have H : ((spec_rePlan.f k a0_0 l0_1 l0_2 l0_3).bind fun bt349 => (if bt349.2.2.2 = true then (some (bt349.1, bt349.2.1, bt349.2.2.1, true)) else (some (0, ([] : List (S117)), ([] : List Int), false)))) = some (r1, r2, r3, r4) := h
 clear h
 replace H := Option.bind_eq_some_iff.mp H
 obtain ⟨⟨t349, t350, t353, t356⟩, A20, H⟩ := H
 replace H : (if t356 = true then (some (t349, t350, t353, true)) else (some (0, ([] : List (S117)), ([] : List Int), false))) = some (r1, r2, r3, r4) := H
 have A2 := Aside0.mk A20
 clear A20
 by_cases c3 : t356 = true
 ·subst c3
  have H1 : (some (t349, t350, t353, true)) = some (r1, r2, r3, r4) := by rw [if_pos rfl] at H; exact H
  clear H
  have H := H1
  clear H1
  simp only [Option.some.injEq, Prod.mk.injEq] at H
  obtain ⟨rfl, rfl, rfl, rfl⟩ := H
  go_enter Try.func21, Try.ntmps21
  go_wp2_with (first | ((with_reducible refine zak (N := 1) rfl ?_); refine zaj ?hg (N := 1) ?hd (cs := #[.int .i64 a0_0, .slice A0_1 l0_1.length c0_1, .slice A0_2 l0_2.length c0_2, .slice A0_3 l0_3.length c0_3]) (t := 30) ?hr ?_; (case hd => rfl); (case hg => rfl); (case hr => first | (go_simp; done) | (go_simp; rfl)); intro gb347 hg w4 hbox hb; have n0_ := Aside0.mk (zad (by repeat (first | (with_reducible first | exact HB.out | apply za3 | apply za0 | apply za2) | exact HB.out)) hb); have n1_ := Aside0.mk (hbox); have n2_ := Aside0.mk ((by rw [hg]; exact (za9 (by repeat (first | (with_reducible first | exact HB.out | apply za3 | apply za0 | apply za2) | exact HB.out))) : w.heap.size ≤ gb347)); have n3_ := Aside0.mk ((by rw [hg]; exact (za9 (by repeat (first | (with_reducible first | exact HB.out | apply za3 | apply za0 | apply za2) | exact HB.out))) : w.heap.size ≤ gb347)); clear HB; have HB := n0_; have BK347 := n1_; have GW347 := n2_; have GE347 := n3_; clear n0_ n1_ n2_ n3_; clear hb hbox hg) | ((with_reducible refine zak (N := 2) rfl ?_); refine zaj ?hg (N := 2) ?hd (cs := #[.int .i64 0, .slice none 0 0, .slice none 0 0]) (t := 36) ?hr ?_; (case hd => rfl); (case hg => rfl); (case hr => first | (go_simp; done) | (go_simp; rfl)); intro gb348 hg w5 hbox hb; have n0_ := Aside0.mk (zaa (g := gb347) (o := .cells #[.int .i64 a0_0, .slice A0_1 l0_1.length c0_1, .slice A0_2 l0_2.length c0_2, .slice A0_3 l0_3.length c0_3] 30 (0, 0)) (by (with_reducible repeat (first | refine za7 ?_ _ | refine za8 ?_ | refine za6 ?_ _)); exact BK347.out) hb); have n1_ := Aside0.mk (zad (by repeat (first | (with_reducible first | exact HB.out | apply za3 | apply za0 | apply za2 | refine za4 ?_ GE347.out) | exact HB.out)) hb); have n2_ := Aside0.mk (hbox); have n3_ := Aside0.mk ((by rw [hg]; exact (za9 (by repeat (first | (with_reducible first | exact HB.out | apply za3 | apply za0 | apply za2 | refine za4 ?_ GE347.out) | exact HB.out))) : w.heap.size ≤ gb348)); have n4_ := Aside0.mk ((by rw [hg]; exact (za9 (by repeat (first | (with_reducible first | exact HB.out | apply za3 | apply za0 | apply za2 | refine za4 ?_ GE347.out) | exact HB.out))) : w.heap.size ≤ gb348)); have n5_ := Aside0.mk ((by rw [hg]; exact Nat.ne_of_lt (zau (g := gb347) (o := .cells #[.int .i64 a0_0, .slice A0_1 l0_1.length c0_1, .slice A0_2 l0_2.length c0_2, .slice A0_3 l0_3.length c0_3] 30 (0, 0)) (by (with_reducible repeat (first | refine za7 ?_ _ | refine za8 ?_ | refine za6 ?_ _)); exact BK347.out)) : gb347 ≠ gb348)); have n6_ := Aside0.mk ((by rw [hg]; exact Nat.ne_of_gt (zau (g := gb347) (o := .cells #[.int .i64 a0_0, .slice A0_1 l0_1.length c0_1, .slice A0_2 l0_2.length c0_2, .slice A0_3 l0_3.length c0_3] 30 (0, 0)) (by (with_reducible repeat (first | refine za7 ?_ _ | refine za8 ?_ | refine za6 ?_ _)); exact BK347.out)) : gb348 ≠ gb347)); clear BK347; clear HB; have BK347 := n0_; have HB := n1_; have BK348 := n2_; have GW348 := n3_; have GE348 := n4_; have NB347_348 := n5_; have NB348_347 := n6_; clear n0_ n1_ n2_ n3_ n4_ n5_ n6_; clear hb hbox hg; have hnb6 := NB347_348.out; have hnc6 := NB348_347.out; have hcz7_0 : w5.cell? ⟨gb347, 0, none⟩ = some (.int .i64 a0_0) := (za5 BK347.out 0).trans rfl; have hcz7_1 : w5.cell? ⟨gb347, 1, none⟩ = some (.slice A0_1 l0_1.length c0_1) := (za5 BK347.out 1).trans rfl; have hcz7_2 : w5.cell? ⟨gb347, 2, none⟩ = some (.slice A0_2 l0_2.length c0_2) := (za5 BK347.out 2).trans rfl; have hcz7_3 : w5.cell? ⟨gb347, 3, none⟩ = some (.slice A0_3 l0_3.length c0_3) := (za5 BK347.out 3).trans rfl; have hfz7_0 := za1 BK347.out 0; have hfz7_1 := za1 BK347.out 1; have hfz7_2 := za1 BK347.out 2; have hfz7_3 := za1 BK347.out 3) | ((with_reducible refine zai (f := 62) rfl ?_); refine zb1 (some 8) rfl rfl Try.func62 (by kernel_rfl) rfl #[.agg #[.int .i64 a0_0, .slice A0_1 l0_1.length c0_1, .slice A0_2 l0_2.length c0_2, .slice A0_3 l0_3.length c0_3]] rfl (by (try simp only [List.map_toArray, List.map_cons, List.map_nil]); first | done | rfl | (simp only [List.length_drop, List.length_take]; rfl)) ?_; (with_reducible refine (spec_rePlan.calls k a0_0 _ _ l0_1 _ _ l0_2 _ _ l0_3 t349 t350 t353 true _ ?side1 ?side2 ?side3 ?side4 ?side5 ?side6 A2.out).mono ?_); (case side1 => repeat (first | exact (Kd.zam HR0_1.out HB.out) | (with_reducible refine Kd.zat ?_ _) | (with_reducible refine Kd.zar ?_ _) | (with_reducible refine Kd.zaw ?_))); (case side2 => exact HC0_1.out); (case side3 => repeat (first | exact (Kd.zam HR0_2.out HB.out) | (with_reducible refine Kd.zat ?_ _) | (with_reducible refine Kd.zar ?_ _) | (with_reducible refine Kd.zaw ?_))); (case side4 => exact HC0_2.out); (case side5 => repeat (first | exact (Kd.zam HR0_3.out HB.out) | (with_reducible refine Kd.zat ?_ _) | (with_reducible refine Kd.zar ?_ _) | (with_reducible refine Kd.zaw ?_))); (case side6 => exact HC0_3.out); rintro e w8 ⟨v351, v354, rfl, ho0, ho1, hb⟩; refine ⟨_, rfl, ?_⟩; have n0_ := Aside0.mk (Kd.R_lower ho0 (za9 (by repeat (first | (with_reducible first | exact HB.out | apply za3 | apply za0 | apply za2 | refine za4 ?_ GE347.out | refine za4 ?_ GE348.out) | exact HB.out)))); have n1_ := Aside0.mk (Kd.R_lower ho1 (za9 (by repeat (first | (with_reducible first | exact HB.out | apply za3 | apply za0 | apply za2 | refine za4 ?_ GE347.out | refine za4 ?_ GE348.out) | exact HB.out)))); have n2_ := Aside0.mk (zaa (g := gb347) (o := .cells #[.int .i64 a0_0, .slice A0_1 l0_1.length c0_1, .slice A0_2 l0_2.length c0_2, .slice A0_3 l0_3.length c0_3] 30 (0, 0)) (by (with_reducible repeat (first | refine za7 ?_ _ | refine za8 ?_ | refine za6 ?_ _)); exact BK347.out) hb); have n3_ := Aside0.mk (zaa (g := gb348) (o := .cells #[.int .i64 0, .slice none 0 0, .slice none 0 0] 36 (0, 0)) (by (with_reducible repeat (first | refine za7 ?_ _ | refine za8 ?_ | refine za6 ?_ _)); exact BK348.out) hb); have n4_ := Aside0.mk (zad (by repeat (first | (with_reducible first | exact HB.out | apply za3 | apply za0 | apply za2 | refine za4 ?_ GE347.out | refine za4 ?_ GE348.out) | exact HB.out)) hb); clear BK347; clear BK348; clear HB; have HO352 := n0_; have HO355 := n1_; have BK347 := n2_; have BK348 := n3_; have HB := n4_; clear n0_ n1_ n2_ n3_ n4_; (try clear hb); (try clear hb2); (try clear hk); (try clear hi); (try clear ho0); (try clear ho1)) | ((with_reducible refine zak (N := 4) rfl ?_); refine zaj ?hg (N := 4) ?hd (cs := #[.int .i64 0, .slice none 0 0, .slice none 0 0]) (t := 36) ?hr ?_; (case hd => rfl); (case hg => rfl); (case hr => first | (go_simp; done) | (go_simp; rfl)); intro gb357 hg w9 hbox hb; have n0_ := Aside0.mk (Kd.zb5 (by (with_reducible repeat (first | apply Kd.zan | apply Kd.zal | apply Kd.zas)); exact HO352.out) hb); have n1_ := Aside0.mk (Kd.zb5 (by (with_reducible repeat (first | apply Kd.zan | apply Kd.zal | apply Kd.zas)); exact HO355.out) hb); have n2_ := Aside0.mk (zaa (g := gb347) (o := .cells #[.int .i64 a0_0, .slice A0_1 l0_1.length c0_1, .slice A0_2 l0_2.length c0_2, .slice A0_3 l0_3.length c0_3] 30 (0, 0)) (by (with_reducible repeat (first | refine za7 ?_ _ | refine za8 ?_ | refine za6 ?_ _)); exact BK347.out) hb); have n3_ := Aside0.mk (zaa (g := gb348) (o := .cells #[.int .i64 0, .slice none 0 0, .slice none 0 0] 36 (0, 0)) (by (with_reducible repeat (first | refine za7 ?_ _ | refine za8 ?_ | refine za6 ?_ _)); exact BK348.out) hb); have n4_ := Aside0.mk (zad (by repeat (first | (with_reducible first | exact HB.out | apply za3 | apply za0 | apply za2 | refine za4 ?_ GE347.out | refine za4 ?_ GE348.out) | exact HB.out)) hb); have n5_ := Aside0.mk (hbox); have n6_ := Aside0.mk ((by rw [hg]; exact (za9 (by repeat (first | (with_reducible first | exact HB.out | apply za3 | apply za0 | apply za2 | refine za4 ?_ GE347.out | refine za4 ?_ GE348.out) | exact HB.out))) : w.heap.size ≤ gb357)); have n7_ := Aside0.mk ((by rw [hg]; exact (za9 (by repeat (first | (with_reducible first | exact HB.out | apply za3 | apply za0 | apply za2 | refine za4 ?_ GE347.out | refine za4 ?_ GE348.out) | exact HB.out))) : w.heap.size ≤ gb357)); have n8_ := Aside0.mk ((by rw [hg]; exact Nat.ne_of_lt (zau (g := gb347) (o := .cells #[.int .i64 a0_0, .slice A0_1 l0_1.length c0_1, .slice A0_2 l0_2.length c0_2, .slice A0_3 l0_3.length c0_3] 30 (0, 0)) (by (with_reducible repeat (first | refine za7 ?_ _ | refine za8 ?_ | refine za6 ?_ _)); exact BK347.out)) : gb347 ≠ gb357)); have n9_ := Aside0.mk ((by rw [hg]; exact Nat.ne_of_gt (zau (g := gb347) (o := .cells #[.int .i64 a0_0, .slice A0_1 l0_1.length c0_1, .slice A0_2 l0_2.length c0_2, .slice A0_3 l0_3.length c0_3] 30 (0, 0)) (by (with_reducible repeat (first | refine za7 ?_ _ | refine za8 ?_ | refine za6 ?_ _)); exact BK347.out)) : gb357 ≠ gb347)); have n10_ := Aside0.mk ((by rw [hg]; exact Nat.ne_of_lt (zau (g := gb348) (o := .cells #[.int .i64 0, .slice none 0 0, .slice none 0 0] 36 (0, 0)) (by (with_reducible repeat (first | refine za7 ?_ _ | refine za8 ?_ | refine za6 ?_ _)); exact BK348.out)) : gb348 ≠ gb357)); have n11_ := Aside0.mk ((by rw [hg]; exact Nat.ne_of_gt (zau (g := gb348) (o := .cells #[.int .i64 0, .slice none 0 0, .slice none 0 0] 36 (0, 0)) (by (with_reducible repeat (first | refine za7 ?_ _ | refine za8 ?_ | refine za6 ?_ _)); exact BK348.out)) : gb357 ≠ gb348)); clear HO352; clear HO355; clear BK347; clear BK348; clear HB; have HO352 := n0_; have HO355 := n1_; have BK347 := n2_; have BK348 := n3_; have HB := n4_; have BK357 := n5_; have GW357 := n6_; have GE357 := n7_; have NB347_357 := n8_; have NB357_347 := n9_; have NB348_357 := n10_; have NB357_348 := n11_; clear n0_ n1_ n2_ n3_ n4_ n5_ n6_ n7_ n8_ n9_ n10_ n11_; clear hb hbox hg; have hnb10 := NB357_347.out; have hnc10 := NB347_357.out; have hnb11 := NB357_348.out; have hnc11 := NB348_357.out; have hcz12_0 : w9.cell? ⟨gb357, 0, none⟩ = some (.int .i64 0) := (za5 BK357.out 0).trans rfl; have hcz12_1 : w9.cell? ⟨gb357, 1, none⟩ = some (.slice none 0 0) := (za5 BK357.out 1).trans rfl; have hcz12_2 : w9.cell? ⟨gb357, 2, none⟩ = some (.slice none 0 0) := (za5 BK357.out 2).trans rfl; have hfz12_0 := za1 BK357.out 0; have hfz12_1 := za1 BK357.out 1; have hfz12_2 := za1 BK357.out 2; obtain ⟨Ao13, co13, eo13⟩ := Kd.zay HO352.out; subst eo13; obtain ⟨Ao14, co14, eo14⟩ := Kd.zay HO355.out; subst eo14; have hcz15_0 : w9.cell? ⟨gb348, 0, none⟩ = some (.int .i64 0) := (za5 BK348.out 0).trans rfl; have hcz15_1 : w9.cell? ⟨gb348, 1, none⟩ = some (.slice none 0 0) := (za5 BK348.out 1).trans rfl; have hcz15_2 : w9.cell? ⟨gb348, 2, none⟩ = some (.slice none 0 0) := (za5 BK348.out 2).trans rfl; have hfz15_0 := za1 BK348.out 0; have hfz15_1 := za1 BK348.out 1; have hfz15_2 := za1 BK348.out 2))
  refine bodyPost_ret (zb8 rfl _ _ gb348 36 #[.int .i64 t349, .slice Ao13 t350.length co13, .slice Ao14 t353.length co14] (0, 0) _ rfl (by (with_reducible repeat (first | refine za7 ?_ _ | refine za8 ?_ | refine za6 ?_ _)); refine zax (cs := #[.int .i64 t349, .slice Ao13 t350.length co13, .slice none 0 0]) ?_ 2 _ rfl; (with_reducible repeat (first | refine za7 ?_ _ | refine za8 ?_ | refine za6 ?_ _)); refine zax (cs := #[.int .i64 t349, .slice none 0 0, .slice none 0 0]) ?_ 1 _ rfl; (with_reducible repeat (first | refine za7 ?_ _ | refine za8 ?_ | refine za6 ?_ _)); refine zax (cs := #[.int .i64 0, .slice none 0 0, .slice none 0 0]) ?_ 0 _ rfl; (with_reducible repeat (first | refine za7 ?_ _ | refine za8 ?_ | refine za6 ?_ _)); refine zb4 ?_ NB348_357.out _; (with_reducible repeat (first | refine za7 ?_ _ | refine za8 ?_ | refine za6 ?_ _)); refine zb4 ?_ NB348_357.out _; (with_reducible repeat (first | refine za7 ?_ _ | refine za8 ?_ | refine za6 ?_ _)); refine zb4 ?_ NB348_357.out _; (with_reducible repeat (first | refine za7 ?_ _ | refine za8 ?_ | refine za6 ?_ _)); exact BK348.out) Try.underlying36 rfl (by kernel_rfl)) rfl ?_
  exact ⟨_, _, by first | rfl | (simp [zae, zaf] <;> rfl) | (simp [*, zae, zaf] <;> rfl), by (with_reducible repeat (first | apply Kd.zan | apply Kd.zal | apply Kd.zas)); exact Kd.zav (Kd.R_far (p := ⟨gb348, 2, none⟩) (Kd.R_far (p := ⟨gb348, 1, none⟩) (Kd.R_far (p := ⟨gb348, 0, none⟩) (Kd.R_far (p := ⟨gb357, 2, none⟩) (Kd.R_far (p := ⟨gb357, 1, none⟩) (Kd.R_far (p := ⟨gb357, 0, none⟩) (Kd.R_types (Kd.R_types HO352.out BK357.out (by decide)) BK348.out (by decide)) (fun _ hk => hk.1.2) (.int .i64 t349)) (fun _ hk => hk.1.2) (.slice Ao13 t350.length co13)) (fun _ hk => hk.1.2) (.slice Ao14 t353.length co14)) (fun _ hk => hk.2) (.int .i64 t349)) (fun _ hk => hk.2) (.slice Ao13 t350.length co13)) (fun _ hk => hk.2) (.slice Ao14 t353.length co14)) (fun _ hk => trivial), by (with_reducible repeat (first | apply Kd.zan | apply Kd.zal | apply Kd.zas)); exact Kd.zav (Kd.R_far (p := ⟨gb348, 2, none⟩) (Kd.R_far (p := ⟨gb348, 1, none⟩) (Kd.R_far (p := ⟨gb348, 0, none⟩) (Kd.R_far (p := ⟨gb357, 2, none⟩) (Kd.R_far (p := ⟨gb357, 1, none⟩) (Kd.R_far (p := ⟨gb357, 0, none⟩) (Kd.R_types (Kd.R_types HO355.out BK357.out (by decide)) BK348.out (by decide)) (fun _ hk => hk.1.2) (.int .i64 t349)) (fun _ hk => hk.1.2) (.slice Ao13 t350.length co13)) (fun _ hk => hk.1.2) (.slice Ao14 t353.length co14)) (fun _ hk => hk.2) (.int .i64 t349)) (fun _ hk => hk.2) (.slice Ao13 t350.length co13)) (fun _ hk => hk.2) (.slice Ao14 t353.length co14)) (fun _ hk => trivial), by repeat (first | (with_reducible first | exact HB.out | apply za3 | apply za0 | apply za2 | refine za4 ?_ GE347.out | refine za4 ?_ GE348.out | refine za4 ?_ GE357.out) | exact HB.out)⟩
 ·replace c3 := Bool.eq_false_iff.mpr c3
  subst c3
  have H1 : (some (0, ([] : List (S117)), ([] : List Int), false)) = some (r1, r2, r3, r4) := by rw [if_neg (show ¬ (false = true) by decide)] at H; exact H
  clear H
  have H := H1
  clear H1
  simp only [Option.some.injEq, Prod.mk.injEq] at H
  obtain ⟨rfl, rfl, rfl, rfl⟩ := H
  go_enter Try.func21, Try.ntmps21
  go_wp2_with (first | ((with_reducible refine zak (N := 1) rfl ?_); refine zaj ?hg (N := 1) ?hd (cs := #[.int .i64 a0_0, .slice A0_1 l0_1.length c0_1, .slice A0_2 l0_2.length c0_2, .slice A0_3 l0_3.length c0_3]) (t := 30) ?hr ?_; (case hd => rfl); (case hg => rfl); (case hr => first | (go_simp; done) | (go_simp; rfl)); intro gb347 hg w16 hbox hb; have n0_ := Aside0.mk (zad (by repeat (first | (with_reducible first | exact HB.out | apply za3 | apply za0 | apply za2) | exact HB.out)) hb); have n1_ := Aside0.mk (hbox); have n2_ := Aside0.mk ((by rw [hg]; exact (za9 (by repeat (first | (with_reducible first | exact HB.out | apply za3 | apply za0 | apply za2) | exact HB.out))) : w.heap.size ≤ gb347)); have n3_ := Aside0.mk ((by rw [hg]; exact (za9 (by repeat (first | (with_reducible first | exact HB.out | apply za3 | apply za0 | apply za2) | exact HB.out))) : w.heap.size ≤ gb347)); clear HB; have HB := n0_; have BK347 := n1_; have GW347 := n2_; have GE347 := n3_; clear n0_ n1_ n2_ n3_; clear hb hbox hg) | ((with_reducible refine zak (N := 2) rfl ?_); refine zaj ?hg (N := 2) ?hd (cs := #[.int .i64 0, .slice none 0 0, .slice none 0 0]) (t := 36) ?hr ?_; (case hd => rfl); (case hg => rfl); (case hr => first | (go_simp; done) | (go_simp; rfl)); intro gb348 hg w17 hbox hb; have n0_ := Aside0.mk (zaa (g := gb347) (o := .cells #[.int .i64 a0_0, .slice A0_1 l0_1.length c0_1, .slice A0_2 l0_2.length c0_2, .slice A0_3 l0_3.length c0_3] 30 (0, 0)) (by (with_reducible repeat (first | refine za7 ?_ _ | refine za8 ?_ | refine za6 ?_ _)); exact BK347.out) hb); have n1_ := Aside0.mk (zad (by repeat (first | (with_reducible first | exact HB.out | apply za3 | apply za0 | apply za2 | refine za4 ?_ GE347.out) | exact HB.out)) hb); have n2_ := Aside0.mk (hbox); have n3_ := Aside0.mk ((by rw [hg]; exact (za9 (by repeat (first | (with_reducible first | exact HB.out | apply za3 | apply za0 | apply za2 | refine za4 ?_ GE347.out) | exact HB.out))) : w.heap.size ≤ gb348)); have n4_ := Aside0.mk ((by rw [hg]; exact (za9 (by repeat (first | (with_reducible first | exact HB.out | apply za3 | apply za0 | apply za2 | refine za4 ?_ GE347.out) | exact HB.out))) : w.heap.size ≤ gb348)); have n5_ := Aside0.mk ((by rw [hg]; exact Nat.ne_of_lt (zau (g := gb347) (o := .cells #[.int .i64 a0_0, .slice A0_1 l0_1.length c0_1, .slice A0_2 l0_2.length c0_2, .slice A0_3 l0_3.length c0_3] 30 (0, 0)) (by (with_reducible repeat (first | refine za7 ?_ _ | refine za8 ?_ | refine za6 ?_ _)); exact BK347.out)) : gb347 ≠ gb348)); have n6_ := Aside0.mk ((by rw [hg]; exact Nat.ne_of_gt (zau (g := gb347) (o := .cells #[.int .i64 a0_0, .slice A0_1 l0_1.length c0_1, .slice A0_2 l0_2.length c0_2, .slice A0_3 l0_3.length c0_3] 30 (0, 0)) (by (with_reducible repeat (first | refine za7 ?_ _ | refine za8 ?_ | refine za6 ?_ _)); exact BK347.out)) : gb348 ≠ gb347)); clear BK347; clear HB; have BK347 := n0_; have HB := n1_; have BK348 := n2_; have GW348 := n3_; have GE348 := n4_; have NB347_348 := n5_; have NB348_347 := n6_; clear n0_ n1_ n2_ n3_ n4_ n5_ n6_; clear hb hbox hg; have hnb18 := NB347_348.out; have hnc18 := NB348_347.out; have hcz19_0 : w17.cell? ⟨gb347, 0, none⟩ = some (.int .i64 a0_0) := (za5 BK347.out 0).trans rfl; have hcz19_1 : w17.cell? ⟨gb347, 1, none⟩ = some (.slice A0_1 l0_1.length c0_1) := (za5 BK347.out 1).trans rfl; have hcz19_2 : w17.cell? ⟨gb347, 2, none⟩ = some (.slice A0_2 l0_2.length c0_2) := (za5 BK347.out 2).trans rfl; have hcz19_3 : w17.cell? ⟨gb347, 3, none⟩ = some (.slice A0_3 l0_3.length c0_3) := (za5 BK347.out 3).trans rfl; have hfz19_0 := za1 BK347.out 0; have hfz19_1 := za1 BK347.out 1; have hfz19_2 := za1 BK347.out 2; have hfz19_3 := za1 BK347.out 3) | ((with_reducible refine zai (f := 62) rfl ?_); refine zb1 (some 8) rfl rfl Try.func62 (by kernel_rfl) rfl #[.agg #[.int .i64 a0_0, .slice A0_1 l0_1.length c0_1, .slice A0_2 l0_2.length c0_2, .slice A0_3 l0_3.length c0_3]] rfl (by (try simp only [List.map_toArray, List.map_cons, List.map_nil]); first | done | rfl | (simp only [List.length_drop, List.length_take]; rfl)) ?_; (with_reducible refine (spec_rePlan.calls k a0_0 _ _ l0_1 _ _ l0_2 _ _ l0_3 t349 t350 t353 false _ ?side1 ?side2 ?side3 ?side4 ?side5 ?side6 A2.out).mono ?_); (case side1 => repeat (first | exact (Kd.zam HR0_1.out HB.out) | (with_reducible refine Kd.zat ?_ _) | (with_reducible refine Kd.zar ?_ _) | (with_reducible refine Kd.zaw ?_))); (case side2 => exact HC0_1.out); (case side3 => repeat (first | exact (Kd.zam HR0_2.out HB.out) | (with_reducible refine Kd.zat ?_ _) | (with_reducible refine Kd.zar ?_ _) | (with_reducible refine Kd.zaw ?_))); (case side4 => exact HC0_2.out); (case side5 => repeat (first | exact (Kd.zam HR0_3.out HB.out) | (with_reducible refine Kd.zat ?_ _) | (with_reducible refine Kd.zar ?_ _) | (with_reducible refine Kd.zaw ?_))); (case side6 => exact HC0_3.out); rintro e w20 ⟨v351, v354, rfl, ho0, ho1, hb⟩; refine ⟨_, rfl, ?_⟩; have n0_ := Aside0.mk (Kd.R_lower ho0 (za9 (by repeat (first | (with_reducible first | exact HB.out | apply za3 | apply za0 | apply za2 | refine za4 ?_ GE347.out | refine za4 ?_ GE348.out) | exact HB.out)))); have n1_ := Aside0.mk (Kd.R_lower ho1 (za9 (by repeat (first | (with_reducible first | exact HB.out | apply za3 | apply za0 | apply za2 | refine za4 ?_ GE347.out | refine za4 ?_ GE348.out) | exact HB.out)))); have n2_ := Aside0.mk (zaa (g := gb347) (o := .cells #[.int .i64 a0_0, .slice A0_1 l0_1.length c0_1, .slice A0_2 l0_2.length c0_2, .slice A0_3 l0_3.length c0_3] 30 (0, 0)) (by (with_reducible repeat (first | refine za7 ?_ _ | refine za8 ?_ | refine za6 ?_ _)); exact BK347.out) hb); have n3_ := Aside0.mk (zaa (g := gb348) (o := .cells #[.int .i64 0, .slice none 0 0, .slice none 0 0] 36 (0, 0)) (by (with_reducible repeat (first | refine za7 ?_ _ | refine za8 ?_ | refine za6 ?_ _)); exact BK348.out) hb); have n4_ := Aside0.mk (zad (by repeat (first | (with_reducible first | exact HB.out | apply za3 | apply za0 | apply za2 | refine za4 ?_ GE347.out | refine za4 ?_ GE348.out) | exact HB.out)) hb); clear BK347; clear BK348; clear HB; have HO352 := n0_; have HO355 := n1_; have BK347 := n2_; have BK348 := n3_; have HB := n4_; clear n0_ n1_ n2_ n3_ n4_; (try clear hb); (try clear hb2); (try clear hk); (try clear hi); (try clear ho0); (try clear ho1)) | ((with_reducible refine zak (N := 4) rfl ?_); refine zaj ?hg (N := 4) ?hd (cs := #[.int .i64 0, .slice none 0 0, .slice none 0 0]) (t := 36) ?hr ?_; (case hd => rfl); (case hg => rfl); (case hr => first | (go_simp; done) | (go_simp; rfl)); intro gb357 hg w21 hbox hb; have n0_ := Aside0.mk (Kd.zb5 (by (with_reducible repeat (first | apply Kd.zan | apply Kd.zal | apply Kd.zas)); exact HO352.out) hb); have n1_ := Aside0.mk (Kd.zb5 (by (with_reducible repeat (first | apply Kd.zan | apply Kd.zal | apply Kd.zas)); exact HO355.out) hb); have n2_ := Aside0.mk (zaa (g := gb347) (o := .cells #[.int .i64 a0_0, .slice A0_1 l0_1.length c0_1, .slice A0_2 l0_2.length c0_2, .slice A0_3 l0_3.length c0_3] 30 (0, 0)) (by (with_reducible repeat (first | refine za7 ?_ _ | refine za8 ?_ | refine za6 ?_ _)); exact BK347.out) hb); have n3_ := Aside0.mk (zaa (g := gb348) (o := .cells #[.int .i64 0, .slice none 0 0, .slice none 0 0] 36 (0, 0)) (by (with_reducible repeat (first | refine za7 ?_ _ | refine za8 ?_ | refine za6 ?_ _)); exact BK348.out) hb); have n4_ := Aside0.mk (zad (by repeat (first | (with_reducible first | exact HB.out | apply za3 | apply za0 | apply za2 | refine za4 ?_ GE347.out | refine za4 ?_ GE348.out) | exact HB.out)) hb); have n5_ := Aside0.mk (hbox); have n6_ := Aside0.mk ((by rw [hg]; exact (za9 (by repeat (first | (with_reducible first | exact HB.out | apply za3 | apply za0 | apply za2 | refine za4 ?_ GE347.out | refine za4 ?_ GE348.out) | exact HB.out))) : w.heap.size ≤ gb357)); have n7_ := Aside0.mk ((by rw [hg]; exact (za9 (by repeat (first | (with_reducible first | exact HB.out | apply za3 | apply za0 | apply za2 | refine za4 ?_ GE347.out | refine za4 ?_ GE348.out) | exact HB.out))) : w.heap.size ≤ gb357)); have n8_ := Aside0.mk ((by rw [hg]; exact Nat.ne_of_lt (zau (g := gb347) (o := .cells #[.int .i64 a0_0, .slice A0_1 l0_1.length c0_1, .slice A0_2 l0_2.length c0_2, .slice A0_3 l0_3.length c0_3] 30 (0, 0)) (by (with_reducible repeat (first | refine za7 ?_ _ | refine za8 ?_ | refine za6 ?_ _)); exact BK347.out)) : gb347 ≠ gb357)); have n9_ := Aside0.mk ((by rw [hg]; exact Nat.ne_of_gt (zau (g := gb347) (o := .cells #[.int .i64 a0_0, .slice A0_1 l0_1.length c0_1, .slice A0_2 l0_2.length c0_2, .slice A0_3 l0_3.length c0_3] 30 (0, 0)) (by (with_reducible repeat (first | refine za7 ?_ _ | refine za8 ?_ | refine za6 ?_ _)); exact BK347.out)) : gb357 ≠ gb347)); have n10_ := Aside0.mk ((by rw [hg]; exact Nat.ne_of_lt (zau (g := gb348) (o := .cells #[.int .i64 0, .slice none 0 0, .slice none 0 0] 36 (0, 0)) (by (with_reducible repeat (first | refine za7 ?_ _ | refine za8 ?_ | refine za6 ?_ _)); exact BK348.out)) : gb348 ≠ gb357)); have n11_ := Aside0.mk ((by rw [hg]; exact Nat.ne_of_gt (zau (g := gb348) (o := .cells #[.int .i64 0, .slice none 0 0, .slice none 0 0] 36 (0, 0)) (by (with_reducible repeat (first | refine za7 ?_ _ | refine za8 ?_ | refine za6 ?_ _)); exact BK348.out)) : gb357 ≠ gb348)); clear HO352; clear HO355; clear BK347; clear BK348; clear HB; have HO352 := n0_; have HO355 := n1_; have BK347 := n2_; have BK348 := n3_; have HB := n4_; have BK357 := n5_; have GW357 := n6_; have GE357 := n7_; have NB347_357 := n8_; have NB357_347 := n9_; have NB348_357 := n10_; have NB357_348 := n11_; clear n0_ n1_ n2_ n3_ n4_ n5_ n6_ n7_ n8_ n9_ n10_ n11_; clear hb hbox hg; have hnb22 := NB357_347.out; have hnc22 := NB347_357.out; have hnb23 := NB357_348.out; have hnc23 := NB348_357.out; have hcz24_0 : w21.cell? ⟨gb357, 0, none⟩ = some (.int .i64 0) := (za5 BK357.out 0).trans rfl; have hcz24_1 : w21.cell? ⟨gb357, 1, none⟩ = some (.slice none 0 0) := (za5 BK357.out 1).trans rfl; have hcz24_2 : w21.cell? ⟨gb357, 2, none⟩ = some (.slice none 0 0) := (za5 BK357.out 2).trans rfl; have hfz24_0 := za1 BK357.out 0; have hfz24_1 := za1 BK357.out 1; have hfz24_2 := za1 BK357.out 2; obtain ⟨Ao25, co25, eo25⟩ := Kd.zay HO352.out; subst eo25; obtain ⟨Ao26, co26, eo26⟩ := Kd.zay HO355.out; subst eo26; have hcz27_0 : w21.cell? ⟨gb348, 0, none⟩ = some (.int .i64 0) := (za5 BK348.out 0).trans rfl; have hcz27_1 : w21.cell? ⟨gb348, 1, none⟩ = some (.slice none 0 0) := (za5 BK348.out 1).trans rfl; have hcz27_2 : w21.cell? ⟨gb348, 2, none⟩ = some (.slice none 0 0) := (za5 BK348.out 2).trans rfl; have hfz27_0 := za1 BK348.out 0; have hfz27_1 := za1 BK348.out 1; have hfz27_2 := za1 BK348.out 2))
  refine bodyPost_ret (zb8 rfl _ _ gb348 36 #[.int .i64 0, .slice none 0 0, .slice none 0 0] (0, 0) _ rfl (by (with_reducible repeat (first | refine za7 ?_ _ | refine za8 ?_ | refine za6 ?_ _)); refine zax (cs := #[.int .i64 0, .slice none 0 0, .slice none 0 0]) ?_ 2 _ rfl; (with_reducible repeat (first | refine za7 ?_ _ | refine za8 ?_ | refine za6 ?_ _)); refine zax (cs := #[.int .i64 0, .slice none 0 0, .slice none 0 0]) ?_ 1 _ rfl; (with_reducible repeat (first | refine za7 ?_ _ | refine za8 ?_ | refine za6 ?_ _)); refine zax (cs := #[.int .i64 0, .slice none 0 0, .slice none 0 0]) ?_ 0 _ rfl; (with_reducible repeat (first | refine za7 ?_ _ | refine za8 ?_ | refine za6 ?_ _)); refine zb4 ?_ NB348_357.out _; (with_reducible repeat (first | refine za7 ?_ _ | refine za8 ?_ | refine za6 ?_ _)); refine zb4 ?_ NB348_357.out _; (with_reducible repeat (first | refine za7 ?_ _ | refine za8 ?_ | refine za6 ?_ _)); refine zb4 ?_ NB348_357.out _; (with_reducible repeat (first | refine za7 ?_ _ | refine za8 ?_ | refine za6 ?_ _)); exact BK348.out) Try.underlying36 rfl (by kernel_rfl)) rfl ?_
  exact ⟨_, _, by first | rfl | (simp [zae, zaf] <;> rfl) | (simp [*, zae, zaf] <;> rfl), by first | exact Kd.R_nil _ _ _ _ _ | exact Kd.N_nil _ _ _ _ _ | exact Kd.V_nil _ _ _ _ _ | exact Kd.Q_nil _ _ _ _ _ | exact Kd.S_nil _ _ _ _ _, by first | exact Kd.R_nil _ _ _ _ _ | exact Kd.N_nil _ _ _ _ _ | exact Kd.V_nil _ _ _ _ _ | exact Kd.Q_nil _ _ _ _ _ | exact Kd.S_nil _ _ _ _ _, by repeat (first | (with_reducible first | exact HB.out | apply za3 | apply za0 | apply za2 | refine za4 ?_ GE347.out | refine za4 ?_ GE348.out | refine za4 ?_ GE357.out) | exact HB.out)⟩

/-! ### impl_RegCodePlan: function 22 -/
def impl_RegCodePlan.f (k : Nat) (a0_0 : Int) (l0_1 : List Int) (l0_2 : List (S80)) (l0_3 : List Int) : Option (Int × (List (S117)) × List Int × Bool) := (impl_RegCode_plan.f k a0_0 l0_1 l0_2 l0_3).bind fun bt360 => (some (bt360.1, bt360.2.1, bt360.2.2.1, bt360.2.2.2))
theorem impl_RegCodePlan.mono : ∀ a0 a1 a2 a3 k, LeO (impl_RegCodePlan.f k a0 a1 a2 a3) (impl_RegCodePlan.f (k + 1) a0 a1 a2 a3) := by
 intro a0 a1 a2 a3 k
 unfold impl_RegCodePlan.f
 repeat' first
   | (with_reducible exact impl_RegCode_plan.mono _ _ _ _ _)
   | (with_reducible exact LeO.refl _)
   | (with_reducible exact LeO.none _)
   | (with_reducible refine LeO.ite ?_ ?_)
   | (with_reducible refine LeO.bind ?_ (fun _ => ?_))
   | exact impl_RegCode_plan.mono _ _ _ _ _
   | exact LeO.none _
   | refine LeO.ite ?_ ?_
   | refine LeO.bind ?_ (fun _ => ?_)
set_option maxHeartbeats 8000000 in
set_option maxRecDepth 100000 in
theorem impl_RegCodePlan.calls (k : Nat) (a0_0 : Int) (A0_1 : Option Addr) (c0_1 : Nat) (l0_1 : List Int) (A0_2 : Option Addr) (c0_2 : Nat) (l0_2 : List (S80)) (A0_3 : Option Addr) (c0_3 : Nat) (l0_3 : List Int) (r1 : Int) (r2 : List (S117)) (r3 : List Int) (r4 : Bool) (w : World) (hr0_1 : Kd.C (Kd.int .i64) w A0_1 l0_1.length l0_1) (hc0_1 : l0_1.length ≤ c0_1) (hr0_2 : Kd.C k80 w A0_2 l0_2.length l0_2) (hc0_2 : l0_2.length ≤ c0_2) (hr0_3 : Kd.C (Kd.int .i64) w A0_3 l0_3.length l0_3) (hc0_3 : l0_3.length ≤ c0_3) (h : impl_RegCodePlan.f k a0_0 l0_1 l0_2 l0_3 = some (r1, r2, r3, r4)) :
  Calls Try.prog 22 #[.agg #[.int .i64 a0_0, .slice A0_1 l0_1.length c0_1, .slice A0_2 l0_2.length c0_2, .slice A0_3 l0_3.length c0_3]] w fun e w' => ∃ v1_ v2_ : Value, e = .returned (.tuple #[.agg #[.int .i64 r1, v1_, v2_], .bool r4]) ∧ Kd.R k117 117 w' w.heap.size (fun _ => True) v1_ r2 ∧ Kd.R (Kd.int .i64) 3 w' w.heap.size (fun _ => True) v2_ r3 ∧ Below w.heap.size w w' := by
 have hu30 := Try.underlying30
 have hu36 := Try.underlying36
 have HR0_1 := Aside0.mk hr0_1
 have HC0_1 := Aside0.mk hc0_1
 clear hr0_1 hc0_1
 have HR0_2 := Aside0.mk hr0_2
 have HC0_2 := Aside0.mk hc0_2
 clear hr0_2 hc0_2
 have HR0_3 := Aside0.mk hr0_3
 have HC0_3 := Aside0.mk hc0_3
 clear hr0_3 hc0_3
 have HB := Aside0.mk (Below.refl w.heap.size w)
 have H : ((impl_RegCode_plan.f k a0_0 l0_1 l0_2 l0_3).bind fun bt360 => (some (bt360.1, bt360.2.1, bt360.2.2.1, bt360.2.2.2))) = some (r1, r2, r3, r4) := h
 clear h
 replace H := Option.bind_eq_some_iff.mp H
 obtain ⟨⟨t360, t361, t364, t367⟩, A20, H⟩ := H
 replace H : (some (t360, t361, t364, t367)) = some (r1, r2, r3, r4) := H
 have A2 := Aside0.mk A20
 clear A20
 simp only [Option.some.injEq, Prod.mk.injEq] at H
 obtain ⟨rfl, rfl, rfl, rfl⟩ := H
 go_enter Try.func22, Try.ntmps22
 go_wp2_with (first | ((with_reducible refine zak (N := 1) rfl ?_); refine zaj ?hg (N := 1) ?hd (cs := #[.int .i64 a0_0, .slice A0_1 l0_1.length c0_1, .slice A0_2 l0_2.length c0_2, .slice A0_3 l0_3.length c0_3]) (t := 30) ?hr ?_; (case hd => rfl); (case hg => rfl); (case hr => first | (go_simp; done) | (go_simp; rfl)); intro gb358 hg w3 hbox hb; have n0_ := Aside0.mk (zad (by repeat (first | (with_reducible first | exact HB.out | apply za3 | apply za0 | apply za2) | exact HB.out)) hb); have n1_ := Aside0.mk (hbox); have n2_ := Aside0.mk ((by rw [hg]; exact (za9 (by repeat (first | (with_reducible first | exact HB.out | apply za3 | apply za0 | apply za2) | exact HB.out))) : w.heap.size ≤ gb358)); have n3_ := Aside0.mk ((by rw [hg]; exact (za9 (by repeat (first | (with_reducible first | exact HB.out | apply za3 | apply za0 | apply za2) | exact HB.out))) : w.heap.size ≤ gb358)); clear HB; have HB := n0_; have BK358 := n1_; have GW358 := n2_; have GE358 := n3_; clear n0_ n1_ n2_ n3_; clear hb hbox hg) | ((with_reducible refine zak (N := 2) rfl ?_); refine zaj ?hg (N := 2) ?hd (cs := #[.int .i64 0, .slice none 0 0, .slice none 0 0]) (t := 36) ?hr ?_; (case hd => rfl); (case hg => rfl); (case hr => first | (go_simp; done) | (go_simp; rfl)); intro gb359 hg w4 hbox hb; have n0_ := Aside0.mk (zaa (g := gb358) (o := .cells #[.int .i64 a0_0, .slice A0_1 l0_1.length c0_1, .slice A0_2 l0_2.length c0_2, .slice A0_3 l0_3.length c0_3] 30 (0, 0)) (by (with_reducible repeat (first | refine za7 ?_ _ | refine za8 ?_ | refine za6 ?_ _)); exact BK358.out) hb); have n1_ := Aside0.mk (zad (by repeat (first | (with_reducible first | exact HB.out | apply za3 | apply za0 | apply za2 | refine za4 ?_ GE358.out) | exact HB.out)) hb); have n2_ := Aside0.mk (hbox); have n3_ := Aside0.mk ((by rw [hg]; exact (za9 (by repeat (first | (with_reducible first | exact HB.out | apply za3 | apply za0 | apply za2 | refine za4 ?_ GE358.out) | exact HB.out))) : w.heap.size ≤ gb359)); have n4_ := Aside0.mk ((by rw [hg]; exact (za9 (by repeat (first | (with_reducible first | exact HB.out | apply za3 | apply za0 | apply za2 | refine za4 ?_ GE358.out) | exact HB.out))) : w.heap.size ≤ gb359)); have n5_ := Aside0.mk ((by rw [hg]; exact Nat.ne_of_lt (zau (g := gb358) (o := .cells #[.int .i64 a0_0, .slice A0_1 l0_1.length c0_1, .slice A0_2 l0_2.length c0_2, .slice A0_3 l0_3.length c0_3] 30 (0, 0)) (by (with_reducible repeat (first | refine za7 ?_ _ | refine za8 ?_ | refine za6 ?_ _)); exact BK358.out)) : gb358 ≠ gb359)); have n6_ := Aside0.mk ((by rw [hg]; exact Nat.ne_of_gt (zau (g := gb358) (o := .cells #[.int .i64 a0_0, .slice A0_1 l0_1.length c0_1, .slice A0_2 l0_2.length c0_2, .slice A0_3 l0_3.length c0_3] 30 (0, 0)) (by (with_reducible repeat (first | refine za7 ?_ _ | refine za8 ?_ | refine za6 ?_ _)); exact BK358.out)) : gb359 ≠ gb358)); clear BK358; clear HB; have BK358 := n0_; have HB := n1_; have BK359 := n2_; have GW359 := n3_; have GE359 := n4_; have NB358_359 := n5_; have NB359_358 := n6_; clear n0_ n1_ n2_ n3_ n4_ n5_ n6_; clear hb hbox hg) | ((with_reducible refine zai (f := 60) rfl ?_); refine zb1 (some 4) rfl rfl Try.func60 (by kernel_rfl) rfl #[.pointer (some ⟨gb358, 0, none⟩)] rfl (by (try simp only [List.map_toArray, List.map_cons, List.map_nil]); first | done | rfl | (simp only [List.length_drop, List.length_take]; rfl)) ?_; (with_reducible refine (impl_RegCode_plan.calls k gb358 a0_0 A0_1 c0_1 l0_1 A0_2 c0_2 l0_2 A0_3 c0_3 l0_3 t360 t361 t364 t367 _ ?side1 ?side2 ?side3 ?side4 ?side5 ?side6 ?side7 A2.out).mono ?_); (case side1 => (with_reducible repeat (first | refine za7 ?_ _ | refine za8 ?_ | refine za6 ?_ _)); exact BK358.out); (case side2 => repeat (first | exact (Kd.zam HR0_1.out HB.out) | (with_reducible refine Kd.zat ?_ _) | (with_reducible refine Kd.zar ?_ _) | (with_reducible refine Kd.zaw ?_))); (case side3 => exact HC0_1.out); (case side4 => repeat (first | exact (Kd.zam HR0_2.out HB.out) | (with_reducible refine Kd.zat ?_ _) | (with_reducible refine Kd.zar ?_ _) | (with_reducible refine Kd.zaw ?_))); (case side5 => exact HC0_2.out); (case side6 => repeat (first | exact (Kd.zam HR0_3.out HB.out) | (with_reducible refine Kd.zat ?_ _) | (with_reducible refine Kd.zar ?_ _) | (with_reducible refine Kd.zaw ?_))); (case side7 => exact HC0_3.out); rintro e w5 ⟨v362, v365, rfl, ho0, ho1, hb⟩; refine ⟨_, rfl, ?_⟩; have n0_ := Aside0.mk (Kd.R_lower ho0 (za9 (by repeat (first | (with_reducible first | exact HB.out | apply za3 | apply za0 | apply za2 | refine za4 ?_ GE358.out | refine za4 ?_ GE359.out) | exact HB.out)))); have n1_ := Aside0.mk (Kd.R_lower ho1 (za9 (by repeat (first | (with_reducible first | exact HB.out | apply za3 | apply za0 | apply za2 | refine za4 ?_ GE358.out | refine za4 ?_ GE359.out) | exact HB.out)))); have n2_ := Aside0.mk (zaa (g := gb358) (o := .cells #[.int .i64 a0_0, .slice A0_1 l0_1.length c0_1, .slice A0_2 l0_2.length c0_2, .slice A0_3 l0_3.length c0_3] 30 (0, 0)) (by (with_reducible repeat (first | refine za7 ?_ _ | refine za8 ?_ | refine za6 ?_ _)); exact BK358.out) hb); have n3_ := Aside0.mk (zaa (g := gb359) (o := .cells #[.int .i64 0, .slice none 0 0, .slice none 0 0] 36 (0, 0)) (by (with_reducible repeat (first | refine za7 ?_ _ | refine za8 ?_ | refine za6 ?_ _)); exact BK359.out) hb); have n4_ := Aside0.mk (zad (by repeat (first | (with_reducible first | exact HB.out | apply za3 | apply za0 | apply za2 | refine za4 ?_ GE358.out | refine za4 ?_ GE359.out) | exact HB.out)) hb); clear BK358; clear BK359; clear HB; have HO363 := n0_; have HO366 := n1_; have BK358 := n2_; have BK359 := n3_; have HB := n4_; clear n0_ n1_ n2_ n3_ n4_; (try clear hb); (try clear hb2); (try clear hk); (try clear hi); (try clear ho0); (try clear ho1); have hnb6 := NB359_358.out; have hnc6 := NB358_359.out; have hcz7_0 : w5.cell? ⟨gb359, 0, none⟩ = some (.int .i64 0) := (za5 BK359.out 0).trans rfl; have hcz7_1 : w5.cell? ⟨gb359, 1, none⟩ = some (.slice none 0 0) := (za5 BK359.out 1).trans rfl; have hcz7_2 : w5.cell? ⟨gb359, 2, none⟩ = some (.slice none 0 0) := (za5 BK359.out 2).trans rfl; have hfz7_0 := za1 BK359.out 0; have hfz7_1 := za1 BK359.out 1; have hfz7_2 := za1 BK359.out 2; obtain ⟨Ao8, co8, eo8⟩ := Kd.zay HO363.out; subst eo8; obtain ⟨Ao9, co9, eo9⟩ := Kd.zay HO366.out; subst eo9))
 refine bodyPost_ret (zb8 rfl _ _ gb359 36 #[.int .i64 t360, .slice Ao8 t361.length co8, .slice Ao9 t364.length co9] (0, 0) _ rfl (by (with_reducible repeat (first | refine za7 ?_ _ | refine za8 ?_ | refine za6 ?_ _)); refine zax (cs := #[.int .i64 t360, .slice Ao8 t361.length co8, .slice none 0 0]) ?_ 2 _ rfl; (with_reducible repeat (first | refine za7 ?_ _ | refine za8 ?_ | refine za6 ?_ _)); refine zax (cs := #[.int .i64 t360, .slice none 0 0, .slice none 0 0]) ?_ 1 _ rfl; (with_reducible repeat (first | refine za7 ?_ _ | refine za8 ?_ | refine za6 ?_ _)); refine zax (cs := #[.int .i64 0, .slice none 0 0, .slice none 0 0]) ?_ 0 _ rfl; (with_reducible repeat (first | refine za7 ?_ _ | refine za8 ?_ | refine za6 ?_ _)); exact BK359.out) Try.underlying36 rfl (by kernel_rfl)) rfl ?_
 exact ⟨_, _, by first | rfl | (simp [zae, zaf] <;> rfl) | (simp [*, zae, zaf] <;> rfl), by (with_reducible repeat (first | apply Kd.zan | apply Kd.zal | apply Kd.zas)); exact Kd.zav (Kd.R_far (p := ⟨gb359, 2, none⟩) (Kd.R_far (p := ⟨gb359, 1, none⟩) (Kd.R_far (p := ⟨gb359, 0, none⟩) (Kd.R_types HO363.out BK359.out (by decide)) (fun _ hk => hk.2) (.int .i64 t360)) (fun _ hk => hk.2) (.slice Ao8 t361.length co8)) (fun _ hk => hk.2) (.slice Ao9 t364.length co9)) (fun _ hk => trivial), by (with_reducible repeat (first | apply Kd.zan | apply Kd.zal | apply Kd.zas)); exact Kd.zav (Kd.R_far (p := ⟨gb359, 2, none⟩) (Kd.R_far (p := ⟨gb359, 1, none⟩) (Kd.R_far (p := ⟨gb359, 0, none⟩) (Kd.R_types HO366.out BK359.out (by decide)) (fun _ hk => hk.2) (.int .i64 t360)) (fun _ hk => hk.2) (.slice Ao8 t361.length co8)) (fun _ hk => hk.2) (.slice Ao9 t364.length co9)) (fun _ hk => trivial), by repeat (first | (with_reducible first | exact HB.out | apply za3 | apply za0 | apply za2 | refine za4 ?_ GE358.out | refine za4 ?_ GE359.out) | exact HB.out)⟩

/-! ### laws_eqStep: function 130 -/
def laws_eqStep.f (a0_0 : Int) (a0_1 : Int) (a1_0 : Int) (a1_1 : Int) : Option (Bool) := if a0_0 = a1_0 then (if a0_1 = a1_1 then (some true) else (some false)) else (some false)
set_option maxHeartbeats 8000000 in
set_option maxRecDepth 100000 in
theorem laws_eqStep.calls (a0_0 : Int) (a0_1 : Int) (a1_0 : Int) (a1_1 : Int) (r : Bool) (w : World) (h : laws_eqStep.f a0_0 a0_1 a1_0 a1_1 = some r) :
  Calls Try.prog 130 #[.agg #[.int .i64 a0_0, .int .i64 a0_1], .agg #[.int .i64 a1_0, .int .i64 a1_1]] w fun e w' => e = .returned (.bool r) ∧ Below w.heap.size w w' := by
 have hu117 := Try.underlying117
 have HB := Aside0.mk (Below.refl w.heap.size w)
 have H : (if a0_0 = a1_0 then (if a0_1 = a1_1 then (some true) else (some false)) else (some false)) = some r := h
 clear h
 by_cases c3 : a0_0 = a1_0
 ·rw [if_pos c3] at H
  have c3b0 : (a0_0 == a1_0) = true := beq_iff_eq.mpr c3
  have c3b1 : (a0_0 != a1_0) = false := bne_eq_false_iff_eq.mpr c3
  clear c3
  by_cases c4 : a0_1 = a1_1
  ·rw [if_pos c4] at H
   have c4b0 : (a0_1 == a1_1) = true := beq_iff_eq.mpr c4
   have c4b1 : (a0_1 != a1_1) = false := bne_eq_false_iff_eq.mpr c4
   clear c4
   obtain rfl := Option.some.inj H
   go_enter Try.func130, Try.ntmps130
   go_wp2_with (first | ((with_reducible refine zak (N := 2) rfl ?_); refine zaj ?hg (N := 2) ?hd (cs := #[.int .i64 a0_0, .int .i64 a0_1]) (t := 117) ?hr ?_; (case hd => rfl); (case hg => rfl); (case hr => first | (go_simp; done) | (go_simp; rfl)); intro gb368 hg w5 hbox hb; have n0_ := Aside0.mk (zad (by repeat (first | (with_reducible first | exact HB.out | apply za3 | apply za0 | apply za2) | exact HB.out)) hb); have n1_ := Aside0.mk (hbox); have n2_ := Aside0.mk ((by rw [hg]; exact (za9 (by repeat (first | (with_reducible first | exact HB.out | apply za3 | apply za0 | apply za2) | exact HB.out))) : w.heap.size ≤ gb368)); have n3_ := Aside0.mk ((by rw [hg]; exact (za9 (by repeat (first | (with_reducible first | exact HB.out | apply za3 | apply za0 | apply za2) | exact HB.out))) : w.heap.size ≤ gb368)); clear HB; have HB := n0_; have BK368 := n1_; have GW368 := n2_; have GE368 := n3_; clear n0_ n1_ n2_ n3_; clear hb hbox hg) | ((with_reducible refine zak (N := 3) rfl ?_); refine zaj ?hg (N := 3) ?hd (cs := #[.int .i64 a1_0, .int .i64 a1_1]) (t := 117) ?hr ?_; (case hd => rfl); (case hg => rfl); (case hr => first | (go_simp; done) | (go_simp; rfl)); intro gb369 hg w6 hbox hb; have n0_ := Aside0.mk (zaa (g := gb368) (o := .cells #[.int .i64 a0_0, .int .i64 a0_1] 117 (0, 0)) (by (with_reducible repeat (first | refine za7 ?_ _ | refine za8 ?_ | refine za6 ?_ _)); exact BK368.out) hb); have n1_ := Aside0.mk (zad (by repeat (first | (with_reducible first | exact HB.out | apply za3 | apply za0 | apply za2 | refine za4 ?_ GE368.out) | exact HB.out)) hb); have n2_ := Aside0.mk (hbox); have n3_ := Aside0.mk ((by rw [hg]; exact (za9 (by repeat (first | (with_reducible first | exact HB.out | apply za3 | apply za0 | apply za2 | refine za4 ?_ GE368.out) | exact HB.out))) : w.heap.size ≤ gb369)); have n4_ := Aside0.mk ((by rw [hg]; exact (za9 (by repeat (first | (with_reducible first | exact HB.out | apply za3 | apply za0 | apply za2 | refine za4 ?_ GE368.out) | exact HB.out))) : w.heap.size ≤ gb369)); have n5_ := Aside0.mk ((by rw [hg]; exact Nat.ne_of_lt (zau (g := gb368) (o := .cells #[.int .i64 a0_0, .int .i64 a0_1] 117 (0, 0)) (by (with_reducible repeat (first | refine za7 ?_ _ | refine za8 ?_ | refine za6 ?_ _)); exact BK368.out)) : gb368 ≠ gb369)); have n6_ := Aside0.mk ((by rw [hg]; exact Nat.ne_of_gt (zau (g := gb368) (o := .cells #[.int .i64 a0_0, .int .i64 a0_1] 117 (0, 0)) (by (with_reducible repeat (first | refine za7 ?_ _ | refine za8 ?_ | refine za6 ?_ _)); exact BK368.out)) : gb369 ≠ gb368)); clear BK368; clear HB; have BK368 := n0_; have HB := n1_; have BK369 := n2_; have GW369 := n3_; have GE369 := n4_; have NB368_369 := n5_; have NB369_368 := n6_; clear n0_ n1_ n2_ n3_ n4_ n5_ n6_; clear hb hbox hg; have hnb7 := NB368_369.out; have hnc7 := NB369_368.out; have hcz8_0 : w6.cell? ⟨gb368, 0, none⟩ = some (.int .i64 a0_0) := (za5 BK368.out 0).trans rfl; have hcz8_1 : w6.cell? ⟨gb368, 1, none⟩ = some (.int .i64 a0_1) := (za5 BK368.out 1).trans rfl; have hfz8_0 := za1 BK368.out 0; have hfz8_1 := za1 BK368.out 1; have hcz9_0 : w6.cell? ⟨gb369, 0, none⟩ = some (.int .i64 a1_0) := (za5 BK369.out 0).trans rfl; have hcz9_1 : w6.cell? ⟨gb369, 1, none⟩ = some (.int .i64 a1_1) := (za5 BK369.out 1).trans rfl; have hfz9_0 := za1 BK369.out 0; have hfz9_1 := za1 BK369.out 1))
   go_ret
   exact ⟨by first | rfl | (simp [zae, zaf] <;> rfl) | (simp [*, zae, zaf] <;> rfl), by repeat (first | (with_reducible first | exact HB.out | apply za3 | apply za0 | apply za2 | refine za4 ?_ GE368.out | refine za4 ?_ GE369.out) | exact HB.out)⟩
  ·rw [if_neg c4] at H
   have c4b0 : (a0_1 == a1_1) = false := beq_eq_false_iff_ne.mpr c4
   have c4b1 : (a0_1 != a1_1) = true := bne_iff_ne.mpr c4
   obtain rfl := Option.some.inj H
   go_enter Try.func130, Try.ntmps130
   go_wp2_with (first | ((with_reducible refine zak (N := 2) rfl ?_); refine zaj ?hg (N := 2) ?hd (cs := #[.int .i64 a0_0, .int .i64 a0_1]) (t := 117) ?hr ?_; (case hd => rfl); (case hg => rfl); (case hr => first | (go_simp; done) | (go_simp; rfl)); intro gb368 hg w10 hbox hb; have n0_ := Aside0.mk (zad (by repeat (first | (with_reducible first | exact HB.out | apply za3 | apply za0 | apply za2) | exact HB.out)) hb); have n1_ := Aside0.mk (hbox); have n2_ := Aside0.mk ((by rw [hg]; exact (za9 (by repeat (first | (with_reducible first | exact HB.out | apply za3 | apply za0 | apply za2) | exact HB.out))) : w.heap.size ≤ gb368)); have n3_ := Aside0.mk ((by rw [hg]; exact (za9 (by repeat (first | (with_reducible first | exact HB.out | apply za3 | apply za0 | apply za2) | exact HB.out))) : w.heap.size ≤ gb368)); clear HB; have HB := n0_; have BK368 := n1_; have GW368 := n2_; have GE368 := n3_; clear n0_ n1_ n2_ n3_; clear hb hbox hg) | ((with_reducible refine zak (N := 3) rfl ?_); refine zaj ?hg (N := 3) ?hd (cs := #[.int .i64 a1_0, .int .i64 a1_1]) (t := 117) ?hr ?_; (case hd => rfl); (case hg => rfl); (case hr => first | (go_simp; done) | (go_simp; rfl)); intro gb369 hg w11 hbox hb; have n0_ := Aside0.mk (zaa (g := gb368) (o := .cells #[.int .i64 a0_0, .int .i64 a0_1] 117 (0, 0)) (by (with_reducible repeat (first | refine za7 ?_ _ | refine za8 ?_ | refine za6 ?_ _)); exact BK368.out) hb); have n1_ := Aside0.mk (zad (by repeat (first | (with_reducible first | exact HB.out | apply za3 | apply za0 | apply za2 | refine za4 ?_ GE368.out) | exact HB.out)) hb); have n2_ := Aside0.mk (hbox); have n3_ := Aside0.mk ((by rw [hg]; exact (za9 (by repeat (first | (with_reducible first | exact HB.out | apply za3 | apply za0 | apply za2 | refine za4 ?_ GE368.out) | exact HB.out))) : w.heap.size ≤ gb369)); have n4_ := Aside0.mk ((by rw [hg]; exact (za9 (by repeat (first | (with_reducible first | exact HB.out | apply za3 | apply za0 | apply za2 | refine za4 ?_ GE368.out) | exact HB.out))) : w.heap.size ≤ gb369)); have n5_ := Aside0.mk ((by rw [hg]; exact Nat.ne_of_lt (zau (g := gb368) (o := .cells #[.int .i64 a0_0, .int .i64 a0_1] 117 (0, 0)) (by (with_reducible repeat (first | refine za7 ?_ _ | refine za8 ?_ | refine za6 ?_ _)); exact BK368.out)) : gb368 ≠ gb369)); have n6_ := Aside0.mk ((by rw [hg]; exact Nat.ne_of_gt (zau (g := gb368) (o := .cells #[.int .i64 a0_0, .int .i64 a0_1] 117 (0, 0)) (by (with_reducible repeat (first | refine za7 ?_ _ | refine za8 ?_ | refine za6 ?_ _)); exact BK368.out)) : gb369 ≠ gb368)); clear BK368; clear HB; have BK368 := n0_; have HB := n1_; have BK369 := n2_; have GW369 := n3_; have GE369 := n4_; have NB368_369 := n5_; have NB369_368 := n6_; clear n0_ n1_ n2_ n3_ n4_ n5_ n6_; clear hb hbox hg; have hnb12 := NB368_369.out; have hnc12 := NB369_368.out; have hcz13_0 : w11.cell? ⟨gb368, 0, none⟩ = some (.int .i64 a0_0) := (za5 BK368.out 0).trans rfl; have hcz13_1 : w11.cell? ⟨gb368, 1, none⟩ = some (.int .i64 a0_1) := (za5 BK368.out 1).trans rfl; have hfz13_0 := za1 BK368.out 0; have hfz13_1 := za1 BK368.out 1; have hcz14_0 : w11.cell? ⟨gb369, 0, none⟩ = some (.int .i64 a1_0) := (za5 BK369.out 0).trans rfl; have hcz14_1 : w11.cell? ⟨gb369, 1, none⟩ = some (.int .i64 a1_1) := (za5 BK369.out 1).trans rfl; have hfz14_0 := za1 BK369.out 0; have hfz14_1 := za1 BK369.out 1))
   go_ret
   exact ⟨by first | rfl | (simp [zae, zaf] <;> rfl) | (simp [*, zae, zaf] <;> rfl), by repeat (first | (with_reducible first | exact HB.out | apply za3 | apply za0 | apply za2 | refine za4 ?_ GE368.out | refine za4 ?_ GE369.out) | exact HB.out)⟩
 ·rw [if_neg c3] at H
  have c3b0 : (a0_0 == a1_0) = false := beq_eq_false_iff_ne.mpr c3
  have c3b1 : (a0_0 != a1_0) = true := bne_iff_ne.mpr c3
  obtain rfl := Option.some.inj H
  go_enter Try.func130, Try.ntmps130
  go_wp2_with (first | ((with_reducible refine zak (N := 2) rfl ?_); refine zaj ?hg (N := 2) ?hd (cs := #[.int .i64 a0_0, .int .i64 a0_1]) (t := 117) ?hr ?_; (case hd => rfl); (case hg => rfl); (case hr => first | (go_simp; done) | (go_simp; rfl)); intro gb368 hg w15 hbox hb; have n0_ := Aside0.mk (zad (by repeat (first | (with_reducible first | exact HB.out | apply za3 | apply za0 | apply za2) | exact HB.out)) hb); have n1_ := Aside0.mk (hbox); have n2_ := Aside0.mk ((by rw [hg]; exact (za9 (by repeat (first | (with_reducible first | exact HB.out | apply za3 | apply za0 | apply za2) | exact HB.out))) : w.heap.size ≤ gb368)); have n3_ := Aside0.mk ((by rw [hg]; exact (za9 (by repeat (first | (with_reducible first | exact HB.out | apply za3 | apply za0 | apply za2) | exact HB.out))) : w.heap.size ≤ gb368)); clear HB; have HB := n0_; have BK368 := n1_; have GW368 := n2_; have GE368 := n3_; clear n0_ n1_ n2_ n3_; clear hb hbox hg) | ((with_reducible refine zak (N := 3) rfl ?_); refine zaj ?hg (N := 3) ?hd (cs := #[.int .i64 a1_0, .int .i64 a1_1]) (t := 117) ?hr ?_; (case hd => rfl); (case hg => rfl); (case hr => first | (go_simp; done) | (go_simp; rfl)); intro gb369 hg w16 hbox hb; have n0_ := Aside0.mk (zaa (g := gb368) (o := .cells #[.int .i64 a0_0, .int .i64 a0_1] 117 (0, 0)) (by (with_reducible repeat (first | refine za7 ?_ _ | refine za8 ?_ | refine za6 ?_ _)); exact BK368.out) hb); have n1_ := Aside0.mk (zad (by repeat (first | (with_reducible first | exact HB.out | apply za3 | apply za0 | apply za2 | refine za4 ?_ GE368.out) | exact HB.out)) hb); have n2_ := Aside0.mk (hbox); have n3_ := Aside0.mk ((by rw [hg]; exact (za9 (by repeat (first | (with_reducible first | exact HB.out | apply za3 | apply za0 | apply za2 | refine za4 ?_ GE368.out) | exact HB.out))) : w.heap.size ≤ gb369)); have n4_ := Aside0.mk ((by rw [hg]; exact (za9 (by repeat (first | (with_reducible first | exact HB.out | apply za3 | apply za0 | apply za2 | refine za4 ?_ GE368.out) | exact HB.out))) : w.heap.size ≤ gb369)); have n5_ := Aside0.mk ((by rw [hg]; exact Nat.ne_of_lt (zau (g := gb368) (o := .cells #[.int .i64 a0_0, .int .i64 a0_1] 117 (0, 0)) (by (with_reducible repeat (first | refine za7 ?_ _ | refine za8 ?_ | refine za6 ?_ _)); exact BK368.out)) : gb368 ≠ gb369)); have n6_ := Aside0.mk ((by rw [hg]; exact Nat.ne_of_gt (zau (g := gb368) (o := .cells #[.int .i64 a0_0, .int .i64 a0_1] 117 (0, 0)) (by (with_reducible repeat (first | refine za7 ?_ _ | refine za8 ?_ | refine za6 ?_ _)); exact BK368.out)) : gb369 ≠ gb368)); clear BK368; clear HB; have BK368 := n0_; have HB := n1_; have BK369 := n2_; have GW369 := n3_; have GE369 := n4_; have NB368_369 := n5_; have NB369_368 := n6_; clear n0_ n1_ n2_ n3_ n4_ n5_ n6_; clear hb hbox hg; have hnb17 := NB368_369.out; have hnc17 := NB369_368.out; have hcz18_0 : w16.cell? ⟨gb368, 0, none⟩ = some (.int .i64 a0_0) := (za5 BK368.out 0).trans rfl; have hcz18_1 : w16.cell? ⟨gb368, 1, none⟩ = some (.int .i64 a0_1) := (za5 BK368.out 1).trans rfl; have hfz18_0 := za1 BK368.out 0; have hfz18_1 := za1 BK368.out 1; have hcz19_0 : w16.cell? ⟨gb369, 0, none⟩ = some (.int .i64 a1_0) := (za5 BK369.out 0).trans rfl; have hcz19_1 : w16.cell? ⟨gb369, 1, none⟩ = some (.int .i64 a1_1) := (za5 BK369.out 1).trans rfl; have hfz19_0 := za1 BK369.out 0; have hfz19_1 := za1 BK369.out 1))
  go_ret
  exact ⟨by first | rfl | (simp [zae, zaf] <;> rfl) | (simp [*, zae, zaf] <;> rfl), by repeat (first | (with_reducible first | exact HB.out | apply za3 | apply za0 | apply za2 | refine za4 ?_ GE368.out | refine za4 ?_ GE369.out) | exact HB.out)⟩

/-! ### laws_eqStepS: function 63 -/
def laws_eqStepS.l0 : Nat → List (S117) → List (S117) → Int → Option (Bool)
 | 0, _, _, _ => none
 | k + 1, x0, x1, x5 => if x5 < (x0.length : Int) then (if 0 ≤ x5 then (if x5 < (x1.length : Int) then ((laws_eqStep.f ((zac x0 x5).f0) ((zac x0 x5).f1) ((zac x1 x5).f0) ((zac x1 x5).f1)).bind fun t372 => (if t372 = true then (laws_eqStepS.l0 k x0 x1 (wrap64 (x5 + 1))) else (some false))) else (none)) else (none)) else (some true)
def laws_eqStepS.f (k : Nat) (l0 : List (S117)) (l1 : List (S117)) : Option (Bool) := if (l0.length : Int) = (l1.length : Int) then (laws_eqStepS.l0 k l0 l1 0) else (some false)
theorem laws_eqStepS.zb6 : ∀ k, (∀ y0 y1 y2, LeO (laws_eqStepS.l0 k y0 y1 y2) (laws_eqStepS.l0 (k + 1) y0 y1 y2))
 | 0 => fun _ _ _ r h => by simp [laws_eqStepS.l0] at h
 | k + 1 => by
  have ih0 := laws_eqStepS.zb6 k
  ·intro y0 y1 y2
   unfold laws_eqStepS.l0
   repeat' first
   | (with_reducible exact ih0 _ _ _)
   | (with_reducible exact LeO.refl _)
   | (with_reducible exact LeO.none _)
   | (with_reducible refine LeO.ite ?_ ?_)
   | (with_reducible refine LeO.bind ?_ (fun _ => ?_))
   | exact ih0 _ _ _
   | exact LeO.none _
   | refine LeO.ite ?_ ?_
   | refine LeO.bind ?_ (fun _ => ?_)
theorem laws_eqStepS.mono : ∀ a0 a1 k, LeO (laws_eqStepS.f k a0 a1) (laws_eqStepS.f (k + 1) a0 a1) := by
 intro a0 a1 k
 have ih0 := laws_eqStepS.zb6 k
 unfold laws_eqStepS.f
 repeat' first
   | (with_reducible exact ih0 _ _ _)
   | (with_reducible exact LeO.refl _)
   | (with_reducible exact LeO.none _)
   | (with_reducible refine LeO.ite ?_ ?_)
   | (with_reducible refine LeO.bind ?_ (fun _ => ?_))
   | exact ih0 _ _ _
   | exact LeO.none _
   | refine LeO.ite ?_ ?_
   | refine LeO.bind ?_ (fun _ => ?_)
def laws_eqStepS.T6 : Bool × List (List Nat × List Nat) := (true, [([], []), ([], []), ([0, 1], [0, 1]), ([2], [2]), ([], []), ([], []), ([4, 5], [4, 5]), ([6], [6]), ([3, 7], [3, 7]), ([8], [8])])
def laws_eqStepS.B6 : List Nat := [0, 0, 3, 7, 0, 0, 48, 112, 255, 511]
theorem laws_eqStepS.tab6 : rtab .any (opsOf Try.f63 6) = laws_eqStepS.T6 := by kernel_rfl
theorem laws_eqStepS.bits6 : waitsOk laws_eqStepS.T6.2 laws_eqStepS.B6 = true := by kernel_rfl
set_option maxHeartbeats 8000000 in
set_option maxRecDepth 100000 in
theorem laws_eqStepS.calls (k : Nat) (A0 : Option Addr) (c0 : Nat) (l0 : List (S117)) (A1 : Option Addr) (c1 : Nat) (l1 : List (S117)) (r : Bool) (w : World) (hr0 : Kd.C k117 w A0 l0.length l0) (hc0 : l0.length ≤ c0) (hr1 : Kd.C k117 w A1 l1.length l1) (hc1 : l1.length ≤ c1) (h : laws_eqStepS.f k l0 l1 = some r) :
  Calls Try.prog 63 #[.slice A0 l0.length c0, .slice A1 l1.length c1] w fun e w' => e = .returned (.bool r) ∧ Below w.heap.size w w' := by
 have hu117 := Try.underlying117
 have HR0 := Aside0.mk hr0
 have HC0 := Aside0.mk hc0
 clear hr0 hc0
 have HR1 := Aside0.mk hr1
 have HC1 := Aside0.mk hc1
 clear hr1 hc1
 have HB := Aside0.mk (Below.refl w.heap.size w)
 have H : (if (l0.length : Int) = (l1.length : Int) then (laws_eqStepS.l0 k l0 l1 0) else (some false)) = some r := h
 clear h
 by_cases c3 : (l0.length : Int) = (l1.length : Int)
 ·rw [if_pos c3] at H
  have c3b0 : ((l0.length : Int) == (l1.length : Int)) = true := beq_iff_eq.mpr c3
  have c3b1 : ((l0.length : Int) != (l1.length : Int)) = false := bne_eq_false_iff_eq.mpr c3
  have c3b2 : (l0.length == l1.length) = true := by first | simpa using c3 | (simp at c3 ⊢; omega)
  clear c3
  have H' := Aside0.mk H
  clear H
  go_enter Try.func63, Try.ntmps63
  go_wp2
  go_loopg [5] k (fun kq v5 w' => ∃ (x5_1 : Int), v5 = .int .i64 x5_1 ∧ Aside0 (laws_eqStepS.l0 kq l0 l1 x5_1 = some r) ∧ Aside0 (kq ≤ k) ∧ Aside0 (Below w.heap.size w w'))
  case atStart => exact ⟨(0), (by first | rfl | (simp; done) | (simp [*]; done)), H', ⟨Nat.le_refl _⟩, ⟨by repeat (first | (with_reducible first | exact HB.out | apply za3 | apply za0 | apply za2) | exact HB.out)⟩⟩
  case round =>
   clear H'
   try clear c1
   try clear p2
   try clear c3
   try clear c3b0
   try clear c3b1
   try clear c3b2
   obtain ⟨x5_1, rfl, HA, HK1, HB⟩ := hrel
   cases gk with
   | zero => exact absurd HA.out (by simp [laws_eqStepS.l0])
   | succ k1 =>
    have H := HA.out
    clear HA
    simp only [laws_eqStepS.l0] at H
    by_cases c4 : x5_1 < (l0.length : Int)
    ·rw [if_pos c4] at H
     have c4b0 : decide (x5_1 < (l0.length : Int)) = true := decide_eq_true c4
     clear c4
     by_cases c5 : 0 ≤ x5_1
     ·rw [if_pos c5] at H
      have c5b0 : decide (0 ≤ x5_1) = true := decide_eq_true c5
      clear c5
      by_cases c6 : x5_1 < (l1.length : Int)
      ·rw [if_pos c6] at H
       have c6b0 : decide (x5_1 < (l1.length : Int)) = true := decide_eq_true c6
       clear c6
       replace H := Option.bind_eq_some_iff.mp H
       obtain ⟨t372, A70, H⟩ := H
       replace H : (if t372 = true then (laws_eqStepS.l0 k1 l0 l1 (wrap64 (x5_1 + 1))) else (some false)) = some r := H
       have A7 := Aside0.mk A70
       clear A70
       by_cases c8 : t372 = true
       ·subst c8
        have H1 : (laws_eqStepS.l0 k1 l0 l1 (wrap64 (x5_1 + 1))) = some r := by rw [if_pos rfl] at H; exact H
        clear H
        have H := H1
        clear H1
        have H' := Aside0.mk H
        clear H
        try go_wp2
        have n0_ := Aside0.mk (za2 HB.out)
        clear HB
        have HB := n0_
        clear n0_
        have p370 : 0 ≤ (x5_1 : Int) := of_decide_eq_true (by first | (with_reducible assumption) | assumption)
        have q370 : x5_1 < (l0.length : Int) := of_decide_eq_true (by first | (with_reducible assumption) | assumption)
        obtain ⟨ad370, e370, hx370_0, hx370_1⟩ := at_T117 HR0.out x5_1 p370 q370
        have hw370_1 := hx370_1
        have hw370_0 := hx370_0
        cases e370
        replace hx370_0 := (HB.out.cell (World.block_lt_of_cell? w _ hx370_0)).trans hx370_0
        replace hx370_1 := (HB.out.cell (World.block_lt_of_cell? w _ hx370_1)).trans hx370_1
        replace p370 := eq_true p370
        replace q370 := eq_true q370
        have p371 : 0 ≤ (x5_1 : Int) := of_decide_eq_true (by first | (with_reducible assumption) | assumption)
        have q371 : x5_1 < (l1.length : Int) := of_decide_eq_true (by first | (with_reducible assumption) | assumption)
        obtain ⟨ad371, e371, hx371_0, hx371_1⟩ := at_T117 HR1.out x5_1 p371 q371
        have hw371_1 := hx371_1
        have hw371_0 := hx371_0
        cases e371
        replace hx371_0 := (HB.out.cell (World.block_lt_of_cell? w _ hx371_0)).trans hx371_0
        replace hx371_1 := (HB.out.cell (World.block_lt_of_cell? w _ hx371_1)).trans hx371_1
        replace p371 := eq_true p371
        replace q371 := eq_true q371
        refine start_ (n := 10) (S := fun w' => w'.cell? (ad370.add ((x5_1).toNat * 2)) = some (.int .i64 ((zac l0 x5_1).f0)) ∧ w'.cell? ⟨(ad370.add ((x5_1).toNat * 2)).block, (ad370.add ((x5_1).toNat * 2)).off + 1, none⟩ = some (.int .i64 ((zac l0 x5_1).f1)) ∧ w'.cell? (ad371.add ((x5_1).toNat * 2)) = some (.int .i64 ((zac l1 x5_1).f0)) ∧ w'.cell? ⟨(ad371.add ((x5_1).toNat * 2)).block, (ad371.add ((x5_1).toNat * 2)).off + 1, none⟩ = some (.int .i64 ((zac l1 x5_1).f1))) (ds := []) #[false, false, false, false, false, false, false, false, false, false] (by kernel_rfl) rfl rfl ⟨((HB.out.cell (World.block_lt_of_cell? w _ hw370_0)).trans hw370_0), ((HB.out.cell (World.block_lt_of_cell? w _ hw370_1)).trans hw370_1), ((HB.out.cell (World.block_lt_of_cell? w _ hw371_0)).trans hw371_0), ((HB.out.cell (World.block_lt_of_cell? w _ hw371_1)).trans hw371_1)⟩ (fun hHeld => ?_); refine with_tabW laws_eqStepS.tab6 laws_eqStepS.bits6 (fun HT_ HW_ => ?_)
        generalize wr.drew = w9 at HB hx370_0 hx370_1 hx371_0 hx371_1 hHeld ⊢
        refine pure_ (i := 0) (N := some 17) (v := ?_) (a' := ?_) #[true, false, false, false, false, false, false, false, false, false] rfl rfl (zb7 HT_.out (by kernel_rfl)) (fun _ _ _ h => h) (Or.inl ⟨by rfl, ?_⟩) ?_ ?_
        rotate_left
        ·intro w'
         go_simp
         with_reducible rfl
        rotate_left
        ·simp only [Act.put, List.setIfInBounds_toArray, List.set_cons_zero, List.set_cons_succ, i64_w, i32_w]
         rfl
        refine pure_ (i := 1) (N := some 18) (v := ?_) (a' := ?_) #[true, true, false, false, false, false, false, false, false, false] rfl rfl (zb7 HT_.out (by kernel_rfl)) (fun _ _ _ h => h) (Or.inl ⟨by rfl, ?_⟩) ?_ ?_
        rotate_left
        ·intro w'
         go_simp
         with_reducible rfl
        rotate_left
        ·simp only [Act.put, List.setIfInBounds_toArray, List.set_cons_zero, List.set_cons_succ, i64_w, i32_w]
         rfl
        refine pure_ (i := 2) (N := some 19) (v := ?_) (a' := ?_) #[true, true, true, false, false, false, false, false, false, false] rfl rfl (zb7 HT_.out (by kernel_rfl)) (fun _ _ _ h => h) (Or.inl ⟨by rfl, ?_⟩) ?_ ?_
        rotate_left
        ·intro w'
         go_simp
         with_reducible rfl
        rotate_left
        ·simp only [Act.put, List.setIfInBounds_toArray, List.set_cons_zero, List.set_cons_succ, i64_w, i32_w]
         rfl
        refine pure_ (i := 4) (N := some 21) (v := ?_) (a' := ?_) #[true, true, true, false, true, false, false, false, false, false] rfl rfl (zb7 HT_.out (by kernel_rfl)) (fun _ _ _ h => h) (Or.inl ⟨by rfl, ?_⟩) ?_ ?_
        rotate_left
        ·intro w'
         go_simp
         with_reducible rfl
        rotate_left
        ·simp only [Act.put, List.setIfInBounds_toArray, List.set_cons_zero, List.set_cons_succ, i64_w, i32_w]
         rfl
        refine pure_ (i := 5) (N := some 22) (v := ?_) (a' := ?_) #[true, true, true, false, true, true, false, false, false, false] rfl rfl (zb7 HT_.out (by kernel_rfl)) (fun _ _ _ h => h) (Or.inl ⟨by rfl, ?_⟩) ?_ ?_
        rotate_left
        ·intro w'
         go_simp
         with_reducible rfl
        rotate_left
        ·simp only [Act.put, List.setIfInBounds_toArray, List.set_cons_zero, List.set_cons_succ, i64_w, i32_w]
         rfl
        refine pure_ (i := 6) (N := some 23) (v := ?_) (a' := ?_) #[true, true, true, false, true, true, true, false, false, false] rfl rfl (zb7 HT_.out (by kernel_rfl)) (fun _ _ _ h => h) (Or.inl ⟨by rfl, ?_⟩) ?_ ?_
        rotate_left
        ·intro w'
         go_simp
         with_reducible rfl
        rotate_left
        ·simp only [Act.put, List.setIfInBounds_toArray, List.set_cons_zero, List.set_cons_succ, i64_w, i32_w]
         rfl
        refine take_ (i := 3) (N := some 20) (v := ?_) (a' := ?_) #[true, true, true, true, true, true, true, false, false, false] rfl rfl (take_ofW HT_.out HW_.out (by kernel_rfl)) (fun _ _ _ h => h) (Or.inl ⟨by rfl, ?_⟩) hHeld ?_ ?_
        rotate_left
        ·rintro w' ⟨s0, s1, s2, s3⟩
         go_simp
         with_reducible rfl
        rotate_left
        ·simp only [Act.put, List.setIfInBounds_toArray, List.set_cons_zero, List.set_cons_succ, i64_w, i32_w]
         rfl
        refine take_ (i := 7) (N := some 24) (v := ?_) (a' := ?_) #[true, true, true, true, true, true, true, true, false, false] rfl rfl (take_ofW HT_.out HW_.out (by kernel_rfl)) (fun _ _ _ h => h) (Or.inl ⟨by rfl, ?_⟩) hHeld ?_ ?_
        rotate_left
        ·rintro w' ⟨s0, s1, s2, s3⟩
         go_simp
         with_reducible rfl
        rotate_left
        ·simp only [Act.put, List.setIfInBounds_toArray, List.set_cons_zero, List.set_cons_succ, i64_w, i32_w]
         rfl
        refine one_ (i := 8) (N := some 25) #[true, true, true, true, true, true, true, true, true, false] rfl rfl (one_of HT_.out (by kernel_rfl)) (by decide) (fun K hK => ?_)
        refine goes_ Try.func130 (by kernel_rfl) rfl #[.agg #[.int .i64 ((zac l0 x5_1).f0), .int .i64 ((zac l0 x5_1).f1)], .agg #[.int .i64 ((zac l1 x5_1).f0), .int .i64 ((zac l1 x5_1).f1)]] (by rfl) rfl rfl (by (try simp only [List.map_toArray, List.map_cons, List.map_nil]); first | done | rfl | (simp only [List.length_drop, List.length_take]; rfl)) ?_
        with_reducible refine (laws_eqStep.calls ((zac l0 x5_1).f0) ((zac l0 x5_1).f1) ((zac l1 x5_1).f0) ((zac l1 x5_1).f1) true _ A7.out).mono ?_
        rintro e w10 ⟨rfl, hb⟩
        refine ⟨_, rfl, ?_⟩
        have n0_ := Aside0.mk (zad (by repeat (first | (with_reducible first | exact HB.out | apply za3 | apply za0 | apply za2) | exact HB.out)) hb)
        clear HB
        have HB := n0_
        clear n0_
        (try clear hb)
        (try clear hb2)
        (try clear hk)
        (try clear hi)
        refine hK.out _ _ ⟨((HB.out.cell (World.block_lt_of_cell? w _ hw370_0)).trans hw370_0), ((HB.out.cell (World.block_lt_of_cell? w _ hw370_1)).trans hw370_1), ((HB.out.cell (World.block_lt_of_cell? w _ hw371_0)).trans hw371_0), ((HB.out.cell (World.block_lt_of_cell? w _ hw371_1)).trans hw371_1)⟩ (fun hHeld => ?_)
        clear hK K
        refine norm_ (a' := ?_) ?_ ?_
        rotate_left
        ·show Act.put _ (some 25) _ = _
         simp only [Act.put, List.setIfInBounds_toArray, List.set_cons_zero, List.set_cons_succ, i64_w, i32_w]
         rfl
        refine pure_ (i := 9) (N := some 26) (v := ?_) (a' := ?_) #[true, true, true, true, true, true, true, true, true, true] rfl rfl (zb7 HT_.out (by kernel_rfl)) (fun _ _ _ h => h) (Or.inl ⟨by rfl, ?_⟩) ?_ ?_
        rotate_left
        ·intro w'
         go_simp
         with_reducible rfl
        rotate_left
        ·simp only [Act.put, List.setIfInBounds_toArray, List.set_cons_zero, List.set_cons_succ, i64_w, i32_w]
         rfl
        refine done_ (done_of HT_.out (by kernel_rfl)) ?_
        try go_wp2
        go_roundg k1
        case measure => have := HK1.out; omega
        case rel => exact ⟨(wrap64 (x5_1 + 1)), (by first | rfl | (simp; done) | (simp [*]; done)), H', ⟨by have := HK1.out; omega⟩, ⟨by repeat (first | (with_reducible first | exact HB.out | apply za3 | apply za0 | apply za2) | exact HB.out)⟩⟩
       ·replace c8 := Bool.eq_false_iff.mpr c8
        subst c8
        have H1 : (some false) = some r := by rw [if_neg (show ¬ (false = true) by decide)] at H; exact H
        clear H
        have H := H1
        clear H1
        obtain rfl := Option.some.inj H
        try go_wp2
        have n0_ := Aside0.mk (za2 HB.out)
        clear HB
        have HB := n0_
        clear n0_
        have p370 : 0 ≤ (x5_1 : Int) := of_decide_eq_true (by first | (with_reducible assumption) | assumption)
        have q370 : x5_1 < (l0.length : Int) := of_decide_eq_true (by first | (with_reducible assumption) | assumption)
        obtain ⟨ad370, e370, hx370_0, hx370_1⟩ := at_T117 HR0.out x5_1 p370 q370
        have hw370_1 := hx370_1
        have hw370_0 := hx370_0
        cases e370
        replace hx370_0 := (HB.out.cell (World.block_lt_of_cell? w _ hx370_0)).trans hx370_0
        replace hx370_1 := (HB.out.cell (World.block_lt_of_cell? w _ hx370_1)).trans hx370_1
        replace p370 := eq_true p370
        replace q370 := eq_true q370
        have p371 : 0 ≤ (x5_1 : Int) := of_decide_eq_true (by first | (with_reducible assumption) | assumption)
        have q371 : x5_1 < (l1.length : Int) := of_decide_eq_true (by first | (with_reducible assumption) | assumption)
        obtain ⟨ad371, e371, hx371_0, hx371_1⟩ := at_T117 HR1.out x5_1 p371 q371
        have hw371_1 := hx371_1
        have hw371_0 := hx371_0
        cases e371
        replace hx371_0 := (HB.out.cell (World.block_lt_of_cell? w _ hx371_0)).trans hx371_0
        replace hx371_1 := (HB.out.cell (World.block_lt_of_cell? w _ hx371_1)).trans hx371_1
        replace p371 := eq_true p371
        replace q371 := eq_true q371
        refine start_ (n := 10) (S := fun w' => w'.cell? (ad370.add ((x5_1).toNat * 2)) = some (.int .i64 ((zac l0 x5_1).f0)) ∧ w'.cell? ⟨(ad370.add ((x5_1).toNat * 2)).block, (ad370.add ((x5_1).toNat * 2)).off + 1, none⟩ = some (.int .i64 ((zac l0 x5_1).f1)) ∧ w'.cell? (ad371.add ((x5_1).toNat * 2)) = some (.int .i64 ((zac l1 x5_1).f0)) ∧ w'.cell? ⟨(ad371.add ((x5_1).toNat * 2)).block, (ad371.add ((x5_1).toNat * 2)).off + 1, none⟩ = some (.int .i64 ((zac l1 x5_1).f1))) (ds := []) #[false, false, false, false, false, false, false, false, false, false] (by kernel_rfl) rfl rfl ⟨((HB.out.cell (World.block_lt_of_cell? w _ hw370_0)).trans hw370_0), ((HB.out.cell (World.block_lt_of_cell? w _ hw370_1)).trans hw370_1), ((HB.out.cell (World.block_lt_of_cell? w _ hw371_0)).trans hw371_0), ((HB.out.cell (World.block_lt_of_cell? w _ hw371_1)).trans hw371_1)⟩ (fun hHeld => ?_); refine with_tabW laws_eqStepS.tab6 laws_eqStepS.bits6 (fun HT_ HW_ => ?_)
        generalize wr.drew = w11 at HB hx370_0 hx370_1 hx371_0 hx371_1 hHeld ⊢
        refine pure_ (i := 0) (N := some 17) (v := ?_) (a' := ?_) #[true, false, false, false, false, false, false, false, false, false] rfl rfl (zb7 HT_.out (by kernel_rfl)) (fun _ _ _ h => h) (Or.inl ⟨by rfl, ?_⟩) ?_ ?_
        rotate_left
        ·intro w'
         go_simp
         with_reducible rfl
        rotate_left
        ·simp only [Act.put, List.setIfInBounds_toArray, List.set_cons_zero, List.set_cons_succ, i64_w, i32_w]
         rfl
        refine pure_ (i := 1) (N := some 18) (v := ?_) (a' := ?_) #[true, true, false, false, false, false, false, false, false, false] rfl rfl (zb7 HT_.out (by kernel_rfl)) (fun _ _ _ h => h) (Or.inl ⟨by rfl, ?_⟩) ?_ ?_
        rotate_left
        ·intro w'
         go_simp
         with_reducible rfl
        rotate_left
        ·simp only [Act.put, List.setIfInBounds_toArray, List.set_cons_zero, List.set_cons_succ, i64_w, i32_w]
         rfl
        refine pure_ (i := 2) (N := some 19) (v := ?_) (a' := ?_) #[true, true, true, false, false, false, false, false, false, false] rfl rfl (zb7 HT_.out (by kernel_rfl)) (fun _ _ _ h => h) (Or.inl ⟨by rfl, ?_⟩) ?_ ?_
        rotate_left
        ·intro w'
         go_simp
         with_reducible rfl
        rotate_left
        ·simp only [Act.put, List.setIfInBounds_toArray, List.set_cons_zero, List.set_cons_succ, i64_w, i32_w]
         rfl
        refine pure_ (i := 4) (N := some 21) (v := ?_) (a' := ?_) #[true, true, true, false, true, false, false, false, false, false] rfl rfl (zb7 HT_.out (by kernel_rfl)) (fun _ _ _ h => h) (Or.inl ⟨by rfl, ?_⟩) ?_ ?_
        rotate_left
        ·intro w'
         go_simp
         with_reducible rfl
        rotate_left
        ·simp only [Act.put, List.setIfInBounds_toArray, List.set_cons_zero, List.set_cons_succ, i64_w, i32_w]
         rfl
        refine pure_ (i := 5) (N := some 22) (v := ?_) (a' := ?_) #[true, true, true, false, true, true, false, false, false, false] rfl rfl (zb7 HT_.out (by kernel_rfl)) (fun _ _ _ h => h) (Or.inl ⟨by rfl, ?_⟩) ?_ ?_
        rotate_left
        ·intro w'
         go_simp
         with_reducible rfl
        rotate_left
        ·simp only [Act.put, List.setIfInBounds_toArray, List.set_cons_zero, List.set_cons_succ, i64_w, i32_w]
         rfl
        refine pure_ (i := 6) (N := some 23) (v := ?_) (a' := ?_) #[true, true, true, false, true, true, true, false, false, false] rfl rfl (zb7 HT_.out (by kernel_rfl)) (fun _ _ _ h => h) (Or.inl ⟨by rfl, ?_⟩) ?_ ?_
        rotate_left
        ·intro w'
         go_simp
         with_reducible rfl
        rotate_left
        ·simp only [Act.put, List.setIfInBounds_toArray, List.set_cons_zero, List.set_cons_succ, i64_w, i32_w]
         rfl
        refine take_ (i := 3) (N := some 20) (v := ?_) (a' := ?_) #[true, true, true, true, true, true, true, false, false, false] rfl rfl (take_ofW HT_.out HW_.out (by kernel_rfl)) (fun _ _ _ h => h) (Or.inl ⟨by rfl, ?_⟩) hHeld ?_ ?_
        rotate_left
        ·rintro w' ⟨s0, s1, s2, s3⟩
         go_simp
         with_reducible rfl
        rotate_left
        ·simp only [Act.put, List.setIfInBounds_toArray, List.set_cons_zero, List.set_cons_succ, i64_w, i32_w]
         rfl
        refine take_ (i := 7) (N := some 24) (v := ?_) (a' := ?_) #[true, true, true, true, true, true, true, true, false, false] rfl rfl (take_ofW HT_.out HW_.out (by kernel_rfl)) (fun _ _ _ h => h) (Or.inl ⟨by rfl, ?_⟩) hHeld ?_ ?_
        rotate_left
        ·rintro w' ⟨s0, s1, s2, s3⟩
         go_simp
         with_reducible rfl
        rotate_left
        ·simp only [Act.put, List.setIfInBounds_toArray, List.set_cons_zero, List.set_cons_succ, i64_w, i32_w]
         rfl
        refine one_ (i := 8) (N := some 25) #[true, true, true, true, true, true, true, true, true, false] rfl rfl (one_of HT_.out (by kernel_rfl)) (by decide) (fun K hK => ?_)
        refine goes_ Try.func130 (by kernel_rfl) rfl #[.agg #[.int .i64 ((zac l0 x5_1).f0), .int .i64 ((zac l0 x5_1).f1)], .agg #[.int .i64 ((zac l1 x5_1).f0), .int .i64 ((zac l1 x5_1).f1)]] (by rfl) rfl rfl (by (try simp only [List.map_toArray, List.map_cons, List.map_nil]); first | done | rfl | (simp only [List.length_drop, List.length_take]; rfl)) ?_
        with_reducible refine (laws_eqStep.calls ((zac l0 x5_1).f0) ((zac l0 x5_1).f1) ((zac l1 x5_1).f0) ((zac l1 x5_1).f1) false _ A7.out).mono ?_
        rintro e w12 ⟨rfl, hb⟩
        refine ⟨_, rfl, ?_⟩
        have n0_ := Aside0.mk (zad (by repeat (first | (with_reducible first | exact HB.out | apply za3 | apply za0 | apply za2) | exact HB.out)) hb)
        clear HB
        have HB := n0_
        clear n0_
        (try clear hb)
        (try clear hb2)
        (try clear hk)
        (try clear hi)
        refine hK.out _ _ ⟨((HB.out.cell (World.block_lt_of_cell? w _ hw370_0)).trans hw370_0), ((HB.out.cell (World.block_lt_of_cell? w _ hw370_1)).trans hw370_1), ((HB.out.cell (World.block_lt_of_cell? w _ hw371_0)).trans hw371_0), ((HB.out.cell (World.block_lt_of_cell? w _ hw371_1)).trans hw371_1)⟩ (fun hHeld => ?_)
        clear hK K
        refine norm_ (a' := ?_) ?_ ?_
        rotate_left
        ·show Act.put _ (some 25) _ = _
         simp only [Act.put, List.setIfInBounds_toArray, List.set_cons_zero, List.set_cons_succ, i64_w, i32_w]
         rfl
        refine pure_ (i := 9) (N := some 26) (v := ?_) (a' := ?_) #[true, true, true, true, true, true, true, true, true, true] rfl rfl (zb7 HT_.out (by kernel_rfl)) (fun _ _ _ h => h) (Or.inl ⟨by rfl, ?_⟩) ?_ ?_
        rotate_left
        ·intro w'
         go_simp
         with_reducible rfl
        rotate_left
        ·simp only [Act.put, List.setIfInBounds_toArray, List.set_cons_zero, List.set_cons_succ, i64_w, i32_w]
         rfl
        refine done_ (done_of HT_.out (by kernel_rfl)) ?_
        try go_wp2
        go_ret
        exact ⟨by first | rfl | (simp [zae, zaf] <;> rfl) | (simp [*, zae, zaf] <;> rfl), by repeat (first | (with_reducible first | exact HB.out | apply za3 | apply za0 | apply za2) | exact HB.out)⟩
      ·rw [if_neg c6] at H
       exact absurd H (by simp)
     ·rw [if_neg c5] at H
      exact absurd H (by simp)
    ·rw [if_neg c4] at H
     have c4b0 : decide (x5_1 < (l0.length : Int)) = false := decide_eq_false c4
     clear c4
     obtain rfl := Option.some.inj H
     go_wp2
     go_ret
     exact ⟨by first | rfl | (simp [zae, zaf] <;> rfl) | (simp [*, zae, zaf] <;> rfl), by repeat (first | (with_reducible first | exact HB.out | apply za3 | apply za0 | apply za2) | exact HB.out)⟩
 ·rw [if_neg c3] at H
  have c3b0 : ((l0.length : Int) == (l1.length : Int)) = false := beq_eq_false_iff_ne.mpr c3
  have c3b1 : ((l0.length : Int) != (l1.length : Int)) = true := bne_iff_ne.mpr c3
  have c3b2 : (l0.length == l1.length) = false := by first | simpa using c3 | (simp at c3 ⊢; omega)
  obtain rfl := Option.some.inj H
  go_enter Try.func63, Try.ntmps63
  go_wp2
  go_ret
  exact ⟨by first | rfl | (simp [zae, zaf] <;> rfl) | (simp [*, zae, zaf] <;> rfl), by repeat (first | (with_reducible first | exact HB.out | apply za3 | apply za0 | apply za2) | exact HB.out)⟩

/-! ### laws_eqPlan: function 23 -/
def laws_eqPlan.f (k : Nat) (a0_0 : Int) (l0_1 : List (S117)) (l0_2 : List Int) (a1_0 : Int) (l1_1 : List (S117)) (l1_2 : List Int) : Option (Bool) := if a0_0 = a1_0 then ((laws_eqStepS.f k l0_1 l1_1).bind fun t375 => (if t375 = true then ((laws_eqIntS.f k l0_2 l1_2).bind fun t376 => (if t376 = true then (some true) else (some false))) else (some false))) else (some false)
theorem laws_eqPlan.mono : ∀ a0 a1 a2 a3 a4 a5 k, LeO (laws_eqPlan.f k a0 a1 a2 a3 a4 a5) (laws_eqPlan.f (k + 1) a0 a1 a2 a3 a4 a5) := by
 intro a0 a1 a2 a3 a4 a5 k
 unfold laws_eqPlan.f
 repeat' first
   | (with_reducible exact laws_eqIntS.mono _ _ _)
   | (with_reducible exact laws_eqStepS.mono _ _ _)
   | (with_reducible exact LeO.refl _)
   | (with_reducible exact LeO.none _)
   | (with_reducible refine LeO.ite ?_ ?_)
   | (with_reducible refine LeO.bind ?_ (fun _ => ?_))
   | exact laws_eqIntS.mono _ _ _
   | exact laws_eqStepS.mono _ _ _
   | exact LeO.none _
   | refine LeO.ite ?_ ?_
   | refine LeO.bind ?_ (fun _ => ?_)
set_option maxHeartbeats 8000000 in
set_option maxRecDepth 100000 in
theorem laws_eqPlan.calls (k : Nat) (a0_0 : Int) (A0_1 : Option Addr) (c0_1 : Nat) (l0_1 : List (S117)) (A0_2 : Option Addr) (c0_2 : Nat) (l0_2 : List Int) (a1_0 : Int) (A1_1 : Option Addr) (c1_1 : Nat) (l1_1 : List (S117)) (A1_2 : Option Addr) (c1_2 : Nat) (l1_2 : List Int) (r : Bool) (w : World) (hr0_1 : Kd.C k117 w A0_1 l0_1.length l0_1) (hc0_1 : l0_1.length ≤ c0_1) (hr0_2 : Kd.C (Kd.int .i64) w A0_2 l0_2.length l0_2) (hc0_2 : l0_2.length ≤ c0_2) (hr1_1 : Kd.C k117 w A1_1 l1_1.length l1_1) (hc1_1 : l1_1.length ≤ c1_1) (hr1_2 : Kd.C (Kd.int .i64) w A1_2 l1_2.length l1_2) (hc1_2 : l1_2.length ≤ c1_2) (h : laws_eqPlan.f k a0_0 l0_1 l0_2 a1_0 l1_1 l1_2 = some r) :
  Calls Try.prog 23 #[.agg #[.int .i64 a0_0, .slice A0_1 l0_1.length c0_1, .slice A0_2 l0_2.length c0_2], .agg #[.int .i64 a1_0, .slice A1_1 l1_1.length c1_1, .slice A1_2 l1_2.length c1_2]] w fun e w' => e = .returned (.bool r) ∧ Below w.heap.size w w' := by
 have hu36 := Try.underlying36
 have HR0_1 := Aside0.mk hr0_1
 have HC0_1 := Aside0.mk hc0_1
 clear hr0_1 hc0_1
 have HR0_2 := Aside0.mk hr0_2
 have HC0_2 := Aside0.mk hc0_2
 clear hr0_2 hc0_2
 have HR1_1 := Aside0.mk hr1_1
 have HC1_1 := Aside0.mk hc1_1
 clear hr1_1 hc1_1
 have HR1_2 := Aside0.mk hr1_2
 have HC1_2 := Aside0.mk hc1_2
 clear hr1_2 hc1_2
 have HB := Aside0.mk (Below.refl w.heap.size w)
 have H : (if a0_0 = a1_0 then ((laws_eqStepS.f k l0_1 l1_1).bind fun t375 => (if t375 = true then ((laws_eqIntS.f k l0_2 l1_2).bind fun t376 => (if t376 = true then (some true) else (some false))) else (some false))) else (some false)) = some r := h
 clear h
 by_cases c3 : a0_0 = a1_0
 ·rw [if_pos c3] at H
  have c3b0 : (a0_0 == a1_0) = true := beq_iff_eq.mpr c3
  have c3b1 : (a0_0 != a1_0) = false := bne_eq_false_iff_eq.mpr c3
  clear c3
  replace H := Option.bind_eq_some_iff.mp H
  obtain ⟨t375, A40, H⟩ := H
  replace H : (if t375 = true then ((laws_eqIntS.f k l0_2 l1_2).bind fun t376 => (if t376 = true then (some true) else (some false))) else (some false)) = some r := H
  have A4 := Aside0.mk A40
  clear A40
  by_cases c5 : t375 = true
  ·subst c5
   have H1 : ((laws_eqIntS.f k l0_2 l1_2).bind fun t376 => (if t376 = true then (some true) else (some false))) = some r := by rw [if_pos rfl] at H; exact H
   clear H
   have H := H1
   clear H1
   replace H := Option.bind_eq_some_iff.mp H
   obtain ⟨t376, A60, H⟩ := H
   replace H : (if t376 = true then (some true) else (some false)) = some r := H
   have A6 := Aside0.mk A60
   clear A60
   by_cases c7 : t376 = true
   ·subst c7
    have H1 : (some true) = some r := by rw [if_pos rfl] at H; exact H
    clear H
    have H := H1
    clear H1
    obtain rfl := Option.some.inj H
    go_enter Try.func23, Try.ntmps23
    go_wp2_with (first | ((with_reducible refine zak (N := 2) rfl ?_); refine zaj ?hg (N := 2) ?hd (cs := #[.int .i64 a0_0, .slice A0_1 l0_1.length c0_1, .slice A0_2 l0_2.length c0_2]) (t := 36) ?hr ?_; (case hd => rfl); (case hg => rfl); (case hr => first | (go_simp; done) | (go_simp; rfl)); intro gb373 hg w8 hbox hb; have n0_ := Aside0.mk (zad (by repeat (first | (with_reducible first | exact HB.out | apply za3 | apply za0 | apply za2) | exact HB.out)) hb); have n1_ := Aside0.mk (hbox); have n2_ := Aside0.mk ((by rw [hg]; exact (za9 (by repeat (first | (with_reducible first | exact HB.out | apply za3 | apply za0 | apply za2) | exact HB.out))) : w.heap.size ≤ gb373)); have n3_ := Aside0.mk ((by rw [hg]; exact (za9 (by repeat (first | (with_reducible first | exact HB.out | apply za3 | apply za0 | apply za2) | exact HB.out))) : w.heap.size ≤ gb373)); clear HB; have HB := n0_; have BK373 := n1_; have GW373 := n2_; have GE373 := n3_; clear n0_ n1_ n2_ n3_; clear hb hbox hg) | ((with_reducible refine zak (N := 3) rfl ?_); refine zaj ?hg (N := 3) ?hd (cs := #[.int .i64 a1_0, .slice A1_1 l1_1.length c1_1, .slice A1_2 l1_2.length c1_2]) (t := 36) ?hr ?_; (case hd => rfl); (case hg => rfl); (case hr => first | (go_simp; done) | (go_simp; rfl)); intro gb374 hg w9 hbox hb; have n0_ := Aside0.mk (zaa (g := gb373) (o := .cells #[.int .i64 a0_0, .slice A0_1 l0_1.length c0_1, .slice A0_2 l0_2.length c0_2] 36 (0, 0)) (by (with_reducible repeat (first | refine za7 ?_ _ | refine za8 ?_ | refine za6 ?_ _)); exact BK373.out) hb); have n1_ := Aside0.mk (zad (by repeat (first | (with_reducible first | exact HB.out | apply za3 | apply za0 | apply za2 | refine za4 ?_ GE373.out) | exact HB.out)) hb); have n2_ := Aside0.mk (hbox); have n3_ := Aside0.mk ((by rw [hg]; exact (za9 (by repeat (first | (with_reducible first | exact HB.out | apply za3 | apply za0 | apply za2 | refine za4 ?_ GE373.out) | exact HB.out))) : w.heap.size ≤ gb374)); have n4_ := Aside0.mk ((by rw [hg]; exact (za9 (by repeat (first | (with_reducible first | exact HB.out | apply za3 | apply za0 | apply za2 | refine za4 ?_ GE373.out) | exact HB.out))) : w.heap.size ≤ gb374)); have n5_ := Aside0.mk ((by rw [hg]; exact Nat.ne_of_lt (zau (g := gb373) (o := .cells #[.int .i64 a0_0, .slice A0_1 l0_1.length c0_1, .slice A0_2 l0_2.length c0_2] 36 (0, 0)) (by (with_reducible repeat (first | refine za7 ?_ _ | refine za8 ?_ | refine za6 ?_ _)); exact BK373.out)) : gb373 ≠ gb374)); have n6_ := Aside0.mk ((by rw [hg]; exact Nat.ne_of_gt (zau (g := gb373) (o := .cells #[.int .i64 a0_0, .slice A0_1 l0_1.length c0_1, .slice A0_2 l0_2.length c0_2] 36 (0, 0)) (by (with_reducible repeat (first | refine za7 ?_ _ | refine za8 ?_ | refine za6 ?_ _)); exact BK373.out)) : gb374 ≠ gb373)); clear BK373; clear HB; have BK373 := n0_; have HB := n1_; have BK374 := n2_; have GW374 := n3_; have GE374 := n4_; have NB373_374 := n5_; have NB374_373 := n6_; clear n0_ n1_ n2_ n3_ n4_ n5_ n6_; clear hb hbox hg; have hnb10 := NB373_374.out; have hnc10 := NB374_373.out; have hcz11_0 : w9.cell? ⟨gb373, 0, none⟩ = some (.int .i64 a0_0) := (za5 BK373.out 0).trans rfl; have hcz11_1 : w9.cell? ⟨gb373, 1, none⟩ = some (.slice A0_1 l0_1.length c0_1) := (za5 BK373.out 1).trans rfl; have hcz11_2 : w9.cell? ⟨gb373, 2, none⟩ = some (.slice A0_2 l0_2.length c0_2) := (za5 BK373.out 2).trans rfl; have hfz11_0 := za1 BK373.out 0; have hfz11_1 := za1 BK373.out 1; have hfz11_2 := za1 BK373.out 2; have hcz12_0 : w9.cell? ⟨gb374, 0, none⟩ = some (.int .i64 a1_0) := (za5 BK374.out 0).trans rfl; have hcz12_1 : w9.cell? ⟨gb374, 1, none⟩ = some (.slice A1_1 l1_1.length c1_1) := (za5 BK374.out 1).trans rfl; have hcz12_2 : w9.cell? ⟨gb374, 2, none⟩ = some (.slice A1_2 l1_2.length c1_2) := (za5 BK374.out 2).trans rfl; have hfz12_0 := za1 BK374.out 0; have hfz12_1 := za1 BK374.out 1; have hfz12_2 := za1 BK374.out 2) | ((with_reducible refine zai (f := 63) rfl ?_); refine zb1 (some 14) rfl rfl Try.func63 (by kernel_rfl) rfl #[.slice A0_1 l0_1.length c0_1, .slice A1_1 l1_1.length c1_1] rfl (by (try simp only [List.map_toArray, List.map_cons, List.map_nil]); first | done | rfl | (simp only [List.length_drop, List.length_take]; rfl)) ?_; (with_reducible refine (laws_eqStepS.calls k _ _ l0_1 _ _ l1_1 true _ ?side1 ?side2 ?side3 ?side4 A4.out).mono ?_); (case side1 => repeat (first | exact (Kd.zam HR0_1.out HB.out) | (with_reducible refine Kd.zat ?_ _) | (with_reducible refine Kd.zar ?_ _) | (with_reducible refine Kd.zaw ?_))); (case side2 => exact HC0_1.out); (case side3 => repeat (first | exact (Kd.zam HR1_1.out HB.out) | (with_reducible refine Kd.zat ?_ _) | (with_reducible refine Kd.zar ?_ _) | (with_reducible refine Kd.zaw ?_))); (case side4 => exact HC1_1.out); rintro e w13 ⟨rfl, hb⟩; refine ⟨_, rfl, ?_⟩; have n0_ := Aside0.mk (zaa (g := gb373) (o := .cells #[.int .i64 a0_0, .slice A0_1 l0_1.length c0_1, .slice A0_2 l0_2.length c0_2] 36 (0, 0)) (by (with_reducible repeat (first | refine za7 ?_ _ | refine za8 ?_ | refine za6 ?_ _)); exact BK373.out) hb); have n1_ := Aside0.mk (zaa (g := gb374) (o := .cells #[.int .i64 a1_0, .slice A1_1 l1_1.length c1_1, .slice A1_2 l1_2.length c1_2] 36 (0, 0)) (by (with_reducible repeat (first | refine za7 ?_ _ | refine za8 ?_ | refine za6 ?_ _)); exact BK374.out) hb); have n2_ := Aside0.mk (zad (by repeat (first | (with_reducible first | exact HB.out | apply za3 | apply za0 | apply za2 | refine za4 ?_ GE373.out | refine za4 ?_ GE374.out) | exact HB.out)) hb); clear BK373; clear BK374; clear HB; have BK373 := n0_; have BK374 := n1_; have HB := n2_; clear n0_ n1_ n2_; (try clear hb); (try clear hb2); (try clear hk); (try clear hi); have hcz14_0 : w13.cell? ⟨gb373, 0, none⟩ = some (.int .i64 a0_0) := (za5 BK373.out 0).trans rfl; have hcz14_1 : w13.cell? ⟨gb373, 1, none⟩ = some (.slice A0_1 l0_1.length c0_1) := (za5 BK373.out 1).trans rfl; have hcz14_2 : w13.cell? ⟨gb373, 2, none⟩ = some (.slice A0_2 l0_2.length c0_2) := (za5 BK373.out 2).trans rfl; have hfz14_0 := za1 BK373.out 0; have hfz14_1 := za1 BK373.out 1; have hfz14_2 := za1 BK373.out 2; have hcz15_0 : w13.cell? ⟨gb374, 0, none⟩ = some (.int .i64 a1_0) := (za5 BK374.out 0).trans rfl; have hcz15_1 : w13.cell? ⟨gb374, 1, none⟩ = some (.slice A1_1 l1_1.length c1_1) := (za5 BK374.out 1).trans rfl; have hcz15_2 : w13.cell? ⟨gb374, 2, none⟩ = some (.slice A1_2 l1_2.length c1_2) := (za5 BK374.out 2).trans rfl; have hfz15_0 := za1 BK374.out 0; have hfz15_1 := za1 BK374.out 1; have hfz15_2 := za1 BK374.out 2) | ((with_reducible refine zai (f := 30) rfl ?_); refine zb1 (some 20) rfl rfl Try.func30 (by kernel_rfl) rfl #[.slice A0_2 l0_2.length c0_2, .slice A1_2 l1_2.length c1_2] rfl (by (try simp only [List.map_toArray, List.map_cons, List.map_nil]); first | done | rfl | (simp only [List.length_drop, List.length_take]; rfl)) ?_; (with_reducible refine (laws_eqIntS.calls k _ _ l0_2 _ _ l1_2 true _ ?side1 ?side2 ?side3 ?side4 A6.out).mono ?_); (case side1 => repeat (first | exact (Kd.zam HR0_2.out HB.out) | (with_reducible refine Kd.zat ?_ _) | (with_reducible refine Kd.zar ?_ _) | (with_reducible refine Kd.zaw ?_))); (case side2 => exact HC0_2.out); (case side3 => repeat (first | exact (Kd.zam HR1_2.out HB.out) | (with_reducible refine Kd.zat ?_ _) | (with_reducible refine Kd.zar ?_ _) | (with_reducible refine Kd.zaw ?_))); (case side4 => exact HC1_2.out); rintro e w' ⟨rfl, ⟨nd, rfl⟩⟩; refine ⟨_, rfl, ?_⟩))
    go_ret
    exact ⟨by first | rfl | (simp [zae, zaf] <;> rfl) | (simp [*, zae, zaf] <;> rfl), by repeat (first | (with_reducible first | exact HB.out | apply za3 | apply za0 | apply za2 | refine za4 ?_ GE373.out | refine za4 ?_ GE374.out) | exact HB.out)⟩
   ·replace c7 := Bool.eq_false_iff.mpr c7
    subst c7
    have H1 : (some false) = some r := by rw [if_neg (show ¬ (false = true) by decide)] at H; exact H
    clear H
    have H := H1
    clear H1
    obtain rfl := Option.some.inj H
    go_enter Try.func23, Try.ntmps23
    go_wp2_with (first | ((with_reducible refine zak (N := 2) rfl ?_); refine zaj ?hg (N := 2) ?hd (cs := #[.int .i64 a0_0, .slice A0_1 l0_1.length c0_1, .slice A0_2 l0_2.length c0_2]) (t := 36) ?hr ?_; (case hd => rfl); (case hg => rfl); (case hr => first | (go_simp; done) | (go_simp; rfl)); intro gb373 hg w16 hbox hb; have n0_ := Aside0.mk (zad (by repeat (first | (with_reducible first | exact HB.out | apply za3 | apply za0 | apply za2) | exact HB.out)) hb); have n1_ := Aside0.mk (hbox); have n2_ := Aside0.mk ((by rw [hg]; exact (za9 (by repeat (first | (with_reducible first | exact HB.out | apply za3 | apply za0 | apply za2) | exact HB.out))) : w.heap.size ≤ gb373)); have n3_ := Aside0.mk ((by rw [hg]; exact (za9 (by repeat (first | (with_reducible first | exact HB.out | apply za3 | apply za0 | apply za2) | exact HB.out))) : w.heap.size ≤ gb373)); clear HB; have HB := n0_; have BK373 := n1_; have GW373 := n2_; have GE373 := n3_; clear n0_ n1_ n2_ n3_; clear hb hbox hg) | ((with_reducible refine zak (N := 3) rfl ?_); refine zaj ?hg (N := 3) ?hd (cs := #[.int .i64 a1_0, .slice A1_1 l1_1.length c1_1, .slice A1_2 l1_2.length c1_2]) (t := 36) ?hr ?_; (case hd => rfl); (case hg => rfl); (case hr => first | (go_simp; done) | (go_simp; rfl)); intro gb374 hg w17 hbox hb; have n0_ := Aside0.mk (zaa (g := gb373) (o := .cells #[.int .i64 a0_0, .slice A0_1 l0_1.length c0_1, .slice A0_2 l0_2.length c0_2] 36 (0, 0)) (by (with_reducible repeat (first | refine za7 ?_ _ | refine za8 ?_ | refine za6 ?_ _)); exact BK373.out) hb); have n1_ := Aside0.mk (zad (by repeat (first | (with_reducible first | exact HB.out | apply za3 | apply za0 | apply za2 | refine za4 ?_ GE373.out) | exact HB.out)) hb); have n2_ := Aside0.mk (hbox); have n3_ := Aside0.mk ((by rw [hg]; exact (za9 (by repeat (first | (with_reducible first | exact HB.out | apply za3 | apply za0 | apply za2 | refine za4 ?_ GE373.out) | exact HB.out))) : w.heap.size ≤ gb374)); have n4_ := Aside0.mk ((by rw [hg]; exact (za9 (by repeat (first | (with_reducible first | exact HB.out | apply za3 | apply za0 | apply za2 | refine za4 ?_ GE373.out) | exact HB.out))) : w.heap.size ≤ gb374)); have n5_ := Aside0.mk ((by rw [hg]; exact Nat.ne_of_lt (zau (g := gb373) (o := .cells #[.int .i64 a0_0, .slice A0_1 l0_1.length c0_1, .slice A0_2 l0_2.length c0_2] 36 (0, 0)) (by (with_reducible repeat (first | refine za7 ?_ _ | refine za8 ?_ | refine za6 ?_ _)); exact BK373.out)) : gb373 ≠ gb374)); have n6_ := Aside0.mk ((by rw [hg]; exact Nat.ne_of_gt (zau (g := gb373) (o := .cells #[.int .i64 a0_0, .slice A0_1 l0_1.length c0_1, .slice A0_2 l0_2.length c0_2] 36 (0, 0)) (by (with_reducible repeat (first | refine za7 ?_ _ | refine za8 ?_ | refine za6 ?_ _)); exact BK373.out)) : gb374 ≠ gb373)); clear BK373; clear HB; have BK373 := n0_; have HB := n1_; have BK374 := n2_; have GW374 := n3_; have GE374 := n4_; have NB373_374 := n5_; have NB374_373 := n6_; clear n0_ n1_ n2_ n3_ n4_ n5_ n6_; clear hb hbox hg; have hnb18 := NB373_374.out; have hnc18 := NB374_373.out; have hcz19_0 : w17.cell? ⟨gb373, 0, none⟩ = some (.int .i64 a0_0) := (za5 BK373.out 0).trans rfl; have hcz19_1 : w17.cell? ⟨gb373, 1, none⟩ = some (.slice A0_1 l0_1.length c0_1) := (za5 BK373.out 1).trans rfl; have hcz19_2 : w17.cell? ⟨gb373, 2, none⟩ = some (.slice A0_2 l0_2.length c0_2) := (za5 BK373.out 2).trans rfl; have hfz19_0 := za1 BK373.out 0; have hfz19_1 := za1 BK373.out 1; have hfz19_2 := za1 BK373.out 2; have hcz20_0 : w17.cell? ⟨gb374, 0, none⟩ = some (.int .i64 a1_0) := (za5 BK374.out 0).trans rfl; have hcz20_1 : w17.cell? ⟨gb374, 1, none⟩ = some (.slice A1_1 l1_1.length c1_1) := (za5 BK374.out 1).trans rfl; have hcz20_2 : w17.cell? ⟨gb374, 2, none⟩ = some (.slice A1_2 l1_2.length c1_2) := (za5 BK374.out 2).trans rfl; have hfz20_0 := za1 BK374.out 0; have hfz20_1 := za1 BK374.out 1; have hfz20_2 := za1 BK374.out 2) | ((with_reducible refine zai (f := 63) rfl ?_); refine zb1 (some 14) rfl rfl Try.func63 (by kernel_rfl) rfl #[.slice A0_1 l0_1.length c0_1, .slice A1_1 l1_1.length c1_1] rfl (by (try simp only [List.map_toArray, List.map_cons, List.map_nil]); first | done | rfl | (simp only [List.length_drop, List.length_take]; rfl)) ?_; (with_reducible refine (laws_eqStepS.calls k _ _ l0_1 _ _ l1_1 true _ ?side1 ?side2 ?side3 ?side4 A4.out).mono ?_); (case side1 => repeat (first | exact (Kd.zam HR0_1.out HB.out) | (with_reducible refine Kd.zat ?_ _) | (with_reducible refine Kd.zar ?_ _) | (with_reducible refine Kd.zaw ?_))); (case side2 => exact HC0_1.out); (case side3 => repeat (first | exact (Kd.zam HR1_1.out HB.out) | (with_reducible refine Kd.zat ?_ _) | (with_reducible refine Kd.zar ?_ _) | (with_reducible refine Kd.zaw ?_))); (case side4 => exact HC1_1.out); rintro e w21 ⟨rfl, hb⟩; refine ⟨_, rfl, ?_⟩; have n0_ := Aside0.mk (zaa (g := gb373) (o := .cells #[.int .i64 a0_0, .slice A0_1 l0_1.length c0_1, .slice A0_2 l0_2.length c0_2] 36 (0, 0)) (by (with_reducible repeat (first | refine za7 ?_ _ | refine za8 ?_ | refine za6 ?_ _)); exact BK373.out) hb); have n1_ := Aside0.mk (zaa (g := gb374) (o := .cells #[.int .i64 a1_0, .slice A1_1 l1_1.length c1_1, .slice A1_2 l1_2.length c1_2] 36 (0, 0)) (by (with_reducible repeat (first | refine za7 ?_ _ | refine za8 ?_ | refine za6 ?_ _)); exact BK374.out) hb); have n2_ := Aside0.mk (zad (by repeat (first | (with_reducible first | exact HB.out | apply za3 | apply za0 | apply za2 | refine za4 ?_ GE373.out | refine za4 ?_ GE374.out) | exact HB.out)) hb); clear BK373; clear BK374; clear HB; have BK373 := n0_; have BK374 := n1_; have HB := n2_; clear n0_ n1_ n2_; (try clear hb); (try clear hb2); (try clear hk); (try clear hi); have hcz22_0 : w21.cell? ⟨gb373, 0, none⟩ = some (.int .i64 a0_0) := (za5 BK373.out 0).trans rfl; have hcz22_1 : w21.cell? ⟨gb373, 1, none⟩ = some (.slice A0_1 l0_1.length c0_1) := (za5 BK373.out 1).trans rfl; have hcz22_2 : w21.cell? ⟨gb373, 2, none⟩ = some (.slice A0_2 l0_2.length c0_2) := (za5 BK373.out 2).trans rfl; have hfz22_0 := za1 BK373.out 0; have hfz22_1 := za1 BK373.out 1; have hfz22_2 := za1 BK373.out 2; have hcz23_0 : w21.cell? ⟨gb374, 0, none⟩ = some (.int .i64 a1_0) := (za5 BK374.out 0).trans rfl; have hcz23_1 : w21.cell? ⟨gb374, 1, none⟩ = some (.slice A1_1 l1_1.length c1_1) := (za5 BK374.out 1).trans rfl; have hcz23_2 : w21.cell? ⟨gb374, 2, none⟩ = some (.slice A1_2 l1_2.length c1_2) := (za5 BK374.out 2).trans rfl; have hfz23_0 := za1 BK374.out 0; have hfz23_1 := za1 BK374.out 1; have hfz23_2 := za1 BK374.out 2) | ((with_reducible refine zai (f := 30) rfl ?_); refine zb1 (some 20) rfl rfl Try.func30 (by kernel_rfl) rfl #[.slice A0_2 l0_2.length c0_2, .slice A1_2 l1_2.length c1_2] rfl (by (try simp only [List.map_toArray, List.map_cons, List.map_nil]); first | done | rfl | (simp only [List.length_drop, List.length_take]; rfl)) ?_; (with_reducible refine (laws_eqIntS.calls k _ _ l0_2 _ _ l1_2 false _ ?side1 ?side2 ?side3 ?side4 A6.out).mono ?_); (case side1 => repeat (first | exact (Kd.zam HR0_2.out HB.out) | (with_reducible refine Kd.zat ?_ _) | (with_reducible refine Kd.zar ?_ _) | (with_reducible refine Kd.zaw ?_))); (case side2 => exact HC0_2.out); (case side3 => repeat (first | exact (Kd.zam HR1_2.out HB.out) | (with_reducible refine Kd.zat ?_ _) | (with_reducible refine Kd.zar ?_ _) | (with_reducible refine Kd.zaw ?_))); (case side4 => exact HC1_2.out); rintro e w' ⟨rfl, ⟨nd, rfl⟩⟩; refine ⟨_, rfl, ?_⟩))
    go_ret
    exact ⟨by first | rfl | (simp [zae, zaf] <;> rfl) | (simp [*, zae, zaf] <;> rfl), by repeat (first | (with_reducible first | exact HB.out | apply za3 | apply za0 | apply za2 | refine za4 ?_ GE373.out | refine za4 ?_ GE374.out) | exact HB.out)⟩
  ·replace c5 := Bool.eq_false_iff.mpr c5
   subst c5
   have H1 : (some false) = some r := by rw [if_neg (show ¬ (false = true) by decide)] at H; exact H
   clear H
   have H := H1
   clear H1
   obtain rfl := Option.some.inj H
   go_enter Try.func23, Try.ntmps23
   go_wp2_with (first | ((with_reducible refine zak (N := 2) rfl ?_); refine zaj ?hg (N := 2) ?hd (cs := #[.int .i64 a0_0, .slice A0_1 l0_1.length c0_1, .slice A0_2 l0_2.length c0_2]) (t := 36) ?hr ?_; (case hd => rfl); (case hg => rfl); (case hr => first | (go_simp; done) | (go_simp; rfl)); intro gb373 hg w24 hbox hb; have n0_ := Aside0.mk (zad (by repeat (first | (with_reducible first | exact HB.out | apply za3 | apply za0 | apply za2) | exact HB.out)) hb); have n1_ := Aside0.mk (hbox); have n2_ := Aside0.mk ((by rw [hg]; exact (za9 (by repeat (first | (with_reducible first | exact HB.out | apply za3 | apply za0 | apply za2) | exact HB.out))) : w.heap.size ≤ gb373)); have n3_ := Aside0.mk ((by rw [hg]; exact (za9 (by repeat (first | (with_reducible first | exact HB.out | apply za3 | apply za0 | apply za2) | exact HB.out))) : w.heap.size ≤ gb373)); clear HB; have HB := n0_; have BK373 := n1_; have GW373 := n2_; have GE373 := n3_; clear n0_ n1_ n2_ n3_; clear hb hbox hg) | ((with_reducible refine zak (N := 3) rfl ?_); refine zaj ?hg (N := 3) ?hd (cs := #[.int .i64 a1_0, .slice A1_1 l1_1.length c1_1, .slice A1_2 l1_2.length c1_2]) (t := 36) ?hr ?_; (case hd => rfl); (case hg => rfl); (case hr => first | (go_simp; done) | (go_simp; rfl)); intro gb374 hg w25 hbox hb; have n0_ := Aside0.mk (zaa (g := gb373) (o := .cells #[.int .i64 a0_0, .slice A0_1 l0_1.length c0_1, .slice A0_2 l0_2.length c0_2] 36 (0, 0)) (by (with_reducible repeat (first | refine za7 ?_ _ | refine za8 ?_ | refine za6 ?_ _)); exact BK373.out) hb); have n1_ := Aside0.mk (zad (by repeat (first | (with_reducible first | exact HB.out | apply za3 | apply za0 | apply za2 | refine za4 ?_ GE373.out) | exact HB.out)) hb); have n2_ := Aside0.mk (hbox); have n3_ := Aside0.mk ((by rw [hg]; exact (za9 (by repeat (first | (with_reducible first | exact HB.out | apply za3 | apply za0 | apply za2 | refine za4 ?_ GE373.out) | exact HB.out))) : w.heap.size ≤ gb374)); have n4_ := Aside0.mk ((by rw [hg]; exact (za9 (by repeat (first | (with_reducible first | exact HB.out | apply za3 | apply za0 | apply za2 | refine za4 ?_ GE373.out) | exact HB.out))) : w.heap.size ≤ gb374)); have n5_ := Aside0.mk ((by rw [hg]; exact Nat.ne_of_lt (zau (g := gb373) (o := .cells #[.int .i64 a0_0, .slice A0_1 l0_1.length c0_1, .slice A0_2 l0_2.length c0_2] 36 (0, 0)) (by (with_reducible repeat (first | refine za7 ?_ _ | refine za8 ?_ | refine za6 ?_ _)); exact BK373.out)) : gb373 ≠ gb374)); have n6_ := Aside0.mk ((by rw [hg]; exact Nat.ne_of_gt (zau (g := gb373) (o := .cells #[.int .i64 a0_0, .slice A0_1 l0_1.length c0_1, .slice A0_2 l0_2.length c0_2] 36 (0, 0)) (by (with_reducible repeat (first | refine za7 ?_ _ | refine za8 ?_ | refine za6 ?_ _)); exact BK373.out)) : gb374 ≠ gb373)); clear BK373; clear HB; have BK373 := n0_; have HB := n1_; have BK374 := n2_; have GW374 := n3_; have GE374 := n4_; have NB373_374 := n5_; have NB374_373 := n6_; clear n0_ n1_ n2_ n3_ n4_ n5_ n6_; clear hb hbox hg; have hnb26 := NB373_374.out; have hnc26 := NB374_373.out; have hcz27_0 : w25.cell? ⟨gb373, 0, none⟩ = some (.int .i64 a0_0) := (za5 BK373.out 0).trans rfl; have hcz27_1 : w25.cell? ⟨gb373, 1, none⟩ = some (.slice A0_1 l0_1.length c0_1) := (za5 BK373.out 1).trans rfl; have hcz27_2 : w25.cell? ⟨gb373, 2, none⟩ = some (.slice A0_2 l0_2.length c0_2) := (za5 BK373.out 2).trans rfl; have hfz27_0 := za1 BK373.out 0; have hfz27_1 := za1 BK373.out 1; have hfz27_2 := za1 BK373.out 2; have hcz28_0 : w25.cell? ⟨gb374, 0, none⟩ = some (.int .i64 a1_0) := (za5 BK374.out 0).trans rfl; have hcz28_1 : w25.cell? ⟨gb374, 1, none⟩ = some (.slice A1_1 l1_1.length c1_1) := (za5 BK374.out 1).trans rfl; have hcz28_2 : w25.cell? ⟨gb374, 2, none⟩ = some (.slice A1_2 l1_2.length c1_2) := (za5 BK374.out 2).trans rfl; have hfz28_0 := za1 BK374.out 0; have hfz28_1 := za1 BK374.out 1; have hfz28_2 := za1 BK374.out 2) | ((with_reducible refine zai (f := 63) rfl ?_); refine zb1 (some 14) rfl rfl Try.func63 (by kernel_rfl) rfl #[.slice A0_1 l0_1.length c0_1, .slice A1_1 l1_1.length c1_1] rfl (by (try simp only [List.map_toArray, List.map_cons, List.map_nil]); first | done | rfl | (simp only [List.length_drop, List.length_take]; rfl)) ?_; (with_reducible refine (laws_eqStepS.calls k _ _ l0_1 _ _ l1_1 false _ ?side1 ?side2 ?side3 ?side4 A4.out).mono ?_); (case side1 => repeat (first | exact (Kd.zam HR0_1.out HB.out) | (with_reducible refine Kd.zat ?_ _) | (with_reducible refine Kd.zar ?_ _) | (with_reducible refine Kd.zaw ?_))); (case side2 => exact HC0_1.out); (case side3 => repeat (first | exact (Kd.zam HR1_1.out HB.out) | (with_reducible refine Kd.zat ?_ _) | (with_reducible refine Kd.zar ?_ _) | (with_reducible refine Kd.zaw ?_))); (case side4 => exact HC1_1.out); rintro e w29 ⟨rfl, hb⟩; refine ⟨_, rfl, ?_⟩; have n0_ := Aside0.mk (zaa (g := gb373) (o := .cells #[.int .i64 a0_0, .slice A0_1 l0_1.length c0_1, .slice A0_2 l0_2.length c0_2] 36 (0, 0)) (by (with_reducible repeat (first | refine za7 ?_ _ | refine za8 ?_ | refine za6 ?_ _)); exact BK373.out) hb); have n1_ := Aside0.mk (zaa (g := gb374) (o := .cells #[.int .i64 a1_0, .slice A1_1 l1_1.length c1_1, .slice A1_2 l1_2.length c1_2] 36 (0, 0)) (by (with_reducible repeat (first | refine za7 ?_ _ | refine za8 ?_ | refine za6 ?_ _)); exact BK374.out) hb); have n2_ := Aside0.mk (zad (by repeat (first | (with_reducible first | exact HB.out | apply za3 | apply za0 | apply za2 | refine za4 ?_ GE373.out | refine za4 ?_ GE374.out) | exact HB.out)) hb); clear BK373; clear BK374; clear HB; have BK373 := n0_; have BK374 := n1_; have HB := n2_; clear n0_ n1_ n2_; (try clear hb); (try clear hb2); (try clear hk); (try clear hi)))
   go_ret
   exact ⟨by first | rfl | (simp [zae, zaf] <;> rfl) | (simp [*, zae, zaf] <;> rfl), by repeat (first | (with_reducible first | exact HB.out | apply za3 | apply za0 | apply za2 | refine za4 ?_ GE373.out | refine za4 ?_ GE374.out) | exact HB.out)⟩
 ·rw [if_neg c3] at H
  have c3b0 : (a0_0 == a1_0) = false := beq_eq_false_iff_ne.mpr c3
  have c3b1 : (a0_0 != a1_0) = true := bne_iff_ne.mpr c3
  obtain rfl := Option.some.inj H
  go_enter Try.func23, Try.ntmps23
  go_wp2_with (first | ((with_reducible refine zak (N := 2) rfl ?_); refine zaj ?hg (N := 2) ?hd (cs := #[.int .i64 a0_0, .slice A0_1 l0_1.length c0_1, .slice A0_2 l0_2.length c0_2]) (t := 36) ?hr ?_; (case hd => rfl); (case hg => rfl); (case hr => first | (go_simp; done) | (go_simp; rfl)); intro gb373 hg w30 hbox hb; have n0_ := Aside0.mk (zad (by repeat (first | (with_reducible first | exact HB.out | apply za3 | apply za0 | apply za2) | exact HB.out)) hb); have n1_ := Aside0.mk (hbox); have n2_ := Aside0.mk ((by rw [hg]; exact (za9 (by repeat (first | (with_reducible first | exact HB.out | apply za3 | apply za0 | apply za2) | exact HB.out))) : w.heap.size ≤ gb373)); have n3_ := Aside0.mk ((by rw [hg]; exact (za9 (by repeat (first | (with_reducible first | exact HB.out | apply za3 | apply za0 | apply za2) | exact HB.out))) : w.heap.size ≤ gb373)); clear HB; have HB := n0_; have BK373 := n1_; have GW373 := n2_; have GE373 := n3_; clear n0_ n1_ n2_ n3_; clear hb hbox hg) | ((with_reducible refine zak (N := 3) rfl ?_); refine zaj ?hg (N := 3) ?hd (cs := #[.int .i64 a1_0, .slice A1_1 l1_1.length c1_1, .slice A1_2 l1_2.length c1_2]) (t := 36) ?hr ?_; (case hd => rfl); (case hg => rfl); (case hr => first | (go_simp; done) | (go_simp; rfl)); intro gb374 hg w31 hbox hb; have n0_ := Aside0.mk (zaa (g := gb373) (o := .cells #[.int .i64 a0_0, .slice A0_1 l0_1.length c0_1, .slice A0_2 l0_2.length c0_2] 36 (0, 0)) (by (with_reducible repeat (first | refine za7 ?_ _ | refine za8 ?_ | refine za6 ?_ _)); exact BK373.out) hb); have n1_ := Aside0.mk (zad (by repeat (first | (with_reducible first | exact HB.out | apply za3 | apply za0 | apply za2 | refine za4 ?_ GE373.out) | exact HB.out)) hb); have n2_ := Aside0.mk (hbox); have n3_ := Aside0.mk ((by rw [hg]; exact (za9 (by repeat (first | (with_reducible first | exact HB.out | apply za3 | apply za0 | apply za2 | refine za4 ?_ GE373.out) | exact HB.out))) : w.heap.size ≤ gb374)); have n4_ := Aside0.mk ((by rw [hg]; exact (za9 (by repeat (first | (with_reducible first | exact HB.out | apply za3 | apply za0 | apply za2 | refine za4 ?_ GE373.out) | exact HB.out))) : w.heap.size ≤ gb374)); have n5_ := Aside0.mk ((by rw [hg]; exact Nat.ne_of_lt (zau (g := gb373) (o := .cells #[.int .i64 a0_0, .slice A0_1 l0_1.length c0_1, .slice A0_2 l0_2.length c0_2] 36 (0, 0)) (by (with_reducible repeat (first | refine za7 ?_ _ | refine za8 ?_ | refine za6 ?_ _)); exact BK373.out)) : gb373 ≠ gb374)); have n6_ := Aside0.mk ((by rw [hg]; exact Nat.ne_of_gt (zau (g := gb373) (o := .cells #[.int .i64 a0_0, .slice A0_1 l0_1.length c0_1, .slice A0_2 l0_2.length c0_2] 36 (0, 0)) (by (with_reducible repeat (first | refine za7 ?_ _ | refine za8 ?_ | refine za6 ?_ _)); exact BK373.out)) : gb374 ≠ gb373)); clear BK373; clear HB; have BK373 := n0_; have HB := n1_; have BK374 := n2_; have GW374 := n3_; have GE374 := n4_; have NB373_374 := n5_; have NB374_373 := n6_; clear n0_ n1_ n2_ n3_ n4_ n5_ n6_; clear hb hbox hg; have hnb32 := NB373_374.out; have hnc32 := NB374_373.out; have hcz33_0 : w31.cell? ⟨gb373, 0, none⟩ = some (.int .i64 a0_0) := (za5 BK373.out 0).trans rfl; have hcz33_1 : w31.cell? ⟨gb373, 1, none⟩ = some (.slice A0_1 l0_1.length c0_1) := (za5 BK373.out 1).trans rfl; have hcz33_2 : w31.cell? ⟨gb373, 2, none⟩ = some (.slice A0_2 l0_2.length c0_2) := (za5 BK373.out 2).trans rfl; have hfz33_0 := za1 BK373.out 0; have hfz33_1 := za1 BK373.out 1; have hfz33_2 := za1 BK373.out 2; have hcz34_0 : w31.cell? ⟨gb374, 0, none⟩ = some (.int .i64 a1_0) := (za5 BK374.out 0).trans rfl; have hcz34_1 : w31.cell? ⟨gb374, 1, none⟩ = some (.slice A1_1 l1_1.length c1_1) := (za5 BK374.out 1).trans rfl; have hcz34_2 : w31.cell? ⟨gb374, 2, none⟩ = some (.slice A1_2 l1_2.length c1_2) := (za5 BK374.out 2).trans rfl; have hfz34_0 := za1 BK374.out 0; have hfz34_1 := za1 BK374.out 1; have hfz34_2 := za1 BK374.out 2))
  go_ret
  exact ⟨by first | rfl | (simp [zae, zaf] <;> rfl) | (simp [*, zae, zaf] <;> rfl), by repeat (first | (with_reducible first | exact HB.out | apply za3 | apply za0 | apply za2 | refine za4 ?_ GE373.out | refine za4 ?_ GE374.out) | exact HB.out)⟩

/-! ### laws_markIntS: function 31 -/
def laws_markIntS.l0 : Nat → List Int → Int → Int → Option (Int × List Int)
 | 0, _, _, _ => none
 | k + 1, x0, x1, x5 => if x5 < (x0.length : Int) then (if 0 ≤ x5 then (laws_markIntS.l0 k (x0.set (x5 : Int).toNat x1) (wrap64 (x1 + 1)) (wrap64 (x5 + 1))) else (none)) else (some (x1, x0))
def laws_markIntS.f (k : Nat) (l0 : List Int) (a1 : Int) : Option (Int × List Int) := laws_markIntS.l0 k l0 a1 0
theorem laws_markIntS.zb6 : ∀ k, (∀ y0 y1 y2, LeO (laws_markIntS.l0 k y0 y1 y2) (laws_markIntS.l0 (k + 1) y0 y1 y2))
 | 0 => fun _ _ _ r h => by simp [laws_markIntS.l0] at h
 | k + 1 => by
  have ih0 := laws_markIntS.zb6 k
  ·intro y0 y1 y2
   unfold laws_markIntS.l0
   repeat' first
   | (with_reducible exact ih0 _ _ _)
   | (with_reducible exact LeO.refl _)
   | (with_reducible exact LeO.none _)
   | (with_reducible refine LeO.ite ?_ ?_)
   | (with_reducible refine LeO.bind ?_ (fun _ => ?_))
   | exact ih0 _ _ _
   | exact LeO.none _
   | refine LeO.ite ?_ ?_
   | refine LeO.bind ?_ (fun _ => ?_)
theorem laws_markIntS.mono : ∀ a0 a1 k, LeO (laws_markIntS.f k a0 a1) (laws_markIntS.f (k + 1) a0 a1) := by
 intro a0 a1 k
 have ih0 := laws_markIntS.zb6 k
 unfold laws_markIntS.f
 repeat' first
   | (with_reducible exact ih0 _ _ _)
   | (with_reducible exact LeO.refl _)
   | (with_reducible exact LeO.none _)
   | (with_reducible refine LeO.ite ?_ ?_)
   | (with_reducible refine LeO.bind ?_ (fun _ => ?_))
   | exact ih0 _ _ _
   | exact LeO.none _
   | refine LeO.ite ?_ ?_
   | refine LeO.bind ?_ (fun _ => ?_)
set_option maxHeartbeats 8000000 in
set_option maxRecDepth 100000 in
theorem laws_markIntS.calls (k : Nat) (P0_ : Nat → Prop) (u9000_ : Value) (l0 : List Int) (a1 : Int) (r1 : Int) (r2 : List Int) (w0 w : World) (hB : Below w0.heap.size w0 w) (ho0 : Kd.R (Kd.int .i64) 3 w w0.heap.size P0_ u9000_ l0) (h : laws_markIntS.f k l0 a1 = some (r1, r2)) :
  Calls Try.prog 31 #[u9000_, .int .i64 a1] w fun e w' => e = .returned (.int .i64 r1) ∧ Kd.R (Kd.int .i64) 3 w' w0.heap.size (fun k_ => (P0_ k_ ∨ w.heap.size ≤ k_)) u9000_ r2 ∧ Below w0.heap.size w0 w' ∧ Kept w w' (fun k_ => P0_ k_) := by
 have HO0 := Aside0.mk (show Kd.R (Kd.int .i64) 3 w w0.heap.size (fun k_ => (P0_ k_ ∨ w.heap.size ≤ k_)) u9000_ l0 from Kd.zav ho0 (fun k_ hk => (.inl hk)))
 have HK := Aside0.mk (Kept.refl w (fun k_ => P0_ k_))
 have HW0 := Aside0.mk hB.size
 have HB := Aside0.mk hB
 clear hB
 have H : (laws_markIntS.l0 k l0 a1 0) = some (r1, r2) := h
 clear h
 have H' := Aside0.mk H
 clear H
 go_enter Try.func31, Try.ntmps31
 go_wp2
 go_loopg [1, 5] k (fun kq v1 v5 w' => ∃ (x0_1 : List Int) (x1_1 : Int) (x5_1 : Int), v1 = .int .i64 x1_1 ∧ v5 = .int .i64 x5_1 ∧ Aside0 (laws_markIntS.l0 kq x0_1 x1_1 x5_1 = some (r1, r2)) ∧ Aside0 (kq ≤ k) ∧ Aside0 (Kd.R (Kd.int .i64) 3 w' w0.heap.size (fun k_ => (P0_ k_ ∨ w.heap.size ≤ k_)) u9000_ x0_1) ∧ Aside0 (Kept w w' (fun k_ => P0_ k_)) ∧ Aside0 (Below w0.heap.size w0 w'))
 case atStart => exact ⟨(l0), (a1), (0), (by first | rfl | (simp; done) | (simp [*]; done)), (by first | rfl | (simp; done) | (simp [*]; done)), H', ⟨Nat.le_refl _⟩, ⟨by (with_reducible repeat (first | apply Kd.zan | apply Kd.zal | apply Kd.zas)); exact HO0.out⟩, ⟨by repeat (first | (with_reducible first | exact HK.out | apply Kept.alloc | apply Kept.drewN | apply Kept.drew) | exact HK.out)⟩, ⟨by repeat (first | (with_reducible first | exact HB.out | apply za3 | apply za0 | apply za2) | exact HB.out)⟩⟩
 case round =>
  clear H'
  try clear p2
  obtain ⟨x0_1, x1_1, x5_1, rfl, rfl, HA, HK1, HO_0, HK, HB⟩ := hrel
  cases gk with
  | zero => exact absurd HA.out (by simp [laws_markIntS.l0])
  | succ k1 =>
   have H := HA.out
   clear HA
   simp only [laws_markIntS.l0] at H
   by_cases c3 : x5_1 < (x0_1.length : Int)
   ·rw [if_pos c3] at H
    have c3b0 : decide (x5_1 < (x0_1.length : Int)) = true := decide_eq_true c3
    clear c3
    by_cases c4 : 0 ≤ x5_1
    ·rw [if_pos c4] at H
     have c4b0 : decide (0 ≤ x5_1) = true := decide_eq_true c4
     clear c4
     obtain ⟨y377, hy377⟩ : ∃ y_ : List Int, y_ = (x0_1.set (x5_1 : Int).toNat x1_1) := ⟨_, rfl⟩
     replace H : (laws_markIntS.l0 k1 y377 (wrap64 (x1_1 + 1)) (wrap64 (x5_1 + 1))) = some (r1, r2) := by first | (rw [hy377]; with_reducible exact H) | (have H2_ := (Option.bind_some _ _).symm.trans H; rw [hy377]; with_reducible exact H2_) | (have H2_ := (Option.bind_some _ _).symm.trans H; with_reducible exact H2_) | with_reducible exact H | (rw [hy377]; exact H) | exact H
     have Ny377 := Aside0.mk hy377
     clear hy377
     have H' := Aside0.mk H
     clear H
     obtain ⟨Ao6, co6, eo6⟩ := Kd.zay HO_0.out
     subst eo6
     have p5 : 0 ≤ (x5_1 : Int) := of_decide_eq_true (by first | (with_reducible assumption) | assumption)
     have q5 : (x5_1 : Int) < ((x0_1.length : Int) : Int) := of_decide_eq_true (by first | (with_reducible assumption) | assumption)
     obtain ⟨go5, co5, eo5, gb5, gl5, cl5, HG5⟩ := Kd.R_form HO_0.out (by omega)
     (first | cases eo5 | (injection eo5 with ea_ en_ ec_; (first | subst ea_ | (injection ea_ with ea_; subst ea_)); subst ec_; clear en_))
     have GB5 := Aside0.mk gb5
     have GG5 := Aside0.mk HG5
     clear gb5 gl5 HG5
     have HMgo5 := Aside0.mk (show (P0_ go5 ∨ w.heap.size ≤ go5) from (HO_0.out.1 _ rfl))
     obtain ⟨hx5_0, hf5_0⟩ := Kd.R_celln 0 HO_0.out (x5_1 : Int) p5 q5
     replace p5 := eq_true p5
     replace q5 := eq_true q5
     have HP7 := Kd.R_putg HO_0.out (x5_1 : Int) x1_1
     go_wp2_with (first | ((with_reducible refine gate_store (t := 3) (p := 15) rfl ?_); refine store_event (t := 3) (p := 15) (v := ?vo_w8) (w1 := (wr.setCell ⟨go5, (x5_1 : Int).toNat, none⟩ (.int .i64 x1_1))) ?hg ?ho ?hn ?hr ?_; (case ho => rfl); (case hg => rfl); (case hn => rfl); (case hr => first | (go_simp; done) | (go_simp; rfl)); intro w8 hw; have hg : wr.grownBy w8 (some go5) := (by rw [hw]; exact HP7.2); have hp_ : Kd.R (Kd.int .i64) 3 w8 w0.heap.size (fun k_ => (P0_ k_ ∨ w.heap.size ≤ k_)) (.slice (some ⟨go5, 0, none⟩) x0_1.length co6) y377 := (by rw [hw, Ny377.out]; exact HP7.1); clear HP7; have n0_ := Aside0.mk (hp_); have n1_ := Aside0.mk ((by rw [hw]; exact za4 (HB.out) GB5.out : Below w0.heap.size w0 w8)); have n2_ := Aside0.mk (Kept.of_grown (S := (fun k_ => P0_ k_)) hg (by repeat (first | (with_reducible first | exact HK.out | apply Kept.alloc | apply Kept.drewN | apply Kept.drew) | exact HK.out)) (fun k_ e_ => (HO_0.out.1 k_ e_))); clear HO_0; clear HB; clear HK; have HO_0 := n0_; have HB := n1_; have HK := n2_; clear n0_ n1_ n2_; clear hg hw hp_))
     go_roundg k1
     case measure => have := HK1.out; omega
     case rel => exact ⟨(y377), (wrap64 (x1_1 + 1)), (wrap64 (x5_1 + 1)), (by first | rfl | (simp; done) | (simp [*]; done)), (by first | rfl | (simp; done) | (simp [*]; done)), H', ⟨by have := HK1.out; omega⟩, ⟨by (with_reducible repeat (first | apply Kd.zan | apply Kd.zal | apply Kd.zas)); exact HO_0.out⟩, ⟨by repeat (first | (with_reducible first | exact HK.out | apply Kept.alloc | apply Kept.drewN | apply Kept.drew) | exact HK.out)⟩, ⟨by repeat (first | (with_reducible first | exact HB.out | apply za3 | apply za0 | apply za2) | exact HB.out)⟩⟩
    ·rw [if_neg c4] at H
     exact absurd H (by simp)
   ·rw [if_neg c3] at H
    have c3b0 : decide (x5_1 < (x0_1.length : Int)) = false := decide_eq_false c3
    clear c3
    simp only [Option.some.injEq, Prod.mk.injEq] at H
    obtain ⟨rfl, rfl⟩ := H
    obtain ⟨Ao9, co9, eo9⟩ := Kd.zay HO_0.out
    subst eo9
    go_wp2
    go_ret
    exact ⟨by first | rfl | (simp [zae, zaf] <;> rfl) | (simp [*, zae, zaf] <;> rfl), by (with_reducible repeat (first | apply Kd.zan | apply Kd.zal | apply Kd.zas)); exact HO_0.out, by repeat (first | (with_reducible first | exact HB.out | apply za3 | apply za0 | apply za2) | exact HB.out), by repeat (first | (with_reducible first | exact HK.out | apply Kept.alloc | apply Kept.drewN | apply Kept.drew) | exact HK.out)⟩

/-! ### laws_markRegOpS: function 64 -/
def laws_markRegOpS.l0 : Nat → List (S80) → Int → Int → Option (Int × (List (S80)))
 | 0, _, _, _ => none
 | k + 1, x0, x1, x5 => if x5 < (x0.length : Int) then (if 0 ≤ x5 then ((some (x0.set (x5 : Int).toNat (⟨x1, (zah x0 x5).f1, (zah x0 x5).f2⟩ : S80) : List (S80))).bind fun y378 => ((some (y378.set (x5 : Int).toNat (⟨(zah y378 x5).f0, wrap64 (x1 + 1), (zah y378 x5).f2⟩ : S80) : List (S80))).bind fun y379 => (laws_markRegOpS.l0 k (y379.set (x5 : Int).toNat (⟨(zah y379 x5).f0, (zah y379 x5).f1, wrap64 ((wrap64 (x1 + 1)) + 1)⟩ : S80)) (wrap64 ((wrap64 ((wrap64 (x1 + 1)) + 1)) + 1)) (wrap64 (x5 + 1))))) else (none)) else (some (x1, x0))
def laws_markRegOpS.f (k : Nat) (l0 : List (S80)) (a1 : Int) : Option (Int × (List (S80))) := laws_markRegOpS.l0 k l0 a1 0
theorem laws_markRegOpS.zb6 : ∀ k, (∀ y0 y1 y2, LeO (laws_markRegOpS.l0 k y0 y1 y2) (laws_markRegOpS.l0 (k + 1) y0 y1 y2))
 | 0 => fun _ _ _ r h => by simp [laws_markRegOpS.l0] at h
 | k + 1 => by
  have ih0 := laws_markRegOpS.zb6 k
  ·intro y0 y1 y2
   unfold laws_markRegOpS.l0
   repeat' first
   | (with_reducible exact ih0 _ _ _)
   | (with_reducible exact LeO.refl _)
   | (with_reducible exact LeO.none _)
   | (with_reducible refine LeO.ite ?_ ?_)
   | (with_reducible refine LeO.bind ?_ (fun _ => ?_))
   | exact ih0 _ _ _
   | exact LeO.none _
   | refine LeO.ite ?_ ?_
   | refine LeO.bind ?_ (fun _ => ?_)
theorem laws_markRegOpS.mono : ∀ a0 a1 k, LeO (laws_markRegOpS.f k a0 a1) (laws_markRegOpS.f (k + 1) a0 a1) := by
 intro a0 a1 k
 have ih0 := laws_markRegOpS.zb6 k
 unfold laws_markRegOpS.f
 repeat' first
   | (with_reducible exact ih0 _ _ _)
   | (with_reducible exact LeO.refl _)
   | (with_reducible exact LeO.none _)
   | (with_reducible refine LeO.ite ?_ ?_)
   | (with_reducible refine LeO.bind ?_ (fun _ => ?_))
   | exact ih0 _ _ _
   | exact LeO.none _
   | refine LeO.ite ?_ ?_
   | refine LeO.bind ?_ (fun _ => ?_)
set_option maxHeartbeats 8000000 in
set_option maxRecDepth 100000 in
theorem laws_markRegOpS.calls (k : Nat) (P0_ : Nat → Prop) (u9000_ : Value) (l0 : List (S80)) (a1 : Int) (r1 : Int) (r2 : List (S80)) (w0 w : World) (hB : Below w0.heap.size w0 w) (ho0 : Kd.R k80 80 w w0.heap.size P0_ u9000_ l0) (h : laws_markRegOpS.f k l0 a1 = some (r1, r2)) :
  Calls Try.prog 64 #[u9000_, .int .i64 a1] w fun e w' => e = .returned (.int .i64 r1) ∧ Kd.R k80 80 w' w0.heap.size (fun k_ => (P0_ k_ ∨ w.heap.size ≤ k_)) u9000_ r2 ∧ Below w0.heap.size w0 w' ∧ Kept w w' (fun k_ => P0_ k_) := by
 have HO0 := Aside0.mk (show Kd.R k80 80 w w0.heap.size (fun k_ => (P0_ k_ ∨ w.heap.size ≤ k_)) u9000_ l0 from Kd.zav ho0 (fun k_ hk => (.inl hk)))
 have HK := Aside0.mk (Kept.refl w (fun k_ => P0_ k_))
 have HW0 := Aside0.mk hB.size
 have HB := Aside0.mk hB
 clear hB
 have H : (laws_markRegOpS.l0 k l0 a1 0) = some (r1, r2) := h
 clear h
 have H' := Aside0.mk H
 clear H
 go_enter Try.func64, Try.ntmps64
 go_wp2
 go_loopg [1, 5] k (fun kq v1 v5 w' => ∃ (x0_1 : List (S80)) (x1_1 : Int) (x5_1 : Int), v1 = .int .i64 x1_1 ∧ v5 = .int .i64 x5_1 ∧ Aside0 (laws_markRegOpS.l0 kq x0_1 x1_1 x5_1 = some (r1, r2)) ∧ Aside0 (kq ≤ k) ∧ Aside0 (Kd.R k80 80 w' w0.heap.size (fun k_ => (P0_ k_ ∨ w.heap.size ≤ k_)) u9000_ x0_1) ∧ Aside0 (Kept w w' (fun k_ => P0_ k_)) ∧ Aside0 (Below w0.heap.size w0 w'))
 case atStart => exact ⟨(l0), (a1), (0), (by first | rfl | (simp; done) | (simp [*]; done)), (by first | rfl | (simp; done) | (simp [*]; done)), H', ⟨Nat.le_refl _⟩, ⟨by (with_reducible repeat (first | apply Kd.zan | apply Kd.zal | apply Kd.zas)); exact HO0.out⟩, ⟨by repeat (first | (with_reducible first | exact HK.out | apply Kept.alloc | apply Kept.drewN | apply Kept.drew) | exact HK.out)⟩, ⟨by repeat (first | (with_reducible first | exact HB.out | apply za3 | apply za0 | apply za2) | exact HB.out)⟩⟩
 case round =>
  clear H'
  try clear p2
  obtain ⟨x0_1, x1_1, x5_1, rfl, rfl, HA, HK1, HO_0, HK, HB⟩ := hrel
  cases gk with
  | zero => exact absurd HA.out (by simp [laws_markRegOpS.l0])
  | succ k1 =>
   have H := HA.out
   clear HA
   simp only [laws_markRegOpS.l0] at H
   by_cases c3 : x5_1 < (x0_1.length : Int)
   ·rw [if_pos c3] at H
    have c3b0 : decide (x5_1 < (x0_1.length : Int)) = true := decide_eq_true c3
    clear c3
    by_cases c4 : 0 ≤ x5_1
    ·rw [if_pos c4] at H
     have c4b0 : decide (0 ≤ x5_1) = true := decide_eq_true c4
     clear c4
     obtain ⟨y378, hy378⟩ : ∃ y_ : List (S80), y_ = (x0_1.set (x5_1 : Int).toNat (⟨x1_1, (zah x0_1 x5_1).f1, (zah x0_1 x5_1).f2⟩ : S80)) := ⟨_, rfl⟩
     replace H : ((some (y378.set (x5_1 : Int).toNat (⟨(zah y378 x5_1).f0, wrap64 (x1_1 + 1), (zah y378 x5_1).f2⟩ : S80) : List (S80))).bind fun y379 => (laws_markRegOpS.l0 k1 (y379.set (x5_1 : Int).toNat (⟨(zah y379 x5_1).f0, (zah y379 x5_1).f1, wrap64 ((wrap64 (x1_1 + 1)) + 1)⟩ : S80)) (wrap64 ((wrap64 ((wrap64 (x1_1 + 1)) + 1)) + 1)) (wrap64 (x5_1 + 1)))) = some (r1, r2) := by first | (rw [hy378]; with_reducible exact H) | (have H2_ := (Option.bind_some _ _).symm.trans H; rw [hy378]; with_reducible exact H2_) | (have H2_ := (Option.bind_some _ _).symm.trans H; with_reducible exact H2_) | with_reducible exact H | (rw [hy378]; exact H) | exact H
     have Ny378 := Aside0.mk hy378
     clear hy378
     obtain ⟨y379, hy379⟩ : ∃ y_ : List (S80), y_ = (y378.set (x5_1 : Int).toNat (⟨(zah y378 x5_1).f0, wrap64 (x1_1 + 1), (zah y378 x5_1).f2⟩ : S80)) := ⟨_, rfl⟩
     replace H : (laws_markRegOpS.l0 k1 (y379.set (x5_1 : Int).toNat (⟨(zah y379 x5_1).f0, (zah y379 x5_1).f1, wrap64 ((wrap64 (x1_1 + 1)) + 1)⟩ : S80)) (wrap64 ((wrap64 ((wrap64 (x1_1 + 1)) + 1)) + 1)) (wrap64 (x5_1 + 1))) = some (r1, r2) := by first | (rw [hy379]; with_reducible exact H) | (have H2_ := (Option.bind_some _ _).symm.trans H; rw [hy379]; with_reducible exact H2_) | (have H2_ := (Option.bind_some _ _).symm.trans H; with_reducible exact H2_) | with_reducible exact H | (rw [hy379]; exact H) | exact H
     have Ny379 := Aside0.mk hy379
     clear hy379
     obtain ⟨y380, hy380⟩ : ∃ y_ : List (S80), y_ = (y379.set (x5_1 : Int).toNat (⟨(zah y379 x5_1).f0, (zah y379 x5_1).f1, wrap64 ((wrap64 (x1_1 + 1)) + 1)⟩ : S80)) := ⟨_, rfl⟩
     replace H : (laws_markRegOpS.l0 k1 y380 (wrap64 ((wrap64 ((wrap64 (x1_1 + 1)) + 1)) + 1)) (wrap64 (x5_1 + 1))) = some (r1, r2) := by first | (rw [hy380]; with_reducible exact H) | (have H2_ := (Option.bind_some _ _).symm.trans H; rw [hy380]; with_reducible exact H2_) | (have H2_ := (Option.bind_some _ _).symm.trans H; with_reducible exact H2_) | with_reducible exact H | (rw [hy380]; exact H) | exact H
     have Ny380 := Aside0.mk hy380
     clear hy380
     have H' := Aside0.mk H
     clear H
     obtain ⟨Ao8, co8, eo8⟩ := Kd.zay HO_0.out
     subst eo8
     have p5 : 0 ≤ (x5_1 : Int) := of_decide_eq_true (by first | (with_reducible assumption) | assumption)
     have q5 : (x5_1 : Int) < ((x0_1.length : Int) : Int) := of_decide_eq_true (by first | (with_reducible assumption) | assumption)
     obtain ⟨go5, co5, eo5, gb5, gl5, cl5, HG5⟩ := Kd.R_form HO_0.out (by omega)
     (first | cases eo5 | (injection eo5 with ea_ en_ ec_; (first | subst ea_ | (injection ea_ with ea_; subst ea_)); subst ec_; clear en_))
     have GB5 := Aside0.mk gb5
     have GG5 := Aside0.mk HG5
     clear gb5 gl5 HG5
     have HMgo5 := Aside0.mk (show (P0_ go5 ∨ w.heap.size ≤ go5) from (HO_0.out.1 _ rfl))
     obtain ⟨ce5, hcl5, hM5, hcc5, hfr5⟩ := Kd.R_elem HO_0.out z80 (x5_1 : Int) p5 q5
     obtain rfl := k80_openM hM5
     have hx5_0 : wr.cell? ⟨go5, (x5_1 : Int).toNat * 3, none⟩ = some (.int .i64 ((zah x0_1 x5_1).f0)) := hcc5 0 _ rfl
     have hx5_1 : wr.cell? ⟨go5, (x5_1 : Int).toNat * 3 + 1, none⟩ = some (.int .i64 ((zah x0_1 x5_1).f1)) := hcc5 1 _ rfl
     have hx5_2 : wr.cell? ⟨go5, (x5_1 : Int).toNat * 3 + 2, none⟩ = some (.int .i64 ((zah x0_1 x5_1).f2)) := hcc5 2 _ rfl
     have hf5_0 : wr.frozen? ⟨go5, (x5_1 : Int).toNat * 3, none⟩ = false := hfr5 0
     have hf5_1 : wr.frozen? ⟨go5, (x5_1 : Int).toNat * 3 + 1, none⟩ = false := hfr5 1
     have hf5_2 : wr.frozen? ⟨go5, (x5_1 : Int).toNat * 3 + 2, none⟩ = false := hfr5 2
     clear hcl5 hcc5 hfr5 hM5
     replace p5 := eq_true p5
     replace q5 := eq_true q5
     have HX9 := Aside0.mk (show Kd.R k80 80 wr w0.heap.size (fun k_ => (P0_ k_ ∨ w.heap.size ≤ k_)) (.slice (some ⟨go5, 0, none⟩) x0_1.length co8) x0_1 from (by (with_reducible repeat (first | apply Kd.zan | apply Kd.zal | apply Kd.zas)); exact HO_0.out))
     obtain ⟨ce9, hcl9, hM9, hcc9, hfr9⟩ := Kd.R_elem HX9.out z80 (x5_1 : Int) (of_decide_eq_true (by first | (with_reducible assumption) | assumption)) (by have h_ : (x5_1 : Int) < ((x0_1.length : Int) : Int) := of_decide_eq_true (by first | (with_reducible assumption) | assumption); first | exact h_ | (have e_ := (Kd.R_reads' HO_0.out).1; omega) | simpa using h_)
     obtain rfl := k80_openM hM9
     have HP9 := Kd.R_seg HX9.out (x5_1 : Int) (of_decide_eq_true (by first | (with_reducible assumption) | assumption)) (by have h_ : (x5_1 : Int) < ((x0_1.length : Int) : Int) := of_decide_eq_true (by first | (with_reducible assumption) | assumption); first | exact h_ | (have e_ := (Kd.R_reads' HO_0.out).1; omega) | simpa using h_) (seg := [.int .i64 x1_1]) (j := 0) hcl9 hcc9 (show 1 ≤ 3 from by decide) (x' := (⟨x1_1, (zah x0_1 x5_1).f1, (zah x0_1 x5_1).f2⟩ : S80)) (k80_mkM _ _ _ (⟨x1_1, (zah x0_1 x5_1).f1, (zah x0_1 x5_1).f2⟩ : S80) ) (fun _ hk => hk)
     have hx9_0 := hcc9 0 _ rfl
     (try simp only [show (k80).sz = 3 from rfl, Nat.mul_one, Nat.add_zero] at hx9_0)
     have hf9_0 := hfr9 0
     (try simp only [show (k80).sz = 3 from rfl, Nat.mul_one, Nat.add_zero] at hf9_0)
     clear hcl9 hcc9 hfr9 hM9
     go_wp2_with (first | ((with_reducible refine gate_store (t := 3) (p := 16) rfl ?_); refine store_event (t := 3) (p := 16) (v := ?vo_w10) (w1 := (wr.setCell ⟨go5, (x5_1 : Int).toNat * 3, none⟩ (.int .i64 x1_1))) ?hg ?ho ?hn ?hr ?_; (case ho => rfl); (case hg => rfl); (case hn => rfl); (case hr => first | (go_simp; done) | (go_simp; rfl)); intro w10 hw; have hg : wr.grownBy w10 (some go5) := (by rw [hw]; exact HP9.2); have hp_ : Kd.R k80 80 w10 w0.heap.size (fun k_ => (P0_ k_ ∨ w.heap.size ≤ k_)) (.slice (some ⟨go5, 0, none⟩) x0_1.length co8) y378 := (by rw [hw, Ny378.out]; exact HP9.1); clear HP9; have n0_ := Aside0.mk (hp_); have n1_ := Aside0.mk ((by rw [hw]; exact za4 (HB.out) GB5.out : Below w0.heap.size w0 w10)); have n2_ := Aside0.mk (Kept.of_grown (S := (fun k_ => P0_ k_)) hg (by repeat (first | (with_reducible first | exact HK.out | apply Kept.alloc | apply Kept.drewN | apply Kept.drew) | exact HK.out)) (fun k_ e_ => (HO_0.out.1 k_ e_))); clear HO_0; clear HB; clear HK; have HO_0 := n0_; have HB := n1_; have HK := n2_; clear n0_ n1_ n2_; clear hg hw hp_; have p6 : 0 ≤ (x5_1 : Int) := of_decide_eq_true (by first | (with_reducible assumption) | assumption); have q6 : (x5_1 : Int) < ((x0_1.length : Int) : Int) := of_decide_eq_true (by first | (with_reducible assumption) | assumption); obtain ⟨ce6, hcl6, hM6, hcc6, hfr6⟩ := Kd.R_elem HO_0.out z80 (x5_1 : Int) p6 q6; obtain rfl := k80_openM hM6; have hx6_0 : w10.cell? ⟨go5, (x5_1 : Int).toNat * 3, none⟩ = some (.int .i64 ((zah y378 x5_1).f0)) := hcc6 0 _ rfl; have hx6_1 : w10.cell? ⟨go5, (x5_1 : Int).toNat * 3 + 1, none⟩ = some (.int .i64 ((zah y378 x5_1).f1)) := hcc6 1 _ rfl; have hx6_2 : w10.cell? ⟨go5, (x5_1 : Int).toNat * 3 + 2, none⟩ = some (.int .i64 ((zah y378 x5_1).f2)) := hcc6 2 _ rfl; have hf6_0 : w10.frozen? ⟨go5, (x5_1 : Int).toNat * 3, none⟩ = false := hfr6 0; have hf6_1 : w10.frozen? ⟨go5, (x5_1 : Int).toNat * 3 + 1, none⟩ = false := hfr6 1; have hf6_2 : w10.frozen? ⟨go5, (x5_1 : Int).toNat * 3 + 2, none⟩ = false := hfr6 2; clear hcl6 hcc6 hfr6 hM6; replace p6 := eq_true p6; replace q6 := eq_true q6; have HX11 := Aside0.mk (show Kd.R k80 80 w10 w0.heap.size (fun k_ => (P0_ k_ ∨ w.heap.size ≤ k_)) (.slice (some ⟨go5, 0, none⟩) x0_1.length co8) y378 from (by (with_reducible repeat (first | apply Kd.zan | apply Kd.zal | apply Kd.zas)); exact HO_0.out)); obtain ⟨ce11, hcl11, hM11, hcc11, hfr11⟩ := Kd.R_elem HX11.out z80 (x5_1 : Int) (of_decide_eq_true (by first | (with_reducible assumption) | assumption)) (by have h_ : (x5_1 : Int) < ((x0_1.length : Int) : Int) := of_decide_eq_true (by first | (with_reducible assumption) | assumption); first | exact h_ | (have e_ := (Kd.R_reads' HO_0.out).1; omega) | simpa using h_); obtain rfl := k80_openM hM11; have HP11 := Kd.R_seg HX11.out (x5_1 : Int) (of_decide_eq_true (by first | (with_reducible assumption) | assumption)) (by have h_ : (x5_1 : Int) < ((x0_1.length : Int) : Int) := of_decide_eq_true (by first | (with_reducible assumption) | assumption); first | exact h_ | (have e_ := (Kd.R_reads' HO_0.out).1; omega) | simpa using h_) (seg := [.int .i64 (wrap64 (x1_1 + 1))]) (j := 1) hcl11 hcc11 (show 2 ≤ 3 from by decide) (x' := (⟨(zah y378 x5_1).f0, wrap64 (x1_1 + 1), (zah y378 x5_1).f2⟩ : S80)) (k80_mkM _ _ _ (⟨(zah y378 x5_1).f0, wrap64 (x1_1 + 1), (zah y378 x5_1).f2⟩ : S80) ) (fun _ hk => hk); have hx11_1 := hcc11 1 _ rfl; (try simp only [show (k80).sz = 3 from rfl, Nat.mul_one, Nat.add_zero] at hx11_1); have hf11_1 := hfr11 1; (try simp only [show (k80).sz = 3 from rfl, Nat.mul_one, Nat.add_zero] at hf11_1); clear hcl11 hcc11 hfr11 hM11) | ((with_reducible refine gate_store (t := 3) (p := 23) rfl ?_); refine store_event (t := 3) (p := 23) (v := ?vo_w12) (w1 := (w10.setCell ⟨go5, (x5_1 : Int).toNat * 3 + 1, none⟩ (.int .i64 (wrap64 (x1_1 + 1))))) ?hg ?ho ?hn ?hr ?_; (case ho => rfl); (case hg => rfl); (case hn => rfl); (case hr => first | (go_simp; done) | (go_simp; rfl)); intro w12 hw; have hg : w10.grownBy w12 (some go5) := (by rw [hw]; exact HP11.2); have hp_ : Kd.R k80 80 w12 w0.heap.size (fun k_ => (P0_ k_ ∨ w.heap.size ≤ k_)) (.slice (some ⟨go5, 0, none⟩) x0_1.length co8) y379 := (by rw [hw, Ny379.out]; exact HP11.1); clear HP11; have n0_ := Aside0.mk (hp_); have n1_ := Aside0.mk ((by rw [hw]; exact za4 (HB.out) GB5.out : Below w0.heap.size w0 w12)); have n2_ := Aside0.mk (Kept.of_grown (S := (fun k_ => P0_ k_)) hg (by repeat (first | (with_reducible first | exact HK.out | apply Kept.alloc | apply Kept.drewN | apply Kept.drew) | exact HK.out)) (fun k_ e_ => (HO_0.out.1 k_ e_))); clear HO_0; clear HB; clear HK; have HO_0 := n0_; have HB := n1_; have HK := n2_; clear n0_ n1_ n2_; clear hg hw hp_; have p7 : 0 ≤ (x5_1 : Int) := of_decide_eq_true (by first | (with_reducible assumption) | assumption); have q7 : (x5_1 : Int) < ((x0_1.length : Int) : Int) := of_decide_eq_true (by first | (with_reducible assumption) | assumption); obtain ⟨ce7, hcl7, hM7, hcc7, hfr7⟩ := Kd.R_elem HO_0.out z80 (x5_1 : Int) p7 q7; obtain rfl := k80_openM hM7; have hx7_0 : w12.cell? ⟨go5, (x5_1 : Int).toNat * 3, none⟩ = some (.int .i64 ((zah y379 x5_1).f0)) := hcc7 0 _ rfl; have hx7_1 : w12.cell? ⟨go5, (x5_1 : Int).toNat * 3 + 1, none⟩ = some (.int .i64 ((zah y379 x5_1).f1)) := hcc7 1 _ rfl; have hx7_2 : w12.cell? ⟨go5, (x5_1 : Int).toNat * 3 + 2, none⟩ = some (.int .i64 ((zah y379 x5_1).f2)) := hcc7 2 _ rfl; have hf7_0 : w12.frozen? ⟨go5, (x5_1 : Int).toNat * 3, none⟩ = false := hfr7 0; have hf7_1 : w12.frozen? ⟨go5, (x5_1 : Int).toNat * 3 + 1, none⟩ = false := hfr7 1; have hf7_2 : w12.frozen? ⟨go5, (x5_1 : Int).toNat * 3 + 2, none⟩ = false := hfr7 2; clear hcl7 hcc7 hfr7 hM7; replace p7 := eq_true p7; replace q7 := eq_true q7; have HX13 := Aside0.mk (show Kd.R k80 80 w12 w0.heap.size (fun k_ => (P0_ k_ ∨ w.heap.size ≤ k_)) (.slice (some ⟨go5, 0, none⟩) x0_1.length co8) y379 from (by (with_reducible repeat (first | apply Kd.zan | apply Kd.zal | apply Kd.zas)); exact HO_0.out)); obtain ⟨ce13, hcl13, hM13, hcc13, hfr13⟩ := Kd.R_elem HX13.out z80 (x5_1 : Int) (of_decide_eq_true (by first | (with_reducible assumption) | assumption)) (by have h_ : (x5_1 : Int) < ((x0_1.length : Int) : Int) := of_decide_eq_true (by first | (with_reducible assumption) | assumption); first | exact h_ | (have e_ := (Kd.R_reads' HO_0.out).1; omega) | simpa using h_); obtain rfl := k80_openM hM13; have HP13 := Kd.R_seg HX13.out (x5_1 : Int) (of_decide_eq_true (by first | (with_reducible assumption) | assumption)) (by have h_ : (x5_1 : Int) < ((x0_1.length : Int) : Int) := of_decide_eq_true (by first | (with_reducible assumption) | assumption); first | exact h_ | (have e_ := (Kd.R_reads' HO_0.out).1; omega) | simpa using h_) (seg := [.int .i64 (wrap64 ((wrap64 (x1_1 + 1)) + 1))]) (j := 2) hcl13 hcc13 (show 3 ≤ 3 from by decide) (x' := (⟨(zah y379 x5_1).f0, (zah y379 x5_1).f1, wrap64 ((wrap64 (x1_1 + 1)) + 1)⟩ : S80)) (k80_mkM _ _ _ (⟨(zah y379 x5_1).f0, (zah y379 x5_1).f1, wrap64 ((wrap64 (x1_1 + 1)) + 1)⟩ : S80) ) (fun _ hk => hk); have hx13_2 := hcc13 2 _ rfl; (try simp only [show (k80).sz = 3 from rfl, Nat.mul_one, Nat.add_zero] at hx13_2); have hf13_2 := hfr13 2; (try simp only [show (k80).sz = 3 from rfl, Nat.mul_one, Nat.add_zero] at hf13_2); clear hcl13 hcc13 hfr13 hM13) | ((with_reducible refine gate_store (t := 3) (p := 30) rfl ?_); refine store_event (t := 3) (p := 30) (v := ?vo_w14) (w1 := (w12.setCell ⟨go5, (x5_1 : Int).toNat * 3 + 2, none⟩ (.int .i64 (wrap64 ((wrap64 (x1_1 + 1)) + 1))))) ?hg ?ho ?hn ?hr ?_; (case ho => rfl); (case hg => rfl); (case hn => rfl); (case hr => first | (go_simp; done) | (go_simp; rfl)); intro w14 hw; have hg : w12.grownBy w14 (some go5) := (by rw [hw]; exact HP13.2); have hp_ : Kd.R k80 80 w14 w0.heap.size (fun k_ => (P0_ k_ ∨ w.heap.size ≤ k_)) (.slice (some ⟨go5, 0, none⟩) x0_1.length co8) y380 := (by rw [hw, Ny380.out]; exact HP13.1); clear HP13; have n0_ := Aside0.mk (hp_); have n1_ := Aside0.mk ((by rw [hw]; exact za4 (HB.out) GB5.out : Below w0.heap.size w0 w14)); have n2_ := Aside0.mk (Kept.of_grown (S := (fun k_ => P0_ k_)) hg (by repeat (first | (with_reducible first | exact HK.out | apply Kept.alloc | apply Kept.drewN | apply Kept.drew) | exact HK.out)) (fun k_ e_ => (HO_0.out.1 k_ e_))); clear HO_0; clear HB; clear HK; have HO_0 := n0_; have HB := n1_; have HK := n2_; clear n0_ n1_ n2_; clear hg hw hp_))
     go_roundg k1
     case measure => have := HK1.out; omega
     case rel => exact ⟨(y380), (wrap64 ((wrap64 ((wrap64 (x1_1 + 1)) + 1)) + 1)), (wrap64 (x5_1 + 1)), (by first | rfl | (simp; done) | (simp [*]; done)), (by first | rfl | (simp; done) | (simp [*]; done)), H', ⟨by have := HK1.out; omega⟩, ⟨by (with_reducible repeat (first | apply Kd.zan | apply Kd.zal | apply Kd.zas)); exact HO_0.out⟩, ⟨by repeat (first | (with_reducible first | exact HK.out | apply Kept.alloc | apply Kept.drewN | apply Kept.drew) | exact HK.out)⟩, ⟨by repeat (first | (with_reducible first | exact HB.out | apply za3 | apply za0 | apply za2) | exact HB.out)⟩⟩
    ·rw [if_neg c4] at H
     exact absurd H (by simp)
   ·rw [if_neg c3] at H
    have c3b0 : decide (x5_1 < (x0_1.length : Int)) = false := decide_eq_false c3
    clear c3
    simp only [Option.some.injEq, Prod.mk.injEq] at H
    obtain ⟨rfl, rfl⟩ := H
    obtain ⟨Ao15, co15, eo15⟩ := Kd.zay HO_0.out
    subst eo15
    go_wp2
    go_ret
    exact ⟨by first | rfl | (simp [zae, zaf] <;> rfl) | (simp [*, zae, zaf] <;> rfl), by (with_reducible repeat (first | apply Kd.zan | apply Kd.zal | apply Kd.zas)); exact HO_0.out, by repeat (first | (with_reducible first | exact HB.out | apply za3 | apply za0 | apply za2) | exact HB.out), by repeat (first | (with_reducible first | exact HK.out | apply Kept.alloc | apply Kept.drewN | apply Kept.drew) | exact HK.out)⟩

/-! ### laws_markRegCode: function 24 -/
def laws_markRegCode.f (k : Nat) (a0_0 : Int) (l0_1 : List Int) (l0_2 : List (S80)) (l0_3 : List Int) (a1 : Int) : Option (Int × List Int × (List (S80)) × List Int) := (laws_markIntS.f k l0_1 a1).bind fun bt382 => ((laws_markRegOpS.f k l0_2 bt382.1).bind fun bt384 => ((laws_markIntS.f k l0_3 bt384.1).bind fun bt386 => (some (bt386.1, bt382.2, bt384.2, bt386.2))))
theorem laws_markRegCode.mono : ∀ a0 a1 a2 a3 a4 k, LeO (laws_markRegCode.f k a0 a1 a2 a3 a4) (laws_markRegCode.f (k + 1) a0 a1 a2 a3 a4) := by
 intro a0 a1 a2 a3 a4 k
 unfold laws_markRegCode.f
 repeat' first
   | (with_reducible exact laws_markIntS.mono _ _ _)
   | (with_reducible exact laws_markRegOpS.mono _ _ _)
   | (with_reducible exact LeO.refl _)
   | (with_reducible exact LeO.none _)
   | (with_reducible refine LeO.ite ?_ ?_)
   | (with_reducible refine LeO.bind ?_ (fun _ => ?_))
   | exact laws_markIntS.mono _ _ _
   | exact laws_markRegOpS.mono _ _ _
   | exact LeO.none _
   | refine LeO.ite ?_ ?_
   | refine LeO.bind ?_ (fun _ => ?_)
set_option maxHeartbeats 8000000 in
set_option maxRecDepth 100000 in
theorem laws_markRegCode.calls (k : Nat) (a0_0 : Int) (P0_1_ : Nat → Prop) (u9000_ : Value) (l0_1 : List Int) (P0_2_ : Nat → Prop) (u9001_ : Value) (l0_2 : List (S80)) (P0_3_ : Nat → Prop) (u9002_ : Value) (l0_3 : List Int) (a1 : Int) (r1 : Int) (r2 : List Int) (r3 : List (S80)) (r4 : List Int) (w0 w : World) (hB : Below w0.heap.size w0 w) (ho0_1 : Kd.R (Kd.int .i64) 3 w w0.heap.size P0_1_ u9000_ l0_1) (hp0_1_0_3 : ∀ k_, P0_1_ k_ → ¬ P0_3_ k_) (ho0_2 : Kd.R k80 80 w w0.heap.size P0_2_ u9001_ l0_2) (ho0_3 : Kd.R (Kd.int .i64) 3 w w0.heap.size P0_3_ u9002_ l0_3) (hp0_3_0_1 : ∀ k_, P0_3_ k_ → ¬ P0_1_ k_) (h : laws_markRegCode.f k a0_0 l0_1 l0_2 l0_3 a1 = some (r1, r2, r3, r4)) :
  Calls Try.prog 24 #[.agg #[.int .i64 a0_0, u9000_, u9001_, u9002_], .int .i64 a1] w fun e w' => e = .returned (.int .i64 r1) ∧ Kd.R (Kd.int .i64) 3 w' w0.heap.size (fun k_ => ((P0_1_ k_ ∨ P0_2_ k_ ∨ P0_3_ k_) ∨ w.heap.size ≤ k_)) u9000_ r2 ∧ Kd.R k80 80 w' w0.heap.size (fun k_ => ((P0_1_ k_ ∨ P0_2_ k_ ∨ P0_3_ k_) ∨ w.heap.size ≤ k_)) u9001_ r3 ∧ Kd.R (Kd.int .i64) 3 w' w0.heap.size (fun k_ => ((P0_1_ k_ ∨ P0_2_ k_ ∨ P0_3_ k_) ∨ w.heap.size ≤ k_)) u9002_ r4 ∧ Below w0.heap.size w0 w' ∧ Kept w w' (fun k_ => P0_1_ k_ ∨ P0_2_ k_ ∨ P0_3_ k_) := by
 have hu30 := Try.underlying30
 have HO0_1 := Aside0.mk (show Kd.R (Kd.int .i64) 3 w w0.heap.size (fun k_ => ((P0_1_ k_ ∨ P0_2_ k_ ∨ P0_3_ k_) ∨ w.heap.size ≤ k_) ∧ some k_ ≠ (u9002_ : Value).ownBlock) u9000_ l0_1 from Kd.zav ho0_1 (fun k_ hk => ⟨(.inl (.inl hk)), fun e_ => hp0_1_0_3 k_ hk (ho0_3.1 k_ e_.symm)⟩))
 have HO0_2 := Aside0.mk (show Kd.R k80 80 w w0.heap.size (fun k_ => ((P0_1_ k_ ∨ P0_2_ k_ ∨ P0_3_ k_) ∨ w.heap.size ≤ k_)) u9001_ l0_2 from Kd.zav ho0_2 (fun k_ hk => (.inl (.inr (.inl hk)))))
 have HO0_3 := Aside0.mk (show Kd.R (Kd.int .i64) 3 w w0.heap.size (fun k_ => ((P0_1_ k_ ∨ P0_2_ k_ ∨ P0_3_ k_) ∨ w.heap.size ≤ k_) ∧ some k_ ≠ (u9000_ : Value).ownBlock) u9002_ l0_3 from Kd.zav ho0_3 (fun k_ hk => ⟨(.inl (.inr (.inr hk))), fun e_ => hp0_3_0_1 k_ hk (ho0_1.1 k_ e_.symm)⟩))
 have HK := Aside0.mk (Kept.refl w (fun k_ => P0_1_ k_ ∨ P0_2_ k_ ∨ P0_3_ k_))
 have HW0 := Aside0.mk hB.size
 have HB := Aside0.mk hB
 clear hB
 have H : ((laws_markIntS.f k l0_1 a1).bind fun bt382 => ((laws_markRegOpS.f k l0_2 bt382.1).bind fun bt384 => ((laws_markIntS.f k l0_3 bt384.1).bind fun bt386 => (some (bt386.1, bt382.2, bt384.2, bt386.2))))) = some (r1, r2, r3, r4) := h
 clear h
 replace H := Option.bind_eq_some_iff.mp H
 obtain ⟨⟨t382, t383⟩, A30, H⟩ := H
 replace H : ((laws_markRegOpS.f k l0_2 t382).bind fun bt384 => ((laws_markIntS.f k l0_3 bt384.1).bind fun bt386 => (some (bt386.1, t383, bt384.2, bt386.2)))) = some (r1, r2, r3, r4) := H
 have A3 := Aside0.mk A30
 clear A30
 replace H := Option.bind_eq_some_iff.mp H
 obtain ⟨⟨t384, t385⟩, A40, H⟩ := H
 replace H : ((laws_markIntS.f k l0_3 t384).bind fun bt386 => (some (bt386.1, t383, t385, bt386.2))) = some (r1, r2, r3, r4) := H
 have A4 := Aside0.mk A40
 clear A40
 replace H := Option.bind_eq_some_iff.mp H
 obtain ⟨⟨t386, t387⟩, A50, H⟩ := H
 replace H : (some (t386, t383, t385, t387)) = some (r1, r2, r3, r4) := H
 have A5 := Aside0.mk A50
 clear A50
 simp only [Option.some.injEq, Prod.mk.injEq] at H
 obtain ⟨rfl, rfl, rfl, rfl⟩ := H
 obtain ⟨Ao6, co6, eo6⟩ := Kd.zay HO0_1.out
 subst eo6
 obtain ⟨Ao7, co7, eo7⟩ := Kd.zay HO0_2.out
 subst eo7
 obtain ⟨Ao8, co8, eo8⟩ := Kd.zay HO0_3.out
 subst eo8
 go_enter Try.func24, Try.ntmps24
 go_wp2_with (first | ((with_reducible refine zak (N := 2) rfl ?_); refine zaj ?hg (N := 2) ?hd (cs := #[.int .i64 a0_0, .slice Ao6 l0_1.length co6, .slice Ao7 l0_2.length co7, .slice Ao8 l0_3.length co8]) (t := 30) ?hr ?_; (case hd => rfl); (case hg => rfl); (case hr => first | (go_simp; done) | (go_simp; rfl)); intro gb381 hg w9 hbox hb; have n0_ := Aside0.mk (Kd.zb5 (by (with_reducible repeat (first | apply Kd.zan | apply Kd.zal | apply Kd.zas)); exact HO0_1.out) hb); have n1_ := Aside0.mk (Kd.zb5 (by (with_reducible repeat (first | apply Kd.zan | apply Kd.zal | apply Kd.zas)); exact HO0_2.out) hb); have n2_ := Aside0.mk (Kd.zb5 (by (with_reducible repeat (first | apply Kd.zan | apply Kd.zal | apply Kd.zas)); exact HO0_3.out) hb); have n3_ := Aside0.mk (Kept.below (S := (fun k_ => P0_1_ k_ ∨ P0_2_ k_ ∨ P0_3_ k_)) (by repeat (first | (with_reducible first | exact HK.out | apply Kept.alloc | apply Kept.drewN | apply Kept.drew) | exact HK.out)) hb); have n4_ := Aside0.mk (zad (by repeat (first | (with_reducible first | exact HB.out | apply za3 | apply za0 | apply za2) | exact HB.out)) hb); have n5_ := Aside0.mk (hbox); have n6_ := Aside0.mk ((by rw [hg]; exact (by first | exact HK.out.1 | exact (show Kept w _ (fun k_ => P0_1_ k_ ∨ P0_2_ k_ ∨ P0_3_ k_) from by repeat (first | (with_reducible first | exact HK.out | apply Kept.alloc | apply Kept.drewN | apply Kept.drew) | exact HK.out)).1) : w.heap.size ≤ gb381)); have n7_ := Aside0.mk ((by rw [hg]; exact (za9 (by repeat (first | (with_reducible first | exact HB.out | apply za3 | apply za0 | apply za2) | exact HB.out))) : w0.heap.size ≤ gb381)); clear HO0_1; clear HO0_2; clear HO0_3; clear HK; clear HB; have HO0_1 := n0_; have HO0_2 := n1_; have HO0_3 := n2_; have HK := n3_; have HB := n4_; have BK381 := n5_; have GW381 := n6_; have GE381 := n7_; clear n0_ n1_ n2_ n3_ n4_ n5_ n6_ n7_; clear hb hbox hg; have hcz10_0 : w9.cell? ⟨gb381, 0, none⟩ = some (.int .i64 a0_0) := (za5 BK381.out 0).trans rfl; have hcz10_1 : w9.cell? ⟨gb381, 1, none⟩ = some (.slice Ao6 l0_1.length co6) := (za5 BK381.out 1).trans rfl; have hcz10_2 : w9.cell? ⟨gb381, 2, none⟩ = some (.slice Ao7 l0_2.length co7) := (za5 BK381.out 2).trans rfl; have hcz10_3 : w9.cell? ⟨gb381, 3, none⟩ = some (.slice Ao8 l0_3.length co8) := (za5 BK381.out 3).trans rfl; have hfz10_0 := za1 BK381.out 0; have hfz10_1 := za1 BK381.out 1; have hfz10_2 := za1 BK381.out 2; have hfz10_3 := za1 BK381.out 3) | ((with_reducible refine zai (f := 31) rfl ?_); refine zb1 (some 8) rfl rfl Try.func31 (by kernel_rfl) rfl #[.slice Ao6 l0_1.length co6, .int .i64 a1] rfl (by (try simp only [List.map_toArray, List.map_cons, List.map_nil]); first | done | rfl | (simp only [List.length_drop, List.length_take]; rfl)) ?_; (with_reducible refine (laws_markIntS.calls k (fun k_ => some k_ = (.slice Ao6 l0_1.length co6 : Value).ownBlock) (.slice Ao6 l0_1.length co6) l0_1 a1 t382 t383 w0 _ ?side1 ?side2 A3.out).mono ?_); (case side1 => repeat (first | (with_reducible first | exact HB.out | apply za3 | apply za0 | apply za2 | refine za4 ?_ GE381.out) | exact HB.out)); (case side2 => exact Kd.R_tight rfl HO0_1.out); rintro e w11 ⟨rfl, hy0, hb, hkp⟩; refine ⟨_, rfl, ?_⟩; have n0_ := Aside0.mk (Kd.R_reok rfl hy0 (fun k_ e_ => HO0_1.out.1 k_ e_)); have n1_ := Aside0.mk (Kd.zav (ok' := fun k_ => ((P0_1_ k_ ∨ P0_2_ k_ ∨ P0_3_ k_) ∨ w.heap.size ≤ k_)) (Kd.R_keptB ((Kd.R_apart' HO0_2.out (Kd.R_typed HO0_1.out) (by decide))) hkp (fun k_ hk_ hs_ => (hk_.2) hs_)) (fun k_ hk_ => hk_.1.1)); have n2_ := Aside0.mk (Kd.zav (ok' := fun k_ => ((P0_1_ k_ ∨ P0_2_ k_ ∨ P0_3_ k_) ∨ w.heap.size ≤ k_) ∧ some k_ ≠ (.slice Ao6 l0_1.length co6 : Value).ownBlock) (Kd.R_keptB (HO0_3.out) hkp (fun k_ hk_ hs_ => (hk_.2) hs_)) (fun k_ hk_ => ⟨hk_.1.1, hk_.1.2⟩)); have n3_ := Aside0.mk (blk_kept (by (with_reducible repeat (first | refine za7 ?_ _ | refine za8 ?_ | refine za6 ?_ _)); exact BK381.out) hkp (fun hs_ => (fun e_ => (Kd.R_ne HO0_1.out BK381.out (by decide)) e_) hs_)); have n4_ := Aside0.mk (Kept.then_ (S := (fun k_ => P0_1_ k_ ∨ P0_2_ k_ ∨ P0_3_ k_)) (by repeat (first | (with_reducible first | exact HK.out | apply Kept.alloc | apply Kept.drewN | apply Kept.drew | refine Kept.setCell ?_ (.inr GW381.out) _) | exact HK.out)) hkp (fun k_ hs_ => (fun e_ => (HO0_1.out.1 k_ e_.symm).1) hs_)); have n5_ := Aside0.mk (hb); clear HO0_1; clear HO0_2; clear HO0_3; clear BK381; clear HK; clear HB; have HO0_1 := n0_; have HO0_2 := n1_; have HO0_3 := n2_; have BK381 := n3_; have HK := n4_; have HB := n5_; clear n0_ n1_ n2_ n3_ n4_ n5_; (try clear hb); (try clear hkp); (try clear hy0); have hcz12_0 : w11.cell? ⟨gb381, 0, none⟩ = some (.int .i64 a0_0) := (za5 BK381.out 0).trans rfl; have hcz12_1 : w11.cell? ⟨gb381, 1, none⟩ = some (.slice Ao6 l0_1.length co6) := (za5 BK381.out 1).trans rfl; have hcz12_2 : w11.cell? ⟨gb381, 2, none⟩ = some (.slice Ao7 l0_2.length co7) := (za5 BK381.out 2).trans rfl; have hcz12_3 : w11.cell? ⟨gb381, 3, none⟩ = some (.slice Ao8 l0_3.length co8) := (za5 BK381.out 3).trans rfl; have hfz12_0 := za1 BK381.out 0; have hfz12_1 := za1 BK381.out 1; have hfz12_2 := za1 BK381.out 2; have hfz12_3 := za1 BK381.out 3) | ((with_reducible refine zai (f := 64) rfl ?_); refine zb1 (some 12) rfl rfl Try.func64 (by kernel_rfl) rfl #[.slice Ao7 l0_2.length co7, .int .i64 t382] rfl (by (try simp only [List.map_toArray, List.map_cons, List.map_nil]); first | done | rfl | (simp only [List.length_drop, List.length_take]; rfl)) ?_; (with_reducible refine (laws_markRegOpS.calls k (fun k_ => some k_ = (.slice Ao7 l0_2.length co7 : Value).ownBlock) (.slice Ao7 l0_2.length co7) l0_2 t382 t384 t385 w0 _ ?side1 ?side2 A4.out).mono ?_); (case side1 => repeat (first | (with_reducible first | exact HB.out | apply za3 | apply za0 | apply za2 | refine za4 ?_ GE381.out) | exact HB.out)); (case side2 => exact Kd.R_tight rfl HO0_2.out); rintro e w13 ⟨rfl, hy0, hb, hkp⟩; refine ⟨_, rfl, ?_⟩; have n0_ := Aside0.mk (Kd.zav (ok' := fun k_ => ((P0_1_ k_ ∨ P0_2_ k_ ∨ P0_3_ k_) ∨ w.heap.size ≤ k_) ∧ some k_ ≠ (.slice Ao8 l0_3.length co8 : Value).ownBlock) (Kd.R_keptB ((Kd.R_apart' HO0_1.out (Kd.R_typed HO0_2.out) (by decide))) hkp (fun k_ hk_ hs_ => (hk_.2) hs_)) (fun k_ hk_ => ⟨hk_.1.1.1, hk_.1.1.2⟩)); have n1_ := Aside0.mk (Kd.R_reok rfl hy0 (fun k_ e_ => HO0_2.out.1 k_ e_)); have n2_ := Aside0.mk (Kd.zav (ok' := fun k_ => ((P0_1_ k_ ∨ P0_2_ k_ ∨ P0_3_ k_) ∨ w.heap.size ≤ k_) ∧ some k_ ≠ (.slice Ao6 l0_1.length co6 : Value).ownBlock) (Kd.R_keptB ((Kd.R_apart' HO0_3.out (Kd.R_typed HO0_2.out) (by decide))) hkp (fun k_ hk_ hs_ => (hk_.2) hs_)) (fun k_ hk_ => ⟨hk_.1.1.1, hk_.1.1.2⟩)); have n3_ := Aside0.mk (blk_kept (by (with_reducible repeat (first | refine za7 ?_ _ | refine za8 ?_ | refine za6 ?_ _)); exact BK381.out) hkp (fun hs_ => (fun e_ => (Kd.R_ne HO0_2.out BK381.out (by decide)) e_) hs_)); have n4_ := Aside0.mk (Kept.then_ (S := (fun k_ => P0_1_ k_ ∨ P0_2_ k_ ∨ P0_3_ k_)) (by repeat (first | (with_reducible first | exact HK.out | apply Kept.alloc | apply Kept.drewN | apply Kept.drew | refine Kept.setCell ?_ (.inr GW381.out) _) | exact HK.out)) hkp (fun k_ hs_ => (fun e_ => (HO0_2.out.1 k_ e_.symm)) hs_)); have n5_ := Aside0.mk (hb); clear HO0_1; clear HO0_2; clear HO0_3; clear BK381; clear HK; clear HB; have HO0_1 := n0_; have HO0_2 := n1_; have HO0_3 := n2_; have BK381 := n3_; have HK := n4_; have HB := n5_; clear n0_ n1_ n2_ n3_ n4_ n5_; (try clear hb); (try clear hkp); (try clear hy0); have hcz14_0 : w13.cell? ⟨gb381, 0, none⟩ = some (.int .i64 a0_0) := (za5 BK381.out 0).trans rfl; have hcz14_1 : w13.cell? ⟨gb381, 1, none⟩ = some (.slice Ao6 l0_1.length co6) := (za5 BK381.out 1).trans rfl; have hcz14_2 : w13.cell? ⟨gb381, 2, none⟩ = some (.slice Ao7 l0_2.length co7) := (za5 BK381.out 2).trans rfl; have hcz14_3 : w13.cell? ⟨gb381, 3, none⟩ = some (.slice Ao8 l0_3.length co8) := (za5 BK381.out 3).trans rfl; have hfz14_0 := za1 BK381.out 0; have hfz14_1 := za1 BK381.out 1; have hfz14_2 := za1 BK381.out 2; have hfz14_3 := za1 BK381.out 3) | ((with_reducible refine zai (f := 31) rfl ?_); refine zb1 (some 16) rfl rfl Try.func31 (by kernel_rfl) rfl #[.slice Ao8 l0_3.length co8, .int .i64 t384] rfl (by (try simp only [List.map_toArray, List.map_cons, List.map_nil]); first | done | rfl | (simp only [List.length_drop, List.length_take]; rfl)) ?_; (with_reducible refine (laws_markIntS.calls k (fun k_ => some k_ = (.slice Ao8 l0_3.length co8 : Value).ownBlock) (.slice Ao8 l0_3.length co8) l0_3 t384 t386 t387 w0 _ ?side1 ?side2 A5.out).mono ?_); (case side1 => repeat (first | (with_reducible first | exact HB.out | apply za3 | apply za0 | apply za2 | refine za4 ?_ GE381.out) | exact HB.out)); (case side2 => exact Kd.R_tight rfl HO0_3.out); rintro e w15 ⟨rfl, hy0, hb, hkp⟩; refine ⟨_, rfl, ?_⟩; have n0_ := Aside0.mk (Kd.zav (ok' := fun k_ => ((P0_1_ k_ ∨ P0_2_ k_ ∨ P0_3_ k_) ∨ w.heap.size ≤ k_) ∧ some k_ ≠ (.slice Ao8 l0_3.length co8 : Value).ownBlock) (Kd.R_keptB (HO0_1.out) hkp (fun k_ hk_ hs_ => (hk_.2) hs_)) (fun k_ hk_ => ⟨hk_.1.1, hk_.1.2⟩)); have n1_ := Aside0.mk (Kd.zav (ok' := fun k_ => ((P0_1_ k_ ∨ P0_2_ k_ ∨ P0_3_ k_) ∨ w.heap.size ≤ k_)) (Kd.R_keptB ((Kd.R_apart' HO0_2.out (Kd.R_typed HO0_3.out) (by decide))) hkp (fun k_ hk_ hs_ => (hk_.2) hs_)) (fun k_ hk_ => hk_.1.1)); have n2_ := Aside0.mk (Kd.R_reok rfl hy0 (fun k_ e_ => HO0_3.out.1 k_ e_)); have n3_ := Aside0.mk (blk_kept (by (with_reducible repeat (first | refine za7 ?_ _ | refine za8 ?_ | refine za6 ?_ _)); exact BK381.out) hkp (fun hs_ => (fun e_ => (Kd.R_ne HO0_3.out BK381.out (by decide)) e_) hs_)); have n4_ := Aside0.mk (Kept.then_ (S := (fun k_ => P0_1_ k_ ∨ P0_2_ k_ ∨ P0_3_ k_)) (by repeat (first | (with_reducible first | exact HK.out | apply Kept.alloc | apply Kept.drewN | apply Kept.drew | refine Kept.setCell ?_ (.inr GW381.out) _) | exact HK.out)) hkp (fun k_ hs_ => (fun e_ => (HO0_3.out.1 k_ e_.symm).1) hs_)); have n5_ := Aside0.mk (hb); clear HO0_1; clear HO0_2; clear HO0_3; clear BK381; clear HK; clear HB; have HO0_1 := n0_; have HO0_2 := n1_; have HO0_3 := n2_; have BK381 := n3_; have HK := n4_; have HB := n5_; clear n0_ n1_ n2_ n3_ n4_ n5_; (try clear hb); (try clear hkp); (try clear hy0)))
 go_ret
 exact ⟨by first | rfl | (simp [zae, zaf] <;> rfl) | (simp [*, zae, zaf] <;> rfl), by (with_reducible repeat (first | apply Kd.zan | apply Kd.zal | apply Kd.zas)); exact Kd.zav HO0_1.out (fun _ hk => hk.1), by (with_reducible repeat (first | apply Kd.zan | apply Kd.zal | apply Kd.zas)); exact HO0_2.out, by (with_reducible repeat (first | apply Kd.zan | apply Kd.zal | apply Kd.zas)); exact Kd.zav HO0_3.out (fun _ hk => hk.1), by repeat (first | (with_reducible first | exact HB.out | apply za3 | apply za0 | apply za2 | refine za4 ?_ GE381.out) | exact HB.out), by repeat (first | (with_reducible first | exact HK.out | apply Kept.alloc | apply Kept.drewN | apply Kept.drew | refine Kept.setCell ?_ (.inr GW381.out) _) | exact HK.out)⟩

/-! ### laws_markStepS: function 65 -/
def laws_markStepS.l0 : Nat → List (S117) → Int → Int → Option (Int × (List (S117)))
 | 0, _, _, _ => none
 | k + 1, x0, x1, x5 => if x5 < (x0.length : Int) then (if 0 ≤ x5 then ((some (x0.set (x5 : Int).toNat (⟨x1, (zac x0 x5).f1⟩ : S117) : List (S117))).bind fun y388 => (laws_markStepS.l0 k (y388.set (x5 : Int).toNat (⟨(zac y388 x5).f0, wrap64 (x1 + 1)⟩ : S117)) (wrap64 ((wrap64 (x1 + 1)) + 1)) (wrap64 (x5 + 1)))) else (none)) else (some (x1, x0))
def laws_markStepS.f (k : Nat) (l0 : List (S117)) (a1 : Int) : Option (Int × (List (S117))) := laws_markStepS.l0 k l0 a1 0
theorem laws_markStepS.zb6 : ∀ k, (∀ y0 y1 y2, LeO (laws_markStepS.l0 k y0 y1 y2) (laws_markStepS.l0 (k + 1) y0 y1 y2))
 | 0 => fun _ _ _ r h => by simp [laws_markStepS.l0] at h
 | k + 1 => by
  have ih0 := laws_markStepS.zb6 k
  ·intro y0 y1 y2
   unfold laws_markStepS.l0
   repeat' first
   | (with_reducible exact ih0 _ _ _)
   | (with_reducible exact LeO.refl _)
   | (with_reducible exact LeO.none _)
   | (with_reducible refine LeO.ite ?_ ?_)
   | (with_reducible refine LeO.bind ?_ (fun _ => ?_))
   | exact ih0 _ _ _
   | exact LeO.none _
   | refine LeO.ite ?_ ?_
   | refine LeO.bind ?_ (fun _ => ?_)
theorem laws_markStepS.mono : ∀ a0 a1 k, LeO (laws_markStepS.f k a0 a1) (laws_markStepS.f (k + 1) a0 a1) := by
 intro a0 a1 k
 have ih0 := laws_markStepS.zb6 k
 unfold laws_markStepS.f
 repeat' first
   | (with_reducible exact ih0 _ _ _)
   | (with_reducible exact LeO.refl _)
   | (with_reducible exact LeO.none _)
   | (with_reducible refine LeO.ite ?_ ?_)
   | (with_reducible refine LeO.bind ?_ (fun _ => ?_))
   | exact ih0 _ _ _
   | exact LeO.none _
   | refine LeO.ite ?_ ?_
   | refine LeO.bind ?_ (fun _ => ?_)
set_option maxHeartbeats 8000000 in
set_option maxRecDepth 100000 in
theorem laws_markStepS.calls (k : Nat) (P0_ : Nat → Prop) (u9000_ : Value) (l0 : List (S117)) (a1 : Int) (r1 : Int) (r2 : List (S117)) (w0 w : World) (hB : Below w0.heap.size w0 w) (ho0 : Kd.R k117 117 w w0.heap.size P0_ u9000_ l0) (h : laws_markStepS.f k l0 a1 = some (r1, r2)) :
  Calls Try.prog 65 #[u9000_, .int .i64 a1] w fun e w' => e = .returned (.int .i64 r1) ∧ Kd.R k117 117 w' w0.heap.size (fun k_ => (P0_ k_ ∨ w.heap.size ≤ k_)) u9000_ r2 ∧ Below w0.heap.size w0 w' ∧ Kept w w' (fun k_ => P0_ k_) := by
 have HO0 := Aside0.mk (show Kd.R k117 117 w w0.heap.size (fun k_ => (P0_ k_ ∨ w.heap.size ≤ k_)) u9000_ l0 from Kd.zav ho0 (fun k_ hk => (.inl hk)))
 have HK := Aside0.mk (Kept.refl w (fun k_ => P0_ k_))
 have HW0 := Aside0.mk hB.size
 have HB := Aside0.mk hB
 clear hB
 have H : (laws_markStepS.l0 k l0 a1 0) = some (r1, r2) := h
 clear h
 have H' := Aside0.mk H
 clear H
 go_enter Try.func65, Try.ntmps65
 go_wp2
 go_loopg [1, 5] k (fun kq v1 v5 w' => ∃ (x0_1 : List (S117)) (x1_1 : Int) (x5_1 : Int), v1 = .int .i64 x1_1 ∧ v5 = .int .i64 x5_1 ∧ Aside0 (laws_markStepS.l0 kq x0_1 x1_1 x5_1 = some (r1, r2)) ∧ Aside0 (kq ≤ k) ∧ Aside0 (Kd.R k117 117 w' w0.heap.size (fun k_ => (P0_ k_ ∨ w.heap.size ≤ k_)) u9000_ x0_1) ∧ Aside0 (Kept w w' (fun k_ => P0_ k_)) ∧ Aside0 (Below w0.heap.size w0 w'))
 case atStart => exact ⟨(l0), (a1), (0), (by first | rfl | (simp; done) | (simp [*]; done)), (by first | rfl | (simp; done) | (simp [*]; done)), H', ⟨Nat.le_refl _⟩, ⟨by (with_reducible repeat (first | apply Kd.zan | apply Kd.zal | apply Kd.zas)); exact HO0.out⟩, ⟨by repeat (first | (with_reducible first | exact HK.out | apply Kept.alloc | apply Kept.drewN | apply Kept.drew) | exact HK.out)⟩, ⟨by repeat (first | (with_reducible first | exact HB.out | apply za3 | apply za0 | apply za2) | exact HB.out)⟩⟩
 case round =>
  clear H'
  try clear p2
  obtain ⟨x0_1, x1_1, x5_1, rfl, rfl, HA, HK1, HO_0, HK, HB⟩ := hrel
  cases gk with
  | zero => exact absurd HA.out (by simp [laws_markStepS.l0])
  | succ k1 =>
   have H := HA.out
   clear HA
   simp only [laws_markStepS.l0] at H
   by_cases c3 : x5_1 < (x0_1.length : Int)
   ·rw [if_pos c3] at H
    have c3b0 : decide (x5_1 < (x0_1.length : Int)) = true := decide_eq_true c3
    clear c3
    by_cases c4 : 0 ≤ x5_1
    ·rw [if_pos c4] at H
     have c4b0 : decide (0 ≤ x5_1) = true := decide_eq_true c4
     clear c4
     obtain ⟨y388, hy388⟩ : ∃ y_ : List (S117), y_ = (x0_1.set (x5_1 : Int).toNat (⟨x1_1, (zac x0_1 x5_1).f1⟩ : S117)) := ⟨_, rfl⟩
     replace H : (laws_markStepS.l0 k1 (y388.set (x5_1 : Int).toNat (⟨(zac y388 x5_1).f0, wrap64 (x1_1 + 1)⟩ : S117)) (wrap64 ((wrap64 (x1_1 + 1)) + 1)) (wrap64 (x5_1 + 1))) = some (r1, r2) := by first | (rw [hy388]; with_reducible exact H) | (have H2_ := (Option.bind_some _ _).symm.trans H; rw [hy388]; with_reducible exact H2_) | (have H2_ := (Option.bind_some _ _).symm.trans H; with_reducible exact H2_) | with_reducible exact H | (rw [hy388]; exact H) | exact H
     have Ny388 := Aside0.mk hy388
     clear hy388
     obtain ⟨y389, hy389⟩ : ∃ y_ : List (S117), y_ = (y388.set (x5_1 : Int).toNat (⟨(zac y388 x5_1).f0, wrap64 (x1_1 + 1)⟩ : S117)) := ⟨_, rfl⟩
     replace H : (laws_markStepS.l0 k1 y389 (wrap64 ((wrap64 (x1_1 + 1)) + 1)) (wrap64 (x5_1 + 1))) = some (r1, r2) := by first | (rw [hy389]; with_reducible exact H) | (have H2_ := (Option.bind_some _ _).symm.trans H; rw [hy389]; with_reducible exact H2_) | (have H2_ := (Option.bind_some _ _).symm.trans H; with_reducible exact H2_) | with_reducible exact H | (rw [hy389]; exact H) | exact H
     have Ny389 := Aside0.mk hy389
     clear hy389
     have H' := Aside0.mk H
     clear H
     obtain ⟨Ao7, co7, eo7⟩ := Kd.zay HO_0.out
     subst eo7
     have p5 : 0 ≤ (x5_1 : Int) := of_decide_eq_true (by first | (with_reducible assumption) | assumption)
     have q5 : (x5_1 : Int) < ((x0_1.length : Int) : Int) := of_decide_eq_true (by first | (with_reducible assumption) | assumption)
     obtain ⟨go5, co5, eo5, gb5, gl5, cl5, HG5⟩ := Kd.R_form HO_0.out (by omega)
     (first | cases eo5 | (injection eo5 with ea_ en_ ec_; (first | subst ea_ | (injection ea_ with ea_; subst ea_)); subst ec_; clear en_))
     have GB5 := Aside0.mk gb5
     have GG5 := Aside0.mk HG5
     clear gb5 gl5 HG5
     have HMgo5 := Aside0.mk (show (P0_ go5 ∨ w.heap.size ≤ go5) from (HO_0.out.1 _ rfl))
     obtain ⟨ce5, hcl5, hM5, hcc5, hfr5⟩ := Kd.R_elem HO_0.out z117 (x5_1 : Int) p5 q5
     obtain rfl := k117_openM hM5
     have hx5_0 : wr.cell? ⟨go5, (x5_1 : Int).toNat * 2, none⟩ = some (.int .i64 ((zac x0_1 x5_1).f0)) := hcc5 0 _ rfl
     have hx5_1 : wr.cell? ⟨go5, (x5_1 : Int).toNat * 2 + 1, none⟩ = some (.int .i64 ((zac x0_1 x5_1).f1)) := hcc5 1 _ rfl
     have hf5_0 : wr.frozen? ⟨go5, (x5_1 : Int).toNat * 2, none⟩ = false := hfr5 0
     have hf5_1 : wr.frozen? ⟨go5, (x5_1 : Int).toNat * 2 + 1, none⟩ = false := hfr5 1
     clear hcl5 hcc5 hfr5 hM5
     replace p5 := eq_true p5
     replace q5 := eq_true q5
     have HX8 := Aside0.mk (show Kd.R k117 117 wr w0.heap.size (fun k_ => (P0_ k_ ∨ w.heap.size ≤ k_)) (.slice (some ⟨go5, 0, none⟩) x0_1.length co7) x0_1 from (by (with_reducible repeat (first | apply Kd.zan | apply Kd.zal | apply Kd.zas)); exact HO_0.out))
     obtain ⟨ce8, hcl8, hM8, hcc8, hfr8⟩ := Kd.R_elem HX8.out z117 (x5_1 : Int) (of_decide_eq_true (by first | (with_reducible assumption) | assumption)) (by have h_ : (x5_1 : Int) < ((x0_1.length : Int) : Int) := of_decide_eq_true (by first | (with_reducible assumption) | assumption); first | exact h_ | (have e_ := (Kd.R_reads' HO_0.out).1; omega) | simpa using h_)
     obtain rfl := k117_openM hM8
     have HP8 := Kd.R_seg HX8.out (x5_1 : Int) (of_decide_eq_true (by first | (with_reducible assumption) | assumption)) (by have h_ : (x5_1 : Int) < ((x0_1.length : Int) : Int) := of_decide_eq_true (by first | (with_reducible assumption) | assumption); first | exact h_ | (have e_ := (Kd.R_reads' HO_0.out).1; omega) | simpa using h_) (seg := [.int .i64 x1_1]) (j := 0) hcl8 hcc8 (show 1 ≤ 2 from by decide) (x' := (⟨x1_1, (zac x0_1 x5_1).f1⟩ : S117)) (k117_mkM _ _ _ (⟨x1_1, (zac x0_1 x5_1).f1⟩ : S117) ) (fun _ hk => hk)
     have hx8_0 := hcc8 0 _ rfl
     (try simp only [show (k117).sz = 2 from rfl, Nat.mul_one, Nat.add_zero] at hx8_0)
     have hf8_0 := hfr8 0
     (try simp only [show (k117).sz = 2 from rfl, Nat.mul_one, Nat.add_zero] at hf8_0)
     clear hcl8 hcc8 hfr8 hM8
     go_wp2_with (first | ((with_reducible refine gate_store (t := 3) (p := 16) rfl ?_); refine store_event (t := 3) (p := 16) (v := ?vo_w9) (w1 := (wr.setCell ⟨go5, (x5_1 : Int).toNat * 2, none⟩ (.int .i64 x1_1))) ?hg ?ho ?hn ?hr ?_; (case ho => rfl); (case hg => rfl); (case hn => rfl); (case hr => first | (go_simp; done) | (go_simp; rfl)); intro w9 hw; have hg : wr.grownBy w9 (some go5) := (by rw [hw]; exact HP8.2); have hp_ : Kd.R k117 117 w9 w0.heap.size (fun k_ => (P0_ k_ ∨ w.heap.size ≤ k_)) (.slice (some ⟨go5, 0, none⟩) x0_1.length co7) y388 := (by rw [hw, Ny388.out]; exact HP8.1); clear HP8; have n0_ := Aside0.mk (hp_); have n1_ := Aside0.mk ((by rw [hw]; exact za4 (HB.out) GB5.out : Below w0.heap.size w0 w9)); have n2_ := Aside0.mk (Kept.of_grown (S := (fun k_ => P0_ k_)) hg (by repeat (first | (with_reducible first | exact HK.out | apply Kept.alloc | apply Kept.drewN | apply Kept.drew) | exact HK.out)) (fun k_ e_ => (HO_0.out.1 k_ e_))); clear HO_0; clear HB; clear HK; have HO_0 := n0_; have HB := n1_; have HK := n2_; clear n0_ n1_ n2_; clear hg hw hp_; have p6 : 0 ≤ (x5_1 : Int) := of_decide_eq_true (by first | (with_reducible assumption) | assumption); have q6 : (x5_1 : Int) < ((x0_1.length : Int) : Int) := of_decide_eq_true (by first | (with_reducible assumption) | assumption); obtain ⟨ce6, hcl6, hM6, hcc6, hfr6⟩ := Kd.R_elem HO_0.out z117 (x5_1 : Int) p6 q6; obtain rfl := k117_openM hM6; have hx6_0 : w9.cell? ⟨go5, (x5_1 : Int).toNat * 2, none⟩ = some (.int .i64 ((zac y388 x5_1).f0)) := hcc6 0 _ rfl; have hx6_1 : w9.cell? ⟨go5, (x5_1 : Int).toNat * 2 + 1, none⟩ = some (.int .i64 ((zac y388 x5_1).f1)) := hcc6 1 _ rfl; have hf6_0 : w9.frozen? ⟨go5, (x5_1 : Int).toNat * 2, none⟩ = false := hfr6 0; have hf6_1 : w9.frozen? ⟨go5, (x5_1 : Int).toNat * 2 + 1, none⟩ = false := hfr6 1; clear hcl6 hcc6 hfr6 hM6; replace p6 := eq_true p6; replace q6 := eq_true q6; have HX10 := Aside0.mk (show Kd.R k117 117 w9 w0.heap.size (fun k_ => (P0_ k_ ∨ w.heap.size ≤ k_)) (.slice (some ⟨go5, 0, none⟩) x0_1.length co7) y388 from (by (with_reducible repeat (first | apply Kd.zan | apply Kd.zal | apply Kd.zas)); exact HO_0.out)); obtain ⟨ce10, hcl10, hM10, hcc10, hfr10⟩ := Kd.R_elem HX10.out z117 (x5_1 : Int) (of_decide_eq_true (by first | (with_reducible assumption) | assumption)) (by have h_ : (x5_1 : Int) < ((x0_1.length : Int) : Int) := of_decide_eq_true (by first | (with_reducible assumption) | assumption); first | exact h_ | (have e_ := (Kd.R_reads' HO_0.out).1; omega) | simpa using h_); obtain rfl := k117_openM hM10; have HP10 := Kd.R_seg HX10.out (x5_1 : Int) (of_decide_eq_true (by first | (with_reducible assumption) | assumption)) (by have h_ : (x5_1 : Int) < ((x0_1.length : Int) : Int) := of_decide_eq_true (by first | (with_reducible assumption) | assumption); first | exact h_ | (have e_ := (Kd.R_reads' HO_0.out).1; omega) | simpa using h_) (seg := [.int .i64 (wrap64 (x1_1 + 1))]) (j := 1) hcl10 hcc10 (show 2 ≤ 2 from by decide) (x' := (⟨(zac y388 x5_1).f0, wrap64 (x1_1 + 1)⟩ : S117)) (k117_mkM _ _ _ (⟨(zac y388 x5_1).f0, wrap64 (x1_1 + 1)⟩ : S117) ) (fun _ hk => hk); have hx10_1 := hcc10 1 _ rfl; (try simp only [show (k117).sz = 2 from rfl, Nat.mul_one, Nat.add_zero] at hx10_1); have hf10_1 := hfr10 1; (try simp only [show (k117).sz = 2 from rfl, Nat.mul_one, Nat.add_zero] at hf10_1); clear hcl10 hcc10 hfr10 hM10) | ((with_reducible refine gate_store (t := 3) (p := 23) rfl ?_); refine store_event (t := 3) (p := 23) (v := ?vo_w11) (w1 := (w9.setCell ⟨go5, (x5_1 : Int).toNat * 2 + 1, none⟩ (.int .i64 (wrap64 (x1_1 + 1))))) ?hg ?ho ?hn ?hr ?_; (case ho => rfl); (case hg => rfl); (case hn => rfl); (case hr => first | (go_simp; done) | (go_simp; rfl)); intro w11 hw; have hg : w9.grownBy w11 (some go5) := (by rw [hw]; exact HP10.2); have hp_ : Kd.R k117 117 w11 w0.heap.size (fun k_ => (P0_ k_ ∨ w.heap.size ≤ k_)) (.slice (some ⟨go5, 0, none⟩) x0_1.length co7) y389 := (by rw [hw, Ny389.out]; exact HP10.1); clear HP10; have n0_ := Aside0.mk (hp_); have n1_ := Aside0.mk ((by rw [hw]; exact za4 (HB.out) GB5.out : Below w0.heap.size w0 w11)); have n2_ := Aside0.mk (Kept.of_grown (S := (fun k_ => P0_ k_)) hg (by repeat (first | (with_reducible first | exact HK.out | apply Kept.alloc | apply Kept.drewN | apply Kept.drew) | exact HK.out)) (fun k_ e_ => (HO_0.out.1 k_ e_))); clear HO_0; clear HB; clear HK; have HO_0 := n0_; have HB := n1_; have HK := n2_; clear n0_ n1_ n2_; clear hg hw hp_))
     go_roundg k1
     case measure => have := HK1.out; omega
     case rel => exact ⟨(y389), (wrap64 ((wrap64 (x1_1 + 1)) + 1)), (wrap64 (x5_1 + 1)), (by first | rfl | (simp; done) | (simp [*]; done)), (by first | rfl | (simp; done) | (simp [*]; done)), H', ⟨by have := HK1.out; omega⟩, ⟨by (with_reducible repeat (first | apply Kd.zan | apply Kd.zal | apply Kd.zas)); exact HO_0.out⟩, ⟨by repeat (first | (with_reducible first | exact HK.out | apply Kept.alloc | apply Kept.drewN | apply Kept.drew) | exact HK.out)⟩, ⟨by repeat (first | (with_reducible first | exact HB.out | apply za3 | apply za0 | apply za2) | exact HB.out)⟩⟩
    ·rw [if_neg c4] at H
     exact absurd H (by simp)
   ·rw [if_neg c3] at H
    have c3b0 : decide (x5_1 < (x0_1.length : Int)) = false := decide_eq_false c3
    clear c3
    simp only [Option.some.injEq, Prod.mk.injEq] at H
    obtain ⟨rfl, rfl⟩ := H
    obtain ⟨Ao12, co12, eo12⟩ := Kd.zay HO_0.out
    subst eo12
    go_wp2
    go_ret
    exact ⟨by first | rfl | (simp [zae, zaf] <;> rfl) | (simp [*, zae, zaf] <;> rfl), by (with_reducible repeat (first | apply Kd.zan | apply Kd.zal | apply Kd.zas)); exact HO_0.out, by repeat (first | (with_reducible first | exact HB.out | apply za3 | apply za0 | apply za2) | exact HB.out), by repeat (first | (with_reducible first | exact HK.out | apply Kept.alloc | apply Kept.drewN | apply Kept.drew) | exact HK.out)⟩

/-! ### laws_markPlan: function 25 -/
def laws_markPlan.f (k : Nat) (a0_0 : Int) (l0_1 : List (S117)) (l0_2 : List Int) (a1 : Int) : Option (Int × (List (S117)) × List Int) := (laws_markStepS.f k l0_1 a1).bind fun bt391 => ((laws_markIntS.f k l0_2 bt391.1).bind fun bt393 => (some (bt393.1, bt391.2, bt393.2)))
theorem laws_markPlan.mono : ∀ a0 a1 a2 a3 k, LeO (laws_markPlan.f k a0 a1 a2 a3) (laws_markPlan.f (k + 1) a0 a1 a2 a3) := by
 intro a0 a1 a2 a3 k
 unfold laws_markPlan.f
 repeat' first
   | (with_reducible exact laws_markIntS.mono _ _ _)
   | (with_reducible exact laws_markStepS.mono _ _ _)
   | (with_reducible exact LeO.refl _)
   | (with_reducible exact LeO.none _)
   | (with_reducible refine LeO.ite ?_ ?_)
   | (with_reducible refine LeO.bind ?_ (fun _ => ?_))
   | exact laws_markIntS.mono _ _ _
   | exact laws_markStepS.mono _ _ _
   | exact LeO.none _
   | refine LeO.ite ?_ ?_
   | refine LeO.bind ?_ (fun _ => ?_)
set_option maxHeartbeats 8000000 in
set_option maxRecDepth 100000 in
theorem laws_markPlan.calls (k : Nat) (a0_0 : Int) (P0_1_ : Nat → Prop) (u9000_ : Value) (l0_1 : List (S117)) (P0_2_ : Nat → Prop) (u9001_ : Value) (l0_2 : List Int) (a1 : Int) (r1 : Int) (r2 : List (S117)) (r3 : List Int) (w0 w : World) (hB : Below w0.heap.size w0 w) (ho0_1 : Kd.R k117 117 w w0.heap.size P0_1_ u9000_ l0_1) (ho0_2 : Kd.R (Kd.int .i64) 3 w w0.heap.size P0_2_ u9001_ l0_2) (h : laws_markPlan.f k a0_0 l0_1 l0_2 a1 = some (r1, r2, r3)) :
  Calls Try.prog 25 #[.agg #[.int .i64 a0_0, u9000_, u9001_], .int .i64 a1] w fun e w' => e = .returned (.int .i64 r1) ∧ Kd.R k117 117 w' w0.heap.size (fun k_ => ((P0_1_ k_ ∨ P0_2_ k_) ∨ w.heap.size ≤ k_)) u9000_ r2 ∧ Kd.R (Kd.int .i64) 3 w' w0.heap.size (fun k_ => ((P0_1_ k_ ∨ P0_2_ k_) ∨ w.heap.size ≤ k_)) u9001_ r3 ∧ Below w0.heap.size w0 w' ∧ Kept w w' (fun k_ => P0_1_ k_ ∨ P0_2_ k_) := by
 have hu36 := Try.underlying36
 have HO0_1 := Aside0.mk (show Kd.R k117 117 w w0.heap.size (fun k_ => ((P0_1_ k_ ∨ P0_2_ k_) ∨ w.heap.size ≤ k_)) u9000_ l0_1 from Kd.zav ho0_1 (fun k_ hk => (.inl (.inl hk))))
 have HO0_2 := Aside0.mk (show Kd.R (Kd.int .i64) 3 w w0.heap.size (fun k_ => ((P0_1_ k_ ∨ P0_2_ k_) ∨ w.heap.size ≤ k_)) u9001_ l0_2 from Kd.zav ho0_2 (fun k_ hk => (.inl (.inr hk))))
 have HK := Aside0.mk (Kept.refl w (fun k_ => P0_1_ k_ ∨ P0_2_ k_))
 have HW0 := Aside0.mk hB.size
 have HB := Aside0.mk hB
 clear hB
 have H : ((laws_markStepS.f k l0_1 a1).bind fun bt391 => ((laws_markIntS.f k l0_2 bt391.1).bind fun bt393 => (some (bt393.1, bt391.2, bt393.2)))) = some (r1, r2, r3) := h
 clear h
 replace H := Option.bind_eq_some_iff.mp H
 obtain ⟨⟨t391, t392⟩, A30, H⟩ := H
 replace H : ((laws_markIntS.f k l0_2 t391).bind fun bt393 => (some (bt393.1, t392, bt393.2))) = some (r1, r2, r3) := H
 have A3 := Aside0.mk A30
 clear A30
 replace H := Option.bind_eq_some_iff.mp H
 obtain ⟨⟨t393, t394⟩, A40, H⟩ := H
 replace H : (some (t393, t392, t394)) = some (r1, r2, r3) := H
 have A4 := Aside0.mk A40
 clear A40
 simp only [Option.some.injEq, Prod.mk.injEq] at H
 obtain ⟨rfl, rfl, rfl⟩ := H
 obtain ⟨Ao5, co5, eo5⟩ := Kd.zay HO0_1.out
 subst eo5
 obtain ⟨Ao6, co6, eo6⟩ := Kd.zay HO0_2.out
 subst eo6
 go_enter Try.func25, Try.ntmps25
 go_wp2_with (first | ((with_reducible refine zak (N := 2) rfl ?_); refine zaj ?hg (N := 2) ?hd (cs := #[.int .i64 a0_0, .slice Ao5 l0_1.length co5, .slice Ao6 l0_2.length co6]) (t := 36) ?hr ?_; (case hd => rfl); (case hg => rfl); (case hr => first | (go_simp; done) | (go_simp; rfl)); intro gb390 hg w7 hbox hb; have n0_ := Aside0.mk (Kd.zb5 (by (with_reducible repeat (first | apply Kd.zan | apply Kd.zal | apply Kd.zas)); exact HO0_1.out) hb); have n1_ := Aside0.mk (Kd.zb5 (by (with_reducible repeat (first | apply Kd.zan | apply Kd.zal | apply Kd.zas)); exact HO0_2.out) hb); have n2_ := Aside0.mk (Kept.below (S := (fun k_ => P0_1_ k_ ∨ P0_2_ k_)) (by repeat (first | (with_reducible first | exact HK.out | apply Kept.alloc | apply Kept.drewN | apply Kept.drew) | exact HK.out)) hb); have n3_ := Aside0.mk (zad (by repeat (first | (with_reducible first | exact HB.out | apply za3 | apply za0 | apply za2) | exact HB.out)) hb); have n4_ := Aside0.mk (hbox); have n5_ := Aside0.mk ((by rw [hg]; exact (by first | exact HK.out.1 | exact (show Kept w _ (fun k_ => P0_1_ k_ ∨ P0_2_ k_) from by repeat (first | (with_reducible first | exact HK.out | apply Kept.alloc | apply Kept.drewN | apply Kept.drew) | exact HK.out)).1) : w.heap.size ≤ gb390)); have n6_ := Aside0.mk ((by rw [hg]; exact (za9 (by repeat (first | (with_reducible first | exact HB.out | apply za3 | apply za0 | apply za2) | exact HB.out))) : w0.heap.size ≤ gb390)); clear HO0_1; clear HO0_2; clear HK; clear HB; have HO0_1 := n0_; have HO0_2 := n1_; have HK := n2_; have HB := n3_; have BK390 := n4_; have GW390 := n5_; have GE390 := n6_; clear n0_ n1_ n2_ n3_ n4_ n5_ n6_; clear hb hbox hg; have hcz8_0 : w7.cell? ⟨gb390, 0, none⟩ = some (.int .i64 a0_0) := (za5 BK390.out 0).trans rfl; have hcz8_1 : w7.cell? ⟨gb390, 1, none⟩ = some (.slice Ao5 l0_1.length co5) := (za5 BK390.out 1).trans rfl; have hcz8_2 : w7.cell? ⟨gb390, 2, none⟩ = some (.slice Ao6 l0_2.length co6) := (za5 BK390.out 2).trans rfl; have hfz8_0 := za1 BK390.out 0; have hfz8_1 := za1 BK390.out 1; have hfz8_2 := za1 BK390.out 2) | ((with_reducible refine zai (f := 65) rfl ?_); refine zb1 (some 8) rfl rfl Try.func65 (by kernel_rfl) rfl #[.slice Ao5 l0_1.length co5, .int .i64 a1] rfl (by (try simp only [List.map_toArray, List.map_cons, List.map_nil]); first | done | rfl | (simp only [List.length_drop, List.length_take]; rfl)) ?_; (with_reducible refine (laws_markStepS.calls k (fun k_ => some k_ = (.slice Ao5 l0_1.length co5 : Value).ownBlock) (.slice Ao5 l0_1.length co5) l0_1 a1 t391 t392 w0 _ ?side1 ?side2 A3.out).mono ?_); (case side1 => repeat (first | (with_reducible first | exact HB.out | apply za3 | apply za0 | apply za2 | refine za4 ?_ GE390.out) | exact HB.out)); (case side2 => exact Kd.R_tight rfl HO0_1.out); rintro e w9 ⟨rfl, hy0, hb, hkp⟩; refine ⟨_, rfl, ?_⟩; have n0_ := Aside0.mk (Kd.R_reok rfl hy0 (fun k_ e_ => HO0_1.out.1 k_ e_)); have n1_ := Aside0.mk (Kd.zav (ok' := fun k_ => ((P0_1_ k_ ∨ P0_2_ k_) ∨ w.heap.size ≤ k_)) (Kd.R_keptB ((Kd.R_apart' HO0_2.out (Kd.R_typed HO0_1.out) (by decide))) hkp (fun k_ hk_ hs_ => (hk_.2) hs_)) (fun k_ hk_ => hk_.1.1)); have n2_ := Aside0.mk (blk_kept (by (with_reducible repeat (first | refine za7 ?_ _ | refine za8 ?_ | refine za6 ?_ _)); exact BK390.out) hkp (fun hs_ => (fun e_ => (Kd.R_ne HO0_1.out BK390.out (by decide)) e_) hs_)); have n3_ := Aside0.mk (Kept.then_ (S := (fun k_ => P0_1_ k_ ∨ P0_2_ k_)) (by repeat (first | (with_reducible first | exact HK.out | apply Kept.alloc | apply Kept.drewN | apply Kept.drew | refine Kept.setCell ?_ (.inr GW390.out) _) | exact HK.out)) hkp (fun k_ hs_ => (fun e_ => (HO0_1.out.1 k_ e_.symm)) hs_)); have n4_ := Aside0.mk (hb); clear HO0_1; clear HO0_2; clear BK390; clear HK; clear HB; have HO0_1 := n0_; have HO0_2 := n1_; have BK390 := n2_; have HK := n3_; have HB := n4_; clear n0_ n1_ n2_ n3_ n4_; (try clear hb); (try clear hkp); (try clear hy0); have hcz10_0 : w9.cell? ⟨gb390, 0, none⟩ = some (.int .i64 a0_0) := (za5 BK390.out 0).trans rfl; have hcz10_1 : w9.cell? ⟨gb390, 1, none⟩ = some (.slice Ao5 l0_1.length co5) := (za5 BK390.out 1).trans rfl; have hcz10_2 : w9.cell? ⟨gb390, 2, none⟩ = some (.slice Ao6 l0_2.length co6) := (za5 BK390.out 2).trans rfl; have hfz10_0 := za1 BK390.out 0; have hfz10_1 := za1 BK390.out 1; have hfz10_2 := za1 BK390.out 2) | ((with_reducible refine zai (f := 31) rfl ?_); refine zb1 (some 12) rfl rfl Try.func31 (by kernel_rfl) rfl #[.slice Ao6 l0_2.length co6, .int .i64 t391] rfl (by (try simp only [List.map_toArray, List.map_cons, List.map_nil]); first | done | rfl | (simp only [List.length_drop, List.length_take]; rfl)) ?_; (with_reducible refine (laws_markIntS.calls k (fun k_ => some k_ = (.slice Ao6 l0_2.length co6 : Value).ownBlock) (.slice Ao6 l0_2.length co6) l0_2 t391 t393 t394 w0 _ ?side1 ?side2 A4.out).mono ?_); (case side1 => repeat (first | (with_reducible first | exact HB.out | apply za3 | apply za0 | apply za2 | refine za4 ?_ GE390.out) | exact HB.out)); (case side2 => exact Kd.R_tight rfl HO0_2.out); rintro e w11 ⟨rfl, hy0, hb, hkp⟩; refine ⟨_, rfl, ?_⟩; have n0_ := Aside0.mk (Kd.zav (ok' := fun k_ => ((P0_1_ k_ ∨ P0_2_ k_) ∨ w.heap.size ≤ k_)) (Kd.R_keptB ((Kd.R_apart' HO0_1.out (Kd.R_typed HO0_2.out) (by decide))) hkp (fun k_ hk_ hs_ => (hk_.2) hs_)) (fun k_ hk_ => hk_.1.1)); have n1_ := Aside0.mk (Kd.R_reok rfl hy0 (fun k_ e_ => HO0_2.out.1 k_ e_)); have n2_ := Aside0.mk (blk_kept (by (with_reducible repeat (first | refine za7 ?_ _ | refine za8 ?_ | refine za6 ?_ _)); exact BK390.out) hkp (fun hs_ => (fun e_ => (Kd.R_ne HO0_2.out BK390.out (by decide)) e_) hs_)); have n3_ := Aside0.mk (Kept.then_ (S := (fun k_ => P0_1_ k_ ∨ P0_2_ k_)) (by repeat (first | (with_reducible first | exact HK.out | apply Kept.alloc | apply Kept.drewN | apply Kept.drew | refine Kept.setCell ?_ (.inr GW390.out) _) | exact HK.out)) hkp (fun k_ hs_ => (fun e_ => (HO0_2.out.1 k_ e_.symm)) hs_)); have n4_ := Aside0.mk (hb); clear HO0_1; clear HO0_2; clear BK390; clear HK; clear HB; have HO0_1 := n0_; have HO0_2 := n1_; have BK390 := n2_; have HK := n3_; have HB := n4_; clear n0_ n1_ n2_ n3_ n4_; (try clear hb); (try clear hkp); (try clear hy0)))
 go_ret
 exact ⟨by first | rfl | (simp [zae, zaf] <;> rfl) | (simp [*, zae, zaf] <;> rfl), by (with_reducible repeat (first | apply Kd.zan | apply Kd.zal | apply Kd.zas)); exact HO0_1.out, by (with_reducible repeat (first | apply Kd.zan | apply Kd.zal | apply Kd.zas)); exact HO0_2.out, by repeat (first | (with_reducible first | exact HB.out | apply za3 | apply za0 | apply za2 | refine za4 ?_ GE390.out) | exact HB.out), by repeat (first | (with_reducible first | exact HK.out | apply Kept.alloc | apply Kept.drewN | apply Kept.drew | refine Kept.setCell ?_ (.inr GW390.out) _) | exact HK.out)⟩

end Go.Proofs.Ytpdpomjgfmdjfaa.Z
