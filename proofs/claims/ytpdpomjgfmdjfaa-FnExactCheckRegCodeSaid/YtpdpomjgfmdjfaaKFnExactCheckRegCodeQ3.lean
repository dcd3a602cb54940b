-- Written by a program of this session (wip/tools/stubprint.py): contracts by hand where the kit's print has none.
import Derived.Test.YtpdpomjgfmdjfaaKFnExactCheckRegCodeQ0
import Derived.Test.YtpdpomjgfmdjfaaKFnExactCheckRegCodeQ2
namespace Go.Proofs.Ytpdpomjgfmdjfaa.Z
open Go.RowKit Go.Proofs.YtpdpomjgfmdjfaaW.PrintWords Go.Proofs.YtpdpomjgfmdjfaaW.PrintLast Go.Proofs.YtpdpomjgfmdjfaaW.PrintMore
attribute [local go_sem] max2_int min2_int max_two min_two max_three min_three max_four min_four   -- for this text's walks alone
set_option linter.unusedVariables false
set_option linter.unusedSimpArgs false

/-! ### laws_toRegCode: function 18 -/
def laws_toRegCode.f (k : Nat) (a0_0 : Int) (l0_1 : List Int) (l0_2 : List (S126)) (l0_3 : List Int) : Option (Int × List Int × (List (S80)) × List Int) := (laws_toIntS.f k l0_1).bind fun t231 => ((laws_toRegOpS.f k l0_2).bind fun t234 => ((laws_toIntS.f k l0_3).bind fun t237 => (some (a0_0, t231, t234, t237))))
theorem laws_toRegCode.mono : ∀ a0 a1 a2 a3 k, LeO (laws_toRegCode.f k a0 a1 a2 a3) (laws_toRegCode.f (k + 1) a0 a1 a2 a3) := by
 intro a0 a1 a2 a3 k
 unfold laws_toRegCode.f
 repeat' first
   | (with_reducible exact laws_toIntS.mono _ _)
   | (with_reducible exact laws_toRegOpS.mono _ _)
   | (with_reducible exact LeO.refl _)
   | (with_reducible exact LeO.none _)
   | (with_reducible refine LeO.ite ?_ ?_)
   | (with_reducible refine LeO.bind ?_ (fun _ => ?_))
   | exact laws_toIntS.mono _ _
   | exact laws_toRegOpS.mono _ _
   | exact LeO.none _
   | refine LeO.ite ?_ ?_
   | refine LeO.bind ?_ (fun _ => ?_)
set_option maxHeartbeats 8000000 in
set_option maxRecDepth 100000 in
theorem laws_toRegCode.calls (k : Nat) (a0_0 : Int) (A0_1 : Option Addr) (c0_1 : Nat) (l0_1 : List Int) (A0_2 : Option Addr) (c0_2 : Nat) (l0_2 : List (S126)) (A0_3 : Option Addr) (c0_3 : Nat) (l0_3 : List Int) (r1 : Int) (r2 : List Int) (r3 : List (S80)) (r4 : List Int) (w : World) (hr0_1 : Kd.C (Kd.int .i64) w A0_1 l0_1.length l0_1) (hc0_1 : l0_1.length ≤ c0_1) (hr0_2 : Kd.C k126 w A0_2 l0_2.length l0_2) (hc0_2 : l0_2.length ≤ c0_2) (hr0_3 : Kd.C (Kd.int .i64) w A0_3 l0_3.length l0_3) (hc0_3 : l0_3.length ≤ c0_3) (h : laws_toRegCode.f k a0_0 l0_1 l0_2 l0_3 = some (r1, r2, r3, r4)) :
  Calls Try.prog 18 #[.agg #[.int .i64 a0_0, .slice A0_1 l0_1.length c0_1, .slice A0_2 l0_2.length c0_2, .slice A0_3 l0_3.length c0_3]] w fun e w' => ∃ v1_ v2_ v3_ : Value, e = .returned (.agg #[.int .i64 r1, v1_, v2_, v3_]) ∧ Kd.R (Kd.int .i64) 3 w' w.heap.size (fun k_ => some k_ ≠ (v3_ : Value).ownBlock) v1_ r2 ∧ Kd.R k80 80 w' w.heap.size (fun _ => True) v2_ r3 ∧ Kd.R (Kd.int .i64) 3 w' w.heap.size (fun k_ => some k_ ≠ (v1_ : Value).ownBlock) v3_ r4 ∧ Below w.heap.size w w' := by
 have hu25 := Try.underlying25
 have hu30 := Try.underlying30
 have HR0_1 := Aside0.mk hr0_1
 have HC0_1 := Aside0.mk hc0_1
 clear hr0_1 hc0_1
 have HR0_2 := Aside0.mk hr0_2
 have HC0_2 := Aside0.mk hc0_2
 clear hr0_2 hc0_2
 have HR0_3 := Aside0.mk hr0_3
 have HC0_3 := Aside0.mk hc0_3
 clear hr0_3 hc0_3
 have HB := Aside0.mk (Below.refl w.heap.size w)
 have H : ((laws_toIntS.f k l0_1).bind fun t231 => ((laws_toRegOpS.f k l0_2).bind fun t234 => ((laws_toIntS.f k l0_3).bind fun t237 => (some (a0_0, t231, t234, t237))))) = some (r1, r2, r3, r4) := h
 clear h
 replace H := Option.bind_eq_some_iff.mp H
 obtain ⟨t231, A20, H⟩ := H
 replace H : ((laws_toRegOpS.f k l0_2).bind fun t234 => ((laws_toIntS.f k l0_3).bind fun t237 => (some (a0_0, t231, t234, t237)))) = some (r1, r2, r3, r4) := H
 have A2 := Aside0.mk A20
 clear A20
 replace H := Option.bind_eq_some_iff.mp H
 obtain ⟨t234, A30, H⟩ := H
 replace H : ((laws_toIntS.f k l0_3).bind fun t237 => (some (a0_0, t231, t234, t237))) = some (r1, r2, r3, r4) := H
 have A3 := Aside0.mk A30
 clear A30
 replace H := Option.bind_eq_some_iff.mp H
 obtain ⟨t237, A40, H⟩ := H
 replace H : (some (a0_0, t231, t234, t237)) = some (r1, r2, r3, r4) := H
 have A4 := Aside0.mk A40
 clear A40
 simp only [Option.some.injEq, Prod.mk.injEq] at H
 obtain ⟨rfl, rfl, rfl, rfl⟩ := H
 go_enter Try.func18, Try.ntmps18
 go_wp2_with (first | ((with_reducible refine zaf (N := 1) rfl ?_); refine zad ?hg (N := 1) ?hd (cs := #[.int .i64 a0_0, .slice A0_1 l0_1.length c0_1, .slice A0_2 l0_2.length c0_2, .slice A0_3 l0_3.length c0_3]) (t := 25) ?hr ?_; (case hd => rfl); (case hg => rfl); (case hr => first | (go_simp; done) | (go_simp; rfl)); intro gb228 hg w5 hbox hb; have n0_ := Aside0.mk (za8 bw_ hb); have n1_ := Aside0.mk (hbox); have n2_ := Aside0.mk ((by rw [hg]; exact (za6 bw_) : w.heap.size ≤ gb228)); have n3_ := Aside0.mk ((by rw [hg]; exact (za6 bw_) : w.heap.size ≤ gb228)); clear HB; have HB := n0_; have BK228 := n1_; have GW228 := n2_; have GE228 := n3_; clear n0_ n1_ n2_ n3_; clear hb hbox hg) | ((with_reducible refine zaf (N := 2) rfl ?_); refine zad ?hg (N := 2) ?hd (cs := #[.int .i64 0, .slice none 0 0, .slice none 0 0, .slice none 0 0]) (t := 30) ?hr ?_; (case hd => rfl); (case hg => rfl); (case hr => first | (go_simp; done) | (go_simp; rfl)); intro gb229 hg w6 hbox hb; have n0_ := Aside0.mk (za7 (g := gb228) (o := .cells #[.int .i64 a0_0, .slice A0_1 l0_1.length c0_1, .slice A0_2 l0_2.length c0_2, .slice A0_3 l0_3.length c0_3] 25 (0, 0)) (by (with_reducible repeat (first | refine za3 ?_ _ | refine za4 ?_ | refine za2 ?_ _)); exact BK228.out) hb); have n1_ := Aside0.mk (za8 bw_ hb); have n2_ := Aside0.mk (hbox); have n3_ := Aside0.mk ((by rw [hg]; exact (za6 bw_) : w.heap.size ≤ gb229)); have n4_ := Aside0.mk ((by rw [hg]; exact (za6 bw_) : w.heap.size ≤ gb229)); have n5_ := Aside0.mk ((by rw [hg]; exact Nat.ne_of_lt (zan (g := gb228) (o := .cells #[.int .i64 a0_0, .slice A0_1 l0_1.length c0_1, .slice A0_2 l0_2.length c0_2, .slice A0_3 l0_3.length c0_3] 25 (0, 0)) (by (with_reducible repeat (first | refine za3 ?_ _ | refine za4 ?_ | refine za2 ?_ _)); exact BK228.out)) : gb228 ≠ gb229)); have n6_ := Aside0.mk ((by rw [hg]; exact Nat.ne_of_gt (zan (g := gb228) (o := .cells #[.int .i64 a0_0, .slice A0_1 l0_1.length c0_1, .slice A0_2 l0_2.length c0_2, .slice A0_3 l0_3.length c0_3] 25 (0, 0)) (by (with_reducible repeat (first | refine za3 ?_ _ | refine za4 ?_ | refine za2 ?_ _)); exact BK228.out)) : gb229 ≠ gb228)); clear BK228; clear HB; have BK228 := n0_; have HB := n1_; have BK229 := n2_; have GW229 := n3_; have GE229 := n4_; have NB228_229 := n5_; have NB229_228 := n6_; clear n0_ n1_ n2_ n3_ n4_ n5_ n6_; clear hb hbox hg) | ((with_reducible refine zaf (N := 3) rfl ?_); refine zad ?hg (N := 3) ?hd (cs := #[.int .i64 0, .slice none 0 0, .slice none 0 0, .slice none 0 0]) (t := 30) ?hr ?_; (case hd => rfl); (case hg => rfl); (case hr => first | (go_simp; done) | (go_simp; rfl)); intro gb230 hg w7 hbox hb; have n0_ := Aside0.mk (za7 (g := gb228) (o := .cells #[.int .i64 a0_0, .slice A0_1 l0_1.length c0_1, .slice A0_2 l0_2.length c0_2, .slice A0_3 l0_3.length c0_3] 25 (0, 0)) (by (with_reducible repeat (first | refine za3 ?_ _ | refine za4 ?_ | refine za2 ?_ _)); exact BK228.out) hb); have n1_ := Aside0.mk (za7 (g := gb229) (o := .cells #[.int .i64 0, .slice none 0 0, .slice none 0 0, .slice none 0 0] 30 (0, 0)) (by (with_reducible repeat (first | refine za3 ?_ _ | refine za4 ?_ | refine za2 ?_ _)); exact BK229.out) hb); have n2_ := Aside0.mk (za8 bw_ hb); have n3_ := Aside0.mk (hbox); have n4_ := Aside0.mk ((by rw [hg]; exact (za6 bw_) : w.heap.size ≤ gb230)); have n5_ := Aside0.mk ((by rw [hg]; exact (za6 bw_) : w.heap.size ≤ gb230)); have n6_ := Aside0.mk ((by rw [hg]; exact Nat.ne_of_lt (zan (g := gb228) (o := .cells #[.int .i64 a0_0, .slice A0_1 l0_1.length c0_1, .slice A0_2 l0_2.length c0_2, .slice A0_3 l0_3.length c0_3] 25 (0, 0)) (by (with_reducible repeat (first | refine za3 ?_ _ | refine za4 ?_ | refine za2 ?_ _)); exact BK228.out)) : gb228 ≠ gb230)); have n7_ := Aside0.mk ((by rw [hg]; exact Nat.ne_of_gt (zan (g := gb228) (o := .cells #[.int .i64 a0_0, .slice A0_1 l0_1.length c0_1, .slice A0_2 l0_2.length c0_2, .slice A0_3 l0_3.length c0_3] 25 (0, 0)) (by (with_reducible repeat (first | refine za3 ?_ _ | refine za4 ?_ | refine za2 ?_ _)); exact BK228.out)) : gb230 ≠ gb228)); have n8_ := Aside0.mk ((by rw [hg]; exact Nat.ne_of_lt (zan (g := gb229) (o := .cells #[.int .i64 0, .slice none 0 0, .slice none 0 0, .slice none 0 0] 30 (0, 0)) (by (with_reducible repeat (first | refine za3 ?_ _ | refine za4 ?_ | refine za2 ?_ _)); exact BK229.out)) : gb229 ≠ gb230)); have n9_ := Aside0.mk ((by rw [hg]; exact Nat.ne_of_gt (zan (g := gb229) (o := .cells #[.int .i64 0, .slice none 0 0, .slice none 0 0, .slice none 0 0] 30 (0, 0)) (by (with_reducible repeat (first | refine za3 ?_ _ | refine za4 ?_ | refine za2 ?_ _)); exact BK229.out)) : gb230 ≠ gb229)); clear BK228; clear BK229; clear HB; have BK228 := n0_; have BK229 := n1_; have HB := n2_; have BK230 := n3_; have GW230 := n4_; have GE230 := n5_; have NB228_230 := n6_; have NB230_228 := n7_; have NB229_230 := n8_; have NB230_229 := n9_; clear n0_ n1_ n2_ n3_ n4_ n5_ n6_ n7_ n8_ n9_; clear hb hbox hg; have hnb8 := NB228_229.out; have hnc8 := NB229_228.out; have hnb9 := NB228_230.out; have hnc9 := NB230_228.out; have hcz10_0 : w7.cell? ⟨gb228, 0, none⟩ = some (.int .i64 a0_0) := (za1 BK228.out 0).trans rfl; have hcz10_1 : w7.cell? ⟨gb228, 1, none⟩ = some (.slice A0_1 l0_1.length c0_1) := (za1 BK228.out 1).trans rfl; have hcz10_2 : w7.cell? ⟨gb228, 2, none⟩ = some (.slice A0_2 l0_2.length c0_2) := (za1 BK228.out 2).trans rfl; have hcz10_3 : w7.cell? ⟨gb228, 3, none⟩ = some (.slice A0_3 l0_3.length c0_3) := (za1 BK228.out 3).trans rfl; have hfz10_0 := za0 BK228.out 0; have hfz10_1 := za0 BK228.out 1; have hfz10_2 := za0 BK228.out 2; have hfz10_3 := za0 BK228.out 3; have hnb11 := NB230_229.out; have hnc11 := NB229_230.out; have hcz12_0 : w7.cell? ⟨gb230, 0, none⟩ = some (.int .i64 0) := (za1 BK230.out 0).trans rfl; have hcz12_1 : w7.cell? ⟨gb230, 1, none⟩ = some (.slice none 0 0) := (za1 BK230.out 1).trans rfl; have hcz12_2 : w7.cell? ⟨gb230, 2, none⟩ = some (.slice none 0 0) := (za1 BK230.out 2).trans rfl; have hcz12_3 : w7.cell? ⟨gb230, 3, none⟩ = some (.slice none 0 0) := (za1 BK230.out 3).trans rfl; have hfz12_0 := za0 BK230.out 0; have hfz12_1 := za0 BK230.out 1; have hfz12_2 := za0 BK230.out 2; have hfz12_3 := za0 BK230.out 3) | ((with_reducible refine zah (f := 28) rfl ?_); refine zaz (some 9) rfl rfl Try.func28 (by kernel_rfl) rfl #[.slice A0_1 l0_1.length c0_1] rfl (by (try simp only [List.map_toArray, List.map_cons, List.map_nil]); first | done | rfl | (simp only [List.length_drop, List.length_take]; rfl)) ?_; (with_reducible refine (laws_toIntS.calls k _ _ l0_1 t231 _ ?side1 ?side2 A2.out).mono ?_); (case side1 => exact Kd.zac HR0_1.out bw_); (case side2 => exact HC0_1.out); rintro e w13 ⟨v232, rfl, ho0, hb⟩; refine ⟨_, rfl, ?_⟩; have n0_ := Aside0.mk (Kd.R_lower ho0 (za6 bw_)); have n1_ := Aside0.mk (za7 (g := gb228) (o := .cells #[.int .i64 a0_0, .slice A0_1 l0_1.length c0_1, .slice A0_2 l0_2.length c0_2, .slice A0_3 l0_3.length c0_3] 25 (0, 0)) (by (with_reducible repeat (first | refine za3 ?_ _ | refine za4 ?_ | refine za2 ?_ _)); refine zb2 ?_ NB228_230.out _; (with_reducible repeat (first | refine za3 ?_ _ | refine za4 ?_ | refine za2 ?_ _)); exact BK228.out) hb); have n2_ := Aside0.mk (za7 (g := gb229) (o := .cells #[.int .i64 0, .slice none 0 0, .slice none 0 0, .slice none 0 0] 30 (0, 0)) (by (with_reducible repeat (first | refine za3 ?_ _ | refine za4 ?_ | refine za2 ?_ _)); refine zb2 ?_ NB229_230.out _; (with_reducible repeat (first | refine za3 ?_ _ | refine za4 ?_ | refine za2 ?_ _)); exact BK229.out) hb); have n3_ := Aside0.mk (za7 (g := gb230) (o := .cells #[.int .i64 a0_0, .slice none 0 0, .slice none 0 0, .slice none 0 0] 30 (0, 0)) (by (with_reducible repeat (first | refine za3 ?_ _ | refine za4 ?_ | refine za2 ?_ _)); refine zao (cs := #[.int .i64 0, .slice none 0 0, .slice none 0 0, .slice none 0 0]) ?_ 0 _ rfl; (with_reducible repeat (first | refine za3 ?_ _ | refine za4 ?_ | refine za2 ?_ _)); exact BK230.out) hb); have n4_ := Aside0.mk (za8 bw_ hb); clear BK228; clear BK229; clear BK230; clear HB; have HO233 := n0_; have BK228 := n1_; have BK229 := n2_; have BK230 := n3_; have HB := n4_; clear n0_ n1_ n2_ n3_ n4_; (try clear hb); (try clear hb2); (try clear hk); (try clear hi); (try clear ho0); obtain ⟨Ao14, co14, eo14⟩ := Kd.zat HO233.out; subst eo14; have hcz15_0 : w13.cell? ⟨gb230, 0, none⟩ = some (.int .i64 a0_0) := (za1 BK230.out 0).trans rfl; have hcz15_1 : w13.cell? ⟨gb230, 1, none⟩ = some (.slice none 0 0) := (za1 BK230.out 1).trans rfl; have hcz15_2 : w13.cell? ⟨gb230, 2, none⟩ = some (.slice none 0 0) := (za1 BK230.out 2).trans rfl; have hcz15_3 : w13.cell? ⟨gb230, 3, none⟩ = some (.slice none 0 0) := (za1 BK230.out 3).trans rfl; have hfz15_0 := za0 BK230.out 0; have hfz15_1 := za0 BK230.out 1; have hfz15_2 := za0 BK230.out 2; have hfz15_3 := za0 BK230.out 3; have hcz16_0 : w13.cell? ⟨gb228, 0, none⟩ = some (.int .i64 a0_0) := (za1 BK228.out 0).trans rfl; have hcz16_1 : w13.cell? ⟨gb228, 1, none⟩ = some (.slice A0_1 l0_1.length c0_1) := (za1 BK228.out 1).trans rfl; have hcz16_2 : w13.cell? ⟨gb228, 2, none⟩ = some (.slice A0_2 l0_2.length c0_2) := (za1 BK228.out 2).trans rfl; have hcz16_3 : w13.cell? ⟨gb228, 3, none⟩ = some (.slice A0_3 l0_3.length c0_3) := (za1 BK228.out 3).trans rfl; have hfz16_0 := za0 BK228.out 0; have hfz16_1 := za0 BK228.out 1; have hfz16_2 := za0 BK228.out 2; have hfz16_3 := za0 BK228.out 3) | ((with_reducible refine zah (f := 59) rfl ?_); refine zaz (some 13) rfl rfl Try.func59 (by kernel_rfl) rfl #[.slice A0_2 l0_2.length c0_2] rfl (by (try simp only [List.map_toArray, List.map_cons, List.map_nil]); first | done | rfl | (simp only [List.length_drop, List.length_take]; rfl)) ?_; (with_reducible refine (laws_toRegOpS.calls k _ _ l0_2 t234 _ ?side1 ?side2 A3.out).mono ?_); (case side1 => exact Kd.zac HR0_2.out bw_); (case side2 => exact HC0_2.out); rintro e w17 ⟨v235, rfl, ho0, hb⟩; refine ⟨_, rfl, ?_⟩; have n0_ := Aside0.mk (Kd.zba (by (with_reducible repeat (first | apply Kd.zaj | apply Kd.zak | apply Kd.zam)); exact (Kd.zar (Kd.R_far (p := ⟨gb230, 1, none⟩) (Kd.R_types HO233.out BK230.out (by decide)) (fun _ hk => hk.2) (.slice Ao14 t231.length co14)) (fun _ h_ => h_.1))) hb); have n1_ := Aside0.mk (Kd.R_lower ho0 (za6 bw_)); have n2_ := Aside0.mk (za7 (g := gb228) (o := .cells #[.int .i64 a0_0, .slice A0_1 l0_1.length c0_1, .slice A0_2 l0_2.length c0_2, .slice A0_3 l0_3.length c0_3] 25 (0, 0)) (by (with_reducible repeat (first | refine za3 ?_ _ | refine za4 ?_ | refine za2 ?_ _)); refine zb2 ?_ NB228_230.out _; (with_reducible repeat (first | refine za3 ?_ _ | refine za4 ?_ | refine za2 ?_ _)); exact BK228.out) hb); have n3_ := Aside0.mk (za7 (g := gb229) (o := .cells #[.int .i64 0, .slice none 0 0, .slice none 0 0, .slice none 0 0] 30 (0, 0)) (by (with_reducible repeat (first | refine za3 ?_ _ | refine za4 ?_ | refine za2 ?_ _)); refine zb2 ?_ NB229_230.out _; (with_reducible repeat (first | refine za3 ?_ _ | refine za4 ?_ | refine za2 ?_ _)); exact BK229.out) hb); have n4_ := Aside0.mk (za7 (g := gb230) (o := .cells #[.int .i64 a0_0, .slice Ao14 t231.length co14, .slice none 0 0, .slice none 0 0] 30 (0, 0)) (by (with_reducible repeat (first | refine za3 ?_ _ | refine za4 ?_ | refine za2 ?_ _)); refine zao (cs := #[.int .i64 a0_0, .slice none 0 0, .slice none 0 0, .slice none 0 0]) ?_ 1 _ rfl; (with_reducible repeat (first | refine za3 ?_ _ | refine za4 ?_ | refine za2 ?_ _)); exact BK230.out) hb); have n5_ := Aside0.mk (za8 bw_ hb); clear HO233; clear BK228; clear BK229; clear BK230; clear HB; have HO233 := n0_; have HO236 := n1_; have BK228 := n2_; have BK229 := n3_; have BK230 := n4_; have HB := n5_; clear n0_ n1_ n2_ n3_ n4_ n5_; (try clear hb); (try clear hb2); (try clear hk); (try clear hi); (try clear ho0); obtain ⟨Ao18, co18, eo18⟩ := Kd.zat HO236.out; subst eo18; have hcz19_0 : w17.cell? ⟨gb230, 0, none⟩ = some (.int .i64 a0_0) := (za1 BK230.out 0).trans rfl; have hcz19_1 : w17.cell? ⟨gb230, 1, none⟩ = some (.slice Ao14 t231.length co14) := (za1 BK230.out 1).trans rfl; have hcz19_2 : w17.cell? ⟨gb230, 2, none⟩ = some (.slice none 0 0) := (za1 BK230.out 2).trans rfl; have hcz19_3 : w17.cell? ⟨gb230, 3, none⟩ = some (.slice none 0 0) := (za1 BK230.out 3).trans rfl; have hfz19_0 := za0 BK230.out 0; have hfz19_1 := za0 BK230.out 1; have hfz19_2 := za0 BK230.out 2; have hfz19_3 := za0 BK230.out 3; have hcz20_0 : w17.cell? ⟨gb228, 0, none⟩ = some (.int .i64 a0_0) := (za1 BK228.out 0).trans rfl; have hcz20_1 : w17.cell? ⟨gb228, 1, none⟩ = some (.slice A0_1 l0_1.length c0_1) := (za1 BK228.out 1).trans rfl; have hcz20_2 : w17.cell? ⟨gb228, 2, none⟩ = some (.slice A0_2 l0_2.length c0_2) := (za1 BK228.out 2).trans rfl; have hcz20_3 : w17.cell? ⟨gb228, 3, none⟩ = some (.slice A0_3 l0_3.length c0_3) := (za1 BK228.out 3).trans rfl; have hfz20_0 := za0 BK228.out 0; have hfz20_1 := za0 BK228.out 1; have hfz20_2 := za0 BK228.out 2; have hfz20_3 := za0 BK228.out 3) | ((with_reducible refine zah (f := 28) rfl ?_); refine zaz (some 17) rfl rfl Try.func28 (by kernel_rfl) rfl #[.slice A0_3 l0_3.length c0_3] rfl (by (try simp only [List.map_toArray, List.map_cons, List.map_nil]); first | done | rfl | (simp only [List.length_drop, List.length_take]; rfl)) ?_; (with_reducible refine (laws_toIntS.calls k _ _ l0_3 t237 _ ?side1 ?side2 A4.out).mono ?_); (case side1 => exact Kd.zac HR0_3.out bw_); (case side2 => exact HC0_3.out); rintro e w21 ⟨v238, rfl, ho0, hb⟩; refine ⟨_, rfl, ?_⟩; have n0_ := Aside0.mk (Kd.R_elder' (by (with_reducible repeat (first | apply Kd.zaj | apply Kd.zak | apply Kd.zam)); exact (Kd.zar (Kd.R_far (p := ⟨gb230, 2, none⟩) (Kd.R_types HO233.out BK230.out (by decide)) (fun _ hk => hk.2) (.slice Ao18 t234.length co18)) (fun _ h_ => h_.1))) (Kd.R_base ho0) hb); have n1_ := Aside0.mk (Kd.zba (by (with_reducible repeat (first | apply Kd.zaj | apply Kd.zak | apply Kd.zam)); exact (Kd.zar (Kd.R_far (p := ⟨gb230, 2, none⟩) (Kd.R_types HO236.out BK230.out (by decide)) (fun _ hk => hk.2) (.slice Ao18 t234.length co18)) (fun _ h_ => h_.1))) hb); have n2_ := Aside0.mk (Kd.R_lower (Kd.R_new' ho0 (Kd.R_lt (by (with_reducible repeat (first | apply Kd.zaj | apply Kd.zak | apply Kd.zam)); exact (Kd.zar (Kd.R_far (p := ⟨gb230, 2, none⟩) (Kd.R_types HO233.out BK230.out (by decide)) (fun _ hk => hk.2) (.slice Ao18 t234.length co18)) (fun _ h_ => h_.1))))) (za6 bw_)); have n3_ := Aside0.mk (za7 (g := gb228) (o := .cells #[.int .i64 a0_0, .slice A0_1 l0_1.length c0_1, .slice A0_2 l0_2.length c0_2, .slice A0_3 l0_3.length c0_3] 25 (0, 0)) (by (with_reducible repeat (first | refine za3 ?_ _ | refine za4 ?_ | refine za2 ?_ _)); refine zb2 ?_ NB228_230.out _; (with_reducible repeat (first | refine za3 ?_ _ | refine za4 ?_ | refine za2 ?_ _)); exact BK228.out) hb); have n4_ := Aside0.mk (za7 (g := gb229) (o := .cells #[.int .i64 0, .slice none 0 0, .slice none 0 0, .slice none 0 0] 30 (0, 0)) (by (with_reducible repeat (first | refine za3 ?_ _ | refine za4 ?_ | refine za2 ?_ _)); refine zb2 ?_ NB229_230.out _; (with_reducible repeat (first | refine za3 ?_ _ | refine za4 ?_ | refine za2 ?_ _)); exact BK229.out) hb); have n5_ := Aside0.mk (za7 (g := gb230) (o := .cells #[.int .i64 a0_0, .slice Ao14 t231.length co14, .slice Ao18 t234.length co18, .slice none 0 0] 30 (0, 0)) (by (with_reducible repeat (first | refine za3 ?_ _ | refine za4 ?_ | refine za2 ?_ _)); refine zao (cs := #[.int .i64 a0_0, .slice Ao14 t231.length co14, .slice none 0 0, .slice none 0 0]) ?_ 2 _ rfl; (with_reducible repeat (first | refine za3 ?_ _ | refine za4 ?_ | refine za2 ?_ _)); exact BK230.out) hb); have n6_ := Aside0.mk (za8 bw_ hb); clear HO233; clear HO236; clear BK228; clear BK229; clear BK230; clear HB; have HO233 := n0_; have HO236 := n1_; have HO239 := n2_; have BK228 := n3_; have BK229 := n4_; have BK230 := n5_; have HB := n6_; clear n0_ n1_ n2_ n3_ n4_ n5_ n6_; (try clear hb); (try clear hb2); (try clear hk); (try clear hi); (try clear ho0); obtain ⟨Ao22, co22, eo22⟩ := Kd.zat HO239.out; subst eo22; have hcz23_0 : w21.cell? ⟨gb230, 0, none⟩ = some (.int .i64 a0_0) := (za1 BK230.out 0).trans rfl; have hcz23_1 : w21.cell? ⟨gb230, 1, none⟩ = some (.slice Ao14 t231.length co14) := (za1 BK230.out 1).trans rfl; have hcz23_2 : w21.cell? ⟨gb230, 2, none⟩ = some (.slice Ao18 t234.length co18) := (za1 BK230.out 2).trans rfl; have hcz23_3 : w21.cell? ⟨gb230, 3, none⟩ = some (.slice none 0 0) := (za1 BK230.out 3).trans rfl; have hfz23_0 := za0 BK230.out 0; have hfz23_1 := za0 BK230.out 1; have hfz23_2 := za0 BK230.out 2; have hfz23_3 := za0 BK230.out 3; have hcz24_0 : w21.cell? ⟨gb229, 0, none⟩ = some (.int .i64 0) := (za1 BK229.out 0).trans rfl; have hcz24_1 : w21.cell? ⟨gb229, 1, none⟩ = some (.slice none 0 0) := (za1 BK229.out 1).trans rfl; have hcz24_2 : w21.cell? ⟨gb229, 2, none⟩ = some (.slice none 0 0) := (za1 BK229.out 2).trans rfl; have hcz24_3 : w21.cell? ⟨gb229, 3, none⟩ = some (.slice none 0 0) := (za1 BK229.out 3).trans rfl; have hfz24_0 := za0 BK229.out 0; have hfz24_1 := za0 BK229.out 1; have hfz24_2 := za0 BK229.out 2; have hfz24_3 := za0 BK229.out 3))
 refine bodyPost_ret (results_cell_row rfl _ _ gb229 30 #[.int .i64 a0_0, .slice Ao14 t231.length co14, .slice Ao18 t234.length co18, .slice Ao22 t237.length co22] (0, 0) _ rfl (by (with_reducible repeat (first | refine za3 ?_ _ | refine za4 ?_ | refine za2 ?_ _)); refine zao (cs := #[.int .i64 a0_0, .slice Ao14 t231.length co14, .slice Ao18 t234.length co18, .slice none 0 0]) ?_ 3 _ rfl; (with_reducible repeat (first | refine za3 ?_ _ | refine za4 ?_ | refine za2 ?_ _)); refine zao (cs := #[.int .i64 a0_0, .slice Ao14 t231.length co14, .slice none 0 0, .slice none 0 0]) ?_ 2 _ rfl; (with_reducible repeat (first | refine za3 ?_ _ | refine za4 ?_ | refine za2 ?_ _)); refine zao (cs := #[.int .i64 a0_0, .slice none 0 0, .slice none 0 0, .slice none 0 0]) ?_ 1 _ rfl; (with_reducible repeat (first | refine za3 ?_ _ | refine za4 ?_ | refine za2 ?_ _)); refine zao (cs := #[.int .i64 0, .slice none 0 0, .slice none 0 0, .slice none 0 0]) ?_ 0 _ rfl; (with_reducible repeat (first | refine za3 ?_ _ | refine za4 ?_ | refine za2 ?_ _)); refine zb2 ?_ NB229_230.out _; (with_reducible repeat (first | refine za3 ?_ _ | refine za4 ?_ | refine za2 ?_ _)); exact BK229.out) Try.underlying30 rfl (by kernel_rfl)) rfl ?_
 exact ⟨_, _, _, by first | rfl | (simp [zab, zaa] <;> rfl) | (simp [*, zab, zaa] <;> rfl), by (with_reducible repeat (first | apply Kd.zaj | apply Kd.zak | apply Kd.zam)); exact Kd.zar (Kd.R_far (p := ⟨gb229, 3, none⟩) (Kd.R_far (p := ⟨gb229, 2, none⟩) (Kd.R_far (p := ⟨gb229, 1, none⟩) (Kd.R_far (p := ⟨gb229, 0, none⟩) (Kd.R_far (p := ⟨gb230, 3, none⟩) (Kd.R_types (Kd.R_types HO233.out BK230.out (by decide)) BK229.out (by decide)) (fun _ hk => hk.1.2) (.slice Ao22 t237.length co22)) (fun _ hk => hk.2) (.int .i64 a0_0)) (fun _ hk => hk.2) (.slice Ao14 t231.length co14)) (fun _ hk => hk.2) (.slice Ao18 t234.length co18)) (fun _ hk => hk.2) (.slice Ao22 t237.length co22)) (fun _ hk => hk.1.1.2), by (with_reducible repeat (first | apply Kd.zaj | apply Kd.zak | apply Kd.zam)); exact Kd.zar (Kd.R_far (p := ⟨gb229, 3, none⟩) (Kd.R_far (p := ⟨gb229, 2, none⟩) (Kd.R_far (p := ⟨gb229, 1, none⟩) (Kd.R_far (p := ⟨gb229, 0, none⟩) (Kd.R_far (p := ⟨gb230, 3, none⟩) (Kd.R_types (Kd.R_types HO236.out BK230.out (by decide)) BK229.out (by decide)) (fun _ hk => hk.1.2) (.slice Ao22 t237.length co22)) (fun _ hk => hk.2) (.int .i64 a0_0)) (fun _ hk => hk.2) (.slice Ao14 t231.length co14)) (fun _ hk => hk.2) (.slice Ao18 t234.length co18)) (fun _ hk => hk.2) (.slice Ao22 t237.length co22)) (fun _ hk => trivial), by (with_reducible repeat (first | apply Kd.zaj | apply Kd.zak | apply Kd.zam)); exact Kd.zar (Kd.R_far (p := ⟨gb229, 3, none⟩) (Kd.R_far (p := ⟨gb229, 2, none⟩) (Kd.R_far (p := ⟨gb229, 1, none⟩) (Kd.R_far (p := ⟨gb229, 0, none⟩) (Kd.R_far (p := ⟨gb230, 3, none⟩) (Kd.R_types (Kd.R_types HO239.out BK230.out (by decide)) BK229.out (by decide)) (fun _ hk => hk.1.2) (.slice Ao22 t237.length co22)) (fun _ hk => hk.2) (.int .i64 a0_0)) (fun _ hk => hk.2) (.slice Ao14 t231.length co14)) (fun _ hk => hk.2) (.slice Ao18 t234.length co18)) (fun _ hk => hk.2) (.slice Ao22 t237.length co22)) (fun _ hk => hk.1.1.2), bw_⟩

/-! ### impl_in: function 83 -/
def impl_in.f (a0 : Int) (a1 : Int) (a2 : Int) : Option (Bool) := if a0 ≥ a1 then (some (decide (a0 ≤ a2))) else (some false)
set_option maxHeartbeats 8000000 in
set_option maxRecDepth 100000 in
theorem impl_in.calls (a0 : Int) (a1 : Int) (a2 : Int) (r : Bool) (w : World) (h : impl_in.f a0 a1 a2 = some r) :
  Calls Try.prog 83 #[.int .i64 a0, .int .i64 a1, .int .i64 a2] w fun e w' => e = .returned (.bool r) ∧ Drawn0 w w' := by
 have H : (if a0 ≥ a1 then (some (decide (a0 ≤ a2))) else (some false)) = some r := h
 clear h
 by_cases c4 : a0 ≥ a1
 ·rw [if_pos c4] at H
  have c4b0 : decide (a1 ≤ a0) = true := decide_eq_true c4
  clear c4
  obtain rfl := Option.some.inj H
  go_enter Try.func83, Try.ntmps83
  go_wp2
  go_ret
  exact ⟨by first | rfl | (simp; done) | (simp [*]; done), by repeat (first | exact Drawn0.refl _ | apply Drawn0.step)⟩
 ·rw [if_neg c4] at H
  have c4b0 : decide (a1 ≤ a0) = false := decide_eq_false c4
  clear c4
  obtain rfl := Option.some.inj H
  go_enter Try.func83, Try.ntmps83
  go_wp2
  go_ret
  exact ⟨by first | rfl | (simp; done) | (simp [*]; done), by repeat (first | exact Drawn0.refl _ | apply Drawn0.step)⟩

/-! ### slices_IndexFunc_int_int_148: function 148 -/
/-- A function value that tells of each number whether p holds; it only draws. -/
def PredI (g : Nat) (lb : Array Value) (p : Int → Bool) (w : World) : Prop :=
 ∀ n x, Calls Try.prog g (#[.int .i64 x] ++ lb) (w.drewN n) fun e w' => e = .returned (.bool (p x)) ∧ Drawn0 (w.drewN n) w'

def idxFrom (p : Int → Bool) (l : List Int) : Nat → Nat → Int
 | 0, _ => -1
 | d + 1, j => if p (rd l j) = true then j else idxFrom p l d (j + 1)

set_option maxHeartbeats 1000000 in
theorem idxFunc_calls (g : Nat) (lb : Array Value) (p : Int → Bool) (eg : ∀ args w, (callFunc g args).run Try.prog w = .ok (.enter g args) w) (A0 : Option Addr) (c0 : Nat) (l0 : List Int) (w : World) (hr0 : Kd.C (Kd.int .i64) w A0 l0.length l0) (hp : PredI g lb p w) :
  Calls Try.prog 148 #[.slice A0 l0.length c0, .func (.func g) #[] lb] w fun e w' => e = .returned (.int .i64 (idxFrom p l0 l0.length 0)) ∧ Drawn0 w w' := by
 have HP := Aside0.mk hp
 have HR0 := Aside0.mk hr0
 have hm : l0.length ≤ 9223372036854775807 := hr0.2.1
 clear hp hr0
 go_enter Try.func148, Try.ntmps148
 go_wp2
 go_loopg [8] l0.length (fun d v8 w' => ∃ j : Nat, v8 = .int .i64 j ∧ Aside0 (j + d = l0.length) ∧ Aside0 (idxFrom p l0 d j = idxFrom p l0 l0.length 0) ∧ Drawn0 w w')
 case atStart => exact ⟨0, rfl, ⟨by omega⟩, ⟨rfl⟩, Drawn0.refl _⟩
 case round =>
  obtain ⟨j, rfl, HJ, HI, ⟨m, rfl⟩⟩ := hrel
  cases gk with
  | zero =>
   have hj := HJ.out
   have c1 : decide (j < l0.length) = false := decide_eq_false (by omega)
   have H2 := HI.out
   simp only [idxFrom] at H2
   have HF := Aside0.mk H2.symm
   clear H2 hj
   go_wp2
   go_ret
   exact ⟨by rw [HF.out]; rfl, Drawn0.mk ⟨_, rfl⟩⟩
  | succ d =>
   have hj := HJ.out
   have hlt : j < l0.length := by omega
   have c1 : decide (j < l0.length) = true := decide_eq_true hlt
   obtain ⟨ad, e1, hx⟩ := Kd.at_int HR0.out (j : Int) (by omega) (by omega)
   cases e1
   have hxx := hx
   rw [Int.toNat_natCast] at hx
   have H2 := HI.out
   clear hj
   cases hq : p (rd l0 j) with
   | true =>
    simp only [idxFrom, hq, if_true] at H2
    have HF := Aside0.mk H2.symm
    have HQ := Aside0.mk hq
    clear H2 hq
    go_wp2_with fail
    refine (HP.out m _).mono ?_
    rintro e w' ⟨rfl, ⟨nd, rfl⟩⟩
    rw [HQ.out]
    go_wp2
    go_ret
    exact ⟨by rw [HF.out]; rfl, by repeat (first | exact Drawn0.refl _ | apply Drawn0.step)⟩
   | false =>
    have H3 : idxFrom p l0 d (j + 1) = idxFrom p l0 l0.length 0 := by simpa [idxFrom, hq] using H2
    have HF := Aside0.mk H3
    have HQ := Aside0.mk hq
    clear H2 hq H3
    go_wp2_with fail
    refine (HP.out m _).mono ?_
    rintro e w' ⟨rfl, ⟨nd, rfl⟩⟩
    rw [HQ.out]
    go_wp2
    go_roundg d
    case measure => omega
    case rel => exact ⟨j + 1, by go_num, ⟨by have := HJ.out; omega⟩, HF, by repeat (first | exact Drawn0.refl _ | apply Drawn0.step)⟩

/-- A function value that tells of each number of a list whether p holds; what lay in memory stays. -/
def PredB (g : Nat) (lb : Array Value) (l : List Int) (p : Int → Bool) (w : World) : Prop :=
 ∀ w1 x, x ∈ l → Below w.heap.size w w1 → Calls Try.prog g (#[.int .i64 x] ++ lb) w1 fun e w' => e = .returned (.bool (p x)) ∧ Below w.heap.size w1 w'

set_option maxHeartbeats 1000000 in
theorem idxFuncB_calls (g : Nat) (lb : Array Value) (p : Int → Bool) (eg : ∀ args w, (callFunc g args).run Try.prog w = .ok (.enter g args) w) (A0 : Option Addr) (c0 : Nat) (l0 : List Int) (w : World) (hr0 : Kd.C (Kd.int .i64) w A0 l0.length l0) (hp : PredB g lb l0 p w) :
  Calls Try.prog 148 #[.slice A0 l0.length c0, .func (.func g) #[] lb] w fun e w' => e = .returned (.int .i64 (idxFrom p l0 l0.length 0)) ∧ Below w.heap.size w w' := by
 have HP := Aside0.mk hp
 have HR0 := Aside0.mk hr0
 have hm : l0.length ≤ 9223372036854775807 := hr0.2.1
 clear hp hr0
 go_enter Try.func148, Try.ntmps148
 go_wp2
 go_loopg [8] l0.length (fun d v8 w' => ∃ j : Nat, v8 = .int .i64 j ∧ Aside0 (j + d = l0.length) ∧ Aside0 (idxFrom p l0 d j = idxFrom p l0 l0.length 0) ∧ Aside0 (Below w.heap.size w w'))
 case atStart => exact ⟨0, rfl, ⟨by omega⟩, ⟨rfl⟩, ⟨by repeat (first | exact Below.refl _ _ | apply zay | apply zaq | apply zav)⟩⟩
 case round =>
  obtain ⟨j, rfl, HJ, HI, HB⟩ := hrel
  cases gk with
  | zero =>
   have hj := HJ.out
   have c1 : decide (j < l0.length) = false := decide_eq_false (by omega)
   have H2 := HI.out
   simp only [idxFrom] at H2
   have HF := Aside0.mk H2.symm
   clear H2 hj
   go_wp2
   go_ret
   exact ⟨by rw [HF.out]; rfl, bw_⟩
  | succ d =>
   have hj := HJ.out
   have hlt : j < l0.length := by omega
   have c1 : decide (j < l0.length) = true := decide_eq_true hlt
   obtain ⟨ad, e1, hx⟩ := Kd.at_int (Kd.zac HR0.out HB.out) (j : Int) (by omega) (by omega)
   cases e1
   rw [Int.toNat_natCast] at hx
   have HM := Aside0.mk (show rd l0 (j : Int) ∈ l0 by simp [rd, List.getD_eq_getElem?_getD, hlt])
   have H2 := HI.out
   clear hj
   cases hq : p (rd l0 j) with
   | true =>
    simp only [idxFrom, hq, if_true] at H2
    have HF := Aside0.mk H2.symm
    have HQ := Aside0.mk hq
    clear H2 hq
    go_wp2_with fail
    refine (HP.out _ _ HM.out bw_).mono ?_
    rintro e w' ⟨rfl, hb⟩
    have HB2 := Aside0.mk (Below.trans bw_ hb)
    clear hb HB
    have HB := HB2
    rw [HQ.out]
    go_wp2
    go_ret
    exact ⟨by rw [HF.out]; rfl, bw_⟩
   | false =>
    have H3 : idxFrom p l0 d (j + 1) = idxFrom p l0 l0.length 0 := by simpa [idxFrom, hq] using H2
    have HF := Aside0.mk H3
    have HQ := Aside0.mk hq
    clear H2 hq H3
    go_wp2_with fail
    refine (HP.out _ _ HM.out bw_).mono ?_
    rintro e w' ⟨rfl, hb⟩
    have HB2 := Aside0.mk (Below.trans bw_ hb)
    clear hb HB
    have HB := HB2
    rw [HQ.out]
    go_wp2
    go_roundg d
    case measure => omega
    case rel => exact ⟨j + 1, by go_num, ⟨by have := HJ.out; omega⟩, HF, ⟨bw_⟩⟩

/-! ### slices_ContainsFunc_int_int_84: function 84 -/
theorem idxFrom_any (p : Int → Bool) (l : List Int) (d : Nat) : ∀ j, j + d = l.length → decide (0 ≤ idxFrom p l d j) = (l.drop j).any p := by
 induction d with
 | zero =>
  intro j hj
  rw [List.drop_eq_nil_of_le (by omega)]
  rfl
 | succ d ih =>
  intro j hj
  have hlt : j < l.length := by omega
  rw [List.drop_eq_getElem_cons hlt, List.any_cons]
  have e : rd l j = l[j] := by simp [rd, List.getD_eq_getElem?_getD, hlt]
  simp only [idxFrom, e]
  cases h : p l[j] with
  | true => simp
  | false => simpa [h] using ih (j + 1) (by omega)

set_option maxHeartbeats 1000000 in
theorem containsFunc_calls (g : Nat) (lb : Array Value) (p : Int → Bool) (eg : ∀ args w, (callFunc g args).run Try.prog w = .ok (.enter g args) w) (A0 : Option Addr) (c0 : Nat) (l0 : List Int) (w : World) (hr0 : Kd.C (Kd.int .i64) w A0 l0.length l0) (hp : PredI g lb p w) :
  Calls Try.prog 84 #[.slice A0 l0.length c0, .func (.func g) #[] lb] w fun e w' => e = .returned (.bool (l0.any p)) ∧ Drawn0 w w' := by
 have HC := Aside0.mk (idxFunc_calls g lb p eg A0 c0 l0 w hr0 hp)
 have HE := Aside0.mk (idxFrom_any p l0 l0.length 0 (by omega))
 rw [List.drop_zero] at HE
 clear hp hr0 eg
 go_enter Try.func84, Try.ntmps84
 go_wp2_with fail
 refine HC.out.mono ?_
 rintro e w' ⟨rfl, ⟨nd, rfl⟩⟩
 go_wp2
 go_ret
 exact ⟨by rw [← HE.out]; rfl, Drawn0.mk ⟨_, rfl⟩⟩

set_option maxHeartbeats 1000000 in
theorem containsFuncB_calls (g : Nat) (lb : Array Value) (p : Int → Bool) (eg : ∀ args w, (callFunc g args).run Try.prog w = .ok (.enter g args) w) (A0 : Option Addr) (c0 : Nat) (l0 : List Int) (w : World) (hr0 : Kd.C (Kd.int .i64) w A0 l0.length l0) (hp : PredB g lb l0 p w) :
  Calls Try.prog 84 #[.slice A0 l0.length c0, .func (.func g) #[] lb] w fun e w' => e = .returned (.bool (l0.any p)) ∧ Below w.heap.size w w' := by
 have HC := Aside0.mk (idxFuncB_calls g lb p eg A0 c0 l0 w hr0 hp)
 have HE := Aside0.mk (idxFrom_any p l0 l0.length 0 (by omega))
 rw [List.drop_zero] at HE
 clear hp hr0 eg
 go_enter Try.func84, Try.ntmps84
 go_wp2_with fail
 refine HC.out.mono ?_
 rintro e w' ⟨rfl, hb⟩
 have HB := Aside0.mk hb
 clear hb
 go_wp2
 go_ret
 exact ⟨by rw [← HE.out]; rfl, bw_⟩

/-! ### impl_Plan_many: function 119 -/
def impl_Plan_many.f (a0_0 : Int) (l0_1 : List (S117)) (l0_2 : List Int) : Option (Int) := some (wrap64 (a0_0 + (l0_1.length : Int)))
set_option maxHeartbeats 8000000 in
set_option maxRecDepth 100000 in
theorem impl_Plan_many.calls (g0 : Nat) (a0_0 : Int) (A0_1 : Option Addr) (c0_1 : Nat) (l0_1 : List (S117)) (A0_2 : Option Addr) (c0_2 : Nat) (l0_2 : List Int) (r : Int) (w : World) (hb0 : w.heap[g0]? = some (.cells #[.int .i64 a0_0, .slice A0_1 l0_1.length c0_1, .slice A0_2 l0_2.length c0_2] 36 (0, 0))) (hr0_1 : Kd.C k117 w A0_1 l0_1.length l0_1) (hc0_1 : l0_1.length ≤ c0_1) (hr0_2 : Kd.C (Kd.int .i64) w A0_2 l0_2.length l0_2) (hc0_2 : l0_2.length ≤ c0_2) (h : impl_Plan_many.f a0_0 l0_1 l0_2 = some r) :
  Calls Try.prog 119 #[.pointer (some ⟨g0, 0, none⟩)] w fun e w' => e = .returned (.int .i64 r) ∧ Below w.heap.size w w' := by
 have HR0_1 := Aside0.mk hr0_1
 have HC0_1 := Aside0.mk hc0_1
 clear hr0_1 hc0_1
 have HR0_2 := Aside0.mk hr0_2
 have HC0_2 := Aside0.mk hc0_2
 clear hr0_2 hc0_2
 have BK0 := Aside0.mk hb0
 clear hb0
 have HB := Aside0.mk (Below.refl w.heap.size w)
 have H : (some (wrap64 (a0_0 + (l0_1.length : Int)))) = some r := h
 clear h
 obtain rfl := Option.some.inj H
 have hcz2_0 : w.cell? ⟨g0, 0, none⟩ = some (.int .i64 a0_0) := (za1 BK0.out 0).trans rfl
 have hcz2_1 : w.cell? ⟨g0, 1, none⟩ = some (.slice A0_1 l0_1.length c0_1) := (za1 BK0.out 1).trans rfl
 have hcz2_2 : w.cell? ⟨g0, 2, none⟩ = some (.slice A0_2 l0_2.length c0_2) := (za1 BK0.out 2).trans rfl
 have hfz2_0 := za0 BK0.out 0
 have hfz2_1 := za0 BK0.out 1
 have hfz2_2 := za0 BK0.out 2
 go_enter Try.func119, Try.ntmps119
 go_wp2
 repeat (go_quiet (fail); try go_wp2)
 go_ret
 exact ⟨by first | rfl | (simp [zab, zaa] <;> rfl) | (simp [*, zab, zaa] <;> rfl), bw_⟩

/-! ### impl_Plan_formed: function 139 -/
set_option maxHeartbeats 1000000 in
theorem many_any (g t : Nat) (n : Int) (A : Option Addr) (m c : Nat) (o : Value) (w : World) (hb : w.heap[g]? = some (.cells #[.int .i64 n, .slice A m c, o] t (0, 0))) :
  Calls Try.prog 119 #[.pointer (some ⟨g, 0, none⟩)] w fun e w' => e = .returned (.int .i64 (wrap64 (n + (m : Int)))) ∧ Below w.heap.size w w' := by
 have h0 : w.cell? ⟨g, 0, none⟩ = some (.int .i64 n) := za1 hb 0
 have h1 : w.cell? ⟨g, 1, none⟩ = some (.slice A m c) := za1 hb 1
 clear hb
 go_enter Try.func119, Try.ntmps119
 go_wp2_with fail
 repeat (go_quiet (fail); try go_wp2_with fail)
 go_ret
 exact ⟨rfl, by repeat (first | exact Below.refl _ _ | apply zay | apply zaq | apply zav)⟩
/-- the steps from the j-th on name values that are there -/
def stepsOk (n : Int) (l : List S117) : Nat → Nat → Bool
 | 0, _ => true
 | d + 1, j => if (za9 l j).f0 < 0 ∨ (za9 l j).f0 > (za9 l j).f1 ∨ (za9 l j).f1 ≥ wrap64 (n + j) then false else stepsOk n l d (j + 1)
/-- no number of a value -/
def outBad (n : Int) (m : Nat) (v : Int) : Bool := !(decide (0 ≤ v) && decide (v ≤ wrap64 (wrap64 (n + (m : Int)) - 1)))
set_option maxHeartbeats 1000000 in
theorem formed1_calls (g0 gb tb : Nat) (a0_0 : Int) (A0_1 : Option Addr) (c0_1 : Nat) (l0_1 : List S117) (A0_2 : Option Addr) (c0_2 : Nat) (l0_2 : List Int) (x : Int) (w : World)
  (hgb : w.heap[gb]? = some (.cells #[.pointer (some ⟨g0, 0, none⟩)] tb (0, 0)))
  (hb0 : w.heap[g0]? = some (.cells #[.int .i64 a0_0, .slice A0_1 l0_1.length c0_1, .slice A0_2 l0_2.length c0_2] 36 (0, 0))) (hr0_1 : Kd.C k117 w A0_1 l0_1.length l0_1) (hc0_1 : l0_1.length ≤ c0_1) (hr0_2 : Kd.C (Kd.int .i64) w A0_2 l0_2.length l0_2) (hc0_2 : l0_2.length ≤ c0_2) :
  Calls Try.prog 175 #[.int .i64 x, .pointer (some ⟨gb, 0, none⟩)] w fun e w' => e = .returned (.bool (outBad a0_0 l0_1.length x)) ∧ Below w.heap.size w w' := by
 have HG := Aside0.mk hgb
 have H0 := Aside0.mk hb0
 have H1 := Aside0.mk hr0_1
 have H2 := Aside0.mk hc0_1
 have H3 := Aside0.mk hr0_2
 have H4 := Aside0.mk hc0_2
 have hz : w.cell? ⟨gb, 0, none⟩ = some (.pointer (some ⟨g0, 0, none⟩)) := za1 hgb 0
 clear hgb hb0 hr0_1 hc0_1 hr0_2 hc0_2
 go_enter Try.func175, Try.ntmps175
 go_wp2_with fail
 refine (impl_Plan_many.calls g0 a0_0 A0_1 c0_1 l0_1 A0_2 c0_2 l0_2 _ _ (by (with_reducible repeat (first | refine za3 ?_ _ | refine za4 ?_ | refine za2 ?_ _)); exact H0.out) (by (with_reducible repeat (first | refine Kd.zax ?_ _ | refine Kd.zb7 ?_)); exact H1.out) H2.out (by (with_reducible repeat (first | refine Kd.zax ?_ _ | refine Kd.zb7 ?_)); exact H3.out) H4.out rfl).mono ?_
 rintro e w' ⟨rfl, hb⟩
 have HB := Aside0.mk (below_base hb (by first | exact Nat.le_refl _ | (simp; done)))
 have HB2 := Aside0.mk (Below.trans (show Below w.heap.size w _ from by repeat (first | exact Below.refl _ _ | apply zay | apply zaq | apply zav)) HB.out)
 clear hb HB
 go_wp2_with fail
 refine (impl_in.calls x 0 _ (decide (0 ≤ x) && decide (x ≤ wrap64 (wrap64 (a0_0 + (l0_1.length : Int)) - 1))) _ (by unfold impl_in.f; by_cases h0 : x ≥ 0 <;> simp [h0])).mono ?_
 rintro e w'' ⟨rfl, hd⟩
 have HB := Aside0.mk (Below.trans (show Below w.heap.size w _ from by repeat (first | (with_reducible first | exact HB2.out | apply zay | apply zaq | apply zav) | exact HB2.out)) (below_base hd.below (HB2.out.size)))
 clear hd
 go_wp2
 go_ret
 exact ⟨by simp [outBad], bw_⟩
def impl_Plan_formed.f (a0_0 : Int) (l0_1 : List S117) (l0_2 : List Int) : Option Bool := some (decide (1 ≤ a0_0) && decide (a0_0 ≤ 6) && decide (l0_1.length ≤ 40) && decide (l0_2.length ≤ 6) && stepsOk a0_0 l0_1 l0_1.length 0 && !(l0_2.any (outBad a0_0 l0_1.length)))
set_option maxRecDepth 100000 in
set_option maxHeartbeats 4000000 in
theorem impl_Plan_formed.calls (g0 : Nat) (a0_0 : Int) (A0_1 : Option Addr) (c0_1 : Nat) (l0_1 : List S117) (A0_2 : Option Addr) (c0_2 : Nat) (l0_2 : List Int) (r : Bool) (w : World) (hb0 : w.heap[g0]? = some (.cells #[.int .i64 a0_0, .slice A0_1 l0_1.length c0_1, .slice A0_2 l0_2.length c0_2] 36 (0, 0))) (hr0_1 : Kd.C k117 w A0_1 l0_1.length l0_1) (hc0_1 : l0_1.length ≤ c0_1) (hr0_2 : Kd.C (Kd.int .i64) w A0_2 l0_2.length l0_2) (hc0_2 : l0_2.length ≤ c0_2) (h : impl_Plan_formed.f a0_0 l0_1 l0_2 = some r) :
  Calls Try.prog 139 #[.pointer (some ⟨g0, 0, none⟩)] w fun e w' => e = .returned (.bool r) ∧ Below w.heap.size w w' := by
 obtain rfl := Option.some.inj h
 clear h
 obtain ⟨b1, h1⟩ : ∃ b, (decide (1 ≤ a0_0) && decide (a0_0 ≤ 6)) = b := ⟨_, rfl⟩
 have hin : impl_in.f a0_0 1 6 = some b1 := by rw [← h1]; unfold impl_in.f; by_cases h0 : a0_0 ≥ 1 <;> simp [h0]
 have HIN := Aside0.mk hin
 have H1 := Aside0.mk h1
 have HR1 := Aside0.mk hr0_1
 have HC1 := Aside0.mk hc0_1
 have HR2 := Aside0.mk hr0_2
 have HC2 := Aside0.mk hc0_2
 have BK0 := Aside0.mk hb0
 clear hin h1 hb0 hr0_1 hr0_2 hc0_1 hc0_2
 go_enter Try.func139, Try.ntmps139
 go_wp2_with (first | ((with_reducible refine zaf (N := 1) rfl ?_); refine zad ?hg (N := 1) ?hd (cs := #[.pointer (some ⟨g0, 0, none⟩)]) (t := 88) ?hr ?_; (case hd => rfl); (case hg => rfl); (case hr => first | (go_simp; done) | (go_simp; rfl)); intro gb hg wb hbox hb; have BKb := Aside0.mk hbox; have n0_ := Aside0.mk (za7 BK0.out hb); clear BK0; have BK0 := n0_; clear n0_; have HB := Aside0.mk hb; have GE := Aside0.mk hg; have hz := za1 BKb.out 0; have hp0 := za1 BK0.out 0; have hp1 := za1 BK0.out 1; have hp2 := za1 BK0.out 2; clear hb hg hbox) | fail)
 refine (impl_in.calls a0_0 1 6 b1 _ HIN.out).mono ?_
 rintro e w' ⟨rfl, ⟨m, rfl⟩⟩
 cases b1 with
 | false =>
  go_wp2_with fail
  go_ret
  exact ⟨by rw [H1.out]; rfl, bw_⟩
 | true =>
  by_cases c2 : 40 < l0_1.length
  ·have c2b : decide (40 < (l0_1.length : Int)) = true := decide_eq_true (by omega)
   have c2n : decide (l0_1.length ≤ 40) = false := decide_eq_false (by omega)
   have HF := Aside0.mk c2n
   clear c2 c2n
   go_wp2_with fail
   go_ret
   exact ⟨by rw [H1.out, HF.out]; rfl, bw_⟩
  ·have c2b : decide (40 < (l0_1.length : Int)) = false := decide_eq_false (by omega)
   by_cases c3 : 6 < l0_2.length
   ·have c3b : decide (6 < (l0_2.length : Int)) = true := decide_eq_true (by omega)
    have c3n : decide (l0_2.length ≤ 6) = false := decide_eq_false (by omega)
    have HF := Aside0.mk c3n
    clear c2 c3 c3n
    go_wp2_with fail
    go_ret
    exact ⟨by rw [H1.out, HF.out]; simp, bw_⟩
   ·have c3b : decide (6 < (l0_2.length : Int)) = false := decide_eq_false (by omega)
    have c2n : decide (l0_1.length ≤ 40) = true := decide_eq_true (by omega)
    have c3n : decide (l0_2.length ≤ 6) = true := decide_eq_true (by omega)
    have HF := Aside0.mk c2n
    have HF2 := Aside0.mk c3n
    have HL := Aside0.mk c2
    clear c2 c3 c2n c3n
    go_wp2_with fail
    go_loopg [32] l0_1.length (fun d v32 w' => ∃ j : Nat, v32 = .int .i64 j ∧ Aside0 (j + d = l0_1.length) ∧ Aside0 (stepsOk a0_0 l0_1 d j = stepsOk a0_0 l0_1 l0_1.length 0) ∧ Aside0 (w'.heap[gb]? = some (.cells #[.pointer (some ⟨g0, 0, none⟩)] 88 (0, 0))) ∧ Aside0 (w'.heap[g0]? = some (.cells #[.int .i64 a0_0, .slice A0_1 l0_1.length c0_1, .slice A0_2 l0_2.length c0_2] 36 (0, 0))) ∧ Aside0 (Below w.heap.size w w'))
    case atStart => exact ⟨0, rfl, ⟨by omega⟩, ⟨rfl⟩, ⟨(by (with_reducible repeat (first | refine za3 ?_ _ | refine za4 ?_ | refine za2 ?_ _)); exact BKb.out)⟩, ⟨(by (with_reducible repeat (first | refine za3 ?_ _ | refine za4 ?_ | refine za2 ?_ _)); exact BK0.out)⟩, ⟨(by repeat (first | (with_reducible first | exact HB.out | apply zay | apply zaq | apply zav | refine below_set ?_ GE.out) | exact HB.out))⟩⟩
    case round =>
     clear hz hp0 hp1 hp2 BKb BK0 HB
     obtain ⟨j, rfl, HJ, HI, BKb, BK0, HB⟩ := hrel
     have hz := za1 BKb.out 0
     have hp0 := za1 BK0.out 0
     have hp1 := za1 BK0.out 1
     have hp2 := za1 BK0.out 2
     cases gk with
     | zero =>
      have hj := HJ.out
      have c0 : decide ((j : Int) < (l0_1.length : Int)) = false := decide_eq_false (by omega)
      have c1 : decide (j < l0_1.length) = false := decide_eq_false (by omega)
      have H2 := HI.out
      simp only [stepsOk] at H2
      have HS := Aside0.mk H2.symm
      clear H2 hj
      go_wp2_with fail
      refine (containsFuncB_calls 175 #[.pointer (some ⟨gb, 0, none⟩)] (outBad a0_0 l0_1.length) (entersAt Try.func175 (by kernel_rfl) rfl) A0_2 c0_2 l0_2 _ (Kd.zac HR2.out HB.out) (fun w1 x _ hb => (formed1_calls g0 gb 88 a0_0 A0_1 c0_1 l0_1 A0_2 c0_2 l0_2 x w1 (za7 BKb.out hb) (za7 BK0.out hb) (Kd.zac (Kd.zac HR1.out HB.out) hb) HC1.out (Kd.zac (Kd.zac HR2.out HB.out) hb) HC2.out).mono (fun e w' h => ⟨h.1, below_base h.2 hb.size⟩))).mono ?_
      rintro e w' ⟨rfl, hb⟩
      have HBZ := Aside0.mk (Below.trans HB.out (below_base hb HB.out.size))
      clear hb HB
      have HB := HBZ
      go_wp2
      go_ret
      exact ⟨by rw [H1.out, HF.out, HF2.out, HS.out]; simp, bw_⟩
     | succ d =>
      have hj := HJ.out
      have hlt : j < l0_1.length := by omega
      have c0 : decide ((j : Int) < (l0_1.length : Int)) = true := decide_eq_true (by omega)
      have c1 : decide (j < l0_1.length) = true := decide_eq_true (by omega)
      obtain ⟨ad, e1, hx, hy⟩ := at_T117 (Kd.zac HR1.out HB.out) (j : Int) (by omega) (by omega)
      cases e1
      rw [Int.toNat_natCast] at hx hy
      have p1 : (0 ≤ (j : Int)) = True := eq_true (by omega)
      have q1 : ((j : Int) < (l0_1.length : Int)) = True := eq_true (by omega)
      have H2 := HI.out
      simp only [stepsOk] at H2
      have HL2 := Aside0.mk hj
      have hw1 : wrap64 ((j : Int) + 1) = (j : Int) + 1 := by have := HL.out; unfold wrap64; omega
      clear hj hlt
      have hdone : ((za9 l0_1 (j : Int)).f0 < 0 ∨ (za9 l0_1 (j : Int)).f0 > (za9 l0_1 (j : Int)).f1 ∨ (za9 l0_1 (j : Int)).f1 ≥ wrap64 (a0_0 + (j : Int))) → stepsOk a0_0 l0_1 l0_1.length 0 = false := fun hc => by rw [← H2, if_pos hc]
      have hnext : ¬ ((za9 l0_1 (j : Int)).f0 < 0 ∨ (za9 l0_1 (j : Int)).f0 > (za9 l0_1 (j : Int)).f1 ∨ (za9 l0_1 (j : Int)).f1 ≥ wrap64 (a0_0 + (j : Int))) → stepsOk a0_0 l0_1 d (j + 1) = stepsOk a0_0 l0_1 l0_1.length 0 := fun hc => by rw [← H2, if_neg hc]
      have HD := Aside0.mk hdone
      have HN := Aside0.mk hnext
      clear H2 hdone hnext HI
      by_cases c1a : (za9 l0_1 (j : Int)).f0 < 0
      ·have b1 : decide ((za9 l0_1 (j : Int)).f0 < 0) = true := decide_eq_true c1a
       have HS := Aside0.mk (HD.out (.inl c1a))
       clear c1a HD HN
       go_wp2_with (first | ((with_reducible refine zaf (N := 4) rfl ?_); refine zad ?hg (N := 4) ?hd (cs := #[.int .i64 0, .int .i64 0]) (t := 117) ?hr ?_; (case hd => rfl); (case hg => rfl); (case hr => first | (go_simp; done) | (go_simp; rfl)); intro g4 hg w4 hbox hb; have BK4 := Aside0.mk hbox; have nb1 := Nat.ne_of_lt (zan BKb.out); have nb2 := Nat.ne_of_lt (zan BK0.out); rw [← hg] at nb1 nb2; have nb3 := nb1.symm; have nb4 := nb2.symm; have n1_ := Aside0.mk (za7 BKb.out hb); have n2_ := Aside0.mk (za7 BK0.out hb); have GE4 := Aside0.mk (show w.heap.size ≤ g4 by rw [hg]; exact HB.out.size); have n3_ := Aside0.mk (Below.trans HB.out (below_base hb HB.out.size)); clear BKb BK0 HB hz hp0 hp1 hp2; have BKb := n1_; have BK0 := n2_; have HB := n3_; clear n1_ n2_ n3_; have hz := za1 BKb.out 0; have hp0 := za1 BK0.out 0; have hq0 := za1 BK4.out 0; have hq1 := za1 BK4.out 1; have hqf0 := za0 BK4.out 0; have hqf1 := za0 BK4.out 1; clear hb hg hbox) | fail)
       repeat (go_quiet (fail); try go_wp2)
       go_ret
       exact ⟨by rw [H1.out, HF.out, HF2.out, HS.out]; simp, bw_⟩
      ·have b1 : decide ((za9 l0_1 (j : Int)).f0 < 0) = false := decide_eq_false c1a
       by_cases c2a : (za9 l0_1 (j : Int)).f0 > (za9 l0_1 (j : Int)).f1
       ·have b2 : decide ((za9 l0_1 (j : Int)).f1 < (za9 l0_1 (j : Int)).f0) = true := decide_eq_true c2a
        have HS := Aside0.mk (HD.out (.inr (.inl c2a)))
        clear c1a c2a HD HN
        go_wp2_with (first | ((with_reducible refine zaf (N := 4) rfl ?_); refine zad ?hg (N := 4) ?hd (cs := #[.int .i64 0, .int .i64 0]) (t := 117) ?hr ?_; (case hd => rfl); (case hg => rfl); (case hr => first | (go_simp; done) | (go_simp; rfl)); intro g4 hg w4 hbox hb; have BK4 := Aside0.mk hbox; have nb1 := Nat.ne_of_lt (zan BKb.out); have nb2 := Nat.ne_of_lt (zan BK0.out); rw [← hg] at nb1 nb2; have nb3 := nb1.symm; have nb4 := nb2.symm; have n1_ := Aside0.mk (za7 BKb.out hb); have n2_ := Aside0.mk (za7 BK0.out hb); have GE4 := Aside0.mk (show w.heap.size ≤ g4 by rw [hg]; exact HB.out.size); have n3_ := Aside0.mk (Below.trans HB.out (below_base hb HB.out.size)); clear BKb BK0 HB hz hp0 hp1 hp2; have BKb := n1_; have BK0 := n2_; have HB := n3_; clear n1_ n2_ n3_; have hz := za1 BKb.out 0; have hp0 := za1 BK0.out 0; have hq0 := za1 BK4.out 0; have hq1 := za1 BK4.out 1; have hqf0 := za0 BK4.out 0; have hqf1 := za0 BK4.out 1; clear hb hg hbox) | fail)
        repeat (go_quiet (fail); try go_wp2)
        go_ret
        exact ⟨by rw [H1.out, HF.out, HF2.out, HS.out]; simp, bw_⟩
       ·have b2 : decide ((za9 l0_1 (j : Int)).f1 < (za9 l0_1 (j : Int)).f0) = false := decide_eq_false c2a
        obtain ⟨sm, hsm⟩ : ∃ s, wrap64 (a0_0 + (j : Int)) = s := ⟨_, rfl⟩
        rw [hsm] at HD HN
        have HSM := Aside0.mk hsm
        by_cases c3a : (za9 l0_1 (j : Int)).f1 ≥ sm
        ·have b3 : decide (sm ≤ (za9 l0_1 (j : Int)).f1) = true := decide_eq_true c3a
         have HS := Aside0.mk (HD.out (.inr (.inr c3a)))
         clear c1a c2a c3a HD HN
         go_wp2_with (first | ((with_reducible refine zaf (N := 4) rfl ?_); refine zad ?hg (N := 4) ?hd (cs := #[.int .i64 0, .int .i64 0]) (t := 117) ?hr ?_; (case hd => rfl); (case hg => rfl); (case hr => first | (go_simp; done) | (go_simp; rfl)); intro g4 hg w4 hbox hb; have BK4 := Aside0.mk hbox; have nb1 := Nat.ne_of_lt (zan BKb.out); have nb2 := Nat.ne_of_lt (zan BK0.out); rw [← hg] at nb1 nb2; have nb3 := nb1.symm; have nb4 := nb2.symm; have n1_ := Aside0.mk (za7 BKb.out hb); have n2_ := Aside0.mk (za7 BK0.out hb); have GE4 := Aside0.mk (show w.heap.size ≤ g4 by rw [hg]; exact HB.out.size); have n3_ := Aside0.mk (Below.trans HB.out (below_base hb HB.out.size)); clear BKb BK0 HB hz hp0 hp1 hp2; have BKb := n1_; have BK0 := n2_; have HB := n3_; clear n1_ n2_ n3_; have hz := za1 BKb.out 0; have hp0 := za1 BK0.out 0; have hq0 := za1 BK4.out 0; have hq1 := za1 BK4.out 1; have hqf0 := za0 BK4.out 0; have hqf1 := za0 BK4.out 1; clear hb hg hbox) | fail)
         repeat (go_quiet (fail); try go_wp2)
         go_ret
         exact ⟨by rw [H1.out, HF.out, HF2.out, HS.out]; simp, bw_⟩
        ·have b3 : decide (sm ≤ (za9 l0_1 (j : Int)).f1) = false := decide_eq_false c3a
         have HI := Aside0.mk (HN.out (fun h => h.elim c1a (fun h => h.elim c2a c3a)))
         clear c1a c2a c3a HD HN
         go_wp2_with (first | ((with_reducible refine zaf (N := 4) rfl ?_); refine zad ?hg (N := 4) ?hd (cs := #[.int .i64 0, .int .i64 0]) (t := 117) ?hr ?_; (case hd => rfl); (case hg => rfl); (case hr => first | (go_simp; done) | (go_simp; rfl)); intro g4 hg w4 hbox hb; have BK4 := Aside0.mk hbox; have nb1 := Nat.ne_of_lt (zan BKb.out); have nb2 := Nat.ne_of_lt (zan BK0.out); rw [← hg] at nb1 nb2; have nb3 := nb1.symm; have nb4 := nb2.symm; have n1_ := Aside0.mk (za7 BKb.out hb); have n2_ := Aside0.mk (za7 BK0.out hb); have GE4 := Aside0.mk (show w.heap.size ≤ g4 by rw [hg]; exact HB.out.size); have n3_ := Aside0.mk (Below.trans HB.out (below_base hb HB.out.size)); clear BKb BK0 HB hz hp0 hp1 hp2; have BKb := n1_; have BK0 := n2_; have HB := n3_; clear n1_ n2_ n3_; have hz := za1 BKb.out 0; have hp0 := za1 BK0.out 0; have hq0 := za1 BK4.out 0; have hq1 := za1 BK4.out 1; have hqf0 := za0 BK4.out 0; have hqf1 := za0 BK4.out 1; clear hb hg hbox) | fail)
         repeat (go_quiet (fail); try go_wp2)
         go_roundg d
         case measure => omega
         case rel => exact ⟨j + 1, by go_num, ⟨by have := HL2.out; omega⟩, HI, ⟨(by (with_reducible repeat (first | refine za3 ?_ _ | refine za4 ?_)); exact zb2 (zb2 BKb.out nb1 _) nb1 _)⟩, ⟨(by (with_reducible repeat (first | refine za3 ?_ _ | refine za4 ?_)); exact zb2 (zb2 BK0.out nb2 _) nb2 _)⟩, ⟨bw_⟩⟩

/-! ### slices_IndexFunc_int_int_176: function 176 -/
def rdR (xs : List (List Int)) (i : Int) : List Int := xs.getD i.toNat []
theorem at_R {w : World} {A : Option Addr} {n : Nat} {xs : List (List Int)} (h : Kd.C (Kd.slice 3 (Kd.int .i64)) w A n xs) (i : Int) (h0 : 0 ≤ i) (h1 : i < n) : ∃ ad A0 c0, A = some ad ∧ w.cell? (ad.add i.toNat) = some (.slice A0 (rdR xs i).length c0) ∧ (rdR xs i).length ≤ c0 ∧ (Kd.int .i64).C w A0 (rdR xs i).length (rdR xs i) := by
 obtain ⟨ad, c, e, _, hK, hc0⟩ := Kd.C_get h ([] : List Int) i h0 h1
 have hc : ∀ j u, c[j]? = some u → w.cell? (ad.add (i.toNat * 1 + j)) = some u := hc0
 obtain ⟨A0, c0, rfl, l0, g0⟩ := hK
 exact ⟨ad, A0, c0, e, by have hq := hc 0 _ rfl; rwa [Nat.mul_one, Nat.add_zero] at hq, l0, g0⟩
/-- A function value that tells of each row of a list of rows whether p holds; what lay in memory stays. -/
def PredR (g : Nat) (lb : Array Value) (l : List (List Int)) (p : List Int → Bool) (w : World) : Prop :=
 ∀ w1 x A c, x ∈ l → Below w.heap.size w w1 → x.length ≤ c → Kd.C (Kd.int .i64) w1 A x.length x → Calls Try.prog g (#[.slice A x.length c] ++ lb) w1 fun e w' => e = .returned (.bool (p x)) ∧ Below w.heap.size w1 w'
def idxFromR (p : List Int → Bool) (l : List (List Int)) : Nat → Nat → Int
 | 0, _ => -1
 | d + 1, j => if p (rdR l j) = true then j else idxFromR p l d (j + 1)
set_option maxHeartbeats 1000000 in
theorem idxFuncR_calls (g : Nat) (lb : Array Value) (p : List Int → Bool) (eg : ∀ args w, (callFunc g args).run Try.prog w = .ok (.enter g args) w) (A0 : Option Addr) (c0 : Nat) (l0 : List (List Int)) (w : World) (hr0 : Kd.C (Kd.slice 3 (Kd.int .i64)) w A0 l0.length l0) (hp : PredR g lb l0 p w) :
  Calls Try.prog 176 #[.slice A0 l0.length c0, .func (.func g) #[] lb] w fun e w' => e = .returned (.int .i64 (idxFromR p l0 l0.length 0)) ∧ Below w.heap.size w w' := by
 have HP := Aside0.mk hp
 have HR0 := Aside0.mk hr0
 have hm : l0.length ≤ 9223372036854775807 := hr0.2.1
 clear hp hr0
 go_enter Try.func176, Try.ntmps176
 go_wp2
 go_loopg [8] l0.length (fun d v8 w' => ∃ j : Nat, v8 = .int .i64 j ∧ Aside0 (j + d = l0.length) ∧ Aside0 (idxFromR p l0 d j = idxFromR p l0 l0.length 0) ∧ Aside0 (Below w.heap.size w w'))
 case atStart => exact ⟨0, rfl, ⟨by omega⟩, ⟨rfl⟩, ⟨by repeat (first | exact Below.refl _ _ | apply zay | apply zaq | apply zav)⟩⟩
 case round =>
  obtain ⟨j, rfl, HJ, HI, HB⟩ := hrel
  cases gk with
  | zero =>
   have hj := HJ.out
   have c1 : decide (j < l0.length) = false := decide_eq_false (by omega)
   have H2 := HI.out
   simp only [idxFromR] at H2
   have HF := Aside0.mk H2.symm
   clear H2 hj
   go_wp2
   go_ret
   exact ⟨by rw [HF.out]; rfl, bw_⟩
  | succ d =>
   have hj := HJ.out
   have hlt : j < l0.length := by omega
   have c1 : decide (j < l0.length) = true := decide_eq_true hlt
   obtain ⟨ad, Ax, cx, e1, hx, hxl, hxr⟩ := at_R (Kd.zac HR0.out HB.out) (j : Int) (by omega) (by omega)
   cases e1
   rw [Int.toNat_natCast] at hx
   have HM := Aside0.mk (show rdR l0 (j : Int) ∈ l0 by simp [rdR, List.getD_eq_getElem?_getD, hlt])
   have HX := Aside0.mk hxr
   have HXL := Aside0.mk hxl
   clear hxr hxl
   have H2 := HI.out
   clear hj
   cases hq : p (rdR l0 j) with
   | true =>
    simp only [idxFromR, hq, if_true] at H2
    have HF := Aside0.mk H2.symm
    have HQ := Aside0.mk hq
    clear H2 hq
    go_wp2_with fail
    refine (HP.out _ _ _ _ HM.out bw_ HXL.out (Kd.zac HX.out (by repeat (first | (with_reducible first | exact Below.refl _ _ | apply zay | apply zaq | apply zav) | exact Below.refl _ _)))).mono ?_
    rintro e w' ⟨rfl, hb⟩
    have HB2 := Aside0.mk (Below.trans bw_ hb)
    clear hb HB
    have HB := HB2
    rw [HQ.out]
    go_wp2
    go_ret
    exact ⟨by rw [HF.out]; rfl, bw_⟩
   | false =>
    have H3 : idxFromR p l0 d (j + 1) = idxFromR p l0 l0.length 0 := by simpa [idxFromR, hq] using H2
    have HF := Aside0.mk H3
    have HQ := Aside0.mk hq
    clear H2 hq H3
    go_wp2_with fail
    refine (HP.out _ _ _ _ HM.out bw_ HXL.out (Kd.zac HX.out (by repeat (first | (with_reducible first | exact Below.refl _ _ | apply zay | apply zaq | apply zav) | exact Below.refl _ _)))).mono ?_
    rintro e w' ⟨rfl, hb⟩
    have HB2 := Aside0.mk (Below.trans bw_ hb)
    clear hb HB
    have HB := HB2
    rw [HQ.out]
    go_wp2
    go_roundg d
    case measure => omega
    case rel => exact ⟨j + 1, by go_num, ⟨by have := HJ.out; omega⟩, HF, ⟨bw_⟩⟩

/-! ### slices_ContainsFunc_int_int_140: function 140 -/
theorem idxFromR_any (p : List Int → Bool) (l : List (List Int)) (d : Nat) : ∀ j, j + d = l.length → decide (0 ≤ idxFromR p l d j) = (l.drop j).any p := by
 induction d with
 | zero =>
  intro j hj
  rw [List.drop_eq_nil_of_le (by omega)]
  rfl
 | succ d ih =>
  intro j hj
  have hlt : j < l.length := by omega
  rw [List.drop_eq_getElem_cons hlt, List.any_cons]
  have e : rdR l j = l[j] := by simp [rdR, List.getD_eq_getElem?_getD, hlt]
  simp only [idxFromR, e]
  cases h : p l[j] with
  | true => simp
  | false => simpa [h] using ih (j + 1) (by omega)

set_option maxHeartbeats 1000000 in
theorem containsFuncR_calls (g : Nat) (lb : Array Value) (p : List Int → Bool) (eg : ∀ args w, (callFunc g args).run Try.prog w = .ok (.enter g args) w) (A0 : Option Addr) (c0 : Nat) (l0 : List (List Int)) (w : World) (hr0 : Kd.C (Kd.slice 3 (Kd.int .i64)) w A0 l0.length l0) (hp : PredR g lb l0 p w) :
  Calls Try.prog 140 #[.slice A0 l0.length c0, .func (.func g) #[] lb] w fun e w' => e = .returned (.bool (l0.any p)) ∧ Below w.heap.size w w' := by
 have HC := Aside0.mk (idxFuncR_calls g lb p eg A0 c0 l0 w hr0 hp)
 have HE := Aside0.mk (idxFromR_any p l0 l0.length 0 (by omega))
 rw [List.drop_zero] at HE
 clear hp hr0 eg
 go_enter Try.func140, Try.ntmps140
 go_wp2_with fail
 refine HC.out.mono ?_
 rintro e w' ⟨rfl, hb⟩
 have HB := Aside0.mk hb
 clear hb
 go_wp2
 go_ret
 exact ⟨by rw [← HE.out]; rfl, bw_⟩

/-! ### impl_Plan_exponents: function 141 -/
mutual
def impl_Plan_exponents.l0 : Nat → List (List Int) → Int → Int → Int → List (S117) → List Int → Option ((List (List Int)))
 | 0, _, _, _, _, _, _ => none
 | k + 1, x3, x15, x16, x1000, x1001, x1002 => if x16 < x15 then (if 0 ≤ x1000 then (if (x1000 : Int).toNat ≤ 35184372088832 then ((some (List.replicate (x1000 : Int).toNat 0 : List Int)).bind fun y243 => (if 0 ≤ x16 then (if x16 < (y243.length : Int) then (if x3.length < 5864062014805 then (impl_Plan_exponents.l0 k (x3 ++ [(y243.set (x16 : Int).toNat 1)]) x15 (wrap64 (x16 + 1)) x1000 x1001 x1002) else (none)) else (none)) else (none))) else (none)) else (none)) else (impl_Plan_exponents.l1 k x3 x1001 (x1001.length : Int) 0)
def impl_Plan_exponents.l1 : Nat → List (List Int) → List (S117) → Int → Int → Option ((List (List Int)))
 | 0, _, _, _, _ => none
 | k + 1, x3, x35, x36, x37 => if x37 < x36 then (if 0 ≤ x37 then (if x37 < (x35.length : Int) then (if 0 ≤ ((za9 x35 x37).f0) then (if ((za9 x35 x37).f0) < (x3.length : Int) then (impl_Plan_exponents.l2 k x3 (([] : List Int)) x35 x36 x37 (rd_L3 x3 ((za9 x35 x37).f0)) ((rd_L3 x3 ((za9 x35 x37).f0)).length : Int) 0 ((za9 x35 x37).f0) ((za9 x35 x37).f1)) else (none)) else (none)) else (none)) else (none)) else (some x3)
def impl_Plan_exponents.l2 : Nat → List (List Int) → List Int → List (S117) → Int → Int → List Int → Int → Int → Int → Int → Option ((List (List Int)))
 | 0, _, _, _, _, _, _, _, _, _, _ => none
 | k + 1, x3, x8, x35, x36, x37, x46, x47, x48, x252000, x252001 => if x48 < x47 then (if 0 ≤ x48 then (if x48 < (x46.length : Int) then (if 0 ≤ x252001 then (if x252001 < (x3.length : Int) then (if x48 < ((rd_L3 x3 x252001).length : Int) then (if x8.length < 17592186044416 then (impl_Plan_exponents.l2 k x3 (x8 ++ [mn (wrap64 ((rd x46 x48) + (rd (rd_L3 x3 x252001) x48))) 1000001]) x35 x36 x37 x46 x47 (wrap64 (x48 + 1)) x252000 x252001) else (none)) else (none)) else (none)) else (none)) else (none)) else (none)) else (if x3.length < 5864062014805 then (impl_Plan_exponents.l1 k (x3 ++ [x8]) x35 x36 (wrap64 (x37 + 1))) else (none))
end
def impl_Plan_exponents.f (k : Nat) (a0_0 : Int) (l0_1 : List (S117)) (l0_2 : List Int) : Option ((List (List Int))) := impl_Plan_exponents.l0 k (([] : List (List Int))) a0_0 0 a0_0 l0_1 l0_2
theorem impl_Plan_exponents.zb5 : ∀ k, (∀ y0 y1 y2 y3 y4 y5, LeO (impl_Plan_exponents.l0 k y0 y1 y2 y3 y4 y5) (impl_Plan_exponents.l0 (k + 1) y0 y1 y2 y3 y4 y5)) ∧ (∀ y0 y1 y2 y3, LeO (impl_Plan_exponents.l1 k y0 y1 y2 y3) (impl_Plan_exponents.l1 (k + 1) y0 y1 y2 y3)) ∧ (∀ y0 y1 y2 y3 y4 y5 y6 y7 y8 y9, LeO (impl_Plan_exponents.l2 k y0 y1 y2 y3 y4 y5 y6 y7 y8 y9) (impl_Plan_exponents.l2 (k + 1) y0 y1 y2 y3 y4 y5 y6 y7 y8 y9))
 | 0 => ⟨fun _ _ _ _ _ _ r h => by simp [impl_Plan_exponents.l0] at h, fun _ _ _ _ r h => by simp [impl_Plan_exponents.l1] at h, fun _ _ _ _ _ _ _ _ _ _ r h => by simp [impl_Plan_exponents.l2] at h⟩
 | k + 1 => by
  obtain ⟨ih0, ih1, ih2⟩ := impl_Plan_exponents.zb5 k
  refine ⟨?_, ?_, ?_⟩
  ·intro y0 y1 y2 y3 y4 y5
   unfold impl_Plan_exponents.l0
   repeat' first
   | (with_reducible exact ih0 _ _ _ _ _ _)
   | (with_reducible exact ih1 _ _ _ _)
   | (with_reducible exact ih2 _ _ _ _ _ _ _ _ _ _)
   | (with_reducible exact LeO.refl _)
   | (with_reducible exact LeO.none _)
   | (with_reducible refine LeO.ite ?_ ?_)
   | (with_reducible refine LeO.bind ?_ (fun _ => ?_))
   | exact ih0 _ _ _ _ _ _
   | exact ih1 _ _ _ _
   | exact ih2 _ _ _ _ _ _ _ _ _ _
   | exact LeO.none _
   | refine LeO.ite ?_ ?_
   | refine LeO.bind ?_ (fun _ => ?_)
  ·intro y0 y1 y2 y3
   unfold impl_Plan_exponents.l1
   repeat' first
   | (with_reducible exact ih0 _ _ _ _ _ _)
   | (with_reducible exact ih1 _ _ _ _)
   | (with_reducible exact ih2 _ _ _ _ _ _ _ _ _ _)
   | (with_reducible exact LeO.refl _)
   | (with_reducible exact LeO.none _)
   | (with_reducible refine LeO.ite ?_ ?_)
   | (with_reducible refine LeO.bind ?_ (fun _ => ?_))
   | exact ih0 _ _ _ _ _ _
   | exact ih1 _ _ _ _
   | exact ih2 _ _ _ _ _ _ _ _ _ _
   | exact LeO.none _
   | refine LeO.ite ?_ ?_
   | refine LeO.bind ?_ (fun _ => ?_)
  ·intro y0 y1 y2 y3 y4 y5 y6 y7 y8 y9
   unfold impl_Plan_exponents.l2
   repeat' first
   | (with_reducible exact ih0 _ _ _ _ _ _)
   | (with_reducible exact ih1 _ _ _ _)
   | (with_reducible exact ih2 _ _ _ _ _ _ _ _ _ _)
   | (with_reducible exact LeO.refl _)
   | (with_reducible exact LeO.none _)
   | (with_reducible refine LeO.ite ?_ ?_)
   | (with_reducible refine LeO.bind ?_ (fun _ => ?_))
   | exact ih0 _ _ _ _ _ _
   | exact ih1 _ _ _ _
   | exact ih2 _ _ _ _ _ _ _ _ _ _
   | exact LeO.none _
   | refine LeO.ite ?_ ?_
   | refine LeO.bind ?_ (fun _ => ?_)
theorem impl_Plan_exponents.mono : ∀ a0 a1 a2 k, LeO (impl_Plan_exponents.f k a0 a1 a2) (impl_Plan_exponents.f (k + 1) a0 a1 a2) := by
 intro a0 a1 a2 k
 obtain ⟨ih0, ih1, ih2⟩ := impl_Plan_exponents.zb5 k
 unfold impl_Plan_exponents.f
 repeat' first
   | (with_reducible exact ih0 _ _ _ _ _ _)
   | (with_reducible exact ih1 _ _ _ _)
   | (with_reducible exact ih2 _ _ _ _ _ _ _ _ _ _)
   | (with_reducible exact LeO.refl _)
   | (with_reducible exact LeO.none _)
   | (with_reducible refine LeO.ite ?_ ?_)
   | (with_reducible refine LeO.bind ?_ (fun _ => ?_))
   | exact ih0 _ _ _ _ _ _
   | exact ih1 _ _ _ _
   | exact ih2 _ _ _ _ _ _ _ _ _ _
   | exact LeO.none _
   | refine LeO.ite ?_ ?_
   | refine LeO.bind ?_ (fun _ => ?_)
set_option maxHeartbeats 8000000 in
set_option maxRecDepth 100000 in
theorem impl_Plan_exponents.calls (k : Nat) (g0 : Nat) (a0_0 : Int) (A0_1 : Option Addr) (c0_1 : Nat) (l0_1 : List (S117)) (A0_2 : Option Addr) (c0_2 : Nat) (l0_2 : List Int) (r : List (List Int)) (w : World) (hb0 : w.heap[g0]? = some (.cells #[.int .i64 a0_0, .slice A0_1 l0_1.length c0_1, .slice A0_2 l0_2.length c0_2] 36 (0, 0))) (hr0_1 : Kd.C k117 w A0_1 l0_1.length l0_1) (hc0_1 : l0_1.length ≤ c0_1) (hr0_2 : Kd.C (Kd.int .i64) w A0_2 l0_2.length l0_2) (hc0_2 : l0_2.length ≤ c0_2) (h : impl_Plan_exponents.f k a0_0 l0_1 l0_2 = some r) :
  Calls Try.prog 141 #[.pointer (some ⟨g0, 0, none⟩)] w fun e w' => ∃ v0_ : Value, e = .returned (v0_) ∧ Kd.S (Kd.slice 3 (Kd.int .i64)) 22 w' w.heap.size (fun _ => True) v0_ r ∧ Below w.heap.size w w' := by
 have hu117 := Try.underlying117
 have HR0_1 := Aside0.mk hr0_1
 have HC0_1 := Aside0.mk hc0_1
 clear hr0_1 hc0_1
 have HR0_2 := Aside0.mk hr0_2
 have HC0_2 := Aside0.mk hc0_2
 clear hr0_2 hc0_2
 have BK0 := Aside0.mk hb0
 clear hb0
 have HB := Aside0.mk (Below.refl w.heap.size w)
 have H : (impl_Plan_exponents.l0 k (([] : List (List Int))) a0_0 0 a0_0 l0_1 l0_2) = some r := h
 clear h
 obtain ⟨y240, hy240⟩ : ∃ y_ : List (List Int), y_ = (([] : List (List Int))) := ⟨_, rfl⟩
 replace H : (impl_Plan_exponents.l0 k y240 a0_0 0 a0_0 l0_1 l0_2) = some r := by first | (rw [hy240]; with_reducible exact H) | (have H2_ := (Option.bind_some _ _).symm.trans H; rw [hy240]; with_reducible exact H2_) | (have H2_ := (Option.bind_some _ _).symm.trans H; with_reducible exact H2_) | with_reducible exact H | (rw [hy240]; exact H) | exact H
 have Ny240 := Aside0.mk hy240
 clear hy240
 have H' := Aside0.mk H
 clear H
 go_enter Try.func141, Try.ntmps141
 go_wp2_with (first | ((with_reducible refine zaf (N := 11) rfl ?_); refine Kd.S_lit (Kd.slice 3 (Kd.int .i64)) _ 22 ?hg (N := 11) ?hd (xs := ([] : List (List Int))) (inner := []) (ok := fun _ => True) (okp := fun _ => True) ?hr ?hp (fun _ hk => hk) trivial (Below.refl _ _) (Nat.le_refl _) (by simp) ?_; (case hd => rfl); (case hg => rfl); (case hr => first | (go_simp; done) | (go_simp; rfl)); (case hp => exact (Reps.none _ _)); intro v241 w2 ho3 hb hg_ hnew_; clear hg_ hnew_; (first | rw [← Ny240.out] at ho3 | (simp only [Int.reduceToNat] at ho3; rw [← Ny240.out] at ho3)); have n0_ := Aside0.mk (Kd.S_lower ho3 (za6 bw_)); have n1_ := Aside0.mk (za7 (g := g0) (o := .cells #[.int .i64 a0_0, .slice A0_1 l0_1.length c0_1, .slice A0_2 l0_2.length c0_2] 36 (0, 0)) (by (with_reducible repeat (first | refine za3 ?_ _ | refine za4 ?_ | refine za2 ?_ _)); exact BK0.out) hb); have n2_ := Aside0.mk (za8 bw_ hb); clear BK0; clear HB; have HO242 := n0_; have BK0 := n1_; have HB := n2_; clear n0_ n1_ n2_; clear hb ho3; have hcz4_0 : w2.cell? ⟨g0, 0, none⟩ = some (.int .i64 a0_0) := (za1 BK0.out 0).trans rfl; have hcz4_1 : w2.cell? ⟨g0, 1, none⟩ = some (.slice A0_1 l0_1.length c0_1) := (za1 BK0.out 1).trans rfl; have hcz4_2 : w2.cell? ⟨g0, 2, none⟩ = some (.slice A0_2 l0_2.length c0_2) := (za1 BK0.out 2).trans rfl; have hfz4_0 := za0 BK0.out 0; have hfz4_1 := za0 BK0.out 1; have hfz4_2 := za0 BK0.out 2))
 go_loopg [3, 16] k (fun kq v3 v16 w' => ∃ (x3_1 : List (List Int)) (x16_1 : Int), v16 = .int .i64 x16_1 ∧ Aside0 (impl_Plan_exponents.l0 kq x3_1 a0_0 x16_1 a0_0 l0_1 l0_2 = some r) ∧ Aside0 (kq ≤ k) ∧ Aside0 (Kd.S (Kd.slice 3 (Kd.int .i64)) 22 w' w.heap.size (fun _ => True) v3 x3_1) ∧ Aside0 (w'.heap[g0]? = some (.cells #[.int .i64 a0_0, (.slice A0_1 l0_1.length c0_1), (.slice A0_2 l0_2.length c0_2)] 36 (0, 0))) ∧ Aside0 (Below w.heap.size w w'))
 case atStart => exact ⟨(y240), (0), (by first | rfl | (simp; done) | (simp [*]; done)), H', ⟨Nat.le_refl _⟩, ⟨by (with_reducible repeat (first | apply Kd.zb3 | apply Kd.zb4 | apply Kd.zb9)); exact HO242.out⟩, ⟨by (with_reducible repeat (first | refine za3 ?_ _ | refine za4 ?_ | refine za2 ?_ _)); exact BK0.out⟩, ⟨bw_⟩⟩
 case round =>
  clear H'
  try clear c1
  try clear p2
  try clear hcz4_0
  try clear hcz4_1
  try clear hcz4_2
  try clear hfz4_0
  try clear hfz4_1
  try clear hfz4_2
  obtain ⟨x3_1, x16_1, rfl, HA, HK1, HO_3, BK0, HB⟩ := hrel
  cases gk with
  | zero => exact absurd HA.out (by simp [impl_Plan_exponents.l0])
  | succ k1 =>
   have H := HA.out
   clear HA
   simp only [impl_Plan_exponents.l0] at H
   by_cases c5 : x16_1 < a0_0
   ·rw [if_pos c5] at H
    have c5b0 : decide (x16_1 < a0_0) = true := decide_eq_true c5
    clear c5
    by_cases c6 : 0 ≤ a0_0
    ·rw [if_pos c6] at H
     have c6b0 := eq_true c6
     have c6b1 : decide (0 ≤ a0_0) = true := decide_eq_true c6
     clear c6
     by_cases c7 : (a0_0 : Int).toNat ≤ 35184372088832
     ·rw [if_pos c7] at H
      have c7b0 := eq_true c7
      have c7b1 : decide ((a0_0 : Int).toNat ≤ 35184372088832) = true := decide_eq_true c7
      clear c7
      obtain ⟨y243, hy243⟩ : ∃ y_ : List Int, y_ = (List.replicate (a0_0 : Int).toNat 0) := ⟨_, rfl⟩
      replace H : (if 0 ≤ x16_1 then (if x16_1 < (y243.length : Int) then (if x3_1.length < 5864062014805 then (impl_Plan_exponents.l0 k1 (x3_1 ++ [(y243.set (x16_1 : Int).toNat 1)]) a0_0 (wrap64 (x16_1 + 1)) a0_0 l0_1 l0_2) else (none)) else (none)) else (none)) = some r := by first | (rw [hy243]; with_reducible exact H) | (have H2_ := (Option.bind_some _ _).symm.trans H; rw [hy243]; with_reducible exact H2_) | (have H2_ := (Option.bind_some _ _).symm.trans H; with_reducible exact H2_) | with_reducible exact H | (rw [hy243]; exact H) | exact H
      have Ny243 := Aside0.mk hy243
      clear hy243
      by_cases c8 : 0 ≤ x16_1
      ·rw [if_pos c8] at H
       have c8b0 : decide (0 ≤ x16_1) = true := decide_eq_true c8
       clear c8
       by_cases c9 : x16_1 < (y243.length : Int)
       ·rw [if_pos c9] at H
        have c9b0 : decide (x16_1 < (y243.length : Int)) = true := decide_eq_true c9
        clear c9
        obtain ⟨y246, hy246⟩ : ∃ y_ : List Int, y_ = (y243.set (x16_1 : Int).toNat 1) := ⟨_, rfl⟩
        replace H : (if x3_1.length < 5864062014805 then (impl_Plan_exponents.l0 k1 (x3_1 ++ [y246]) a0_0 (wrap64 (x16_1 + 1)) a0_0 l0_1 l0_2) else (none)) = some r := by first | (rw [hy246]; with_reducible exact H) | (have H2_ := (Option.bind_some _ _).symm.trans H; rw [hy246]; with_reducible exact H2_) | (have H2_ := (Option.bind_some _ _).symm.trans H; with_reducible exact H2_) | with_reducible exact H | (rw [hy246]; exact H) | exact H
        have Ny246 := Aside0.mk hy246
        clear hy246
        by_cases c11 : x3_1.length < 5864062014805
        ·rw [if_pos c11] at H
         have LMc11 := Aside0.mk c11
         clear c11
         obtain ⟨y247, hy247⟩ : ∃ y_ : List (List Int), y_ = (x3_1 ++ [y246]) := ⟨_, rfl⟩
         replace H : (impl_Plan_exponents.l0 k1 y247 a0_0 (wrap64 (x16_1 + 1)) a0_0 l0_1 l0_2) = some r := by first | (rw [hy247]; with_reducible exact H) | (have H2_ := (Option.bind_some _ _).symm.trans H; rw [hy247]; with_reducible exact H2_) | (have H2_ := (Option.bind_some _ _).symm.trans H; with_reducible exact H2_) | with_reducible exact H | (rw [hy247]; exact H) | exact H
         have Ny247 := Aside0.mk hy247
         clear hy247
         have H' := Aside0.mk H
         clear H
         have hcz12_0 : wr.cell? ⟨g0, 0, none⟩ = some (.int .i64 a0_0) := (za1 BK0.out 0).trans rfl
         have hcz12_1 : wr.cell? ⟨g0, 1, none⟩ = some (.slice A0_1 l0_1.length c0_1) := (za1 BK0.out 1).trans rfl
         have hcz12_2 : wr.cell? ⟨g0, 2, none⟩ = some (.slice A0_2 l0_2.length c0_2) := (za1 BK0.out 2).trans rfl
         have hfz12_0 := za0 BK0.out 0
         have hfz12_1 := za0 BK0.out 1
         have hfz12_2 := za0 BK0.out 2
         go_wp2_with (first | ((with_reducible refine zaf (N := 23) rfl ?_); refine Kd.R_make (Kd.int .i64) _ 3 rfl (N := 23) rfl 22 _ _ rfl a0_0 rfl rfl Try.underlying22 (.int .i64 0) 8 info3 rfl (by decide) (by omega) 0 (ok := fun _ => True) (okp := fun _ => True) rfl (fun _ hk => hk) trivial (of_decide_eq_true (by first | (with_reducible assumption) | assumption)) (Nat.le_trans (Nat.mul_le_mul_right _ (of_decide_eq_true (by first | (with_reducible assumption) | assumption) : a0_0.toNat ≤ 35184372088832)) (by omega)) (Below.refl _ _) (Nat.le_refl _) ?_; intro v244 w13 ho14 hb hg_ hnew_; clear hg_ hnew_; (first | rw [← Ny243.out] at ho14 | (simp only [Int.reduceToNat] at ho14; rw [← Ny243.out] at ho14)); have n0_ := Aside0.mk (Kd.S_elder' (by (with_reducible repeat (first | apply Kd.zb3 | apply Kd.zb4 | apply Kd.zb9)); exact HO_3.out) (Kd.R_base ho14) hb); have n1_ := Aside0.mk (Kd.R_lower ho14 (za6 bw_)); have n2_ := Aside0.mk (za7 (g := g0) (o := .cells #[.int .i64 a0_0, .slice A0_1 l0_1.length c0_1, .slice A0_2 l0_2.length c0_2] 36 (0, 0)) (by (with_reducible repeat (first | refine za3 ?_ _ | refine za4 ?_ | refine za2 ?_ _)); exact BK0.out) hb); have n3_ := Aside0.mk (za8 bw_ hb); clear HO_3; clear BK0; clear HB; have HO_3 := n0_; have HO245 := n1_; have BK0 := n2_; have HB := n3_; clear n0_ n1_ n2_ n3_; clear hb ho14; have p10 : 0 ≤ (x16_1 : Int) := of_decide_eq_true (by first | (with_reducible assumption) | assumption); have q10 : (x16_1 : Int) < ((y243.length : Int) : Int) := of_decide_eq_true (by first | (with_reducible assumption) | assumption); obtain ⟨go10, co10, eo10, gb10, gl10, cl10, HG10⟩ := Kd.R_form HO245.out (by omega); (first | cases eo10 | (injection eo10 with ea_ en_ ec_; (first | subst ea_ | (injection ea_ with ea_; subst ea_)); subst ec_; clear en_)); have GB10 := Aside0.mk gb10; have GG10 := Aside0.mk HG10; clear gb10 gl10 HG10; obtain ⟨hx10_0, hf10_0⟩ := Kd.R_celln 0 HO245.out (x16_1 : Int) p10 q10; replace p10 := eq_true p10; replace q10 := eq_true q10; obtain ⟨hy15_, hz15_⟩ := Kd.R_celln 0 HO245.out (x16_1 : Int) (of_decide_eq_true (by first | (with_reducible assumption) | assumption)) (of_decide_eq_true (by first | (with_reducible assumption) | assumption)); have HP15 := Kd.R_putg HO245.out (x16_1 : Int) 1) | ((with_reducible refine gate_store (t := 3) (p := 26) rfl ?_); refine store_event (t := 3) (p := 26) (v := ?vo_w16) (w1 := (w13.setCell ⟨go10, (x16_1 : Int).toNat, none⟩ (.int .i64 1))) ?hg ?ho ?hn ?hr ?_; (case ho => rfl); (case hg => rfl); (case hn => rfl); (case hr => first | (go_simp; done) | (go_simp; rfl)); intro w16 hw; have hg : w13.grownBy w16 (some go10) := (by rw [hw]; exact HP15.2); have hp_ : Kd.R (Kd.int .i64) 3 w16 w.heap.size (fun _ => True) (.slice (some ⟨go10, 0, none⟩) y243.length co10) y246 := (by rw [hw, Ny246.out]; exact HP15.1); clear HP15; have n0_ := Aside0.mk (Kd.S_after (v := (.slice (some ⟨go10, 0, none⟩) y243.length co10)) (v1 := (.slice (some ⟨go10, 0, none⟩) y243.length co10)) (ok := (fun _ => True)) (by (with_reducible repeat (first | apply Kd.zb3 | apply Kd.zb4 | apply Kd.zb9)); exact HO_3.out) hg (.inl rfl)); have n1_ := Aside0.mk (blk_grown (g := g0) (o := .cells #[.int .i64 a0_0, .slice A0_1 l0_1.length c0_1, .slice A0_2 l0_2.length c0_2] 36 (0, 0)) (by (with_reducible repeat (first | refine za3 ?_ _ | refine za4 ?_ | refine za2 ?_ _)); exact BK0.out) hg (Kd.R_ne HO245.out BK0.out (by decide))); have n2_ := Aside0.mk (hp_); have n3_ := Aside0.mk ((by rw [hw]; exact below_set (HB.out) GB10.out : Below w.heap.size w w16)); clear HO_3; clear BK0; clear HO245; clear HB; have HO_3 := n0_; have BK0 := n1_; have HO245 := n2_; have HB := n3_; clear n0_ n1_ n2_ n3_; clear hg hw hp_) | ((with_reducible refine gate_builtin (b := .append) (xs := #[.tmp 27, .tmp 29]) rfl ?_); at_builtin; refine Kd.S_append (Kd.slice 3 (Kd.int .i64)) (w0 := w) w.heap.size rfl (.tmp 27) (.tmp 29) 109 22 (.slice none 0 0) 24 rfl Try.underlying109 info22 rfl (by decide) (by omega) u3 x3_1 y246 [.slice (some ⟨go10, 0, none⟩) y243.length co10] (fun _ => True) (fun k_ => some k_ = (.slice (some ⟨go10, 0, none⟩) y243.length co10 : Value).ownBlock) rfl rfl ?aP (fun k_ hk_ => ((Kd.zar (ok' := fun k_ => ((fun _ => True)) k_ ∧ some k_ ≠ (u3 : Value).ownBlock) (Kd.R_apart' (HO245.out) (Kd.S_typed HO_3.out) (by decide)) (fun k_ hk => ⟨trivial, hk.2⟩))).1 k_ hk_.symm) ?aF ?aO ?aB ?aS ?aL ?_; (case aP => exact Kd.M_row (Kd.zar (Kd.R_tight rfl (Kd.zar (ok' := fun k_ => ((fun _ => True)) k_ ∧ some k_ ≠ (u3 : Value).ownBlock) (Kd.R_apart' (HO245.out) (Kd.S_typed HO_3.out) (by decide)) (fun k_ hk => ⟨trivial, hk.2⟩))) (fun _ h_ => h_))); (case aB => exact bw_); (case aF => exact (fun _ _ => trivial)); (case aO => exact (by (with_reducible repeat (first | apply Kd.zb3 | apply Kd.zb4 | apply Kd.zb9)); exact Kd.S_mono HO_3.out (fun k_ hk => ⟨trivial, fun e_ => hk.2 e_⟩))); (case aS => exact (za6 bw_)); (case aL => have := LMc11.out; omega); intro v248 w17 ho hb hg hat; rw [← Ny247.out] at ho; have n0_ := Aside0.mk (blk_grown (g := g0) (o := .cells #[.int .i64 a0_0, .slice A0_1 l0_1.length c0_1, .slice A0_2 l0_2.length c0_2] 36 (0, 0)) (by (with_reducible repeat (first | refine za3 ?_ _ | refine za4 ?_ | refine za2 ?_ _)); exact BK0.out) hg (Kd.S_ne HO_3.out BK0.out (by decide))); have n1_ := Aside0.mk (hb); have n2_ := Aside0.mk (ho); clear BK0; clear HB; clear HO_3; clear HO245; have BK0 := n0_; have HB := n1_; have HO249 := n2_; clear n0_ n1_ n2_; clear ho hb hg hat))
         go_roundg k1
         case measure => have := HK1.out; omega
         case rel => exact ⟨(y247), (wrap64 (x16_1 + 1)), (by first | rfl | (simp; done) | (simp [*]; done)), H', ⟨by have := HK1.out; omega⟩, ⟨by (with_reducible repeat (first | apply Kd.zb3 | apply Kd.zb4 | apply Kd.zb9)); exact HO249.out⟩, ⟨by (with_reducible repeat (first | refine za3 ?_ _ | refine za4 ?_ | refine za2 ?_ _)); exact BK0.out⟩, ⟨bw_⟩⟩
        ·rw [if_neg c11] at H
         exact absurd H (by simp)
       ·rw [if_neg c9] at H
        exact absurd H (by simp)
      ·rw [if_neg c8] at H
       exact absurd H (by simp)
     ·rw [if_neg c7] at H
      exact absurd H (by simp)
    ·rw [if_neg c6] at H
     exact absurd H (by simp)
   ·rw [if_neg c5] at H
    have c5b0 : decide (x16_1 < a0_0) = false := decide_eq_false c5
    clear c5
    have H' := Aside0.mk H
    clear H
    have hcz18_0 : wr.cell? ⟨g0, 0, none⟩ = some (.int .i64 a0_0) := (za1 BK0.out 0).trans rfl
    have hcz18_1 : wr.cell? ⟨g0, 1, none⟩ = some (.slice A0_1 l0_1.length c0_1) := (za1 BK0.out 1).trans rfl
    have hcz18_2 : wr.cell? ⟨g0, 2, none⟩ = some (.slice A0_2 l0_2.length c0_2) := (za1 BK0.out 2).trans rfl
    have hfz18_0 := za0 BK0.out 0
    have hfz18_1 := za0 BK0.out 1
    have hfz18_2 := za0 BK0.out 2
    go_wp2
    go_loopg [3, 37] k1 (fun kq v3 v37 w' => ∃ (x3_2 : List (List Int)) (x37_2 : Int), v37 = .int .i64 x37_2 ∧ Aside0 (impl_Plan_exponents.l1 kq x3_2 l0_1 (l0_1.length : Int) x37_2 = some r) ∧ Aside0 (kq ≤ k1) ∧ Aside0 (Kd.S (Kd.slice 3 (Kd.int .i64)) 22 w' w.heap.size (fun _ => True) v3 x3_2) ∧ Aside0 (w'.heap[g0]? = some (.cells #[.int .i64 a0_0, (.slice A0_1 l0_1.length c0_1), (.slice A0_2 l0_2.length c0_2)] 36 (0, 0))) ∧ Aside0 (Below w.heap.size w w'))
    case atStart => exact ⟨(x3_1), (0), (by first | rfl | (simp; done) | (simp [*]; done)), H', ⟨Nat.le_refl _⟩, ⟨by (with_reducible repeat (first | apply Kd.zb3 | apply Kd.zb4 | apply Kd.zb9)); exact HO_3.out⟩, ⟨by (with_reducible repeat (first | refine za3 ?_ _ | refine za4 ?_ | refine za2 ?_ _)); exact BK0.out⟩, ⟨bw_⟩⟩
    case round =>
     clear H'
     try clear c1
     try clear p1
     try clear q1
     try clear hx1
     try clear hf1
     try clear p2
     try clear c5
     try clear c5b0
     try clear c6
     try clear c6b0
     try clear c6b1
     try clear p6
     try clear c7
     try clear c7b0
     try clear c7b1
     try clear c8
     try clear c8b0
     try clear c9
     try clear c9b0
     try clear p10
     try clear q10
     try clear hx10
     try clear hf10
     try clear c11
     try clear c14
     try clear hcz12_0
     try clear hcz12_1
     try clear hcz12_2
     try clear hcz18_0
     try clear hcz18_1
     try clear hcz18_2
     try clear hcz4_0
     try clear hcz4_1
     try clear hcz4_2
     try clear hfz12_0
     try clear hfz12_1
     try clear hfz12_2
     try clear hfz18_0
     try clear hfz18_1
     try clear hfz18_2
     try clear hfz4_0
     try clear hfz4_1
     try clear hfz4_2
     try clear hx10_0
     try clear p10
     try clear p2
     try clear q10
     obtain ⟨x3_2, x37_2, rfl, HA, HK2, HO_3, BK0, HB⟩ := hrel
     cases gk with
     | zero => exact absurd HA.out (by simp [impl_Plan_exponents.l1])
     | succ k2 =>
      have H := HA.out
      clear HA
      simp only [impl_Plan_exponents.l1] at H
      by_cases c19 : x37_2 < (l0_1.length : Int)
      ·rw [if_pos c19] at H
       have c19b0 : decide (x37_2 < (l0_1.length : Int)) = true := decide_eq_true c19
       clear c19
       by_cases c20 : 0 ≤ x37_2
       ·rw [if_pos c20] at H
        have c20b0 : decide (0 ≤ x37_2) = true := decide_eq_true c20
        clear c20
        by_cases c21 : x37_2 < (l0_1.length : Int)
        ·rw [if_pos c21] at H
         have c21b0 : decide (x37_2 < (l0_1.length : Int)) = true := decide_eq_true c21
         clear c21
         obtain ⟨y252, hy252⟩ : ∃ y_ : List Int, y_ = (([] : List Int)) := ⟨_, rfl⟩
         replace H : (if 0 ≤ ((za9 l0_1 x37_2).f0) then (if ((za9 l0_1 x37_2).f0) < (x3_2.length : Int) then (impl_Plan_exponents.l2 k2 x3_2 y252 l0_1 (l0_1.length : Int) x37_2 (rd_L3 x3_2 ((za9 l0_1 x37_2).f0)) ((rd_L3 x3_2 ((za9 l0_1 x37_2).f0)).length : Int) 0 ((za9 l0_1 x37_2).f0) ((za9 l0_1 x37_2).f1)) else (none)) else (none)) = some r := by first | (rw [hy252]; with_reducible exact H) | (have H2_ := (Option.bind_some _ _).symm.trans H; rw [hy252]; with_reducible exact H2_) | (have H2_ := (Option.bind_some _ _).symm.trans H; with_reducible exact H2_) | with_reducible exact H | (rw [hy252]; exact H) | exact H
         have Ny252 := Aside0.mk hy252
         clear hy252
         by_cases c22 : 0 ≤ ((za9 l0_1 x37_2).f0)
         ·rw [if_pos c22] at H
          have c22b0 : decide (0 ≤ ((za9 l0_1 x37_2).f0)) = true := decide_eq_true c22
          clear c22
          by_cases c23 : ((za9 l0_1 x37_2).f0) < (x3_2.length : Int)
          ·rw [if_pos c23] at H
           have c23b0 : decide (((za9 l0_1 x37_2).f0) < (x3_2.length : Int)) = true := decide_eq_true c23
           clear c23
           have H' := Aside0.mk H
           clear H
           have p250 : 0 ≤ (x37_2 : Int) := of_decide_eq_true (by first | (with_reducible assumption) | assumption)
           have q250 : x37_2 < (l0_1.length : Int) := of_decide_eq_true (by first | (with_reducible assumption) | assumption)
           obtain ⟨ad250, e250, hx250_0, hx250_1⟩ := at_T117 HR0_1.out x37_2 p250 q250
           cases e250
           replace hx250_0 := (HB.out.cell (World.block_lt_of_cell? w _ hx250_0)).trans hx250_0
           replace hx250_1 := (HB.out.cell (World.block_lt_of_cell? w _ hx250_1)).trans hx250_1
           replace p250 := eq_true p250
           replace q250 := eq_true q250
           go_wp2_with (first | ((with_reducible refine zaf (N := 7) rfl ?_); refine zad ?hg (N := 7) ?hd (cs := #[.int .i64 0, .int .i64 0]) (t := 117) ?hr ?_; (case hd => rfl); (case hg => rfl); (case hr => first | (go_simp; done) | (go_simp; rfl)); intro gb251 hg w24 hbox hb; have n0_ := Aside0.mk (Kd.S_below (by (with_reducible repeat (first | apply Kd.zb3 | apply Kd.zb4 | apply Kd.zb9)); exact HO_3.out) hb); have n1_ := Aside0.mk (za7 (g := g0) (o := .cells #[.int .i64 a0_0, .slice (some ad250) l0_1.length c0_1, .slice A0_2 l0_2.length c0_2] 36 (0, 0)) (by (with_reducible repeat (first | refine za3 ?_ _ | refine za4 ?_ | refine za2 ?_ _)); exact BK0.out) hb); have n2_ := Aside0.mk (za8 bw_ hb); have n3_ := Aside0.mk (hbox); have n4_ := Aside0.mk ((by rw [hg]; exact (za6 bw_) : w.heap.size ≤ gb251)); have n5_ := Aside0.mk ((by rw [hg]; exact (za6 bw_) : w.heap.size ≤ gb251)); have n6_ := Aside0.mk ((by rw [hg]; exact Nat.ne_of_lt (zan (g := g0) (o := .cells #[.int .i64 a0_0, .slice (some ad250) l0_1.length c0_1, .slice A0_2 l0_2.length c0_2] 36 (0, 0)) (by (with_reducible repeat (first | refine za3 ?_ _ | refine za4 ?_ | refine za2 ?_ _)); exact BK0.out)) : g0 ≠ gb251)); have n7_ := Aside0.mk ((by rw [hg]; exact Nat.ne_of_gt (zan (g := g0) (o := .cells #[.int .i64 a0_0, .slice (some ad250) l0_1.length c0_1, .slice A0_2 l0_2.length c0_2] 36 (0, 0)) (by (with_reducible repeat (first | refine za3 ?_ _ | refine za4 ?_ | refine za2 ?_ _)); exact BK0.out)) : gb251 ≠ g0)); clear HO_3; clear BK0; clear HB; have HO_3 := n0_; have BK0 := n1_; have HB := n2_; have BK251 := n3_; have GW251 := n4_; have GE251 := n5_; have NB0_251 := n6_; have NB251_0 := n7_; clear n0_ n1_ n2_ n3_ n4_ n5_ n6_ n7_; clear hb hbox hg; have hnb25 := NB251_0.out; have hnc25 := NB0_251.out; have hcz26_0 : w24.cell? ⟨gb251, 0, none⟩ = some (.int .i64 0) := (za1 BK251.out 0).trans rfl; have hcz26_1 : w24.cell? ⟨gb251, 1, none⟩ = some (.int .i64 0) := (za1 BK251.out 1).trans rfl; have hfz26_0 := za0 BK251.out 0; have hfz26_1 := za0 BK251.out 1) | ((with_reducible refine zaf (N := 41) rfl ?_); refine Kd.R_lit (Kd.int .i64) _ 3 ?hg (N := 41) ?hd (xs := ([] : List Int)) (inner := []) (ok := fun _ => True) (okp := fun _ => True) ?hr ?hp (fun _ hk => hk) trivial (Below.refl _ _) (Nat.le_refl _) (by simp) ?_; (case hd => rfl); (case hg => rfl); (case hr => first | (go_simp; done) | (go_simp; rfl)); (case hp => exact (Reps.none _ _)); intro v253 w27 ho28 hb hg_ hnew_; clear hg_ hnew_; (first | rw [← Ny252.out] at ho28 | (simp only [Int.reduceToNat] at ho28; rw [← Ny252.out] at ho28)); have n0_ := Aside0.mk (Kd.S_elder' (by (with_reducible repeat (first | apply Kd.zb3 | apply Kd.zb4 | apply Kd.zb9)); exact (Kd.S_mono (Kd.S_far (p := ⟨gb251, 1, none⟩) (Kd.S_far (p := ⟨gb251, 0, none⟩) (Kd.S_types HO_3.out BK251.out (by decide)) (fun _ hk => hk.2) (.int .i64 ((za9 l0_1 x37_2).f0))) (fun _ hk => hk.2) (.int .i64 ((za9 l0_1 x37_2).f1))) (fun _ h_ => h_.1))) (Kd.R_base ho28) hb); have n1_ := Aside0.mk (Kd.R_lower ho28 (za6 bw_)); have n2_ := Aside0.mk (za7 (g := g0) (o := .cells #[.int .i64 a0_0, .slice (some ad250) l0_1.length c0_1, .slice A0_2 l0_2.length c0_2] 36 (0, 0)) (by (with_reducible repeat (first | refine za3 ?_ _ | refine za4 ?_ | refine za2 ?_ _)); refine zb2 ?_ NB0_251.out _; (with_reducible repeat (first | refine za3 ?_ _ | refine za4 ?_ | refine za2 ?_ _)); refine zb2 ?_ NB0_251.out _; (with_reducible repeat (first | refine za3 ?_ _ | refine za4 ?_ | refine za2 ?_ _)); exact BK0.out) hb); have n3_ := Aside0.mk (za7 (g := gb251) (o := .cells #[.int .i64 ((za9 l0_1 x37_2).f0), .int .i64 ((za9 l0_1 x37_2).f1)] 117 (0, 0)) (by (with_reducible repeat (first | refine za3 ?_ _ | refine za4 ?_ | refine za2 ?_ _)); refine zao (cs := #[.int .i64 ((za9 l0_1 x37_2).f0), .int .i64 0]) ?_ 1 _ rfl; (with_reducible repeat (first | refine za3 ?_ _ | refine za4 ?_ | refine za2 ?_ _)); refine zao (cs := #[.int .i64 0, .int .i64 0]) ?_ 0 _ rfl; (with_reducible repeat (first | refine za3 ?_ _ | refine za4 ?_ | refine za2 ?_ _)); exact BK251.out) hb); have n4_ := Aside0.mk (za8 bw_ hb); clear HO_3; clear BK0; clear BK251; clear HB; have HO_3 := n0_; have HO254 := n1_; have BK0 := n2_; have BK251 := n3_; have HB := n4_; clear n0_ n1_ n2_ n3_ n4_; clear hb ho28; have hcz29_0 : w27.cell? ⟨gb251, 0, none⟩ = some (.int .i64 ((za9 l0_1 x37_2).f0)) := (za1 BK251.out 0).trans rfl; have hcz29_1 : w27.cell? ⟨gb251, 1, none⟩ = some (.int .i64 ((za9 l0_1 x37_2).f1)) := (za1 BK251.out 1).trans rfl; have hfz29_0 := za0 BK251.out 0; have hfz29_1 := za0 BK251.out 1; obtain ⟨Ao30, co30, eo30⟩ := Kd.S_slice HO_3.out; subst eo30; have p255 : 0 ≤ (((za9 l0_1 x37_2).f0) : Int) := of_decide_eq_true (by first | (with_reducible assumption) | assumption); have q255 : ((za9 l0_1 x37_2).f0) < (x3_2.length : Int) := of_decide_eq_true (by first | (with_reducible assumption) | assumption); obtain ⟨ad255, A255_0, c255_0, e255, hx255_0, hl255_0, hi255_0⟩ := at_L3 (Kd.S_reads' HO_3.out).2.2 ((za9 l0_1 x37_2).f0) p255 q255; cases e255; obtain ⟨ce255, hce255, hMe255, hcc255⟩ := Kd.S_get HO_3.out [] ((za9 l0_1 x37_2).f0) p255 (by first | exact q255 | exact of_decide_eq_true (by first | (with_reducible assumption) | assumption) | (have e_ := (Kd.S_reads' HO_3.out).1; omega)); obtain ⟨ve255_0, rfl, ge255_0⟩ := hMe255; have hv255_0 := hcc255 0 _ rfl; rw [Nat.add_zero, show ((Kd.slice 3 (Kd.int .i64))).sz = 1 from rfl, Nat.mul_one] at hv255_0; replace hv255_0 := Option.some.inj (hv255_0.symm.trans hx255_0); rw [hv255_0] at ge255_0; have HL255_0 := Aside0.mk (show Kd.R (Kd.int .i64) 3 _ _ _ _ (rd_L3 x3_2 ((za9 l0_1 x37_2).f0)) from ge255_0); clear hv255_0 ge255_0; clear hcc255 hce255; have HR255_0 := Aside0.mk hi255_0; have HC255_0 := Aside0.mk hl255_0; clear hi255_0 hl255_0; replace p255 := eq_true p255; replace q255 := eq_true q255))
           go_loopg [8, 48] k2 (fun kq v8 v48 w' => ∃ (x8_3 : List Int) (x48_3 : Int), v48 = .int .i64 x48_3 ∧ Aside0 (impl_Plan_exponents.l2 kq x3_2 x8_3 l0_1 (l0_1.length : Int) x37_2 (rd_L3 x3_2 ((za9 l0_1 x37_2).f0)) ((rd_L3 x3_2 ((za9 l0_1 x37_2).f0)).length : Int) x48_3 ((za9 l0_1 x37_2).f0) ((za9 l0_1 x37_2).f1) = some r) ∧ Aside0 (kq ≤ k2) ∧ Aside0 (Kd.S (Kd.slice 3 (Kd.int .i64)) 22 w' w.heap.size (fun k_ => some k_ ≠ (v8 : Value).ownBlock) (.slice (some ad255) x3_2.length co30) x3_2) ∧ Aside0 (Kd.R (Kd.int .i64) 3 w' w.heap.size (fun _ => True) v8 x8_3) ∧ Aside0 (w'.heap[g0]? = some (.cells #[.int .i64 a0_0, (.slice (some ad250) l0_1.length c0_1), (.slice A0_2 l0_2.length c0_2)] 36 (0, 0))) ∧ Aside0 (w'.heap[gb251]? = some (.cells #[.int .i64 ((za9 l0_1 x37_2).f0), .int .i64 ((za9 l0_1 x37_2).f1)] 117 (0, 0))) ∧ Aside0 (Below w.heap.size w w') ∧ Aside0 (Kd.R (Kd.int .i64) 3 w' w.heap.size (fun k_ => some k_ ≠ (v8 : Value).ownBlock) (.slice A255_0 (rd_L3 x3_2 ((za9 l0_1 x37_2).f0)).length c255_0) (rd_L3 x3_2 ((za9 l0_1 x37_2).f0))))
           case atStart => exact ⟨(y252), (0), (by first | rfl | (simp; done) | (simp [*]; done)), H', ⟨Nat.le_refl _⟩, ⟨by (with_reducible repeat (first | apply Kd.zb3 | apply Kd.zb4 | apply Kd.zb9)); exact Kd.S_mono HO_3.out (fun _ hk => hk.2)⟩, ⟨by (with_reducible repeat (first | apply Kd.zaj | apply Kd.zak | apply Kd.zam)); exact HO254.out⟩, ⟨by (with_reducible repeat (first | refine za3 ?_ _ | refine za4 ?_ | refine za2 ?_ _)); exact BK0.out⟩, ⟨by (with_reducible repeat (first | refine za3 ?_ _ | refine za4 ?_ | refine za2 ?_ _)); exact BK251.out⟩, ⟨bw_⟩, ⟨by (with_reducible repeat (first | apply Kd.zaj | apply Kd.zak | apply Kd.zam)); exact Kd.zar HL255_0.out (fun _ hk => hk.1.2)⟩⟩
           case round =>
            clear H'
            try clear c1
            try clear p1
            try clear q1
            try clear hx1
            try clear hf1
            try clear c2
            try clear p2
            try clear q2
            try clear hx2
            try clear c5
            try clear c5b0
            try clear c6
            try clear c6b0
            try clear c6b1
            try clear p6
            try clear c7
            try clear c7b0
            try clear c7b1
            try clear c8
            try clear c8b0
            try clear c9
            try clear c9b0
            try clear p10
            try clear q10
            try clear hx10
            try clear hf10
            try clear c11
            try clear c14
            try clear c19
            try clear c19b0
            try clear c20
            try clear c20b0
            try clear c21
            try clear c21b0
            try clear c22
            try clear c22b0
            try clear c23
            try clear c23b0
            try clear c25
            try clear p25
            try clear q25
            try clear hx25
            try clear hcz12_0
            try clear hcz12_1
            try clear hcz12_2
            try clear hcz18_0
            try clear hcz18_1
            try clear hcz18_2
            try clear hcz26_0
            try clear hcz26_1
            try clear hcz29_0
            try clear hcz29_1
            try clear hcz4_0
            try clear hcz4_1
            try clear hcz4_2
            try clear hfz12_0
            try clear hfz12_1
            try clear hfz12_2
            try clear hfz18_0
            try clear hfz18_1
            try clear hfz18_2
            try clear hfz26_0
            try clear hfz26_1
            try clear hfz29_0
            try clear hfz29_1
            try clear hfz4_0
            try clear hfz4_1
            try clear hfz4_2
            try clear hx10_0
            try clear hx250_0
            try clear hx250_1
            try clear hx255_0
            try clear p1
            try clear p10
            try clear p2
            try clear p250
            try clear p255
            try clear p6
            try clear q1
            try clear q10
            try clear q250
            try clear q255
            obtain ⟨x8_3, x48_3, rfl, HA, HK3, HO_3, HO_8, BK0, BK251, HB, HX255⟩ := hrel
            cases gk with
            | zero => exact absurd HA.out (by simp [impl_Plan_exponents.l2])
            | succ k3 =>
             have H := HA.out
             clear HA
             simp only [impl_Plan_exponents.l2] at H
             by_cases c31 : x48_3 < ((rd_L3 x3_2 ((za9 l0_1 x37_2).f0)).length : Int)
             ·rw [if_pos c31] at H
              have c31b0 : decide (x48_3 < ((rd_L3 x3_2 ((za9 l0_1 x37_2).f0)).length : Int)) = true := decide_eq_true c31
              clear c31
              by_cases c32 : 0 ≤ x48_3
              ·rw [if_pos c32] at H
               have c32b0 : decide (0 ≤ x48_3) = true := decide_eq_true c32
               clear c32
               by_cases c33 : x48_3 < ((rd_L3 x3_2 ((za9 l0_1 x37_2).f0)).length : Int)
               ·rw [if_pos c33] at H
                have c33b0 : decide (x48_3 < ((rd_L3 x3_2 ((za9 l0_1 x37_2).f0)).length : Int)) = true := decide_eq_true c33
                clear c33
                by_cases c34 : 0 ≤ ((za9 l0_1 x37_2).f1)
                ·rw [if_pos c34] at H
                 have c34b0 : decide (0 ≤ ((za9 l0_1 x37_2).f1)) = true := decide_eq_true c34
                 clear c34
                 by_cases c35 : ((za9 l0_1 x37_2).f1) < (x3_2.length : Int)
                 ·rw [if_pos c35] at H
                  have c35b0 : decide (((za9 l0_1 x37_2).f1) < (x3_2.length : Int)) = true := decide_eq_true c35
                  clear c35
                  by_cases c36 : x48_3 < ((rd_L3 x3_2 ((za9 l0_1 x37_2).f1)).length : Int)
                  ·rw [if_pos c36] at H
                   have c36b0 : decide (x48_3 < ((rd_L3 x3_2 ((za9 l0_1 x37_2).f1)).length : Int)) = true := decide_eq_true c36
                   clear c36
                   obtain ⟨ji37, hji37⟩ : ∃ j_ : Int, (mn (wrap64 ((rd (rd_L3 x3_2 ((za9 l0_1 x37_2).f0)) x48_3) + (rd (rd_L3 x3_2 ((za9 l0_1 x37_2).f1)) x48_3))) 1000001) = j_ := ⟨_, rfl⟩
                   replace H : (if x8_3.length < 17592186044416 then (impl_Plan_exponents.l2 k3 x3_2 (x8_3 ++ [ji37]) l0_1 (l0_1.length : Int) x37_2 (rd_L3 x3_2 ((za9 l0_1 x37_2).f0)) ((rd_L3 x3_2 ((za9 l0_1 x37_2).f0)).length : Int) (wrap64 (x48_3 + 1)) ((za9 l0_1 x37_2).f0) ((za9 l0_1 x37_2).f1)) else (none)) = some r := by first | (rw [hji37] at H; exact H) | (simp only [hji37] at H ⊢; exact H)
                   have hji37_ : (if 1000001 < (wrap64 ((rd (rd_L3 x3_2 ((za9 l0_1 x37_2).f0)) x48_3) + (rd (rd_L3 x3_2 ((za9 l0_1 x37_2).f1)) x48_3))) then 1000001 else (wrap64 ((rd (rd_L3 x3_2 ((za9 l0_1 x37_2).f0)) x48_3) + (rd (rd_L3 x3_2 ((za9 l0_1 x37_2).f1)) x48_3)))) = ji37 := hji37
                   by_cases c38 : x8_3.length < 17592186044416
                   ·rw [if_pos c38] at H
                    have LMc38 := Aside0.mk c38
                    clear c38
                    obtain ⟨y259, hy259⟩ : ∃ y_ : List Int, y_ = (x8_3 ++ [ji37]) := ⟨_, rfl⟩
                    replace H : (impl_Plan_exponents.l2 k3 x3_2 y259 l0_1 (l0_1.length : Int) x37_2 (rd_L3 x3_2 ((za9 l0_1 x37_2).f0)) ((rd_L3 x3_2 ((za9 l0_1 x37_2).f0)).length : Int) (wrap64 (x48_3 + 1)) ((za9 l0_1 x37_2).f0) ((za9 l0_1 x37_2).f1)) = some r := by first | (rw [hy259]; with_reducible exact H) | (have H2_ := (Option.bind_some _ _).symm.trans H; rw [hy259]; with_reducible exact H2_) | (have H2_ := (Option.bind_some _ _).symm.trans H; with_reducible exact H2_) | with_reducible exact H | (rw [hy259]; exact H) | exact H
                    have Ny259 := Aside0.mk hy259
                    clear hy259
                    have H' := Aside0.mk H
                    clear H
                    have p256 : 0 ≤ (x48_3 : Int) := of_decide_eq_true (by first | (with_reducible assumption) | assumption)
                    have q256 : x48_3 < ((rd_L3 x3_2 ((za9 l0_1 x37_2).f0)).length : Int) := of_decide_eq_true (by first | (with_reducible assumption) | assumption)
                    obtain ⟨ad256, e256, hx256_0⟩ := Kd.at_int (Kd.R_reads' HX255.out).2.2 x48_3 p256 q256
                    cases e256
                    skip
                    replace p256 := eq_true p256
                    replace q256 := eq_true q256
                    have hnb39 := NB251_0.out
                    have hnc39 := NB0_251.out
                    have hcz40_0 : wr.cell? ⟨gb251, 0, none⟩ = some (.int .i64 ((za9 l0_1 x37_2).f0)) := (za1 BK251.out 0).trans rfl
                    have hcz40_1 : wr.cell? ⟨gb251, 1, none⟩ = some (.int .i64 ((za9 l0_1 x37_2).f1)) := (za1 BK251.out 1).trans rfl
                    have hfz40_0 := za0 BK251.out 0
                    have hfz40_1 := za0 BK251.out 1
                    have p257 : 0 ≤ (((za9 l0_1 x37_2).f1) : Int) := of_decide_eq_true (by first | (with_reducible assumption) | assumption)
                    have q257 : ((za9 l0_1 x37_2).f1) < (x3_2.length : Int) := of_decide_eq_true (by first | (with_reducible assumption) | assumption)
                    obtain ⟨ad257, A257_0, c257_0, e257, hx257_0, hl257_0, hi257_0⟩ := at_L3 (Kd.S_reads' HO_3.out).2.2 ((za9 l0_1 x37_2).f1) p257 q257
                    obtain rfl : ad255 = ad257 := (by injection e257)
                    obtain ⟨ce257, hce257, hMe257, hcc257⟩ := Kd.S_get HO_3.out [] ((za9 l0_1 x37_2).f1) p257 (by first | exact q257 | exact of_decide_eq_true (by first | (with_reducible assumption) | assumption) | (have e_ := (Kd.S_reads' HO_3.out).1; omega))
                    obtain ⟨ve257_0, rfl, ge257_0⟩ := hMe257
                    have hv257_0 := hcc257 0 _ rfl
                    rw [Nat.add_zero, show ((Kd.slice 3 (Kd.int .i64))).sz = 1 from rfl, Nat.mul_one] at hv257_0
                    replace hv257_0 := Option.some.inj (hv257_0.symm.trans hx257_0)
                    rw [hv257_0] at ge257_0
                    have HL257_0 := Aside0.mk (show Kd.R (Kd.int .i64) 3 _ _ _ _ (rd_L3 x3_2 ((za9 l0_1 x37_2).f1)) from ge257_0)
                    clear hv257_0 ge257_0
                    clear hcc257 hce257
                    have HR257_0 := Aside0.mk hi257_0
                    have HC257_0 := Aside0.mk hl257_0
                    clear hi257_0 hl257_0
                    replace p257 := eq_true p257
                    replace q257 := eq_true q257
                    have p258 : 0 ≤ (x48_3 : Int) := of_decide_eq_true (by first | (with_reducible assumption) | assumption)
                    have q258 : x48_3 < ((rd_L3 x3_2 ((za9 l0_1 x37_2).f1)).length : Int) := of_decide_eq_true (by first | (with_reducible assumption) | assumption)
                    obtain ⟨ad258, e258, hx258_0⟩ := Kd.at_int (by repeat (first | (with_reducible exact HR257_0.out) | (with_reducible refine Kd.zb1 ?_ _) | (with_reducible refine Kd.zax ?_ _) | (with_reducible refine Kd.zb7 ?_) | exact HR257_0.out)) x48_3 p258 q258
                    cases e258
                    replace p258 := eq_true p258
                    replace q258 := eq_true q258
                    go_wp2_with (first | ((with_reducible refine gate_builtin (b := .append) (xs := #[.tmp 53, .tmp 65]) rfl ?_); at_builtin; refine Kd.R_append (Kd.int .i64) (w0 := w) w.heap.size rfl (.tmp 53) (.tmp 65) 22 3 (.int .i64 0) 8 rfl Try.underlying22 info3 rfl (by decide) (by omega) u8 x8_3 ji37 [.int .i64 ji37] (fun _ => True) (fun _ => False) rfl rfl ?aP (fun _ hk => hk.elim) ?aF ?aO ?aB ?aS ?aL ?_; (case aP => exact rfl); (case aB => exact bw_); (case aF => exact (fun _ _ => trivial)); (case aO => exact (by (with_reducible repeat (first | apply Kd.zaj | apply Kd.zak | apply Kd.zam)); exact HO_8.out)); (case aS => exact (za6 bw_)); (case aL => have := LMc38.out; omega); intro v260 w41 ho hb hg hat; rw [← Ny259.out] at ho; have n0_ := Aside0.mk (Kd.S_after (ok := (fun _ => True)) (by (with_reducible repeat (first | apply Kd.zb3 | apply Kd.zb4 | apply Kd.zb9)); exact Kd.S_mono HO_3.out (fun _ hk => ⟨trivial, hk⟩)) hg hat); have n1_ := Aside0.mk (blk_grown (g := g0) (o := .cells #[.int .i64 a0_0, .slice (some ad250) l0_1.length c0_1, .slice A0_2 l0_2.length c0_2] 36 (0, 0)) (by (with_reducible repeat (first | refine za3 ?_ _ | refine za4 ?_ | refine za2 ?_ _)); exact BK0.out) hg (Kd.R_ne HO_8.out BK0.out (by decide))); have n2_ := Aside0.mk (blk_grown (g := gb251) (o := .cells #[.int .i64 ((za9 l0_1 x37_2).f0), .int .i64 ((za9 l0_1 x37_2).f1)] 117 (0, 0)) (by (with_reducible repeat (first | refine za3 ?_ _ | refine za4 ?_ | refine za2 ?_ _)); exact BK251.out) hg (Kd.R_ne HO_8.out BK251.out (by decide))); have n3_ := Aside0.mk (Kd.R_after (ok := (fun k_ => some k_ ≠ (.slice (some ad255) x3_2.length co30 : Value).ownBlock)) (by (with_reducible repeat (first | apply Kd.zaj | apply Kd.zak | apply Kd.zam)); exact Kd.zar HL257_0.out (fun _ hk => ⟨hk.2, hk.1⟩)) hg hat); have n4_ := Aside0.mk (hb); have n5_ := Aside0.mk (ho); have n9_ := Aside0.mk (Kd.R_after (ok := (fun _ => True)) (by (with_reducible repeat (first | apply Kd.zaj | apply Kd.zak | apply Kd.zam)); exact Kd.zar HX255.out (fun _ hk => ⟨trivial, hk⟩)) hg hat); clear HX255; have HX255 := n9_; clear n9_; clear HO_3; clear BK0; clear BK251; clear HL257_0; clear HB; clear HO_8; have HO_3 := n0_; have BK0 := n1_; have BK251 := n2_; have HL257_0 := n3_; have HB := n4_; have HO261 := n5_; clear n0_ n1_ n2_ n3_ n4_ n5_; clear ho hb hg hat))
                    go_roundg k3
                    case measure => have := HK1.out; have := HK2.out; have := HK3.out; omega
                    case rel => exact ⟨(y259), (wrap64 (x48_3 + 1)), (by first | rfl | (simp; done) | (simp [*]; done)), H', ⟨by have := HK1.out; have := HK2.out; have := HK3.out; omega⟩, ⟨by (with_reducible repeat (first | apply Kd.zb3 | apply Kd.zb4 | apply Kd.zb9)); exact Kd.S_mono HO_3.out (fun _ hk => hk.2)⟩, ⟨by (with_reducible repeat (first | apply Kd.zaj | apply Kd.zak | apply Kd.zam)); exact HO261.out⟩, ⟨by (with_reducible repeat (first | refine za3 ?_ _ | refine za4 ?_ | refine za2 ?_ _)); exact BK0.out⟩, ⟨by (with_reducible repeat (first | refine za3 ?_ _ | refine za4 ?_ | refine za2 ?_ _)); exact BK251.out⟩, ⟨bw_⟩, ⟨by (with_reducible repeat (first | apply Kd.zaj | apply Kd.zak | apply Kd.zam)); exact Kd.zar HX255.out (fun _ hk => hk.2)⟩⟩
                   ·rw [if_neg c38] at H
                    exact absurd H (by simp)
                  ·rw [if_neg c36] at H
                   exact absurd H (by simp)
                 ·rw [if_neg c35] at H
                  exact absurd H (by simp)
                ·rw [if_neg c34] at H
                 exact absurd H (by simp)
               ·rw [if_neg c33] at H
                exact absurd H (by simp)
              ·rw [if_neg c32] at H
               exact absurd H (by simp)
             ·rw [if_neg c31] at H
              have c31b0 : decide (x48_3 < ((rd_L3 x3_2 ((za9 l0_1 x37_2).f0)).length : Int)) = false := decide_eq_false c31
              clear c31
              by_cases c42 : x3_2.length < 5864062014805
              ·rw [if_pos c42] at H
               have LMc42 := Aside0.mk c42
               clear c42
               obtain ⟨y262, hy262⟩ : ∃ y_ : List (List Int), y_ = (x3_2 ++ [x8_3]) := ⟨_, rfl⟩
               replace H : (impl_Plan_exponents.l1 k3 y262 l0_1 (l0_1.length : Int) (wrap64 (x37_2 + 1))) = some r := by first | (rw [hy262]; with_reducible exact H) | (have H2_ := (Option.bind_some _ _).symm.trans H; rw [hy262]; with_reducible exact H2_) | (have H2_ := (Option.bind_some _ _).symm.trans H; with_reducible exact H2_) | with_reducible exact H | (rw [hy262]; exact H) | exact H
               have Ny262 := Aside0.mk hy262
               clear hy262
               have H' := Aside0.mk H
               clear H
               obtain ⟨Ao44, co44, eo44⟩ := Kd.zat HO_8.out
               subst eo44
               go_wp2_with (first | ((with_reducible refine gate_builtin (b := .append) (xs := #[.tmp 68, .tmp 70]) rfl ?_); at_builtin; refine Kd.S_append (Kd.slice 3 (Kd.int .i64)) (w0 := w) w.heap.size rfl (.tmp 68) (.tmp 70) 109 22 (.slice none 0 0) 24 rfl Try.underlying109 info22 rfl (by decide) (by omega) (.slice (some ad255) x3_2.length co30) x3_2 x8_3 [.slice Ao44 x8_3.length co44] (fun _ => True) (fun k_ => some k_ = (.slice Ao44 x8_3.length co44 : Value).ownBlock) rfl rfl ?aP (fun k_ hk_ => ((Kd.zar (ok' := fun k_ => ((fun _ => True)) k_ ∧ some k_ ≠ (.slice (some ad255) x3_2.length co30 : Value).ownBlock) (Kd.R_apart' (HO_8.out) (Kd.S_typed HO_3.out) (by decide)) (fun k_ hk => ⟨trivial, hk.2⟩))).1 k_ hk_.symm) ?aF ?aO ?aB ?aS ?aL ?_; (case aP => exact Kd.M_row (Kd.zar (Kd.R_tight rfl (Kd.zar (ok' := fun k_ => ((fun _ => True)) k_ ∧ some k_ ≠ (.slice (some ad255) x3_2.length co30 : Value).ownBlock) (Kd.R_apart' (HO_8.out) (Kd.S_typed HO_3.out) (by decide)) (fun k_ hk => ⟨trivial, hk.2⟩))) (fun _ h_ => h_))); (case aB => exact bw_); (case aF => exact (fun _ _ => trivial)); (case aO => exact (by (with_reducible repeat (first | apply Kd.zb3 | apply Kd.zb4 | apply Kd.zb9)); exact Kd.S_mono HO_3.out (fun k_ hk => ⟨trivial, fun e_ => hk e_⟩))); (case aS => exact (za6 bw_)); (case aL => have := LMc42.out; omega); intro v263 w43 ho hb hg hat; rw [← Ny262.out] at ho; have n0_ := Aside0.mk (blk_grown (g := g0) (o := .cells #[.int .i64 a0_0, .slice (some ad250) l0_1.length c0_1, .slice A0_2 l0_2.length c0_2] 36 (0, 0)) (by (with_reducible repeat (first | refine za3 ?_ _ | refine za4 ?_ | refine za2 ?_ _)); exact BK0.out) hg (Kd.S_ne HO_3.out BK0.out (by decide))); have n1_ := Aside0.mk (blk_grown (g := gb251) (o := .cells #[.int .i64 ((za9 l0_1 x37_2).f0), .int .i64 ((za9 l0_1 x37_2).f1)] 117 (0, 0)) (by (with_reducible repeat (first | refine za3 ?_ _ | refine za4 ?_ | refine za2 ?_ _)); exact BK251.out) hg (Kd.S_ne HO_3.out BK251.out (by decide))); have n2_ := Aside0.mk (hb); have n3_ := Aside0.mk (ho); clear BK0; clear BK251; clear HB; clear HO_3; clear HO_8; have BK0 := n0_; have BK251 := n1_; have HB := n2_; have HO264 := n3_; clear n0_ n1_ n2_ n3_; clear ho hb hg hat))
               go_roundg k3
               case measure => have := HK1.out; have := HK2.out; have := HK3.out; omega
               case rel => exact ⟨(y262), (wrap64 (x37_2 + 1)), (by first | rfl | (simp; done) | (simp [*]; done)), H', ⟨by have := HK1.out; have := HK2.out; have := HK3.out; omega⟩, ⟨by (with_reducible repeat (first | apply Kd.zb3 | apply Kd.zb4 | apply Kd.zb9)); exact HO264.out⟩, ⟨by (with_reducible repeat (first | refine za3 ?_ _ | refine za4 ?_ | refine za2 ?_ _)); exact BK0.out⟩, ⟨bw_⟩⟩
              ·rw [if_neg c42] at H
               exact absurd H (by simp)
          ·rw [if_neg c23] at H
           exact absurd H (by simp)
         ·rw [if_neg c22] at H
          exact absurd H (by simp)
        ·rw [if_neg c21] at H
         exact absurd H (by simp)
       ·rw [if_neg c20] at H
        exact absurd H (by simp)
      ·rw [if_neg c19] at H
       have c19b0 : decide (x37_2 < (l0_1.length : Int)) = false := decide_eq_false c19
       clear c19
       obtain rfl := Option.some.inj H
       go_wp2
       go_ret
       exact ⟨_, by first | rfl | (simp [zab, zaa] <;> rfl) | (simp [*, zab, zaa] <;> rfl), by (with_reducible repeat (first | apply Kd.zb3 | apply Kd.zb4 | apply Kd.zb9)); exact HO_3.out, bw_⟩

/-! ### slices_Max_int_int: function 89 -/
def maxFrom (l : List Int) : Nat → Nat → Int → Int
 | 0, _, m => m
 | d + 1, j, m => maxFrom l d (j + 1) (if m < rd l (j : Int) then rd l (j : Int) else m)
def slices_Max_int_int.f (l0 : List Int) : Option Int := if l0 = [] then none else some (maxFrom l0 (l0.length - 1) 1 (rd l0 0))
set_option maxHeartbeats 1000000 in
theorem slices_Max_int_int.calls (A0 : Option Addr) (c0 : Nat) (l0 : List Int) (r : Int) (w : World) (hr0 : Kd.C (Kd.int .i64) w A0 l0.length l0) (hc0 : l0.length ≤ c0) (h : slices_Max_int_int.f l0 = some r) :
  Calls Try.prog 89 #[.slice A0 l0.length c0] w fun e w' => e = .returned (.int .i64 r) ∧ Drawn0 w w' := by
 unfold slices_Max_int_int.f at h
 by_cases hn : l0 = []
 ·rw [if_pos hn] at h
  cases h
 rw [if_neg hn] at h
 obtain rfl := Option.some.inj h
 have hpos : 0 < l0.length := List.length_pos_iff.2 hn
 have HR0 := Aside0.mk hr0
 have HP := Aside0.mk hpos
 have hm : l0.length ≤ 9223372036854775807 := hr0.2.1
 have HM := Aside0.mk hm
 have c1 : decide ((l0.length : Int) < 1) = false := decide_eq_false (by omega)
 obtain ⟨ad, e1, hx⟩ := Kd.at_int hr0 0 (by omega) (by omega)
 cases e1
 rw [show ((0 : Int)).toNat = 0 from rfl, Addr.add_zero'] at hx
 have q0 : (0 < l0.length) = True := eq_true (by omega)
 have q1 : ((0 : Int) < (l0.length : Int)) = True := eq_true (by omega)
 clear h hn hr0 hpos
 go_enter Try.func89, Try.ntmps89
 go_wp2_with fail
 go_loopg [3, 4] (l0.length - 1) (fun d v3 v4 w' => ∃ (j : Nat) (m : Int), v4 = .int .i64 j ∧ v3 = .int .i64 m ∧ Aside0 (j + d = l0.length) ∧ Aside0 (maxFrom l0 d j m = maxFrom l0 (l0.length - 1) 1 (rd l0 0)) ∧ Aside0 (Drawn0 w w'))
 case atStart => exact ⟨1, _, rfl, rfl, ⟨by have := HP.out; omega⟩, ⟨rfl⟩, ⟨⟨0, rfl⟩⟩⟩
 case round =>
  obtain ⟨j, m, rfl, rfl, HJ, HI, HB⟩ := hrel
  clear hx
  obtain ⟨n0, rfl⟩ := HB.out
  cases gk with
  | zero =>
   have hj := HJ.out
   have c2 : decide (j < l0.length) = false := decide_eq_false (by omega)
   have H2 := HI.out
   simp only [maxFrom] at H2
   have HF := Aside0.mk H2.symm
   clear H2 hj
   go_wp2
   go_ret
   exact ⟨by rw [HF.out]; rfl, HB.out⟩
  | succ d =>
   have hj := HJ.out
   have hlt : j < l0.length := by omega
   have c2 : decide (j < l0.length) = true := decide_eq_true hlt
   obtain ⟨ad2, e1, hx⟩ := Kd.at_int HR0.out (j : Int) (by omega) (by omega)
   cases e1
   rw [Int.toNat_natCast] at hx
   have hw1 : wrap64 ((j : Int) + 1) = (j : Int) + 1 := by unfold wrap64; omega
   have H2 := HI.out
   simp only [maxFrom] at H2
   by_cases cm : m < rd l0 (j : Int)
   ·rw [if_pos cm] at H2
    have HI2 := Aside0.mk H2
    clear H2 hj HI
    go_wp2
    go_roundg d
    case measure => omega
    case rel => exact ⟨j + 1, _, by go_num, rfl, ⟨by have := HJ.out; omega⟩, HI2, HB⟩
   ·rw [if_neg cm] at H2
    have HI2 := Aside0.mk H2
    clear H2 hj HI
    go_wp2
    go_roundg d
    case measure => omega
    case rel => exact ⟨j + 1, _, by go_num, rfl, ⟨by have := HJ.out; omega⟩, HI2, HB⟩

/-! ### impl_IsPlan_1: function 142 -/
/-- no row of a plan's exponents -/
def rowBad (x : List Int) : Bool := decide (1000000 < maxFrom x (x.length - 1) 1 (rd x 0))
theorem isPlan1_calls (A0 : Option Addr) (c0 : Nat) (x : List Int) (w : World) (hn : x ≠ []) (hr0 : Kd.C (Kd.int .i64) w A0 x.length x) (hc0 : x.length ≤ c0) :
  Calls Try.prog 142 #[.slice A0 x.length c0] w fun e w' => e = .returned (.bool (rowBad x)) ∧ Below w.heap.size w w' := by
 have HM := Aside0.mk (slices_Max_int_int.calls A0 c0 x _ w hr0 hc0 (by unfold slices_Max_int_int.f; rw [if_neg hn]))
 have HN := Aside0.mk (show rowBad x = decide (1000000 < maxFrom x (x.length - 1) 1 (rd x 0)) from rfl)
 generalize maxFrom x (x.length - 1) 1 (rd x 0) = m at *
 clear hr0 hc0 hn
 go_enter Try.func142, Try.ntmps142
 go_wp2_with fail
 refine HM.out.mono ?_
 rintro e w' ⟨rfl, ⟨n, rfl⟩⟩
 go_wp2
 go_ret
 exact ⟨by rw [HN.out]; rfl, by repeat (first | exact Below.refl _ _ | apply zay | apply zaq | apply zav)⟩

/-! ### impl_IsPlan: function 75 -/
def impl_IsPlan.f (k : Nat) (a0_0 : Int) (l0_1 : List S117) (l0_2 : List Int) : Option Bool :=
 (impl_Plan_formed.f a0_0 l0_1 l0_2).bind fun b => if b = true then ((impl_Plan_exponents.f k a0_0 l0_1 l0_2).bind fun rows => if rows.all (fun x => !x.isEmpty) = true then some (!(rows.any rowBad)) else none) else some false
theorem impl_IsPlan.mono : ∀ a0 a1 a2 k, LeO (impl_IsPlan.f k a0 a1 a2) (impl_IsPlan.f (k + 1) a0 a1 a2) := by
 intro a0 a1 a2 k
 unfold impl_IsPlan.f
 exact LeO.bind (LeO.refl _) (fun b => LeO.ite (LeO.bind (impl_Plan_exponents.mono _ _ _ _) (fun _ => LeO.refl _)) (LeO.refl _))
set_option maxHeartbeats 2000000 in
set_option maxRecDepth 100000 in
theorem impl_IsPlan.calls (k : Nat) (a0_0 : Int) (A0_1 : Option Addr) (c0_1 : Nat) (l0_1 : List S117) (A0_2 : Option Addr) (c0_2 : Nat) (l0_2 : List Int) (r : Bool) (w : World) (hr0_1 : Kd.C k117 w A0_1 l0_1.length l0_1) (hc0_1 : l0_1.length ≤ c0_1) (hr0_2 : Kd.C (Kd.int .i64) w A0_2 l0_2.length l0_2) (hc0_2 : l0_2.length ≤ c0_2) (h : impl_IsPlan.f k a0_0 l0_1 l0_2 = some r) :
  Calls Try.prog 75 #[.agg #[.int .i64 a0_0, .slice A0_1 l0_1.length c0_1, .slice A0_2 l0_2.length c0_2]] w fun e w' => e = .returned (.bool r) ∧ Below w.heap.size w w' := by
 unfold impl_IsPlan.f at h
 obtain ⟨b, hb, h⟩ := Option.bind_eq_some_iff.1 h
 have HFm := Aside0.mk (fun (g0 : Nat) (w1 : World) (h1 : Below w.heap.size w w1) (hbk : w1.heap[g0]? = some (.cells #[.int .i64 a0_0, .slice A0_1 l0_1.length c0_1, .slice A0_2 l0_2.length c0_2] 36 (0, 0))) => impl_Plan_formed.calls g0 a0_0 A0_1 c0_1 l0_1 A0_2 c0_2 l0_2 b w1 hbk (Kd.zac hr0_1 h1) hc0_1 (Kd.zac hr0_2 h1) hc0_2 hb)
 have HEx := Aside0.mk (fun (rows : List (List Int)) (hrw : impl_Plan_exponents.f k a0_0 l0_1 l0_2 = some rows) (g0 : Nat) (w1 : World) (h1 : Below w.heap.size w w1) (hbk : w1.heap[g0]? = some (.cells #[.int .i64 a0_0, .slice A0_1 l0_1.length c0_1, .slice A0_2 l0_2.length c0_2] 36 (0, 0))) => impl_Plan_exponents.calls k g0 a0_0 A0_1 c0_1 l0_1 A0_2 c0_2 l0_2 rows w1 hbk (Kd.zac hr0_1 h1) hc0_1 (Kd.zac hr0_2 h1) hc0_2 hrw)
 have hu := Try.underlying36
 have H := Aside0.mk h
 clear h hb hr0_1 hr0_2 hc0_1 hc0_2
 go_enter Try.func75, Try.ntmps75
 go_wp2_with (first | ((with_reducible refine zaf (N := 1) rfl ?_); refine zad ?hg (N := 1) ?hd (cs := #[.int .i64 a0_0, .slice A0_1 l0_1.length c0_1, .slice A0_2 l0_2.length c0_2]) (t := 36) ?hr ?_; (case hd => rfl); (case hg => rfl); (case hr => first | (go_simp; done) | (go_simp; rfl)); intro gb hg wb hbox hb; have BK := Aside0.mk hbox; have HB := Aside0.mk hb; clear hg hbox hb) | fail)
 refine (HFm.out gb wb HB.out BK.out).mono ?_
 rintro e w2 ⟨rfl, hb2⟩
 have BK2 := Aside0.mk (za7 BK.out hb2)
 have HB2 := Aside0.mk (HB.out.trans (below_base hb2 HB.out.size))
 clear hb2 HFm BK HB
 cases b with
 | false =>
  have hf := H.out
  simp only [Bool.false_eq_true, if_false, Option.some.injEq] at hf
  subst hf
  clear HEx H
  go_wp2_with fail
  go_ret
  exact ⟨rfl, by repeat (first | (with_reducible first | exact HB2.out | apply zay | apply zaq | apply zav) | exact HB2.out)⟩
 | true =>
  have hf := H.out
  simp only [if_true] at hf
  obtain ⟨rows, hrows, hf⟩ := Option.bind_eq_some_iff.1 hf
  have HX := Aside0.mk (HEx.out rows hrows gb w2 HB2.out BK2.out)
  have hne : ∀ x ∈ rows, x ≠ [] := by
   by_cases ha : rows.all (fun x => !x.isEmpty) = true
   ·intro x hx
    have := List.all_eq_true.1 ha x hx
    intro e
    simp [e] at this
   ·rw [if_neg ha] at hf
    cases hf
  have hv : (!(rows.any rowBad)) = r := by
   by_cases ha : rows.all (fun x => !x.isEmpty) = true
   ·rw [if_pos ha] at hf
    exact Option.some.inj hf
   ·rw [if_neg ha] at hf
    cases hf
  have HNE := Aside0.mk hne
  have HV := Aside0.mk hv
  clear hf hrows hne hv HEx H
  go_wp2_with fail
  refine HX.out.mono ?_
  rintro e w3 ⟨v0, rfl, hS, hb3⟩
  obtain ⟨A3, c3, rfl, hc3, hC3⟩ := Kd.S_reads hS
  have HB3 := Aside0.mk (HB2.out.trans (below_base hb3 HB2.out.size))
  have HCF := Aside0.mk (containsFuncR_calls 142 #[] rowBad (entersAt Try.func142 (by kernel_rfl) rfl) A3 c3 rows w3 hC3 (fun w4 x A c hx hb4 hc hC => (isPlan1_calls A c x w4 (HNE.out x hx) hC hc).mono (fun e w' h => ⟨h.1, below_base h.2 hb4.size⟩)))
  clear hS hb3 hc3 hC3 HX HNE
  go_wp2_with fail
  refine HCF.out.mono ?_
  rintro e w4 ⟨rfl, hb4⟩
  have HB4 := Aside0.mk (HB3.out.trans (below_base hb4 HB3.out.size))
  clear hb4 HCF
  go_wp2
  go_ret
  exact ⟨by rw [← HV.out]; rfl, by repeat (first | (with_reducible first | exact HB4.out | apply zay | apply zaq | apply zav) | exact HB4.out)⟩

/-! ### impl_told: function 92 -/
def impl_told.f (k : Nat) (a0_0 : Int) (l0_1 : List (S117)) (l0_2 : List Int) : Option (Int × (List (S117)) × List Int × Bool) := (impl_IsPlan.f k a0_0 l0_1 l0_2).bind fun t267 => (if t267 = true then (some (a0_0, l0_1, l0_2, true)) else (some (0, ([] : List (S117)), ([] : List Int), false)))
theorem impl_told.mono : ∀ a0 a1 a2 k, LeO (impl_told.f k a0 a1 a2) (impl_told.f (k + 1) a0 a1 a2) := by
 intro a0 a1 a2 k
 unfold impl_told.f
 repeat' first
   | (with_reducible exact impl_IsPlan.mono _ _ _ _)
   | (with_reducible exact LeO.refl _)
   | (with_reducible exact LeO.none _)
   | (with_reducible refine LeO.ite ?_ ?_)
   | (with_reducible refine LeO.bind ?_ (fun _ => ?_))
   | exact impl_IsPlan.mono _ _ _ _
   | exact LeO.none _
   | refine LeO.ite ?_ ?_
   | refine LeO.bind ?_ (fun _ => ?_)
set_option maxHeartbeats 8000000 in
set_option maxRecDepth 100000 in
theorem impl_told.calls (k : Nat) (a0_0 : Int) (P0_1_ : Nat → Prop) (u9000_ : Value) (l0_1 : List (S117)) (P0_2_ : Nat → Prop) (u9001_ : Value) (l0_2 : List Int) (r1 : Int) (r2 : List (S117)) (r3 : List Int) (r4 : Bool) (w0 w : World) (hB : Below w0.heap.size w0 w) (ho0_1 : Kd.R k117 117 w w0.heap.size P0_1_ u9000_ l0_1) (ho0_2 : Kd.R (Kd.int .i64) 3 w w0.heap.size P0_2_ u9001_ l0_2) (h : impl_told.f k a0_0 l0_1 l0_2 = some (r1, r2, r3, r4)) :
  Calls Try.prog 92 #[.agg #[.int .i64 a0_0, u9000_, u9001_]] w fun e w' => ∃ v1_ v2_ : Value, e = .returned (.tuple #[.agg #[.int .i64 r1, v1_, v2_], .bool r4]) ∧ Kd.R k117 117 w' w0.heap.size (fun k_ => ((P0_1_ k_ ∨ P0_2_ k_) ∨ w.heap.size ≤ k_)) v1_ r2 ∧ Kd.R (Kd.int .i64) 3 w' w0.heap.size (fun k_ => ((P0_1_ k_ ∨ P0_2_ k_) ∨ w.heap.size ≤ k_)) v2_ r3 ∧ Below w0.heap.size w0 w' ∧ Kept w w' (fun k_ => P0_1_ k_ ∨ P0_2_ k_) := by
 have hu36 := Try.underlying36
 have HO0_1 := Aside0.mk (show Kd.R k117 117 w w0.heap.size (fun k_ => ((P0_1_ k_ ∨ P0_2_ k_) ∨ w.heap.size ≤ k_)) u9000_ l0_1 from Kd.zar ho0_1 (fun k_ hk => (.inl (.inl hk))))
 have HO0_2 := Aside0.mk (show Kd.R (Kd.int .i64) 3 w w0.heap.size (fun k_ => ((P0_1_ k_ ∨ P0_2_ k_) ∨ w.heap.size ≤ k_)) u9001_ l0_2 from Kd.zar ho0_2 (fun k_ hk => (.inl (.inr hk))))
 have HK := Aside0.mk (Kept.refl w (fun k_ => P0_1_ k_ ∨ P0_2_ k_))
 have HW0 := Aside0.mk hB.size
 have HB := Aside0.mk hB
 clear hB
 have H : ((impl_IsPlan.f k a0_0 l0_1 l0_2).bind fun t267 => (if t267 = true then (some (a0_0, l0_1, l0_2, true)) else (some (0, ([] : List (S117)), ([] : List Int), false)))) = some (r1, r2, r3, r4) := h
 clear h
 replace H := Option.bind_eq_some_iff.mp H
 obtain ⟨t267, A20, H⟩ := H
 replace H : (if t267 = true then (some (a0_0, l0_1, l0_2, true)) else (some (0, ([] : List (S117)), ([] : List Int), false))) = some (r1, r2, r3, r4) := H
 have A2 := Aside0.mk A20
 clear A20
 by_cases c3 : t267 = true
 ·subst c3
  have H1 : (some (a0_0, l0_1, l0_2, true)) = some (r1, r2, r3, r4) := by rw [if_pos rfl] at H; exact H
  clear H
  have H := H1
  clear H1
  simp only [Option.some.injEq, Prod.mk.injEq] at H
  obtain ⟨rfl, rfl, rfl, rfl⟩ := H
  obtain ⟨Ao4, co4, eo4⟩ := Kd.zat HO0_1.out
  subst eo4
  obtain ⟨Ao5, co5, eo5⟩ := Kd.zat HO0_2.out
  subst eo5
  go_enter Try.func92, Try.ntmps92
  go_wp2_with (first | ((with_reducible refine zaf (N := 1) rfl ?_); refine zad ?hg (N := 1) ?hd (cs := #[.int .i64 a0_0, .slice Ao4 l0_1.length co4, .slice Ao5 l0_2.length co5]) (t := 36) ?hr ?_; (case hd => rfl); (case hg => rfl); (case hr => first | (go_simp; done) | (go_simp; rfl)); intro gb265 hg w6 hbox hb; have n0_ := Aside0.mk (Kd.zba (by (with_reducible repeat (first | apply Kd.zaj | apply Kd.zak | apply Kd.zam)); exact HO0_1.out) hb); have n1_ := Aside0.mk (Kd.zba (by (with_reducible repeat (first | apply Kd.zaj | apply Kd.zak | apply Kd.zam)); exact HO0_2.out) hb); have n2_ := Aside0.mk (Kept.below (S := (fun k_ => P0_1_ k_ ∨ P0_2_ k_)) (by repeat (first | (with_reducible first | exact HK.out | apply Kept.alloc | apply Kept.drewN | apply Kept.drew) | exact HK.out)) hb); have n3_ := Aside0.mk (za8 bw_ hb); have n4_ := Aside0.mk (hbox); have n5_ := Aside0.mk ((by rw [hg]; exact (by first | exact HK.out.1 | exact (show Kept w _ (fun k_ => P0_1_ k_ ∨ P0_2_ k_) from by repeat (first | (with_reducible first | exact HK.out | apply Kept.alloc | apply Kept.drewN | apply Kept.drew) | exact HK.out)).1) : w.heap.size ≤ gb265)); have n6_ := Aside0.mk ((by rw [hg]; exact (za6 bw_) : w0.heap.size ≤ gb265)); clear HO0_1; clear HO0_2; clear HK; clear HB; have HO0_1 := n0_; have HO0_2 := n1_; have HK := n2_; have HB := n3_; have BK265 := n4_; have GW265 := n5_; have GE265 := n6_; clear n0_ n1_ n2_ n3_ n4_ n5_ n6_; clear hb hbox hg) | ((with_reducible refine zaf (N := 2) rfl ?_); refine zad ?hg (N := 2) ?hd (cs := #[.int .i64 0, .slice none 0 0, .slice none 0 0]) (t := 36) ?hr ?_; (case hd => rfl); (case hg => rfl); (case hr => first | (go_simp; done) | (go_simp; rfl)); intro gb266 hg w7 hbox hb; have n0_ := Aside0.mk (Kd.zba (by (with_reducible repeat (first | apply Kd.zaj | apply Kd.zak | apply Kd.zam)); exact HO0_1.out) hb); have n1_ := Aside0.mk (Kd.zba (by (with_reducible repeat (first | apply Kd.zaj | apply Kd.zak | apply Kd.zam)); exact HO0_2.out) hb); have n2_ := Aside0.mk (za7 (g := gb265) (o := .cells #[.int .i64 a0_0, .slice Ao4 l0_1.length co4, .slice Ao5 l0_2.length co5] 36 (0, 0)) (by (with_reducible repeat (first | refine za3 ?_ _ | refine za4 ?_ | refine za2 ?_ _)); exact BK265.out) hb); have n3_ := Aside0.mk (Kept.below (S := (fun k_ => P0_1_ k_ ∨ P0_2_ k_)) (by repeat (first | (with_reducible first | exact HK.out | apply Kept.alloc | apply Kept.drewN | apply Kept.drew | refine Kept.setCell ?_ (.inr GW265.out) _) | exact HK.out)) hb); have n4_ := Aside0.mk (za8 bw_ hb); have n5_ := Aside0.mk (hbox); have n6_ := Aside0.mk ((by rw [hg]; exact (by first | exact HK.out.1 | exact (show Kept w _ (fun k_ => P0_1_ k_ ∨ P0_2_ k_) from by repeat (first | (with_reducible first | exact HK.out | apply Kept.alloc | apply Kept.drewN | apply Kept.drew | refine Kept.setCell ?_ (.inr GW265.out) _) | exact HK.out)).1) : w.heap.size ≤ gb266)); have n7_ := Aside0.mk ((by rw [hg]; exact (za6 bw_) : w0.heap.size ≤ gb266)); have n8_ := Aside0.mk ((by rw [hg]; exact Nat.ne_of_lt (zan (g := gb265) (o := .cells #[.int .i64 a0_0, .slice Ao4 l0_1.length co4, .slice Ao5 l0_2.length co5] 36 (0, 0)) (by (with_reducible repeat (first | refine za3 ?_ _ | refine za4 ?_ | refine za2 ?_ _)); exact BK265.out)) : gb265 ≠ gb266)); have n9_ := Aside0.mk ((by rw [hg]; exact Nat.ne_of_gt (zan (g := gb265) (o := .cells #[.int .i64 a0_0, .slice Ao4 l0_1.length co4, .slice Ao5 l0_2.length co5] 36 (0, 0)) (by (with_reducible repeat (first | refine za3 ?_ _ | refine za4 ?_ | refine za2 ?_ _)); exact BK265.out)) : gb266 ≠ gb265)); clear HO0_1; clear HO0_2; clear BK265; clear HK; clear HB; have HO0_1 := n0_; have HO0_2 := n1_; have BK265 := n2_; have HK := n3_; have HB := n4_; have BK266 := n5_; have GW266 := n6_; have GE266 := n7_; have NB265_266 := n8_; have NB266_265 := n9_; clear n0_ n1_ n2_ n3_ n4_ n5_ n6_ n7_ n8_ n9_; clear hb hbox hg; have hnb8 := NB265_266.out; have hnc8 := NB266_265.out; have hcz9_0 : w7.cell? ⟨gb265, 0, none⟩ = some (.int .i64 a0_0) := (za1 BK265.out 0).trans rfl; have hcz9_1 : w7.cell? ⟨gb265, 1, none⟩ = some (.slice Ao4 l0_1.length co4) := (za1 BK265.out 1).trans rfl; have hcz9_2 : w7.cell? ⟨gb265, 2, none⟩ = some (.slice Ao5 l0_2.length co5) := (za1 BK265.out 2).trans rfl; have hfz9_0 := za0 BK265.out 0; have hfz9_1 := za0 BK265.out 1; have hfz9_2 := za0 BK265.out 2) | ((with_reducible refine zah (f := 75) rfl ?_); refine zaz (some 5) rfl rfl Try.func75 (by kernel_rfl) rfl #[.agg #[.int .i64 a0_0, .slice Ao4 l0_1.length co4, .slice Ao5 l0_2.length co5]] rfl (by (try simp only [List.map_toArray, List.map_cons, List.map_nil]); first | done | rfl | (simp only [List.length_drop, List.length_take]; rfl)) ?_; (with_reducible refine (impl_IsPlan.calls k a0_0 _ _ l0_1 _ _ l0_2 true _ ?side1 ?side2 ?side3 ?side4 A2.out).mono ?_); (case side1 => repeat (first | exact (Kd.R_reads' HO0_1.out).2.2 | (with_reducible refine Kd.zb1 ?_ _) | (with_reducible refine Kd.zax ?_ _) | (with_reducible refine Kd.zb7 ?_))); (case side2 => exact (Kd.R_reads' HO0_1.out).2.1); (case side3 => repeat (first | exact (Kd.R_reads' HO0_2.out).2.2 | (with_reducible refine Kd.zb1 ?_ _) | (with_reducible refine Kd.zax ?_ _) | (with_reducible refine Kd.zb7 ?_))); (case side4 => exact (Kd.R_reads' HO0_2.out).2.1); rintro e w10 ⟨rfl, hb⟩; refine ⟨_, rfl, ?_⟩; have n0_ := Aside0.mk (Kd.zba (by (with_reducible repeat (first | apply Kd.zaj | apply Kd.zak | apply Kd.zam)); exact HO0_1.out) hb); have n1_ := Aside0.mk (Kd.zba (by (with_reducible repeat (first | apply Kd.zaj | apply Kd.zak | apply Kd.zam)); exact HO0_2.out) hb); have n2_ := Aside0.mk (za7 (g := gb265) (o := .cells #[.int .i64 a0_0, .slice Ao4 l0_1.length co4, .slice Ao5 l0_2.length co5] 36 (0, 0)) (by (with_reducible repeat (first | refine za3 ?_ _ | refine za4 ?_ | refine za2 ?_ _)); exact BK265.out) hb); have n3_ := Aside0.mk (za7 (g := gb266) (o := .cells #[.int .i64 0, .slice none 0 0, .slice none 0 0] 36 (0, 0)) (by (with_reducible repeat (first | refine za3 ?_ _ | refine za4 ?_ | refine za2 ?_ _)); exact BK266.out) hb); have n4_ := Aside0.mk (Kept.below (S := (fun k_ => P0_1_ k_ ∨ P0_2_ k_)) (by repeat (first | (with_reducible first | exact HK.out | apply Kept.alloc | apply Kept.drewN | apply Kept.drew | refine Kept.setCell ?_ (.inr GW265.out) _ | refine Kept.setCell ?_ (.inr GW266.out) _) | exact HK.out)) hb); have n5_ := Aside0.mk (za8 bw_ hb); clear HO0_1; clear HO0_2; clear BK265; clear BK266; clear HK; clear HB; have HO0_1 := n0_; have HO0_2 := n1_; have BK265 := n2_; have BK266 := n3_; have HK := n4_; have HB := n5_; clear n0_ n1_ n2_ n3_ n4_ n5_; (try clear hb); (try clear hb2); (try clear hk); (try clear hi); have hcz11_0 : w10.cell? ⟨gb265, 0, none⟩ = some (.int .i64 a0_0) := (za1 BK265.out 0).trans rfl; have hcz11_1 : w10.cell? ⟨gb265, 1, none⟩ = some (.slice Ao4 l0_1.length co4) := (za1 BK265.out 1).trans rfl; have hcz11_2 : w10.cell? ⟨gb265, 2, none⟩ = some (.slice Ao5 l0_2.length co5) := (za1 BK265.out 2).trans rfl; have hfz11_0 := za0 BK265.out 0; have hfz11_1 := za0 BK265.out 1; have hfz11_2 := za0 BK265.out 2; have hcz12_0 : w10.cell? ⟨gb266, 0, none⟩ = some (.int .i64 0) := (za1 BK266.out 0).trans rfl; have hcz12_1 : w10.cell? ⟨gb266, 1, none⟩ = some (.slice none 0 0) := (za1 BK266.out 1).trans rfl; have hcz12_2 : w10.cell? ⟨gb266, 2, none⟩ = some (.slice none 0 0) := (za1 BK266.out 2).trans rfl; have hfz12_0 := za0 BK266.out 0; have hfz12_1 := za0 BK266.out 1; have hfz12_2 := za0 BK266.out 2))
  refine bodyPost_ret (results_ct rfl _ _ gb266 36 #[.int .i64 a0_0, .slice Ao4 l0_1.length co4, .slice Ao5 l0_2.length co5] (0, 0) _ rfl (by (with_reducible repeat (first | refine za3 ?_ _ | refine za4 ?_ | refine za2 ?_ _)); refine zao (cs := #[.int .i64 a0_0, .slice Ao4 l0_1.length co4, .slice none 0 0]) ?_ 2 _ rfl; (with_reducible repeat (first | refine za3 ?_ _ | refine za4 ?_ | refine za2 ?_ _)); refine zao (cs := #[.int .i64 a0_0, .slice none 0 0, .slice none 0 0]) ?_ 1 _ rfl; (with_reducible repeat (first | refine za3 ?_ _ | refine za4 ?_ | refine za2 ?_ _)); refine zao (cs := #[.int .i64 0, .slice none 0 0, .slice none 0 0]) ?_ 0 _ rfl; (with_reducible repeat (first | refine za3 ?_ _ | refine za4 ?_ | refine za2 ?_ _)); exact BK266.out) Try.underlying36 rfl (by kernel_rfl)) rfl ?_
  exact ⟨_, _, by first | rfl | (simp [zab, zaa] <;> rfl) | (simp [*, zab, zaa] <;> rfl), by (with_reducible repeat (first | apply Kd.zaj | apply Kd.zak | apply Kd.zam)); exact Kd.zar (Kd.R_far (p := ⟨gb266, 2, none⟩) (Kd.R_far (p := ⟨gb266, 1, none⟩) (Kd.R_far (p := ⟨gb266, 0, none⟩) (Kd.R_types HO0_1.out BK266.out (by decide)) (fun _ hk => hk.2) (.int .i64 a0_0)) (fun _ hk => hk.2) (.slice Ao4 l0_1.length co4)) (fun _ hk => hk.2) (.slice Ao5 l0_2.length co5)) (fun _ hk => hk.1), by (with_reducible repeat (first | apply Kd.zaj | apply Kd.zak | apply Kd.zam)); exact Kd.zar (Kd.R_far (p := ⟨gb266, 2, none⟩) (Kd.R_far (p := ⟨gb266, 1, none⟩) (Kd.R_far (p := ⟨gb266, 0, none⟩) (Kd.R_types HO0_2.out BK266.out (by decide)) (fun _ hk => hk.2) (.int .i64 a0_0)) (fun _ hk => hk.2) (.slice Ao4 l0_1.length co4)) (fun _ hk => hk.2) (.slice Ao5 l0_2.length co5)) (fun _ hk => hk.1), bw_, by repeat (first | (with_reducible first | exact HK.out | apply Kept.alloc | apply Kept.drewN | apply Kept.drew | refine Kept.setCell ?_ (.inr GW265.out) _ | refine Kept.setCell ?_ (.inr GW266.out) _) | exact HK.out)⟩
 ·replace c3 := Bool.eq_false_iff.mpr c3
  subst c3
  have H1 : (some (0, ([] : List (S117)), ([] : List Int), false)) = some (r1, r2, r3, r4) := by rw [if_neg (show ¬ (false = true) by decide)] at H; exact H
  clear H
  have H := H1
  clear H1
  simp only [Option.some.injEq, Prod.mk.injEq] at H
  obtain ⟨rfl, rfl, rfl, rfl⟩ := H
  obtain ⟨Ao13, co13, eo13⟩ := Kd.zat HO0_1.out
  subst eo13
  obtain ⟨Ao14, co14, eo14⟩ := Kd.zat HO0_2.out
  subst eo14
  go_enter Try.func92, Try.ntmps92
  go_wp2_with (first | ((with_reducible refine zaf (N := 1) rfl ?_); refine zad ?hg (N := 1) ?hd (cs := #[.int .i64 a0_0, .slice Ao13 l0_1.length co13, .slice Ao14 l0_2.length co14]) (t := 36) ?hr ?_; (case hd => rfl); (case hg => rfl); (case hr => first | (go_simp; done) | (go_simp; rfl)); intro gb265 hg w15 hbox hb; have n0_ := Aside0.mk (Kd.zba (by (with_reducible repeat (first | apply Kd.zaj | apply Kd.zak | apply Kd.zam)); exact HO0_1.out) hb); have n1_ := Aside0.mk (Kd.zba (by (with_reducible repeat (first | apply Kd.zaj | apply Kd.zak | apply Kd.zam)); exact HO0_2.out) hb); have n2_ := Aside0.mk (Kept.below (S := (fun k_ => P0_1_ k_ ∨ P0_2_ k_)) (by repeat (first | (with_reducible first | exact HK.out | apply Kept.alloc | apply Kept.drewN | apply Kept.drew) | exact HK.out)) hb); have n3_ := Aside0.mk (za8 bw_ hb); have n4_ := Aside0.mk (hbox); have n5_ := Aside0.mk ((by rw [hg]; exact (by first | exact HK.out.1 | exact (show Kept w _ (fun k_ => P0_1_ k_ ∨ P0_2_ k_) from by repeat (first | (with_reducible first | exact HK.out | apply Kept.alloc | apply Kept.drewN | apply Kept.drew) | exact HK.out)).1) : w.heap.size ≤ gb265)); have n6_ := Aside0.mk ((by rw [hg]; exact (za6 bw_) : w0.heap.size ≤ gb265)); clear HO0_1; clear HO0_2; clear HK; clear HB; have HO0_1 := n0_; have HO0_2 := n1_; have HK := n2_; have HB := n3_; have BK265 := n4_; have GW265 := n5_; have GE265 := n6_; clear n0_ n1_ n2_ n3_ n4_ n5_ n6_; clear hb hbox hg) | ((with_reducible refine zaf (N := 2) rfl ?_); refine zad ?hg (N := 2) ?hd (cs := #[.int .i64 0, .slice none 0 0, .slice none 0 0]) (t := 36) ?hr ?_; (case hd => rfl); (case hg => rfl); (case hr => first | (go_simp; done) | (go_simp; rfl)); intro gb266 hg w16 hbox hb; have n0_ := Aside0.mk (Kd.zba (by (with_reducible repeat (first | apply Kd.zaj | apply Kd.zak | apply Kd.zam)); exact HO0_1.out) hb); have n1_ := Aside0.mk (Kd.zba (by (with_reducible repeat (first | apply Kd.zaj | apply Kd.zak | apply Kd.zam)); exact HO0_2.out) hb); have n2_ := Aside0.mk (za7 (g := gb265) (o := .cells #[.int .i64 a0_0, .slice Ao13 l0_1.length co13, .slice Ao14 l0_2.length co14] 36 (0, 0)) (by (with_reducible repeat (first | refine za3 ?_ _ | refine za4 ?_ | refine za2 ?_ _)); exact BK265.out) hb); have n3_ := Aside0.mk (Kept.below (S := (fun k_ => P0_1_ k_ ∨ P0_2_ k_)) (by repeat (first | (with_reducible first | exact HK.out | apply Kept.alloc | apply Kept.drewN | apply Kept.drew | refine Kept.setCell ?_ (.inr GW265.out) _) | exact HK.out)) hb); have n4_ := Aside0.mk (za8 bw_ hb); have n5_ := Aside0.mk (hbox); have n6_ := Aside0.mk ((by rw [hg]; exact (by first | exact HK.out.1 | exact (show Kept w _ (fun k_ => P0_1_ k_ ∨ P0_2_ k_) from by repeat (first | (with_reducible first | exact HK.out | apply Kept.alloc | apply Kept.drewN | apply Kept.drew | refine Kept.setCell ?_ (.inr GW265.out) _) | exact HK.out)).1) : w.heap.size ≤ gb266)); have n7_ := Aside0.mk ((by rw [hg]; exact (za6 bw_) : w0.heap.size ≤ gb266)); have n8_ := Aside0.mk ((by rw [hg]; exact Nat.ne_of_lt (zan (g := gb265) (o := .cells #[.int .i64 a0_0, .slice Ao13 l0_1.length co13, .slice Ao14 l0_2.length co14] 36 (0, 0)) (by (with_reducible repeat (first | refine za3 ?_ _ | refine za4 ?_ | refine za2 ?_ _)); exact BK265.out)) : gb265 ≠ gb266)); have n9_ := Aside0.mk ((by rw [hg]; exact Nat.ne_of_gt (zan (g := gb265) (o := .cells #[.int .i64 a0_0, .slice Ao13 l0_1.length co13, .slice Ao14 l0_2.length co14] 36 (0, 0)) (by (with_reducible repeat (first | refine za3 ?_ _ | refine za4 ?_ | refine za2 ?_ _)); exact BK265.out)) : gb266 ≠ gb265)); clear HO0_1; clear HO0_2; clear BK265; clear HK; clear HB; have HO0_1 := n0_; have HO0_2 := n1_; have BK265 := n2_; have HK := n3_; have HB := n4_; have BK266 := n5_; have GW266 := n6_; have GE266 := n7_; have NB265_266 := n8_; have NB266_265 := n9_; clear n0_ n1_ n2_ n3_ n4_ n5_ n6_ n7_ n8_ n9_; clear hb hbox hg; have hnb17 := NB265_266.out; have hnc17 := NB266_265.out; have hcz18_0 : w16.cell? ⟨gb265, 0, none⟩ = some (.int .i64 a0_0) := (za1 BK265.out 0).trans rfl; have hcz18_1 : w16.cell? ⟨gb265, 1, none⟩ = some (.slice Ao13 l0_1.length co13) := (za1 BK265.out 1).trans rfl; have hcz18_2 : w16.cell? ⟨gb265, 2, none⟩ = some (.slice Ao14 l0_2.length co14) := (za1 BK265.out 2).trans rfl; have hfz18_0 := za0 BK265.out 0; have hfz18_1 := za0 BK265.out 1; have hfz18_2 := za0 BK265.out 2) | ((with_reducible refine zah (f := 75) rfl ?_); refine zaz (some 5) rfl rfl Try.func75 (by kernel_rfl) rfl #[.agg #[.int .i64 a0_0, .slice Ao13 l0_1.length co13, .slice Ao14 l0_2.length co14]] rfl (by (try simp only [List.map_toArray, List.map_cons, List.map_nil]); first | done | rfl | (simp only [List.length_drop, List.length_take]; rfl)) ?_; (with_reducible refine (impl_IsPlan.calls k a0_0 _ _ l0_1 _ _ l0_2 false _ ?side1 ?side2 ?side3 ?side4 A2.out).mono ?_); (case side1 => repeat (first | exact (Kd.R_reads' HO0_1.out).2.2 | (with_reducible refine Kd.zb1 ?_ _) | (with_reducible refine Kd.zax ?_ _) | (with_reducible refine Kd.zb7 ?_))); (case side2 => exact (Kd.R_reads' HO0_1.out).2.1); (case side3 => repeat (first | exact (Kd.R_reads' HO0_2.out).2.2 | (with_reducible refine Kd.zb1 ?_ _) | (with_reducible refine Kd.zax ?_ _) | (with_reducible refine Kd.zb7 ?_))); (case side4 => exact (Kd.R_reads' HO0_2.out).2.1); rintro e w19 ⟨rfl, hb⟩; refine ⟨_, rfl, ?_⟩; have n0_ := Aside0.mk (Kd.zba (by (with_reducible repeat (first | apply Kd.zaj | apply Kd.zak | apply Kd.zam)); exact HO0_1.out) hb); have n1_ := Aside0.mk (Kd.zba (by (with_reducible repeat (first | apply Kd.zaj | apply Kd.zak | apply Kd.zam)); exact HO0_2.out) hb); have n2_ := Aside0.mk (za7 (g := gb265) (o := .cells #[.int .i64 a0_0, .slice Ao13 l0_1.length co13, .slice Ao14 l0_2.length co14] 36 (0, 0)) (by (with_reducible repeat (first | refine za3 ?_ _ | refine za4 ?_ | refine za2 ?_ _)); exact BK265.out) hb); have n3_ := Aside0.mk (za7 (g := gb266) (o := .cells #[.int .i64 0, .slice none 0 0, .slice none 0 0] 36 (0, 0)) (by (with_reducible repeat (first | refine za3 ?_ _ | refine za4 ?_ | refine za2 ?_ _)); exact BK266.out) hb); have n4_ := Aside0.mk (Kept.below (S := (fun k_ => P0_1_ k_ ∨ P0_2_ k_)) (by repeat (first | (with_reducible first | exact HK.out | apply Kept.alloc | apply Kept.drewN | apply Kept.drew | refine Kept.setCell ?_ (.inr GW265.out) _ | refine Kept.setCell ?_ (.inr GW266.out) _) | exact HK.out)) hb); have n5_ := Aside0.mk (za8 bw_ hb); clear HO0_1; clear HO0_2; clear BK265; clear BK266; clear HK; clear HB; have HO0_1 := n0_; have HO0_2 := n1_; have BK265 := n2_; have BK266 := n3_; have HK := n4_; have HB := n5_; clear n0_ n1_ n2_ n3_ n4_ n5_; (try clear hb); (try clear hb2); (try clear hk); (try clear hi); have hcz20_0 : w19.cell? ⟨gb266, 0, none⟩ = some (.int .i64 0) := (za1 BK266.out 0).trans rfl; have hcz20_1 : w19.cell? ⟨gb266, 1, none⟩ = some (.slice none 0 0) := (za1 BK266.out 1).trans rfl; have hcz20_2 : w19.cell? ⟨gb266, 2, none⟩ = some (.slice none 0 0) := (za1 BK266.out 2).trans rfl; have hfz20_0 := za0 BK266.out 0; have hfz20_1 := za0 BK266.out 1; have hfz20_2 := za0 BK266.out 2))
  refine bodyPost_ret (results_ct rfl _ _ gb266 36 #[.int .i64 0, .slice none 0 0, .slice none 0 0] (0, 0) _ rfl (by (with_reducible repeat (first | refine za3 ?_ _ | refine za4 ?_ | refine za2 ?_ _)); refine zao (cs := #[.int .i64 0, .slice none 0 0, .slice none 0 0]) ?_ 2 _ rfl; (with_reducible repeat (first | refine za3 ?_ _ | refine za4 ?_ | refine za2 ?_ _)); refine zao (cs := #[.int .i64 0, .slice none 0 0, .slice none 0 0]) ?_ 1 _ rfl; (with_reducible repeat (first | refine za3 ?_ _ | refine za4 ?_ | refine za2 ?_ _)); refine zao (cs := #[.int .i64 0, .slice none 0 0, .slice none 0 0]) ?_ 0 _ rfl; (with_reducible repeat (first | refine za3 ?_ _ | refine za4 ?_ | refine za2 ?_ _)); exact BK266.out) Try.underlying36 rfl (by kernel_rfl)) rfl ?_
  exact ⟨_, _, by first | rfl | (simp [zab, zaa] <;> rfl) | (simp [*, zab, zaa] <;> rfl), by first | exact Kd.R_nil _ _ _ _ _ | exact Kd.N_nil _ _ _ _ _ | exact Kd.V_nil _ _ _ _ _ | exact Kd.Q_nil _ _ _ _ _ | exact Kd.S_nil _ _ _ _ _, by first | exact Kd.R_nil _ _ _ _ _ | exact Kd.N_nil _ _ _ _ _ | exact Kd.V_nil _ _ _ _ _ | exact Kd.Q_nil _ _ _ _ _ | exact Kd.S_nil _ _ _ _ _, bw_, by repeat (first | (with_reducible first | exact HK.out | apply Kept.alloc | apply Kept.drewN | apply Kept.drew | refine Kept.setCell ?_ (.inr GW265.out) _ | refine Kept.setCell ?_ (.inr GW266.out) _) | exact HK.out)⟩

/-! ### bits_Mul64: function 181 -/
def bits_Mul64.f (a0 : Int) (a1 : Int) : Option (Int × Int) := some (IntKind.u64.wrap ((IntKind.u64.wrap ((IntKind.u64.wrap ((a0 / 4294967296) * (a1 / 4294967296))) + ((IntKind.u64.wrap ((IntKind.u64.wrap ((a0 / 4294967296) * (Go.bits .and .u64 a1 4294967295))) + ((IntKind.u64.wrap ((Go.bits .and .u64 a0 4294967295) * (Go.bits .and .u64 a1 4294967295))) / 4294967296))) / 4294967296))) + ((IntKind.u64.wrap ((Go.bits .and .u64 (IntKind.u64.wrap ((IntKind.u64.wrap ((a0 / 4294967296) * (Go.bits .and .u64 a1 4294967295))) + ((IntKind.u64.wrap ((Go.bits .and .u64 a0 4294967295) * (Go.bits .and .u64 a1 4294967295))) / 4294967296))) 4294967295) + (IntKind.u64.wrap ((Go.bits .and .u64 a0 4294967295) * (a1 / 4294967296))))) / 4294967296)), IntKind.u64.wrap (a0 * a1))
set_option maxHeartbeats 8000000 in
set_option maxRecDepth 100000 in
theorem bits_Mul64.calls (a0 : Int) (a1 : Int) (r1 : Int) (r2 : Int) (w : World) (h : bits_Mul64.f a0 a1 = some (r1, r2)) :
  Calls Try.prog 181 #[.int .u64 a0, .int .u64 a1] w fun e w' => e = .returned (.tuple #[.int .u64 r1, .int .u64 r2]) ∧ Drawn0 w w' := by
 have H : (some (IntKind.u64.wrap ((IntKind.u64.wrap ((IntKind.u64.wrap ((a0 / 4294967296) * (a1 / 4294967296))) + ((IntKind.u64.wrap ((IntKind.u64.wrap ((a0 / 4294967296) * (Go.bits .and .u64 a1 4294967295))) + ((IntKind.u64.wrap ((Go.bits .and .u64 a0 4294967295) * (Go.bits .and .u64 a1 4294967295))) / 4294967296))) / 4294967296))) + ((IntKind.u64.wrap ((Go.bits .and .u64 (IntKind.u64.wrap ((IntKind.u64.wrap ((a0 / 4294967296) * (Go.bits .and .u64 a1 4294967295))) + ((IntKind.u64.wrap ((Go.bits .and .u64 a0 4294967295) * (Go.bits .and .u64 a1 4294967295))) / 4294967296))) 4294967295) + (IntKind.u64.wrap ((Go.bits .and .u64 a0 4294967295) * (a1 / 4294967296))))) / 4294967296)), IntKind.u64.wrap (a0 * a1))) = some (r1, r2) := h
 clear h
 simp only [Option.some.injEq, Prod.mk.injEq] at H
 obtain ⟨rfl, rfl⟩ := H
 go_enter Try.func181, Try.ntmps181
 go_wp2
 go_ret2
 exact ⟨by first | rfl | (simp; done) | (simp [*]; done), by repeat (first | exact Drawn0.refl _ | apply Drawn0.step)⟩

/-! ### bits_Mul: function 169 -/
def bits_Mul.f (a0 : Int) (a1 : Int) : Option (Int × Int) := (bits_Mul64.f a0 a1).bind fun bt268 => (some (bt268.1, bt268.2))
set_option maxHeartbeats 8000000 in
set_option maxRecDepth 100000 in
theorem bits_Mul.calls (a0 : Int) (a1 : Int) (r1 : Int) (r2 : Int) (w : World) (h : bits_Mul.f a0 a1 = some (r1, r2)) :
  Calls Try.prog 169 #[.int .u64 a0, .int .u64 a1] w fun e w' => e = .returned (.tuple #[.int .u64 r1, .int .u64 r2]) ∧ Drawn0 w w' := by
 have H : ((bits_Mul64.f a0 a1).bind fun bt268 => (some (bt268.1, bt268.2))) = some (r1, r2) := h
 clear h
 replace H := Option.bind_eq_some_iff.mp H
 obtain ⟨⟨t268, t269⟩, A30, H⟩ := H
 replace H : (some (t268, t269)) = some (r1, r2) := H
 have A3 := Aside0.mk A30
 clear A30
 simp only [Option.some.injEq, Prod.mk.injEq] at H
 obtain ⟨rfl, rfl⟩ := H
 go_enter Try.func169, Try.ntmps169
 go_wp2_with (first | ((with_reducible refine zah (f := 181) rfl ?_); refine zaz (some 25) rfl rfl Try.func181 (by kernel_rfl) rfl #[.int .u64 a0, .int .u64 a1] rfl (by (try simp only [List.map_toArray, List.map_cons, List.map_nil]); first | done | rfl | (simp only [List.length_drop, List.length_take]; rfl)) ?_; (with_reducible refine (bits_Mul64.calls a0 a1 t268 t269 _ A3.out).mono ?_); rintro e w' ⟨rfl, ⟨nd, rfl⟩⟩; refine ⟨_, rfl, ?_⟩))
 go_ret2
 exact ⟨by first | rfl | (simp; done) | (simp [*]; done), by repeat (first | exact Drawn0.refl _ | apply Drawn0.step)⟩

/-! ### slices_Repeat_int_int: function 118 -/
theorem mul_one_small : ∀ c : Fin 65, bits_Mul.f 1 (c.val : Int) = some (0, (c.val : Int)) := by decide +kernel
theorem rep_src {w : World} {g j m t : Nat} {cu : List Value} {x : Value} (h : w.heap[g]? = some (.cells cu.toArray t (0, 0))) (ht : cu.take j = List.replicate j x) (hm : m ≤ j) : ∀ q u, (List.replicate m x)[q]? = some u → w.cell? ((⟨g, 0, none⟩ : Addr).add q) = some u := by
 intro q u hq
 have hqm : q < m := by
  rcases Nat.lt_or_ge q m with h9 | h9
  ·exact h9
  ·rw [List.getElem?_eq_none (by simpa using h9)] at hq
   cases hq
 have e1 := za1 h q
 have e2 : (List.take j cu)[q]? = cu[q]? := List.getElem?_take_of_lt (by omega)
 rw [ht] at e2
 rw [show (Addr.add ⟨g, 0, none⟩ q) = ⟨g, q, none⟩ from by simp [Addr.add]; try omega, e1, List.getElem?_toArray, ← e2, ← hq]
 simp [hqm, Nat.lt_of_lt_of_le hqm hm]
/-- one number, so many times (as the program uses it: one element, at most 64 times) -/
def slices_Repeat_int_int.f (l0 : List Int) (a1 : Int) : Option (List Int) := if l0.length = 1 ∧ 0 ≤ a1 ∧ a1 ≤ 64 then some (List.replicate a1.toNat (rd l0 0)) else none
set_option maxHeartbeats 2000000 in
set_option maxRecDepth 100000 in
theorem slices_Repeat_int_int.calls (A0 : Option Addr) (c0 : Nat) (l0 : List Int) (a1 : Int) (r : List Int) (w : World) (hr0 : Kd.C (Kd.int .i64) w A0 l0.length l0) (hc0 : l0.length ≤ c0) (h : slices_Repeat_int_int.f l0 a1 = some r) :
  Calls Try.prog 118 #[.slice A0 l0.length c0, .int .i64 a1] w fun e w' => ∃ v0_ : Value, e = .returned (v0_) ∧ Kd.R (Kd.int .i64) 3 w' w.heap.size (fun _ => True) v0_ r ∧ Below w.heap.size w w' := by
 unfold slices_Repeat_int_int.f at h
 by_cases hc : l0.length = 1 ∧ 0 ≤ a1 ∧ a1 ≤ 64
 rotate_left
 ·rw [if_neg hc] at h
  cases h
 rw [if_pos hc] at h
 obtain rfl := Option.some.inj h
 obtain ⟨hl, h0, h64⟩ := hc
 obtain ⟨n, rfl⟩ := Int.eq_ofNat_of_zero_le h0
 rw [Int.toNat_natCast]
 have hn : n ≤ 64 := by omega
 have HM := Aside0.mk (fun W => bits_Mul.calls 1 (n : Int) 0 (n : Int) W (mul_one_small ⟨n, by omega⟩))
 obtain ⟨ad, e1, hx⟩ := Kd.at_int hr0 0 (by omega) (by omega)
 cases e1
 rw [show ((0 : Int)).toNat = 0 from rfl, Addr.add_zero'] at hx
 have HX := Aside0.mk hx
 have HR0 := Aside0.mk hr0
 have HN := Aside0.mk hn
 rw [hl]
 have c1 : decide ((n : Int) < 0) = false := decide_eq_false (by omega)
 have c2 : decide (9223372036854775807 < (n : Int)) = false := decide_eq_false (by omega)
 have q1 : IntKind.u64.wrap (n : Int) = (n : Int) := by unfold IntKind.wrap; simp [IntKind.signed, IntKind.bits]; omega
 have q2 : IntKind.i64.wrap (n : Int) = (n : Int) := by unfold IntKind.wrap; simp [IntKind.signed, IntKind.bits]; omega
 have HL1 := Aside0.mk hl
 clear h hr0 hc0 hl h0 h64 hx
 go_enter Try.func118, Try.ntmps118
 go_wp2_with (first | (go_at_call 169; refine (HM.out _).mono ?_; rintro e w' ⟨rfl, ⟨n1, rfl⟩⟩) | ((with_reducible refine zaf (N := 30) rfl ?_); refine Kd.R_make (Kd.int .i64) (w0 := w) w.heap.size 3 rfl (N := 30) rfl 22 _ _ rfl (n : Int) rfl rfl Try.underlying22 (.int .i64 0) 8 info3 rfl (by decide) (by omega) 0 (ok := fun _ => True) (okp := fun _ => True) rfl (fun _ hk => hk) trivial (by omega) (by have := HN.out; omega) ?hBB ?hSS ?_; (case hBB => repeat (first | exact Below.refl _ _ | apply zay | apply zaq | apply zav)); (case hSS => simp); intro v2 w2 ho hb hg hnew; obtain ⟨b2, hb2, _⟩ := hnew; obtain ⟨A2, c2_, rfl⟩ := Kd.zat ho; rw [List.length_replicate, Int.toNat_natCast] at ho hb2 ⊢; have HO := Aside0.mk ho; have HB := Aside0.mk hb; have HB2 := Aside0.mk hb2; clear ho hb hg hb2) | ((with_reducible refine gate_builtin (b := .copy) (xs := #[.tmp 31, .tmp 32]) rfl ?_); refine Kd.R_copy (enc := Value.int .i64) (h1 := fun _ => rfl) (0 : Int) (w0 := w) w.heap.size rfl (.tmp 31) (.tmp 32) 22 22 3 rfl Try.underlying22 (by kernel_rfl) (.slice A2 n c2_) (List.replicate n 0) l0 (some ad) 1 c0 (fun _ => True) rfl rfl HO.out ?hCC HB.out HB.out.size ?_; (case hCC => have h9 := Kd.zac HR0.out HB.out; rw [HL1.out] at h9; exact h9); intro w3 ho hb hg; rw [List.length_replicate] at ho ⊢; have HO3 := Aside0.mk ho; have HB3 := Aside0.mk hb; clear ho hb hg HO HB))
 have hown := (Kd.own_of_R HO3.out).2
 have hlen : (List.take (min 1 n) l0 ++ List.drop (min 1 n) (List.replicate n (0 : Int))).length = n := by have := HL1.out; simp; omega
 rcases hown with ⟨hnil, _⟩ | ⟨g, cap, cur, hv, hge, hblk, hnc, hcm, hcs, htake⟩
 ·have h9 := HB2.out
  rw [hnil] at h9
  cases h9
 injection hv with hv1 hv2 hv3
 subst hv1 hv3
 rw [hlen] at hnc htake
 obtain ⟨x, hxx⟩ : ∃ x, rd l0 0 = x := ⟨_, rfl⟩
 have HXX := Aside0.mk hxx
 have htk : cur.toList.take (min 1 n) = List.replicate (min 1 n) (.int .i64 x) := by
  have e1 : l0 = [x] := by
   obtain ⟨y, rfl⟩ := List.length_eq_one_iff.1 HL1.out
   rw [← hxx]; rfl
  have e2 : cur.toList.take (min 1 n) = (cur.toList.take (n * 1)).take (min 1 n) := by rw [List.take_take]; congr 1; omega
  rw [e2, htake, e1]
  rcases Nat.eq_zero_or_pos n with hz | hz
  ·subst hz; rfl
  ·have : min 1 n = 1 := by omega
   rw [this]; rfl
 obtain ⟨curl, rfl⟩ : ∃ l : List Value, cur = l.toArray := ⟨cur.toList, by simp⟩
 have HCU := Aside0.mk (show curl.length = c2_ ∧ curl.take (min 1 n) = List.replicate (min 1 n) (.int .i64 x) from ⟨by simpa using hcs, by simpa using htk⟩)
 have HBK := Aside0.mk hblk
 have HG := Aside0.mk (show w.heap.size ≤ g ∧ n ≤ c2_ ∧ c2_ ≤ maxLen from ⟨hge, hnc, hcm⟩)
 obtain ⟨j0, hj0⟩ : ∃ j0, min 1 n = j0 := ⟨_, rfl⟩
 rw [hj0] at HCU ⊢
 have HJ0 := Aside0.mk (show j0 ≤ n ∧ n ≤ j0 + n ∧ (n = 0 ∨ 1 ≤ j0) by omega)
 clear hv2 hlen hge hblk hnc hcm hcs htake hxx htk hj0 HO3 HB2
 go_loopg [8] n (fun d v8 w' => ∃ (j : Nat) (cu : List Value), v8 = .int .i64 (j : Int) ∧ Aside0 (j ≤ n ∧ n ≤ j + d ∧ (n = 0 ∨ 1 ≤ j)) ∧ Aside0 (w'.heap[g]? = some (.cells cu.toArray 3 (0, 0))) ∧ Aside0 (cu.length = c2_ ∧ cu.take j = List.replicate j (.int .i64 x)) ∧ Aside0 (Below w.heap.size w w'))
 case atStart => exact ⟨j0, curl, rfl, HJ0, HBK, HCU, HB3⟩
 case round =>
  obtain ⟨j, cu, rfl, HJ, HB4, HC4, HBW⟩ := hrel
  clear HBK HCU HB3 HJ0
  have hnn := HN.out
  by_cases hlt : j < n
  ·cases gk with
   | zero => have := HJ.out; omega
   | succ d =>
    have c3 : decide (j < n) = true := decide_eq_true hlt
    have hg1 : n ≤ c2_ := HG.out.2.1
    have hg2 : c2_ ≤ 9223372036854775807 := HG.out.2.2
    have c4 : (j == c2_) = false := by simp; omega
    have c5 : ((j : Int) == (c2_ : Int)) = false := by simp; omega
    have c6 : j ≤ n := by omega
    obtain ⟨m, hm⟩ : ∃ m, min j (n - j) = m := ⟨_, rfl⟩
    have HM2 := Aside0.mk (show min j (n - j) = m ∧ 1 ≤ m ∧ j + m ≤ n by have := HJ.out; omega)
    have hjm1 : j + m ≤ n := HM2.out.2.2
    have c7 : (0 : Int) ≤ (j : Int) := by omega
    have c8 : (j : Int) ≤ (n : Int) := by omega
    have c9 : (n : Int) ≤ (c2_ : Int) := by omega
    have c10 : (j : Int) ≤ (c2_ : Int) := by omega
    clear hm
    go_wp2
    refine start_ (n := 10) (S := fun w' => True) (ds := []) #[false, false, false, false, false, false, false, false, false, false] (by kernel_rfl) rfl rfl trivial (fun hHeld => ?_)
    refine pure_ (i := 0) (N := some 38) (v := ?_) (a' := ?_) #[true, false, false, false, false, false, false, false, false, false] rfl rfl (by kernel_rfl) (fun _ _ _ h => h) (Or.inl ⟨by rfl, ?_⟩) ?_ ?_
    rotate_left
    ·intro w'
     go_simp
     with_reducible rfl
    rotate_left
    ·simp only [Act.put, sa_, sb_, sc_, i64_w, i32_w]
     rfl
    refine pure_ (i := 1) (N := some 39) (v := ?_) (a' := ?_) #[true, true, false, false, false, false, false, false, false, false] rfl rfl (by kernel_rfl) (fun _ _ _ h => h) (Or.inl ⟨by rfl, ?_⟩) ?_ ?_
    rotate_left
    ·intro w'
     go_simp
     with_reducible rfl
    rotate_left
    ·simp only [Act.put, sa_, sb_, sc_, i64_w, i32_w]
     rfl
    refine pure_ (i := 2) (N := some 40) (v := ?_) (a' := ?_) #[true, true, true, false, false, false, false, false, false, false] rfl rfl (by kernel_rfl) (fun _ _ _ h => h) (Or.inl ⟨by rfl, ?_⟩) ?_ ?_
    rotate_left
    ·intro w'
     go_simp
     with_reducible rfl
    rotate_left
    ·simp only [Act.put, sa_, sb_, sc_, i64_w, i32_w]
     rfl
    refine pure_ (i := 3) (N := some 41) (v := ?_) (a' := ?_) #[true, true, true, true, false, false, false, false, false, false] rfl rfl (by kernel_rfl) (fun _ _ _ h => h) (Or.inl ⟨by rfl, ?_⟩) ?_ ?_
    rotate_left
    ·intro w'
     go_simp
     with_reducible rfl
    rotate_left
    ·simp only [Act.put, sa_, sb_, sc_, i64_w, i32_w]
     rfl
    refine pure_ (i := 4) (N := some 42) (v := ?_) (a' := ?_) #[true, true, true, true, true, false, false, false, false, false] rfl rfl (by kernel_rfl) (fun _ _ _ h => h) (Or.inl ⟨by rfl, ?_⟩) ?_ ?_
    rotate_left
    ·intro w'
     go_simp
     with_reducible rfl
    rotate_left
    ·simp only [Act.put, sa_, sb_, sc_, i64_w, i32_w]
     rfl
    refine pure_ (i := 5) (N := some 43) (v := ?_) (a' := ?_) #[true, true, true, true, true, true, false, false, false, false] rfl rfl (by kernel_rfl) (fun _ _ _ h => h) (Or.inl ⟨by rfl, ?_⟩) ?_ ?_
    rotate_left
    ·intro w'
     go_simp
     with_reducible rfl
    rotate_left
    ·simp only [Act.put, sa_, sb_, sc_, i64_w, i32_w]
     rfl
    refine pure_ (i := 6) (N := some 44) (v := ?_) (a' := ?_) #[true, true, true, true, true, true, true, false, false, false] rfl rfl (by kernel_rfl) (fun _ _ _ h => h) (Or.inl ⟨by rfl, ?_⟩) ?_ ?_
    rotate_left
    ·intro w'
     go_simp
     with_reducible rfl
    rotate_left
    ·simp only [Act.put, sa_, sb_, sc_, i64_w, i32_w]
     rfl
    refine one_ (i := 7) (N := some 45) #[true, true, true, true, true, true, true, true, false, false] rfl rfl (by kernel_rfl) (by decide) (fun K hK => ?_)
    refine step_copy_splice rfl (.tmp 41) (.tmp 44) 22 22 rfl 3 Try.underlying22 (by kernel_rfl) (some ⟨g, j, none⟩) (some ⟨g, 0, none⟩) (n - j) (c2_ - j) j c2_ ?hd ?hs g j cu 3 (za4 HB4.out) (List.replicate m (.int .i64 x)) ?hn ?hpos ?hfit ?h1 w.heap.size w ?hb HG.out.1 ?_
    case hd => show Value.slice (if c2_ = j then _ else _) _ _ = _; rw [if_neg (by omega)]
    case hs => rfl
    case hn => rw [List.length_replicate]; exact HM2.out.1.symm
    case hpos => exact fun _ => ⟨rfl, _, rfl, rep_src (za4 HB4.out) HC4.out.2 (by have := HM2.out.1; omega)⟩
    case hfit => rw [List.length_replicate, HC4.out.1]; omega
    case h1 => intro u hu; rw [List.eq_of_mem_replicate hu]; rfl
    case hb => exact HBW.out.drew
    intro w5 hg5 hb5
    have HB5 := Aside0.mk (show w5.heap[g]? = some (.cells (splice cu j (List.replicate m (.int .i64 x))).toArray 3 (0, 0)) from hg5)
    have HW5 := Aside0.mk hb5
    clear hg5 hb5
    rw [List.length_replicate]
    refine hK.out _ _ trivial (fun hHeld => ?_)
    clear hK K
    refine norm_ (a' := ?_) ?_ ?_
    rotate_left
    ·show Act.put _ (some 45) _ = _
     simp only [Act.put, sa_, sb_, sc_, i64_w, i32_w]
     rfl
    refine pure_ (i := 8) (N := some 46) (v := ?_) (a' := ?_) #[true, true, true, true, true, true, true, true, true, false] rfl rfl (by kernel_rfl) (fun _ _ _ h => h) (Or.inl ⟨by rfl, ?_⟩) ?_ ?_
    rotate_left
    ·intro w'
     go_simp
     with_reducible rfl
    rotate_left
    ·simp only [Act.put, sa_, sb_, sc_, i64_w, i32_w]
     rfl
    refine pure_ (i := 9) (N := some 8) (v := ?_) (a' := ?_) #[true, true, true, true, true, true, true, true, true, true] rfl rfl (by kernel_rfl) (fun _ _ _ h => h) (Or.inl ⟨by rfl, ?_⟩) ?_ ?_
    rotate_left
    ·intro w'
     go_simp
     with_reducible rfl
    rotate_left
    ·simp only [Act.put, sa_, sb_, sc_, i64_w, i32_w]
     rfl
    refine done_ (by kernel_rfl) ?_
    have hw : wrap64 ((j : Int) + (m : Int)) = ((j + m : Nat) : Int) := by unfold wrap64; omega
    rw [hw]
    clear hw
    go_wp2
    go_roundg d
    case measure => omega
    case rel => exact ⟨j + m, splice cu j (List.replicate m (.int .i64 x)), rfl, ⟨by have := HJ.out; have := HM2.out; omega⟩, HB5, ⟨by rw [length_splice _ _ _ (by rw [List.length_replicate, HC4.out.1]; omega)]; exact HC4.out.1, by
     have e1 := HC4.out.2
     unfold splice
     rw [e1, List.take_append, List.length_replicate, List.take_of_length_le (by simp), show j + m - j = m from by omega, List.take_append, List.length_replicate, Nat.sub_self, List.take_of_length_le (by simp), List.take_zero, List.append_nil, List.replicate_append_replicate]⟩, HW5⟩
  ·have hj := HJ.out
   have c3 : decide (j < n) = false := decide_eq_false hlt
   go_wp2
   go_ret
   have hjn : j = n := by omega
   subst hjn
   refine ⟨_, rfl, Kd.R_of_own ⟨by simp [encs], .inr ⟨g, c2_, cu.toArray, ?_, HG.out.1, HB4.out, ?_, HG.out.2.2, ?_, ?_⟩⟩ (fun _ _ => trivial), HBW.out⟩
   ·rw [List.length_replicate]; rfl
   ·rw [List.length_replicate]; exact HG.out.2.1
   ·simpa using HC4.out.1
   ·have := HC4.out.2
    simp only [List.length_replicate, Nat.mul_one, encs, List.map_replicate, HXX.out]
    exact this

/-! ### impl_step: function 151 -/
def impl_step.f (a0 : Int) (a1 : Int) : Option (Int × Int) := some (mn a0 a1, mx a0 a1)
set_option maxHeartbeats 8000000 in
set_option maxRecDepth 100000 in
theorem impl_step.calls (a0 : Int) (a1 : Int) (r1 : Int) (r2 : Int) (w : World) (h : impl_step.f a0 a1 = some (r1, r2)) :
  Calls Try.prog 151 #[.int .i64 a0, .int .i64 a1] w fun e w' => e = .returned (.agg #[.int .i64 r1, .int .i64 r2]) ∧ Below w.heap.size w w' := by
 have hu117 := Try.underlying117
 have HB := Aside0.mk (Below.refl w.heap.size w)
 have H : (some (mn a0 a1, mx a0 a1)) = some (r1, r2) := h
 clear h
 obtain ⟨ji3, hji3⟩ : ∃ j_ : Int, (mn a0 a1) = j_ := ⟨_, rfl⟩
 replace H : (some (ji3, mx a0 a1)) = some (r1, r2) := by first | (rw [hji3] at H; exact H) | (simp only [hji3] at H ⊢; exact H)
 have hji3_ : (if a1 < a0 then a1 else a0) = ji3 := hji3
 obtain ⟨ji4, hji4⟩ : ∃ j_ : Int, (mx a0 a1) = j_ := ⟨_, rfl⟩
 replace H : (some (ji3, ji4)) = some (r1, r2) := by first | (rw [hji4] at H; exact H) | (simp only [hji4] at H ⊢; exact H)
 have hji4_ : (if a0 < a1 then a1 else a0) = ji4 := hji4
 simp only [Option.some.injEq, Prod.mk.injEq] at H
 obtain ⟨rfl, rfl⟩ := H
 go_enter Try.func151, Try.ntmps151
 go_wp2_with (first | ((with_reducible refine zaf (N := 4) rfl ?_); refine zad ?hg (N := 4) ?hd (cs := #[.int .i64 0, .int .i64 0]) (t := 117) ?hr ?_; (case hd => rfl); (case hg => rfl); (case hr => first | (go_simp; done) | (go_simp; rfl)); intro gb270 hg w5 hbox hb; have n0_ := Aside0.mk (za8 bw_ hb); have n1_ := Aside0.mk (hbox); have n2_ := Aside0.mk ((by rw [hg]; exact (za6 bw_) : w.heap.size ≤ gb270)); have n3_ := Aside0.mk ((by rw [hg]; exact (za6 bw_) : w.heap.size ≤ gb270)); clear HB; have HB := n0_; have BK270 := n1_; have GW270 := n2_; have GE270 := n3_; clear n0_ n1_ n2_ n3_; clear hb hbox hg; have hcz6_0 : w5.cell? ⟨gb270, 0, none⟩ = some (.int .i64 0) := (za1 BK270.out 0).trans rfl; have hcz6_1 : w5.cell? ⟨gb270, 1, none⟩ = some (.int .i64 0) := (za1 BK270.out 1).trans rfl; have hfz6_0 := za0 BK270.out 0; have hfz6_1 := za0 BK270.out 1))
 refine bodyPost_ret (results_cell_row rfl _ _ gb270 117 #[.int .i64 ji3, .int .i64 ji4] (0, 0) _ rfl (by (with_reducible repeat (first | refine za3 ?_ _ | refine za4 ?_ | refine za2 ?_ _)); refine zao (cs := #[.int .i64 ji3, .int .i64 0]) ?_ 1 _ rfl; (with_reducible repeat (first | refine za3 ?_ _ | refine za4 ?_ | refine za2 ?_ _)); refine zao (cs := #[.int .i64 0, .int .i64 0]) ?_ 0 _ rfl; (with_reducible repeat (first | refine za3 ?_ _ | refine za4 ?_ | refine za2 ?_ _)); exact BK270.out) Try.underlying117 rfl (by kernel_rfl)) rfl ?_
 exact ⟨by first | rfl | (simp [zab, zaa] <;> rfl) | (simp only [← hji3, ← hji4]; first | rfl | (simp [zab, zaa] <;> rfl)) | (simp [*, zab, zaa] <;> rfl), bw_⟩

/-! ### impl_RegCode_read_1: function 170 -/
/-- a register that is there -/
def hasB (n : Nat) (r : Int) : Bool := decide (0 ≤ r) && decide (r < (n : Int))
set_option maxHeartbeats 1000000 in
theorem read1_calls (gi t n c : Nat) (A : Option Addr) (x : Int) (w : World) (hn : n ≤ 1000000) (hb : w.heap[gi]? = some (.cells #[.slice A n c] t (0, 0))) :
  Calls Try.prog 170 #[.int .i64 x, .pointer (some ⟨gi, 0, none⟩)] w fun e w' => e = .returned (.bool (hasB n x)) ∧ Below w.heap.size w w' := by
 have hz : w.cell? ⟨gi, 0, none⟩ = some (.slice A n c) := za1 hb 0
 have HI := Aside0.mk (fun W => impl_in.calls x 0 ((n : Int) - 1) (hasB n x) W (by
  unfold impl_in.f hasB
  by_cases h0 : 0 ≤ x
  ·rw [if_pos h0]
   simp only [h0, decide_true, Bool.true_and, Option.some.injEq, decide_eq_decide]
   omega
  ·rw [if_neg h0]
   simp [h0]))
 have h1 : -9223372036854775808 ≤ (n : Int) - 1 := by omega
 have h2 : (n : Int) - 1 ≤ 9223372036854775807 := by omega
 clear hb hn
 go_enter Try.func170, Try.ntmps170
 go_wp2_with fail
 refine (HI.out _).mono ?_
 rintro e w' ⟨rfl, ⟨nd, rfl⟩⟩
 go_wp2
 go_ret
 exact ⟨rfl, by repeat (first | exact Below.refl _ _ | apply zay | apply zaq | apply zav)⟩

end Go.Proofs.Ytpdpomjgfmdjfaa.Z
