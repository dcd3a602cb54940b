-- Written by a program of this session (wip/tools/stubprint.py): contracts by hand where the kit's print has none.
import Derived.Test.YtpdpomjgfmdjfaaKFnExactCheckRegCodeQ0
import Derived.Test.YtpdpomjgfmdjfaaKFnExactCheckRegCodeQ1
import Derived.Test.YtpdpomjgfmdjfaaKFnExactCheckRegCodeQ2
import Derived.Test.YtpdpomjgfmdjfaaKFnExactCheckRegCodeQ3
import Derived.Test.YtpdpomjgfmdjfaaKFnExactCheckRegCodeQ4
import Derived.Test.YtpdpomjgfmdjfaaKFnExactCheckRegCodeQ5
namespace Go.Proofs.Ytpdpomjgfmdjfaa.Z
open Go.RowKit Go.Proofs.YtpdpomjgfmdjfaaW.PrintWords Go.Proofs.YtpdpomjgfmdjfaaW.PrintLast Go.Proofs.YtpdpomjgfmdjfaaW.PrintMore
attribute [local go_sem] max2_int min2_int max_two min_two max_three min_three max_four min_four   -- for this text's walks alone
set_option linter.unusedVariables false
set_option linter.unusedSimpArgs false

/-! ### spec_CheckRegCode: function 34 -/
def spec_CheckRegCode.f (k : Nat) (a0_0 : Int) (l0_1 : List Int) (l0_2 : List S80) (l0_3 : List Int) (a1_0 : Int) (l1_1 : List S117) (l1_2 : List Int) : Option (Bool × Bool) := (spec_rePlan.f k a0_0 l0_1 l0_2 l0_3).bind fun bt => if bt.2.2.2 = true then (spec_plGood.f k a1_0 l1_1 l1_2).bind fun t => if t = true then (spec_SamePowers.f k bt.1 bt.2.1 bt.2.2.1 a1_0 l1_1 l1_2).bind fun s => some (s.1, s.2) else some (false, false) else some (false, false)
theorem spec_CheckRegCode.mono : ∀ a0 a1 a2 a3 a4 a5 a6 k, LeO (spec_CheckRegCode.f k a0 a1 a2 a3 a4 a5 a6) (spec_CheckRegCode.f (k + 1) a0 a1 a2 a3 a4 a5 a6) := by
 intro a0 a1 a2 a3 a4 a5 a6 k
 unfold spec_CheckRegCode.f
 exact LeO.bind (spec_rePlan.mono _ _ _ _ _) (fun _ => LeO.ite (LeO.bind (spec_plGood.mono _ _ _ _) (fun _ => LeO.ite (LeO.bind (spec_SamePowers.mono _ _ _ _ _ _ _) (fun _ => LeO.refl _)) (LeO.refl _))) (LeO.refl _))
set_option maxHeartbeats 16000000 in
set_option maxRecDepth 100000 in
theorem spec_CheckRegCode.no1 (k : Nat) (a0_0 : Int) (A0_1 : Option Addr) (c0_1 : Nat) (l0_1 : List Int) (A0_2 : Option Addr) (c0_2 : Nat) (l0_2 : List S80) (A0_3 : Option Addr) (c0_3 : Nat) (l0_3 : List Int) (a1_0 : Int) (A1_1 : Option Addr) (c1_1 : Nat) (l1_1 : List S117) (A1_2 : Option Addr) (c1_2 : Nat) (l1_2 : List Int) (p1 : Int) (p2 : List S117) (p3 : List Int) (w : World) (hr0_1 : Kd.C (Kd.int .i64) w A0_1 l0_1.length l0_1) (hc0_1 : l0_1.length ≤ c0_1) (hr0_2 : Kd.C k80 w A0_2 l0_2.length l0_2) (hc0_2 : l0_2.length ≤ c0_2) (hr0_3 : Kd.C (Kd.int .i64) w A0_3 l0_3.length l0_3) (hc0_3 : l0_3.length ≤ c0_3) (hr1_1 : Kd.C k117 w A1_1 l1_1.length l1_1) (hc1_1 : l1_1.length ≤ c1_1) (hr1_2 : Kd.C (Kd.int .i64) w A1_2 l1_2.length l1_2) (hc1_2 : l1_2.length ≤ c1_2) (hx : spec_rePlan.f k a0_0 l0_1 l0_2 l0_3 = some (p1, p2, p3, false)) :
  Calls Try.prog 34 #[.agg #[.int .i64 a0_0, .slice A0_1 l0_1.length c0_1, .slice A0_2 l0_2.length c0_2, .slice A0_3 l0_3.length c0_3], .agg #[.int .i64 a1_0, .slice A1_1 l1_1.length c1_1, .slice A1_2 l1_2.length c1_2]] w fun e w' => e = .returned (.tuple #[.bool false, .bool false]) ∧ Below w.heap.size w w' := by
 have hu30 := Try.underlying30
 have hu36 := Try.underlying36
 have HC1 := Aside0.mk hr0_1
 have HC2 := Aside0.mk hr0_2
 have HC3 := Aside0.mk hr0_3
 have HP1 := Aside0.mk hr1_1
 have HP2 := Aside0.mk hr1_2
 have HN := Aside0.mk (And.intro hc0_1 (And.intro hc0_2 (And.intro hc0_3 (And.intro hc1_1 hc1_2))))
 clear hr0_1 hc0_1 hr0_2 hc0_2 hr0_3 hc0_3 hr1_1 hc1_1 hr1_2 hc1_2
 have HX := Aside0.mk hx
 clear hx
 go_enter Try.func34, Try.ntmps34
 go_wp2_with (first | ((with_reducible refine zaf (N := 2) rfl ?_); refine zad ?hg (N := 2) ?hd (cs := #[.int .i64 a0_0, .slice A0_1 l0_1.length c0_1, .slice A0_2 l0_2.length c0_2, .slice A0_3 l0_3.length c0_3]) (t := 30) ?hr ?_; (case hd => rfl); (case hg => rfl); (case hr => first | (go_simp; done) | (go_simp; rfl)); intro g2 hg_ w1 hbox_ hb_; have H1 := Aside0.mk (((Fr.start w)).zb6 hbox_ hb_ hg_); clear hbox_ hb_ hg_) | ((with_reducible refine zaf (N := 3) rfl ?_); refine zad ?hg (N := 3) ?hd (cs := #[.int .i64 a1_0, .slice A1_1 l1_1.length c1_1, .slice A1_2 l1_2.length c1_2]) (t := 36) ?hr ?_; (case hd => rfl); (case hg => rfl); (case hr => first | (go_simp; done) | (go_simp; rfl)); intro g3 hg_ w2 hbox_ hb_; have H2 := Aside0.mk ((H1.out).zb6 hbox_ hb_ hg_); clear hbox_ hb_ hg_; have xg2_0 : w2.cell? ⟨g2, 0, none⟩ = some (.int .i64 a0_0) := (H2.out).za5 (i := 1) rfl 0 rfl; have fg2_0 := za0 ((H2.out).zai (i := 1) rfl) 0; have xg2_1 : w2.cell? ⟨g2, 1, none⟩ = some (.slice A0_1 l0_1.length c0_1) := (H2.out).za5 (i := 1) rfl 1 rfl; have fg2_1 := za0 ((H2.out).zai (i := 1) rfl) 1; have xg2_2 : w2.cell? ⟨g2, 2, none⟩ = some (.slice A0_2 l0_2.length c0_2) := (H2.out).za5 (i := 1) rfl 2 rfl; have fg2_2 := za0 ((H2.out).zai (i := 1) rfl) 2; have xg2_3 : w2.cell? ⟨g2, 3, none⟩ = some (.slice A0_3 l0_3.length c0_3) := (H2.out).za5 (i := 1) rfl 3 rfl; have fg2_3 := za0 ((H2.out).zai (i := 1) rfl) 3; have ng3_g2 := Fr.box_ne (H2.out) (i := 0) (j := 1) (by decide) rfl rfl; have ng2_g3 := ng3_g2.symm))
 have T_ := Aside0.mk trivial
 go_wp2_with (first | (go_at_call 62; clear T_; refine (spec_rePlan.calls k a0_0 A0_1 c0_1 l0_1 A0_2 c0_2 l0_2 A0_3 c0_3 l0_3 p1 p2 p3 false _ (Kd.zac HC1.out (H2.out).bel) HN.out.1 (Kd.zac HC2.out (H2.out).bel) HN.out.2.1 (Kd.zac HC3.out (H2.out).bel) HN.out.2.2.1 HX.out).mono ?_; rintro e w3 ⟨v1_, v2_, rfl, hr1_, hr2_, hb_⟩; have H3 := Aside0.mk (Fr.pair_new (H2.out) hr1_ hr2_ hb_); obtain ⟨Aq1, cq1, rfl⟩ := Kd.zat hr1_; obtain ⟨Aq2, cq2, rfl⟩ := Kd.zat hr2_; clear hr1_ hr2_ hb_) | ((with_reducible refine zaf (N := 6) rfl ?_); refine zad ?hg (N := 6) ?hd (cs := #[.int .i64 0, .slice none 0 0, .slice none 0 0]) (t := 36) ?hr ?_; (case hd => rfl); (case hg => rfl); (case hr => first | (go_simp; done) | (go_simp; rfl)); intro g6 hg_ w4 hbox_ hb_; have H4 := Aside0.mk ((H3.out).zb6 hbox_ hb_ hg_); clear hbox_ hb_ hg_; clear xg2_0 fg2_0 xg2_1 fg2_1 xg2_2 fg2_2 xg2_3 fg2_3 ng3_g2 ng2_g3; have xg6_0 : w4.cell? ⟨g6, 0, none⟩ = some (.int .i64 0) := (H4.out).za5 (i := 0) rfl 0 rfl; have fg6_0 := za0 ((H4.out).zai (i := 0) rfl) 0; have xg6_1 : w4.cell? ⟨g6, 1, none⟩ = some (.slice none 0 0) := (H4.out).za5 (i := 0) rfl 1 rfl; have fg6_1 := za0 ((H4.out).zai (i := 0) rfl) 1; have xg6_2 : w4.cell? ⟨g6, 2, none⟩ = some (.slice none 0 0) := (H4.out).za5 (i := 0) rfl 2 rfl; have fg6_2 := za0 ((H4.out).zai (i := 0) rfl) 2))
 have h_ := (((H4.out).zas (i := 0) rfl 0 (.int .i64 p1) rfl).zas (i := 0) rfl 1 (.slice Aq1 p2.length cq1) rfl).zas (i := 0) rfl 2 (.slice Aq2 p3.length cq2) rfl
 simp only [List.set_cons_zero, List.set_cons_succ] at h_
 generalize (((w4).setCell ⟨g6, 0, none⟩ (.int .i64 p1)).setCell ⟨g6, 1, none⟩ (.slice Aq1 p2.length cq1)).setCell ⟨g6, 2, none⟩ (.slice Aq2 p3.length cq2) = w5 at h_ ⊢
 have H5 := Aside0.mk (show Fr w w (fun _ => False) [box g6 36 #[.int .i64 p1, .slice Aq1 p2.length cq1, .slice Aq2 p3.length cq2], pair2 k117 117 (.slice Aq1 p2.length cq1) p2 (Kd.int .i64) 3 (.slice Aq2 p3.length cq2) p3, box g3 36 #[.int .i64 a1_0, .slice A1_1 l1_1.length c1_1, .slice A1_2 l1_2.length c1_2], box g2 30 #[.int .i64 a0_0, .slice A0_1 l0_1.length c0_1, .slice A0_2 l0_2.length c0_2, .slice A0_3 l0_3.length c0_3]] w5 from h_)
 clear h_
 clear xg6_0 fg6_0 xg6_1 fg6_1 xg6_2 fg6_2
 go_ret2
 exact ⟨rfl, (H5.out).bel⟩
set_option maxHeartbeats 16000000 in
set_option maxRecDepth 100000 in
theorem spec_CheckRegCode.no2 (k : Nat) (a0_0 : Int) (A0_1 : Option Addr) (c0_1 : Nat) (l0_1 : List Int) (A0_2 : Option Addr) (c0_2 : Nat) (l0_2 : List S80) (A0_3 : Option Addr) (c0_3 : Nat) (l0_3 : List Int) (a1_0 : Int) (A1_1 : Option Addr) (c1_1 : Nat) (l1_1 : List S117) (A1_2 : Option Addr) (c1_2 : Nat) (l1_2 : List Int) (p1 : Int) (p2 : List S117) (p3 : List Int) (w : World) (hr0_1 : Kd.C (Kd.int .i64) w A0_1 l0_1.length l0_1) (hc0_1 : l0_1.length ≤ c0_1) (hr0_2 : Kd.C k80 w A0_2 l0_2.length l0_2) (hc0_2 : l0_2.length ≤ c0_2) (hr0_3 : Kd.C (Kd.int .i64) w A0_3 l0_3.length l0_3) (hc0_3 : l0_3.length ≤ c0_3) (hr1_1 : Kd.C k117 w A1_1 l1_1.length l1_1) (hc1_1 : l1_1.length ≤ c1_1) (hr1_2 : Kd.C (Kd.int .i64) w A1_2 l1_2.length l1_2) (hc1_2 : l1_2.length ≤ c1_2) (hx : spec_rePlan.f k a0_0 l0_1 l0_2 l0_3 = some (p1, p2, p3, true)) (hy : spec_plGood.f k a1_0 l1_1 l1_2 = some false) :
  Calls Try.prog 34 #[.agg #[.int .i64 a0_0, .slice A0_1 l0_1.length c0_1, .slice A0_2 l0_2.length c0_2, .slice A0_3 l0_3.length c0_3], .agg #[.int .i64 a1_0, .slice A1_1 l1_1.length c1_1, .slice A1_2 l1_2.length c1_2]] w fun e w' => e = .returned (.tuple #[.bool false, .bool false]) ∧ Below w.heap.size w w' := by
 have hu30 := Try.underlying30
 have hu36 := Try.underlying36
 have HC1 := Aside0.mk hr0_1
 have HC2 := Aside0.mk hr0_2
 have HC3 := Aside0.mk hr0_3
 have HP1 := Aside0.mk hr1_1
 have HP2 := Aside0.mk hr1_2
 have HN := Aside0.mk (And.intro hc0_1 (And.intro hc0_2 (And.intro hc0_3 (And.intro hc1_1 hc1_2))))
 clear hr0_1 hc0_1 hr0_2 hc0_2 hr0_3 hc0_3 hr1_1 hc1_1 hr1_2 hc1_2
 have HX := Aside0.mk hx
 have HY := Aside0.mk hy
 clear hx hy
 go_enter Try.func34, Try.ntmps34
 go_wp2_with (first | ((with_reducible refine zaf (N := 2) rfl ?_); refine zad ?hg (N := 2) ?hd (cs := #[.int .i64 a0_0, .slice A0_1 l0_1.length c0_1, .slice A0_2 l0_2.length c0_2, .slice A0_3 l0_3.length c0_3]) (t := 30) ?hr ?_; (case hd => rfl); (case hg => rfl); (case hr => first | (go_simp; done) | (go_simp; rfl)); intro g2 hg_ w1 hbox_ hb_; have H1 := Aside0.mk (((Fr.start w)).zb6 hbox_ hb_ hg_); clear hbox_ hb_ hg_) | ((with_reducible refine zaf (N := 3) rfl ?_); refine zad ?hg (N := 3) ?hd (cs := #[.int .i64 a1_0, .slice A1_1 l1_1.length c1_1, .slice A1_2 l1_2.length c1_2]) (t := 36) ?hr ?_; (case hd => rfl); (case hg => rfl); (case hr => first | (go_simp; done) | (go_simp; rfl)); intro g3 hg_ w2 hbox_ hb_; have H2 := Aside0.mk ((H1.out).zb6 hbox_ hb_ hg_); clear hbox_ hb_ hg_; have xg2_0 : w2.cell? ⟨g2, 0, none⟩ = some (.int .i64 a0_0) := (H2.out).za5 (i := 1) rfl 0 rfl; have fg2_0 := za0 ((H2.out).zai (i := 1) rfl) 0; have xg2_1 : w2.cell? ⟨g2, 1, none⟩ = some (.slice A0_1 l0_1.length c0_1) := (H2.out).za5 (i := 1) rfl 1 rfl; have fg2_1 := za0 ((H2.out).zai (i := 1) rfl) 1; have xg2_2 : w2.cell? ⟨g2, 2, none⟩ = some (.slice A0_2 l0_2.length c0_2) := (H2.out).za5 (i := 1) rfl 2 rfl; have fg2_2 := za0 ((H2.out).zai (i := 1) rfl) 2; have xg2_3 : w2.cell? ⟨g2, 3, none⟩ = some (.slice A0_3 l0_3.length c0_3) := (H2.out).za5 (i := 1) rfl 3 rfl; have fg2_3 := za0 ((H2.out).zai (i := 1) rfl) 3; have ng3_g2 := Fr.box_ne (H2.out) (i := 0) (j := 1) (by decide) rfl rfl; have ng2_g3 := ng3_g2.symm))
 have T_ := Aside0.mk trivial
 go_wp2_with (first | (go_at_call 62; clear T_; refine (spec_rePlan.calls k a0_0 A0_1 c0_1 l0_1 A0_2 c0_2 l0_2 A0_3 c0_3 l0_3 p1 p2 p3 true _ (Kd.zac HC1.out (H2.out).bel) HN.out.1 (Kd.zac HC2.out (H2.out).bel) HN.out.2.1 (Kd.zac HC3.out (H2.out).bel) HN.out.2.2.1 HX.out).mono ?_; rintro e w3 ⟨v1_, v2_, rfl, hr1_, hr2_, hb_⟩; have H3 := Aside0.mk (Fr.pair_new (H2.out) hr1_ hr2_ hb_); obtain ⟨Aq1, cq1, rfl⟩ := Kd.zat hr1_; obtain ⟨Aq2, cq2, rfl⟩ := Kd.zat hr2_; clear hr1_ hr2_ hb_) | ((with_reducible refine zaf (N := 6) rfl ?_); refine zad ?hg (N := 6) ?hd (cs := #[.int .i64 0, .slice none 0 0, .slice none 0 0]) (t := 36) ?hr ?_; (case hd => rfl); (case hg => rfl); (case hr => first | (go_simp; done) | (go_simp; rfl)); intro g6 hg_ w4 hbox_ hb_; have H4 := Aside0.mk ((H3.out).zb6 hbox_ hb_ hg_); clear hbox_ hb_ hg_; clear xg2_0 fg2_0 xg2_1 fg2_1 xg2_2 fg2_2 xg2_3 fg2_3 ng3_g2 ng2_g3; have xg6_0 : w4.cell? ⟨g6, 0, none⟩ = some (.int .i64 0) := (H4.out).za5 (i := 0) rfl 0 rfl; have fg6_0 := za0 ((H4.out).zai (i := 0) rfl) 0; have xg6_1 : w4.cell? ⟨g6, 1, none⟩ = some (.slice none 0 0) := (H4.out).za5 (i := 0) rfl 1 rfl; have fg6_1 := za0 ((H4.out).zai (i := 0) rfl) 1; have xg6_2 : w4.cell? ⟨g6, 2, none⟩ = some (.slice none 0 0) := (H4.out).za5 (i := 0) rfl 2 rfl; have fg6_2 := za0 ((H4.out).zai (i := 0) rfl) 2; have xg3_0 : w4.cell? ⟨g3, 0, none⟩ = some (.int .i64 a1_0) := (H4.out).za5 (i := 2) rfl 0 rfl; have fg3_0 := za0 ((H4.out).zai (i := 2) rfl) 0; have xg3_1 : w4.cell? ⟨g3, 1, none⟩ = some (.slice A1_1 l1_1.length c1_1) := (H4.out).za5 (i := 2) rfl 1 rfl; have fg3_1 := za0 ((H4.out).zai (i := 2) rfl) 1; have xg3_2 : w4.cell? ⟨g3, 2, none⟩ = some (.slice A1_2 l1_2.length c1_2) := (H4.out).za5 (i := 2) rfl 2 rfl; have fg3_2 := za0 ((H4.out).zai (i := 2) rfl) 2; have ng6_g3 := Fr.box_ne (H4.out) (i := 0) (j := 2) (by decide) rfl rfl; have ng3_g6 := ng6_g3.symm))
 have h_ := (((H4.out).zas (i := 0) rfl 0 (.int .i64 p1) rfl).zas (i := 0) rfl 1 (.slice Aq1 p2.length cq1) rfl).zas (i := 0) rfl 2 (.slice Aq2 p3.length cq2) rfl
 simp only [List.set_cons_zero, List.set_cons_succ] at h_
 generalize (((w4).setCell ⟨g6, 0, none⟩ (.int .i64 p1)).setCell ⟨g6, 1, none⟩ (.slice Aq1 p2.length cq1)).setCell ⟨g6, 2, none⟩ (.slice Aq2 p3.length cq2) = w5 at h_ ⊢
 have H5 := Aside0.mk (show Fr w w (fun _ => False) [box g6 36 #[.int .i64 p1, .slice Aq1 p2.length cq1, .slice Aq2 p3.length cq2], pair2 k117 117 (.slice Aq1 p2.length cq1) p2 (Kd.int .i64) 3 (.slice Aq2 p3.length cq2) p3, box g3 36 #[.int .i64 a1_0, .slice A1_1 l1_1.length c1_1, .slice A1_2 l1_2.length c1_2], box g2 30 #[.int .i64 a0_0, .slice A0_1 l0_1.length c0_1, .slice A0_2 l0_2.length c0_2, .slice A0_3 l0_3.length c0_3]] w5 from h_)
 clear h_
 clear xg6_0 fg6_0 xg6_1 fg6_1 xg6_2 fg6_2 xg3_0 fg3_0 xg3_1 fg3_1 xg3_2 fg3_2 ng6_g3 ng3_g6
 have xg3_0 : w5.cell? ⟨g3, 0, none⟩ = some (.int .i64 a1_0) := (H5.out).za5 (i := 2) rfl 0 rfl
 have fg3_0 := za0 ((H5.out).zai (i := 2) rfl) 0
 have xg3_1 : w5.cell? ⟨g3, 1, none⟩ = some (.slice A1_1 l1_1.length c1_1) := (H5.out).za5 (i := 2) rfl 1 rfl
 have fg3_1 := za0 ((H5.out).zai (i := 2) rfl) 1
 have xg3_2 : w5.cell? ⟨g3, 2, none⟩ = some (.slice A1_2 l1_2.length c1_2) := (H5.out).za5 (i := 2) rfl 2 rfl
 have fg3_2 := za0 ((H5.out).zai (i := 2) rfl) 2
 have T_ := Aside0.mk trivial
 go_wp2_with (go_at_call 72; clear T_; refine (spec_plGood.calls k a1_0 A1_1 c1_1 l1_1 A1_2 c1_2 l1_2 false _ (Kd.zac HP1.out (H5.out).bel) HN.out.2.2.2.1 (Kd.zac HP2.out (H5.out).bel) HN.out.2.2.2.2 HY.out).mono ?_; rintro e w6 ⟨rfl, hb_⟩; have H6 := Aside0.mk ((H5.out).below hb_); clear hb_; clear xg3_0 fg3_0 xg3_1 fg3_1 xg3_2 fg3_2)
 go_ret2
 exact ⟨rfl, (H6.out).bel⟩
set_option maxHeartbeats 16000000 in
set_option maxRecDepth 100000 in
theorem spec_CheckRegCode.yes (k : Nat) (a0_0 : Int) (A0_1 : Option Addr) (c0_1 : Nat) (l0_1 : List Int) (A0_2 : Option Addr) (c0_2 : Nat) (l0_2 : List S80) (A0_3 : Option Addr) (c0_3 : Nat) (l0_3 : List Int) (a1_0 : Int) (A1_1 : Option Addr) (c1_1 : Nat) (l1_1 : List S117) (A1_2 : Option Addr) (c1_2 : Nat) (l1_2 : List Int) (p1 : Int) (p2 : List S117) (p3 : List Int) (s1 s2 : Bool) (w : World) (hr0_1 : Kd.C (Kd.int .i64) w A0_1 l0_1.length l0_1) (hc0_1 : l0_1.length ≤ c0_1) (hr0_2 : Kd.C k80 w A0_2 l0_2.length l0_2) (hc0_2 : l0_2.length ≤ c0_2) (hr0_3 : Kd.C (Kd.int .i64) w A0_3 l0_3.length l0_3) (hc0_3 : l0_3.length ≤ c0_3) (hr1_1 : Kd.C k117 w A1_1 l1_1.length l1_1) (hc1_1 : l1_1.length ≤ c1_1) (hr1_2 : Kd.C (Kd.int .i64) w A1_2 l1_2.length l1_2) (hc1_2 : l1_2.length ≤ c1_2) (hx : spec_rePlan.f k a0_0 l0_1 l0_2 l0_3 = some (p1, p2, p3, true)) (hy : spec_plGood.f k a1_0 l1_1 l1_2 = some true) (hs : spec_SamePowers.f k p1 p2 p3 a1_0 l1_1 l1_2 = some (s1, s2)) :
  Calls Try.prog 34 #[.agg #[.int .i64 a0_0, .slice A0_1 l0_1.length c0_1, .slice A0_2 l0_2.length c0_2, .slice A0_3 l0_3.length c0_3], .agg #[.int .i64 a1_0, .slice A1_1 l1_1.length c1_1, .slice A1_2 l1_2.length c1_2]] w fun e w' => e = .returned (.tuple #[.bool s1, .bool s2]) ∧ Below w.heap.size w w' := by
 have hu30 := Try.underlying30
 have hu36 := Try.underlying36
 have HC1 := Aside0.mk hr0_1
 have HC2 := Aside0.mk hr0_2
 have HC3 := Aside0.mk hr0_3
 have HP1 := Aside0.mk hr1_1
 have HP2 := Aside0.mk hr1_2
 have HN := Aside0.mk (And.intro hc0_1 (And.intro hc0_2 (And.intro hc0_3 (And.intro hc1_1 hc1_2))))
 clear hr0_1 hc0_1 hr0_2 hc0_2 hr0_3 hc0_3 hr1_1 hc1_1 hr1_2 hc1_2
 have HX := Aside0.mk hx
 have HY := Aside0.mk hy
 have HS := Aside0.mk hs
 clear hx hy hs
 go_enter Try.func34, Try.ntmps34
 go_wp2_with (first | ((with_reducible refine zaf (N := 2) rfl ?_); refine zad ?hg (N := 2) ?hd (cs := #[.int .i64 a0_0, .slice A0_1 l0_1.length c0_1, .slice A0_2 l0_2.length c0_2, .slice A0_3 l0_3.length c0_3]) (t := 30) ?hr ?_; (case hd => rfl); (case hg => rfl); (case hr => first | (go_simp; done) | (go_simp; rfl)); intro g2 hg_ w1 hbox_ hb_; have H1 := Aside0.mk (((Fr.start w)).zb6 hbox_ hb_ hg_); clear hbox_ hb_ hg_) | ((with_reducible refine zaf (N := 3) rfl ?_); refine zad ?hg (N := 3) ?hd (cs := #[.int .i64 a1_0, .slice A1_1 l1_1.length c1_1, .slice A1_2 l1_2.length c1_2]) (t := 36) ?hr ?_; (case hd => rfl); (case hg => rfl); (case hr => first | (go_simp; done) | (go_simp; rfl)); intro g3 hg_ w2 hbox_ hb_; have H2 := Aside0.mk ((H1.out).zb6 hbox_ hb_ hg_); clear hbox_ hb_ hg_; have xg2_0 : w2.cell? ⟨g2, 0, none⟩ = some (.int .i64 a0_0) := (H2.out).za5 (i := 1) rfl 0 rfl; have fg2_0 := za0 ((H2.out).zai (i := 1) rfl) 0; have xg2_1 : w2.cell? ⟨g2, 1, none⟩ = some (.slice A0_1 l0_1.length c0_1) := (H2.out).za5 (i := 1) rfl 1 rfl; have fg2_1 := za0 ((H2.out).zai (i := 1) rfl) 1; have xg2_2 : w2.cell? ⟨g2, 2, none⟩ = some (.slice A0_2 l0_2.length c0_2) := (H2.out).za5 (i := 1) rfl 2 rfl; have fg2_2 := za0 ((H2.out).zai (i := 1) rfl) 2; have xg2_3 : w2.cell? ⟨g2, 3, none⟩ = some (.slice A0_3 l0_3.length c0_3) := (H2.out).za5 (i := 1) rfl 3 rfl; have fg2_3 := za0 ((H2.out).zai (i := 1) rfl) 3; have ng3_g2 := Fr.box_ne (H2.out) (i := 0) (j := 1) (by decide) rfl rfl; have ng2_g3 := ng3_g2.symm))
 have T_ := Aside0.mk trivial
 go_wp2_with (first | (go_at_call 62; clear T_; refine (spec_rePlan.calls k a0_0 A0_1 c0_1 l0_1 A0_2 c0_2 l0_2 A0_3 c0_3 l0_3 p1 p2 p3 true _ (Kd.zac HC1.out (H2.out).bel) HN.out.1 (Kd.zac HC2.out (H2.out).bel) HN.out.2.1 (Kd.zac HC3.out (H2.out).bel) HN.out.2.2.1 HX.out).mono ?_; rintro e w3 ⟨v1_, v2_, rfl, hr1_, hr2_, hb_⟩; have H3 := Aside0.mk (Fr.pair_new (H2.out) hr1_ hr2_ hb_); obtain ⟨Aq1, cq1, rfl⟩ := Kd.zat hr1_; obtain ⟨Aq2, cq2, rfl⟩ := Kd.zat hr2_; clear hr1_ hr2_ hb_) | ((with_reducible refine zaf (N := 6) rfl ?_); refine zad ?hg (N := 6) ?hd (cs := #[.int .i64 0, .slice none 0 0, .slice none 0 0]) (t := 36) ?hr ?_; (case hd => rfl); (case hg => rfl); (case hr => first | (go_simp; done) | (go_simp; rfl)); intro g6 hg_ w4 hbox_ hb_; have H4 := Aside0.mk ((H3.out).zb6 hbox_ hb_ hg_); clear hbox_ hb_ hg_; clear xg2_0 fg2_0 xg2_1 fg2_1 xg2_2 fg2_2 xg2_3 fg2_3 ng3_g2 ng2_g3; have xg6_0 : w4.cell? ⟨g6, 0, none⟩ = some (.int .i64 0) := (H4.out).za5 (i := 0) rfl 0 rfl; have fg6_0 := za0 ((H4.out).zai (i := 0) rfl) 0; have xg6_1 : w4.cell? ⟨g6, 1, none⟩ = some (.slice none 0 0) := (H4.out).za5 (i := 0) rfl 1 rfl; have fg6_1 := za0 ((H4.out).zai (i := 0) rfl) 1; have xg6_2 : w4.cell? ⟨g6, 2, none⟩ = some (.slice none 0 0) := (H4.out).za5 (i := 0) rfl 2 rfl; have fg6_2 := za0 ((H4.out).zai (i := 0) rfl) 2; have xg3_0 : w4.cell? ⟨g3, 0, none⟩ = some (.int .i64 a1_0) := (H4.out).za5 (i := 2) rfl 0 rfl; have fg3_0 := za0 ((H4.out).zai (i := 2) rfl) 0; have xg3_1 : w4.cell? ⟨g3, 1, none⟩ = some (.slice A1_1 l1_1.length c1_1) := (H4.out).za5 (i := 2) rfl 1 rfl; have fg3_1 := za0 ((H4.out).zai (i := 2) rfl) 1; have xg3_2 : w4.cell? ⟨g3, 2, none⟩ = some (.slice A1_2 l1_2.length c1_2) := (H4.out).za5 (i := 2) rfl 2 rfl; have fg3_2 := za0 ((H4.out).zai (i := 2) rfl) 2; have ng6_g3 := Fr.box_ne (H4.out) (i := 0) (j := 2) (by decide) rfl rfl; have ng3_g6 := ng6_g3.symm))
 have h_ := (((H4.out).zas (i := 0) rfl 0 (.int .i64 p1) rfl).zas (i := 0) rfl 1 (.slice Aq1 p2.length cq1) rfl).zas (i := 0) rfl 2 (.slice Aq2 p3.length cq2) rfl
 simp only [List.set_cons_zero, List.set_cons_succ] at h_
 generalize (((w4).setCell ⟨g6, 0, none⟩ (.int .i64 p1)).setCell ⟨g6, 1, none⟩ (.slice Aq1 p2.length cq1)).setCell ⟨g6, 2, none⟩ (.slice Aq2 p3.length cq2) = w5 at h_ ⊢
 have H5 := Aside0.mk (show Fr w w (fun _ => False) [box g6 36 #[.int .i64 p1, .slice Aq1 p2.length cq1, .slice Aq2 p3.length cq2], pair2 k117 117 (.slice Aq1 p2.length cq1) p2 (Kd.int .i64) 3 (.slice Aq2 p3.length cq2) p3, box g3 36 #[.int .i64 a1_0, .slice A1_1 l1_1.length c1_1, .slice A1_2 l1_2.length c1_2], box g2 30 #[.int .i64 a0_0, .slice A0_1 l0_1.length c0_1, .slice A0_2 l0_2.length c0_2, .slice A0_3 l0_3.length c0_3]] w5 from h_)
 clear h_
 clear xg6_0 fg6_0 xg6_1 fg6_1 xg6_2 fg6_2 xg3_0 fg3_0 xg3_1 fg3_1 xg3_2 fg3_2 ng6_g3 ng3_g6
 have xg3_0 : w5.cell? ⟨g3, 0, none⟩ = some (.int .i64 a1_0) := (H5.out).za5 (i := 2) rfl 0 rfl
 have fg3_0 := za0 ((H5.out).zai (i := 2) rfl) 0
 have xg3_1 : w5.cell? ⟨g3, 1, none⟩ = some (.slice A1_1 l1_1.length c1_1) := (H5.out).za5 (i := 2) rfl 1 rfl
 have fg3_1 := za0 ((H5.out).zai (i := 2) rfl) 1
 have xg3_2 : w5.cell? ⟨g3, 2, none⟩ = some (.slice A1_2 l1_2.length c1_2) := (H5.out).za5 (i := 2) rfl 2 rfl
 have fg3_2 := za0 ((H5.out).zai (i := 2) rfl) 2
 have T_ := Aside0.mk trivial
 go_wp2_with (go_at_call 72; clear T_; refine (spec_plGood.calls k a1_0 A1_1 c1_1 l1_1 A1_2 c1_2 l1_2 true _ (Kd.zac HP1.out (H5.out).bel) HN.out.2.2.2.1 (Kd.zac HP2.out (H5.out).bel) HN.out.2.2.2.2 HY.out).mono ?_; rintro e w6 ⟨rfl, hb_⟩; have H6 := Aside0.mk ((H5.out).below hb_); clear hb_; clear xg3_0 fg3_0 xg3_1 fg3_1 xg3_2 fg3_2; have xg6_0 : w6.cell? ⟨g6, 0, none⟩ = some (.int .i64 p1) := (H6.out).za5 (i := 0) rfl 0 rfl; have fg6_0 := za0 ((H6.out).zai (i := 0) rfl) 0; have xg6_1 : w6.cell? ⟨g6, 1, none⟩ = some (.slice Aq1 p2.length cq1) := (H6.out).za5 (i := 0) rfl 1 rfl; have fg6_1 := za0 ((H6.out).zai (i := 0) rfl) 1; have xg6_2 : w6.cell? ⟨g6, 2, none⟩ = some (.slice Aq2 p3.length cq2) := (H6.out).za5 (i := 0) rfl 2 rfl; have fg6_2 := za0 ((H6.out).zai (i := 0) rfl) 2; have xg3_0 : w6.cell? ⟨g3, 0, none⟩ = some (.int .i64 a1_0) := (H6.out).za5 (i := 2) rfl 0 rfl; have fg3_0 := za0 ((H6.out).zai (i := 2) rfl) 0; have xg3_1 : w6.cell? ⟨g3, 1, none⟩ = some (.slice A1_1 l1_1.length c1_1) := (H6.out).za5 (i := 2) rfl 1 rfl; have fg3_1 := za0 ((H6.out).zai (i := 2) rfl) 1; have xg3_2 : w6.cell? ⟨g3, 2, none⟩ = some (.slice A1_2 l1_2.length c1_2) := (H6.out).za5 (i := 2) rfl 2 rfl; have fg3_2 := za0 ((H6.out).zai (i := 2) rfl) 2)
 have T_ := Aside0.mk trivial
 go_wp2_with (go_at_call 73; clear T_; refine (spec_SamePowers.calls k p1 Aq1 cq1 p2 Aq2 cq2 p3 a1_0 A1_1 c1_1 l1_1 A1_2 c1_2 l1_2 s1 s2 _ ((H6.out).pair_C (i := 1) rfl).1.1 ((H6.out).pair_C (i := 1) rfl).1.2.2 ((H6.out).pair_C (i := 1) rfl).2.1 ((H6.out).pair_C (i := 1) rfl).2.2.2 (Kd.zac HP1.out (H6.out).bel) HN.out.2.2.2.1 (Kd.zac HP2.out (H6.out).bel) HN.out.2.2.2.2 HS.out).mono ?_; rintro e w7 ⟨rfl, hb_⟩; have H7 := Aside0.mk ((H6.out).below hb_); clear hb_; clear xg6_0 fg6_0 xg6_1 fg6_1 xg6_2 fg6_2 xg3_0 fg3_0 xg3_1 fg3_1 xg3_2 fg3_2)
 go_ret2
 exact ⟨rfl, (H7.out).bel⟩
theorem spec_CheckRegCode.calls (k : Nat) (a0_0 : Int) (A0_1 : Option Addr) (c0_1 : Nat) (l0_1 : List Int) (A0_2 : Option Addr) (c0_2 : Nat) (l0_2 : List S80) (A0_3 : Option Addr) (c0_3 : Nat) (l0_3 : List Int) (a1_0 : Int) (A1_1 : Option Addr) (c1_1 : Nat) (l1_1 : List S117) (A1_2 : Option Addr) (c1_2 : Nat) (l1_2 : List Int) (r1 r2 : Bool) (w : World) (hr0_1 : Kd.C (Kd.int .i64) w A0_1 l0_1.length l0_1) (hc0_1 : l0_1.length ≤ c0_1) (hr0_2 : Kd.C k80 w A0_2 l0_2.length l0_2) (hc0_2 : l0_2.length ≤ c0_2) (hr0_3 : Kd.C (Kd.int .i64) w A0_3 l0_3.length l0_3) (hc0_3 : l0_3.length ≤ c0_3) (hr1_1 : Kd.C k117 w A1_1 l1_1.length l1_1) (hc1_1 : l1_1.length ≤ c1_1) (hr1_2 : Kd.C (Kd.int .i64) w A1_2 l1_2.length l1_2) (hc1_2 : l1_2.length ≤ c1_2) (h : spec_CheckRegCode.f k a0_0 l0_1 l0_2 l0_3 a1_0 l1_1 l1_2 = some (r1, r2)) :
  Calls Try.prog 34 #[.agg #[.int .i64 a0_0, .slice A0_1 l0_1.length c0_1, .slice A0_2 l0_2.length c0_2, .slice A0_3 l0_3.length c0_3], .agg #[.int .i64 a1_0, .slice A1_1 l1_1.length c1_1, .slice A1_2 l1_2.length c1_2]] w fun e w' => e = .returned (.tuple #[.bool r1, .bool r2]) ∧ Below w.heap.size w w' := by
 unfold spec_CheckRegCode.f at h
 obtain ⟨⟨p1, p2, p3, b⟩, hx, h⟩ := Option.bind_eq_some_iff.1 h
 cases b with
 | false =>
  simp only [Bool.false_eq_true, if_false, Option.some.injEq, Prod.mk.injEq] at h
  obtain ⟨rfl, rfl⟩ := h
  exact spec_CheckRegCode.no1 k a0_0 A0_1 c0_1 l0_1 A0_2 c0_2 l0_2 A0_3 c0_3 l0_3 a1_0 A1_1 c1_1 l1_1 A1_2 c1_2 l1_2 p1 p2 p3 w hr0_1 hc0_1 hr0_2 hc0_2 hr0_3 hc0_3 hr1_1 hc1_1 hr1_2 hc1_2 hx
 | true =>
  simp only [if_true] at h
  obtain ⟨g, hy, h⟩ := Option.bind_eq_some_iff.1 h
  cases g with
  | false =>
   simp only [Bool.false_eq_true, if_false, Option.some.injEq, Prod.mk.injEq] at h
   obtain ⟨rfl, rfl⟩ := h
   exact spec_CheckRegCode.no2 k a0_0 A0_1 c0_1 l0_1 A0_2 c0_2 l0_2 A0_3 c0_3 l0_3 a1_0 A1_1 c1_1 l1_1 A1_2 c1_2 l1_2 p1 p2 p3 w hr0_1 hc0_1 hr0_2 hc0_2 hr0_3 hc0_3 hr1_1 hc1_1 hr1_2 hc1_2 hx hy
  | true =>
   simp only [if_true] at h
   obtain ⟨s, hs, h⟩ := Option.bind_eq_some_iff.1 h
   simp only [Option.some.injEq, Prod.mk.injEq] at h
   obtain ⟨rfl, rfl⟩ := h
   exact spec_CheckRegCode.yes k a0_0 A0_1 c0_1 l0_1 A0_2 c0_2 l0_2 A0_3 c0_3 l0_3 a1_0 A1_1 c1_1 l1_1 A1_2 c1_2 l1_2 p1 p2 p3 s.1 s.2 w hr0_1 hc0_1 hr0_2 hc0_2 hr0_3 hc0_3 hr1_1 hc1_1 hr1_2 hc1_2 hx hy hs

/-! ### laws_toStep: function 138 -/
def laws_toStep.f (a0_0 : Int) (a0_1 : Int) : Option (Int × Int) := some (a0_0, a0_1)
set_option maxHeartbeats 8000000 in
set_option maxRecDepth 100000 in
theorem laws_toStep.calls (a0_0 : Int) (a0_1 : Int) (r1 : Int) (r2 : Int) (w : World) (h : laws_toStep.f a0_0 a0_1 = some (r1, r2)) :
  Calls Try.prog 138 #[.agg #[.int .i64 a0_0, .int .i64 a0_1]] w fun e w' => e = .returned (.agg #[.int .i64 r1, .int .i64 r2]) ∧ Below w.heap.size w w' := by
 have hu137 := Try.underlying137
 have hu117 := Try.underlying117
 have HB := Aside0.mk (Below.refl w.heap.size w)
 have H : (some (a0_0, a0_1)) = some (r1, r2) := h
 clear h
 simp only [Option.some.injEq, Prod.mk.injEq] at H
 obtain ⟨rfl, rfl⟩ := H
 go_enter Try.func138, Try.ntmps138
 go_wp2_with (first | ((with_reducible refine zaf (N := 1) rfl ?_); refine zad ?hg (N := 1) ?hd (cs := #[.int .i64 a0_0, .int .i64 a0_1]) (t := 137) ?hr ?_; (case hd => rfl); (case hg => rfl); (case hr => first | (go_simp; done) | (go_simp; rfl)); intro gb515 hg w2 hbox hb; have n0_ := Aside0.mk (za8 bw_ hb); have n1_ := Aside0.mk (hbox); have n2_ := Aside0.mk ((by rw [hg]; exact (za6 bw_) : w.heap.size ≤ gb515)); have n3_ := Aside0.mk ((by rw [hg]; exact (za6 bw_) : w.heap.size ≤ gb515)); clear HB; have HB := n0_; have BK515 := n1_; have GW515 := n2_; have GE515 := n3_; clear n0_ n1_ n2_ n3_; clear hb hbox hg) | ((with_reducible refine zaf (N := 2) rfl ?_); refine zad ?hg (N := 2) ?hd (cs := #[.int .i64 0, .int .i64 0]) (t := 117) ?hr ?_; (case hd => rfl); (case hg => rfl); (case hr => first | (go_simp; done) | (go_simp; rfl)); intro gb516 hg w3 hbox hb; have n0_ := Aside0.mk (za7 (g := gb515) (o := .cells #[.int .i64 a0_0, .int .i64 a0_1] 137 (0, 0)) (by (with_reducible repeat (first | refine za3 ?_ _ | refine za4 ?_ | refine za2 ?_ _)); exact BK515.out) hb); have n1_ := Aside0.mk (za8 bw_ hb); have n2_ := Aside0.mk (hbox); have n3_ := Aside0.mk ((by rw [hg]; exact (za6 bw_) : w.heap.size ≤ gb516)); have n4_ := Aside0.mk ((by rw [hg]; exact (za6 bw_) : w.heap.size ≤ gb516)); have n5_ := Aside0.mk ((by rw [hg]; exact Nat.ne_of_lt (zan (g := gb515) (o := .cells #[.int .i64 a0_0, .int .i64 a0_1] 137 (0, 0)) (by (with_reducible repeat (first | refine za3 ?_ _ | refine za4 ?_ | refine za2 ?_ _)); exact BK515.out)) : gb515 ≠ gb516)); have n6_ := Aside0.mk ((by rw [hg]; exact Nat.ne_of_gt (zan (g := gb515) (o := .cells #[.int .i64 a0_0, .int .i64 a0_1] 137 (0, 0)) (by (with_reducible repeat (first | refine za3 ?_ _ | refine za4 ?_ | refine za2 ?_ _)); exact BK515.out)) : gb516 ≠ gb515)); clear BK515; clear HB; have BK515 := n0_; have HB := n1_; have BK516 := n2_; have GW516 := n3_; have GE516 := n4_; have NB515_516 := n5_; have NB516_515 := n6_; clear n0_ n1_ n2_ n3_ n4_ n5_ n6_; clear hb hbox hg) | ((with_reducible refine zaf (N := 3) rfl ?_); refine zad ?hg (N := 3) ?hd (cs := #[.int .i64 0, .int .i64 0]) (t := 117) ?hr ?_; (case hd => rfl); (case hg => rfl); (case hr => first | (go_simp; done) | (go_simp; rfl)); intro gb517 hg w4 hbox hb; have n0_ := Aside0.mk (za7 (g := gb515) (o := .cells #[.int .i64 a0_0, .int .i64 a0_1] 137 (0, 0)) (by (with_reducible repeat (first | refine za3 ?_ _ | refine za4 ?_ | refine za2 ?_ _)); exact BK515.out) hb); have n1_ := Aside0.mk (za7 (g := gb516) (o := .cells #[.int .i64 0, .int .i64 0] 117 (0, 0)) (by (with_reducible repeat (first | refine za3 ?_ _ | refine za4 ?_ | refine za2 ?_ _)); exact BK516.out) hb); have n2_ := Aside0.mk (za8 bw_ hb); have n3_ := Aside0.mk (hbox); have n4_ := Aside0.mk ((by rw [hg]; exact (za6 bw_) : w.heap.size ≤ gb517)); have n5_ := Aside0.mk ((by rw [hg]; exact (za6 bw_) : w.heap.size ≤ gb517)); have n6_ := Aside0.mk ((by rw [hg]; exact Nat.ne_of_lt (zan (g := gb515) (o := .cells #[.int .i64 a0_0, .int .i64 a0_1] 137 (0, 0)) (by (with_reducible repeat (first | refine za3 ?_ _ | refine za4 ?_ | refine za2 ?_ _)); exact BK515.out)) : gb515 ≠ gb517)); have n7_ := Aside0.mk ((by rw [hg]; exact Nat.ne_of_gt (zan (g := gb515) (o := .cells #[.int .i64 a0_0, .int .i64 a0_1] 137 (0, 0)) (by (with_reducible repeat (first | refine za3 ?_ _ | refine za4 ?_ | refine za2 ?_ _)); exact BK515.out)) : gb517 ≠ gb515)); have n8_ := Aside0.mk ((by rw [hg]; exact Nat.ne_of_lt (zan (g := gb516) (o := .cells #[.int .i64 0, .int .i64 0] 117 (0, 0)) (by (with_reducible repeat (first | refine za3 ?_ _ | refine za4 ?_ | refine za2 ?_ _)); exact BK516.out)) : gb516 ≠ gb517)); have n9_ := Aside0.mk ((by rw [hg]; exact Nat.ne_of_gt (zan (g := gb516) (o := .cells #[.int .i64 0, .int .i64 0] 117 (0, 0)) (by (with_reducible repeat (first | refine za3 ?_ _ | refine za4 ?_ | refine za2 ?_ _)); exact BK516.out)) : gb517 ≠ gb516)); clear BK515; clear BK516; clear HB; have BK515 := n0_; have BK516 := n1_; have HB := n2_; have BK517 := n3_; have GW517 := n4_; have GE517 := n5_; have NB515_517 := n6_; have NB517_515 := n7_; have NB516_517 := n8_; have NB517_516 := n9_; clear n0_ n1_ n2_ n3_ n4_ n5_ n6_ n7_ n8_ n9_; clear hb hbox hg; have hnb5 := NB515_516.out; have hnc5 := NB516_515.out; have hnb6 := NB515_517.out; have hnc6 := NB517_515.out; have hcz7_0 : w4.cell? ⟨gb515, 0, none⟩ = some (.int .i64 a0_0) := (za1 BK515.out 0).trans rfl; have hcz7_1 : w4.cell? ⟨gb515, 1, none⟩ = some (.int .i64 a0_1) := (za1 BK515.out 1).trans rfl; have hfz7_0 := za0 BK515.out 0; have hfz7_1 := za0 BK515.out 1; have hnb8 := NB517_516.out; have hnc8 := NB516_517.out; have hcz9_0 : w4.cell? ⟨gb517, 0, none⟩ = some (.int .i64 0) := (za1 BK517.out 0).trans rfl; have hcz9_1 : w4.cell? ⟨gb517, 1, none⟩ = some (.int .i64 0) := (za1 BK517.out 1).trans rfl; have hfz9_0 := za0 BK517.out 0; have hfz9_1 := za0 BK517.out 1; have hcz10_0 : w4.cell? ⟨gb516, 0, none⟩ = some (.int .i64 0) := (za1 BK516.out 0).trans rfl; have hcz10_1 : w4.cell? ⟨gb516, 1, none⟩ = some (.int .i64 0) := (za1 BK516.out 1).trans rfl; have hfz10_0 := za0 BK516.out 0; have hfz10_1 := za0 BK516.out 1))
 refine bodyPost_ret (results_cell_row rfl _ _ gb516 117 #[.int .i64 a0_0, .int .i64 a0_1] (0, 0) _ rfl (by (with_reducible repeat (first | refine za3 ?_ _ | refine za4 ?_ | refine za2 ?_ _)); refine zao (cs := #[.int .i64 a0_0, .int .i64 0]) ?_ 1 _ rfl; (with_reducible repeat (first | refine za3 ?_ _ | refine za4 ?_ | refine za2 ?_ _)); refine zao (cs := #[.int .i64 0, .int .i64 0]) ?_ 0 _ rfl; (with_reducible repeat (first | refine za3 ?_ _ | refine za4 ?_ | refine za2 ?_ _)); refine zb2 ?_ NB516_517.out _; (with_reducible repeat (first | refine za3 ?_ _ | refine za4 ?_ | refine za2 ?_ _)); refine zb2 ?_ NB516_517.out _; (with_reducible repeat (first | refine za3 ?_ _ | refine za4 ?_ | refine za2 ?_ _)); exact BK516.out) Try.underlying117 rfl (by kernel_rfl)) rfl ?_
 exact ⟨by first | rfl | (simp [zab, zaa] <;> rfl) | (simp [*, zab, zaa] <;> rfl), bw_⟩

/-! ### laws_toStepS: function 74 -/
def laws_toStepS.l0 : Nat → List (S137) → List (S117) → Int → Option ((List (S117)))
 | 0, _, _, _ => none
 | k + 1, x0, x3, x4 => if x4 < (x0.length : Int) then (if 0 ≤ x4 then ((laws_toStep.f ((rd_T137 x0 x4).f0) ((rd_T137 x0 x4).f1)).bind fun bt522 => (if x4 < (x3.length : Int) then (laws_toStepS.l0 k x0 (x3.set (x4 : Int).toNat (⟨bt522.1, bt522.2⟩ : S117)) (wrap64 (x4 + 1))) else (none))) else (none)) else (some x3)
def laws_toStepS.f (k : Nat) (l0 : List (S137)) : Option ((List (S117))) := if 0 ≤ (l0.length : Int) then (if ((l0.length : Int) : Int).toNat ≤ 17592186044416 then (laws_toStepS.l0 k l0 (List.replicate ((l0.length : Int) : Int).toNat z117) 0) else (none)) else (none)
theorem laws_toStepS.zb5 : ∀ k, (∀ y0 y1 y2, LeO (laws_toStepS.l0 k y0 y1 y2) (laws_toStepS.l0 (k + 1) y0 y1 y2))
 | 0 => fun _ _ _ r h => by simp [laws_toStepS.l0] at h
 | k + 1 => by
  have ih0 := laws_toStepS.zb5 k
  ·intro y0 y1 y2
   unfold laws_toStepS.l0
   repeat' first
   | (with_reducible exact ih0 _ _ _)
   | (with_reducible exact LeO.refl _)
   | (with_reducible exact LeO.none _)
   | (with_reducible refine LeO.ite ?_ ?_)
   | (with_reducible refine LeO.bind ?_ (fun _ => ?_))
   | exact ih0 _ _ _
   | exact LeO.none _
   | refine LeO.ite ?_ ?_
   | refine LeO.bind ?_ (fun _ => ?_)
theorem laws_toStepS.mono : ∀ a0 k, LeO (laws_toStepS.f k a0) (laws_toStepS.f (k + 1) a0) := by
 intro a0 k
 have ih0 := laws_toStepS.zb5 k
 unfold laws_toStepS.f
 repeat' first
   | (with_reducible exact ih0 _ _ _)
   | (with_reducible exact LeO.refl _)
   | (with_reducible exact LeO.none _)
   | (with_reducible refine LeO.ite ?_ ?_)
   | (with_reducible refine LeO.bind ?_ (fun _ => ?_))
   | exact ih0 _ _ _
   | exact LeO.none _
   | refine LeO.ite ?_ ?_
   | refine LeO.bind ?_ (fun _ => ?_)
set_option maxHeartbeats 8000000 in
set_option maxRecDepth 100000 in
theorem laws_toStepS.calls (k : Nat) (A0 : Option Addr) (c0 : Nat) (l0 : List (S137)) (r : List (S117)) (w : World) (hr0 : Kd.C k137 w A0 l0.length l0) (hc0 : l0.length ≤ c0) (h : laws_toStepS.f k l0 = some r) :
  Calls Try.prog 74 #[.slice A0 l0.length c0] w fun e w' => ∃ v0_ : Value, e = .returned (v0_) ∧ Kd.R k117 117 w' w.heap.size (fun _ => True) v0_ r ∧ Below w.heap.size w w' := by
 have hu137 := Try.underlying137
 have hu117 := Try.underlying117
 have HR0 := Aside0.mk hr0
 have HC0 := Aside0.mk hc0
 clear hr0 hc0
 have HB := Aside0.mk (Below.refl w.heap.size w)
 have H : (if 0 ≤ (l0.length : Int) then (if ((l0.length : Int) : Int).toNat ≤ 17592186044416 then (laws_toStepS.l0 k l0 (List.replicate ((l0.length : Int) : Int).toNat z117) 0) else (none)) else (none)) = some r := h
 clear h
 by_cases c2 : 0 ≤ (l0.length : Int)
 ·rw [if_pos c2] at H
  have c2b0 := eq_true c2
  have c2b1 : decide (0 ≤ (l0.length : Int)) = true := decide_eq_true c2
  clear c2
  by_cases c3 : ((l0.length : Int) : Int).toNat ≤ 17592186044416
  ·rw [if_pos c3] at H
   have c3b0 := eq_true c3
   have c3b1 : decide (((l0.length : Int) : Int).toNat ≤ 17592186044416) = true := decide_eq_true c3
   clear c3
   obtain ⟨y518, hy518⟩ : ∃ y_ : List (S117), y_ = (List.replicate ((l0.length : Int) : Int).toNat z117) := ⟨_, rfl⟩
   replace H : (laws_toStepS.l0 k l0 y518 0) = some r := by first | (rw [hy518]; with_reducible exact H) | (have H2_ := (Option.bind_some _ _).symm.trans H; rw [hy518]; with_reducible exact H2_) | (have H2_ := (Option.bind_some _ _).symm.trans H; with_reducible exact H2_) | with_reducible exact H | (rw [hy518]; exact H) | exact H
   have Ny518 := Aside0.mk hy518
   clear hy518
   have H' := Aside0.mk H
   clear H
   go_enter Try.func74, Try.ntmps74
   go_wp2_with (first | ((with_reducible refine zaf (N := 7) rfl ?_); refine Kd.R_make k117 _ 117 rfl (N := 7) rfl 34 _ _ rfl (l0.length : Int) rfl rfl Try.underlying34 (.agg #[(.int .i64 0), (.int .i64 0)]) 16 info117 rfl (by decide) (by omega) z117 (ok := fun _ => True) (okp := fun _ => True) (k117_mkM _ _ _ z117 ) (fun _ hk => hk) trivial (of_decide_eq_true (by first | (with_reducible assumption) | assumption)) (Nat.le_trans (Nat.mul_le_mul_right _ (of_decide_eq_true (by first | (with_reducible assumption) | assumption) : (l0.length : Int).toNat ≤ 17592186044416)) (by omega)) (Below.refl _ _) (Nat.le_refl _) ?_; intro v519 w4 ho5 hb hg_ hnew_; clear hg_ hnew_; (first | rw [← Ny518.out] at ho5 | (simp only [Int.reduceToNat] at ho5; rw [← Ny518.out] at ho5)); have n0_ := Aside0.mk (Kd.R_lower ho5 (za6 bw_)); have n1_ := Aside0.mk (za8 bw_ hb); clear HB; have HO520 := n0_; have HB := n1_; clear n0_ n1_; clear hb ho5))
   go_loopg [4] k (fun kq v4 w' => ∃ (x3_1 : List (S117)) (x4_1 : Int), v4 = .int .i64 x4_1 ∧ Aside0 (laws_toStepS.l0 kq l0 x3_1 x4_1 = some r) ∧ Aside0 (kq ≤ k) ∧ Aside0 (Kd.R k117 117 w' w.heap.size (fun _ => True) v519 x3_1) ∧ Aside0 (Below w.heap.size w w'))
   case atStart => exact ⟨(y518), (0), (by first | rfl | (simp; done) | (simp [*]; done)), H', ⟨Nat.le_refl _⟩, ⟨by (with_reducible repeat (first | apply Kd.zaj | apply Kd.zak | apply Kd.zam)); exact HO520.out⟩, ⟨bw_⟩⟩
   case round =>
    clear H'
    try clear c2
    try clear c2b0
    try clear c2b1
    try clear p2
    try clear c3
    try clear c3b0
    try clear c3b1
    obtain ⟨x3_1, x4_1, rfl, HA, HK1, HO_3, HB⟩ := hrel
    cases gk with
    | zero => exact absurd HA.out (by simp [laws_toStepS.l0])
    | succ k1 =>
     have H := HA.out
     clear HA
     simp only [laws_toStepS.l0] at H
     by_cases c6 : x4_1 < (l0.length : Int)
     ·rw [if_pos c6] at H
      have c6b0 : decide (x4_1 < (l0.length : Int)) = true := decide_eq_true c6
      clear c6
      by_cases c7 : 0 ≤ x4_1
      ·rw [if_pos c7] at H
       have c7b0 : decide (0 ≤ x4_1) = true := decide_eq_true c7
       clear c7
       replace H := Option.bind_eq_some_iff.mp H
       obtain ⟨⟨t522, t523⟩, A80, H⟩ := H
       replace H : (if x4_1 < (x3_1.length : Int) then (laws_toStepS.l0 k1 l0 (x3_1.set (x4_1 : Int).toNat (⟨t522, t523⟩ : S117)) (wrap64 (x4_1 + 1))) else (none)) = some r := H
       have A8 := Aside0.mk A80
       clear A80
       by_cases c9 : x4_1 < (x3_1.length : Int)
       ·rw [if_pos c9] at H
        have c9b0 : decide (x4_1 < (x3_1.length : Int)) = true := decide_eq_true c9
        clear c9
        obtain ⟨y524, hy524⟩ : ∃ y_ : List (S117), y_ = (x3_1.set (x4_1 : Int).toNat (⟨t522, t523⟩ : S117)) := ⟨_, rfl⟩
        replace H : (laws_toStepS.l0 k1 l0 y524 (wrap64 (x4_1 + 1))) = some r := by first | (rw [hy524]; with_reducible exact H) | (have H2_ := (Option.bind_some _ _).symm.trans H; rw [hy524]; with_reducible exact H2_) | (have H2_ := (Option.bind_some _ _).symm.trans H; with_reducible exact H2_) | with_reducible exact H | (rw [hy524]; exact H) | exact H
        have Ny524 := Aside0.mk hy524
        clear hy524
        have H' := Aside0.mk H
        clear H
        have p521 : 0 ≤ (x4_1 : Int) := of_decide_eq_true (by first | (with_reducible assumption) | assumption)
        have q521 : x4_1 < (l0.length : Int) := of_decide_eq_true (by first | (with_reducible assumption) | assumption)
        obtain ⟨ad521, e521, hx521_0, hx521_1⟩ := at_T137 HR0.out x4_1 p521 q521
        cases e521
        replace hx521_0 := (HB.out.cell (World.block_lt_of_cell? w _ hx521_0)).trans hx521_0
        replace hx521_1 := (HB.out.cell (World.block_lt_of_cell? w _ hx521_1)).trans hx521_1
        replace p521 := eq_true p521
        replace q521 := eq_true q521
        go_wp2_with (first | ((with_reducible refine zah (f := 138) rfl ?_); refine zaz (some 20) rfl rfl Try.func138 (by kernel_rfl) rfl #[.agg #[.int .i64 ((rd_T137 l0 x4_1).f0), .int .i64 ((rd_T137 l0 x4_1).f1)]] rfl (by (try simp only [List.map_toArray, List.map_cons, List.map_nil]); first | done | rfl | (simp only [List.length_drop, List.length_take]; rfl)) ?_; (with_reducible refine (laws_toStep.calls ((rd_T137 l0 x4_1).f0) ((rd_T137 l0 x4_1).f1) t522 t523 _ A8.out).mono ?_); rintro e w11 ⟨rfl, hb⟩; refine ⟨_, rfl, ?_⟩; have n0_ := Aside0.mk (Kd.zba (by (with_reducible repeat (first | apply Kd.zaj | apply Kd.zak | apply Kd.zam)); exact HO_3.out) hb); have n1_ := Aside0.mk (za8 bw_ hb); clear HO_3; clear HB; have HO_3 := n0_; have HB := n1_; clear n0_ n1_; (try clear hb); (try clear hb2); (try clear hk); (try clear hi); have p10 : 0 ≤ (x4_1 : Int) := of_decide_eq_true (by first | (with_reducible assumption) | assumption); have q10 : (x4_1 : Int) < ((x3_1.length : Int) : Int) := of_decide_eq_true (by first | (with_reducible assumption) | assumption); obtain ⟨go10, co10, eo10, gb10, gl10, cl10, HG10⟩ := Kd.R_form HO_3.out (by omega); (first | cases eo10 | (injection eo10 with ea_ en_ ec_; (first | subst ea_ | (injection ea_ with ea_; subst ea_)); subst ec_; clear en_)); have GB10 := Aside0.mk gb10; have GG10 := Aside0.mk HG10; clear gb10 gl10 HG10; obtain ⟨ce10, hcl10, hM10, hcc10, hfr10⟩ := Kd.R_elem HO_3.out z117 (x4_1 : Int) p10 q10; obtain rfl := k117_openM hM10; have hx10_0 : w11.cell? ⟨go10, (x4_1 : Int).toNat * 2, none⟩ = some (.int .i64 ((za9 x3_1 x4_1).f0)) := hcc10 0 _ rfl; have hx10_1 : w11.cell? ⟨go10, (x4_1 : Int).toNat * 2 + 1, none⟩ = some (.int .i64 ((za9 x3_1 x4_1).f1)) := hcc10 1 _ rfl; have hf10_0 : w11.frozen? ⟨go10, (x4_1 : Int).toNat * 2, none⟩ = false := hfr10 0; have hf10_1 : w11.frozen? ⟨go10, (x4_1 : Int).toNat * 2 + 1, none⟩ = false := hfr10 1; clear hcl10 hcc10 hfr10 hM10; replace p10 := eq_true p10; replace q10 := eq_true q10; have HX12 := Aside0.mk (show Kd.R k117 117 w11 w.heap.size (fun _ => True) (.slice (some ⟨go10, 0, none⟩) x3_1.length co10) x3_1 from (by (with_reducible repeat (first | apply Kd.zaj | apply Kd.zak | apply Kd.zam)); exact HO_3.out)); obtain ⟨ce12, hcl12, hM12, hcc12, hfr12⟩ := Kd.R_elem HX12.out z117 (x4_1 : Int) (of_decide_eq_true (by first | (with_reducible assumption) | assumption)) (by have h_ : (x4_1 : Int) < ((x3_1.length : Int) : Int) := of_decide_eq_true (by first | (with_reducible assumption) | assumption); first | exact h_ | (have e_ := (Kd.R_reads' HO_3.out).1; omega) | simpa using h_); obtain rfl := k117_openM hM12; have HP12 := Kd.R_seg HX12.out (x4_1 : Int) (of_decide_eq_true (by first | (with_reducible assumption) | assumption)) (by have h_ : (x4_1 : Int) < ((x3_1.length : Int) : Int) := of_decide_eq_true (by first | (with_reducible assumption) | assumption); first | exact h_ | (have e_ := (Kd.R_reads' HO_3.out).1; omega) | simpa using h_) (seg := [.int .i64 t522, .int .i64 t523]) (j := 0) hcl12 hcc12 (show 2 ≤ 2 from by decide) (x' := (⟨t522, t523⟩ : S117)) (k117_mkM _ _ _ (⟨t522, t523⟩ : S117) ) (fun _ hk => hk); have hx12_0 := hcc12 0 _ rfl; (try simp only [show (k117).sz = 2 from rfl, Nat.mul_one, Nat.add_zero] at hx12_0); have hf12_0 := hfr12 0; (try simp only [show (k117).sz = 2 from rfl, Nat.mul_one, Nat.add_zero] at hf12_0); have hx12_1 := hcc12 1 _ rfl; (try simp only [show (k117).sz = 2 from rfl, Nat.mul_one, Nat.add_zero] at hx12_1); have hf12_1 := hfr12 1; (try simp only [show (k117).sz = 2 from rfl, Nat.mul_one, Nat.add_zero] at hf12_1); clear hcl12 hcc12 hfr12 hM12) | ((with_reducible refine gate_store (t := 117) (p := 21) rfl ?_); refine store_event (t := 117) (p := 21) (v := ?vo_w13) (w1 := ((w11.setCell ⟨go10, (x4_1 : Int).toNat * 2, none⟩ (.int .i64 t522)).setCell ⟨go10, (x4_1 : Int).toNat * 2 + 1, none⟩ (.int .i64 t523))) ?hg ?ho ?hn ?hr ?_; (case ho => rfl); (case hg => rfl); (case hn => rfl); (case hr => first | (go_simp; done) | (go_simp; rfl)); intro w13 hw; have hg : w11.grownBy w13 (some go10) := (by rw [hw]; exact HP12.2); have hp_ : Kd.R k117 117 w13 w.heap.size (fun _ => True) (.slice (some ⟨go10, 0, none⟩) x3_1.length co10) y524 := (by rw [hw, Ny524.out]; exact HP12.1); clear HP12; have n0_ := Aside0.mk (hp_); have n1_ := Aside0.mk ((by rw [hw]; exact below_set (below_set (HB.out) GB10.out) GB10.out : Below w.heap.size w w13)); clear HO_3; clear HB; have HO_3 := n0_; have HB := n1_; clear n0_ n1_; clear hg hw hp_))
        go_roundg k1
        case measure => have := HK1.out; omega
        case rel => exact ⟨(y524), (wrap64 (x4_1 + 1)), (by first | rfl | (simp; done) | (simp [*]; done)), H', ⟨by have := HK1.out; omega⟩, ⟨by (with_reducible repeat (first | apply Kd.zaj | apply Kd.zak | apply Kd.zam)); exact HO_3.out⟩, ⟨bw_⟩⟩
       ·rw [if_neg c9] at H
        exact absurd H (by simp)
      ·rw [if_neg c7] at H
       exact absurd H (by simp)
     ·rw [if_neg c6] at H
      have c6b0 : decide (x4_1 < (l0.length : Int)) = false := decide_eq_false c6
      clear c6
      obtain rfl := Option.some.inj H
      go_wp2
      go_ret
      exact ⟨_, by first | rfl | (simp [zab, zaa] <;> rfl) | (simp [*, zab, zaa] <;> rfl), by (with_reducible repeat (first | apply Kd.zaj | apply Kd.zak | apply Kd.zam)); exact HO_3.out, bw_⟩
  ·rw [if_neg c3] at H
   exact absurd H (by simp)
 ·rw [if_neg c2] at H
  exact absurd H (by simp)

/-! ### laws_toPlan: function 35 -/
def laws_toPlan.f (k : Nat) (a0_0 : Int) (l0_1 : List (S137)) (l0_2 : List Int) : Option (Int × (List (S117)) × List Int) := (laws_toStepS.f k l0_1).bind fun t528 => ((laws_toIntS.f k l0_2).bind fun t531 => (some (a0_0, t528, t531)))
theorem laws_toPlan.mono : ∀ a0 a1 a2 k, LeO (laws_toPlan.f k a0 a1 a2) (laws_toPlan.f (k + 1) a0 a1 a2) := by
 intro a0 a1 a2 k
 unfold laws_toPlan.f
 repeat' first
   | (with_reducible exact laws_toIntS.mono _ _)
   | (with_reducible exact laws_toStepS.mono _ _)
   | (with_reducible exact LeO.refl _)
   | (with_reducible exact LeO.none _)
   | (with_reducible refine LeO.ite ?_ ?_)
   | (with_reducible refine LeO.bind ?_ (fun _ => ?_))
   | exact laws_toIntS.mono _ _
   | exact laws_toStepS.mono _ _
   | exact LeO.none _
   | refine LeO.ite ?_ ?_
   | refine LeO.bind ?_ (fun _ => ?_)
set_option maxHeartbeats 8000000 in
set_option maxRecDepth 100000 in
theorem laws_toPlan.calls (k : Nat) (a0_0 : Int) (A0_1 : Option Addr) (c0_1 : Nat) (l0_1 : List (S137)) (A0_2 : Option Addr) (c0_2 : Nat) (l0_2 : List Int) (r1 : Int) (r2 : List (S117)) (r3 : List Int) (w : World) (hr0_1 : Kd.C k137 w A0_1 l0_1.length l0_1) (hc0_1 : l0_1.length ≤ c0_1) (hr0_2 : Kd.C (Kd.int .i64) w A0_2 l0_2.length l0_2) (hc0_2 : l0_2.length ≤ c0_2) (h : laws_toPlan.f k a0_0 l0_1 l0_2 = some (r1, r2, r3)) :
  Calls Try.prog 35 #[.agg #[.int .i64 a0_0, .slice A0_1 l0_1.length c0_1, .slice A0_2 l0_2.length c0_2]] w fun e w' => ∃ v1_ v2_ : Value, e = .returned (.agg #[.int .i64 r1, v1_, v2_]) ∧ Kd.R k117 117 w' w.heap.size (fun _ => True) v1_ r2 ∧ Kd.R (Kd.int .i64) 3 w' w.heap.size (fun _ => True) v2_ r3 ∧ Below w.heap.size w w' := by
 have hu50 := Try.underlying50
 have hu36 := Try.underlying36
 have HR0_1 := Aside0.mk hr0_1
 have HC0_1 := Aside0.mk hc0_1
 clear hr0_1 hc0_1
 have HR0_2 := Aside0.mk hr0_2
 have HC0_2 := Aside0.mk hc0_2
 clear hr0_2 hc0_2
 have HB := Aside0.mk (Below.refl w.heap.size w)
 have H : ((laws_toStepS.f k l0_1).bind fun t528 => ((laws_toIntS.f k l0_2).bind fun t531 => (some (a0_0, t528, t531)))) = some (r1, r2, r3) := h
 clear h
 replace H := Option.bind_eq_some_iff.mp H
 obtain ⟨t528, A20, H⟩ := H
 replace H : ((laws_toIntS.f k l0_2).bind fun t531 => (some (a0_0, t528, t531))) = some (r1, r2, r3) := H
 have A2 := Aside0.mk A20
 clear A20
 replace H := Option.bind_eq_some_iff.mp H
 obtain ⟨t531, A30, H⟩ := H
 replace H : (some (a0_0, t528, t531)) = some (r1, r2, r3) := H
 have A3 := Aside0.mk A30
 clear A30
 simp only [Option.some.injEq, Prod.mk.injEq] at H
 obtain ⟨rfl, rfl, rfl⟩ := H
 go_enter Try.func35, Try.ntmps35
 go_wp2_with (first | ((with_reducible refine zaf (N := 1) rfl ?_); refine zad ?hg (N := 1) ?hd (cs := #[.int .i64 a0_0, .slice A0_1 l0_1.length c0_1, .slice A0_2 l0_2.length c0_2]) (t := 50) ?hr ?_; (case hd => rfl); (case hg => rfl); (case hr => first | (go_simp; done) | (go_simp; rfl)); intro gb525 hg w4 hbox hb; have n0_ := Aside0.mk (za8 bw_ hb); have n1_ := Aside0.mk (hbox); have n2_ := Aside0.mk ((by rw [hg]; exact (za6 bw_) : w.heap.size ≤ gb525)); have n3_ := Aside0.mk ((by rw [hg]; exact (za6 bw_) : w.heap.size ≤ gb525)); clear HB; have HB := n0_; have BK525 := n1_; have GW525 := n2_; have GE525 := n3_; clear n0_ n1_ n2_ n3_; clear hb hbox hg) | ((with_reducible refine zaf (N := 2) rfl ?_); refine zad ?hg (N := 2) ?hd (cs := #[.int .i64 0, .slice none 0 0, .slice none 0 0]) (t := 36) ?hr ?_; (case hd => rfl); (case hg => rfl); (case hr => first | (go_simp; done) | (go_simp; rfl)); intro gb526 hg w5 hbox hb; have n0_ := Aside0.mk (za7 (g := gb525) (o := .cells #[.int .i64 a0_0, .slice A0_1 l0_1.length c0_1, .slice A0_2 l0_2.length c0_2] 50 (0, 0)) (by (with_reducible repeat (first | refine za3 ?_ _ | refine za4 ?_ | refine za2 ?_ _)); exact BK525.out) hb); have n1_ := Aside0.mk (za8 bw_ hb); have n2_ := Aside0.mk (hbox); have n3_ := Aside0.mk ((by rw [hg]; exact (za6 bw_) : w.heap.size ≤ gb526)); have n4_ := Aside0.mk ((by rw [hg]; exact (za6 bw_) : w.heap.size ≤ gb526)); have n5_ := Aside0.mk ((by rw [hg]; exact Nat.ne_of_lt (zan (g := gb525) (o := .cells #[.int .i64 a0_0, .slice A0_1 l0_1.length c0_1, .slice A0_2 l0_2.length c0_2] 50 (0, 0)) (by (with_reducible repeat (first | refine za3 ?_ _ | refine za4 ?_ | refine za2 ?_ _)); exact BK525.out)) : gb525 ≠ gb526)); have n6_ := Aside0.mk ((by rw [hg]; exact Nat.ne_of_gt (zan (g := gb525) (o := .cells #[.int .i64 a0_0, .slice A0_1 l0_1.length c0_1, .slice A0_2 l0_2.length c0_2] 50 (0, 0)) (by (with_reducible repeat (first | refine za3 ?_ _ | refine za4 ?_ | refine za2 ?_ _)); exact BK525.out)) : gb526 ≠ gb525)); clear BK525; clear HB; have BK525 := n0_; have HB := n1_; have BK526 := n2_; have GW526 := n3_; have GE526 := n4_; have NB525_526 := n5_; have NB526_525 := n6_; clear n0_ n1_ n2_ n3_ n4_ n5_ n6_; clear hb hbox hg) | ((with_reducible refine zaf (N := 3) rfl ?_); refine zad ?hg (N := 3) ?hd (cs := #[.int .i64 0, .slice none 0 0, .slice none 0 0]) (t := 36) ?hr ?_; (case hd => rfl); (case hg => rfl); (case hr => first | (go_simp; done) | (go_simp; rfl)); intro gb527 hg w6 hbox hb; have n0_ := Aside0.mk (za7 (g := gb525) (o := .cells #[.int .i64 a0_0, .slice A0_1 l0_1.length c0_1, .slice A0_2 l0_2.length c0_2] 50 (0, 0)) (by (with_reducible repeat (first | refine za3 ?_ _ | refine za4 ?_ | refine za2 ?_ _)); exact BK525.out) hb); have n1_ := Aside0.mk (za7 (g := gb526) (o := .cells #[.int .i64 0, .slice none 0 0, .slice none 0 0] 36 (0, 0)) (by (with_reducible repeat (first | refine za3 ?_ _ | refine za4 ?_ | refine za2 ?_ _)); exact BK526.out) hb); have n2_ := Aside0.mk (za8 bw_ hb); have n3_ := Aside0.mk (hbox); have n4_ := Aside0.mk ((by rw [hg]; exact (za6 bw_) : w.heap.size ≤ gb527)); have n5_ := Aside0.mk ((by rw [hg]; exact (za6 bw_) : w.heap.size ≤ gb527)); have n6_ := Aside0.mk ((by rw [hg]; exact Nat.ne_of_lt (zan (g := gb525) (o := .cells #[.int .i64 a0_0, .slice A0_1 l0_1.length c0_1, .slice A0_2 l0_2.length c0_2] 50 (0, 0)) (by (with_reducible repeat (first | refine za3 ?_ _ | refine za4 ?_ | refine za2 ?_ _)); exact BK525.out)) : gb525 ≠ gb527)); have n7_ := Aside0.mk ((by rw [hg]; exact Nat.ne_of_gt (zan (g := gb525) (o := .cells #[.int .i64 a0_0, .slice A0_1 l0_1.length c0_1, .slice A0_2 l0_2.length c0_2] 50 (0, 0)) (by (with_reducible repeat (first | refine za3 ?_ _ | refine za4 ?_ | refine za2 ?_ _)); exact BK525.out)) : gb527 ≠ gb525)); have n8_ := Aside0.mk ((by rw [hg]; exact Nat.ne_of_lt (zan (g := gb526) (o := .cells #[.int .i64 0, .slice none 0 0, .slice none 0 0] 36 (0, 0)) (by (with_reducible repeat (first | refine za3 ?_ _ | refine za4 ?_ | refine za2 ?_ _)); exact BK526.out)) : gb526 ≠ gb527)); have n9_ := Aside0.mk ((by rw [hg]; exact Nat.ne_of_gt (zan (g := gb526) (o := .cells #[.int .i64 0, .slice none 0 0, .slice none 0 0] 36 (0, 0)) (by (with_reducible repeat (first | refine za3 ?_ _ | refine za4 ?_ | refine za2 ?_ _)); exact BK526.out)) : gb527 ≠ gb526)); clear BK525; clear BK526; clear HB; have BK525 := n0_; have BK526 := n1_; have HB := n2_; have BK527 := n3_; have GW527 := n4_; have GE527 := n5_; have NB525_527 := n6_; have NB527_525 := n7_; have NB526_527 := n8_; have NB527_526 := n9_; clear n0_ n1_ n2_ n3_ n4_ n5_ n6_ n7_ n8_ n9_; clear hb hbox hg; have hnb7 := NB525_526.out; have hnc7 := NB526_525.out; have hnb8 := NB525_527.out; have hnc8 := NB527_525.out; have hcz9_0 : w6.cell? ⟨gb525, 0, none⟩ = some (.int .i64 a0_0) := (za1 BK525.out 0).trans rfl; have hcz9_1 : w6.cell? ⟨gb525, 1, none⟩ = some (.slice A0_1 l0_1.length c0_1) := (za1 BK525.out 1).trans rfl; have hcz9_2 : w6.cell? ⟨gb525, 2, none⟩ = some (.slice A0_2 l0_2.length c0_2) := (za1 BK525.out 2).trans rfl; have hfz9_0 := za0 BK525.out 0; have hfz9_1 := za0 BK525.out 1; have hfz9_2 := za0 BK525.out 2; have hnb10 := NB527_526.out; have hnc10 := NB526_527.out; have hcz11_0 : w6.cell? ⟨gb527, 0, none⟩ = some (.int .i64 0) := (za1 BK527.out 0).trans rfl; have hcz11_1 : w6.cell? ⟨gb527, 1, none⟩ = some (.slice none 0 0) := (za1 BK527.out 1).trans rfl; have hcz11_2 : w6.cell? ⟨gb527, 2, none⟩ = some (.slice none 0 0) := (za1 BK527.out 2).trans rfl; have hfz11_0 := za0 BK527.out 0; have hfz11_1 := za0 BK527.out 1; have hfz11_2 := za0 BK527.out 2) | ((with_reducible refine zah (f := 74) rfl ?_); refine zaz (some 9) rfl rfl Try.func74 (by kernel_rfl) rfl #[.slice A0_1 l0_1.length c0_1] rfl (by (try simp only [List.map_toArray, List.map_cons, List.map_nil]); first | done | rfl | (simp only [List.length_drop, List.length_take]; rfl)) ?_; (with_reducible refine (laws_toStepS.calls k _ _ l0_1 t528 _ ?side1 ?side2 A2.out).mono ?_); (case side1 => exact Kd.zac HR0_1.out bw_); (case side2 => exact HC0_1.out); rintro e w12 ⟨v529, rfl, ho0, hb⟩; refine ⟨_, rfl, ?_⟩; have n0_ := Aside0.mk (Kd.R_lower ho0 (za6 bw_)); have n1_ := Aside0.mk (za7 (g := gb525) (o := .cells #[.int .i64 a0_0, .slice A0_1 l0_1.length c0_1, .slice A0_2 l0_2.length c0_2] 50 (0, 0)) (by (with_reducible repeat (first | refine za3 ?_ _ | refine za4 ?_ | refine za2 ?_ _)); refine zb2 ?_ NB525_527.out _; (with_reducible repeat (first | refine za3 ?_ _ | refine za4 ?_ | refine za2 ?_ _)); exact BK525.out) hb); have n2_ := Aside0.mk (za7 (g := gb526) (o := .cells #[.int .i64 0, .slice none 0 0, .slice none 0 0] 36 (0, 0)) (by (with_reducible repeat (first | refine za3 ?_ _ | refine za4 ?_ | refine za2 ?_ _)); refine zb2 ?_ NB526_527.out _; (with_reducible repeat (first | refine za3 ?_ _ | refine za4 ?_ | refine za2 ?_ _)); exact BK526.out) hb); have n3_ := Aside0.mk (za7 (g := gb527) (o := .cells #[.int .i64 a0_0, .slice none 0 0, .slice none 0 0] 36 (0, 0)) (by (with_reducible repeat (first | refine za3 ?_ _ | refine za4 ?_ | refine za2 ?_ _)); refine zao (cs := #[.int .i64 0, .slice none 0 0, .slice none 0 0]) ?_ 0 _ rfl; (with_reducible repeat (first | refine za3 ?_ _ | refine za4 ?_ | refine za2 ?_ _)); exact BK527.out) hb); have n4_ := Aside0.mk (za8 bw_ hb); clear BK525; clear BK526; clear BK527; clear HB; have HO530 := n0_; have BK525 := n1_; have BK526 := n2_; have BK527 := n3_; have HB := n4_; clear n0_ n1_ n2_ n3_ n4_; (try clear hb); (try clear hb2); (try clear hk); (try clear hi); (try clear ho0); obtain ⟨Ao13, co13, eo13⟩ := Kd.zat HO530.out; subst eo13; have hcz14_0 : w12.cell? ⟨gb527, 0, none⟩ = some (.int .i64 a0_0) := (za1 BK527.out 0).trans rfl; have hcz14_1 : w12.cell? ⟨gb527, 1, none⟩ = some (.slice none 0 0) := (za1 BK527.out 1).trans rfl; have hcz14_2 : w12.cell? ⟨gb527, 2, none⟩ = some (.slice none 0 0) := (za1 BK527.out 2).trans rfl; have hfz14_0 := za0 BK527.out 0; have hfz14_1 := za0 BK527.out 1; have hfz14_2 := za0 BK527.out 2; have hcz15_0 : w12.cell? ⟨gb525, 0, none⟩ = some (.int .i64 a0_0) := (za1 BK525.out 0).trans rfl; have hcz15_1 : w12.cell? ⟨gb525, 1, none⟩ = some (.slice A0_1 l0_1.length c0_1) := (za1 BK525.out 1).trans rfl; have hcz15_2 : w12.cell? ⟨gb525, 2, none⟩ = some (.slice A0_2 l0_2.length c0_2) := (za1 BK525.out 2).trans rfl; have hfz15_0 := za0 BK525.out 0; have hfz15_1 := za0 BK525.out 1; have hfz15_2 := za0 BK525.out 2) | ((with_reducible refine zah (f := 28) rfl ?_); refine zaz (some 13) rfl rfl Try.func28 (by kernel_rfl) rfl #[.slice A0_2 l0_2.length c0_2] rfl (by (try simp only [List.map_toArray, List.map_cons, List.map_nil]); first | done | rfl | (simp only [List.length_drop, List.length_take]; rfl)) ?_; (with_reducible refine (laws_toIntS.calls k _ _ l0_2 t531 _ ?side1 ?side2 A3.out).mono ?_); (case side1 => exact Kd.zac HR0_2.out bw_); (case side2 => exact HC0_2.out); rintro e w16 ⟨v532, rfl, ho0, hb⟩; refine ⟨_, rfl, ?_⟩; have n0_ := Aside0.mk (Kd.zba (by (with_reducible repeat (first | apply Kd.zaj | apply Kd.zak | apply Kd.zam)); exact (Kd.zar (Kd.R_far (p := ⟨gb527, 1, none⟩) (Kd.R_types HO530.out BK527.out (by decide)) (fun _ hk => hk.2) (.slice Ao13 t528.length co13)) (fun _ h_ => h_.1))) hb); have n1_ := Aside0.mk (Kd.R_lower ho0 (za6 bw_)); have n2_ := Aside0.mk (za7 (g := gb525) (o := .cells #[.int .i64 a0_0, .slice A0_1 l0_1.length c0_1, .slice A0_2 l0_2.length c0_2] 50 (0, 0)) (by (with_reducible repeat (first | refine za3 ?_ _ | refine za4 ?_ | refine za2 ?_ _)); refine zb2 ?_ NB525_527.out _; (with_reducible repeat (first | refine za3 ?_ _ | refine za4 ?_ | refine za2 ?_ _)); exact BK525.out) hb); have n3_ := Aside0.mk (za7 (g := gb526) (o := .cells #[.int .i64 0, .slice none 0 0, .slice none 0 0] 36 (0, 0)) (by (with_reducible repeat (first | refine za3 ?_ _ | refine za4 ?_ | refine za2 ?_ _)); refine zb2 ?_ NB526_527.out _; (with_reducible repeat (first | refine za3 ?_ _ | refine za4 ?_ | refine za2 ?_ _)); exact BK526.out) hb); have n4_ := Aside0.mk (za7 (g := gb527) (o := .cells #[.int .i64 a0_0, .slice Ao13 t528.length co13, .slice none 0 0] 36 (0, 0)) (by (with_reducible repeat (first | refine za3 ?_ _ | refine za4 ?_ | refine za2 ?_ _)); refine zao (cs := #[.int .i64 a0_0, .slice none 0 0, .slice none 0 0]) ?_ 1 _ rfl; (with_reducible repeat (first | refine za3 ?_ _ | refine za4 ?_ | refine za2 ?_ _)); exact BK527.out) hb); have n5_ := Aside0.mk (za8 bw_ hb); clear HO530; clear BK525; clear BK526; clear BK527; clear HB; have HO530 := n0_; have HO533 := n1_; have BK525 := n2_; have BK526 := n3_; have BK527 := n4_; have HB := n5_; clear n0_ n1_ n2_ n3_ n4_ n5_; (try clear hb); (try clear hb2); (try clear hk); (try clear hi); (try clear ho0); obtain ⟨Ao17, co17, eo17⟩ := Kd.zat HO533.out; subst eo17; have hcz18_0 : w16.cell? ⟨gb527, 0, none⟩ = some (.int .i64 a0_0) := (za1 BK527.out 0).trans rfl; have hcz18_1 : w16.cell? ⟨gb527, 1, none⟩ = some (.slice Ao13 t528.length co13) := (za1 BK527.out 1).trans rfl; have hcz18_2 : w16.cell? ⟨gb527, 2, none⟩ = some (.slice none 0 0) := (za1 BK527.out 2).trans rfl; have hfz18_0 := za0 BK527.out 0; have hfz18_1 := za0 BK527.out 1; have hfz18_2 := za0 BK527.out 2; have hcz19_0 : w16.cell? ⟨gb526, 0, none⟩ = some (.int .i64 0) := (za1 BK526.out 0).trans rfl; have hcz19_1 : w16.cell? ⟨gb526, 1, none⟩ = some (.slice none 0 0) := (za1 BK526.out 1).trans rfl; have hcz19_2 : w16.cell? ⟨gb526, 2, none⟩ = some (.slice none 0 0) := (za1 BK526.out 2).trans rfl; have hfz19_0 := za0 BK526.out 0; have hfz19_1 := za0 BK526.out 1; have hfz19_2 := za0 BK526.out 2))
 refine bodyPost_ret (results_cell_row rfl _ _ gb526 36 #[.int .i64 a0_0, .slice Ao13 t528.length co13, .slice Ao17 t531.length co17] (0, 0) _ rfl (by (with_reducible repeat (first | refine za3 ?_ _ | refine za4 ?_ | refine za2 ?_ _)); refine zao (cs := #[.int .i64 a0_0, .slice Ao13 t528.length co13, .slice none 0 0]) ?_ 2 _ rfl; (with_reducible repeat (first | refine za3 ?_ _ | refine za4 ?_ | refine za2 ?_ _)); refine zao (cs := #[.int .i64 a0_0, .slice none 0 0, .slice none 0 0]) ?_ 1 _ rfl; (with_reducible repeat (first | refine za3 ?_ _ | refine za4 ?_ | refine za2 ?_ _)); refine zao (cs := #[.int .i64 0, .slice none 0 0, .slice none 0 0]) ?_ 0 _ rfl; (with_reducible repeat (first | refine za3 ?_ _ | refine za4 ?_ | refine za2 ?_ _)); refine zb2 ?_ NB526_527.out _; (with_reducible repeat (first | refine za3 ?_ _ | refine za4 ?_ | refine za2 ?_ _)); exact BK526.out) Try.underlying36 rfl (by kernel_rfl)) rfl ?_
 exact ⟨_, _, by first | rfl | (simp [zab, zaa] <;> rfl) | (simp [*, zab, zaa] <;> rfl), by (with_reducible repeat (first | apply Kd.zaj | apply Kd.zak | apply Kd.zam)); exact Kd.zar (Kd.R_far (p := ⟨gb526, 2, none⟩) (Kd.R_far (p := ⟨gb526, 1, none⟩) (Kd.R_far (p := ⟨gb526, 0, none⟩) (Kd.R_far (p := ⟨gb527, 2, none⟩) (Kd.R_types (Kd.R_types HO530.out BK527.out (by decide)) BK526.out (by decide)) (fun _ hk => hk.1.2) (.slice Ao17 t531.length co17)) (fun _ hk => hk.2) (.int .i64 a0_0)) (fun _ hk => hk.2) (.slice Ao13 t528.length co13)) (fun _ hk => hk.2) (.slice Ao17 t531.length co17)) (fun _ hk => trivial), by (with_reducible repeat (first | apply Kd.zaj | apply Kd.zak | apply Kd.zam)); exact Kd.zar (Kd.R_far (p := ⟨gb526, 2, none⟩) (Kd.R_far (p := ⟨gb526, 1, none⟩) (Kd.R_far (p := ⟨gb526, 0, none⟩) (Kd.R_far (p := ⟨gb527, 2, none⟩) (Kd.R_types (Kd.R_types HO533.out BK527.out (by decide)) BK526.out (by decide)) (fun _ hk => hk.1.2) (.slice Ao17 t531.length co17)) (fun _ hk => hk.2) (.int .i64 a0_0)) (fun _ hk => hk.2) (.slice Ao13 t528.length co13)) (fun _ hk => hk.2) (.slice Ao17 t531.length co17)) (fun _ hk => trivial), bw_⟩

/-! ### impl_Plan_outputExponents: function 144 -/
def impl_Plan_outputExponents.l0 : Nat → List (List Int) → List (List Int) → List Int → Int → Int → Option ((List (List Int)))
 | 0, _, _, _, _, _ => none
 | k + 1, x3, x4, x13, x14, x15 => if x15 < x14 then (if 0 ≤ x15 then (if x15 < (x13.length : Int) then (if 0 ≤ (rd x13 x15) then (if (rd x13 x15) < (x3.length : Int) then ((slices_Clone_int_int.f (rd_L3 x3 (rd x13 x15))).bind fun t542 => (if x4.length < 5864062014805 then (impl_Plan_outputExponents.l0 k x3 (x4 ++ [t542]) x13 x14 (wrap64 (x15 + 1))) else (none))) else (none)) else (none)) else (none)) else (none)) else (some x4)
def impl_Plan_outputExponents.f (k : Nat) (a0_0 : Int) (l0_1 : List (S117)) (l0_2 : List Int) : Option ((List (List Int))) := (impl_Plan_exponents.f k a0_0 l0_1 l0_2).bind fun t534 => (impl_Plan_outputExponents.l0 k t534 (([] : List (List Int))) l0_2 (l0_2.length : Int) 0)
theorem impl_Plan_outputExponents.zb5 : ∀ k, (∀ y0 y1 y2 y3 y4, LeO (impl_Plan_outputExponents.l0 k y0 y1 y2 y3 y4) (impl_Plan_outputExponents.l0 (k + 1) y0 y1 y2 y3 y4))
 | 0 => fun _ _ _ _ _ r h => by simp [impl_Plan_outputExponents.l0] at h
 | k + 1 => by
  have ih0 := impl_Plan_outputExponents.zb5 k
  ·intro y0 y1 y2 y3 y4
   unfold impl_Plan_outputExponents.l0
   repeat' first
   | (with_reducible exact ih0 _ _ _ _ _)
   | (with_reducible exact impl_Plan_exponents.mono _ _ _ _)
   | (with_reducible exact LeO.refl _)
   | (with_reducible exact LeO.none _)
   | (with_reducible refine LeO.ite ?_ ?_)
   | (with_reducible refine LeO.bind ?_ (fun _ => ?_))
   | exact ih0 _ _ _ _ _
   | exact impl_Plan_exponents.mono _ _ _ _
   | exact LeO.none _
   | refine LeO.ite ?_ ?_
   | refine LeO.bind ?_ (fun _ => ?_)
theorem impl_Plan_outputExponents.mono : ∀ a0 a1 a2 k, LeO (impl_Plan_outputExponents.f k a0 a1 a2) (impl_Plan_outputExponents.f (k + 1) a0 a1 a2) := by
 intro a0 a1 a2 k
 have ih0 := impl_Plan_outputExponents.zb5 k
 unfold impl_Plan_outputExponents.f
 repeat' first
   | (with_reducible exact ih0 _ _ _ _ _)
   | (with_reducible exact impl_Plan_exponents.mono _ _ _ _)
   | (with_reducible exact LeO.refl _)
   | (with_reducible exact LeO.none _)
   | (with_reducible refine LeO.ite ?_ ?_)
   | (with_reducible refine LeO.bind ?_ (fun _ => ?_))
   | exact ih0 _ _ _ _ _
   | exact impl_Plan_exponents.mono _ _ _ _
   | exact LeO.none _
   | refine LeO.ite ?_ ?_
   | refine LeO.bind ?_ (fun _ => ?_)
set_option maxHeartbeats 8000000 in
set_option maxRecDepth 100000 in
theorem impl_Plan_outputExponents.calls (k : Nat) (g0 : Nat) (a0_0 : Int) (A0_1 : Option Addr) (c0_1 : Nat) (l0_1 : List (S117)) (A0_2 : Option Addr) (c0_2 : Nat) (l0_2 : List Int) (r : List (List Int)) (w : World) (hb0 : w.heap[g0]? = some (.cells #[.int .i64 a0_0, .slice A0_1 l0_1.length c0_1, .slice A0_2 l0_2.length c0_2] 36 (0, 0))) (hr0_1 : Kd.C k117 w A0_1 l0_1.length l0_1) (hc0_1 : l0_1.length ≤ c0_1) (hr0_2 : Kd.C (Kd.int .i64) w A0_2 l0_2.length l0_2) (hc0_2 : l0_2.length ≤ c0_2) (h : impl_Plan_outputExponents.f k a0_0 l0_1 l0_2 = some r) :
  Calls Try.prog 144 #[.pointer (some ⟨g0, 0, none⟩)] w fun e w' => ∃ v0_ : Value, e = .returned (v0_) ∧ Kd.S (Kd.slice 3 (Kd.int .i64)) 22 w' w.heap.size (fun _ => True) v0_ r ∧ Below w.heap.size w w' := by
 have HR0_1 := Aside0.mk hr0_1
 have HC0_1 := Aside0.mk hc0_1
 clear hr0_1 hc0_1
 have HR0_2 := Aside0.mk hr0_2
 have HC0_2 := Aside0.mk hc0_2
 clear hr0_2 hc0_2
 have BK0 := Aside0.mk hb0
 clear hb0
 have HB := Aside0.mk (Below.refl w.heap.size w)
 have H : ((impl_Plan_exponents.f k a0_0 l0_1 l0_2).bind fun t534 => (impl_Plan_outputExponents.l0 k t534 (([] : List (List Int))) l0_2 (l0_2.length : Int) 0)) = some r := h
 clear h
 replace H := Option.bind_eq_some_iff.mp H
 obtain ⟨t534, A20, H⟩ := H
 replace H : (impl_Plan_outputExponents.l0 k t534 (([] : List (List Int))) l0_2 (l0_2.length : Int) 0) = some r := H
 have A2 := Aside0.mk A20
 clear A20
 obtain ⟨y537, hy537⟩ : ∃ y_ : List (List Int), y_ = (([] : List (List Int))) := ⟨_, rfl⟩
 replace H : (impl_Plan_outputExponents.l0 k t534 y537 l0_2 (l0_2.length : Int) 0) = some r := by first | (rw [hy537]; with_reducible exact H) | (have H2_ := (Option.bind_some _ _).symm.trans H; rw [hy537]; with_reducible exact H2_) | (have H2_ := (Option.bind_some _ _).symm.trans H; with_reducible exact H2_) | with_reducible exact H | (rw [hy537]; exact H) | exact H
 have Ny537 := Aside0.mk hy537
 clear hy537
 have H' := Aside0.mk H
 clear H
 go_enter Try.func144, Try.ntmps144
 go_wp2_with (first | ((with_reducible refine zah (f := 141) rfl ?_); refine zaz (some 8) rfl rfl Try.func141 (by kernel_rfl) rfl #[.pointer (some ⟨g0, 0, none⟩)] rfl (by (try simp only [List.map_toArray, List.map_cons, List.map_nil]); first | done | rfl | (simp only [List.length_drop, List.length_take]; rfl)) ?_; (with_reducible refine (impl_Plan_exponents.calls k g0 a0_0 A0_1 c0_1 l0_1 A0_2 c0_2 l0_2 t534 _ ?side1 ?side2 ?side3 ?side4 ?side5 A2.out).mono ?_); (case side1 => (with_reducible repeat (first | refine za3 ?_ _ | refine za4 ?_ | refine za2 ?_ _)); exact BK0.out); (case side2 => repeat (first | exact HR0_1.out | (with_reducible refine Kd.zb1 ?_ _) | (with_reducible refine Kd.zax ?_ _) | (with_reducible refine Kd.zb7 ?_))); (case side3 => exact HC0_1.out); (case side4 => repeat (first | exact HR0_2.out | (with_reducible refine Kd.zb1 ?_ _) | (with_reducible refine Kd.zax ?_ _) | (with_reducible refine Kd.zb7 ?_))); (case side5 => exact HC0_2.out); rintro e w3 ⟨v535, rfl, ho0, hb⟩; refine ⟨_, rfl, ?_⟩; have n0_ := Aside0.mk (Kd.S_lower ho0 (za6 bw_)); have n1_ := Aside0.mk (za7 (g := g0) (o := .cells #[.int .i64 a0_0, .slice A0_1 l0_1.length c0_1, .slice A0_2 l0_2.length c0_2] 36 (0, 0)) (by (with_reducible repeat (first | refine za3 ?_ _ | refine za4 ?_ | refine za2 ?_ _)); exact BK0.out) hb); have n2_ := Aside0.mk (za8 bw_ hb); clear BK0; clear HB; have HO536 := n0_; have BK0 := n1_; have HB := n2_; clear n0_ n1_ n2_; (try clear hb); (try clear hb2); (try clear hk); (try clear hi); (try clear ho0)) | ((with_reducible refine zaf (N := 9) rfl ?_); refine Kd.S_lit (Kd.slice 3 (Kd.int .i64)) _ 22 ?hg (N := 9) ?hd (xs := ([] : List (List Int))) (inner := []) (ok := fun _ => True) (okp := fun _ => True) ?hr ?hp (fun _ hk => hk) trivial (Below.refl _ _) (Nat.le_refl _) (by simp) ?_; (case hd => rfl); (case hg => rfl); (case hr => first | (go_simp; done) | (go_simp; rfl)); (case hp => exact (Reps.none _ _)); intro v538 w4 ho5 hb hg_ hnew_; clear hg_ hnew_; (first | rw [← Ny537.out] at ho5 | (simp only [Int.reduceToNat] at ho5; rw [← Ny537.out] at ho5)); have n0_ := Aside0.mk (Kd.S_elder' (by (with_reducible repeat (first | apply Kd.zb3 | apply Kd.zb4 | apply Kd.zb9)); exact HO536.out) (Kd.S_base ho5) hb); have n1_ := Aside0.mk (Kd.S_lower (Kd.S_new' ho5 (Kd.S_lt (by (with_reducible repeat (first | apply Kd.zb3 | apply Kd.zb4 | apply Kd.zb9)); exact HO536.out))) (za6 bw_)); have n2_ := Aside0.mk (za7 (g := g0) (o := .cells #[.int .i64 a0_0, .slice A0_1 l0_1.length c0_1, .slice A0_2 l0_2.length c0_2] 36 (0, 0)) (by (with_reducible repeat (first | refine za3 ?_ _ | refine za4 ?_ | refine za2 ?_ _)); exact BK0.out) hb); have n3_ := Aside0.mk (za8 bw_ hb); clear HO536; clear BK0; clear HB; have HO536 := n0_; have HO539 := n1_; have BK0 := n2_; have HB := n3_; clear n0_ n1_ n2_ n3_; clear hb ho5; have hcz6_0 : w4.cell? ⟨g0, 0, none⟩ = some (.int .i64 a0_0) := (za1 BK0.out 0).trans rfl; have hcz6_1 : w4.cell? ⟨g0, 1, none⟩ = some (.slice A0_1 l0_1.length c0_1) := (za1 BK0.out 1).trans rfl; have hcz6_2 : w4.cell? ⟨g0, 2, none⟩ = some (.slice A0_2 l0_2.length c0_2) := (za1 BK0.out 2).trans rfl; have hfz6_0 := za0 BK0.out 0; have hfz6_1 := za0 BK0.out 1; have hfz6_2 := za0 BK0.out 2))
 go_loopg [4, 15] k (fun kq v4 v15 w' => ∃ (x4_1 : List (List Int)) (x15_1 : Int), v15 = .int .i64 x15_1 ∧ Aside0 (impl_Plan_outputExponents.l0 kq t534 x4_1 l0_2 (l0_2.length : Int) x15_1 = some r) ∧ Aside0 (kq ≤ k) ∧ Aside0 (Kd.S (Kd.slice 3 (Kd.int .i64)) 22 w' w.heap.size (fun k_ => some k_ ≠ (v4 : Value).ownBlock) v535 t534) ∧ Aside0 (Kd.S (Kd.slice 3 (Kd.int .i64)) 22 w' w.heap.size (fun k_ => some k_ ≠ (v535 : Value).ownBlock) v4 x4_1) ∧ Aside0 (w'.heap[g0]? = some (.cells #[.int .i64 a0_0, (.slice A0_1 l0_1.length c0_1), (.slice A0_2 l0_2.length c0_2)] 36 (0, 0))) ∧ Aside0 (Below w.heap.size w w'))
 case atStart => exact ⟨(y537), (0), (by first | rfl | (simp; done) | (simp [*]; done)), H', ⟨Nat.le_refl _⟩, ⟨by (with_reducible repeat (first | apply Kd.zb3 | apply Kd.zb4 | apply Kd.zb9)); exact Kd.S_mono HO536.out (fun _ hk => hk.2)⟩, ⟨by (with_reducible repeat (first | apply Kd.zb3 | apply Kd.zb4 | apply Kd.zb9)); exact Kd.S_mono HO539.out (fun _ hk => hk.2)⟩, ⟨by (with_reducible repeat (first | refine za3 ?_ _ | refine za4 ?_ | refine za2 ?_ _)); exact BK0.out⟩, ⟨bw_⟩⟩
 case round =>
  clear H'
  try clear c1
  try clear p2
  try clear hcz6_0
  try clear hcz6_1
  try clear hcz6_2
  try clear hfz6_0
  try clear hfz6_1
  try clear hfz6_2
  obtain ⟨x4_1, x15_1, rfl, HA, HK1, HO_3, HO_4, BK0, HB⟩ := hrel
  cases gk with
  | zero => exact absurd HA.out (by simp [impl_Plan_outputExponents.l0])
  | succ k1 =>
   have H := HA.out
   clear HA
   simp only [impl_Plan_outputExponents.l0] at H
   by_cases c7 : x15_1 < (l0_2.length : Int)
   ·rw [if_pos c7] at H
    have c7b0 : decide (x15_1 < (l0_2.length : Int)) = true := decide_eq_true c7
    clear c7
    by_cases c8 : 0 ≤ x15_1
    ·rw [if_pos c8] at H
     have c8b0 : decide (0 ≤ x15_1) = true := decide_eq_true c8
     clear c8
     by_cases c9 : x15_1 < (l0_2.length : Int)
     ·rw [if_pos c9] at H
      have c9b0 : decide (x15_1 < (l0_2.length : Int)) = true := decide_eq_true c9
      clear c9
      by_cases c10 : 0 ≤ (rd l0_2 x15_1)
      ·rw [if_pos c10] at H
       have c10b0 : decide (0 ≤ (rd l0_2 x15_1)) = true := decide_eq_true c10
       clear c10
       by_cases c11 : (rd l0_2 x15_1) < (t534.length : Int)
       ·rw [if_pos c11] at H
        have c11b0 : decide ((rd l0_2 x15_1) < (t534.length : Int)) = true := decide_eq_true c11
        clear c11
        replace H := Option.bind_eq_some_iff.mp H
        obtain ⟨t542, A120, H⟩ := H
        replace H : (if x4_1.length < 5864062014805 then (impl_Plan_outputExponents.l0 k1 t534 (x4_1 ++ [t542]) l0_2 (l0_2.length : Int) (wrap64 (x15_1 + 1))) else (none)) = some r := H
        have A12 := Aside0.mk A120
        clear A120
        by_cases c13 : x4_1.length < 5864062014805
        ·rw [if_pos c13] at H
         have LMc13 := Aside0.mk c13
         clear c13
         obtain ⟨y545, hy545⟩ : ∃ y_ : List (List Int), y_ = (x4_1 ++ [t542]) := ⟨_, rfl⟩
         replace H : (impl_Plan_outputExponents.l0 k1 t534 y545 l0_2 (l0_2.length : Int) (wrap64 (x15_1 + 1))) = some r := by first | (rw [hy545]; with_reducible exact H) | (have H2_ := (Option.bind_some _ _).symm.trans H; rw [hy545]; with_reducible exact H2_) | (have H2_ := (Option.bind_some _ _).symm.trans H; with_reducible exact H2_) | with_reducible exact H | (rw [hy545]; exact H) | exact H
         have Ny545 := Aside0.mk hy545
         clear hy545
         have H' := Aside0.mk H
         clear H
         have p540 : 0 ≤ (x15_1 : Int) := of_decide_eq_true (by first | (with_reducible assumption) | assumption)
         have q540 : x15_1 < (l0_2.length : Int) := of_decide_eq_true (by first | (with_reducible assumption) | assumption)
         obtain ⟨ad540, e540, hx540_0⟩ := Kd.at_int HR0_2.out x15_1 p540 q540
         cases e540
         replace hx540_0 := (HB.out.cell (World.block_lt_of_cell? w _ hx540_0)).trans hx540_0
         replace p540 := eq_true p540
         replace q540 := eq_true q540
         obtain ⟨Ao14, co14, eo14⟩ := Kd.S_slice HO_3.out
         subst eo14
         have p541 : 0 ≤ ((rd l0_2 x15_1) : Int) := of_decide_eq_true (by first | (with_reducible assumption) | assumption)
         have q541 : (rd l0_2 x15_1) < (t534.length : Int) := of_decide_eq_true (by first | (with_reducible assumption) | assumption)
         obtain ⟨ad541, A541_0, c541_0, e541, hx541_0, hl541_0, hi541_0⟩ := at_L3 (Kd.S_reads' HO_3.out).2.2 (rd l0_2 x15_1) p541 q541
         cases e541
         obtain ⟨ce541, hce541, hMe541, hcc541⟩ := Kd.S_get HO_3.out [] (rd l0_2 x15_1) p541 (by first | exact q541 | exact of_decide_eq_true (by first | (with_reducible assumption) | assumption) | (have e_ := (Kd.S_reads' HO_3.out).1; omega))
         obtain ⟨ve541_0, rfl, ge541_0⟩ := hMe541
         have hv541_0 := hcc541 0 _ rfl
         rw [Nat.add_zero, show ((Kd.slice 3 (Kd.int .i64))).sz = 1 from rfl, Nat.mul_one] at hv541_0
         replace hv541_0 := Option.some.inj (hv541_0.symm.trans hx541_0)
         rw [hv541_0] at ge541_0
         have HL541_0 := Aside0.mk (show Kd.R (Kd.int .i64) 3 _ _ _ _ (rd_L3 t534 (rd l0_2 x15_1)) from ge541_0)
         clear hv541_0 ge541_0
         clear hcc541 hce541
         have HR541_0 := Aside0.mk hi541_0
         have HC541_0 := Aside0.mk hl541_0
         clear hi541_0 hl541_0
         replace p541 := eq_true p541
         replace q541 := eq_true q541
         go_wp2_with (first | ((with_reducible refine zah (f := 163) rfl ?_); refine zaz (some 24) rfl rfl Try.func163 (by kernel_rfl) rfl #[.slice A541_0 (rd_L3 t534 (rd l0_2 x15_1)).length c541_0] rfl (by (try simp only [List.map_toArray, List.map_cons, List.map_nil]); first | done | rfl | (simp only [List.length_drop, List.length_take]; rfl)) ?_; (with_reducible refine (slices_Clone_int_int.calls _ _ (rd_L3 t534 (rd l0_2 x15_1)) t542 _ ?side1 ?side2 A12.out).mono ?_); (case side1 => repeat (first | exact (by repeat (first | (with_reducible exact HR541_0.out) | (with_reducible refine Kd.zb1 ?_ _) | (with_reducible refine Kd.zax ?_ _) | (with_reducible refine Kd.zb7 ?_) | exact HR541_0.out)) | (with_reducible refine Kd.zb1 ?_ _) | (with_reducible refine Kd.zax ?_ _) | (with_reducible refine Kd.zb7 ?_))); (case side2 => exact HC541_0.out); rintro e w15 ⟨v543, rfl, ho0, hb⟩; refine ⟨_, rfl, ?_⟩; have n0_ := Aside0.mk (Kd.S_elder' (by (with_reducible repeat (first | apply Kd.zb3 | apply Kd.zb4 | apply Kd.zb9)); exact HO_3.out) (Kd.R_base ho0) hb); have n1_ := Aside0.mk (Kd.S_elder' (by (with_reducible repeat (first | apply Kd.zb3 | apply Kd.zb4 | apply Kd.zb9)); exact HO_4.out) (Kd.R_base ho0) hb); have n2_ := Aside0.mk (Kd.R_elder' (by (with_reducible repeat (first | apply Kd.zaj | apply Kd.zak | apply Kd.zam)); exact HL541_0.out) (Kd.R_base ho0) hb); have n3_ := Aside0.mk (Kd.R_lower (Kd.R_new' ho0 (Kd.R_lt (by (with_reducible repeat (first | apply Kd.zaj | apply Kd.zak | apply Kd.zam)); exact HL541_0.out))) (za6 bw_)); have n4_ := Aside0.mk (za7 (g := g0) (o := .cells #[.int .i64 a0_0, .slice A0_1 l0_1.length c0_1, .slice (some ad540) l0_2.length c0_2] 36 (0, 0)) (by (with_reducible repeat (first | refine za3 ?_ _ | refine za4 ?_ | refine za2 ?_ _)); exact BK0.out) hb); have n5_ := Aside0.mk (Kd.zac (by repeat (first | (with_reducible exact HR541_0.out) | (with_reducible refine Kd.zb1 ?_ _) | (with_reducible refine Kd.zax ?_ _) | (with_reducible refine Kd.zb7 ?_) | exact HR541_0.out)) hb); have n6_ := Aside0.mk (za8 bw_ hb); clear HO_3; clear HO_4; clear HL541_0; clear BK0; clear HR541_0; clear HB; have HO_3 := n0_; have HO_4 := n1_; have HL541_0 := n2_; have HO544 := n3_; have BK0 := n4_; have HR541_0 := n5_; have HB := n6_; clear n0_ n1_ n2_ n3_ n4_ n5_ n6_; (try clear hb); (try clear hb2); (try clear hk); (try clear hi); (try clear ho0); obtain ⟨Ao17, co17, eo17⟩ := Kd.zat HO544.out; subst eo17) | ((with_reducible refine gate_builtin (b := .append) (xs := #[.tmp 19, .tmp 25]) rfl ?_); at_builtin; refine Kd.S_append (Kd.slice 3 (Kd.int .i64)) (w0 := w) w.heap.size rfl (.tmp 19) (.tmp 25) 109 22 (.slice none 0 0) 24 rfl Try.underlying109 info22 rfl (by decide) (by omega) u4 x4_1 t542 [.slice Ao17 t542.length co17] (fun k_ => some k_ ≠ (.slice (some ad541) t534.length co14 : Value).ownBlock) (fun k_ => some k_ = (.slice Ao17 t542.length co17 : Value).ownBlock) rfl rfl ?aP (fun k_ hk_ => ((Kd.zar (ok' := fun k_ => ((fun k_ => some k_ ≠ (.slice (some ad541) t534.length co14 : Value).ownBlock)) k_ ∧ some k_ ≠ (u4 : Value).ownBlock) (Kd.R_apart' (Kd.R_apart' (HO544.out) (Kd.S_typed HO_3.out) (by decide)) (Kd.S_typed HO_4.out) (by decide)) (fun k_ hk => ⟨hk.1.2, hk.2⟩))).1 k_ hk_.symm) ?aF ?aO ?aB ?aS ?aL ?_; (case aP => exact Kd.M_row (Kd.zar (Kd.R_tight rfl (Kd.zar (ok' := fun k_ => ((fun k_ => some k_ ≠ (.slice (some ad541) t534.length co14 : Value).ownBlock)) k_ ∧ some k_ ≠ (u4 : Value).ownBlock) (Kd.R_apart' (Kd.R_apart' (HO544.out) (Kd.S_typed HO_3.out) (by decide)) (Kd.S_typed HO_4.out) (by decide)) (fun k_ hk => ⟨hk.1.2, hk.2⟩))) (fun _ h_ => h_))); (case aB => exact bw_); (case aF => exact (fun k_ hk => Kd.fresh' (Kd.S_lt (by (with_reducible repeat (first | apply Kd.zb3 | apply Kd.zb4 | apply Kd.zb9)); exact HO_3.out)) k_ hk)); (case aO => exact (by (with_reducible repeat (first | apply Kd.zb3 | apply Kd.zb4 | apply Kd.zb9)); exact Kd.S_mono HO_4.out (fun k_ hk => ⟨hk.1, fun e_ => hk.2 e_⟩))); (case aS => exact (za6 bw_)); (case aL => have := LMc13.out; omega); intro v546 w16 ho hb hg hat; rw [← Ny545.out] at ho; have n0_ := Aside0.mk (Kd.S_after (ok := (fun k_ => some k_ ≠ (.slice Ao17 t542.length co17 : Value).ownBlock)) (by (with_reducible repeat (first | apply Kd.zb3 | apply Kd.zb4 | apply Kd.zb9)); exact Kd.S_mono HO_3.out (fun _ hk => ⟨hk.2, hk.1⟩)) hg hat); have n1_ := Aside0.mk (blk_grown (g := g0) (o := .cells #[.int .i64 a0_0, .slice A0_1 l0_1.length c0_1, .slice (some ad540) l0_2.length c0_2] 36 (0, 0)) (by (with_reducible repeat (first | refine za3 ?_ _ | refine za4 ?_ | refine za2 ?_ _)); exact BK0.out) hg (Kd.S_ne HO_4.out BK0.out (by decide))); have n2_ := Aside0.mk (Kd.R_after (ok := (fun k_ => some k_ ≠ (.slice (some ad541) t534.length co14 : Value).ownBlock ∧ some k_ ≠ (.slice Ao17 t542.length co17 : Value).ownBlock)) (by (with_reducible repeat (first | apply Kd.zaj | apply Kd.zak | apply Kd.zam)); exact Kd.zar HL541_0.out (fun _ hk => ⟨⟨hk.1.2, hk.2⟩, hk.1.1⟩)) hg hat); have n3_ := Aside0.mk (hb); have n4_ := Aside0.mk (ho); clear HO_3; clear BK0; clear HL541_0; clear HB; clear HO_4; clear HO544; have HO_3 := n0_; have BK0 := n1_; have HL541_0 := n2_; have HB := n3_; have HO547 := n4_; clear n0_ n1_ n2_ n3_ n4_; clear ho hb hg hat))
         go_roundg k1
         case measure => have := HK1.out; omega
         case rel => exact ⟨(y545), (wrap64 (x15_1 + 1)), (by first | rfl | (simp; done) | (simp [*]; done)), H', ⟨by have := HK1.out; omega⟩, ⟨by (with_reducible repeat (first | apply Kd.zb3 | apply Kd.zb4 | apply Kd.zb9)); exact Kd.S_mono HO_3.out (fun _ hk => hk.2)⟩, ⟨by (with_reducible repeat (first | apply Kd.zb3 | apply Kd.zb4 | apply Kd.zb9)); exact HO547.out⟩, ⟨by (with_reducible repeat (first | refine za3 ?_ _ | refine za4 ?_ | refine za2 ?_ _)); exact BK0.out⟩, ⟨bw_⟩⟩
        ·rw [if_neg c13] at H
         exact absurd H (by simp)
       ·rw [if_neg c11] at H
        exact absurd H (by simp)
      ·rw [if_neg c10] at H
       exact absurd H (by simp)
     ·rw [if_neg c9] at H
      exact absurd H (by simp)
    ·rw [if_neg c8] at H
     exact absurd H (by simp)
   ·rw [if_neg c7] at H
    have c7b0 : decide (x15_1 < (l0_2.length : Int)) = false := decide_eq_false c7
    clear c7
    obtain rfl := Option.some.inj H
    go_wp2
    go_ret
    exact ⟨_, by first | rfl | (simp [zab, zaa] <;> rfl) | (simp [*, zab, zaa] <;> rfl), by (with_reducible repeat (first | apply Kd.zb3 | apply Kd.zb4 | apply Kd.zb9)); exact Kd.S_mono HO_4.out (fun _ hk => trivial), bw_⟩

/-! ### slices_Equal_int_int: function 145 -/
def slices_Equal_int_int.l0 : Nat → List Int → List Int → Int → Int → Option (Bool)
 | 0, _, _, _, _ => none
 | k + 1, x0, x1, x12, x13 => if x13 < x12 then (if 0 ≤ x13 then (if x13 < (x0.length : Int) then (if x13 < (x1.length : Int) then (if (rd x0 x13) = (rd x1 x13) then (slices_Equal_int_int.l0 k x0 x1 x12 (wrap64 (x13 + 1))) else (some false)) else (none)) else (none)) else (none)) else (some true)
def slices_Equal_int_int.f (k : Nat) (l0 : List Int) (l1 : List Int) : Option (Bool) := if (l0.length : Int) = (l1.length : Int) then (slices_Equal_int_int.l0 k l0 l1 (l0.length : Int) 0) else (some false)
theorem slices_Equal_int_int.zb5 : ∀ k, (∀ y0 y1 y2 y3, LeO (slices_Equal_int_int.l0 k y0 y1 y2 y3) (slices_Equal_int_int.l0 (k + 1) y0 y1 y2 y3))
 | 0 => fun _ _ _ _ r h => by simp [slices_Equal_int_int.l0] at h
 | k + 1 => by
  have ih0 := slices_Equal_int_int.zb5 k
  ·intro y0 y1 y2 y3
   unfold slices_Equal_int_int.l0
   repeat' first
   | (with_reducible exact ih0 _ _ _ _)
   | (with_reducible exact LeO.refl _)
   | (with_reducible exact LeO.none _)
   | (with_reducible refine LeO.ite ?_ ?_)
   | (with_reducible refine LeO.bind ?_ (fun _ => ?_))
   | exact ih0 _ _ _ _
   | exact LeO.none _
   | refine LeO.ite ?_ ?_
   | refine LeO.bind ?_ (fun _ => ?_)
theorem slices_Equal_int_int.mono : ∀ a0 a1 k, LeO (slices_Equal_int_int.f k a0 a1) (slices_Equal_int_int.f (k + 1) a0 a1) := by
 intro a0 a1 k
 have ih0 := slices_Equal_int_int.zb5 k
 unfold slices_Equal_int_int.f
 repeat' first
   | (with_reducible exact ih0 _ _ _ _)
   | (with_reducible exact LeO.refl _)
   | (with_reducible exact LeO.none _)
   | (with_reducible refine LeO.ite ?_ ?_)
   | (with_reducible refine LeO.bind ?_ (fun _ => ?_))
   | exact ih0 _ _ _ _
   | exact LeO.none _
   | refine LeO.ite ?_ ?_
   | refine LeO.bind ?_ (fun _ => ?_)
set_option maxHeartbeats 8000000 in
set_option maxRecDepth 100000 in
theorem slices_Equal_int_int.calls (k : Nat) (A0 : Option Addr) (c0 : Nat) (l0 : List Int) (A1 : Option Addr) (c1 : Nat) (l1 : List Int) (r : Bool) (w : World) (hr0 : Kd.C (Kd.int .i64) w A0 l0.length l0) (hc0 : l0.length ≤ c0) (hr1 : Kd.C (Kd.int .i64) w A1 l1.length l1) (hc1 : l1.length ≤ c1) (h : slices_Equal_int_int.f k l0 l1 = some r) :
  Calls Try.prog 145 #[.slice A0 l0.length c0, .slice A1 l1.length c1] w fun e w' => e = .returned (.bool r) ∧ Drawn0 w w' := by
 have HR0 := Aside0.mk hr0
 have HC0 := Aside0.mk hc0
 clear hr0 hc0
 have HR1 := Aside0.mk hr1
 have HC1 := Aside0.mk hc1
 clear hr1 hc1
 have H : (if (l0.length : Int) = (l1.length : Int) then (slices_Equal_int_int.l0 k l0 l1 (l0.length : Int) 0) else (some false)) = some r := h
 clear h
 by_cases c3 : (l0.length : Int) = (l1.length : Int)
 ·rw [if_pos c3] at H
  have c3b0 : ((l0.length : Int) == (l1.length : Int)) = true := beq_iff_eq.mpr c3
  have c3b1 : ((l0.length : Int) != (l1.length : Int)) = false := bne_eq_false_iff_eq.mpr c3
  have c3b2 : (l0.length == l1.length) = true := by first | simpa using c3 | (simp at c3 ⊢; omega)
  clear c3
  have H' := Aside0.mk H
  clear H
  go_enter Try.func145, Try.ntmps145
  go_wp2
  repeat (go_quiet (fail); try go_wp2)
  go_loopg [13] k (fun kq v13 w' => ∃ (x13_1 : Int), v13 = .int .i64 x13_1 ∧ Aside0 (slices_Equal_int_int.l0 kq l0 l1 (l0.length : Int) x13_1 = some r) ∧ Aside0 (kq ≤ k) ∧ Drawn0 w w')
  case atStart => exact ⟨(0), (by first | rfl | (simp; done) | (simp [*]; done)), H', ⟨Nat.le_refl _⟩, by repeat (first | exact Drawn0.refl _ | apply Drawn0.step)⟩
  case round =>
   clear H'
   try clear c1
   try clear p2
   try clear c3
   try clear c3b0
   try clear c3b1
   try clear c3b2
   obtain ⟨x13_1, rfl, HA, HK1, ⟨m1, rfl⟩⟩ := hrel
   cases gk with
   | zero => exact absurd HA.out (by simp [slices_Equal_int_int.l0])
   | succ k1 =>
    have H := HA.out
    clear HA
    simp only [slices_Equal_int_int.l0] at H
    by_cases c4 : x13_1 < (l0.length : Int)
    ·rw [if_pos c4] at H
     have c4b0 : decide (x13_1 < (l0.length : Int)) = true := decide_eq_true c4
     clear c4
     by_cases c5 : 0 ≤ x13_1
     ·rw [if_pos c5] at H
      have c5b0 : decide (0 ≤ x13_1) = true := decide_eq_true c5
      clear c5
      by_cases c6 : x13_1 < (l0.length : Int)
      ·rw [if_pos c6] at H
       have c6b0 : decide (x13_1 < (l0.length : Int)) = true := decide_eq_true c6
       clear c6
       by_cases c7 : x13_1 < (l1.length : Int)
       ·rw [if_pos c7] at H
        have c7b0 : decide (x13_1 < (l1.length : Int)) = true := decide_eq_true c7
        clear c7
        by_cases c8 : (rd l0 x13_1) = (rd l1 x13_1)
        ·rw [if_pos c8] at H
         have c8b0 : ((rd l0 x13_1) == (rd l1 x13_1)) = true := beq_iff_eq.mpr c8
         have c8b1 : ((rd l0 x13_1) != (rd l1 x13_1)) = false := bne_eq_false_iff_eq.mpr c8
         clear c8
         have H' := Aside0.mk H
         clear H
         have p548 : 0 ≤ (x13_1 : Int) := of_decide_eq_true (by first | (with_reducible assumption) | assumption)
         have q548 : x13_1 < (l0.length : Int) := of_decide_eq_true (by first | (with_reducible assumption) | assumption)
         obtain ⟨ad548, e548, hx548_0⟩ := Kd.at_int HR0.out x13_1 p548 q548
         cases e548
         replace p548 := eq_true p548
         replace q548 := eq_true q548
         have p549 : 0 ≤ (x13_1 : Int) := of_decide_eq_true (by first | (with_reducible assumption) | assumption)
         have q549 : x13_1 < (l1.length : Int) := of_decide_eq_true (by first | (with_reducible assumption) | assumption)
         obtain ⟨ad549, e549, hx549_0⟩ := Kd.at_int HR1.out x13_1 p549 q549
         cases e549
         replace p549 := eq_true p549
         replace q549 := eq_true q549
         go_wp2
         repeat (go_quiet (fail); try go_wp2)
         go_roundg k1
         case measure => have := HK1.out; omega
         case rel => exact ⟨(wrap64 (x13_1 + 1)), (by first | rfl | (simp; done) | (simp [*]; done)), H', ⟨by have := HK1.out; omega⟩, by repeat (first | exact Drawn0.refl _ | apply Drawn0.step)⟩
        ·rw [if_neg c8] at H
         have c8b0 : ((rd l0 x13_1) == (rd l1 x13_1)) = false := beq_eq_false_iff_ne.mpr c8
         have c8b1 : ((rd l0 x13_1) != (rd l1 x13_1)) = true := bne_iff_ne.mpr c8
         obtain rfl := Option.some.inj H
         have p548 : 0 ≤ (x13_1 : Int) := of_decide_eq_true (by first | (with_reducible assumption) | assumption)
         have q548 : x13_1 < (l0.length : Int) := of_decide_eq_true (by first | (with_reducible assumption) | assumption)
         obtain ⟨ad548, e548, hx548_0⟩ := Kd.at_int HR0.out x13_1 p548 q548
         cases e548
         replace p548 := eq_true p548
         replace q548 := eq_true q548
         have p549 : 0 ≤ (x13_1 : Int) := of_decide_eq_true (by first | (with_reducible assumption) | assumption)
         have q549 : x13_1 < (l1.length : Int) := of_decide_eq_true (by first | (with_reducible assumption) | assumption)
         obtain ⟨ad549, e549, hx549_0⟩ := Kd.at_int HR1.out x13_1 p549 q549
         cases e549
         replace p549 := eq_true p549
         replace q549 := eq_true q549
         go_wp2
         repeat (go_quiet (fail); try go_wp2)
         go_ret
         exact ⟨by first | rfl | (simp; done) | (simp [*]; done), by repeat (first | exact Drawn0.refl _ | apply Drawn0.step)⟩
       ·rw [if_neg c7] at H
        exact absurd H (by simp)
      ·rw [if_neg c6] at H
       exact absurd H (by simp)
     ·rw [if_neg c5] at H
      exact absurd H (by simp)
    ·rw [if_neg c4] at H
     have c4b0 : decide (x13_1 < (l0.length : Int)) = false := decide_eq_false c4
     clear c4
     obtain rfl := Option.some.inj H
     go_wp2
     repeat (go_quiet (fail); try go_wp2)
     go_ret
     exact ⟨by first | rfl | (simp; done) | (simp [*]; done), by repeat (first | exact Drawn0.refl _ | apply Drawn0.step)⟩
 ·rw [if_neg c3] at H
  have c3b0 : ((l0.length : Int) == (l1.length : Int)) = false := beq_eq_false_iff_ne.mpr c3
  have c3b1 : ((l0.length : Int) != (l1.length : Int)) = true := bne_iff_ne.mpr c3
  have c3b2 : (l0.length == l1.length) = false := by first | simpa using c3 | (simp at c3 ⊢; omega)
  obtain rfl := Option.some.inj H
  go_enter Try.func145, Try.ntmps145
  go_wp2
  repeat (go_quiet (fail); try go_wp2)
  go_ret
  exact ⟨by first | rfl | (simp; done) | (simp [*]; done), by repeat (first | exact Drawn0.refl _ | apply Drawn0.step)⟩

/-! ### impl_samePowers: function 76 -/
def eqRows (k : Nat) (l0 l1 : List (List Int)) : Nat → Nat → Option Bool
 | 0, _ => some true
 | d + 1, j => (slices_Equal_int_int.f k (rdR l0 (j : Int)) (rdR l1 (j : Int))).bind fun b => if b = true then eqRows k l0 l1 d (j + 1) else some false
def slices_EqualFunc_int_int_int_int.f (k : Nat) (l0 l1 : List (List Int)) : Option Bool := if l0.length = l1.length then eqRows k l0 l1 l0.length 0 else some false
theorem eqRows_mono (k : Nat) (l0 l1 : List (List Int)) : ∀ d j, LeO (eqRows k l0 l1 d j) (eqRows (k + 1) l0 l1 d j) := by
 intro d
 induction d with
 | zero => intro j; exact LeO.refl _
 | succ d ih => intro j; exact LeO.bind (slices_Equal_int_int.mono _ _ _) (fun b => LeO.ite (ih _) (LeO.refl _))
theorem slices_EqualFunc_int_int_int_int.mono : ∀ a0 a1 k, LeO (slices_EqualFunc_int_int_int_int.f k a0 a1) (slices_EqualFunc_int_int_int_int.f (k + 1) a0 a1) := by
 intro a0 a1 k
 unfold slices_EqualFunc_int_int_int_int.f
 exact LeO.ite (eqRows_mono _ _ _ _ _) (LeO.refl _)
set_option maxHeartbeats 2000000 in
theorem slices_EqualFunc_int_int_int_int.calls (k : Nat) (A0 : Option Addr) (c0 : Nat) (l0 : List (List Int)) (A1 : Option Addr) (c1 : Nat) (l1 : List (List Int)) (r : Bool) (w : World) (hr0 : Kd.C (Kd.slice 3 (Kd.int .i64)) w A0 l0.length l0) (hr1 : Kd.C (Kd.slice 3 (Kd.int .i64)) w A1 l1.length l1) (h : slices_EqualFunc_int_int_int_int.f k l0 l1 = some r) :
  Calls Try.prog 143 #[.slice A0 l0.length c0, .slice A1 l1.length c1, .func (.func 145) #[] #[]] w fun e w' => e = .returned (.bool r) ∧ Below w.heap.size w w' := by
 have eg := entersAt Try.func145 (by kernel_rfl) rfl
 have EG := Aside0.mk eg
 have HR0 := Aside0.mk hr0
 have HR1 := Aside0.mk hr1
 have hm : l0.length ≤ 9223372036854775807 := hr0.2.1
 unfold slices_EqualFunc_int_int_int_int.f at h
 by_cases hl : l0.length = l1.length
 ·rw [if_pos hl] at h
  have HE := Aside0.mk h
  have c0_ : ((l0.length : Int) != (l1.length : Int)) = false := by rw [hl]; simp
  have HL := Aside0.mk hl
  clear hr0 hr1 h eg hl
  go_enter Try.func143, Try.ntmps143
  go_wp2_with fail
  go_loopg [17] l0.length (fun d v17 w' => ∃ j : Nat, v17 = .int .i64 j ∧ Aside0 (j + d = l0.length) ∧ Aside0 (eqRows k l0 l1 d j = some r) ∧ Aside0 (Below w.heap.size w w'))
  case atStart => exact ⟨0, rfl, ⟨by omega⟩, HE, ⟨by repeat (first | exact Below.refl _ _ | apply zay | apply zaq | apply zav)⟩⟩
  case round =>
   obtain ⟨j, rfl, HJ, HI, HB⟩ := hrel
   cases gk with
   | zero =>
    have hj := HJ.out
    have c1 : decide (j < l0.length) = false := decide_eq_false (by omega)
    have H2 : some true = some r := HI.out
    have HF := Aside0.mk (Option.some.inj H2)
    clear H2 hj
    go_wp2
    go_ret
    exact ⟨by rw [← HF.out]; rfl, bw_⟩
   | succ d =>
    have hj := HJ.out
    have hl := HL.out
    have hlt : j < l0.length := by omega
    have hlt1 : j < l1.length := by omega
    have c1 : decide (j < l0.length) = true := decide_eq_true hlt
    obtain ⟨ad, Ax, cx, e1, hx, hxl, hxr⟩ := at_R (Kd.zac HR0.out HB.out) (j : Int) (by omega) (by omega)
    cases e1
    obtain ⟨ad1, Ay, cy, e1, hy, hyl, hyr⟩ := at_R (Kd.zac HR1.out HB.out) (j : Int) (by omega) (by omega)
    cases e1
    rw [Int.toNat_natCast] at hx hy
    have q1 : (j < l1.length) = True := eq_true hlt1
    have H2 : ((slices_Equal_int_int.f k (rdR l0 (j : Int)) (rdR l1 (j : Int))).bind fun b => if b = true then eqRows k l0 l1 d (j + 1) else some false) = some r := HI.out
    obtain ⟨b, hb, H3⟩ := Option.bind_eq_some_iff.1 H2
    have HEQ := Aside0.mk (slices_Equal_int_int.calls k Ax cx (rdR l0 (j : Int)) Ay cy (rdR l1 (j : Int)) b _ hxr hxl hyr hyl hb)
    have HF := Aside0.mk H3
    clear hxr hxl hyr hyl H2 H3 hb hj hl
    have hw1 : wrap64 ((j : Int) + 1) = (j : Int) + 1 := by unfold wrap64; omega
    cases b with
    | true =>
     go_wp2_with fail
     refine HEQ.out.mono ?_
     rintro e w' ⟨rfl, hb⟩
     have HB2 := Aside0.mk (HB.out.trans (below_base (by first | exact hb | exact hb.below) HB.out.size))
     clear hb
     go_wp2_with fail
     go_roundg d
     case measure => omega
     case rel => exact ⟨j + 1, by go_num, ⟨by have := HJ.out; omega⟩, ⟨by have := HF.out; simpa using this⟩, HB2⟩
    | false =>
     go_wp2_with fail
     refine HEQ.out.mono ?_
     rintro e w' ⟨rfl, hb⟩
     have HB2 := Aside0.mk (HB.out.trans (below_base (by first | exact hb | exact hb.below) HB.out.size))
     clear hb
     go_wp2_with fail
     go_ret
     exact ⟨by have := HF.out; simp at this; rw [← this]; rfl, HB2.out⟩
 ·rw [if_neg hl] at h
  obtain rfl := Option.some.inj h
  have c0_ : ((l0.length : Int) != (l1.length : Int)) = true := by simp only [bne_iff_ne, ne_eq]; omega
  clear h hr0 hr1 eg
  go_enter Try.func143, Try.ntmps143
  go_wp2_with fail
  go_ret
  exact ⟨rfl, by repeat (first | exact Below.refl _ _ | apply zay | apply zaq | apply zav)⟩

def impl_samePowers.f (k : Nat) (a0_0 : Int) (l0_1 : List S117) (l0_2 : List Int) (a1_0 : Int) (l1_1 : List S117) (l1_2 : List Int) : Option Bool :=
 if a0_0 = a1_0 then (impl_Plan_outputExponents.f k a0_0 l0_1 l0_2).bind fun x => (impl_Plan_outputExponents.f k a1_0 l1_1 l1_2).bind fun y => slices_EqualFunc_int_int_int_int.f k x y else some false
theorem impl_samePowers.mono : ∀ a0 a1 a2 a3 a4 a5 k, LeO (impl_samePowers.f k a0 a1 a2 a3 a4 a5) (impl_samePowers.f (k + 1) a0 a1 a2 a3 a4 a5) := by
 intro a0 a1 a2 a3 a4 a5 k
 unfold impl_samePowers.f
 exact LeO.ite (LeO.bind (impl_Plan_outputExponents.mono _ _ _ _) (fun _ => LeO.bind (impl_Plan_outputExponents.mono _ _ _ _) (fun _ => slices_EqualFunc_int_int_int_int.mono _ _ _))) (LeO.refl _)
set_option maxHeartbeats 8000000 in
set_option maxRecDepth 100000 in
theorem impl_samePowers.no (k : Nat) (g0 : Nat) (a0_0 : Int) (A0_1 : Option Addr) (c0_1 : Nat) (l0_1 : List S117) (A0_2 : Option Addr) (c0_2 : Nat) (l0_2 : List Int) (g1 : Nat) (a1_0 : Int) (A1_1 : Option Addr) (c1_1 : Nat) (l1_1 : List S117) (A1_2 : Option Addr) (c1_2 : Nat) (l1_2 : List Int) (w : World) (hb0 : w.heap[g0]? = some (.cells #[.int .i64 a0_0, .slice A0_1 l0_1.length c0_1, .slice A0_2 l0_2.length c0_2] 36 (0, 0))) (hr0_1 : Kd.C k117 w A0_1 l0_1.length l0_1) (hc0_1 : l0_1.length ≤ c0_1) (hr0_2 : Kd.C (Kd.int .i64) w A0_2 l0_2.length l0_2) (hc0_2 : l0_2.length ≤ c0_2) (hb1 : w.heap[g1]? = some (.cells #[.int .i64 a1_0, .slice A1_1 l1_1.length c1_1, .slice A1_2 l1_2.length c1_2] 36 (0, 0))) (hr1_1 : Kd.C k117 w A1_1 l1_1.length l1_1) (hc1_1 : l1_1.length ≤ c1_1) (hr1_2 : Kd.C (Kd.int .i64) w A1_2 l1_2.length l1_2) (hc1_2 : l1_2.length ≤ c1_2) (hn : a0_0 ≠ a1_0) :
  Calls Try.prog 76 #[.pointer (some ⟨g0, 0, none⟩), .pointer (some ⟨g1, 0, none⟩)] w fun e w' => e = .returned (.bool false) ∧ Below w.heap.size w w' := by
 have HK0 := Aside0.mk hb0
 have HK1 := Aside0.mk hb1
 have c1 : decide (a0_0 = a1_0) = false := decide_eq_false hn
 have c2 : (a0_0 == a1_0) = false := by simp [hn]
 clear hn hb0 hr0_1 hc0_1 hr0_2 hc0_2 hb1 hr1_1 hc1_1 hr1_2 hc1_2
 go_enter Try.func76, Try.ntmps76
 go_wp2_with fail
 refine start_ (n := 17) (S := fun w' => w'.cell? ⟨g0, 0, none⟩ = some (.int .i64 a0_0) ∧ w'.cell? ⟨g1, 0, none⟩ = some (.int .i64 a1_0)) (ds := []) #[false, false, false, false, false, false, false, false, false, false, false, false, false, false, false, false, false] (by kernel_rfl) rfl rfl ⟨(za1 (za7 HK0.out (Below.refl w.heap.size w).drew) 0).trans rfl, (za1 (za7 HK1.out (Below.refl w.heap.size w).drew) 0).trans rfl⟩ (fun hHeld => ?_)
 refine pure_ (i := 0) (N := some 5) (v := ?_) (a' := ?_) #[true, false, false, false, false, false, false, false, false, false, false, false, false, false, false, false, false] rfl rfl (by kernel_rfl) (fun _ _ _ h => h) (Or.inl ⟨by rfl, ?_⟩) ?_ ?_
 rotate_left
 ·intro w'
  go_simp
  with_reducible rfl
 rotate_left
 ·simp only [Act.put, sa_, sb_, sc_, i64_w, i32_w]
  rfl
 refine pure_ (i := 1) (N := some 6) (v := ?_) (a' := ?_) #[true, true, false, false, false, false, false, false, false, false, false, false, false, false, false, false, false] rfl rfl (by kernel_rfl) (fun _ _ _ h => h) (Or.inl ⟨by rfl, ?_⟩) ?_ ?_
 rotate_left
 ·intro w'
  go_simp
  with_reducible rfl
 rotate_left
 ·simp only [Act.put, sa_, sb_, sc_, i64_w, i32_w]
  rfl
 refine pure_ (i := 2) (N := some 7) (v := ?_) (a' := ?_) #[true, true, true, false, false, false, false, false, false, false, false, false, false, false, false, false, false] rfl rfl (by kernel_rfl) (fun _ _ _ h => h) (Or.inl ⟨by rfl, ?_⟩) ?_ ?_
 rotate_left
 ·intro w'
  go_simp
  with_reducible rfl
 rotate_left
 ·simp only [Act.put, sa_, sb_, sc_, i64_w, i32_w]
  rfl
 refine pure_ (i := 4) (N := some 9) (v := ?_) (a' := ?_) #[true, true, true, false, true, false, false, false, false, false, false, false, false, false, false, false, false] rfl rfl (by kernel_rfl) (fun _ _ _ h => h) (Or.inl ⟨by rfl, ?_⟩) ?_ ?_
 rotate_left
 ·intro w'
  go_simp
  with_reducible rfl
 rotate_left
 ·simp only [Act.put, sa_, sb_, sc_, i64_w, i32_w]
  rfl
 refine pure_ (i := 5) (N := some 10) (v := ?_) (a' := ?_) #[true, true, true, false, true, true, false, false, false, false, false, false, false, false, false, false, false] rfl rfl (by kernel_rfl) (fun _ _ _ h => h) (Or.inl ⟨by rfl, ?_⟩) ?_ ?_
 rotate_left
 ·intro w'
  go_simp
  with_reducible rfl
 rotate_left
 ·simp only [Act.put, sa_, sb_, sc_, i64_w, i32_w]
  rfl
 refine pure_ (i := 6) (N := some 11) (v := ?_) (a' := ?_) #[true, true, true, false, true, true, true, false, false, false, false, false, false, false, false, false, false] rfl rfl (by kernel_rfl) (fun _ _ _ h => h) (Or.inl ⟨by rfl, ?_⟩) ?_ ?_
 rotate_left
 ·intro w'
  go_simp
  with_reducible rfl
 rotate_left
 ·simp only [Act.put, sa_, sb_, sc_, i64_w, i32_w]
  rfl
 refine take_ (i := 3) (N := some 8) (v := ?_) (a' := ?_) #[true, true, true, true, true, true, true, false, false, false, false, false, false, false, false, false, false] rfl rfl (by kernel_rfl) (fun _ _ _ h => h) (Or.inl ⟨by rfl, ?_⟩) hHeld ?_ ?_
 rotate_left
 ·rintro w' ⟨s0, s1⟩
  go_simp
  with_reducible rfl
 rotate_left
 ·simp only [Act.put, sa_, sb_, sc_, i64_w, i32_w]
  rfl
 refine take_ (i := 7) (N := some 12) (v := ?_) (a' := ?_) #[true, true, true, true, true, true, true, true, false, false, false, false, false, false, false, false, false] rfl rfl (by kernel_rfl) (fun _ _ _ h => h) (Or.inl ⟨by rfl, ?_⟩) hHeld ?_ ?_
 rotate_left
 ·rintro w' ⟨s0, s1⟩
  go_simp
  with_reducible rfl
 rotate_left
 ·simp only [Act.put, sa_, sb_, sc_, i64_w, i32_w]
  rfl
 refine pure_ (i := 8) (N := some 13) (v := ?_) (a' := ?_) #[true, true, true, true, true, true, true, true, true, false, false, false, false, false, false, false, false] rfl rfl (by kernel_rfl) (fun _ _ _ h => h) (Or.inl ⟨by rfl, ?_⟩) ?_ ?_
 rotate_left
 ·intro w'
  go_simp
  with_reducible rfl
 rotate_left
 ·simp only [Act.put, sa_, sb_, sc_, i64_w, i32_w]
  rfl
 refine pure_ (i := 9) (N := some 14) (v := ?_) (a' := ?_) #[true, true, true, true, true, true, true, true, true, true, false, false, false, false, false, false, false] rfl rfl (by kernel_rfl) (fun _ _ _ h => h) (Or.inl ⟨by rfl, ?_⟩) ?_ ?_
 rotate_left
 ·intro w'
  go_simp
  with_reducible rfl
 rotate_left
 ·simp only [Act.put, sa_, sb_, sc_, i64_w, i32_w]
  rfl
 refine pure_ (i := 10) (N := some 15) (v := undef) (a' := ?_) #[true, true, true, true, true, true, true, true, true, true, true, false, false, false, false, false, false] rfl rfl (by kernel_rfl) (fun _ _ _ h => h) (Or.inr ⟨by rfl, rfl⟩) ?_ ?_
 rotate_left
 ·simp only [Act.put, sa_, sb_, sc_, i64_w, i32_w]
  rfl
 refine pure_ (i := 11) (N := some 16) (v := undef) (a' := ?_) #[true, true, true, true, true, true, true, true, true, true, true, true, false, false, false, false, false] rfl rfl (by kernel_rfl) (fun _ _ _ h => h) (Or.inr ⟨by rfl, rfl⟩) ?_ ?_
 rotate_left
 ·simp only [Act.put, sa_, sb_, sc_, i64_w, i32_w]
  rfl
 refine pure_ (i := 12) (N := some 17) (v := undef) (a' := ?_) #[true, true, true, true, true, true, true, true, true, true, true, true, true, false, false, false, false] rfl rfl (by kernel_rfl) (fun _ _ _ h => h) (Or.inr ⟨by rfl, rfl⟩) ?_ ?_
 rotate_left
 ·simp only [Act.put, sa_, sb_, sc_, i64_w, i32_w]
  rfl
 refine pure_ (i := 13) (N := some 18) (v := undef) (a' := ?_) #[true, true, true, true, true, true, true, true, true, true, true, true, true, true, false, false, false] rfl rfl (by kernel_rfl) (fun _ _ _ h => h) (Or.inr ⟨by rfl, rfl⟩) ?_ ?_
 rotate_left
 ·simp only [Act.put, sa_, sb_, sc_, i64_w, i32_w]
  rfl
 refine pure_ (i := 14) (N := some 19) (v := undef) (a' := ?_) #[true, true, true, true, true, true, true, true, true, true, true, true, true, true, true, false, false] rfl rfl (by kernel_rfl) (fun _ _ _ h => h) (Or.inr ⟨by rfl, rfl⟩) ?_ ?_
 rotate_left
 ·simp only [Act.put, sa_, sb_, sc_, i64_w, i32_w]
  rfl
 refine pure_ (i := 15) (N := some 20) (v := ?_) (a' := ?_) #[true, true, true, true, true, true, true, true, true, true, true, true, true, true, true, true, false] rfl rfl (by kernel_rfl) (fun _ _ _ h => h) (Or.inl ⟨by rfl, ?_⟩) ?_ ?_
 rotate_left
 ·intro w'
  go_simp
  with_reducible rfl
 rotate_left
 ·simp only [Act.put, sa_, sb_, sc_, i64_w, i32_w]
  rfl
 refine pure_ (i := 16) (N := some 4) (v := ?_) (a' := ?_) #[true, true, true, true, true, true, true, true, true, true, true, true, true, true, true, true, true] rfl rfl (by kernel_rfl) (fun _ _ _ h => h) (Or.inl ⟨by rfl, ?_⟩) ?_ ?_
 rotate_left
 ·intro w'
  go_simp
  with_reducible rfl
 rotate_left
 ·simp only [Act.put, sa_, sb_, sc_, i64_w, i32_w]
  rfl
 refine done_ (by kernel_rfl) ?_
 go_wp2_with fail
 go_ret
 exact ⟨rfl, by repeat (first | exact Below.refl _ _ | apply zay | apply zaq | apply zav)⟩
set_option maxHeartbeats 8000000 in
set_option maxRecDepth 100000 in
theorem impl_samePowers.yes (k : Nat) (g0 : Nat) (a0_0 : Int) (A0_1 : Option Addr) (c0_1 : Nat) (l0_1 : List S117) (A0_2 : Option Addr) (c0_2 : Nat) (l0_2 : List Int) (g1 : Nat) (a1_0 : Int) (A1_1 : Option Addr) (c1_1 : Nat) (l1_1 : List S117) (A1_2 : Option Addr) (c1_2 : Nat) (l1_2 : List Int) (x y : List (List Int)) (r : Bool) (w : World) (hb0 : w.heap[g0]? = some (.cells #[.int .i64 a0_0, .slice A0_1 l0_1.length c0_1, .slice A0_2 l0_2.length c0_2] 36 (0, 0))) (hr0_1 : Kd.C k117 w A0_1 l0_1.length l0_1) (hc0_1 : l0_1.length ≤ c0_1) (hr0_2 : Kd.C (Kd.int .i64) w A0_2 l0_2.length l0_2) (hc0_2 : l0_2.length ≤ c0_2) (hb1 : w.heap[g1]? = some (.cells #[.int .i64 a1_0, .slice A1_1 l1_1.length c1_1, .slice A1_2 l1_2.length c1_2] 36 (0, 0))) (hr1_1 : Kd.C k117 w A1_1 l1_1.length l1_1) (hc1_1 : l1_1.length ≤ c1_1) (hr1_2 : Kd.C (Kd.int .i64) w A1_2 l1_2.length l1_2) (hc1_2 : l1_2.length ≤ c1_2) (hn : a0_0 = a1_0) (hx : impl_Plan_outputExponents.f k a0_0 l0_1 l0_2 = some x) (hy : impl_Plan_outputExponents.f k a1_0 l1_1 l1_2 = some y) (he : slices_EqualFunc_int_int_int_int.f k x y = some r) :
  Calls Try.prog 76 #[.pointer (some ⟨g0, 0, none⟩), .pointer (some ⟨g1, 0, none⟩)] w fun e w' => e = .returned (.bool r) ∧ Below w.heap.size w w' := by
 have HK0 := Aside0.mk hb0
 have HK1 := Aside0.mk hb1
 have HX0 := Aside0.mk (fun (w1 : World) (h : Below w.heap.size w w1) => impl_Plan_outputExponents.calls k g0 a0_0 A0_1 c0_1 l0_1 A0_2 c0_2 l0_2 x w1 (za7 hb0 h) (Kd.zac hr0_1 h) hc0_1 (Kd.zac hr0_2 h) hc0_2 hx)
 have HX1 := Aside0.mk (fun (w1 : World) (h : Below w.heap.size w w1) => impl_Plan_outputExponents.calls k g1 a1_0 A1_1 c1_1 l1_1 A1_2 c1_2 l1_2 y w1 (za7 hb1 h) (Kd.zac hr1_1 h) hc1_1 (Kd.zac hr1_2 h) hc1_2 hy)
 have HE := Aside0.mk he
 have c1 : decide (a0_0 = a1_0) = true := decide_eq_true hn
 have c2 : (a0_0 == a1_0) = true := by simp [hn]
 clear hn hx hy he hb0 hr0_1 hc0_1 hr0_2 hc0_2 hb1 hr1_1 hc1_1 hr1_2 hc1_2
 go_enter Try.func76, Try.ntmps76
 go_wp2_with fail
 refine start_ (n := 17) (S := fun w' => w'.cell? ⟨g0, 0, none⟩ = some (.int .i64 a0_0) ∧ w'.cell? ⟨g1, 0, none⟩ = some (.int .i64 a1_0)) (ds := []) #[false, false, false, false, false, false, false, false, false, false, false, false, false, false, false, false, false] (by kernel_rfl) rfl rfl ⟨(za1 (za7 HK0.out (Below.refl w.heap.size w).drew) 0).trans rfl, (za1 (za7 HK1.out (Below.refl w.heap.size w).drew) 0).trans rfl⟩ (fun hHeld => ?_)
 refine pure_ (i := 0) (N := some 5) (v := ?_) (a' := ?_) #[true, false, false, false, false, false, false, false, false, false, false, false, false, false, false, false, false] rfl rfl (by kernel_rfl) (fun _ _ _ h => h) (Or.inl ⟨by rfl, ?_⟩) ?_ ?_
 rotate_left
 ·intro w'
  go_simp
  with_reducible rfl
 rotate_left
 ·simp only [Act.put, sa_, sb_, sc_, i64_w, i32_w]
  rfl
 refine pure_ (i := 1) (N := some 6) (v := ?_) (a' := ?_) #[true, true, false, false, false, false, false, false, false, false, false, false, false, false, false, false, false] rfl rfl (by kernel_rfl) (fun _ _ _ h => h) (Or.inl ⟨by rfl, ?_⟩) ?_ ?_
 rotate_left
 ·intro w'
  go_simp
  with_reducible rfl
 rotate_left
 ·simp only [Act.put, sa_, sb_, sc_, i64_w, i32_w]
  rfl
 refine pure_ (i := 2) (N := some 7) (v := ?_) (a' := ?_) #[true, true, true, false, false, false, false, false, false, false, false, false, false, false, false, false, false] rfl rfl (by kernel_rfl) (fun _ _ _ h => h) (Or.inl ⟨by rfl, ?_⟩) ?_ ?_
 rotate_left
 ·intro w'
  go_simp
  with_reducible rfl
 rotate_left
 ·simp only [Act.put, sa_, sb_, sc_, i64_w, i32_w]
  rfl
 refine pure_ (i := 4) (N := some 9) (v := ?_) (a' := ?_) #[true, true, true, false, true, false, false, false, false, false, false, false, false, false, false, false, false] rfl rfl (by kernel_rfl) (fun _ _ _ h => h) (Or.inl ⟨by rfl, ?_⟩) ?_ ?_
 rotate_left
 ·intro w'
  go_simp
  with_reducible rfl
 rotate_left
 ·simp only [Act.put, sa_, sb_, sc_, i64_w, i32_w]
  rfl
 refine pure_ (i := 5) (N := some 10) (v := ?_) (a' := ?_) #[true, true, true, false, true, true, false, false, false, false, false, false, false, false, false, false, false] rfl rfl (by kernel_rfl) (fun _ _ _ h => h) (Or.inl ⟨by rfl, ?_⟩) ?_ ?_
 rotate_left
 ·intro w'
  go_simp
  with_reducible rfl
 rotate_left
 ·simp only [Act.put, sa_, sb_, sc_, i64_w, i32_w]
  rfl
 refine pure_ (i := 6) (N := some 11) (v := ?_) (a' := ?_) #[true, true, true, false, true, true, true, false, false, false, false, false, false, false, false, false, false] rfl rfl (by kernel_rfl) (fun _ _ _ h => h) (Or.inl ⟨by rfl, ?_⟩) ?_ ?_
 rotate_left
 ·intro w'
  go_simp
  with_reducible rfl
 rotate_left
 ·simp only [Act.put, sa_, sb_, sc_, i64_w, i32_w]
  rfl
 refine take_ (i := 3) (N := some 8) (v := ?_) (a' := ?_) #[true, true, true, true, true, true, true, false, false, false, false, false, false, false, false, false, false] rfl rfl (by kernel_rfl) (fun _ _ _ h => h) (Or.inl ⟨by rfl, ?_⟩) hHeld ?_ ?_
 rotate_left
 ·rintro w' ⟨s0, s1⟩
  go_simp
  with_reducible rfl
 rotate_left
 ·simp only [Act.put, sa_, sb_, sc_, i64_w, i32_w]
  rfl
 refine take_ (i := 7) (N := some 12) (v := ?_) (a' := ?_) #[true, true, true, true, true, true, true, true, false, false, false, false, false, false, false, false, false] rfl rfl (by kernel_rfl) (fun _ _ _ h => h) (Or.inl ⟨by rfl, ?_⟩) hHeld ?_ ?_
 rotate_left
 ·rintro w' ⟨s0, s1⟩
  go_simp
  with_reducible rfl
 rotate_left
 ·simp only [Act.put, sa_, sb_, sc_, i64_w, i32_w]
  rfl
 refine pure_ (i := 8) (N := some 13) (v := ?_) (a' := ?_) #[true, true, true, true, true, true, true, true, true, false, false, false, false, false, false, false, false] rfl rfl (by kernel_rfl) (fun _ _ _ h => h) (Or.inl ⟨by rfl, ?_⟩) ?_ ?_
 rotate_left
 ·intro w'
  go_simp
  with_reducible rfl
 rotate_left
 ·simp only [Act.put, sa_, sb_, sc_, i64_w, i32_w]
  rfl
 refine pure_ (i := 9) (N := some 14) (v := ?_) (a' := ?_) #[true, true, true, true, true, true, true, true, true, true, false, false, false, false, false, false, false] rfl rfl (by kernel_rfl) (fun _ _ _ h => h) (Or.inl ⟨by rfl, ?_⟩) ?_ ?_
 rotate_left
 ·intro w'
  go_simp
  with_reducible rfl
 rotate_left
 ·simp only [Act.put, sa_, sb_, sc_, i64_w, i32_w]
  rfl
 refine pure_ (i := 10) (N := some 15) (v := ?_) (a' := ?_) #[true, true, true, true, true, true, true, true, true, true, true, false, false, false, false, false, false] rfl rfl (by kernel_rfl) (fun _ _ _ h => h) (Or.inl ⟨by rfl, ?_⟩) ?_ ?_
 rotate_left
 ·intro w'
  go_simp
  with_reducible rfl
 rotate_left
 ·simp only [Act.put, sa_, sb_, sc_, i64_w, i32_w]
  rfl
 refine pure_ (i := 12) (N := some 17) (v := ?_) (a' := ?_) #[true, true, true, true, true, true, true, true, true, true, true, false, true, false, false, false, false] rfl rfl (by kernel_rfl) (fun _ _ _ h => h) (Or.inl ⟨by rfl, ?_⟩) ?_ ?_
 rotate_left
 ·intro w'
  go_simp
  with_reducible rfl
 rotate_left
 ·simp only [Act.put, sa_, sb_, sc_, i64_w, i32_w]
  rfl
 refine one_ (i := 11) (N := some 16) #[true, true, true, true, true, true, true, true, true, true, true, true, true, false, false, false, false] rfl rfl (by kernel_rfl) (by decide) (fun K hK => ?_)
 refine goes_ Try.func144 (by kernel_rfl) rfl #[.pointer (some ⟨g0, 0, none⟩)] (by rfl) rfl rfl (by simp only [List.map_toArray, List.map_cons, List.map_nil]; rfl) ?_
 with_reducible refine (HX0.out _ ((Below.refl w.heap.size w).drew)).mono ?_
 rintro e w1 ⟨vx_, rfl, hs_, hb_⟩
 refine ⟨_, rfl, ?_⟩
 have HB1 := Aside0.mk (((Below.refl w.heap.size w).drew).trans (below_base hb_ ((Below.refl w.heap.size w).drew).size))
 have hr_ := Kd.S_R hs_
 obtain ⟨vxA, vxc, rfl⟩ := Kd.zat hr_
 have HRvx := Aside0.mk (Kd.R_reads' hr_).2.2
 clear hs_ hr_ hb_
 refine hK.out _ _ ⟨(za1 (za7 HK0.out HB1.out) 0).trans rfl, (za1 (za7 HK1.out HB1.out) 0).trans rfl⟩ (fun hHeld => ?_)
 clear hK K
 refine norm_ (a' := ?_) ?_ ?_
 rotate_left
 ·show Act.put _ (some 16) _ = _
  simp only [Act.put, sa_, sb_, sc_, i64_w, i32_w]
  rfl
 refine one_ (i := 13) (N := some 18) #[true, true, true, true, true, true, true, true, true, true, true, true, true, true, false, false, false] rfl rfl (by kernel_rfl) (by decide) (fun K hK => ?_)
 refine goes_ Try.func144 (by kernel_rfl) rfl #[.pointer (some ⟨g1, 0, none⟩)] (by rfl) rfl rfl (by simp only [List.map_toArray, List.map_cons, List.map_nil]; rfl) ?_
 with_reducible refine (HX1.out _ (HB1.out)).mono ?_
 rintro e w2 ⟨vy_, rfl, hs_, hb_⟩
 refine ⟨_, rfl, ?_⟩
 have HB2 := Aside0.mk ((HB1.out).trans (below_base hb_ (HB1.out).size))
 have hr_ := Kd.S_R hs_
 obtain ⟨vyA, vyc, rfl⟩ := Kd.zat hr_
 have HRvy := Aside0.mk (Kd.R_reads' hr_).2.2
 have HB12 := Aside0.mk (show Below _ w1 w2 from hb_)
 clear hs_ hr_ hb_
 refine hK.out _ _ ⟨(za1 (za7 HK0.out HB2.out) 0).trans rfl, (za1 (za7 HK1.out HB2.out) 0).trans rfl⟩ (fun hHeld => ?_)
 clear hK K
 refine norm_ (a' := ?_) ?_ ?_
 rotate_left
 ·show Act.put _ (some 18) _ = _
  simp only [Act.put, sa_, sb_, sc_, i64_w, i32_w]
  rfl
 refine one_ (i := 14) (N := some 19) #[true, true, true, true, true, true, true, true, true, true, true, true, true, true, true, false, false] rfl rfl (by kernel_rfl) (by decide) (fun K hK => ?_)
 refine goes_ Try.func143 (by kernel_rfl) rfl #[.slice vxA x.length vxc, .slice vyA y.length vyc, .func (.func 145) #[] #[]] (by rfl) rfl rfl (by simp only [List.map_toArray, List.map_cons, List.map_nil]; rfl) ?_
 with_reducible refine (slices_EqualFunc_int_int_int_int.calls k vxA vxc x vyA vyc y r _ (Kd.zac HRvx.out HB12.out) HRvy.out HE.out).mono ?_
 rintro e w3 ⟨rfl, hb_⟩
 refine ⟨_, rfl, ?_⟩
 have HB3 := Aside0.mk (HB2.out.trans (below_base hb_ HB2.out.size))
 clear hb_
 refine hK.out _ _ ⟨(za1 (za7 HK0.out HB3.out) 0).trans rfl, (za1 (za7 HK1.out HB3.out) 0).trans rfl⟩ (fun hHeld => ?_)
 clear hK K
 refine norm_ (a' := ?_) ?_ ?_
 rotate_left
 ·show Act.put _ (some 19) _ = _
  simp only [Act.put, sa_, sb_, sc_, i64_w, i32_w]
  rfl
 refine pure_ (i := 15) (N := some 20) (v := ?_) (a' := ?_) #[true, true, true, true, true, true, true, true, true, true, true, true, true, true, true, true, false] rfl rfl (by kernel_rfl) (fun _ _ _ h => h) (Or.inl ⟨by rfl, ?_⟩) ?_ ?_
 rotate_left
 ·intro w'
  go_simp
  with_reducible rfl
 rotate_left
 ·simp only [Act.put, sa_, sb_, sc_, i64_w, i32_w]
  rfl
 refine pure_ (i := 16) (N := some 4) (v := ?_) (a' := ?_) #[true, true, true, true, true, true, true, true, true, true, true, true, true, true, true, true, true] rfl rfl (by kernel_rfl) (fun _ _ _ h => h) (Or.inl ⟨by rfl, ?_⟩) ?_ ?_
 rotate_left
 ·intro w'
  go_simp
  with_reducible rfl
 rotate_left
 ·simp only [Act.put, sa_, sb_, sc_, i64_w, i32_w]
  rfl
 refine done_ (by kernel_rfl) ?_
 go_wp2_with fail
 go_ret
 exact ⟨rfl, by repeat (first | (with_reducible first | exact HB3.out | apply zay | apply zaq | apply zav) | exact HB3.out)⟩
theorem impl_samePowers.calls (k : Nat) (g0 : Nat) (a0_0 : Int) (A0_1 : Option Addr) (c0_1 : Nat) (l0_1 : List S117) (A0_2 : Option Addr) (c0_2 : Nat) (l0_2 : List Int) (g1 : Nat) (a1_0 : Int) (A1_1 : Option Addr) (c1_1 : Nat) (l1_1 : List S117) (A1_2 : Option Addr) (c1_2 : Nat) (l1_2 : List Int) (r : Bool) (w : World) (hb0 : w.heap[g0]? = some (.cells #[.int .i64 a0_0, .slice A0_1 l0_1.length c0_1, .slice A0_2 l0_2.length c0_2] 36 (0, 0))) (hr0_1 : Kd.C k117 w A0_1 l0_1.length l0_1) (hc0_1 : l0_1.length ≤ c0_1) (hr0_2 : Kd.C (Kd.int .i64) w A0_2 l0_2.length l0_2) (hc0_2 : l0_2.length ≤ c0_2) (hb1 : w.heap[g1]? = some (.cells #[.int .i64 a1_0, .slice A1_1 l1_1.length c1_1, .slice A1_2 l1_2.length c1_2] 36 (0, 0))) (hr1_1 : Kd.C k117 w A1_1 l1_1.length l1_1) (hc1_1 : l1_1.length ≤ c1_1) (hr1_2 : Kd.C (Kd.int .i64) w A1_2 l1_2.length l1_2) (hc1_2 : l1_2.length ≤ c1_2) (h : impl_samePowers.f k a0_0 l0_1 l0_2 a1_0 l1_1 l1_2 = some r) :
  Calls Try.prog 76 #[.pointer (some ⟨g0, 0, none⟩), .pointer (some ⟨g1, 0, none⟩)] w fun e w' => e = .returned (.bool r) ∧ Below w.heap.size w w' := by
 unfold impl_samePowers.f at h
 by_cases hn : a0_0 = a1_0
 ·rw [if_pos hn] at h
  obtain ⟨x, hx, h⟩ := Option.bind_eq_some_iff.1 h
  obtain ⟨y, hy, h⟩ := Option.bind_eq_some_iff.1 h
  exact impl_samePowers.yes k g0 a0_0 A0_1 c0_1 l0_1 A0_2 c0_2 l0_2 g1 a1_0 A1_1 c1_1 l1_1 A1_2 c1_2 l1_2 x y r w hb0 hr0_1 hc0_1 hr0_2 hc0_2 hb1 hr1_1 hc1_1 hr1_2 hc1_2 hn hx hy h
 ·rw [if_neg hn] at h
  obtain rfl := Option.some.inj h
  exact impl_samePowers.no k g0 a0_0 A0_1 c0_1 l0_1 A0_2 c0_2 l0_2 g1 a1_0 A1_1 c1_1 l1_1 A1_2 c1_2 l1_2 w hb0 hr0_1 hc0_1 hr0_2 hc0_2 hb1 hr1_1 hc1_1 hr1_2 hc1_2 hn

/-! ### impl_CheckRegCode: function 36 -/
def impl_CheckRegCode.f (k : Nat) (a0_0 : Int) (l0_1 : List Int) (l0_2 : List S80) (l0_3 : List Int) (a1_0 : Int) (l1_1 : List S117) (l1_2 : List Int) : Option (Bool × Bool) := (impl_RegCode_plan.f k a0_0 l0_1 l0_2 l0_3).bind fun bt => if bt.2.2.2 = true then (impl_IsPlan.f k a1_0 l1_1 l1_2).bind fun t => if t = true then (impl_samePowers.f k bt.1 bt.2.1 bt.2.2.1 a1_0 l1_1 l1_2).bind fun s => some (s, true) else some (false, false) else some (false, false)
theorem impl_CheckRegCode.mono : ∀ a0 a1 a2 a3 a4 a5 a6 k, LeO (impl_CheckRegCode.f k a0 a1 a2 a3 a4 a5 a6) (impl_CheckRegCode.f (k + 1) a0 a1 a2 a3 a4 a5 a6) := by
 intro a0 a1 a2 a3 a4 a5 a6 k
 unfold impl_CheckRegCode.f
 exact LeO.bind (impl_RegCode_plan.mono _ _ _ _ _) (fun _ => LeO.ite (LeO.bind (impl_IsPlan.mono _ _ _ _) (fun _ => LeO.ite (LeO.bind (impl_samePowers.mono _ _ _ _ _ _ _) (fun _ => LeO.refl _)) (LeO.refl _))) (LeO.refl _))
set_option maxHeartbeats 16000000 in
set_option maxRecDepth 100000 in
theorem impl_CheckRegCode.no1 (k : Nat) (a0_0 : Int) (A0_1 : Option Addr) (c0_1 : Nat) (l0_1 : List Int) (A0_2 : Option Addr) (c0_2 : Nat) (l0_2 : List S80) (A0_3 : Option Addr) (c0_3 : Nat) (l0_3 : List Int) (a1_0 : Int) (A1_1 : Option Addr) (c1_1 : Nat) (l1_1 : List S117) (A1_2 : Option Addr) (c1_2 : Nat) (l1_2 : List Int) (p1 : Int) (p2 : List S117) (p3 : List Int) (w : World) (hr0_1 : Kd.C (Kd.int .i64) w A0_1 l0_1.length l0_1) (hc0_1 : l0_1.length ≤ c0_1) (hr0_2 : Kd.C k80 w A0_2 l0_2.length l0_2) (hc0_2 : l0_2.length ≤ c0_2) (hr0_3 : Kd.C (Kd.int .i64) w A0_3 l0_3.length l0_3) (hc0_3 : l0_3.length ≤ c0_3) (hr1_1 : Kd.C k117 w A1_1 l1_1.length l1_1) (hc1_1 : l1_1.length ≤ c1_1) (hr1_2 : Kd.C (Kd.int .i64) w A1_2 l1_2.length l1_2) (hc1_2 : l1_2.length ≤ c1_2) (hx : impl_RegCode_plan.f k a0_0 l0_1 l0_2 l0_3 = some (p1, p2, p3, false)) :
  Calls Try.prog 36 #[.agg #[.int .i64 a0_0, .slice A0_1 l0_1.length c0_1, .slice A0_2 l0_2.length c0_2, .slice A0_3 l0_3.length c0_3], .agg #[.int .i64 a1_0, .slice A1_1 l1_1.length c1_1, .slice A1_2 l1_2.length c1_2]] w fun e w' => e = .returned (.tuple #[.bool false, .bool false]) ∧ Below w.heap.size w w' := by
 have hu30 := Try.underlying30
 have hu36 := Try.underlying36
 have HC1 := Aside0.mk hr0_1
 have HC2 := Aside0.mk hr0_2
 have HC3 := Aside0.mk hr0_3
 have HP1 := Aside0.mk hr1_1
 have HP2 := Aside0.mk hr1_2
 have HN := Aside0.mk (And.intro hc0_1 (And.intro hc0_2 (And.intro hc0_3 (And.intro hc1_1 hc1_2))))
 clear hr0_1 hc0_1 hr0_2 hc0_2 hr0_3 hc0_3 hr1_1 hc1_1 hr1_2 hc1_2
 have HX := Aside0.mk hx
 clear hx
 go_enter Try.func36, Try.ntmps36
 have T_ := Aside0.mk trivial
 go_wp2_with (first | ((with_reducible refine zaf (N := 2) rfl ?_); refine zad ?hg (N := 2) ?hd (cs := #[.int .i64 a0_0, .slice A0_1 l0_1.length c0_1, .slice A0_2 l0_2.length c0_2, .slice A0_3 l0_3.length c0_3]) (t := 30) ?hr ?_; (case hd => rfl); (case hg => rfl); (case hr => first | (go_simp; done) | (go_simp; rfl)); intro g2 hg_ w1 hbox_ hb_; have H1 := Aside0.mk (((Fr.start w)).zb6 hbox_ hb_ hg_); clear hbox_ hb_ hg_) | ((with_reducible refine zaf (N := 3) rfl ?_); refine zad ?hg (N := 3) ?hd (cs := #[.int .i64 a1_0, .slice A1_1 l1_1.length c1_1, .slice A1_2 l1_2.length c1_2]) (t := 36) ?hr ?_; (case hd => rfl); (case hg => rfl); (case hr => first | (go_simp; done) | (go_simp; rfl)); intro g3 hg_ w2 hbox_ hb_; have H2 := Aside0.mk ((H1.out).zb6 hbox_ hb_ hg_); clear hbox_ hb_ hg_) | (go_at_call 60; clear T_; refine (impl_RegCode_plan.calls k g2 a0_0 A0_1 c0_1 l0_1 A0_2 c0_2 l0_2 A0_3 c0_3 l0_3 p1 p2 p3 false _ ((H2.out).zai (i := 1) rfl) (Kd.zac HC1.out (H2.out).bel) HN.out.1 (Kd.zac HC2.out (H2.out).bel) HN.out.2.1 (Kd.zac HC3.out (H2.out).bel) HN.out.2.2.1 HX.out).mono ?_; rintro e w3 ⟨v1_, v2_, rfl, hr1_, hr2_, hb_⟩; have H3 := Aside0.mk (Fr.pair_new (H2.out) hr1_ hr2_ hb_); obtain ⟨Aq1, cq1, rfl⟩ := Kd.zat hr1_; obtain ⟨Aq2, cq2, rfl⟩ := Kd.zat hr2_; clear hr1_ hr2_ hb_) | ((with_reducible refine zaf (N := 6) rfl ?_); refine zad ?hg (N := 6) ?hd (cs := #[.int .i64 0, .slice none 0 0, .slice none 0 0]) (t := 36) ?hr ?_; (case hd => rfl); (case hg => rfl); (case hr => first | (go_simp; done) | (go_simp; rfl)); intro g6 hg_ w4 hbox_ hb_; have H4 := Aside0.mk ((H3.out).zb6 hbox_ hb_ hg_); clear hbox_ hb_ hg_; have xg6_0 : w4.cell? ⟨g6, 0, none⟩ = some (.int .i64 0) := (H4.out).za5 (i := 0) rfl 0 rfl; have fg6_0 := za0 ((H4.out).zai (i := 0) rfl) 0; have xg6_1 : w4.cell? ⟨g6, 1, none⟩ = some (.slice none 0 0) := (H4.out).za5 (i := 0) rfl 1 rfl; have fg6_1 := za0 ((H4.out).zai (i := 0) rfl) 1; have xg6_2 : w4.cell? ⟨g6, 2, none⟩ = some (.slice none 0 0) := (H4.out).za5 (i := 0) rfl 2 rfl; have fg6_2 := za0 ((H4.out).zai (i := 0) rfl) 2; have ng2_g6 := Fr.box_ne (H4.out) (i := 3) (j := 0) (by decide) rfl rfl; have ng6_g2 := ng2_g6.symm; have ng3_g6 := Fr.box_ne (H4.out) (i := 2) (j := 0) (by decide) rfl rfl; have ng6_g3 := ng3_g6.symm))
 have h_ := (((H4.out).zas (i := 0) rfl 0 (.int .i64 p1) rfl).zas (i := 0) rfl 1 (.slice Aq1 p2.length cq1) rfl).zas (i := 0) rfl 2 (.slice Aq2 p3.length cq2) rfl
 simp only [List.set_cons_zero, List.set_cons_succ] at h_
 generalize (((w4).setCell ⟨g6, 0, none⟩ (.int .i64 p1)).setCell ⟨g6, 1, none⟩ (.slice Aq1 p2.length cq1)).setCell ⟨g6, 2, none⟩ (.slice Aq2 p3.length cq2) = w5 at h_ ⊢
 have H5 := Aside0.mk (show Fr w w (fun _ => False) [box g6 36 #[.int .i64 p1, .slice Aq1 p2.length cq1, .slice Aq2 p3.length cq2], pair2 k117 117 (.slice Aq1 p2.length cq1) p2 (Kd.int .i64) 3 (.slice Aq2 p3.length cq2) p3, box g3 36 #[.int .i64 a1_0, .slice A1_1 l1_1.length c1_1, .slice A1_2 l1_2.length c1_2], box g2 30 #[.int .i64 a0_0, .slice A0_1 l0_1.length c0_1, .slice A0_2 l0_2.length c0_2, .slice A0_3 l0_3.length c0_3]] w5 from h_)
 clear h_
 clear xg6_0 fg6_0 xg6_1 fg6_1 xg6_2 fg6_2 ng2_g6 ng6_g2 ng3_g6 ng6_g3
 go_ret2
 exact ⟨rfl, (H5.out).bel⟩
set_option maxHeartbeats 16000000 in
set_option maxRecDepth 100000 in
theorem impl_CheckRegCode.no2 (k : Nat) (a0_0 : Int) (A0_1 : Option Addr) (c0_1 : Nat) (l0_1 : List Int) (A0_2 : Option Addr) (c0_2 : Nat) (l0_2 : List S80) (A0_3 : Option Addr) (c0_3 : Nat) (l0_3 : List Int) (a1_0 : Int) (A1_1 : Option Addr) (c1_1 : Nat) (l1_1 : List S117) (A1_2 : Option Addr) (c1_2 : Nat) (l1_2 : List Int) (p1 : Int) (p2 : List S117) (p3 : List Int) (w : World) (hr0_1 : Kd.C (Kd.int .i64) w A0_1 l0_1.length l0_1) (hc0_1 : l0_1.length ≤ c0_1) (hr0_2 : Kd.C k80 w A0_2 l0_2.length l0_2) (hc0_2 : l0_2.length ≤ c0_2) (hr0_3 : Kd.C (Kd.int .i64) w A0_3 l0_3.length l0_3) (hc0_3 : l0_3.length ≤ c0_3) (hr1_1 : Kd.C k117 w A1_1 l1_1.length l1_1) (hc1_1 : l1_1.length ≤ c1_1) (hr1_2 : Kd.C (Kd.int .i64) w A1_2 l1_2.length l1_2) (hc1_2 : l1_2.length ≤ c1_2) (hx : impl_RegCode_plan.f k a0_0 l0_1 l0_2 l0_3 = some (p1, p2, p3, true)) (hy : impl_IsPlan.f k a1_0 l1_1 l1_2 = some false) :
  Calls Try.prog 36 #[.agg #[.int .i64 a0_0, .slice A0_1 l0_1.length c0_1, .slice A0_2 l0_2.length c0_2, .slice A0_3 l0_3.length c0_3], .agg #[.int .i64 a1_0, .slice A1_1 l1_1.length c1_1, .slice A1_2 l1_2.length c1_2]] w fun e w' => e = .returned (.tuple #[.bool false, .bool false]) ∧ Below w.heap.size w w' := by
 have hu30 := Try.underlying30
 have hu36 := Try.underlying36
 have HC1 := Aside0.mk hr0_1
 have HC2 := Aside0.mk hr0_2
 have HC3 := Aside0.mk hr0_3
 have HP1 := Aside0.mk hr1_1
 have HP2 := Aside0.mk hr1_2
 have HN := Aside0.mk (And.intro hc0_1 (And.intro hc0_2 (And.intro hc0_3 (And.intro hc1_1 hc1_2))))
 clear hr0_1 hc0_1 hr0_2 hc0_2 hr0_3 hc0_3 hr1_1 hc1_1 hr1_2 hc1_2
 have HX := Aside0.mk hx
 have HY := Aside0.mk hy
 clear hx hy
 go_enter Try.func36, Try.ntmps36
 have T_ := Aside0.mk trivial
 go_wp2_with (first | ((with_reducible refine zaf (N := 2) rfl ?_); refine zad ?hg (N := 2) ?hd (cs := #[.int .i64 a0_0, .slice A0_1 l0_1.length c0_1, .slice A0_2 l0_2.length c0_2, .slice A0_3 l0_3.length c0_3]) (t := 30) ?hr ?_; (case hd => rfl); (case hg => rfl); (case hr => first | (go_simp; done) | (go_simp; rfl)); intro g2 hg_ w1 hbox_ hb_; have H1 := Aside0.mk (((Fr.start w)).zb6 hbox_ hb_ hg_); clear hbox_ hb_ hg_) | ((with_reducible refine zaf (N := 3) rfl ?_); refine zad ?hg (N := 3) ?hd (cs := #[.int .i64 a1_0, .slice A1_1 l1_1.length c1_1, .slice A1_2 l1_2.length c1_2]) (t := 36) ?hr ?_; (case hd => rfl); (case hg => rfl); (case hr => first | (go_simp; done) | (go_simp; rfl)); intro g3 hg_ w2 hbox_ hb_; have H2 := Aside0.mk ((H1.out).zb6 hbox_ hb_ hg_); clear hbox_ hb_ hg_) | (go_at_call 60; clear T_; refine (impl_RegCode_plan.calls k g2 a0_0 A0_1 c0_1 l0_1 A0_2 c0_2 l0_2 A0_3 c0_3 l0_3 p1 p2 p3 true _ ((H2.out).zai (i := 1) rfl) (Kd.zac HC1.out (H2.out).bel) HN.out.1 (Kd.zac HC2.out (H2.out).bel) HN.out.2.1 (Kd.zac HC3.out (H2.out).bel) HN.out.2.2.1 HX.out).mono ?_; rintro e w3 ⟨v1_, v2_, rfl, hr1_, hr2_, hb_⟩; have H3 := Aside0.mk (Fr.pair_new (H2.out) hr1_ hr2_ hb_); obtain ⟨Aq1, cq1, rfl⟩ := Kd.zat hr1_; obtain ⟨Aq2, cq2, rfl⟩ := Kd.zat hr2_; clear hr1_ hr2_ hb_) | ((with_reducible refine zaf (N := 6) rfl ?_); refine zad ?hg (N := 6) ?hd (cs := #[.int .i64 0, .slice none 0 0, .slice none 0 0]) (t := 36) ?hr ?_; (case hd => rfl); (case hg => rfl); (case hr => first | (go_simp; done) | (go_simp; rfl)); intro g6 hg_ w4 hbox_ hb_; have H4 := Aside0.mk ((H3.out).zb6 hbox_ hb_ hg_); clear hbox_ hb_ hg_; have xg6_0 : w4.cell? ⟨g6, 0, none⟩ = some (.int .i64 0) := (H4.out).za5 (i := 0) rfl 0 rfl; have fg6_0 := za0 ((H4.out).zai (i := 0) rfl) 0; have xg6_1 : w4.cell? ⟨g6, 1, none⟩ = some (.slice none 0 0) := (H4.out).za5 (i := 0) rfl 1 rfl; have fg6_1 := za0 ((H4.out).zai (i := 0) rfl) 1; have xg6_2 : w4.cell? ⟨g6, 2, none⟩ = some (.slice none 0 0) := (H4.out).za5 (i := 0) rfl 2 rfl; have fg6_2 := za0 ((H4.out).zai (i := 0) rfl) 2; have xg3_0 : w4.cell? ⟨g3, 0, none⟩ = some (.int .i64 a1_0) := (H4.out).za5 (i := 2) rfl 0 rfl; have fg3_0 := za0 ((H4.out).zai (i := 2) rfl) 0; have xg3_1 : w4.cell? ⟨g3, 1, none⟩ = some (.slice A1_1 l1_1.length c1_1) := (H4.out).za5 (i := 2) rfl 1 rfl; have fg3_1 := za0 ((H4.out).zai (i := 2) rfl) 1; have xg3_2 : w4.cell? ⟨g3, 2, none⟩ = some (.slice A1_2 l1_2.length c1_2) := (H4.out).za5 (i := 2) rfl 2 rfl; have fg3_2 := za0 ((H4.out).zai (i := 2) rfl) 2; have ng2_g6 := Fr.box_ne (H4.out) (i := 3) (j := 0) (by decide) rfl rfl; have ng6_g2 := ng2_g6.symm; have ng2_g3 := Fr.box_ne (H4.out) (i := 3) (j := 2) (by decide) rfl rfl; have ng3_g2 := ng2_g3.symm; have ng3_g6 := Fr.box_ne (H4.out) (i := 2) (j := 0) (by decide) rfl rfl; have ng6_g3 := ng3_g6.symm))
 have h_ := (((H4.out).zas (i := 0) rfl 0 (.int .i64 p1) rfl).zas (i := 0) rfl 1 (.slice Aq1 p2.length cq1) rfl).zas (i := 0) rfl 2 (.slice Aq2 p3.length cq2) rfl
 simp only [List.set_cons_zero, List.set_cons_succ] at h_
 generalize (((w4).setCell ⟨g6, 0, none⟩ (.int .i64 p1)).setCell ⟨g6, 1, none⟩ (.slice Aq1 p2.length cq1)).setCell ⟨g6, 2, none⟩ (.slice Aq2 p3.length cq2) = w5 at h_ ⊢
 have H5 := Aside0.mk (show Fr w w (fun _ => False) [box g6 36 #[.int .i64 p1, .slice Aq1 p2.length cq1, .slice Aq2 p3.length cq2], pair2 k117 117 (.slice Aq1 p2.length cq1) p2 (Kd.int .i64) 3 (.slice Aq2 p3.length cq2) p3, box g3 36 #[.int .i64 a1_0, .slice A1_1 l1_1.length c1_1, .slice A1_2 l1_2.length c1_2], box g2 30 #[.int .i64 a0_0, .slice A0_1 l0_1.length c0_1, .slice A0_2 l0_2.length c0_2, .slice A0_3 l0_3.length c0_3]] w5 from h_)
 clear h_
 clear xg6_0 fg6_0 xg6_1 fg6_1 xg6_2 fg6_2 xg3_0 fg3_0 xg3_1 fg3_1 xg3_2 fg3_2 ng2_g6 ng6_g2 ng2_g3 ng3_g2 ng3_g6 ng6_g3
 have xg3_0 : w5.cell? ⟨g3, 0, none⟩ = some (.int .i64 a1_0) := (H5.out).za5 (i := 2) rfl 0 rfl
 have fg3_0 := za0 ((H5.out).zai (i := 2) rfl) 0
 have xg3_1 : w5.cell? ⟨g3, 1, none⟩ = some (.slice A1_1 l1_1.length c1_1) := (H5.out).za5 (i := 2) rfl 1 rfl
 have fg3_1 := za0 ((H5.out).zai (i := 2) rfl) 1
 have xg3_2 : w5.cell? ⟨g3, 2, none⟩ = some (.slice A1_2 l1_2.length c1_2) := (H5.out).za5 (i := 2) rfl 2 rfl
 have fg3_2 := za0 ((H5.out).zai (i := 2) rfl) 2
 have T_ := Aside0.mk trivial
 go_wp2_with (go_at_call 75; clear T_; refine (impl_IsPlan.calls k a1_0 A1_1 c1_1 l1_1 A1_2 c1_2 l1_2 false _ (Kd.zac HP1.out (H5.out).bel) HN.out.2.2.2.1 (Kd.zac HP2.out (H5.out).bel) HN.out.2.2.2.2 HY.out).mono ?_; rintro e w6 ⟨rfl, hb_⟩; have H6 := Aside0.mk ((H5.out).below hb_); clear hb_; clear xg3_0 fg3_0 xg3_1 fg3_1 xg3_2 fg3_2)
 go_ret2
 exact ⟨rfl, (H6.out).bel⟩
set_option maxHeartbeats 16000000 in
set_option maxRecDepth 100000 in
theorem impl_CheckRegCode.yes (k : Nat) (a0_0 : Int) (A0_1 : Option Addr) (c0_1 : Nat) (l0_1 : List Int) (A0_2 : Option Addr) (c0_2 : Nat) (l0_2 : List S80) (A0_3 : Option Addr) (c0_3 : Nat) (l0_3 : List Int) (a1_0 : Int) (A1_1 : Option Addr) (c1_1 : Nat) (l1_1 : List S117) (A1_2 : Option Addr) (c1_2 : Nat) (l1_2 : List Int) (p1 : Int) (p2 : List S117) (p3 : List Int) (s1 : Bool) (w : World) (hr0_1 : Kd.C (Kd.int .i64) w A0_1 l0_1.length l0_1) (hc0_1 : l0_1.length ≤ c0_1) (hr0_2 : Kd.C k80 w A0_2 l0_2.length l0_2) (hc0_2 : l0_2.length ≤ c0_2) (hr0_3 : Kd.C (Kd.int .i64) w A0_3 l0_3.length l0_3) (hc0_3 : l0_3.length ≤ c0_3) (hr1_1 : Kd.C k117 w A1_1 l1_1.length l1_1) (hc1_1 : l1_1.length ≤ c1_1) (hr1_2 : Kd.C (Kd.int .i64) w A1_2 l1_2.length l1_2) (hc1_2 : l1_2.length ≤ c1_2) (hx : impl_RegCode_plan.f k a0_0 l0_1 l0_2 l0_3 = some (p1, p2, p3, true)) (hy : impl_IsPlan.f k a1_0 l1_1 l1_2 = some true) (hs : impl_samePowers.f k p1 p2 p3 a1_0 l1_1 l1_2 = some s1) :
  Calls Try.prog 36 #[.agg #[.int .i64 a0_0, .slice A0_1 l0_1.length c0_1, .slice A0_2 l0_2.length c0_2, .slice A0_3 l0_3.length c0_3], .agg #[.int .i64 a1_0, .slice A1_1 l1_1.length c1_1, .slice A1_2 l1_2.length c1_2]] w fun e w' => e = .returned (.tuple #[.bool s1, .bool true]) ∧ Below w.heap.size w w' := by
 have hu30 := Try.underlying30
 have hu36 := Try.underlying36
 have HC1 := Aside0.mk hr0_1
 have HC2 := Aside0.mk hr0_2
 have HC3 := Aside0.mk hr0_3
 have HP1 := Aside0.mk hr1_1
 have HP2 := Aside0.mk hr1_2
 have HN := Aside0.mk (And.intro hc0_1 (And.intro hc0_2 (And.intro hc0_3 (And.intro hc1_1 hc1_2))))
 clear hr0_1 hc0_1 hr0_2 hc0_2 hr0_3 hc0_3 hr1_1 hc1_1 hr1_2 hc1_2
 have HX := Aside0.mk hx
 have HY := Aside0.mk hy
 have HS := Aside0.mk hs
 clear hx hy hs
 go_enter Try.func36, Try.ntmps36
 have T_ := Aside0.mk trivial
 go_wp2_with (first | ((with_reducible refine zaf (N := 2) rfl ?_); refine zad ?hg (N := 2) ?hd (cs := #[.int .i64 a0_0, .slice A0_1 l0_1.length c0_1, .slice A0_2 l0_2.length c0_2, .slice A0_3 l0_3.length c0_3]) (t := 30) ?hr ?_; (case hd => rfl); (case hg => rfl); (case hr => first | (go_simp; done) | (go_simp; rfl)); intro g2 hg_ w1 hbox_ hb_; have H1 := Aside0.mk (((Fr.start w)).zb6 hbox_ hb_ hg_); clear hbox_ hb_ hg_) | ((with_reducible refine zaf (N := 3) rfl ?_); refine zad ?hg (N := 3) ?hd (cs := #[.int .i64 a1_0, .slice A1_1 l1_1.length c1_1, .slice A1_2 l1_2.length c1_2]) (t := 36) ?hr ?_; (case hd => rfl); (case hg => rfl); (case hr => first | (go_simp; done) | (go_simp; rfl)); intro g3 hg_ w2 hbox_ hb_; have H2 := Aside0.mk ((H1.out).zb6 hbox_ hb_ hg_); clear hbox_ hb_ hg_) | (go_at_call 60; clear T_; refine (impl_RegCode_plan.calls k g2 a0_0 A0_1 c0_1 l0_1 A0_2 c0_2 l0_2 A0_3 c0_3 l0_3 p1 p2 p3 true _ ((H2.out).zai (i := 1) rfl) (Kd.zac HC1.out (H2.out).bel) HN.out.1 (Kd.zac HC2.out (H2.out).bel) HN.out.2.1 (Kd.zac HC3.out (H2.out).bel) HN.out.2.2.1 HX.out).mono ?_; rintro e w3 ⟨v1_, v2_, rfl, hr1_, hr2_, hb_⟩; have H3 := Aside0.mk (Fr.pair_new (H2.out) hr1_ hr2_ hb_); obtain ⟨Aq1, cq1, rfl⟩ := Kd.zat hr1_; obtain ⟨Aq2, cq2, rfl⟩ := Kd.zat hr2_; clear hr1_ hr2_ hb_) | ((with_reducible refine zaf (N := 6) rfl ?_); refine zad ?hg (N := 6) ?hd (cs := #[.int .i64 0, .slice none 0 0, .slice none 0 0]) (t := 36) ?hr ?_; (case hd => rfl); (case hg => rfl); (case hr => first | (go_simp; done) | (go_simp; rfl)); intro g6 hg_ w4 hbox_ hb_; have H4 := Aside0.mk ((H3.out).zb6 hbox_ hb_ hg_); clear hbox_ hb_ hg_; have xg6_0 : w4.cell? ⟨g6, 0, none⟩ = some (.int .i64 0) := (H4.out).za5 (i := 0) rfl 0 rfl; have fg6_0 := za0 ((H4.out).zai (i := 0) rfl) 0; have xg6_1 : w4.cell? ⟨g6, 1, none⟩ = some (.slice none 0 0) := (H4.out).za5 (i := 0) rfl 1 rfl; have fg6_1 := za0 ((H4.out).zai (i := 0) rfl) 1; have xg6_2 : w4.cell? ⟨g6, 2, none⟩ = some (.slice none 0 0) := (H4.out).za5 (i := 0) rfl 2 rfl; have fg6_2 := za0 ((H4.out).zai (i := 0) rfl) 2; have xg3_0 : w4.cell? ⟨g3, 0, none⟩ = some (.int .i64 a1_0) := (H4.out).za5 (i := 2) rfl 0 rfl; have fg3_0 := za0 ((H4.out).zai (i := 2) rfl) 0; have xg3_1 : w4.cell? ⟨g3, 1, none⟩ = some (.slice A1_1 l1_1.length c1_1) := (H4.out).za5 (i := 2) rfl 1 rfl; have fg3_1 := za0 ((H4.out).zai (i := 2) rfl) 1; have xg3_2 : w4.cell? ⟨g3, 2, none⟩ = some (.slice A1_2 l1_2.length c1_2) := (H4.out).za5 (i := 2) rfl 2 rfl; have fg3_2 := za0 ((H4.out).zai (i := 2) rfl) 2; have ng2_g6 := Fr.box_ne (H4.out) (i := 3) (j := 0) (by decide) rfl rfl; have ng6_g2 := ng2_g6.symm; have ng2_g3 := Fr.box_ne (H4.out) (i := 3) (j := 2) (by decide) rfl rfl; have ng3_g2 := ng2_g3.symm; have ng3_g6 := Fr.box_ne (H4.out) (i := 2) (j := 0) (by decide) rfl rfl; have ng6_g3 := ng3_g6.symm))
 have h_ := (((H4.out).zas (i := 0) rfl 0 (.int .i64 p1) rfl).zas (i := 0) rfl 1 (.slice Aq1 p2.length cq1) rfl).zas (i := 0) rfl 2 (.slice Aq2 p3.length cq2) rfl
 simp only [List.set_cons_zero, List.set_cons_succ] at h_
 generalize (((w4).setCell ⟨g6, 0, none⟩ (.int .i64 p1)).setCell ⟨g6, 1, none⟩ (.slice Aq1 p2.length cq1)).setCell ⟨g6, 2, none⟩ (.slice Aq2 p3.length cq2) = w5 at h_ ⊢
 have H5 := Aside0.mk (show Fr w w (fun _ => False) [box g6 36 #[.int .i64 p1, .slice Aq1 p2.length cq1, .slice Aq2 p3.length cq2], pair2 k117 117 (.slice Aq1 p2.length cq1) p2 (Kd.int .i64) 3 (.slice Aq2 p3.length cq2) p3, box g3 36 #[.int .i64 a1_0, .slice A1_1 l1_1.length c1_1, .slice A1_2 l1_2.length c1_2], box g2 30 #[.int .i64 a0_0, .slice A0_1 l0_1.length c0_1, .slice A0_2 l0_2.length c0_2, .slice A0_3 l0_3.length c0_3]] w5 from h_)
 clear h_
 clear xg6_0 fg6_0 xg6_1 fg6_1 xg6_2 fg6_2 xg3_0 fg3_0 xg3_1 fg3_1 xg3_2 fg3_2 ng2_g6 ng6_g2 ng2_g3 ng3_g2 ng3_g6 ng6_g3
 have xg3_0 : w5.cell? ⟨g3, 0, none⟩ = some (.int .i64 a1_0) := (H5.out).za5 (i := 2) rfl 0 rfl
 have fg3_0 := za0 ((H5.out).zai (i := 2) rfl) 0
 have xg3_1 : w5.cell? ⟨g3, 1, none⟩ = some (.slice A1_1 l1_1.length c1_1) := (H5.out).za5 (i := 2) rfl 1 rfl
 have fg3_1 := za0 ((H5.out).zai (i := 2) rfl) 1
 have xg3_2 : w5.cell? ⟨g3, 2, none⟩ = some (.slice A1_2 l1_2.length c1_2) := (H5.out).za5 (i := 2) rfl 2 rfl
 have fg3_2 := za0 ((H5.out).zai (i := 2) rfl) 2
 have T_ := Aside0.mk trivial
 go_wp2_with (go_at_call 75; clear T_; refine (impl_IsPlan.calls k a1_0 A1_1 c1_1 l1_1 A1_2 c1_2 l1_2 true _ (Kd.zac HP1.out (H5.out).bel) HN.out.2.2.2.1 (Kd.zac HP2.out (H5.out).bel) HN.out.2.2.2.2 HY.out).mono ?_; rintro e w6 ⟨rfl, hb_⟩; have H6 := Aside0.mk ((H5.out).below hb_); clear hb_; clear xg3_0 fg3_0 xg3_1 fg3_1 xg3_2 fg3_2)
 have T_ := Aside0.mk trivial
 go_wp2_with (go_at_call 76; clear T_; refine (impl_samePowers.calls k g6 p1 Aq1 cq1 p2 Aq2 cq2 p3 g3 a1_0 A1_1 c1_1 l1_1 A1_2 c1_2 l1_2 s1 _ ((H6.out).zai (i := 0) rfl) ((H6.out).pair_C (i := 1) rfl).1.1 ((H6.out).pair_C (i := 1) rfl).1.2.2 ((H6.out).pair_C (i := 1) rfl).2.1 ((H6.out).pair_C (i := 1) rfl).2.2.2 ((H6.out).zai (i := 2) rfl) (Kd.zac HP1.out (H6.out).bel) HN.out.2.2.2.1 (Kd.zac HP2.out (H6.out).bel) HN.out.2.2.2.2 HS.out).mono ?_; rintro e w7 ⟨rfl, hb_⟩; have H7 := Aside0.mk ((H6.out).below hb_); clear hb_)
 go_ret2
 exact ⟨rfl, (H7.out).bel⟩
theorem impl_CheckRegCode.calls (k : Nat) (a0_0 : Int) (A0_1 : Option Addr) (c0_1 : Nat) (l0_1 : List Int) (A0_2 : Option Addr) (c0_2 : Nat) (l0_2 : List S80) (A0_3 : Option Addr) (c0_3 : Nat) (l0_3 : List Int) (a1_0 : Int) (A1_1 : Option Addr) (c1_1 : Nat) (l1_1 : List S117) (A1_2 : Option Addr) (c1_2 : Nat) (l1_2 : List Int) (r1 r2 : Bool) (w : World) (hr0_1 : Kd.C (Kd.int .i64) w A0_1 l0_1.length l0_1) (hc0_1 : l0_1.length ≤ c0_1) (hr0_2 : Kd.C k80 w A0_2 l0_2.length l0_2) (hc0_2 : l0_2.length ≤ c0_2) (hr0_3 : Kd.C (Kd.int .i64) w A0_3 l0_3.length l0_3) (hc0_3 : l0_3.length ≤ c0_3) (hr1_1 : Kd.C k117 w A1_1 l1_1.length l1_1) (hc1_1 : l1_1.length ≤ c1_1) (hr1_2 : Kd.C (Kd.int .i64) w A1_2 l1_2.length l1_2) (hc1_2 : l1_2.length ≤ c1_2) (h : impl_CheckRegCode.f k a0_0 l0_1 l0_2 l0_3 a1_0 l1_1 l1_2 = some (r1, r2)) :
  Calls Try.prog 36 #[.agg #[.int .i64 a0_0, .slice A0_1 l0_1.length c0_1, .slice A0_2 l0_2.length c0_2, .slice A0_3 l0_3.length c0_3], .agg #[.int .i64 a1_0, .slice A1_1 l1_1.length c1_1, .slice A1_2 l1_2.length c1_2]] w fun e w' => e = .returned (.tuple #[.bool r1, .bool r2]) ∧ Below w.heap.size w w' := by
 unfold impl_CheckRegCode.f at h
 obtain ⟨⟨p1, p2, p3, b⟩, hx, h⟩ := Option.bind_eq_some_iff.1 h
 cases b with
 | false =>
  simp only [Bool.false_eq_true, if_false, Option.some.injEq, Prod.mk.injEq] at h
  obtain ⟨rfl, rfl⟩ := h
  exact impl_CheckRegCode.no1 k a0_0 A0_1 c0_1 l0_1 A0_2 c0_2 l0_2 A0_3 c0_3 l0_3 a1_0 A1_1 c1_1 l1_1 A1_2 c1_2 l1_2 p1 p2 p3 w hr0_1 hc0_1 hr0_2 hc0_2 hr0_3 hc0_3 hr1_1 hc1_1 hr1_2 hc1_2 hx
 | true =>
  simp only [if_true] at h
  obtain ⟨g, hy, h⟩ := Option.bind_eq_some_iff.1 h
  cases g with
  | false =>
   simp only [Bool.false_eq_true, if_false, Option.some.injEq, Prod.mk.injEq] at h
   obtain ⟨rfl, rfl⟩ := h
   exact impl_CheckRegCode.no2 k a0_0 A0_1 c0_1 l0_1 A0_2 c0_2 l0_2 A0_3 c0_3 l0_3 a1_0 A1_1 c1_1 l1_1 A1_2 c1_2 l1_2 p1 p2 p3 w hr0_1 hc0_1 hr0_2 hc0_2 hr0_3 hc0_3 hr1_1 hc1_1 hr1_2 hc1_2 hx hy
  | true =>
   simp only [if_true] at h
   obtain ⟨s, hs, h⟩ := Option.bind_eq_some_iff.1 h
   simp only [Option.some.injEq, Prod.mk.injEq] at h
   obtain ⟨rfl, rfl⟩ := h
   exact impl_CheckRegCode.yes k a0_0 A0_1 c0_1 l0_1 A0_2 c0_2 l0_2 A0_3 c0_3 l0_3 a1_0 A1_1 c1_1 l1_1 A1_2 c1_2 l1_2 p1 p2 p3 s w hr0_1 hc0_1 hr0_2 hc0_2 hr0_3 hc0_3 hr1_1 hc1_1 hr1_2 hc1_2 hx hy hs

/-! ### laws_FnExactCheckRegCode: function 6 -/
set_option maxHeartbeats 16000000 in
set_option maxRecDepth 100000 in
theorem laws_FnExactCheckRegCode.large1 (a0_0 : Int) (A0_1 : Option Addr) (c0_1 : Nat) (l0_1 : List Int) (A0_2 : Option Addr) (c0_2 : Nat) (l0_2 : List S126) (A0_3 : Option Addr) (c0_3 : Nat) (l0_3 : List Int) (a1_0 : Int) (A1_1 : Option Addr) (c1_1 : Nat) (l1_1 : List S137) (A1_2 : Option Addr) (c1_2 : Nat) (l1_2 : List Int) (w : World) (hr0_1 : Kd.C (Kd.int .i64) w A0_1 l0_1.length l0_1) (hc0_1 : l0_1.length ≤ c0_1) (hr0_2 : Kd.C k126 w A0_2 l0_2.length l0_2) (hc0_2 : l0_2.length ≤ c0_2) (hr0_3 : Kd.C (Kd.int .i64) w A0_3 l0_3.length l0_3) (hc0_3 : l0_3.length ≤ c0_3) (hr1_1 : Kd.C k137 w A1_1 l1_1.length l1_1) (hc1_1 : l1_1.length ≤ c1_1) (hr1_2 : Kd.C (Kd.int .i64) w A1_2 l1_2.length l1_2) (hc1_2 : l1_2.length ≤ c1_2) (hs : laws_szRegCode.f a0_0 l0_1 l0_2 l0_3 1048576 = some (-1)) :
  Calls Try.prog 6 #[.agg #[.int .i64 a0_0, .slice A0_1 l0_1.length c0_1, .slice A0_2 l0_2.length c0_2, .slice A0_3 l0_3.length c0_3], .agg #[.int .i64 a1_0, .slice A1_1 l1_1.length c1_1, .slice A1_2 l1_2.length c1_2]] w fun e w' => e = .returned (.bool true) ∧ Below w.heap.size w w' := by
 have hu25 := Try.underlying25
 have hu50 := Try.underlying50
 have hu30 := Try.underlying30
 have hu36 := Try.underlying36
 have HC1 := Aside0.mk hr0_1
 have HC2 := Aside0.mk hr0_2
 have HC3 := Aside0.mk hr0_3
 have HP1 := Aside0.mk hr1_1
 have HP2 := Aside0.mk hr1_2
 have HN := Aside0.mk (And.intro hc0_1 (And.intro hc0_2 (And.intro hc0_3 (And.intro hc1_1 hc1_2))))
 clear hr0_1 hc0_1 hr0_2 hc0_2 hr0_3 hc0_3 hr1_1 hc1_1 hr1_2 hc1_2
 have HS := Aside0.mk hs
 clear hs
 go_enter Try.func6, Try.ntmps6
 go_wp2_with (first | ((with_reducible refine zaf (N := 2) rfl ?_); refine zad ?hg (N := 2) ?hd (cs := #[.int .i64 a0_0, .slice A0_1 l0_1.length c0_1, .slice A0_2 l0_2.length c0_2, .slice A0_3 l0_3.length c0_3]) (t := 25) ?hr ?_; (case hd => rfl); (case hg => rfl); (case hr => first | (go_simp; done) | (go_simp; rfl)); intro g2 hg_ w1 hbox_ hb_; have H1 := Aside0.mk (((Fr.start w)).zb6 hbox_ hb_ hg_); clear hbox_ hb_ hg_) | ((with_reducible refine zaf (N := 3) rfl ?_); refine zad ?hg (N := 3) ?hd (cs := #[.int .i64 a1_0, .slice A1_1 l1_1.length c1_1, .slice A1_2 l1_2.length c1_2]) (t := 50) ?hr ?_; (case hd => rfl); (case hg => rfl); (case hr => first | (go_simp; done) | (go_simp; rfl)); intro g3 hg_ w2 hbox_ hb_; have H2 := Aside0.mk ((H1.out).zb6 hbox_ hb_ hg_); clear hbox_ hb_ hg_; have xg2_0 : w2.cell? ⟨g2, 0, none⟩ = some (.int .i64 a0_0) := (H2.out).za5 (i := 1) rfl 0 rfl; have fg2_0 := za0 ((H2.out).zai (i := 1) rfl) 0; have xg2_1 : w2.cell? ⟨g2, 1, none⟩ = some (.slice A0_1 l0_1.length c0_1) := (H2.out).za5 (i := 1) rfl 1 rfl; have fg2_1 := za0 ((H2.out).zai (i := 1) rfl) 1; have xg2_2 : w2.cell? ⟨g2, 2, none⟩ = some (.slice A0_2 l0_2.length c0_2) := (H2.out).za5 (i := 1) rfl 2 rfl; have fg2_2 := za0 ((H2.out).zai (i := 1) rfl) 2; have xg2_3 : w2.cell? ⟨g2, 3, none⟩ = some (.slice A0_3 l0_3.length c0_3) := (H2.out).za5 (i := 1) rfl 3 rfl; have fg2_3 := za0 ((H2.out).zai (i := 1) rfl) 3; have ng3_g2 := Fr.box_ne (H2.out) (i := 0) (j := 1) (by decide) rfl rfl; have ng2_g3 := ng3_g2.symm))
 have T_ := Aside0.mk trivial
 go_wp2_with (go_at_call 16; clear T_; refine (laws_szRegCode.calls a0_0 A0_1 c0_1 l0_1 A0_2 c0_2 l0_2 A0_3 c0_3 l0_3 1048576 (-1) _ (Kd.zac HC1.out (H2.out).bel) HN.out.1 (Kd.zac HC2.out (H2.out).bel) HN.out.2.1 (Kd.zac HC3.out (H2.out).bel) HN.out.2.2.1 HS.out).mono ?_; rintro e w3 ⟨rfl, hb_⟩; have H3 := Aside0.mk ((H2.out).below hb_); clear hb_; clear xg2_0 fg2_0 xg2_1 fg2_1 xg2_2 fg2_2 xg2_3 fg2_3 ng3_g2 ng2_g3)
 go_ret
 exact ⟨rfl, (H3.out).bel⟩
set_option maxHeartbeats 16000000 in
set_option maxRecDepth 100000 in
theorem laws_FnExactCheckRegCode.large2 (a0_0 : Int) (A0_1 : Option Addr) (c0_1 : Nat) (l0_1 : List Int) (A0_2 : Option Addr) (c0_2 : Nat) (l0_2 : List S126) (A0_3 : Option Addr) (c0_3 : Nat) (l0_3 : List Int) (a1_0 : Int) (A1_1 : Option Addr) (c1_1 : Nat) (l1_1 : List S137) (A1_2 : Option Addr) (c1_2 : Nat) (l1_2 : List Int) (w : World) (hr0_1 : Kd.C (Kd.int .i64) w A0_1 l0_1.length l0_1) (hc0_1 : l0_1.length ≤ c0_1) (hr0_2 : Kd.C k126 w A0_2 l0_2.length l0_2) (hc0_2 : l0_2.length ≤ c0_2) (hr0_3 : Kd.C (Kd.int .i64) w A0_3 l0_3.length l0_3) (hc0_3 : l0_3.length ≤ c0_3) (hr1_1 : Kd.C k137 w A1_1 l1_1.length l1_1) (hc1_1 : l1_1.length ≤ c1_1) (hr1_2 : Kd.C (Kd.int .i64) w A1_2 l1_2.length l1_2) (hc1_2 : l1_2.length ≤ c1_2) (s1 : Int) (h0 : 0 ≤ s1) (hs : laws_szRegCode.f a0_0 l0_1 l0_2 l0_3 1048576 = some s1) (hz : laws_szPlan.f a1_0 l1_1 l1_2 s1 = some (-1)) :
  Calls Try.prog 6 #[.agg #[.int .i64 a0_0, .slice A0_1 l0_1.length c0_1, .slice A0_2 l0_2.length c0_2, .slice A0_3 l0_3.length c0_3], .agg #[.int .i64 a1_0, .slice A1_1 l1_1.length c1_1, .slice A1_2 l1_2.length c1_2]] w fun e w' => e = .returned (.bool true) ∧ Below w.heap.size w w' := by
 have hu25 := Try.underlying25
 have hu50 := Try.underlying50
 have hu30 := Try.underlying30
 have hu36 := Try.underlying36
 have HC1 := Aside0.mk hr0_1
 have HC2 := Aside0.mk hr0_2
 have HC3 := Aside0.mk hr0_3
 have HP1 := Aside0.mk hr1_1
 have HP2 := Aside0.mk hr1_2
 have HN := Aside0.mk (And.intro hc0_1 (And.intro hc0_2 (And.intro hc0_3 (And.intro hc1_1 hc1_2))))
 clear hr0_1 hc0_1 hr0_2 hc0_2 hr0_3 hc0_3 hr1_1 hc1_1 hr1_2 hc1_2
 have HS := Aside0.mk hs
 have HZ := Aside0.mk hz
 have hs1_ : decide (s1 < 0) = false := decide_eq_false (by omega)
 clear hs hz h0
 go_enter Try.func6, Try.ntmps6
 go_wp2_with (first | ((with_reducible refine zaf (N := 2) rfl ?_); refine zad ?hg (N := 2) ?hd (cs := #[.int .i64 a0_0, .slice A0_1 l0_1.length c0_1, .slice A0_2 l0_2.length c0_2, .slice A0_3 l0_3.length c0_3]) (t := 25) ?hr ?_; (case hd => rfl); (case hg => rfl); (case hr => first | (go_simp; done) | (go_simp; rfl)); intro g2 hg_ w1 hbox_ hb_; have H1 := Aside0.mk (((Fr.start w)).zb6 hbox_ hb_ hg_); clear hbox_ hb_ hg_) | ((with_reducible refine zaf (N := 3) rfl ?_); refine zad ?hg (N := 3) ?hd (cs := #[.int .i64 a1_0, .slice A1_1 l1_1.length c1_1, .slice A1_2 l1_2.length c1_2]) (t := 50) ?hr ?_; (case hd => rfl); (case hg => rfl); (case hr => first | (go_simp; done) | (go_simp; rfl)); intro g3 hg_ w2 hbox_ hb_; have H2 := Aside0.mk ((H1.out).zb6 hbox_ hb_ hg_); clear hbox_ hb_ hg_; have xg2_0 : w2.cell? ⟨g2, 0, none⟩ = some (.int .i64 a0_0) := (H2.out).za5 (i := 1) rfl 0 rfl; have fg2_0 := za0 ((H2.out).zai (i := 1) rfl) 0; have xg2_1 : w2.cell? ⟨g2, 1, none⟩ = some (.slice A0_1 l0_1.length c0_1) := (H2.out).za5 (i := 1) rfl 1 rfl; have fg2_1 := za0 ((H2.out).zai (i := 1) rfl) 1; have xg2_2 : w2.cell? ⟨g2, 2, none⟩ = some (.slice A0_2 l0_2.length c0_2) := (H2.out).za5 (i := 1) rfl 2 rfl; have fg2_2 := za0 ((H2.out).zai (i := 1) rfl) 2; have xg2_3 : w2.cell? ⟨g2, 3, none⟩ = some (.slice A0_3 l0_3.length c0_3) := (H2.out).za5 (i := 1) rfl 3 rfl; have fg2_3 := za0 ((H2.out).zai (i := 1) rfl) 3; have ng3_g2 := Fr.box_ne (H2.out) (i := 0) (j := 1) (by decide) rfl rfl; have ng2_g3 := ng3_g2.symm))
 have T_ := Aside0.mk trivial
 go_wp2_with (go_at_call 16; clear T_; refine (laws_szRegCode.calls a0_0 A0_1 c0_1 l0_1 A0_2 c0_2 l0_2 A0_3 c0_3 l0_3 1048576 s1 _ (Kd.zac HC1.out (H2.out).bel) HN.out.1 (Kd.zac HC2.out (H2.out).bel) HN.out.2.1 (Kd.zac HC3.out (H2.out).bel) HN.out.2.2.1 HS.out).mono ?_; rintro e w3 ⟨rfl, hb_⟩; have H3 := Aside0.mk ((H2.out).below hb_); clear hb_; clear xg2_0 fg2_0 xg2_1 fg2_1 xg2_2 fg2_2 xg2_3 fg2_3 ng3_g2 ng2_g3; have xg3_0 : w3.cell? ⟨g3, 0, none⟩ = some (.int .i64 a1_0) := (H3.out).za5 (i := 0) rfl 0 rfl; have fg3_0 := za0 ((H3.out).zai (i := 0) rfl) 0; have xg3_1 : w3.cell? ⟨g3, 1, none⟩ = some (.slice A1_1 l1_1.length c1_1) := (H3.out).za5 (i := 0) rfl 1 rfl; have fg3_1 := za0 ((H3.out).zai (i := 0) rfl) 1; have xg3_2 : w3.cell? ⟨g3, 2, none⟩ = some (.slice A1_2 l1_2.length c1_2) := (H3.out).za5 (i := 0) rfl 2 rfl; have fg3_2 := za0 ((H3.out).zai (i := 0) rfl) 2)
 have T_ := Aside0.mk trivial
 go_wp2_with (go_at_call 33; clear T_; refine (laws_szPlan.calls a1_0 A1_1 c1_1 l1_1 A1_2 c1_2 l1_2 s1 (-1) _ (Kd.zac HP1.out (H3.out).bel) HN.out.2.2.2.1 (Kd.zac HP2.out (H3.out).bel) HN.out.2.2.2.2 HZ.out).mono ?_; rintro e w4 ⟨rfl, hb_⟩; have H4 := Aside0.mk ((H3.out).below hb_); clear hb_; clear xg3_0 fg3_0 xg3_1 fg3_1 xg3_2 fg3_2)
 go_ret
 exact ⟨rfl, (H4.out).bel⟩
set_option maxHeartbeats 16000000 in
set_option maxRecDepth 100000 in
theorem laws_FnExactCheckRegCode.small (a0_0 : Int) (A0_1 : Option Addr) (c0_1 : Nat) (l0_1 : List Int) (A0_2 : Option Addr) (c0_2 : Nat) (l0_2 : List S126) (A0_3 : Option Addr) (c0_3 : Nat) (l0_3 : List Int) (a1_0 : Int) (A1_1 : Option Addr) (c1_1 : Nat) (l1_1 : List S137) (A1_2 : Option Addr) (c1_2 : Nat) (l1_2 : List Int) (w : World) (hr0_1 : Kd.C (Kd.int .i64) w A0_1 l0_1.length l0_1) (hc0_1 : l0_1.length ≤ c0_1) (hr0_2 : Kd.C k126 w A0_2 l0_2.length l0_2) (hc0_2 : l0_2.length ≤ c0_2) (hr0_3 : Kd.C (Kd.int .i64) w A0_3 l0_3.length l0_3) (hc0_3 : l0_3.length ≤ c0_3) (hr1_1 : Kd.C k137 w A1_1 l1_1.length l1_1) (hc1_1 : l1_1.length ≤ c1_1) (hr1_2 : Kd.C (Kd.int .i64) w A1_2 l1_2.length l1_2) (hc1_2 : l1_2.length ≤ c1_2) (s1 s2 : Int) (m1 : List Int) (m2 : List S80) (m3 : List Int) (q2 : List S117) (q3 : List Int) (b1 b2 : Bool) (k : Nat) (h0 : 0 ≤ s1) (h00 : 0 ≤ s2) (hs : laws_szRegCode.f a0_0 l0_1 l0_2 l0_3 1048576 = some s1) (hz : laws_szPlan.f a1_0 l1_1 l1_2 s1 = some s2) (htc : laws_toRegCode.f k a0_0 l0_1 l0_2 l0_3 = some (a0_0, m1, m2, m3)) (htp : laws_toPlan.f k a1_0 l1_1 l1_2 = some (a1_0, q2, q3)) (hsp : spec_CheckRegCode.f k a0_0 m1 m2 m3 a1_0 q2 q3 = some (b1, b2)) (him : impl_CheckRegCode.f k a0_0 m1 m2 m3 a1_0 q2 q3 = some (b1, b2)) (hec : laws_eqRegCode.f k a0_0 m1 m2 m3 a0_0 m1 m2 m3 = some true) (hep : laws_eqPlan.f k a1_0 q2 q3 a1_0 q2 q3 = some true) :
  Calls Try.prog 6 #[.agg #[.int .i64 a0_0, .slice A0_1 l0_1.length c0_1, .slice A0_2 l0_2.length c0_2, .slice A0_3 l0_3.length c0_3], .agg #[.int .i64 a1_0, .slice A1_1 l1_1.length c1_1, .slice A1_2 l1_2.length c1_2]] w fun e w' => e = .returned (.bool true) ∧ Below w.heap.size w w' := by
 have hu25 := Try.underlying25
 have hu50 := Try.underlying50
 have hu30 := Try.underlying30
 have hu36 := Try.underlying36
 have HC1 := Aside0.mk hr0_1
 have HC2 := Aside0.mk hr0_2
 have HC3 := Aside0.mk hr0_3
 have HP1 := Aside0.mk hr1_1
 have HP2 := Aside0.mk hr1_2
 have HN := Aside0.mk (And.intro hc0_1 (And.intro hc0_2 (And.intro hc0_3 (And.intro hc1_1 hc1_2))))
 clear hr0_1 hc0_1 hr0_2 hc0_2 hr0_3 hc0_3 hr1_1 hc1_1 hr1_2 hc1_2
 have HS := Aside0.mk hs
 have HZ := Aside0.mk hz
 have X := Aside0.mk (And.intro htc (And.intro htp (And.intro hsp (And.intro him (And.intro hec (hep))))))
 have hs1_ : decide (s1 < 0) = false := decide_eq_false (by omega)
 have hs2_ : decide (s2 < 0) = false := decide_eq_false (by omega)
 have hb1_ : (b1 != b1) = false := by cases b1 <;> rfl
 have hb2_ : (b2 != b2) = false := by cases b2 <;> rfl
 clear hs hz h0 h00 htc htp hsp him hec hep
 go_enter Try.func6, Try.ntmps6
 go_wp2_with (first | ((with_reducible refine zaf (N := 2) rfl ?_); refine zad ?hg (N := 2) ?hd (cs := #[.int .i64 a0_0, .slice A0_1 l0_1.length c0_1, .slice A0_2 l0_2.length c0_2, .slice A0_3 l0_3.length c0_3]) (t := 25) ?hr ?_; (case hd => rfl); (case hg => rfl); (case hr => first | (go_simp; done) | (go_simp; rfl)); intro g2 hg_ w1 hbox_ hb_; have H1 := Aside0.mk (((Fr.start w)).zb6 hbox_ hb_ hg_); clear hbox_ hb_ hg_) | ((with_reducible refine zaf (N := 3) rfl ?_); refine zad ?hg (N := 3) ?hd (cs := #[.int .i64 a1_0, .slice A1_1 l1_1.length c1_1, .slice A1_2 l1_2.length c1_2]) (t := 50) ?hr ?_; (case hd => rfl); (case hg => rfl); (case hr => first | (go_simp; done) | (go_simp; rfl)); intro g3 hg_ w2 hbox_ hb_; have H2 := Aside0.mk ((H1.out).zb6 hbox_ hb_ hg_); clear hbox_ hb_ hg_; have xg2_0 : w2.cell? ⟨g2, 0, none⟩ = some (.int .i64 a0_0) := (H2.out).za5 (i := 1) rfl 0 rfl; have fg2_0 := za0 ((H2.out).zai (i := 1) rfl) 0; have xg2_1 : w2.cell? ⟨g2, 1, none⟩ = some (.slice A0_1 l0_1.length c0_1) := (H2.out).za5 (i := 1) rfl 1 rfl; have fg2_1 := za0 ((H2.out).zai (i := 1) rfl) 1; have xg2_2 : w2.cell? ⟨g2, 2, none⟩ = some (.slice A0_2 l0_2.length c0_2) := (H2.out).za5 (i := 1) rfl 2 rfl; have fg2_2 := za0 ((H2.out).zai (i := 1) rfl) 2; have xg2_3 : w2.cell? ⟨g2, 3, none⟩ = some (.slice A0_3 l0_3.length c0_3) := (H2.out).za5 (i := 1) rfl 3 rfl; have fg2_3 := za0 ((H2.out).zai (i := 1) rfl) 3; have ng3_g2 := Fr.box_ne (H2.out) (i := 0) (j := 1) (by decide) rfl rfl; have ng2_g3 := ng3_g2.symm))
 have T_ := Aside0.mk trivial
 go_wp2_with (go_at_call 16; clear T_; refine (laws_szRegCode.calls a0_0 A0_1 c0_1 l0_1 A0_2 c0_2 l0_2 A0_3 c0_3 l0_3 1048576 s1 _ (Kd.zac HC1.out (H2.out).bel) HN.out.1 (Kd.zac HC2.out (H2.out).bel) HN.out.2.1 (Kd.zac HC3.out (H2.out).bel) HN.out.2.2.1 HS.out).mono ?_; rintro e w3 ⟨rfl, hb_⟩; have H3 := Aside0.mk ((H2.out).below hb_); clear hb_; clear xg2_0 fg2_0 xg2_1 fg2_1 xg2_2 fg2_2 xg2_3 fg2_3 ng3_g2 ng2_g3; have xg3_0 : w3.cell? ⟨g3, 0, none⟩ = some (.int .i64 a1_0) := (H3.out).za5 (i := 0) rfl 0 rfl; have fg3_0 := za0 ((H3.out).zai (i := 0) rfl) 0; have xg3_1 : w3.cell? ⟨g3, 1, none⟩ = some (.slice A1_1 l1_1.length c1_1) := (H3.out).za5 (i := 0) rfl 1 rfl; have fg3_1 := za0 ((H3.out).zai (i := 0) rfl) 1; have xg3_2 : w3.cell? ⟨g3, 2, none⟩ = some (.slice A1_2 l1_2.length c1_2) := (H3.out).za5 (i := 0) rfl 2 rfl; have fg3_2 := za0 ((H3.out).zai (i := 0) rfl) 2)
 have T_ := Aside0.mk trivial
 go_wp2_with (go_at_call 33; clear T_; refine (laws_szPlan.calls a1_0 A1_1 c1_1 l1_1 A1_2 c1_2 l1_2 s1 s2 _ (Kd.zac HP1.out (H3.out).bel) HN.out.2.2.2.1 (Kd.zac HP2.out (H3.out).bel) HN.out.2.2.2.2 HZ.out).mono ?_; rintro e w4 ⟨rfl, hb_⟩; have H4 := Aside0.mk ((H3.out).below hb_); clear hb_; clear xg3_0 fg3_0 xg3_1 fg3_1 xg3_2 fg3_2)
 refine start_ (n := 10) (S := fun w' => w'.cell? ⟨g2, 0, none⟩ = some (.int .i64 a0_0) ∧ w'.cell? ⟨g2, 1, none⟩ = some (.slice A0_1 l0_1.length c0_1) ∧ w'.cell? ⟨g2, 2, none⟩ = some (.slice A0_2 l0_2.length c0_2) ∧ w'.cell? ⟨g2, 3, none⟩ = some (.slice A0_3 l0_3.length c0_3) ∧ w'.cell? ⟨g3, 0, none⟩ = some (.int .i64 a1_0) ∧ w'.cell? ⟨g3, 1, none⟩ = some (.slice A1_1 l1_1.length c1_1) ∧ w'.cell? ⟨g3, 2, none⟩ = some (.slice A1_2 l1_2.length c1_2)) (ds := []) #[false, false, false, false, false, false, false, false, false, false] (by kernel_rfl) rfl rfl ⟨((H4.out).drew).za5 (i := 1) rfl 0 rfl, ((H4.out).drew).za5 (i := 1) rfl 1 rfl, ((H4.out).drew).za5 (i := 1) rfl 2 rfl, ((H4.out).drew).za5 (i := 1) rfl 3 rfl, ((H4.out).drew).za5 (i := 0) rfl 0 rfl, ((H4.out).drew).za5 (i := 0) rfl 1 rfl, ((H4.out).drew).za5 (i := 0) rfl 2 rfl⟩ (fun hHeld => ?_)
 refine take_ (i := 0) (N := some 23) (v := ?_) (a' := ?_) #[true, false, false, false, false, false, false, false, false, false] rfl rfl (by kernel_rfl) (fun _ _ _ h => h) (Or.inl ⟨by rfl, ?_⟩) hHeld ?_ ?_
 rotate_left
 ·rintro w' ⟨s0, s1, s2, s3, s4, s5, s6⟩
  go_simp
  with_reducible rfl
 rotate_left
 ·simp only [Act.put, sa_, sb_, sc_, i64_w, i32_w]
  rfl
 refine take_ (i := 2) (N := some 25) (v := ?_) (a' := ?_) #[true, false, true, false, false, false, false, false, false, false] rfl rfl (by kernel_rfl) (fun _ _ _ h => h) (Or.inl ⟨by rfl, ?_⟩) hHeld ?_ ?_
 rotate_left
 ·rintro w' ⟨s0, s1, s2, s3, s4, s5, s6⟩
  go_simp
  with_reducible rfl
 rotate_left
 ·simp only [Act.put, sa_, sb_, sc_, i64_w, i32_w]
  rfl
 refine one_ (i := 1) (N := some 24) #[true, true, true, false, false, false, false, false, false, false] rfl rfl (by kernel_rfl) (by decide) (fun K hK => ?_)
 refine goes_ Try.func18 (by kernel_rfl) rfl #[.agg #[.int .i64 a0_0, .slice A0_1 l0_1.length c0_1, .slice A0_2 l0_2.length c0_2, .slice A0_3 l0_3.length c0_3]] (by rfl) rfl rfl (by simp only [List.map_toArray, List.map_cons, List.map_nil]; rfl) ?_
 with_reducible refine (laws_toRegCode.calls k a0_0 A0_1 c0_1 l0_1 A0_2 c0_2 l0_2 A0_3 c0_3 l0_3 a0_0 m1 m2 m3 _ (Kd.zac HC1.out ((H4.out).drew).bel) HN.out.1 (Kd.zac HC2.out ((H4.out).drew).bel) HN.out.2.1 (Kd.zac HC3.out ((H4.out).drew).bel) HN.out.2.2.1 X.out.1).mono ?_
 rintro e w5 ⟨v1_, v2_, v3_, rfl, hr1_, hr2_, hr3_, hb_⟩
 refine ⟨_, rfl, ?_⟩
 have H5 := Aside0.mk (Fr.trip_new rfl rfl ((H4.out).drew) hr1_ hr2_ hr3_ hb_)
 obtain ⟨Aa1, ca1, rfl⟩ := Kd.zat hr1_
 obtain ⟨Aa2, ca2, rfl⟩ := Kd.zat hr2_
 obtain ⟨Aa3, ca3, rfl⟩ := Kd.zat hr3_
 clear hr1_ hr2_ hr3_ hb_
 refine hK.out _ _ ⟨(H5.out).za5 (i := 2) rfl 0 rfl, (H5.out).za5 (i := 2) rfl 1 rfl, (H5.out).za5 (i := 2) rfl 2 rfl, (H5.out).za5 (i := 2) rfl 3 rfl, (H5.out).za5 (i := 1) rfl 0 rfl, (H5.out).za5 (i := 1) rfl 1 rfl, (H5.out).za5 (i := 1) rfl 2 rfl⟩ (fun hHeld => ?_)
 clear hK K
 refine norm_ (a' := ?_) ?_ ?_
 rotate_left
 ·show Act.put _ (some 24) _ = _
  simp only [Act.put, sa_, sb_, sc_, i64_w, i32_w]
  rfl
 refine one_ (i := 3) (N := some 26) #[true, true, true, true, false, false, false, false, false, false] rfl rfl (by kernel_rfl) (by decide) (fun K hK => ?_)
 refine goes_ Try.func35 (by kernel_rfl) rfl #[.agg #[.int .i64 a1_0, .slice A1_1 l1_1.length c1_1, .slice A1_2 l1_2.length c1_2]] (by rfl) rfl rfl (by simp only [List.map_toArray, List.map_cons, List.map_nil]; rfl) ?_
 with_reducible refine (laws_toPlan.calls k a1_0 A1_1 c1_1 l1_1 A1_2 c1_2 l1_2 a1_0 q2 q3 _ (Kd.zac HP1.out (H5.out).bel) HN.out.2.2.2.1 (Kd.zac HP2.out (H5.out).bel) HN.out.2.2.2.2 X.out.2.1).mono ?_
 rintro e w6 ⟨v1_, v2_, rfl, hr1_, hr2_, hb_⟩
 refine ⟨_, rfl, ?_⟩
 have H6 := Aside0.mk (Fr.pair_new (H5.out) hr1_ hr2_ hb_)
 obtain ⟨Ab1, cb1, rfl⟩ := Kd.zat hr1_
 obtain ⟨Ab2, cb2, rfl⟩ := Kd.zat hr2_
 clear hr1_ hr2_ hb_
 refine hK.out _ _ ⟨(H6.out).za5 (i := 3) rfl 0 rfl, (H6.out).za5 (i := 3) rfl 1 rfl, (H6.out).za5 (i := 3) rfl 2 rfl, (H6.out).za5 (i := 3) rfl 3 rfl, (H6.out).za5 (i := 2) rfl 0 rfl, (H6.out).za5 (i := 2) rfl 1 rfl, (H6.out).za5 (i := 2) rfl 2 rfl⟩ (fun hHeld => ?_)
 clear hK K
 refine norm_ (a' := ?_) ?_ ?_
 rotate_left
 ·show Act.put _ (some 26) _ = _
  simp only [Act.put, sa_, sb_, sc_, i64_w, i32_w]
  rfl
 refine one_ (i := 4) (N := some 27) #[true, true, true, true, true, false, false, false, false, false] rfl rfl (by kernel_rfl) (by decide) (fun K hK => ?_)
 refine goes_ Try.func34 (by kernel_rfl) rfl #[.agg #[.int .i64 a0_0, .slice Aa1 m1.length ca1, .slice Aa2 m2.length ca2, .slice Aa3 m3.length ca3], .agg #[.int .i64 a1_0, .slice Ab1 q2.length cb1, .slice Ab2 q3.length cb2]] (by rfl) rfl rfl (by simp only [List.map_toArray, List.map_cons, List.map_nil]; rfl) ?_
 with_reducible refine (spec_CheckRegCode.calls k a0_0 Aa1 ca1 m1 Aa2 ca2 m2 Aa3 ca3 m3 a1_0 Ab1 cb1 q2 Ab2 cb2 q3 b1 b2 _ ((H6.out).trip_C (i := 1) rfl).1.1 ((H6.out).trip_C (i := 1) rfl).1.2.2 ((H6.out).trip_C (i := 1) rfl).2.1.1 ((H6.out).trip_C (i := 1) rfl).2.1.2.2 ((H6.out).trip_C (i := 1) rfl).2.2.1 ((H6.out).trip_C (i := 1) rfl).2.2.2.2 ((H6.out).pair_C (i := 0) rfl).1.1 ((H6.out).pair_C (i := 0) rfl).1.2.2 ((H6.out).pair_C (i := 0) rfl).2.1 ((H6.out).pair_C (i := 0) rfl).2.2.2 X.out.2.2.1).mono ?_
 rintro e w7 ⟨rfl, hb_⟩
 refine ⟨_, rfl, ?_⟩
 have H7 := Aside0.mk ((H6.out).below hb_)
 clear hb_
 refine hK.out _ _ ⟨(H7.out).za5 (i := 3) rfl 0 rfl, (H7.out).za5 (i := 3) rfl 1 rfl, (H7.out).za5 (i := 3) rfl 2 rfl, (H7.out).za5 (i := 3) rfl 3 rfl, (H7.out).za5 (i := 2) rfl 0 rfl, (H7.out).za5 (i := 2) rfl 1 rfl, (H7.out).za5 (i := 2) rfl 2 rfl⟩ (fun hHeld => ?_)
 clear hK K
 refine norm_ (a' := ?_) ?_ ?_
 rotate_left
 ·show Act.put _ (some 27) _ = _
  simp only [Act.put, sa_, sb_, sc_, i64_w, i32_w]
  rfl
 refine pure_ (i := 5) (N := some 22) (v := ?_) (a' := ?_) #[true, true, true, true, true, true, false, false, false, false] rfl rfl (by kernel_rfl) (fun _ _ _ h => h) (Or.inl ⟨by rfl, ?_⟩) ?_ ?_
 rotate_left
 ·intro w'
  go_simp
  with_reducible rfl
 rotate_left
 ·simp only [Act.put, sa_, sb_, sc_, i64_w, i32_w]
  rfl
 refine pure_ (i := 6) (N := some 28) (v := ?_) (a' := ?_) #[true, true, true, true, true, true, true, false, false, false] rfl rfl (by kernel_rfl) (fun _ _ _ h => h) (Or.inl ⟨by rfl, ?_⟩) ?_ ?_
 rotate_left
 ·intro w'
  go_simp
  with_reducible rfl
 rotate_left
 ·simp only [Act.put, sa_, sb_, sc_, i64_w, i32_w]
  rfl
 refine pure_ (i := 7) (N := some 29) (v := ?_) (a' := ?_) #[true, true, true, true, true, true, true, true, false, false] rfl rfl (by kernel_rfl) (fun _ _ _ h => h) (Or.inl ⟨by rfl, ?_⟩) ?_ ?_
 rotate_left
 ·intro w'
  go_simp
  with_reducible rfl
 rotate_left
 ·simp only [Act.put, sa_, sb_, sc_, i64_w, i32_w]
  rfl
 refine pure_ (i := 8) (N := some 6) (v := ?_) (a' := ?_) #[true, true, true, true, true, true, true, true, true, false] rfl rfl (by kernel_rfl) (fun _ _ _ h => h) (Or.inl ⟨by rfl, ?_⟩) ?_ ?_
 rotate_left
 ·intro w'
  go_simp
  with_reducible rfl
 rotate_left
 ·simp only [Act.put, sa_, sb_, sc_, i64_w, i32_w]
  rfl
 refine pure_ (i := 9) (N := some 7) (v := ?_) (a' := ?_) #[true, true, true, true, true, true, true, true, true, true] rfl rfl (by kernel_rfl) (fun _ _ _ h => h) (Or.inl ⟨by rfl, ?_⟩) ?_ ?_
 rotate_left
 ·intro w'
  go_simp
  with_reducible rfl
 rotate_left
 ·simp only [Act.put, sa_, sb_, sc_, i64_w, i32_w]
  rfl
 refine done_ (by kernel_rfl) ?_
 clear hHeld
 have H8 := Aside0.mk (show Fr w w (fun _ => False) [box g3 50 #[.int .i64 a1_0, .slice A1_1 l1_1.length c1_1, .slice A1_2 l1_2.length c1_2], box g2 25 #[.int .i64 a0_0, .slice A0_1 l0_1.length c0_1, .slice A0_2 l0_2.length c0_2, .slice A0_3 l0_3.length c0_3]] w7 from Fr.pick (H7.out) [2, 3] (by decide) (by simp))
 have xg2_0 : w7.cell? ⟨g2, 0, none⟩ = some (.int .i64 a0_0) := (H8.out).za5 (i := 1) rfl 0 rfl
 have fg2_0 := za0 ((H8.out).zai (i := 1) rfl) 0
 have xg2_1 : w7.cell? ⟨g2, 1, none⟩ = some (.slice A0_1 l0_1.length c0_1) := (H8.out).za5 (i := 1) rfl 1 rfl
 have fg2_1 := za0 ((H8.out).zai (i := 1) rfl) 1
 have xg2_2 : w7.cell? ⟨g2, 2, none⟩ = some (.slice A0_2 l0_2.length c0_2) := (H8.out).za5 (i := 1) rfl 2 rfl
 have fg2_2 := za0 ((H8.out).zai (i := 1) rfl) 2
 have xg2_3 : w7.cell? ⟨g2, 3, none⟩ = some (.slice A0_3 l0_3.length c0_3) := (H8.out).za5 (i := 1) rfl 3 rfl
 have fg2_3 := za0 ((H8.out).zai (i := 1) rfl) 3
 go_wp2_with fail
 have T_ := Aside0.mk trivial
 go_wp2_with (first | (go_at_call 18; clear T_; refine (laws_toRegCode.calls k a0_0 A0_1 c0_1 l0_1 A0_2 c0_2 l0_2 A0_3 c0_3 l0_3 a0_0 m1 m2 m3 _ (Kd.zac HC1.out (H8.out).bel) HN.out.1 (Kd.zac HC2.out (H8.out).bel) HN.out.2.1 (Kd.zac HC3.out (H8.out).bel) HN.out.2.2.1 X.out.1).mono ?_; rintro e w9 ⟨v1_, v2_, v3_, rfl, hr1_, hr2_, hr3_, hb_⟩; have H9 := Aside0.mk (Fr.trip_new rfl rfl (H8.out) hr1_ hr2_ hr3_ hb_); obtain ⟨Ax1, cx1, rfl⟩ := Kd.zat hr1_; obtain ⟨Ax2, cx2, rfl⟩ := Kd.zat hr2_; obtain ⟨Ax3, cx3, rfl⟩ := Kd.zat hr3_; clear hr1_ hr2_ hr3_ hb_) | ((with_reducible refine zaf (N := 8) rfl ?_); refine zad ?hg (N := 8) ?hd (cs := #[.int .i64 0, .slice none 0 0, .slice none 0 0, .slice none 0 0]) (t := 30) ?hr ?_; (case hd => rfl); (case hg => rfl); (case hr => first | (go_simp; done) | (go_simp; rfl)); intro g8 hg_ w10 hbox_ hb_; have H10 := Aside0.mk ((H9.out).zb6 hbox_ hb_ hg_); clear hbox_ hb_ hg_; clear xg2_0 fg2_0 xg2_1 fg2_1 xg2_2 fg2_2 xg2_3 fg2_3; have xg8_0 : w10.cell? ⟨g8, 0, none⟩ = some (.int .i64 0) := (H10.out).za5 (i := 0) rfl 0 rfl; have fg8_0 := za0 ((H10.out).zai (i := 0) rfl) 0; have xg8_1 : w10.cell? ⟨g8, 1, none⟩ = some (.slice none 0 0) := (H10.out).za5 (i := 0) rfl 1 rfl; have fg8_1 := za0 ((H10.out).zai (i := 0) rfl) 1; have xg8_2 : w10.cell? ⟨g8, 2, none⟩ = some (.slice none 0 0) := (H10.out).za5 (i := 0) rfl 2 rfl; have fg8_2 := za0 ((H10.out).zai (i := 0) rfl) 2; have xg8_3 : w10.cell? ⟨g8, 3, none⟩ = some (.slice none 0 0) := (H10.out).za5 (i := 0) rfl 3 rfl; have fg8_3 := za0 ((H10.out).zai (i := 0) rfl) 3; have xg3_0 : w10.cell? ⟨g3, 0, none⟩ = some (.int .i64 a1_0) := (H10.out).za5 (i := 2) rfl 0 rfl; have fg3_0 := za0 ((H10.out).zai (i := 2) rfl) 0; have xg3_1 : w10.cell? ⟨g3, 1, none⟩ = some (.slice A1_1 l1_1.length c1_1) := (H10.out).za5 (i := 2) rfl 1 rfl; have fg3_1 := za0 ((H10.out).zai (i := 2) rfl) 1; have xg3_2 : w10.cell? ⟨g3, 2, none⟩ = some (.slice A1_2 l1_2.length c1_2) := (H10.out).za5 (i := 2) rfl 2 rfl; have fg3_2 := za0 ((H10.out).zai (i := 2) rfl) 2; have ng8_g3 := Fr.box_ne (H10.out) (i := 0) (j := 2) (by decide) rfl rfl; have ng3_g8 := ng8_g3.symm))
 have h_ := ((((H10.out).zas (i := 0) rfl 0 (.int .i64 a0_0) rfl).zas (i := 0) rfl 1 (.slice Ax1 m1.length cx1) rfl).zas (i := 0) rfl 2 (.slice Ax2 m2.length cx2) rfl).zas (i := 0) rfl 3 (.slice Ax3 m3.length cx3) rfl
 simp only [List.set_cons_zero, List.set_cons_succ] at h_
 generalize ((((w10).setCell ⟨g8, 0, none⟩ (.int .i64 a0_0)).setCell ⟨g8, 1, none⟩ (.slice Ax1 m1.length cx1)).setCell ⟨g8, 2, none⟩ (.slice Ax2 m2.length cx2)).setCell ⟨g8, 3, none⟩ (.slice Ax3 m3.length cx3) = w11 at h_ ⊢
 have H11 := Aside0.mk (show Fr w w (fun _ => False) [box g8 30 #[.int .i64 a0_0, .slice Ax1 m1.length cx1, .slice Ax2 m2.length cx2, .slice Ax3 m3.length cx3], trip3 (Kd.int .i64) 3 (.slice Ax1 m1.length cx1) m1 k80 80 (.slice Ax2 m2.length cx2) m2 (Kd.int .i64) 3 (.slice Ax3 m3.length cx3) m3, box g3 50 #[.int .i64 a1_0, .slice A1_1 l1_1.length c1_1, .slice A1_2 l1_2.length c1_2], box g2 25 #[.int .i64 a0_0, .slice A0_1 l0_1.length c0_1, .slice A0_2 l0_2.length c0_2, .slice A0_3 l0_3.length c0_3]] w11 from h_)
 clear h_
 clear xg8_0 fg8_0 xg8_1 fg8_1 xg8_2 fg8_2 xg8_3 fg8_3 xg3_0 fg3_0 xg3_1 fg3_1 xg3_2 fg3_2 ng8_g3 ng3_g8
 have xg3_0 : w11.cell? ⟨g3, 0, none⟩ = some (.int .i64 a1_0) := (H11.out).za5 (i := 2) rfl 0 rfl
 have fg3_0 := za0 ((H11.out).zai (i := 2) rfl) 0
 have xg3_1 : w11.cell? ⟨g3, 1, none⟩ = some (.slice A1_1 l1_1.length c1_1) := (H11.out).za5 (i := 2) rfl 1 rfl
 have fg3_1 := za0 ((H11.out).zai (i := 2) rfl) 1
 have xg3_2 : w11.cell? ⟨g3, 2, none⟩ = some (.slice A1_2 l1_2.length c1_2) := (H11.out).za5 (i := 2) rfl 2 rfl
 have fg3_2 := za0 ((H11.out).zai (i := 2) rfl) 2
 have T_ := Aside0.mk trivial
 go_wp2_with (first | (go_at_call 35; clear T_; refine (laws_toPlan.calls k a1_0 A1_1 c1_1 l1_1 A1_2 c1_2 l1_2 a1_0 q2 q3 _ (Kd.zac HP1.out (H11.out).bel) HN.out.2.2.2.1 (Kd.zac HP2.out (H11.out).bel) HN.out.2.2.2.2 X.out.2.1).mono ?_; rintro e w12 ⟨v1_, v2_, rfl, hr1_, hr2_, hb_⟩; have H12 := Aside0.mk (Fr.pair_new (H11.out) hr1_ hr2_ hb_); obtain ⟨Au1, cu1, rfl⟩ := Kd.zat hr1_; obtain ⟨Au2, cu2, rfl⟩ := Kd.zat hr2_; clear hr1_ hr2_ hb_) | ((with_reducible refine zaf (N := 9) rfl ?_); refine zad ?hg (N := 9) ?hd (cs := #[.int .i64 0, .slice none 0 0, .slice none 0 0]) (t := 36) ?hr ?_; (case hd => rfl); (case hg => rfl); (case hr => first | (go_simp; done) | (go_simp; rfl)); intro g9 hg_ w13 hbox_ hb_; have H13 := Aside0.mk ((H12.out).zb6 hbox_ hb_ hg_); clear hbox_ hb_ hg_; clear xg3_0 fg3_0 xg3_1 fg3_1 xg3_2 fg3_2; have xg9_0 : w13.cell? ⟨g9, 0, none⟩ = some (.int .i64 0) := (H13.out).za5 (i := 0) rfl 0 rfl; have fg9_0 := za0 ((H13.out).zai (i := 0) rfl) 0; have xg9_1 : w13.cell? ⟨g9, 1, none⟩ = some (.slice none 0 0) := (H13.out).za5 (i := 0) rfl 1 rfl; have fg9_1 := za0 ((H13.out).zai (i := 0) rfl) 1; have xg9_2 : w13.cell? ⟨g9, 2, none⟩ = some (.slice none 0 0) := (H13.out).za5 (i := 0) rfl 2 rfl; have fg9_2 := za0 ((H13.out).zai (i := 0) rfl) 2; have xg8_0 : w13.cell? ⟨g8, 0, none⟩ = some (.int .i64 a0_0) := (H13.out).za5 (i := 2) rfl 0 rfl; have fg8_0 := za0 ((H13.out).zai (i := 2) rfl) 0; have xg8_1 : w13.cell? ⟨g8, 1, none⟩ = some (.slice Ax1 m1.length cx1) := (H13.out).za5 (i := 2) rfl 1 rfl; have fg8_1 := za0 ((H13.out).zai (i := 2) rfl) 1; have xg8_2 : w13.cell? ⟨g8, 2, none⟩ = some (.slice Ax2 m2.length cx2) := (H13.out).za5 (i := 2) rfl 2 rfl; have fg8_2 := za0 ((H13.out).zai (i := 2) rfl) 2; have xg8_3 : w13.cell? ⟨g8, 3, none⟩ = some (.slice Ax3 m3.length cx3) := (H13.out).za5 (i := 2) rfl 3 rfl; have fg8_3 := za0 ((H13.out).zai (i := 2) rfl) 3; have ng9_g8 := Fr.box_ne (H13.out) (i := 0) (j := 2) (by decide) rfl rfl; have ng8_g9 := ng9_g8.symm))
 have h_ := (((H13.out).zas (i := 0) rfl 0 (.int .i64 a1_0) rfl).zas (i := 0) rfl 1 (.slice Au1 q2.length cu1) rfl).zas (i := 0) rfl 2 (.slice Au2 q3.length cu2) rfl
 simp only [List.set_cons_zero, List.set_cons_succ] at h_
 generalize (((w13).setCell ⟨g9, 0, none⟩ (.int .i64 a1_0)).setCell ⟨g9, 1, none⟩ (.slice Au1 q2.length cu1)).setCell ⟨g9, 2, none⟩ (.slice Au2 q3.length cu2) = w14 at h_ ⊢
 have H14 := Aside0.mk (show Fr w w (fun _ => False) [box g9 36 #[.int .i64 a1_0, .slice Au1 q2.length cu1, .slice Au2 q3.length cu2], pair2 k117 117 (.slice Au1 q2.length cu1) q2 (Kd.int .i64) 3 (.slice Au2 q3.length cu2) q3, box g8 30 #[.int .i64 a0_0, .slice Ax1 m1.length cx1, .slice Ax2 m2.length cx2, .slice Ax3 m3.length cx3], trip3 (Kd.int .i64) 3 (.slice Ax1 m1.length cx1) m1 k80 80 (.slice Ax2 m2.length cx2) m2 (Kd.int .i64) 3 (.slice Ax3 m3.length cx3) m3, box g3 50 #[.int .i64 a1_0, .slice A1_1 l1_1.length c1_1, .slice A1_2 l1_2.length c1_2], box g2 25 #[.int .i64 a0_0, .slice A0_1 l0_1.length c0_1, .slice A0_2 l0_2.length c0_2, .slice A0_3 l0_3.length c0_3]] w14 from h_)
 clear h_
 clear xg9_0 fg9_0 xg9_1 fg9_1 xg9_2 fg9_2 xg8_0 fg8_0 xg8_1 fg8_1 xg8_2 fg8_2 xg8_3 fg8_3 ng9_g8 ng8_g9
 have xg9_0 : w14.cell? ⟨g9, 0, none⟩ = some (.int .i64 a1_0) := (H14.out).za5 (i := 0) rfl 0 rfl
 have fg9_0 := za0 ((H14.out).zai (i := 0) rfl) 0
 have xg9_1 : w14.cell? ⟨g9, 1, none⟩ = some (.slice Au1 q2.length cu1) := (H14.out).za5 (i := 0) rfl 1 rfl
 have fg9_1 := za0 ((H14.out).zai (i := 0) rfl) 1
 have xg9_2 : w14.cell? ⟨g9, 2, none⟩ = some (.slice Au2 q3.length cu2) := (H14.out).za5 (i := 0) rfl 2 rfl
 have fg9_2 := za0 ((H14.out).zai (i := 0) rfl) 2
 have xg8_0 : w14.cell? ⟨g8, 0, none⟩ = some (.int .i64 a0_0) := (H14.out).za5 (i := 2) rfl 0 rfl
 have fg8_0 := za0 ((H14.out).zai (i := 2) rfl) 0
 have xg8_1 : w14.cell? ⟨g8, 1, none⟩ = some (.slice Ax1 m1.length cx1) := (H14.out).za5 (i := 2) rfl 1 rfl
 have fg8_1 := za0 ((H14.out).zai (i := 2) rfl) 1
 have xg8_2 : w14.cell? ⟨g8, 2, none⟩ = some (.slice Ax2 m2.length cx2) := (H14.out).za5 (i := 2) rfl 2 rfl
 have fg8_2 := za0 ((H14.out).zai (i := 2) rfl) 2
 have xg8_3 : w14.cell? ⟨g8, 3, none⟩ = some (.slice Ax3 m3.length cx3) := (H14.out).za5 (i := 2) rfl 3 rfl
 have fg8_3 := za0 ((H14.out).zai (i := 2) rfl) 3
 have T_ := Aside0.mk trivial
 go_wp2_with (go_at_call 36; clear T_; refine (impl_CheckRegCode.calls k a0_0 Ax1 cx1 m1 Ax2 cx2 m2 Ax3 cx3 m3 a1_0 Au1 cu1 q2 Au2 cu2 q3 b1 b2 _ ((H14.out).trip_C (i := 3) rfl).1.1 ((H14.out).trip_C (i := 3) rfl).1.2.2 ((H14.out).trip_C (i := 3) rfl).2.1.1 ((H14.out).trip_C (i := 3) rfl).2.1.2.2 ((H14.out).trip_C (i := 3) rfl).2.2.1 ((H14.out).trip_C (i := 3) rfl).2.2.2.2 ((H14.out).pair_C (i := 1) rfl).1.1 ((H14.out).pair_C (i := 1) rfl).1.2.2 ((H14.out).pair_C (i := 1) rfl).2.1 ((H14.out).pair_C (i := 1) rfl).2.2.2 X.out.2.2.2.1).mono ?_; rintro e w15 ⟨rfl, hb_⟩; have H15 := Aside0.mk ((H14.out).below hb_); clear hb_; clear xg9_0 fg9_0 xg9_1 fg9_1 xg9_2 fg9_2 xg8_0 fg8_0 xg8_1 fg8_1 xg8_2 fg8_2 xg8_3 fg8_3)
 refine start_ (n := 5) (S := fun w' => w'.cell? ⟨g8, 0, none⟩ = some (.int .i64 a0_0) ∧ w'.cell? ⟨g8, 1, none⟩ = some (.slice Ax1 m1.length cx1) ∧ w'.cell? ⟨g8, 2, none⟩ = some (.slice Ax2 m2.length cx2) ∧ w'.cell? ⟨g8, 3, none⟩ = some (.slice Ax3 m3.length cx3) ∧ w'.cell? ⟨g2, 0, none⟩ = some (.int .i64 a0_0) ∧ w'.cell? ⟨g2, 1, none⟩ = some (.slice A0_1 l0_1.length c0_1) ∧ w'.cell? ⟨g2, 2, none⟩ = some (.slice A0_2 l0_2.length c0_2) ∧ w'.cell? ⟨g2, 3, none⟩ = some (.slice A0_3 l0_3.length c0_3)) (ds := []) #[false, false, false, false, false] (by kernel_rfl) rfl rfl ⟨((H15.out).drew).za5 (i := 2) rfl 0 rfl, ((H15.out).drew).za5 (i := 2) rfl 1 rfl, ((H15.out).drew).za5 (i := 2) rfl 2 rfl, ((H15.out).drew).za5 (i := 2) rfl 3 rfl, ((H15.out).drew).za5 (i := 5) rfl 0 rfl, ((H15.out).drew).za5 (i := 5) rfl 1 rfl, ((H15.out).drew).za5 (i := 5) rfl 2 rfl, ((H15.out).drew).za5 (i := 5) rfl 3 rfl⟩ (fun hHeld => ?_)
 refine take_ (i := 0) (N := some 48) (v := ?_) (a' := ?_) #[true, false, false, false, false] rfl rfl (by kernel_rfl) (fun _ _ _ h => h) (Or.inl ⟨by rfl, ?_⟩) hHeld ?_ ?_
 rotate_left
 ·rintro w' ⟨s0, s1, s2, s3, s4, s5, s6, s7⟩
  go_simp
  with_reducible rfl
 rotate_left
 ·simp only [Act.put, sa_, sb_, sc_, i64_w, i32_w]
  rfl
 refine take_ (i := 1) (N := some 49) (v := ?_) (a' := ?_) #[true, true, false, false, false] rfl rfl (by kernel_rfl) (fun _ _ _ h => h) (Or.inl ⟨by rfl, ?_⟩) hHeld ?_ ?_
 rotate_left
 ·rintro w' ⟨s0, s1, s2, s3, s4, s5, s6, s7⟩
  go_simp
  with_reducible rfl
 rotate_left
 ·simp only [Act.put, sa_, sb_, sc_, i64_w, i32_w]
  rfl
 refine one_ (i := 2) (N := some 50) #[true, true, true, false, false] rfl rfl (by kernel_rfl) (by decide) (fun K hK => ?_)
 refine goes_ Try.func18 (by kernel_rfl) rfl #[.agg #[.int .i64 a0_0, .slice A0_1 l0_1.length c0_1, .slice A0_2 l0_2.length c0_2, .slice A0_3 l0_3.length c0_3]] (by rfl) rfl rfl (by simp only [List.map_toArray, List.map_cons, List.map_nil]; rfl) ?_
 with_reducible refine (laws_toRegCode.calls k a0_0 A0_1 c0_1 l0_1 A0_2 c0_2 l0_2 A0_3 c0_3 l0_3 a0_0 m1 m2 m3 _ (Kd.zac HC1.out ((H15.out).drew).bel) HN.out.1 (Kd.zac HC2.out ((H15.out).drew).bel) HN.out.2.1 (Kd.zac HC3.out ((H15.out).drew).bel) HN.out.2.2.1 X.out.1).mono ?_
 rintro e w16 ⟨v1_, v2_, v3_, rfl, hr1_, hr2_, hr3_, hb_⟩
 refine ⟨_, rfl, ?_⟩
 have H16 := Aside0.mk (Fr.trip_new rfl rfl ((H15.out).drew) hr1_ hr2_ hr3_ hb_)
 obtain ⟨Ay1, cy1, rfl⟩ := Kd.zat hr1_
 obtain ⟨Ay2, cy2, rfl⟩ := Kd.zat hr2_
 obtain ⟨Ay3, cy3, rfl⟩ := Kd.zat hr3_
 clear hr1_ hr2_ hr3_ hb_
 refine hK.out _ _ ⟨(H16.out).za5 (i := 3) rfl 0 rfl, (H16.out).za5 (i := 3) rfl 1 rfl, (H16.out).za5 (i := 3) rfl 2 rfl, (H16.out).za5 (i := 3) rfl 3 rfl, (H16.out).za5 (i := 6) rfl 0 rfl, (H16.out).za5 (i := 6) rfl 1 rfl, (H16.out).za5 (i := 6) rfl 2 rfl, (H16.out).za5 (i := 6) rfl 3 rfl⟩ (fun hHeld => ?_)
 clear hK K
 refine norm_ (a' := ?_) ?_ ?_
 rotate_left
 ·show Act.put _ (some 50) _ = _
  simp only [Act.put, sa_, sb_, sc_, i64_w, i32_w]
  rfl
 refine one_ (i := 3) (N := some 51) #[true, true, true, true, false] rfl rfl (by kernel_rfl) (by decide) (fun K hK => ?_)
 refine goes_ Try.func20 (by kernel_rfl) rfl #[.agg #[.int .i64 a0_0, .slice Ax1 m1.length cx1, .slice Ax2 m2.length cx2, .slice Ax3 m3.length cx3], .agg #[.int .i64 a0_0, .slice Ay1 m1.length cy1, .slice Ay2 m2.length cy2, .slice Ay3 m3.length cy3]] (by rfl) rfl rfl (by simp only [List.map_toArray, List.map_cons, List.map_nil]; rfl) ?_
 with_reducible refine (laws_eqRegCode.calls k a0_0 Ax1 cx1 m1 Ax2 cx2 m2 Ax3 cx3 m3 a0_0 Ay1 cy1 m1 Ay2 cy2 m2 Ay3 cy3 m3 true _ ((H16.out).trip_C (i := 4) rfl).1.1 ((H16.out).trip_C (i := 4) rfl).1.2.2 ((H16.out).trip_C (i := 4) rfl).2.1.1 ((H16.out).trip_C (i := 4) rfl).2.1.2.2 ((H16.out).trip_C (i := 4) rfl).2.2.1 ((H16.out).trip_C (i := 4) rfl).2.2.2.2 ((H16.out).trip_C (i := 0) rfl).1.1 ((H16.out).trip_C (i := 0) rfl).1.2.2 ((H16.out).trip_C (i := 0) rfl).2.1.1 ((H16.out).trip_C (i := 0) rfl).2.1.2.2 ((H16.out).trip_C (i := 0) rfl).2.2.1 ((H16.out).trip_C (i := 0) rfl).2.2.2.2 X.out.2.2.2.2.1).mono ?_
 rintro e w17 ⟨rfl, hb_⟩
 refine ⟨_, rfl, ?_⟩
 have H17 := Aside0.mk ((H16.out).below hb_)
 clear hb_
 refine hK.out _ _ ⟨(H17.out).za5 (i := 3) rfl 0 rfl, (H17.out).za5 (i := 3) rfl 1 rfl, (H17.out).za5 (i := 3) rfl 2 rfl, (H17.out).za5 (i := 3) rfl 3 rfl, (H17.out).za5 (i := 6) rfl 0 rfl, (H17.out).za5 (i := 6) rfl 1 rfl, (H17.out).za5 (i := 6) rfl 2 rfl, (H17.out).za5 (i := 6) rfl 3 rfl⟩ (fun hHeld => ?_)
 clear hK K
 refine norm_ (a' := ?_) ?_ ?_
 rotate_left
 ·show Act.put _ (some 51) _ = _
  simp only [Act.put, sa_, sb_, sc_, i64_w, i32_w]
  rfl
 refine pure_ (i := 4) (N := some 52) (v := ?_) (a' := ?_) #[true, true, true, true, true] rfl rfl (by kernel_rfl) (fun _ _ _ h => h) (Or.inl ⟨by rfl, ?_⟩) ?_ ?_
 rotate_left
 ·intro w'
  go_simp
  with_reducible rfl
 rotate_left
 ·simp only [Act.put, sa_, sb_, sc_, i64_w, i32_w]
  rfl
 refine done_ (by kernel_rfl) ?_
 clear hHeld
 go_wp2_with fail
 refine start_ (n := 5) (S := fun w' => w'.cell? ⟨g9, 0, none⟩ = some (.int .i64 a1_0) ∧ w'.cell? ⟨g9, 1, none⟩ = some (.slice Au1 q2.length cu1) ∧ w'.cell? ⟨g9, 2, none⟩ = some (.slice Au2 q3.length cu2) ∧ w'.cell? ⟨g3, 0, none⟩ = some (.int .i64 a1_0) ∧ w'.cell? ⟨g3, 1, none⟩ = some (.slice A1_1 l1_1.length c1_1) ∧ w'.cell? ⟨g3, 2, none⟩ = some (.slice A1_2 l1_2.length c1_2)) (ds := []) #[false, false, false, false, false] (by kernel_rfl) rfl rfl ⟨((H17.out).drew).za5 (i := 1) rfl 0 rfl, ((H17.out).drew).za5 (i := 1) rfl 1 rfl, ((H17.out).drew).za5 (i := 1) rfl 2 rfl, ((H17.out).drew).za5 (i := 5) rfl 0 rfl, ((H17.out).drew).za5 (i := 5) rfl 1 rfl, ((H17.out).drew).za5 (i := 5) rfl 2 rfl⟩ (fun hHeld => ?_)
 refine take_ (i := 0) (N := some 53) (v := ?_) (a' := ?_) #[true, false, false, false, false] rfl rfl (by kernel_rfl) (fun _ _ _ h => h) (Or.inl ⟨by rfl, ?_⟩) hHeld ?_ ?_
 rotate_left
 ·rintro w' ⟨s0, s1, s2, s3, s4, s5⟩
  go_simp
  with_reducible rfl
 rotate_left
 ·simp only [Act.put, sa_, sb_, sc_, i64_w, i32_w]
  rfl
 refine take_ (i := 1) (N := some 54) (v := ?_) (a' := ?_) #[true, true, false, false, false] rfl rfl (by kernel_rfl) (fun _ _ _ h => h) (Or.inl ⟨by rfl, ?_⟩) hHeld ?_ ?_
 rotate_left
 ·rintro w' ⟨s0, s1, s2, s3, s4, s5⟩
  go_simp
  with_reducible rfl
 rotate_left
 ·simp only [Act.put, sa_, sb_, sc_, i64_w, i32_w]
  rfl
 refine one_ (i := 2) (N := some 55) #[true, true, true, false, false] rfl rfl (by kernel_rfl) (by decide) (fun K hK => ?_)
 refine goes_ Try.func35 (by kernel_rfl) rfl #[.agg #[.int .i64 a1_0, .slice A1_1 l1_1.length c1_1, .slice A1_2 l1_2.length c1_2]] (by rfl) rfl rfl (by simp only [List.map_toArray, List.map_cons, List.map_nil]; rfl) ?_
 with_reducible refine (laws_toPlan.calls k a1_0 A1_1 c1_1 l1_1 A1_2 c1_2 l1_2 a1_0 q2 q3 _ (Kd.zac HP1.out ((H17.out).drew).bel) HN.out.2.2.2.1 (Kd.zac HP2.out ((H17.out).drew).bel) HN.out.2.2.2.2 X.out.2.1).mono ?_
 rintro e w18 ⟨v1_, v2_, rfl, hr1_, hr2_, hb_⟩
 refine ⟨_, rfl, ?_⟩
 have H18 := Aside0.mk (Fr.pair_new ((H17.out).drew) hr1_ hr2_ hb_)
 obtain ⟨Az1, cz1, rfl⟩ := Kd.zat hr1_
 obtain ⟨Az2, cz2, rfl⟩ := Kd.zat hr2_
 clear hr1_ hr2_ hb_
 refine hK.out _ _ ⟨(H18.out).za5 (i := 2) rfl 0 rfl, (H18.out).za5 (i := 2) rfl 1 rfl, (H18.out).za5 (i := 2) rfl 2 rfl, (H18.out).za5 (i := 6) rfl 0 rfl, (H18.out).za5 (i := 6) rfl 1 rfl, (H18.out).za5 (i := 6) rfl 2 rfl⟩ (fun hHeld => ?_)
 clear hK K
 refine norm_ (a' := ?_) ?_ ?_
 rotate_left
 ·show Act.put _ (some 55) _ = _
  simp only [Act.put, sa_, sb_, sc_, i64_w, i32_w]
  rfl
 refine one_ (i := 3) (N := some 56) #[true, true, true, true, false] rfl rfl (by kernel_rfl) (by decide) (fun K hK => ?_)
 refine goes_ Try.func23 (by kernel_rfl) rfl #[.agg #[.int .i64 a1_0, .slice Au1 q2.length cu1, .slice Au2 q3.length cu2], .agg #[.int .i64 a1_0, .slice Az1 q2.length cz1, .slice Az2 q3.length cz2]] (by rfl) rfl rfl (by simp only [List.map_toArray, List.map_cons, List.map_nil]; rfl) ?_
 with_reducible refine (laws_eqPlan.calls k a1_0 Au1 cu1 q2 Au2 cu2 q3 a1_0 Az1 cz1 q2 Az2 cz2 q3 true _ ((H18.out).pair_C (i := 3) rfl).1.1 ((H18.out).pair_C (i := 3) rfl).1.2.2 ((H18.out).pair_C (i := 3) rfl).2.1 ((H18.out).pair_C (i := 3) rfl).2.2.2 ((H18.out).pair_C (i := 0) rfl).1.1 ((H18.out).pair_C (i := 0) rfl).1.2.2 ((H18.out).pair_C (i := 0) rfl).2.1 ((H18.out).pair_C (i := 0) rfl).2.2.2 X.out.2.2.2.2.2).mono ?_
 rintro e w19 ⟨rfl, hb_⟩
 refine ⟨_, rfl, ?_⟩
 have H19 := Aside0.mk ((H18.out).below hb_)
 clear hb_
 refine hK.out _ _ ⟨(H19.out).za5 (i := 2) rfl 0 rfl, (H19.out).za5 (i := 2) rfl 1 rfl, (H19.out).za5 (i := 2) rfl 2 rfl, (H19.out).za5 (i := 6) rfl 0 rfl, (H19.out).za5 (i := 6) rfl 1 rfl, (H19.out).za5 (i := 6) rfl 2 rfl⟩ (fun hHeld => ?_)
 clear hK K
 refine norm_ (a' := ?_) ?_ ?_
 rotate_left
 ·show Act.put _ (some 56) _ = _
  simp only [Act.put, sa_, sb_, sc_, i64_w, i32_w]
  rfl
 refine pure_ (i := 4) (N := some 57) (v := ?_) (a' := ?_) #[true, true, true, true, true] rfl rfl (by kernel_rfl) (fun _ _ _ h => h) (Or.inl ⟨by rfl, ?_⟩) ?_ ?_
 rotate_left
 ·intro w'
  go_simp
  with_reducible rfl
 rotate_left
 ·simp only [Act.put, sa_, sb_, sc_, i64_w, i32_w]
  rfl
 refine done_ (by kernel_rfl) ?_
 clear hHeld
 go_wp2_with fail
 go_ret
 exact ⟨rfl, (H19.out).bel⟩
/-- THE ONE PURE STATEMENT of the law: each of the calls on the path that it takes. -/
def laws_FnExactCheckRegCode.Pure : Prop := ∀ (a0_0 : Int) (l0_1 : List Int) (l0_2 : List S126) (l0_3 : List Int) (a1_0 : Int) (l1_1 : List S137) (l1_2 : List Int), (Lit.int .i64 a0_0).wf = true → l0_1.length ≤ maxLen → (∀ y ∈ l0_1, (Lit.int .i64 y).wf = true) → l0_2.length ≤ maxLen → (∀ y ∈ l0_2, (Lit.int .i64 y.f0).wf = true ∧ (Lit.int .i64 y.f1).wf = true ∧ (Lit.int .i64 y.f2).wf = true) → l0_3.length ≤ maxLen → (∀ y ∈ l0_3, (Lit.int .i64 y).wf = true) → (Lit.int .i64 a1_0).wf = true → l1_1.length ≤ maxLen → (∀ y ∈ l1_1, (Lit.int .i64 y.f0).wf = true ∧ (Lit.int .i64 y.f1).wf = true) → l1_2.length ≤ maxLen → (∀ y ∈ l1_2, (Lit.int .i64 y).wf = true) → laws_szRegCode.f a0_0 l0_1 l0_2 l0_3 1048576 = some (-1) ∨ (∃ s1, 0 ≤ s1 ∧ laws_szRegCode.f a0_0 l0_1 l0_2 l0_3 1048576 = some s1 ∧ laws_szPlan.f a1_0 l1_1 l1_2 s1 = some (-1)) ∨ ∃ (s1 s2 : Int) (m1 : List Int) (m2 : List S80) (m3 : List Int) (q2 : List S117) (q3 : List Int) (b1 b2 : Bool) (k : Nat), 0 ≤ s1 ∧ 0 ≤ s2 ∧ laws_szRegCode.f a0_0 l0_1 l0_2 l0_3 1048576 = some s1 ∧ laws_szPlan.f a1_0 l1_1 l1_2 s1 = some s2 ∧ laws_toRegCode.f k a0_0 l0_1 l0_2 l0_3 = some (a0_0, m1, m2, m3) ∧ laws_toPlan.f k a1_0 l1_1 l1_2 = some (a1_0, q2, q3) ∧ spec_CheckRegCode.f k a0_0 m1 m2 m3 a1_0 q2 q3 = some (b1, b2) ∧ impl_CheckRegCode.f k a0_0 m1 m2 m3 a1_0 q2 q3 = some (b1, b2) ∧ laws_eqRegCode.f k a0_0 m1 m2 m3 a0_0 m1 m2 m3 = some true ∧ laws_eqPlan.f k a1_0 q2 q3 a1_0 q2 q3 = some true
theorem laws_FnExactCheckRegCode.walk (P : laws_FnExactCheckRegCode.Pure) (a0_0 : Int) (A0_1 : Option Addr) (c0_1 : Nat) (l0_1 : List Int) (A0_2 : Option Addr) (c0_2 : Nat) (l0_2 : List S126) (A0_3 : Option Addr) (c0_3 : Nat) (l0_3 : List Int) (a1_0 : Int) (A1_1 : Option Addr) (c1_1 : Nat) (l1_1 : List S137) (A1_2 : Option Addr) (c1_2 : Nat) (l1_2 : List Int) (w : World) (hr0_1 : Kd.C (Kd.int .i64) w A0_1 l0_1.length l0_1) (hc0_1 : l0_1.length ≤ c0_1) (hr0_2 : Kd.C k126 w A0_2 l0_2.length l0_2) (hc0_2 : l0_2.length ≤ c0_2) (hr0_3 : Kd.C (Kd.int .i64) w A0_3 l0_3.length l0_3) (hc0_3 : l0_3.length ≤ c0_3) (hr1_1 : Kd.C k137 w A1_1 l1_1.length l1_1) (hc1_1 : l1_1.length ≤ c1_1) (hr1_2 : Kd.C (Kd.int .i64) w A1_2 l1_2.length l1_2) (hc1_2 : l1_2.length ≤ c1_2) (q_0 : (Lit.int .i64 a0_0).wf = true) (q_1 : l0_1.length ≤ maxLen) (q_2 : (∀ y ∈ l0_1, (Lit.int .i64 y).wf = true)) (q_3 : l0_2.length ≤ maxLen) (q_4 : (∀ y ∈ l0_2, (Lit.int .i64 y.f0).wf = true ∧ (Lit.int .i64 y.f1).wf = true ∧ (Lit.int .i64 y.f2).wf = true)) (q_5 : l0_3.length ≤ maxLen) (q_6 : (∀ y ∈ l0_3, (Lit.int .i64 y).wf = true)) (q_7 : (Lit.int .i64 a1_0).wf = true) (q_8 : l1_1.length ≤ maxLen) (q_9 : (∀ y ∈ l1_1, (Lit.int .i64 y.f0).wf = true ∧ (Lit.int .i64 y.f1).wf = true)) (q_10 : l1_2.length ≤ maxLen) (q_11 : (∀ y ∈ l1_2, (Lit.int .i64 y).wf = true)) :
  Calls Try.prog 6 #[.agg #[.int .i64 a0_0, .slice A0_1 l0_1.length c0_1, .slice A0_2 l0_2.length c0_2, .slice A0_3 l0_3.length c0_3], .agg #[.int .i64 a1_0, .slice A1_1 l1_1.length c1_1, .slice A1_2 l1_2.length c1_2]] w fun e w' => e = .returned (.bool true) ∧ Below w.heap.size w w' := by
 rcases P a0_0 l0_1 l0_2 l0_3 a1_0 l1_1 l1_2 q_0 q_1 q_2 q_3 q_4 q_5 q_6 q_7 q_8 q_9 q_10 q_11 with hs | ⟨s1, h0, hs, hz⟩ | ⟨s1, s2, m1, m2, m3, q2, q3, b1, b2, k, h0, h00, hs, hz, htc, htp, hsp, him, hec, hep⟩
 ·exact laws_FnExactCheckRegCode.large1 a0_0 A0_1 c0_1 l0_1 A0_2 c0_2 l0_2 A0_3 c0_3 l0_3 a1_0 A1_1 c1_1 l1_1 A1_2 c1_2 l1_2 w hr0_1 hc0_1 hr0_2 hc0_2 hr0_3 hc0_3 hr1_1 hc1_1 hr1_2 hc1_2 hs
 ·exact laws_FnExactCheckRegCode.large2 a0_0 A0_1 c0_1 l0_1 A0_2 c0_2 l0_2 A0_3 c0_3 l0_3 a1_0 A1_1 c1_1 l1_1 A1_2 c1_2 l1_2 w hr0_1 hc0_1 hr0_2 hc0_2 hr0_3 hc0_3 hr1_1 hc1_1 hr1_2 hc1_2 s1 h0 hs hz
 ·exact laws_FnExactCheckRegCode.small a0_0 A0_1 c0_1 l0_1 A0_2 c0_2 l0_2 A0_3 c0_3 l0_3 a1_0 A1_1 c1_1 l1_1 A1_2 c1_2 l1_2 w hr0_1 hc0_1 hr0_2 hc0_2 hr0_3 hc0_3 hr1_1 hc1_1 hr1_2 hc1_2 s1 s2 m1 m2 m3 q2 q3 b1 b2 k h0 h00 hs hz htc htp hsp him hec hep

end Go.Proofs.Ytpdpomjgfmdjfaa.Z
