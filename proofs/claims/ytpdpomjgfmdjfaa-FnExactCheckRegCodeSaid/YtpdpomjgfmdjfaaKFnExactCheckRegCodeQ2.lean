-- Written by a program of this session (wip/tools/stubprint.py): contracts by hand where the kit's print has none.
import Derived.Test.YtpdpomjgfmdjfaaKFnExactCheckRegCodeQ0
import Derived.Test.YtpdpomjgfmdjfaaKFnExactCheckRegCodeQ1
namespace Go.Proofs.Ytpdpomjgfmdjfaa.Z
open Go.RowKit Go.Proofs.YtpdpomjgfmdjfaaW.PrintWords Go.Proofs.YtpdpomjgfmdjfaaW.PrintLast Go.Proofs.YtpdpomjgfmdjfaaW.PrintMore
attribute [local go_sem] max2_int min2_int max_two min_two max_three min_three max_four min_four   -- for this text's walks alone
set_option linter.unusedVariables false
set_option linter.unusedSimpArgs false

/-! ### spec_plStep: function 147 -/
def spec_plStep.f (a0 : Int) (a1 : Int) : Option (Int × Int) := (spec_l1Least.f a0 a1).bind fun t158 => ((spec_l1Most.f a0 a1).bind fun t159 => (some (t158, t159)))
set_option maxHeartbeats 8000000 in
set_option maxRecDepth 100000 in
theorem spec_plStep.calls (a0 : Int) (a1 : Int) (r1 : Int) (r2 : Int) (w : World) (h : spec_plStep.f a0 a1 = some (r1, r2)) :
  Calls Try.prog 147 #[.int .i64 a0, .int .i64 a1] w fun e w' => e = .returned (.agg #[.int .i64 r1, .int .i64 r2]) ∧ Below w.heap.size w w' := by
 have hu117 := Try.underlying117
 have HB := Aside0.mk (Below.refl w.heap.size w)
 have H : ((spec_l1Least.f a0 a1).bind fun t158 => ((spec_l1Most.f a0 a1).bind fun t159 => (some (t158, t159)))) = some (r1, r2) := h
 clear h
 replace H := Option.bind_eq_some_iff.mp H
 obtain ⟨t158, A30, H⟩ := H
 replace H : ((spec_l1Most.f a0 a1).bind fun t159 => (some (t158, t159))) = some (r1, r2) := H
 have A3 := Aside0.mk A30
 clear A30
 replace H := Option.bind_eq_some_iff.mp H
 obtain ⟨t159, A40, H⟩ := H
 replace H : (some (t158, t159)) = some (r1, r2) := H
 have A4 := Aside0.mk A40
 clear A40
 simp only [Option.some.injEq, Prod.mk.injEq] at H
 obtain ⟨rfl, rfl⟩ := H
 go_enter Try.func147, Try.ntmps147
 go_wp2_with (first | ((with_reducible refine zaf (N := 4) rfl ?_); refine zad ?hg (N := 4) ?hd (cs := #[.int .i64 0, .int .i64 0]) (t := 117) ?hr ?_; (case hd => rfl); (case hg => rfl); (case hr => first | (go_simp; done) | (go_simp; rfl)); intro gb157 hg w5 hbox hb; have n0_ := Aside0.mk (za8 bw_ hb); have n1_ := Aside0.mk (hbox); have n2_ := Aside0.mk ((by rw [hg]; exact (za6 bw_) : w.heap.size ≤ gb157)); have n3_ := Aside0.mk ((by rw [hg]; exact (za6 bw_) : w.heap.size ≤ gb157)); clear HB; have HB := n0_; have BK157 := n1_; have GW157 := n2_; have GE157 := n3_; clear n0_ n1_ n2_ n3_; clear hb hbox hg) | ((with_reducible refine zah (f := 177) rfl ?_); refine zaz (some 7) rfl rfl Try.func177 (by kernel_rfl) rfl #[.int .i64 a0, .int .i64 a1] rfl (by (try simp only [List.map_toArray, List.map_cons, List.map_nil]); first | done | rfl | (simp only [List.length_drop, List.length_take]; rfl)) ?_; (with_reducible refine (spec_l1Least.calls a0 a1 t158 _ A3.out).mono ?_); rintro e w' ⟨rfl, ⟨nd, rfl⟩⟩; refine ⟨_, rfl, ?_⟩; (try (rw [drewN_self w5]; generalize hq_ : World.drewN w5 _ = w5; have n0_ : Aside0 (w5.heap[gb157]? = some (.cells #[.int .i64 0, .int .i64 0] 117 (0, 0))) := ⟨by rw [← hq_]; exact (by (with_reducible repeat (first | refine za3 ?_ _ | refine za4 ?_ | refine za2 ?_ _)); exact BK157.out)⟩; have n1_ : Aside0 (Below w.heap.size w w5) := ⟨by rw [← hq_]; exact bw_⟩; clear BK157 HB hq_; have BK157 := n0_; have HB := n1_; clear n0_ n1_))) | ((with_reducible refine zah (f := 146) rfl ?_); refine zaz (some 10) rfl rfl Try.func146 (by kernel_rfl) rfl #[.int .i64 a0, .int .i64 a1] rfl (by (try simp only [List.map_toArray, List.map_cons, List.map_nil]); first | done | rfl | (simp only [List.length_drop, List.length_take]; rfl)) ?_; (with_reducible refine (spec_l1Most.calls a0 a1 t159 _ A4.out).mono ?_); rintro e w' ⟨rfl, ⟨nd, rfl⟩⟩; refine ⟨_, rfl, ?_⟩; (try (rw [drewN_self w5]; generalize hq_ : World.drewN w5 _ = w5; have n0_ : Aside0 (w5.heap[gb157]? = some (.cells #[.int .i64 0, .int .i64 0] 117 (0, 0))) := ⟨by rw [← hq_]; exact (by (with_reducible repeat (first | refine za3 ?_ _ | refine za4 ?_ | refine za2 ?_ _)); exact BK157.out)⟩; have n1_ : Aside0 (Below w.heap.size w w5) := ⟨by rw [← hq_]; exact bw_⟩; clear BK157 HB hq_; have BK157 := n0_; have HB := n1_; clear n0_ n1_)); have hcz6_0 : w5.cell? ⟨gb157, 0, none⟩ = some (.int .i64 0) := (za1 BK157.out 0).trans rfl; have hcz6_1 : w5.cell? ⟨gb157, 1, none⟩ = some (.int .i64 0) := (za1 BK157.out 1).trans rfl; have hfz6_0 := za0 BK157.out 0; have hfz6_1 := za0 BK157.out 1))
 refine bodyPost_ret (results_cell_row rfl _ _ gb157 117 #[.int .i64 t158, .int .i64 t159] (0, 0) _ rfl (by (with_reducible repeat (first | refine za3 ?_ _ | refine za4 ?_ | refine za2 ?_ _)); refine zao (cs := #[.int .i64 t158, .int .i64 0]) ?_ 1 _ rfl; (with_reducible repeat (first | refine za3 ?_ _ | refine za4 ?_ | refine za2 ?_ _)); refine zao (cs := #[.int .i64 0, .int .i64 0]) ?_ 0 _ rfl; (with_reducible repeat (first | refine za3 ?_ _ | refine za4 ?_ | refine za2 ?_ _)); exact BK157.out) Try.underlying117 rfl (by kernel_rfl)) rfl ?_
 exact ⟨by first | rfl | (simp [zab, zaa] <;> rfl) | (simp [*, zab, zaa] <;> rfl), bw_⟩

/-! ### spec_reValues: function 129 -/
mutual
def spec_reValues.l0 : Nat → Int → List Int → Int → Int → List Int → List (S80) → List Int → Option (List Int × (List (S117)) × Bool)
 | 0, _, _, _, _, _, _, _ => none
 | k + 1, x1, x7, x8, x161000, x161001, x161002, x161003 => if x8 < x161000 then (if x7.length < 17592186044416 then (spec_reValues.l0 k x1 (x7 ++ [(-1)]) (wrap64 (x8 + 1)) x161000 x161001 x161002 x161003) else (none)) else (spec_reValues.l1 k x1 x7 x161001 (x161001.length : Int) 0 x161000 x161001 x161002 x161003)
def spec_reValues.l1 : Nat → Int → List Int → List Int → Int → Int → Int → List Int → List (S80) → List Int → Option (List Int × (List (S117)) × Bool)
 | 0, _, _, _, _, _, _, _, _, _ => none
 | k + 1, x1, x7, x24, x25, x26, x161000, x161001, x161002, x161003 => if x26 < x25 then (if 0 ≤ x26 then (if x26 < (x24.length : Int) then (if 0 ≤ (rd x24 x26) then (if (rd x24 x26) < (x7.length : Int) then (spec_reValues.l1 k x1 (x7.set ((rd x24 x26) : Int).toNat x26) x24 x25 (wrap64 (x26 + 1)) x161000 x161001 x161002 x161003) else (none)) else (none)) else (none)) else (none)) else (if 0 ≤ x1 then (if x1 ≤ (x161002.length : Int) then ((some (x161002.take (x1 : Int).toNat : List (S80))).bind fun y166 => (spec_reValues.l2 k x7 ([] : List (S117)) y166 (y166.length : Int) 0 x161000 x161001 x161002 x161003)) else (none)) else (none))
def spec_reValues.l2 : Nat → List Int → List (S117) → List (S80) → Int → Int → Int → List Int → List (S80) → List Int → Option (List Int × (List (S117)) × Bool)
 | 0, _, _, _, _, _, _, _, _, _ => none
 | k + 1, x7, x11, x39, x40, x41, x161000, x161001, x161002, x161003 => if x41 < x40 then (if 0 ≤ x41 then (if x41 < (x39.length : Int) then (if 0 ≤ ((zae x39 x41).f1) then (if ((zae x39 x41).f1) < (x7.length : Int) then (if (rd x7 ((zae x39 x41).f1)) < 0 then (some (([] : List Int), ([] : List (S117)), false)) else (if 0 ≤ ((zae x39 x41).f2) then (if ((zae x39 x41).f2) < (x7.length : Int) then (if (rd x7 ((zae x39 x41).f2)) < 0 then (some (([] : List Int), ([] : List (S117)), false)) else ((spec_plStep.f (rd x7 ((zae x39 x41).f1)) (rd x7 ((zae x39 x41).f2))).bind fun bt176 => (if x11.length < 8796093022208 then ((some (x11 ++ [(⟨bt176.1, bt176.2⟩ : S117)] : List (S117))).bind fun y178 => (if 0 ≤ ((zae x39 x41).f0) then (if ((zae x39 x41).f0) < (x7.length : Int) then (spec_reValues.l2 k (x7.set (((zae x39 x41).f0) : Int).toNat (wrap64 ((wrap64 ((x161001.length : Int) + (y178.length : Int))) - 1))) y178 x39 x40 (wrap64 (x41 + 1)) x161000 x161001 x161002 x161003) else (none)) else (none))) else (none)))) else (none)) else (none))) else (none)) else (none)) else (none)) else (none)) else (some (x7, x11, true))
end
def spec_reValues.f (k : Nat) (a0_0 : Int) (l0_1 : List Int) (l0_2 : List (S80)) (l0_3 : List Int) (a1 : Int) : Option (List Int × (List (S117)) × Bool) := spec_reValues.l0 k a1 ([] : List Int) 0 a0_0 l0_1 l0_2 l0_3
theorem spec_reValues.zb5 : ∀ k, (∀ y0 y1 y2 y3 y4 y5 y6, LeO (spec_reValues.l0 k y0 y1 y2 y3 y4 y5 y6) (spec_reValues.l0 (k + 1) y0 y1 y2 y3 y4 y5 y6)) ∧ (∀ y0 y1 y2 y3 y4 y5 y6 y7 y8, LeO (spec_reValues.l1 k y0 y1 y2 y3 y4 y5 y6 y7 y8) (spec_reValues.l1 (k + 1) y0 y1 y2 y3 y4 y5 y6 y7 y8)) ∧ (∀ y0 y1 y2 y3 y4 y5 y6 y7 y8, LeO (spec_reValues.l2 k y0 y1 y2 y3 y4 y5 y6 y7 y8) (spec_reValues.l2 (k + 1) y0 y1 y2 y3 y4 y5 y6 y7 y8))
 | 0 => ⟨fun _ _ _ _ _ _ _ r h => by simp [spec_reValues.l0] at h, fun _ _ _ _ _ _ _ _ _ r h => by simp [spec_reValues.l1] at h, fun _ _ _ _ _ _ _ _ _ r h => by simp [spec_reValues.l2] at h⟩
 | k + 1 => by
  obtain ⟨ih0, ih1, ih2⟩ := spec_reValues.zb5 k
  refine ⟨?_, ?_, ?_⟩
  ·intro y0 y1 y2 y3 y4 y5 y6
   unfold spec_reValues.l0
   repeat' first
   | (with_reducible exact ih0 _ _ _ _ _ _ _)
   | (with_reducible exact ih1 _ _ _ _ _ _ _ _ _)
   | (with_reducible exact ih2 _ _ _ _ _ _ _ _ _)
   | (with_reducible exact LeO.refl _)
   | (with_reducible exact LeO.none _)
   | (with_reducible refine LeO.ite ?_ ?_)
   | (with_reducible refine LeO.bind ?_ (fun _ => ?_))
   | exact ih0 _ _ _ _ _ _ _
   | exact ih1 _ _ _ _ _ _ _ _ _
   | exact ih2 _ _ _ _ _ _ _ _ _
   | exact LeO.none _
   | refine LeO.ite ?_ ?_
   | refine LeO.bind ?_ (fun _ => ?_)
  ·intro y0 y1 y2 y3 y4 y5 y6 y7 y8
   unfold spec_reValues.l1
   repeat' first
   | (with_reducible exact ih0 _ _ _ _ _ _ _)
   | (with_reducible exact ih1 _ _ _ _ _ _ _ _ _)
   | (with_reducible exact ih2 _ _ _ _ _ _ _ _ _)
   | (with_reducible exact LeO.refl _)
   | (with_reducible exact LeO.none _)
   | (with_reducible refine LeO.ite ?_ ?_)
   | (with_reducible refine LeO.bind ?_ (fun _ => ?_))
   | exact ih0 _ _ _ _ _ _ _
   | exact ih1 _ _ _ _ _ _ _ _ _
   | exact ih2 _ _ _ _ _ _ _ _ _
   | exact LeO.none _
   | refine LeO.ite ?_ ?_
   | refine LeO.bind ?_ (fun _ => ?_)
  ·intro y0 y1 y2 y3 y4 y5 y6 y7 y8
   unfold spec_reValues.l2
   repeat' first
   | (with_reducible exact ih0 _ _ _ _ _ _ _)
   | (with_reducible exact ih1 _ _ _ _ _ _ _ _ _)
   | (with_reducible exact ih2 _ _ _ _ _ _ _ _ _)
   | (with_reducible exact LeO.refl _)
   | (with_reducible exact LeO.none _)
   | (with_reducible refine LeO.ite ?_ ?_)
   | (with_reducible refine LeO.bind ?_ (fun _ => ?_))
   | exact ih0 _ _ _ _ _ _ _
   | exact ih1 _ _ _ _ _ _ _ _ _
   | exact ih2 _ _ _ _ _ _ _ _ _
   | exact LeO.none _
   | refine LeO.ite ?_ ?_
   | refine LeO.bind ?_ (fun _ => ?_)
theorem spec_reValues.mono : ∀ a0 a1 a2 a3 a4 k, LeO (spec_reValues.f k a0 a1 a2 a3 a4) (spec_reValues.f (k + 1) a0 a1 a2 a3 a4) := by
 intro a0 a1 a2 a3 a4 k
 obtain ⟨ih0, ih1, ih2⟩ := spec_reValues.zb5 k
 unfold spec_reValues.f
 repeat' first
   | (with_reducible exact ih0 _ _ _ _ _ _ _)
   | (with_reducible exact ih1 _ _ _ _ _ _ _ _ _)
   | (with_reducible exact ih2 _ _ _ _ _ _ _ _ _)
   | (with_reducible exact LeO.refl _)
   | (with_reducible exact LeO.none _)
   | (with_reducible refine LeO.ite ?_ ?_)
   | (with_reducible refine LeO.bind ?_ (fun _ => ?_))
   | exact ih0 _ _ _ _ _ _ _
   | exact ih1 _ _ _ _ _ _ _ _ _
   | exact ih2 _ _ _ _ _ _ _ _ _
   | exact LeO.none _
   | refine LeO.ite ?_ ?_
   | refine LeO.bind ?_ (fun _ => ?_)
def spec_reValues.T17 : Bool × List (List Nat × List Nat) := (true, [([], []), ([], []), ([], []), ([2], [2]), ([1, 3], [1, 3]), ([4], [4]), ([], []), ([], []), ([7], [7]), ([6, 8], [6, 8]), ([9], [9]), ([5, 10], [5, 10]), ([11], [11]), ([0, 12, 11], [0, 12]), ([13, 13, 0, 1, 2, 3, 4, 5, 6, 7, 8, 9, 10, 11, 12, 13], [0, 13])])
def spec_reValues.B17 : List Nat := [0, 0, 0, 4, 14, 30, 0, 0, 128, 448, 960, 2046, 4094, 8191, 16383]
theorem spec_reValues.tab17 : rtab .any (opsOf Try.f129 17) = spec_reValues.T17 := by kernel_rfl
theorem spec_reValues.bits17 : waitsOk spec_reValues.T17.2 spec_reValues.B17 = true := by kernel_rfl
set_option maxHeartbeats 8000000 in
set_option maxRecDepth 100000 in
theorem spec_reValues.calls (k : Nat) (a0_0 : Int) (A0_1 : Option Addr) (c0_1 : Nat) (l0_1 : List Int) (A0_2 : Option Addr) (c0_2 : Nat) (l0_2 : List (S80)) (A0_3 : Option Addr) (c0_3 : Nat) (l0_3 : List Int) (a1 : Int) (r1 : List Int) (r2 : List (S117)) (r3 : Bool) (w : World) (hr0_1 : Kd.C (Kd.int .i64) w A0_1 l0_1.length l0_1) (hc0_1 : l0_1.length ≤ c0_1) (hr0_2 : Kd.C k80 w A0_2 l0_2.length l0_2) (hc0_2 : l0_2.length ≤ c0_2) (hr0_3 : Kd.C (Kd.int .i64) w A0_3 l0_3.length l0_3) (hc0_3 : l0_3.length ≤ c0_3) (h : spec_reValues.f k a0_0 l0_1 l0_2 l0_3 a1 = some (r1, r2, r3)) :
  Calls Try.prog 129 #[.agg #[.int .i64 a0_0, .slice A0_1 l0_1.length c0_1, .slice A0_2 l0_2.length c0_2, .slice A0_3 l0_3.length c0_3], .int .i64 a1] w fun e w' => ∃ v0_ v1_ : Value, e = .returned (.tuple #[v0_, v1_, .bool r3]) ∧ Kd.R (Kd.int .i64) 3 w' w.heap.size (fun _ => True) v0_ r1 ∧ Kd.R k117 117 w' w.heap.size (fun _ => True) v1_ r2 ∧ Below w.heap.size w w' := by
 have hu30 := Try.underlying30
 have hu80 := Try.underlying80
 have HR0_1 := Aside0.mk hr0_1
 have HC0_1 := Aside0.mk hc0_1
 clear hr0_1 hc0_1
 have HR0_2 := Aside0.mk hr0_2
 have HC0_2 := Aside0.mk hc0_2
 clear hr0_2 hc0_2
 have HR0_3 := Aside0.mk hr0_3
 have HC0_3 := Aside0.mk hc0_3
 clear hr0_3 hc0_3
 have HB := Aside0.mk (Below.refl w.heap.size w)
 have H : (spec_reValues.l0 k a1 ([] : List Int) 0 a0_0 l0_1 l0_2 l0_3) = some (r1, r2, r3) := h
 clear h
 have H' := Aside0.mk H
 clear H
 go_enter Try.func129, Try.ntmps129
 go_wp2_with (first | ((with_reducible refine zaf (N := 2) rfl ?_); refine zad ?hg (N := 2) ?hd (cs := #[.int .i64 a0_0, .slice A0_1 l0_1.length c0_1, .slice A0_2 l0_2.length c0_2, .slice A0_3 l0_3.length c0_3]) (t := 30) ?hr ?_; (case hd => rfl); (case hg => rfl); (case hr => first | (go_simp; done) | (go_simp; rfl)); intro gb160 hg w3 hbox hb; have n0_ := Aside0.mk (za8 bw_ hb); have n1_ := Aside0.mk (hbox); have n2_ := Aside0.mk ((by rw [hg]; exact (za6 bw_) : w.heap.size ≤ gb160)); have n3_ := Aside0.mk ((by rw [hg]; exact (za6 bw_) : w.heap.size ≤ gb160)); clear HB; have HB := n0_; have BK160 := n1_; have GW160 := n2_; have GE160 := n3_; clear n0_ n1_ n2_ n3_; clear hb hbox hg))
 go_loopg [7, 8] k (fun kq v7 v8 w' => ∃ (x7_1 : List Int) (x8_1 : Int), v8 = .int .i64 x8_1 ∧ Aside0 (spec_reValues.l0 kq a1 x7_1 x8_1 a0_0 l0_1 l0_2 l0_3 = some (r1, r2, r3)) ∧ Aside0 (kq ≤ k) ∧ Aside0 (Kd.R (Kd.int .i64) 3 w' w.heap.size (fun _ => True) v7 x7_1) ∧ Aside0 (w'.heap[gb160]? = some (.cells #[.int .i64 a0_0, (.slice A0_1 l0_1.length c0_1), (.slice A0_2 l0_2.length c0_2), (.slice A0_3 l0_3.length c0_3)] 30 (0, 0))) ∧ Aside0 (Below w.heap.size w w'))
 case atStart => exact ⟨(([] : List Int)), (0), (by first | rfl | (simp; done) | (simp [*]; done)), H', ⟨Nat.le_refl _⟩, ⟨by first | exact Kd.R_nil _ _ _ _ _ | exact Kd.N_nil _ _ _ _ _ | exact Kd.V_nil _ _ _ _ _ | exact Kd.Q_nil _ _ _ _ _ | exact Kd.S_nil _ _ _ _ _⟩, ⟨by (with_reducible repeat (first | refine za3 ?_ _ | refine za4 ?_ | refine za2 ?_ _)); exact BK160.out⟩, ⟨bw_⟩⟩
 case round =>
  clear H'
  try clear c1
  try clear p2
  obtain ⟨x7_1, x8_1, rfl, HA, HK1, HO_7, BK160, HB⟩ := hrel
  cases gk with
  | zero => exact absurd HA.out (by simp [spec_reValues.l0])
  | succ k1 =>
   have H := HA.out
   clear HA
   simp only [spec_reValues.l0] at H
   by_cases c4 : x8_1 < a0_0
   ·rw [if_pos c4] at H
    have c4b0 : decide (x8_1 < a0_0) = true := decide_eq_true c4
    clear c4
    by_cases c5 : x7_1.length < 17592186044416
    ·rw [if_pos c5] at H
     have LMc5 := Aside0.mk c5
     clear c5
     obtain ⟨y161, hy161⟩ : ∃ y_ : List Int, y_ = (x7_1 ++ [(-1)]) := ⟨_, rfl⟩
     replace H : (spec_reValues.l0 k1 a1 y161 (wrap64 (x8_1 + 1)) a0_0 l0_1 l0_2 l0_3) = some (r1, r2, r3) := by first | (rw [hy161]; with_reducible exact H) | (have H2_ := (Option.bind_some _ _).symm.trans H; rw [hy161]; with_reducible exact H2_) | (have H2_ := (Option.bind_some _ _).symm.trans H; with_reducible exact H2_) | with_reducible exact H | (rw [hy161]; exact H) | exact H
     have Ny161 := Aside0.mk hy161
     clear hy161
     have H' := Aside0.mk H
     clear H
     have hcz6_0 : wr.cell? ⟨gb160, 0, none⟩ = some (.int .i64 a0_0) := (za1 BK160.out 0).trans rfl
     have hcz6_1 : wr.cell? ⟨gb160, 1, none⟩ = some (.slice A0_1 l0_1.length c0_1) := (za1 BK160.out 1).trans rfl
     have hcz6_2 : wr.cell? ⟨gb160, 2, none⟩ = some (.slice A0_2 l0_2.length c0_2) := (za1 BK160.out 2).trans rfl
     have hcz6_3 : wr.cell? ⟨gb160, 3, none⟩ = some (.slice A0_3 l0_3.length c0_3) := (za1 BK160.out 3).trans rfl
     have hfz6_0 := za0 BK160.out 0
     have hfz6_1 := za0 BK160.out 1
     have hfz6_2 := za0 BK160.out 2
     have hfz6_3 := za0 BK160.out 3
     go_wp2_with (first | ((with_reducible refine gate_builtin (b := .append) (xs := #[.tmp 20, .tmp 21]) rfl ?_); at_builtin; refine Kd.R_append (Kd.int .i64) (w0 := w) w.heap.size rfl (.tmp 20) (.tmp 21) 22 3 (.int .i64 0) 8 rfl Try.underlying22 info3 rfl (by decide) (by omega) u7 x7_1 (-1) [.int .i64 (-1)] (fun _ => True) (fun _ => False) rfl rfl ?aP (fun _ hk => hk.elim) ?aF ?aO ?aB ?aS ?aL ?_; (case aP => exact rfl); (case aB => exact bw_); (case aF => exact (fun _ _ => trivial)); (case aO => exact (by (with_reducible repeat (first | apply Kd.zaj | apply Kd.zak | apply Kd.zam)); exact HO_7.out)); (case aS => exact (za6 bw_)); (case aL => have := LMc5.out; omega); intro v162 w7 ho hb hg hat; rw [← Ny161.out] at ho; have n0_ := Aside0.mk (blk_grown (g := gb160) (o := .cells #[.int .i64 a0_0, .slice A0_1 l0_1.length c0_1, .slice A0_2 l0_2.length c0_2, .slice A0_3 l0_3.length c0_3] 30 (0, 0)) (by (with_reducible repeat (first | refine za3 ?_ _ | refine za4 ?_ | refine za2 ?_ _)); exact BK160.out) hg (Kd.R_ne HO_7.out BK160.out (by decide))); have n1_ := Aside0.mk (hb); have n2_ := Aside0.mk (ho); clear BK160; clear HB; clear HO_7; have BK160 := n0_; have HB := n1_; have HO163 := n2_; clear n0_ n1_ n2_; clear ho hb hg hat))
     go_roundg k1
     case measure => have := HK1.out; omega
     case rel => exact ⟨(y161), (wrap64 (x8_1 + 1)), (by first | rfl | (simp; done) | (simp [*]; done)), H', ⟨by have := HK1.out; omega⟩, ⟨by (with_reducible repeat (first | apply Kd.zaj | apply Kd.zak | apply Kd.zam)); exact HO163.out⟩, ⟨by (with_reducible repeat (first | refine za3 ?_ _ | refine za4 ?_ | refine za2 ?_ _)); exact BK160.out⟩, ⟨bw_⟩⟩
    ·rw [if_neg c5] at H
     exact absurd H (by simp)
   ·rw [if_neg c4] at H
    have c4b0 : decide (x8_1 < a0_0) = false := decide_eq_false c4
    clear c4
    have H' := Aside0.mk H
    clear H
    have hcz8_0 : wr.cell? ⟨gb160, 0, none⟩ = some (.int .i64 a0_0) := (za1 BK160.out 0).trans rfl
    have hcz8_1 : wr.cell? ⟨gb160, 1, none⟩ = some (.slice A0_1 l0_1.length c0_1) := (za1 BK160.out 1).trans rfl
    have hcz8_2 : wr.cell? ⟨gb160, 2, none⟩ = some (.slice A0_2 l0_2.length c0_2) := (za1 BK160.out 2).trans rfl
    have hcz8_3 : wr.cell? ⟨gb160, 3, none⟩ = some (.slice A0_3 l0_3.length c0_3) := (za1 BK160.out 3).trans rfl
    have hfz8_0 := za0 BK160.out 0
    have hfz8_1 := za0 BK160.out 1
    have hfz8_2 := za0 BK160.out 2
    have hfz8_3 := za0 BK160.out 3
    go_wp2
    go_loopg [26] k1 (fun kq v26 w' => ∃ (x7_2 : List Int) (x26_2 : Int), v26 = .int .i64 x26_2 ∧ Aside0 (spec_reValues.l1 kq a1 x7_2 l0_1 (l0_1.length : Int) x26_2 a0_0 l0_1 l0_2 l0_3 = some (r1, r2, r3)) ∧ Aside0 (kq ≤ k1) ∧ Aside0 (Kd.R (Kd.int .i64) 3 w' w.heap.size (fun _ => True) u7 x7_2) ∧ Aside0 (w'.heap[gb160]? = some (.cells #[.int .i64 a0_0, (.slice A0_1 l0_1.length c0_1), (.slice A0_2 l0_2.length c0_2), (.slice A0_3 l0_3.length c0_3)] 30 (0, 0))) ∧ Aside0 (Below w.heap.size w w'))
    case atStart => exact ⟨(x7_1), (0), (by first | rfl | (simp; done) | (simp [*]; done)), H', ⟨Nat.le_refl _⟩, ⟨by (with_reducible repeat (first | apply Kd.zaj | apply Kd.zak | apply Kd.zam)); exact HO_7.out⟩, ⟨by (with_reducible repeat (first | refine za3 ?_ _ | refine za4 ?_ | refine za2 ?_ _)); exact BK160.out⟩, ⟨bw_⟩⟩
    case round =>
     clear H'
     try clear c1
     try clear p2
     try clear c4
     try clear c4b0
     try clear c5
     try clear p6
     try clear hcz6_0
     try clear hcz6_1
     try clear hcz6_2
     try clear hcz6_3
     try clear hcz8_0
     try clear hcz8_1
     try clear hcz8_2
     try clear hcz8_3
     try clear hfz6_0
     try clear hfz6_1
     try clear hfz6_2
     try clear hfz6_3
     try clear hfz8_0
     try clear hfz8_1
     try clear hfz8_2
     try clear hfz8_3
     try clear p2
     obtain ⟨x7_2, x26_2, rfl, HA, HK2, HO_7, BK160, HB⟩ := hrel
     cases gk with
     | zero => exact absurd HA.out (by simp [spec_reValues.l1])
     | succ k2 =>
      have H := HA.out
      clear HA
      simp only [spec_reValues.l1] at H
      by_cases c9 : x26_2 < (l0_1.length : Int)
      ·rw [if_pos c9] at H
       have c9b0 : decide (x26_2 < (l0_1.length : Int)) = true := decide_eq_true c9
       clear c9
       by_cases c10 : 0 ≤ x26_2
       ·rw [if_pos c10] at H
        have c10b0 : decide (0 ≤ x26_2) = true := decide_eq_true c10
        clear c10
        by_cases c11 : x26_2 < (l0_1.length : Int)
        ·rw [if_pos c11] at H
         have c11b0 : decide (x26_2 < (l0_1.length : Int)) = true := decide_eq_true c11
         clear c11
         by_cases c12 : 0 ≤ (rd l0_1 x26_2)
         ·rw [if_pos c12] at H
          have c12b0 : decide (0 ≤ (rd l0_1 x26_2)) = true := decide_eq_true c12
          clear c12
          by_cases c13 : (rd l0_1 x26_2) < (x7_2.length : Int)
          ·rw [if_pos c13] at H
           have c13b0 : decide ((rd l0_1 x26_2) < (x7_2.length : Int)) = true := decide_eq_true c13
           clear c13
           obtain ⟨y165, hy165⟩ : ∃ y_ : List Int, y_ = (x7_2.set ((rd l0_1 x26_2) : Int).toNat x26_2) := ⟨_, rfl⟩
           replace H : (spec_reValues.l1 k2 a1 y165 l0_1 (l0_1.length : Int) (wrap64 (x26_2 + 1)) a0_0 l0_1 l0_2 l0_3) = some (r1, r2, r3) := by first | (rw [hy165]; with_reducible exact H) | (have H2_ := (Option.bind_some _ _).symm.trans H; rw [hy165]; with_reducible exact H2_) | (have H2_ := (Option.bind_some _ _).symm.trans H; with_reducible exact H2_) | with_reducible exact H | (rw [hy165]; exact H) | exact H
           have Ny165 := Aside0.mk hy165
           clear hy165
           have H' := Aside0.mk H
           clear H
           have p164 : 0 ≤ (x26_2 : Int) := of_decide_eq_true (by first | (with_reducible assumption) | assumption)
           have q164 : x26_2 < (l0_1.length : Int) := of_decide_eq_true (by first | (with_reducible assumption) | assumption)
           obtain ⟨ad164, e164, hx164_0⟩ := Kd.at_int HR0_1.out x26_2 p164 q164
           cases e164
           replace hx164_0 := (HB.out.cell (World.block_lt_of_cell? w _ hx164_0)).trans hx164_0
           replace p164 := eq_true p164
           replace q164 := eq_true q164
           have p14 : 0 ≤ ((rd l0_1 x26_2) : Int) := of_decide_eq_true (by first | (with_reducible assumption) | assumption)
           have q14 : ((rd l0_1 x26_2) : Int) < ((x7_2.length : Int) : Int) := of_decide_eq_true (by first | (with_reducible assumption) | assumption)
           obtain ⟨go14, co14, eo14, gb14, gl14, cl14, HG14⟩ := Kd.R_form HO_7.out (by omega)
           (first | cases eo14 | (injection eo14 with ea_ en_ ec_; (first | subst ea_ | (injection ea_ with ea_; subst ea_)); subst ec_; clear en_))
           have GB14 := Aside0.mk gb14
           have GG14 := Aside0.mk HG14
           clear gb14 gl14 HG14
           obtain ⟨hx14_0, hf14_0⟩ := Kd.R_celln 0 HO_7.out ((rd l0_1 x26_2) : Int) p14 q14
           replace p14 := eq_true p14
           replace q14 := eq_true q14
           have HP15 := Kd.R_putg HO_7.out ((rd l0_1 x26_2) : Int) x26_2
           go_wp2_with (first | ((with_reducible refine gate_store (t := 3) (p := 34) rfl ?_); refine store_event (t := 3) (p := 34) (v := ?vo_w16) (w1 := (wr.setCell ⟨go14, ((rd l0_1 x26_2) : Int).toNat, none⟩ (.int .i64 x26_2))) ?hg ?ho ?hn ?hr ?_; (case ho => rfl); (case hg => rfl); (case hn => rfl); (case hr => first | (go_simp; done) | (go_simp; rfl)); intro w16 hw; have hg : wr.grownBy w16 (some go14) := (by rw [hw]; exact HP15.2); have hp_ : Kd.R (Kd.int .i64) 3 w16 w.heap.size (fun _ => True) (.slice (some ⟨go14, 0, none⟩) x7_2.length co14) y165 := (by rw [hw, Ny165.out]; exact HP15.1); clear HP15; have n0_ := Aside0.mk (hp_); have n1_ := Aside0.mk (blk_grown (g := gb160) (o := .cells #[.int .i64 a0_0, .slice (some ad164) l0_1.length c0_1, .slice A0_2 l0_2.length c0_2, .slice A0_3 l0_3.length c0_3] 30 (0, 0)) (by (with_reducible repeat (first | refine za3 ?_ _ | refine za4 ?_ | refine za2 ?_ _)); exact BK160.out) hg (Kd.R_ne HO_7.out BK160.out (by decide))); have n2_ := Aside0.mk ((by rw [hw]; exact below_set (HB.out) GB14.out : Below w.heap.size w w16)); clear HO_7; clear BK160; clear HB; have HO_7 := n0_; have BK160 := n1_; have HB := n2_; clear n0_ n1_ n2_; clear hg hw hp_))
           go_roundg k2
           case measure => have := HK1.out; have := HK2.out; omega
           case rel => exact ⟨(y165), (wrap64 (x26_2 + 1)), (by first | rfl | (simp; done) | (simp [*]; done)), H', ⟨by have := HK1.out; have := HK2.out; omega⟩, ⟨by (with_reducible repeat (first | apply Kd.zaj | apply Kd.zak | apply Kd.zam)); exact HO_7.out⟩, ⟨by (with_reducible repeat (first | refine za3 ?_ _ | refine za4 ?_ | refine za2 ?_ _)); exact BK160.out⟩, ⟨bw_⟩⟩
          ·rw [if_neg c13] at H
           exact absurd H (by simp)
         ·rw [if_neg c12] at H
          exact absurd H (by simp)
        ·rw [if_neg c11] at H
         exact absurd H (by simp)
       ·rw [if_neg c10] at H
        exact absurd H (by simp)
      ·rw [if_neg c9] at H
       have c9b0 : decide (x26_2 < (l0_1.length : Int)) = false := decide_eq_false c9
       clear c9
       by_cases c17 : 0 ≤ a1
       ·rw [if_pos c17] at H
        have c17b0 := eq_true c17
        have c17b1 : decide (0 ≤ a1) = true := decide_eq_true c17
        clear c17
        by_cases c18 : a1 ≤ (l0_2.length : Int)
        ·rw [if_pos c18] at H
         have c18b0 := eq_true c18
         have c18b1 : decide (a1 ≤ (l0_2.length : Int)) = true := decide_eq_true c18
         clear c18
         obtain ⟨y166, hy166⟩ : ∃ y_ : List (S80), y_ = (l0_2.take (a1 : Int).toNat) := ⟨_, rfl⟩
         replace H : (spec_reValues.l2 k2 x7_2 ([] : List (S117)) y166 (y166.length : Int) 0 a0_0 l0_1 l0_2 l0_3) = some (r1, r2, r3) := by first | (rw [hy166]; with_reducible exact H) | (have H2_ := (Option.bind_some _ _).symm.trans H; rw [hy166]; with_reducible exact H2_) | (have H2_ := (Option.bind_some _ _).symm.trans H; with_reducible exact H2_) | with_reducible exact H | (rw [hy166]; exact H) | exact H
         have Ny166 := Aside0.mk hy166
         clear hy166
         have H' := Aside0.mk H
         clear H
         have hcz19_0 : wr.cell? ⟨gb160, 0, none⟩ = some (.int .i64 a0_0) := (za1 BK160.out 0).trans rfl
         have hcz19_1 : wr.cell? ⟨gb160, 1, none⟩ = some (.slice A0_1 l0_1.length c0_1) := (za1 BK160.out 1).trans rfl
         have hcz19_2 : wr.cell? ⟨gb160, 2, none⟩ = some (.slice A0_2 l0_2.length c0_2) := (za1 BK160.out 2).trans rfl
         have hcz19_3 : wr.cell? ⟨gb160, 3, none⟩ = some (.slice A0_3 l0_3.length c0_3) := (za1 BK160.out 3).trans rfl
         have hfz19_0 := za0 BK160.out 0
         have hfz19_1 := za0 BK160.out 1
         have hfz19_2 := za0 BK160.out 2
         have hfz19_3 := za0 BK160.out 3
         have q20 : (a1 : Int) ≤ ((l0_2.length : Int) : Int) := of_decide_eq_true (by first | (with_reducible assumption) | assumption)
         obtain ⟨i020, hi020, _, hsz20, _⟩ := info_parts info80
         have hroom20 : l0_2.length ≤ c0_2 := HC0_2.out
         have hC20 : Kd.C k80 _ A0_2 l0_2.length l0_2 := HR0_2.out
         have hcut20 := cut_to (P := Try.prog) 28 80 .i64 Try.underlying28 hi020 A0_2 l0_2.length c0_2 a1 (of_decide_eq_true (by first | (with_reducible assumption) | assumption)) q20 hroom20
         have hr20 := Kd.C_take (m := (a1 : Int).toNat) hC20 (by omega)
         have hy20 : y166.length = (a1 : Int).toNat := (by rw [Ny166.out, List.length_take]; omega)
         rw [← Ny166.out] at hr20
         rw [← hy20] at hcut20
         have HR169 := Aside0.mk hr20
         have HC169 := Aside0.mk (show y166.length ≤ c0_2 from by omega)
         clear hr20 hC20 hroom20 hi020 hsz20
         have KY20 := Aside0.mk hy20
         clear hy20
         replace q20 := eq_true q20
         go_wp2
         go_loopg [11, 41] k2 (fun kq v11 v41 w' => ∃ (x7_3 : List Int) (x11_3 : List (S117)) (x41_3 : Int), v41 = .int .i64 x41_3 ∧ Aside0 (spec_reValues.l2 kq x7_3 x11_3 y166 (y166.length : Int) x41_3 a0_0 l0_1 l0_2 l0_3 = some (r1, r2, r3)) ∧ Aside0 (kq ≤ k2) ∧ Aside0 (Kd.R (Kd.int .i64) 3 w' w.heap.size (fun _ => True) u7 x7_3) ∧ Aside0 (Kd.R k117 117 w' w.heap.size (fun _ => True) v11 x11_3) ∧ Aside0 (w'.heap[gb160]? = some (.cells #[.int .i64 a0_0, (.slice A0_1 l0_1.length c0_1), (.slice A0_2 l0_2.length c0_2), (.slice A0_3 l0_3.length c0_3)] 30 (0, 0))) ∧ Aside0 (Below w.heap.size w w'))
         case atStart => exact ⟨(x7_2), (([] : List (S117))), (0), (by first | rfl | (simp; done) | (simp [*]; done)), H', ⟨Nat.le_refl _⟩, ⟨by (with_reducible repeat (first | apply Kd.zaj | apply Kd.zak | apply Kd.zam)); exact HO_7.out⟩, ⟨by first | exact Kd.R_nil _ _ _ _ _ | exact Kd.N_nil _ _ _ _ _ | exact Kd.V_nil _ _ _ _ _ | exact Kd.Q_nil _ _ _ _ _ | exact Kd.S_nil _ _ _ _ _⟩, ⟨by (with_reducible repeat (first | refine za3 ?_ _ | refine za4 ?_ | refine za2 ?_ _)); exact BK160.out⟩, ⟨bw_⟩⟩
         case round =>
          clear H'
          try clear c1
          try clear p1
          try clear q1
          try clear hx1
          try clear p2
          try clear q2
          try clear c4
          try clear c4b0
          try clear c5
          try clear p6
          try clear c9
          try clear c9b0
          try clear c10
          try clear c10b0
          try clear c11
          try clear c11b0
          try clear c12
          try clear c12b0
          try clear c13
          try clear c13b0
          try clear p14
          try clear q14
          try clear hx14
          try clear hf14
          try clear p16
          try clear q16
          try clear hx16
          try clear c17
          try clear c17b0
          try clear c17b1
          try clear c18
          try clear c18b0
          try clear c18b1
          try clear q20
          try clear hcz19_0
          try clear hcz19_1
          try clear hcz19_2
          try clear hcz19_3
          try clear hcz6_0
          try clear hcz6_1
          try clear hcz6_2
          try clear hcz6_3
          try clear hcz8_0
          try clear hcz8_1
          try clear hcz8_2
          try clear hcz8_3
          try clear hfz19_0
          try clear hfz19_1
          try clear hfz19_2
          try clear hfz19_3
          try clear hfz6_0
          try clear hfz6_1
          try clear hfz6_2
          try clear hfz6_3
          try clear hfz8_0
          try clear hfz8_1
          try clear hfz8_2
          try clear hfz8_3
          try clear hx14_0
          try clear hx164_0
          try clear p14
          try clear p164
          try clear p2
          try clear p6
          try clear q14
          try clear q164
          try clear q20
          obtain ⟨x7_3, x11_3, x41_3, rfl, HA, HK3, HO_7, HO_11, BK160, HB⟩ := hrel
          cases gk with
          | zero => exact absurd HA.out (by simp [spec_reValues.l2])
          | succ k3 =>
           have H := HA.out
           clear HA
           simp only [spec_reValues.l2] at H
           by_cases c21 : x41_3 < (y166.length : Int)
           ·rw [if_pos c21] at H
            have c21b0 : decide (x41_3 < (y166.length : Int)) = true := decide_eq_true c21
            clear c21
            by_cases c22 : 0 ≤ x41_3
            ·rw [if_pos c22] at H
             have c22b0 : decide (0 ≤ x41_3) = true := decide_eq_true c22
             clear c22
             by_cases c23 : x41_3 < (y166.length : Int)
             ·rw [if_pos c23] at H
              have c23b0 : decide (x41_3 < (y166.length : Int)) = true := decide_eq_true c23
              clear c23
              by_cases c24 : 0 ≤ ((zae y166 x41_3).f1)
              ·rw [if_pos c24] at H
               have c24b0 : decide (0 ≤ ((zae y166 x41_3).f1)) = true := decide_eq_true c24
               clear c24
               by_cases c25 : ((zae y166 x41_3).f1) < (x7_3.length : Int)
               ·rw [if_pos c25] at H
                have c25b0 : decide (((zae y166 x41_3).f1) < (x7_3.length : Int)) = true := decide_eq_true c25
                clear c25
                by_cases c26 : (rd x7_3 ((zae y166 x41_3).f1)) < 0
                ·rw [if_pos c26] at H
                 have c26b0 : decide ((rd x7_3 ((zae y166 x41_3).f1)) < 0) = true := decide_eq_true c26
                 clear c26
                 simp only [Option.some.injEq, Prod.mk.injEq] at H
                 obtain ⟨rfl, rfl, rfl⟩ := H
                 have p170 : 0 ≤ (x41_3 : Int) := of_decide_eq_true (by first | (with_reducible assumption) | assumption)
                 have q170 : x41_3 < (y166.length : Int) := of_decide_eq_true (by first | (with_reducible assumption) | assumption)
                 obtain ⟨ad170, e170, hx170_0, hx170_1, hx170_2⟩ := at_T80 HR169.out x41_3 p170 q170
                 cases e170
                 replace hx170_0 := (HB.out.cell (World.block_lt_of_cell? w _ hx170_0)).trans hx170_0
                 replace hx170_1 := (HB.out.cell (World.block_lt_of_cell? w _ hx170_1)).trans hx170_1
                 replace hx170_2 := (HB.out.cell (World.block_lt_of_cell? w _ hx170_2)).trans hx170_2
                 replace p170 := eq_true p170
                 replace q170 := eq_true q170
                 go_wp2_with (first | ((with_reducible refine zaf (N := 13) rfl ?_); refine zad ?hg (N := 13) ?hd (cs := #[.int .i64 0, .int .i64 0, .int .i64 0]) (t := 80) ?hr ?_; (case hd => rfl); (case hg => rfl); (case hr => first | (go_simp; done) | (go_simp; rfl)); intro gb171 hg w27 hbox hb; have n0_ := Aside0.mk (Kd.zba (by (with_reducible repeat (first | apply Kd.zaj | apply Kd.zak | apply Kd.zam)); exact HO_7.out) hb); have n1_ := Aside0.mk (Kd.zba (by (with_reducible repeat (first | apply Kd.zaj | apply Kd.zak | apply Kd.zam)); exact HO_11.out) hb); have n2_ := Aside0.mk (za7 (g := gb160) (o := .cells #[.int .i64 a0_0, .slice A0_1 l0_1.length c0_1, .slice (some ad170) l0_2.length c0_2, .slice A0_3 l0_3.length c0_3] 30 (0, 0)) (by (with_reducible repeat (first | refine za3 ?_ _ | refine za4 ?_ | refine za2 ?_ _)); exact BK160.out) hb); have n3_ := Aside0.mk (za8 bw_ hb); have n4_ := Aside0.mk (hbox); have n5_ := Aside0.mk ((by rw [hg]; exact (za6 bw_) : w.heap.size ≤ gb171)); have n6_ := Aside0.mk ((by rw [hg]; exact (za6 bw_) : w.heap.size ≤ gb171)); have n7_ := Aside0.mk ((by rw [hg]; exact Nat.ne_of_lt (zan (g := gb160) (o := .cells #[.int .i64 a0_0, .slice A0_1 l0_1.length c0_1, .slice (some ad170) l0_2.length c0_2, .slice A0_3 l0_3.length c0_3] 30 (0, 0)) (by (with_reducible repeat (first | refine za3 ?_ _ | refine za4 ?_ | refine za2 ?_ _)); exact BK160.out)) : gb160 ≠ gb171)); have n8_ := Aside0.mk ((by rw [hg]; exact Nat.ne_of_gt (zan (g := gb160) (o := .cells #[.int .i64 a0_0, .slice A0_1 l0_1.length c0_1, .slice (some ad170) l0_2.length c0_2, .slice A0_3 l0_3.length c0_3] 30 (0, 0)) (by (with_reducible repeat (first | refine za3 ?_ _ | refine za4 ?_ | refine za2 ?_ _)); exact BK160.out)) : gb171 ≠ gb160)); clear HO_7; clear HO_11; clear BK160; clear HB; have HO_7 := n0_; have HO_11 := n1_; have BK160 := n2_; have HB := n3_; have BK171 := n4_; have GW171 := n5_; have GE171 := n6_; have NB160_171 := n7_; have NB171_160 := n8_; clear n0_ n1_ n2_ n3_ n4_ n5_ n6_ n7_ n8_; clear hb hbox hg; have hnb28 := NB171_160.out; have hnc28 := NB160_171.out; have hcz29_0 : w27.cell? ⟨gb171, 0, none⟩ = some (.int .i64 0) := (za1 BK171.out 0).trans rfl; have hcz29_1 : w27.cell? ⟨gb171, 1, none⟩ = some (.int .i64 0) := (za1 BK171.out 1).trans rfl; have hcz29_2 : w27.cell? ⟨gb171, 2, none⟩ = some (.int .i64 0) := (za1 BK171.out 2).trans rfl; have hfz29_0 := za0 BK171.out 0; have hfz29_1 := za0 BK171.out 1; have hfz29_2 := za0 BK171.out 2; obtain ⟨Ao30, co30, eo30⟩ := Kd.zat HO_7.out; subst eo30; have p172 : 0 ≤ (((zae y166 x41_3).f1) : Int) := of_decide_eq_true (by first | (with_reducible assumption) | assumption); have q172 : ((zae y166 x41_3).f1) < (x7_3.length : Int) := of_decide_eq_true (by first | (with_reducible assumption) | assumption); obtain ⟨ad172, e172, hx172_0⟩ := Kd.at_int (Kd.R_reads' HO_7.out).2.2 ((zae y166 x41_3).f1) p172 q172; cases e172; have hn172_0 : ad172.block ≠ gb171 := Kd.own_blk (Kd.R_ne HO_7.out BK171.out (by decide)); have hn172_1 : ad172.block ≠ gb171 := Kd.own_blk (Kd.R_ne HO_7.out BK171.out (by decide)); have hn172_2 : ad172.block ≠ gb171 := Kd.own_blk (Kd.R_ne HO_7.out BK171.out (by decide)); replace hx172_0 := (cell_far (p := ⟨gb171, 0, none⟩) (by first | (rw [add_block]; exact hn172_0) | (show (Addr.add _ _).block ≠ _; rw [add_block]; exact hn172_0) | exact hn172_0) (.int .i64 ((zae y166 x41_3).f0))).trans hx172_0; replace hx172_0 := (cell_far (p := ⟨gb171, 1, none⟩) (by first | (rw [add_block]; exact hn172_1) | (show (Addr.add _ _).block ≠ _; rw [add_block]; exact hn172_1) | exact hn172_1) (.int .i64 ((zae y166 x41_3).f1))).trans hx172_0; replace hx172_0 := (cell_far (p := ⟨gb171, 2, none⟩) (by first | (rw [add_block]; exact hn172_2) | (show (Addr.add _ _).block ≠ _; rw [add_block]; exact hn172_2) | exact hn172_2) (.int .i64 ((zae y166 x41_3).f2))).trans hx172_0; clear hn172_0; clear hn172_1; clear hn172_2; replace p172 := eq_true p172; replace q172 := eq_true q172))
                 go_ret3
                 exact ⟨_, _, by first | rfl | (simp [zab, zaa] <;> rfl) | (simp [*, zab, zaa] <;> rfl), by first | exact Kd.R_nil _ _ _ _ _ | exact Kd.N_nil _ _ _ _ _ | exact Kd.V_nil _ _ _ _ _ | exact Kd.Q_nil _ _ _ _ _ | exact Kd.S_nil _ _ _ _ _, by first | exact Kd.R_nil _ _ _ _ _ | exact Kd.N_nil _ _ _ _ _ | exact Kd.V_nil _ _ _ _ _ | exact Kd.Q_nil _ _ _ _ _ | exact Kd.S_nil _ _ _ _ _, bw_⟩
                ·rw [if_neg c26] at H
                 have c26b0 : decide ((rd x7_3 ((zae y166 x41_3).f1)) < 0) = false := decide_eq_false c26
                 clear c26
                 by_cases c31 : 0 ≤ ((zae y166 x41_3).f2)
                 ·rw [if_pos c31] at H
                  have c31b0 : decide (0 ≤ ((zae y166 x41_3).f2)) = true := decide_eq_true c31
                  clear c31
                  by_cases c32 : ((zae y166 x41_3).f2) < (x7_3.length : Int)
                  ·rw [if_pos c32] at H
                   have c32b0 : decide (((zae y166 x41_3).f2) < (x7_3.length : Int)) = true := decide_eq_true c32
                   clear c32
                   by_cases c33 : (rd x7_3 ((zae y166 x41_3).f2)) < 0
                   ·rw [if_pos c33] at H
                    have c33b0 : decide ((rd x7_3 ((zae y166 x41_3).f2)) < 0) = true := decide_eq_true c33
                    clear c33
                    simp only [Option.some.injEq, Prod.mk.injEq] at H
                    obtain ⟨rfl, rfl, rfl⟩ := H
                    have p170 : 0 ≤ (x41_3 : Int) := of_decide_eq_true (by first | (with_reducible assumption) | assumption)
                    have q170 : x41_3 < (y166.length : Int) := of_decide_eq_true (by first | (with_reducible assumption) | assumption)
                    obtain ⟨ad170, e170, hx170_0, hx170_1, hx170_2⟩ := at_T80 HR169.out x41_3 p170 q170
                    cases e170
                    replace hx170_0 := (HB.out.cell (World.block_lt_of_cell? w _ hx170_0)).trans hx170_0
                    replace hx170_1 := (HB.out.cell (World.block_lt_of_cell? w _ hx170_1)).trans hx170_1
                    replace hx170_2 := (HB.out.cell (World.block_lt_of_cell? w _ hx170_2)).trans hx170_2
                    replace p170 := eq_true p170
                    replace q170 := eq_true q170
                    go_wp2_with (first | ((with_reducible refine zaf (N := 13) rfl ?_); refine zad ?hg (N := 13) ?hd (cs := #[.int .i64 0, .int .i64 0, .int .i64 0]) (t := 80) ?hr ?_; (case hd => rfl); (case hg => rfl); (case hr => first | (go_simp; done) | (go_simp; rfl)); intro gb171 hg w34 hbox hb; have n0_ := Aside0.mk (Kd.zba (by (with_reducible repeat (first | apply Kd.zaj | apply Kd.zak | apply Kd.zam)); exact HO_7.out) hb); have n1_ := Aside0.mk (Kd.zba (by (with_reducible repeat (first | apply Kd.zaj | apply Kd.zak | apply Kd.zam)); exact HO_11.out) hb); have n2_ := Aside0.mk (za7 (g := gb160) (o := .cells #[.int .i64 a0_0, .slice A0_1 l0_1.length c0_1, .slice (some ad170) l0_2.length c0_2, .slice A0_3 l0_3.length c0_3] 30 (0, 0)) (by (with_reducible repeat (first | refine za3 ?_ _ | refine za4 ?_ | refine za2 ?_ _)); exact BK160.out) hb); have n3_ := Aside0.mk (za8 bw_ hb); have n4_ := Aside0.mk (hbox); have n5_ := Aside0.mk ((by rw [hg]; exact (za6 bw_) : w.heap.size ≤ gb171)); have n6_ := Aside0.mk ((by rw [hg]; exact (za6 bw_) : w.heap.size ≤ gb171)); have n7_ := Aside0.mk ((by rw [hg]; exact Nat.ne_of_lt (zan (g := gb160) (o := .cells #[.int .i64 a0_0, .slice A0_1 l0_1.length c0_1, .slice (some ad170) l0_2.length c0_2, .slice A0_3 l0_3.length c0_3] 30 (0, 0)) (by (with_reducible repeat (first | refine za3 ?_ _ | refine za4 ?_ | refine za2 ?_ _)); exact BK160.out)) : gb160 ≠ gb171)); have n8_ := Aside0.mk ((by rw [hg]; exact Nat.ne_of_gt (zan (g := gb160) (o := .cells #[.int .i64 a0_0, .slice A0_1 l0_1.length c0_1, .slice (some ad170) l0_2.length c0_2, .slice A0_3 l0_3.length c0_3] 30 (0, 0)) (by (with_reducible repeat (first | refine za3 ?_ _ | refine za4 ?_ | refine za2 ?_ _)); exact BK160.out)) : gb171 ≠ gb160)); clear HO_7; clear HO_11; clear BK160; clear HB; have HO_7 := n0_; have HO_11 := n1_; have BK160 := n2_; have HB := n3_; have BK171 := n4_; have GW171 := n5_; have GE171 := n6_; have NB160_171 := n7_; have NB171_160 := n8_; clear n0_ n1_ n2_ n3_ n4_ n5_ n6_ n7_ n8_; clear hb hbox hg; have hnb35 := NB171_160.out; have hnc35 := NB160_171.out; have hcz36_0 : w34.cell? ⟨gb171, 0, none⟩ = some (.int .i64 0) := (za1 BK171.out 0).trans rfl; have hcz36_1 : w34.cell? ⟨gb171, 1, none⟩ = some (.int .i64 0) := (za1 BK171.out 1).trans rfl; have hcz36_2 : w34.cell? ⟨gb171, 2, none⟩ = some (.int .i64 0) := (za1 BK171.out 2).trans rfl; have hfz36_0 := za0 BK171.out 0; have hfz36_1 := za0 BK171.out 1; have hfz36_2 := za0 BK171.out 2; obtain ⟨Ao37, co37, eo37⟩ := Kd.zat HO_7.out; subst eo37; have p172 : 0 ≤ (((zae y166 x41_3).f1) : Int) := of_decide_eq_true (by first | (with_reducible assumption) | assumption); have q172 : ((zae y166 x41_3).f1) < (x7_3.length : Int) := of_decide_eq_true (by first | (with_reducible assumption) | assumption); obtain ⟨ad172, e172, hx172_0⟩ := Kd.at_int (Kd.R_reads' HO_7.out).2.2 ((zae y166 x41_3).f1) p172 q172; cases e172; have hn172_0 : ad172.block ≠ gb171 := Kd.own_blk (Kd.R_ne HO_7.out BK171.out (by decide)); have hn172_1 : ad172.block ≠ gb171 := Kd.own_blk (Kd.R_ne HO_7.out BK171.out (by decide)); have hn172_2 : ad172.block ≠ gb171 := Kd.own_blk (Kd.R_ne HO_7.out BK171.out (by decide)); replace hx172_0 := (cell_far (p := ⟨gb171, 0, none⟩) (by first | (rw [add_block]; exact hn172_0) | (show (Addr.add _ _).block ≠ _; rw [add_block]; exact hn172_0) | exact hn172_0) (.int .i64 ((zae y166 x41_3).f0))).trans hx172_0; replace hx172_0 := (cell_far (p := ⟨gb171, 1, none⟩) (by first | (rw [add_block]; exact hn172_1) | (show (Addr.add _ _).block ≠ _; rw [add_block]; exact hn172_1) | exact hn172_1) (.int .i64 ((zae y166 x41_3).f1))).trans hx172_0; replace hx172_0 := (cell_far (p := ⟨gb171, 2, none⟩) (by first | (rw [add_block]; exact hn172_2) | (show (Addr.add _ _).block ≠ _; rw [add_block]; exact hn172_2) | exact hn172_2) (.int .i64 ((zae y166 x41_3).f2))).trans hx172_0; clear hn172_0; clear hn172_1; clear hn172_2; replace p172 := eq_true p172; replace q172 := eq_true q172; have p173 : 0 ≤ (((zae y166 x41_3).f2) : Int) := of_decide_eq_true (by first | (with_reducible assumption) | assumption); have q173 : ((zae y166 x41_3).f2) < (x7_3.length : Int) := of_decide_eq_true (by first | (with_reducible assumption) | assumption); obtain ⟨ad173, e173, hx173_0⟩ := Kd.at_int (Kd.R_reads' HO_7.out).2.2 ((zae y166 x41_3).f2) p173 q173; obtain rfl : ad172 = ad173 := (by injection e173); have hn173_0 : ad172.block ≠ gb171 := Kd.own_blk (Kd.R_ne HO_7.out BK171.out (by decide)); have hn173_1 : ad172.block ≠ gb171 := Kd.own_blk (Kd.R_ne HO_7.out BK171.out (by decide)); have hn173_2 : ad172.block ≠ gb171 := Kd.own_blk (Kd.R_ne HO_7.out BK171.out (by decide)); replace hx173_0 := (cell_far (p := ⟨gb171, 0, none⟩) (by first | (rw [add_block]; exact hn173_0) | (show (Addr.add _ _).block ≠ _; rw [add_block]; exact hn173_0) | exact hn173_0) (.int .i64 ((zae y166 x41_3).f0))).trans hx173_0; replace hx173_0 := (cell_far (p := ⟨gb171, 1, none⟩) (by first | (rw [add_block]; exact hn173_1) | (show (Addr.add _ _).block ≠ _; rw [add_block]; exact hn173_1) | exact hn173_1) (.int .i64 ((zae y166 x41_3).f1))).trans hx173_0; replace hx173_0 := (cell_far (p := ⟨gb171, 2, none⟩) (by first | (rw [add_block]; exact hn173_2) | (show (Addr.add _ _).block ≠ _; rw [add_block]; exact hn173_2) | exact hn173_2) (.int .i64 ((zae y166 x41_3).f2))).trans hx173_0; clear hn173_0; clear hn173_1; clear hn173_2; replace p173 := eq_true p173; replace q173 := eq_true q173))
                    go_ret3
                    exact ⟨_, _, by first | rfl | (simp [zab, zaa] <;> rfl) | (simp [*, zab, zaa] <;> rfl), by first | exact Kd.R_nil _ _ _ _ _ | exact Kd.N_nil _ _ _ _ _ | exact Kd.V_nil _ _ _ _ _ | exact Kd.Q_nil _ _ _ _ _ | exact Kd.S_nil _ _ _ _ _, by first | exact Kd.R_nil _ _ _ _ _ | exact Kd.N_nil _ _ _ _ _ | exact Kd.V_nil _ _ _ _ _ | exact Kd.Q_nil _ _ _ _ _ | exact Kd.S_nil _ _ _ _ _, bw_⟩
                   ·rw [if_neg c33] at H
                    have c33b0 : decide ((rd x7_3 ((zae y166 x41_3).f2)) < 0) = false := decide_eq_false c33
                    clear c33
                    replace H := Option.bind_eq_some_iff.mp H
                    obtain ⟨⟨t176, t177⟩, A380, H⟩ := H
                    replace H : (if x11_3.length < 8796093022208 then ((some (x11_3 ++ [(⟨t176, t177⟩ : S117)] : List (S117))).bind fun y178 => (if 0 ≤ ((zae y166 x41_3).f0) then (if ((zae y166 x41_3).f0) < (x7_3.length : Int) then (spec_reValues.l2 k3 (x7_3.set (((zae y166 x41_3).f0) : Int).toNat (wrap64 ((wrap64 ((l0_1.length : Int) + (y178.length : Int))) - 1))) y178 y166 (y166.length : Int) (wrap64 (x41_3 + 1)) a0_0 l0_1 l0_2 l0_3) else (none)) else (none))) else (none)) = some (r1, r2, r3) := H
                    have A38 := Aside0.mk A380
                    clear A380
                    by_cases c39 : x11_3.length < 8796093022208
                    ·rw [if_pos c39] at H
                     have LMc39 := Aside0.mk c39
                     clear c39
                     obtain ⟨y178, hy178⟩ : ∃ y_ : List (S117), y_ = (x11_3 ++ [(⟨t176, t177⟩ : S117)]) := ⟨_, rfl⟩
                     replace H : (if 0 ≤ ((zae y166 x41_3).f0) then (if ((zae y166 x41_3).f0) < (x7_3.length : Int) then (spec_reValues.l2 k3 (x7_3.set (((zae y166 x41_3).f0) : Int).toNat (wrap64 ((wrap64 ((l0_1.length : Int) + (y178.length : Int))) - 1))) y178 y166 (y166.length : Int) (wrap64 (x41_3 + 1)) a0_0 l0_1 l0_2 l0_3) else (none)) else (none)) = some (r1, r2, r3) := by first | (rw [hy178]; with_reducible exact H) | (have H2_ := (Option.bind_some _ _).symm.trans H; rw [hy178]; with_reducible exact H2_) | (have H2_ := (Option.bind_some _ _).symm.trans H; with_reducible exact H2_) | with_reducible exact H | (rw [hy178]; exact H) | exact H
                     have Ny178 := Aside0.mk hy178
                     clear hy178
                     by_cases c40 : 0 ≤ ((zae y166 x41_3).f0)
                     ·rw [if_pos c40] at H
                      have c40b0 : decide (0 ≤ ((zae y166 x41_3).f0)) = true := decide_eq_true c40
                      clear c40
                      by_cases c41 : ((zae y166 x41_3).f0) < (x7_3.length : Int)
                      ·rw [if_pos c41] at H
                       have c41b0 : decide (((zae y166 x41_3).f0) < (x7_3.length : Int)) = true := decide_eq_true c41
                       clear c41
                       obtain ⟨y181, hy181⟩ : ∃ y_ : List Int, y_ = (x7_3.set (((zae y166 x41_3).f0) : Int).toNat (wrap64 ((wrap64 ((l0_1.length : Int) + (y178.length : Int))) - 1))) := ⟨_, rfl⟩
                       replace H : (spec_reValues.l2 k3 y181 y178 y166 (y166.length : Int) (wrap64 (x41_3 + 1)) a0_0 l0_1 l0_2 l0_3) = some (r1, r2, r3) := by first | (rw [hy181]; with_reducible exact H) | (have H2_ := (Option.bind_some _ _).symm.trans H; rw [hy181]; with_reducible exact H2_) | (have H2_ := (Option.bind_some _ _).symm.trans H; with_reducible exact H2_) | with_reducible exact H | (rw [hy181]; exact H) | exact H
                       have Ny181 := Aside0.mk hy181
                       clear hy181
                       have H' := Aside0.mk H
                       clear H
                       have p170 : 0 ≤ (x41_3 : Int) := of_decide_eq_true (by first | (with_reducible assumption) | assumption)
                       have q170 : x41_3 < (y166.length : Int) := of_decide_eq_true (by first | (with_reducible assumption) | assumption)
                       obtain ⟨ad170, e170, hx170_0, hx170_1, hx170_2⟩ := at_T80 HR169.out x41_3 p170 q170
                       cases e170
                       replace hx170_0 := (HB.out.cell (World.block_lt_of_cell? w _ hx170_0)).trans hx170_0
                       replace hx170_1 := (HB.out.cell (World.block_lt_of_cell? w _ hx170_1)).trans hx170_1
                       replace hx170_2 := (HB.out.cell (World.block_lt_of_cell? w _ hx170_2)).trans hx170_2
                       replace p170 := eq_true p170
                       replace q170 := eq_true q170
                       try go_wp2_with (first | ((with_reducible refine zaf (N := 13) rfl ?_); refine zad ?hg (N := 13) ?hd (cs := #[.int .i64 0, .int .i64 0, .int .i64 0]) (t := 80) ?hr ?_; (case hd => rfl); (case hg => rfl); (case hr => first | (go_simp; done) | (go_simp; rfl)); intro gb171 hg w43 hbox hb; have n0_ := Aside0.mk (Kd.zba (by (with_reducible repeat (first | apply Kd.zaj | apply Kd.zak | apply Kd.zam)); exact HO_7.out) hb); have n1_ := Aside0.mk (Kd.zba (by (with_reducible repeat (first | apply Kd.zaj | apply Kd.zak | apply Kd.zam)); exact HO_11.out) hb); have n2_ := Aside0.mk (za7 (g := gb160) (o := .cells #[.int .i64 a0_0, .slice A0_1 l0_1.length c0_1, .slice (some ad170) l0_2.length c0_2, .slice A0_3 l0_3.length c0_3] 30 (0, 0)) (by (with_reducible repeat (first | refine za3 ?_ _ | refine za4 ?_ | refine za2 ?_ _)); exact BK160.out) hb); have n3_ := Aside0.mk (za8 bw_ hb); have n4_ := Aside0.mk (hbox); have n5_ := Aside0.mk ((by rw [hg]; exact (za6 bw_) : w.heap.size ≤ gb171)); have n6_ := Aside0.mk ((by rw [hg]; exact (za6 bw_) : w.heap.size ≤ gb171)); have n7_ := Aside0.mk ((by rw [hg]; exact Nat.ne_of_lt (zan (g := gb160) (o := .cells #[.int .i64 a0_0, .slice A0_1 l0_1.length c0_1, .slice (some ad170) l0_2.length c0_2, .slice A0_3 l0_3.length c0_3] 30 (0, 0)) (by (with_reducible repeat (first | refine za3 ?_ _ | refine za4 ?_ | refine za2 ?_ _)); exact BK160.out)) : gb160 ≠ gb171)); have n8_ := Aside0.mk ((by rw [hg]; exact Nat.ne_of_gt (zan (g := gb160) (o := .cells #[.int .i64 a0_0, .slice A0_1 l0_1.length c0_1, .slice (some ad170) l0_2.length c0_2, .slice A0_3 l0_3.length c0_3] 30 (0, 0)) (by (with_reducible repeat (first | refine za3 ?_ _ | refine za4 ?_ | refine za2 ?_ _)); exact BK160.out)) : gb171 ≠ gb160)); clear HO_7; clear HO_11; clear BK160; clear HB; have HO_7 := n0_; have HO_11 := n1_; have BK160 := n2_; have HB := n3_; have BK171 := n4_; have GW171 := n5_; have GE171 := n6_; have NB160_171 := n7_; have NB171_160 := n8_; clear n0_ n1_ n2_ n3_ n4_ n5_ n6_ n7_ n8_; clear hb hbox hg; have hnb44 := NB171_160.out; have hnc44 := NB160_171.out; have hcz45_0 : w43.cell? ⟨gb171, 0, none⟩ = some (.int .i64 0) := (za1 BK171.out 0).trans rfl; have hcz45_1 : w43.cell? ⟨gb171, 1, none⟩ = some (.int .i64 0) := (za1 BK171.out 1).trans rfl; have hcz45_2 : w43.cell? ⟨gb171, 2, none⟩ = some (.int .i64 0) := (za1 BK171.out 2).trans rfl; have hfz45_0 := za0 BK171.out 0; have hfz45_1 := za0 BK171.out 1; have hfz45_2 := za0 BK171.out 2; obtain ⟨Ao46, co46, eo46⟩ := Kd.zat HO_7.out; subst eo46; have p172 : 0 ≤ (((zae y166 x41_3).f1) : Int) := of_decide_eq_true (by first | (with_reducible assumption) | assumption); have q172 : ((zae y166 x41_3).f1) < (x7_3.length : Int) := of_decide_eq_true (by first | (with_reducible assumption) | assumption); obtain ⟨ad172, e172, hx172_0⟩ := Kd.at_int (Kd.R_reads' HO_7.out).2.2 ((zae y166 x41_3).f1) p172 q172; cases e172; have hn172_0 : ad172.block ≠ gb171 := Kd.own_blk (Kd.R_ne HO_7.out BK171.out (by decide)); have hn172_1 : ad172.block ≠ gb171 := Kd.own_blk (Kd.R_ne HO_7.out BK171.out (by decide)); have hn172_2 : ad172.block ≠ gb171 := Kd.own_blk (Kd.R_ne HO_7.out BK171.out (by decide)); replace hx172_0 := (cell_far (p := ⟨gb171, 0, none⟩) (by first | (rw [add_block]; exact hn172_0) | (show (Addr.add _ _).block ≠ _; rw [add_block]; exact hn172_0) | exact hn172_0) (.int .i64 ((zae y166 x41_3).f0))).trans hx172_0; replace hx172_0 := (cell_far (p := ⟨gb171, 1, none⟩) (by first | (rw [add_block]; exact hn172_1) | (show (Addr.add _ _).block ≠ _; rw [add_block]; exact hn172_1) | exact hn172_1) (.int .i64 ((zae y166 x41_3).f1))).trans hx172_0; replace hx172_0 := (cell_far (p := ⟨gb171, 2, none⟩) (by first | (rw [add_block]; exact hn172_2) | (show (Addr.add _ _).block ≠ _; rw [add_block]; exact hn172_2) | exact hn172_2) (.int .i64 ((zae y166 x41_3).f2))).trans hx172_0; clear hn172_0; clear hn172_1; clear hn172_2; replace p172 := eq_true p172; replace q172 := eq_true q172; have p173 : 0 ≤ (((zae y166 x41_3).f2) : Int) := of_decide_eq_true (by first | (with_reducible assumption) | assumption); have q173 : ((zae y166 x41_3).f2) < (x7_3.length : Int) := of_decide_eq_true (by first | (with_reducible assumption) | assumption); obtain ⟨ad173, e173, hx173_0⟩ := Kd.at_int (Kd.R_reads' HO_7.out).2.2 ((zae y166 x41_3).f2) p173 q173; obtain rfl : ad172 = ad173 := (by injection e173); have hn173_0 : ad172.block ≠ gb171 := Kd.own_blk (Kd.R_ne HO_7.out BK171.out (by decide)); have hn173_1 : ad172.block ≠ gb171 := Kd.own_blk (Kd.R_ne HO_7.out BK171.out (by decide)); have hn173_2 : ad172.block ≠ gb171 := Kd.own_blk (Kd.R_ne HO_7.out BK171.out (by decide)); replace hx173_0 := (cell_far (p := ⟨gb171, 0, none⟩) (by first | (rw [add_block]; exact hn173_0) | (show (Addr.add _ _).block ≠ _; rw [add_block]; exact hn173_0) | exact hn173_0) (.int .i64 ((zae y166 x41_3).f0))).trans hx173_0; replace hx173_0 := (cell_far (p := ⟨gb171, 1, none⟩) (by first | (rw [add_block]; exact hn173_1) | (show (Addr.add _ _).block ≠ _; rw [add_block]; exact hn173_1) | exact hn173_1) (.int .i64 ((zae y166 x41_3).f1))).trans hx173_0; replace hx173_0 := (cell_far (p := ⟨gb171, 2, none⟩) (by first | (rw [add_block]; exact hn173_2) | (show (Addr.add _ _).block ≠ _; rw [add_block]; exact hn173_2) | exact hn173_2) (.int .i64 ((zae y166 x41_3).f2))).trans hx173_0; clear hn173_0; clear hn173_1; clear hn173_2; replace p173 := eq_true p173; replace q173 := eq_true q173))
                       have n0_ : Aside0 (Kd.R (Kd.int .i64) 3 (((w43.setCell ⟨gb171, 0, none⟩ (.int .i64 ((zae y166 x41_3).f0))).setCell ⟨gb171, 1, none⟩ (.int .i64 ((zae y166 x41_3).f1))).setCell ⟨gb171, 2, none⟩ (.int .i64 ((zae y166 x41_3).f2))) w.heap.size (fun _ => True) (.slice (some ad172) x7_3.length co46) x7_3) := ⟨by (with_reducible repeat (first | apply Kd.zaj | apply Kd.zak | apply Kd.zam)); exact Kd.zar (Kd.R_far (p := ⟨gb171, 2, none⟩) (Kd.R_far (p := ⟨gb171, 1, none⟩) (Kd.R_far (p := ⟨gb171, 0, none⟩) (Kd.R_types HO_7.out BK171.out (by decide)) (fun _ hk => hk.2) (.int .i64 ((zae y166 x41_3).f0))) (fun _ hk => hk.2) (.int .i64 ((zae y166 x41_3).f1))) (fun _ hk => hk.2) (.int .i64 ((zae y166 x41_3).f2))) (fun _ hk => trivial)⟩
                       have n1_ : Aside0 (Kd.R k117 117 (((w43.setCell ⟨gb171, 0, none⟩ (.int .i64 ((zae y166 x41_3).f0))).setCell ⟨gb171, 1, none⟩ (.int .i64 ((zae y166 x41_3).f1))).setCell ⟨gb171, 2, none⟩ (.int .i64 ((zae y166 x41_3).f2))) w.heap.size (fun _ => True) u11 x11_3) := ⟨by (with_reducible repeat (first | apply Kd.zaj | apply Kd.zak | apply Kd.zam)); exact Kd.zar (Kd.R_far (p := ⟨gb171, 2, none⟩) (Kd.R_far (p := ⟨gb171, 1, none⟩) (Kd.R_far (p := ⟨gb171, 0, none⟩) (Kd.R_types HO_11.out BK171.out (by decide)) (fun _ hk => hk.2) (.int .i64 ((zae y166 x41_3).f0))) (fun _ hk => hk.2) (.int .i64 ((zae y166 x41_3).f1))) (fun _ hk => hk.2) (.int .i64 ((zae y166 x41_3).f2))) (fun _ hk => trivial)⟩
                       have n2_ : Aside0 ((((w43.setCell ⟨gb171, 0, none⟩ (.int .i64 ((zae y166 x41_3).f0))).setCell ⟨gb171, 1, none⟩ (.int .i64 ((zae y166 x41_3).f1))).setCell ⟨gb171, 2, none⟩ (.int .i64 ((zae y166 x41_3).f2))).heap[gb160]? = some (.cells #[.int .i64 a0_0, .slice A0_1 l0_1.length c0_1, .slice (some ad170) l0_2.length c0_2, .slice A0_3 l0_3.length c0_3] 30 (0, 0))) := ⟨by (with_reducible repeat (first | refine za3 ?_ _ | refine za4 ?_ | refine za2 ?_ _)); refine zb2 ?_ NB160_171.out _; (with_reducible repeat (first | refine za3 ?_ _ | refine za4 ?_ | refine za2 ?_ _)); refine zb2 ?_ NB160_171.out _; (with_reducible repeat (first | refine za3 ?_ _ | refine za4 ?_ | refine za2 ?_ _)); refine zb2 ?_ NB160_171.out _; (with_reducible repeat (first | refine za3 ?_ _ | refine za4 ?_ | refine za2 ?_ _)); exact BK160.out⟩
                       have n3_ : Aside0 ((((w43.setCell ⟨gb171, 0, none⟩ (.int .i64 ((zae y166 x41_3).f0))).setCell ⟨gb171, 1, none⟩ (.int .i64 ((zae y166 x41_3).f1))).setCell ⟨gb171, 2, none⟩ (.int .i64 ((zae y166 x41_3).f2))).heap[gb171]? = some (.cells #[.int .i64 ((zae y166 x41_3).f0), .int .i64 ((zae y166 x41_3).f1), .int .i64 ((zae y166 x41_3).f2)] 80 (0, 0))) := ⟨by (with_reducible repeat (first | refine za3 ?_ _ | refine za4 ?_ | refine za2 ?_ _)); refine zao (cs := #[.int .i64 ((zae y166 x41_3).f0), .int .i64 ((zae y166 x41_3).f1), .int .i64 0]) ?_ 2 _ rfl; (with_reducible repeat (first | refine za3 ?_ _ | refine za4 ?_ | refine za2 ?_ _)); refine zao (cs := #[.int .i64 ((zae y166 x41_3).f0), .int .i64 0, .int .i64 0]) ?_ 1 _ rfl; (with_reducible repeat (first | refine za3 ?_ _ | refine za4 ?_ | refine za2 ?_ _)); refine zao (cs := #[.int .i64 0, .int .i64 0, .int .i64 0]) ?_ 0 _ rfl; (with_reducible repeat (first | refine za3 ?_ _ | refine za4 ?_ | refine za2 ?_ _)); exact BK171.out⟩
                       have n4_ : Aside0 (Below w.heap.size w (((w43.setCell ⟨gb171, 0, none⟩ (.int .i64 ((zae y166 x41_3).f0))).setCell ⟨gb171, 1, none⟩ (.int .i64 ((zae y166 x41_3).f1))).setCell ⟨gb171, 2, none⟩ (.int .i64 ((zae y166 x41_3).f2)))) := ⟨bw_⟩
                       (try clear HO_7)
                       (try clear HO_11)
                       (try clear BK160)
                       (try clear BK171)
                       (try clear HB)
                       generalize (((w43.setCell ⟨gb171, 0, none⟩ (.int .i64 ((zae y166 x41_3).f0))).setCell ⟨gb171, 1, none⟩ (.int .i64 ((zae y166 x41_3).f1))).setCell ⟨gb171, 2, none⟩ (.int .i64 ((zae y166 x41_3).f2))) = w47 at n0_ n1_ n2_ n3_ n4_ ⊢
                       have HO_7 := n0_
                       have HO_11 := n1_
                       have BK160 := n2_
                       have BK171 := n3_
                       have HB := n4_
                       clear n0_ n1_ n2_ n3_ n4_
                       have n0_ := Aside0.mk (Kd.zam HO_7.out)
                       have n1_ := Aside0.mk (Kd.zam HO_11.out)
                       have n2_ := Aside0.mk (za4 BK160.out)
                       have n3_ := Aside0.mk (za4 BK171.out)
                       have n4_ := Aside0.mk (zav HB.out)
                       clear HO_7
                       clear HO_11
                       clear BK160
                       clear BK171
                       clear HB
                       have HO_7 := n0_
                       have HO_11 := n1_
                       have BK160 := n2_
                       have BK171 := n3_
                       have HB := n4_
                       clear n0_ n1_ n2_ n3_ n4_
                       have p174 : 0 ≤ (((zae y166 x41_3).f1) : Int) := of_decide_eq_true (by first | (with_reducible assumption) | assumption)
                       have q174 : ((zae y166 x41_3).f1) < (x7_3.length : Int) := of_decide_eq_true (by first | (with_reducible assumption) | assumption)
                       obtain ⟨ad174, e174, hx174_0⟩ := Kd.at_int (Kd.R_reads' HO_7.out).2.2 ((zae y166 x41_3).f1) p174 q174
                       obtain rfl : ad172 = ad174 := (by injection e174)
                       replace p174 := eq_true p174
                       replace q174 := eq_true q174
                       have p175 : 0 ≤ (((zae y166 x41_3).f2) : Int) := of_decide_eq_true (by first | (with_reducible assumption) | assumption)
                       have q175 : ((zae y166 x41_3).f2) < (x7_3.length : Int) := of_decide_eq_true (by first | (with_reducible assumption) | assumption)
                       obtain ⟨ad175, e175, hx175_0⟩ := Kd.at_int (Kd.R_reads' HO_7.out).2.2 ((zae y166 x41_3).f2) p175 q175
                       obtain rfl : ad172 = ad175 := (by injection e175)
                       replace p175 := eq_true p175
                       replace q175 := eq_true q175
                       refine start_ (n := 15) (S := fun w' => w'.cell? ⟨gb171, 0, none⟩ = some (.int .i64 ((zae y166 x41_3).f0)) ∧ w'.cell? ⟨gb171, 1, none⟩ = some (.int .i64 ((zae y166 x41_3).f1)) ∧ w'.cell? ⟨gb171, 2, none⟩ = some (.int .i64 ((zae y166 x41_3).f2)) ∧ w'.cell? (ad172.add (((zae y166 x41_3).f1)).toNat) = some (.int .i64 (rd x7_3 ((zae y166 x41_3).f1))) ∧ w'.cell? (ad172.add (((zae y166 x41_3).f2)).toNat) = some (.int .i64 (rd x7_3 ((zae y166 x41_3).f2)))) (ds := [12, 13]) #[false, false, false, false, false, false, false, false, false, false, false, false, false, false, false] (by kernel_rfl) rfl rfl ⟨(za1 BK171.out 0).trans rfl, (za1 BK171.out 1).trans rfl, (za1 BK171.out 2).trans rfl, hx174_0, hx175_0⟩ (fun hHeld => ?_); refine with_tabW spec_reValues.tab17 spec_reValues.bits17 (fun HT_ HW_ => ?_)
                       generalize w47.drew = w48 at HO_7 HO_11 BK160 BK171 HB hx174_0 hx175_0 hHeld ⊢
                       refine pure_ (i := 0) (N := some 59) (v := ?_) (a' := ?_) #[true, false, false, false, false, false, false, false, false, false, false, false, false, false, false] rfl rfl (zaw HT_.out (by kernel_rfl)) (fun _ _ _ h => h) (Or.inl ⟨by rfl, ?_⟩) ?_ ?_
                       rotate_left
                       ·intro w'
                        go_simp
                        with_reducible rfl
                       rotate_left
                       ·simp only [Act.put, sa_, sb_, sc_, i64_w, i32_w]
                        rfl
                       refine pure_ (i := 1) (N := some 60) (v := ?_) (a' := ?_) #[true, true, false, false, false, false, false, false, false, false, false, false, false, false, false] rfl rfl (zaw HT_.out (by kernel_rfl)) (fun _ _ _ h => h) (Or.inl ⟨by rfl, ?_⟩) ?_ ?_
                       rotate_left
                       ·intro w'
                        go_simp
                        with_reducible rfl
                       rotate_left
                       ·simp only [Act.put, sa_, sb_, sc_, i64_w, i32_w]
                        rfl
                       refine pure_ (i := 2) (N := some 61) (v := ?_) (a' := ?_) #[true, true, true, false, false, false, false, false, false, false, false, false, false, false, false] rfl rfl (zaw HT_.out (by kernel_rfl)) (fun _ _ _ h => h) (Or.inl ⟨by rfl, ?_⟩) ?_ ?_
                       rotate_left
                       ·intro w'
                        go_simp
                        with_reducible rfl
                       rotate_left
                       ·simp only [Act.put, sa_, sb_, sc_, i64_w, i32_w]
                        rfl
                       refine pure_ (i := 6) (N := some 65) (v := ?_) (a' := ?_) #[true, true, true, false, false, false, true, false, false, false, false, false, false, false, false] rfl rfl (zaw HT_.out (by kernel_rfl)) (fun _ _ _ h => h) (Or.inl ⟨by rfl, ?_⟩) ?_ ?_
                       rotate_left
                       ·intro w'
                        go_simp
                        with_reducible rfl
                       rotate_left
                       ·simp only [Act.put, sa_, sb_, sc_, i64_w, i32_w]
                        rfl
                       refine pure_ (i := 7) (N := some 66) (v := ?_) (a' := ?_) #[true, true, true, false, false, false, true, true, false, false, false, false, false, false, false] rfl rfl (zaw HT_.out (by kernel_rfl)) (fun _ _ _ h => h) (Or.inl ⟨by rfl, ?_⟩) ?_ ?_
                       rotate_left
                       ·intro w'
                        go_simp
                        with_reducible rfl
                       rotate_left
                       ·simp only [Act.put, sa_, sb_, sc_, i64_w, i32_w]
                        rfl
                       refine take_ (i := 3) (N := some 62) (v := ?_) (a' := ?_) #[true, true, true, true, false, false, true, true, false, false, false, false, false, false, false] rfl rfl (take_ofW HT_.out HW_.out (by kernel_rfl)) (fun _ _ _ h => h) (Or.inl ⟨by rfl, ?_⟩) hHeld ?_ ?_
                       rotate_left
                       ·rintro w' ⟨s0, s1, s2, s3, s4⟩
                        go_simp
                        with_reducible rfl
                       rotate_left
                       ·simp only [Act.put, sa_, sb_, sc_, i64_w, i32_w]
                        rfl
                       refine pure_ (i := 4) (N := some 63) (v := ?_) (a' := ?_) #[true, true, true, true, true, false, true, true, false, false, false, false, false, false, false] rfl rfl (zaw HT_.out (by kernel_rfl)) (fun _ _ _ h => h) (Or.inl ⟨by rfl, ?_⟩) ?_ ?_
                       rotate_left
                       ·intro w'
                        go_simp
                        with_reducible rfl
                       rotate_left
                       ·simp only [Act.put, sa_, sb_, sc_, i64_w, i32_w]
                        rfl
                       refine take_ (i := 5) (N := some 64) (v := ?_) (a' := ?_) #[true, true, true, true, true, true, true, true, false, false, false, false, false, false, false] rfl rfl (take_ofW HT_.out HW_.out (by kernel_rfl)) (fun _ _ _ h => h) (Or.inl ⟨by rfl, ?_⟩) hHeld ?_ ?_
                       rotate_left
                       ·rintro w' ⟨s0, s1, s2, s3, s4⟩
                        go_simp
                        with_reducible rfl
                       rotate_left
                       ·simp only [Act.put, sa_, sb_, sc_, i64_w, i32_w]
                        rfl
                       refine take_ (i := 8) (N := some 67) (v := ?_) (a' := ?_) #[true, true, true, true, true, true, true, true, true, false, false, false, false, false, false] rfl rfl (take_ofW HT_.out HW_.out (by kernel_rfl)) (fun _ _ _ h => h) (Or.inl ⟨by rfl, ?_⟩) hHeld ?_ ?_
                       rotate_left
                       ·rintro w' ⟨s0, s1, s2, s3, s4⟩
                        go_simp
                        with_reducible rfl
                       rotate_left
                       ·simp only [Act.put, sa_, sb_, sc_, i64_w, i32_w]
                        rfl
                       refine pure_ (i := 9) (N := some 68) (v := ?_) (a' := ?_) #[true, true, true, true, true, true, true, true, true, true, false, false, false, false, false] rfl rfl (zaw HT_.out (by kernel_rfl)) (fun _ _ _ h => h) (Or.inl ⟨by rfl, ?_⟩) ?_ ?_
                       rotate_left
                       ·intro w'
                        go_simp
                        with_reducible rfl
                       rotate_left
                       ·simp only [Act.put, sa_, sb_, sc_, i64_w, i32_w]
                        rfl
                       refine take_ (i := 10) (N := some 69) (v := ?_) (a' := ?_) #[true, true, true, true, true, true, true, true, true, true, true, false, false, false, false] rfl rfl (take_ofW HT_.out HW_.out (by kernel_rfl)) (fun _ _ _ h => h) (Or.inl ⟨by rfl, ?_⟩) hHeld ?_ ?_
                       rotate_left
                       ·rintro w' ⟨s0, s1, s2, s3, s4⟩
                        go_simp
                        with_reducible rfl
                       rotate_left
                       ·simp only [Act.put, sa_, sb_, sc_, i64_w, i32_w]
                        rfl
                       refine one_ (i := 11) (N := some 70) #[true, true, true, true, true, true, true, true, true, true, true, true, false, false, false] rfl rfl (one_of HT_.out (by kernel_rfl)) (by decide) (fun K hK => ?_)
                       refine goes_ Try.func147 (by kernel_rfl) rfl #[.int .i64 (rd x7_3 ((zae y166 x41_3).f1)), .int .i64 (rd x7_3 ((zae y166 x41_3).f2))] (by rfl) rfl rfl (by (try simp only [List.map_toArray, List.map_cons, List.map_nil]); first | done | rfl | (simp only [List.length_drop, List.length_take]; rfl)) ?_
                       with_reducible refine (spec_plStep.calls (rd x7_3 ((zae y166 x41_3).f1)) (rd x7_3 ((zae y166 x41_3).f2)) t176 t177 _ A38.out).mono ?_
                       rintro e w49 ⟨rfl, hb⟩
                       have HS3_ := (hb.cell (World.block_lt_of_cell? _ _ (hHeld.2.2.2.1))).trans (hHeld.2.2.2.1)
                       have HS4_ := (hb.cell (World.block_lt_of_cell? _ _ (hHeld.2.2.2.2))).trans (hHeld.2.2.2.2)
                       refine ⟨_, rfl, ?_⟩
                       have n0_ := Aside0.mk (Kd.zba (by (with_reducible repeat (first | apply Kd.zaj | apply Kd.zak | apply Kd.zam)); exact HO_7.out) hb)
                       have n1_ := Aside0.mk (Kd.zba (by (with_reducible repeat (first | apply Kd.zaj | apply Kd.zak | apply Kd.zam)); exact HO_11.out) hb)
                       have n2_ := Aside0.mk (za7 (g := gb160) (o := .cells #[.int .i64 a0_0, .slice A0_1 l0_1.length c0_1, .slice (some ad170) l0_2.length c0_2, .slice A0_3 l0_3.length c0_3] 30 (0, 0)) (by (with_reducible repeat (first | refine za3 ?_ _ | refine za4 ?_ | refine za2 ?_ _)); exact BK160.out) hb)
                       have n3_ := Aside0.mk (za7 (g := gb171) (o := .cells #[.int .i64 ((zae y166 x41_3).f0), .int .i64 ((zae y166 x41_3).f1), .int .i64 ((zae y166 x41_3).f2)] 80 (0, 0)) (by (with_reducible repeat (first | refine za3 ?_ _ | refine za4 ?_ | refine za2 ?_ _)); exact BK171.out) hb)
                       have n4_ := Aside0.mk (za8 bw_ hb)
                       clear HO_7
                       clear HO_11
                       clear BK160
                       clear BK171
                       clear HB
                       have HO_7 := n0_
                       have HO_11 := n1_
                       have BK160 := n2_
                       have BK171 := n3_
                       have HB := n4_
                       clear n0_ n1_ n2_ n3_ n4_
                       (try clear hb)
                       (try clear hb2)
                       (try clear hk)
                       (try clear hi)
                       refine hK.out _ _ ⟨(za1 BK171.out 0).trans rfl, (za1 BK171.out 1).trans rfl, (za1 BK171.out 2).trans rfl, HS3_, HS4_⟩ (fun hHeld => ?_)
                       clear hK K
                       refine norm_ (a' := ?_) ?_ ?_
                       rotate_left
                       ·show Act.put _ (some 70) _ = _
                        simp only [Act.put, sa_, sb_, sc_, i64_w, i32_w]
                        rfl
                       refine last_ (i := 12) (N := some 71) #[true, true, true, true, true, true, true, true, true, true, true, true, true, false, false] rfl rfl (one_of HT_.out (by kernel_rfl)) (by decide) (fun K hK => ?_)
                       refine value_ (w1 := ?_) (v := ?_) (by rfl) rfl ?_ ?_
                       rotate_left 2
                       ·go_simp
                        constructor
                        ·rfl
                        ·rfl
                       refine hK.out _ _ ?_
                       clear hK K
                       refine norm_ (a' := ?_) ?_ ?_
                       rotate_left
                       ·show Act.put _ (some 71) _ = _
                        simp only [Act.put, sa_, sb_, sc_, i64_w, i32_w]
                        rfl
                       refine last_ (i := 13) (N := some 72) #[true, true, true, true, true, true, true, true, true, true, true, true, true, true, false] rfl rfl (one_of HT_.out (by kernel_rfl)) (by decide) (fun K hK => ?_)
                       refine Kd.R_append_step k117 (w0 := w) w.heap.size (by rfl) (.tmp 59) (.tmp 71) 34 117 (.agg #[(.int .i64 0), (.int .i64 0)]) 16 rfl Try.underlying34 info117 rfl (by decide) (by omega) u11 x11_3 (⟨t176, t177⟩ : S117) [.int .i64 t176, .int .i64 t177] (fun _ => True) (fun _ => False) rfl rfl ?aP (fun _ hk => hk.elim) ?aF ?aO ?aB ?aS ?aL ?_
                       (case aP => exact k117_mkM _ _ _ (⟨t176, t177⟩ : S117))
                       (case aB => exact bw_)
                       (case aF => exact (fun _ _ => trivial))
                       (case aO => exact (by (with_reducible repeat (first | apply Kd.zaj | apply Kd.zak | apply Kd.zam)); exact HO_11.out))
                       (case aS => exact (za6 bw_))
                       (case aL => have := LMc39.out; omega)
                       intro v179 w50 ho hb hg hat
                       rw [← Ny178.out] at ho
                       have n0_ := Aside0.mk (Kd.R_over' (by (with_reducible repeat (first | apply Kd.zaj | apply Kd.zak | apply Kd.zam)); exact HO_7.out) (Kd.R_typed (by (with_reducible repeat (first | apply Kd.zaj | apply Kd.zak | apply Kd.zam)); exact HO_11.out)) (by decide) hg)
                       have n1_ := Aside0.mk (blk_grown (g := gb160) (o := .cells #[.int .i64 a0_0, .slice A0_1 l0_1.length c0_1, .slice (some ad170) l0_2.length c0_2, .slice A0_3 l0_3.length c0_3] 30 (0, 0)) (by (with_reducible repeat (first | refine za3 ?_ _ | refine za4 ?_ | refine za2 ?_ _)); exact BK160.out) hg (Kd.R_ne HO_11.out BK160.out (by decide)))
                       have n2_ := Aside0.mk (blk_grown (g := gb171) (o := .cells #[.int .i64 ((zae y166 x41_3).f0), .int .i64 ((zae y166 x41_3).f1), .int .i64 ((zae y166 x41_3).f2)] 80 (0, 0)) (by (with_reducible repeat (first | refine za3 ?_ _ | refine za4 ?_ | refine za2 ?_ _)); exact BK171.out) hg (Kd.R_ne HO_11.out BK171.out (by decide)))
                       have n3_ := Aside0.mk (hb)
                       have n4_ := Aside0.mk (ho)
                       clear HO_7
                       clear BK160
                       clear BK171
                       clear HB
                       clear HO_11
                       have HO_7 := n0_
                       have BK160 := n1_
                       have BK171 := n2_
                       have HB := n3_
                       have HO180 := n4_
                       clear n0_ n1_ n2_ n3_ n4_
                       clear ho hb hg hat
                       refine hK.out _ _ ?_
                       clear hK K
                       refine norm_ (a' := ?_) ?_ ?_
                       rotate_left
                       ·show Act.put _ (some 72) _ = _
                        simp only [Act.put, sa_, sb_, sc_, i64_w, i32_w]
                        rfl
                       refine pure_ (i := 14) (N := some 11) (v := ?_) (a' := ?_) #[true, true, true, true, true, true, true, true, true, true, true, true, true, true, true] rfl rfl (zaw HT_.out (by kernel_rfl)) (fun _ _ _ h => h) (Or.inl ⟨by rfl, ?_⟩) ?_ ?_
                       rotate_left
                       ·intro w'
                        go_simp
                        with_reducible rfl
                       rotate_left
                       ·simp only [Act.put, sa_, sb_, sc_, i64_w, i32_w]
                        rfl
                       refine done_ (done_of HT_.out (by kernel_rfl)) ?_
                       have hcz51_0 : w50.cell? ⟨gb171, 0, none⟩ = some (.int .i64 ((zae y166 x41_3).f0)) := (za1 BK171.out 0).trans rfl
                       have hcz51_1 : w50.cell? ⟨gb171, 1, none⟩ = some (.int .i64 ((zae y166 x41_3).f1)) := (za1 BK171.out 1).trans rfl
                       have hcz51_2 : w50.cell? ⟨gb171, 2, none⟩ = some (.int .i64 ((zae y166 x41_3).f2)) := (za1 BK171.out 2).trans rfl
                       have hfz51_0 := za0 BK171.out 0
                       have hfz51_1 := za0 BK171.out 1
                       have hfz51_2 := za0 BK171.out 2
                       have hcz52_0 : w50.cell? ⟨gb160, 0, none⟩ = some (.int .i64 a0_0) := (za1 BK160.out 0).trans rfl
                       have hcz52_1 : w50.cell? ⟨gb160, 1, none⟩ = some (.slice A0_1 l0_1.length c0_1) := (za1 BK160.out 1).trans rfl
                       have hcz52_2 : w50.cell? ⟨gb160, 2, none⟩ = some (.slice (some ad170) l0_2.length c0_2) := (za1 BK160.out 2).trans rfl
                       have hcz52_3 : w50.cell? ⟨gb160, 3, none⟩ = some (.slice A0_3 l0_3.length c0_3) := (za1 BK160.out 3).trans rfl
                       have hfz52_0 := za0 BK160.out 0
                       have hfz52_1 := za0 BK160.out 1
                       have hfz52_2 := za0 BK160.out 2
                       have hfz52_3 := za0 BK160.out 3
                       obtain ⟨Ao53, co53, eo53⟩ := Kd.zat HO180.out
                       subst eo53
                       have p42 : 0 ≤ (((zae y166 x41_3).f0) : Int) := of_decide_eq_true (by first | (with_reducible assumption) | assumption)
                       have q42 : (((zae y166 x41_3).f0) : Int) < ((x7_3.length : Int) : Int) := of_decide_eq_true (by first | (with_reducible assumption) | assumption)
                       obtain ⟨go42, co42, eo42, gb42, gl42, cl42, HG42⟩ := Kd.R_form HO_7.out (by omega)
                       (first | cases eo42 | (injection eo42 with ea_ en_ ec_; (first | subst ea_ | (injection ea_ with ea_; subst ea_)); subst ec_; clear en_))
                       have GB42 := Aside0.mk gb42
                       have GG42 := Aside0.mk HG42
                       clear gb42 gl42 HG42
                       (first | simp only [add_plain] at hx172_0 | skip)
                       (first | simp only [add_plain] at hx173_0 | skip)
                       (first | simp only [add_plain] at hx174_0 | skip)
                       (first | simp only [add_plain] at hx175_0 | skip)
                       obtain ⟨hx42_0, hf42_0⟩ := Kd.R_celln 0 HO_7.out (((zae y166 x41_3).f0) : Int) p42 q42
                       replace p42 := eq_true p42
                       replace q42 := eq_true q42
                       obtain ⟨hy54_, hz54_⟩ := Kd.R_celln 0 HO_7.out (((zae y166 x41_3).f0) : Int) (of_decide_eq_true (by first | (with_reducible assumption) | assumption)) (of_decide_eq_true (by first | (with_reducible assumption) | assumption))
                       have HP54 := Kd.R_putg HO_7.out (((zae y166 x41_3).f0) : Int) (wrap64 ((wrap64 ((l0_1.length : Int) + (y178.length : Int))) - 1))
                       try go_wp2_with (first | ((with_reducible refine gate_store (t := 3) (p := 83) rfl ?_); refine store_event (t := 3) (p := 83) (v := ?vo_w55) (w1 := (w50.setCell ⟨go42, (((zae y166 x41_3).f0) : Int).toNat, none⟩ (.int .i64 (wrap64 ((wrap64 ((l0_1.length : Int) + (y178.length : Int))) - 1))))) ?hg ?ho ?hn ?hr ?_; (case ho => rfl); (case hg => rfl); (case hn => rfl); (case hr => first | (go_simp; done) | (go_simp; rfl)); intro w55 hw; have hg : w50.grownBy w55 (some go42) := (by rw [hw]; exact HP54.2); have hp_ : Kd.R (Kd.int .i64) 3 w55 w.heap.size (fun _ => True) (.slice (some ⟨go42, 0, none⟩) x7_3.length co46) y181 := (by rw [hw, Ny181.out]; exact HP54.1); clear HP54; have n0_ := Aside0.mk (hp_); have n1_ := Aside0.mk (blk_grown (g := gb160) (o := .cells #[.int .i64 a0_0, .slice A0_1 l0_1.length c0_1, .slice (some ad170) l0_2.length c0_2, .slice A0_3 l0_3.length c0_3] 30 (0, 0)) (by (with_reducible repeat (first | refine za3 ?_ _ | refine za4 ?_ | refine za2 ?_ _)); exact BK160.out) hg (Kd.R_ne HO_7.out BK160.out (by decide))); have n2_ := Aside0.mk (blk_grown (g := gb171) (o := .cells #[.int .i64 ((zae y166 x41_3).f0), .int .i64 ((zae y166 x41_3).f1), .int .i64 ((zae y166 x41_3).f2)] 80 (0, 0)) (by (with_reducible repeat (first | refine za3 ?_ _ | refine za4 ?_ | refine za2 ?_ _)); exact BK171.out) hg (Kd.R_ne HO_7.out BK171.out (by decide))); have n3_ := Aside0.mk (Kd.R_over' (v := (.slice (some ⟨go42, 0, none⟩) x7_3.length co46)) (by (with_reducible repeat (first | apply Kd.zaj | apply Kd.zak | apply Kd.zam)); exact HO180.out) (Kd.R_typed HO_7.out) (by decide) hg); have n4_ := Aside0.mk ((by rw [hw]; exact below_set (HB.out) GB42.out : Below w.heap.size w w55)); clear HO_7; clear BK160; clear BK171; clear HO180; clear HB; have HO_7 := n0_; have BK160 := n1_; have BK171 := n2_; have HO180 := n3_; have HB := n4_; clear n0_ n1_ n2_ n3_ n4_; clear hg hw hp_))
                       go_roundg k3
                       case measure => have := HK1.out; have := HK2.out; have := HK3.out; omega
                       case rel => exact ⟨(y181), (y178), (wrap64 (x41_3 + 1)), (by first | rfl | (simp; done) | (simp [*]; done)), H', ⟨by have := HK1.out; have := HK2.out; have := HK3.out; omega⟩, ⟨by (with_reducible repeat (first | apply Kd.zaj | apply Kd.zak | apply Kd.zam)); exact HO_7.out⟩, ⟨by (with_reducible repeat (first | apply Kd.zaj | apply Kd.zak | apply Kd.zam)); exact HO180.out⟩, ⟨by (with_reducible repeat (first | refine za3 ?_ _ | refine za4 ?_ | refine za2 ?_ _)); exact BK160.out⟩, ⟨bw_⟩⟩
                      ·rw [if_neg c41] at H
                       exact absurd H (by simp)
                     ·rw [if_neg c40] at H
                      exact absurd H (by simp)
                    ·rw [if_neg c39] at H
                     exact absurd H (by simp)
                  ·rw [if_neg c32] at H
                   exact absurd H (by simp)
                 ·rw [if_neg c31] at H
                  exact absurd H (by simp)
               ·rw [if_neg c25] at H
                exact absurd H (by simp)
              ·rw [if_neg c24] at H
               exact absurd H (by simp)
             ·rw [if_neg c23] at H
              exact absurd H (by simp)
            ·rw [if_neg c22] at H
             exact absurd H (by simp)
           ·rw [if_neg c21] at H
            have c21b0 : decide (x41_3 < (y166.length : Int)) = false := decide_eq_false c21
            clear c21
            simp only [Option.some.injEq, Prod.mk.injEq] at H
            obtain ⟨rfl, rfl, rfl⟩ := H
            go_wp2
            go_ret3
            exact ⟨_, _, by first | rfl | (simp [zab, zaa] <;> rfl) | (simp [*, zab, zaa] <;> rfl), by (with_reducible repeat (first | apply Kd.zaj | apply Kd.zak | apply Kd.zam)); exact HO_7.out, by (with_reducible repeat (first | apply Kd.zaj | apply Kd.zak | apply Kd.zam)); exact HO_11.out, bw_⟩
        ·rw [if_neg c18] at H
         exact absurd H (by simp)
       ·rw [if_neg c17] at H
        exact absurd H (by simp)

/-! ### spec_rePlan: function 62 -/
def spec_rePlan.l0 : Nat → List Int → List Int → Int → Int → Int → List (S117) → List Int → Option (Int × (List (S117)) × List Int × Bool)
 | 0, _, _, _, _, _, _, _ => none
 | k + 1, x4, x32, x33, x34, x193000, x193001, x193002 => if x34 < x33 then (if 0 ≤ x34 then (if x34 < (x32.length : Int) then (if 0 ≤ (rd x32 x34) then (if (rd x32 x34) < (x4.length : Int) then (if (rd x4 (rd x32 x34)) < 0 then (some (0, ([] : List (S117)), ([] : List Int), false)) else (if x193002.length < 17592186044416 then (spec_rePlan.l0 k x4 x32 x33 (wrap64 (x34 + 1)) x193000 x193001 (x193002 ++ [rd x4 (rd x32 x34)])) else (none))) else (none)) else (none)) else (none)) else (none)) else ((spec_plGood.f k x193000 x193001 x193002).bind fun t199 => (some (x193000, x193001, x193002, t199)))
def spec_rePlan.f (k : Nat) (a0_0 : Int) (l0_1 : List Int) (l0_2 : List (S80)) (l0_3 : List Int) : Option (Int × (List (S117)) × List Int × Bool) := (spec_reShape.f k a0_0 l0_1 l0_2 l0_3).bind fun t184 => (if t184 = true then ((spec_reValues.f k a0_0 l0_1 l0_2 l0_3 (l0_2.length : Int)).bind fun bt185 => (if bt185.2.2 = true then (spec_rePlan.l0 k bt185.1 l0_3 (l0_3.length : Int) 0 (l0_1.length : Int) bt185.2.1 ([] : List Int)) else (some (0, ([] : List (S117)), ([] : List Int), false)))) else (some (0, ([] : List (S117)), ([] : List Int), false)))
theorem spec_rePlan.zb5 : ∀ k, (∀ y0 y1 y2 y3 y4 y5 y6, LeO (spec_rePlan.l0 k y0 y1 y2 y3 y4 y5 y6) (spec_rePlan.l0 (k + 1) y0 y1 y2 y3 y4 y5 y6))
 | 0 => fun _ _ _ _ _ _ _ r h => by simp [spec_rePlan.l0] at h
 | k + 1 => by
  have ih0 := spec_rePlan.zb5 k
  ·intro y0 y1 y2 y3 y4 y5 y6
   unfold spec_rePlan.l0
   repeat' first
   | (with_reducible exact ih0 _ _ _ _ _ _ _)
   | (with_reducible exact spec_plGood.mono _ _ _ _)
   | (with_reducible exact spec_reShape.mono _ _ _ _ _)
   | (with_reducible exact spec_reValues.mono _ _ _ _ _ _)
   | (with_reducible exact LeO.refl _)
   | (with_reducible exact LeO.none _)
   | (with_reducible refine LeO.ite ?_ ?_)
   | (with_reducible refine LeO.bind ?_ (fun _ => ?_))
   | exact ih0 _ _ _ _ _ _ _
   | exact spec_plGood.mono _ _ _ _
   | exact spec_reShape.mono _ _ _ _ _
   | exact spec_reValues.mono _ _ _ _ _ _
   | exact LeO.none _
   | refine LeO.ite ?_ ?_
   | refine LeO.bind ?_ (fun _ => ?_)
theorem spec_rePlan.mono : ∀ a0 a1 a2 a3 k, LeO (spec_rePlan.f k a0 a1 a2 a3) (spec_rePlan.f (k + 1) a0 a1 a2 a3) := by
 intro a0 a1 a2 a3 k
 have ih0 := spec_rePlan.zb5 k
 unfold spec_rePlan.f
 repeat' first
   | (with_reducible exact ih0 _ _ _ _ _ _ _)
   | (with_reducible exact spec_plGood.mono _ _ _ _)
   | (with_reducible exact spec_reShape.mono _ _ _ _ _)
   | (with_reducible exact spec_reValues.mono _ _ _ _ _ _)
   | (with_reducible exact LeO.refl _)
   | (with_reducible exact LeO.none _)
   | (with_reducible refine LeO.ite ?_ ?_)
   | (with_reducible refine LeO.bind ?_ (fun _ => ?_))
   | exact ih0 _ _ _ _ _ _ _
   | exact spec_plGood.mono _ _ _ _
   | exact spec_reShape.mono _ _ _ _ _
   | exact spec_reValues.mono _ _ _ _ _ _
   | exact LeO.none _
   | refine LeO.ite ?_ ?_
   | refine LeO.bind ?_ (fun _ => ?_)
def spec_rePlan.T12 : Bool × List (List Nat × List Nat) := (true, [([], []), ([0], [0]), ([], []), ([], []), ([2, 3], [2, 3]), ([4], [4]), ([5], [5]), ([1, 6], [1, 6]), ([0, 1, 2, 3, 4, 5, 6, 7], []), ([8, 7, 7, 0, 1, 2, 3, 4, 5, 6, 7], [7, 8])])
def spec_rePlan.B12 : List Nat := [0, 1, 0, 0, 12, 28, 60, 127, 255, 511]
theorem spec_rePlan.tab12 : rtab .any (opsOf Try.f62 12) = spec_rePlan.T12 := by kernel_rfl
theorem spec_rePlan.bits12 : waitsOk spec_rePlan.T12.2 spec_rePlan.B12 = true := by kernel_rfl
set_option maxHeartbeats 8000000 in
set_option maxRecDepth 100000 in
theorem spec_rePlan.calls (k : Nat) (a0_0 : Int) (A0_1 : Option Addr) (c0_1 : Nat) (l0_1 : List Int) (A0_2 : Option Addr) (c0_2 : Nat) (l0_2 : List (S80)) (A0_3 : Option Addr) (c0_3 : Nat) (l0_3 : List Int) (r1 : Int) (r2 : List (S117)) (r3 : List Int) (r4 : Bool) (w : World) (hr0_1 : Kd.C (Kd.int .i64) w A0_1 l0_1.length l0_1) (hc0_1 : l0_1.length ≤ c0_1) (hr0_2 : Kd.C k80 w A0_2 l0_2.length l0_2) (hc0_2 : l0_2.length ≤ c0_2) (hr0_3 : Kd.C (Kd.int .i64) w A0_3 l0_3.length l0_3) (hc0_3 : l0_3.length ≤ c0_3) (h : spec_rePlan.f k a0_0 l0_1 l0_2 l0_3 = some (r1, r2, r3, r4)) :
  Calls Try.prog 62 #[.agg #[.int .i64 a0_0, .slice A0_1 l0_1.length c0_1, .slice A0_2 l0_2.length c0_2, .slice A0_3 l0_3.length c0_3]] w fun e w' => ∃ v1_ v2_ : Value, e = .returned (.tuple #[.agg #[.int .i64 r1, v1_, v2_], .bool r4]) ∧ Kd.R k117 117 w' w.heap.size (fun _ => True) v1_ r2 ∧ Kd.R (Kd.int .i64) 3 w' w.heap.size (fun _ => True) v2_ r3 ∧ Below w.heap.size w w' := by
 have hu30 := Try.underlying30
 have hu36 := Try.underlying36
 have HR0_1 := Aside0.mk hr0_1
 have HC0_1 := Aside0.mk hc0_1
 clear hr0_1 hc0_1
 have HR0_2 := Aside0.mk hr0_2
 have HC0_2 := Aside0.mk hc0_2
 clear hr0_2 hc0_2
 have HR0_3 := Aside0.mk hr0_3
 have HC0_3 := Aside0.mk hc0_3
 clear hr0_3 hc0_3
 have HB := Aside0.mk (Below.refl w.heap.size w)
 have H : ((spec_reShape.f k a0_0 l0_1 l0_2 l0_3).bind fun t184 => (if t184 = true then ((spec_reValues.f k a0_0 l0_1 l0_2 l0_3 (l0_2.length : Int)).bind fun bt185 => (if bt185.2.2 = true then (spec_rePlan.l0 k bt185.1 l0_3 (l0_3.length : Int) 0 (l0_1.length : Int) bt185.2.1 ([] : List Int)) else (some (0, ([] : List (S117)), ([] : List Int), false)))) else (some (0, ([] : List (S117)), ([] : List Int), false)))) = some (r1, r2, r3, r4) := h
 clear h
 replace H := Option.bind_eq_some_iff.mp H
 obtain ⟨t184, A20, H⟩ := H
 replace H : (if t184 = true then ((spec_reValues.f k a0_0 l0_1 l0_2 l0_3 (l0_2.length : Int)).bind fun bt185 => (if bt185.2.2 = true then (spec_rePlan.l0 k bt185.1 l0_3 (l0_3.length : Int) 0 (l0_1.length : Int) bt185.2.1 ([] : List Int)) else (some (0, ([] : List (S117)), ([] : List Int), false)))) else (some (0, ([] : List (S117)), ([] : List Int), false))) = some (r1, r2, r3, r4) := H
 have A2 := Aside0.mk A20
 clear A20
 by_cases c3 : t184 = true
 ·subst c3
  have H1 : ((spec_reValues.f k a0_0 l0_1 l0_2 l0_3 (l0_2.length : Int)).bind fun bt185 => (if bt185.2.2 = true then (spec_rePlan.l0 k bt185.1 l0_3 (l0_3.length : Int) 0 (l0_1.length : Int) bt185.2.1 ([] : List Int)) else (some (0, ([] : List (S117)), ([] : List Int), false)))) = some (r1, r2, r3, r4) := by rw [if_pos rfl] at H; exact H
  clear H
  have H := H1
  clear H1
  replace H := Option.bind_eq_some_iff.mp H
  obtain ⟨⟨t185, t188, t191⟩, A40, H⟩ := H
  replace H : (if t191 = true then (spec_rePlan.l0 k t185 l0_3 (l0_3.length : Int) 0 (l0_1.length : Int) t188 ([] : List Int)) else (some (0, ([] : List (S117)), ([] : List Int), false))) = some (r1, r2, r3, r4) := H
  have A4 := Aside0.mk A40
  clear A40
  by_cases c5 : t191 = true
  ·subst c5
   have H1 : (spec_rePlan.l0 k t185 l0_3 (l0_3.length : Int) 0 (l0_1.length : Int) t188 ([] : List Int)) = some (r1, r2, r3, r4) := by rw [if_pos rfl] at H; exact H
   clear H
   have H := H1
   clear H1
   have H' := Aside0.mk H
   clear H
   go_enter Try.func62, Try.ntmps62
   go_wp2_with (first | ((with_reducible refine zaf (N := 1) rfl ?_); refine zad ?hg (N := 1) ?hd (cs := #[.int .i64 a0_0, .slice A0_1 l0_1.length c0_1, .slice A0_2 l0_2.length c0_2, .slice A0_3 l0_3.length c0_3]) (t := 30) ?hr ?_; (case hd => rfl); (case hg => rfl); (case hr => first | (go_simp; done) | (go_simp; rfl)); intro gb182 hg w6 hbox hb; have n0_ := Aside0.mk (za8 bw_ hb); have n1_ := Aside0.mk (hbox); have n2_ := Aside0.mk ((by rw [hg]; exact (za6 bw_) : w.heap.size ≤ gb182)); have n3_ := Aside0.mk ((by rw [hg]; exact (za6 bw_) : w.heap.size ≤ gb182)); clear HB; have HB := n0_; have BK182 := n1_; have GW182 := n2_; have GE182 := n3_; clear n0_ n1_ n2_ n3_; clear hb hbox hg) | ((with_reducible refine zaf (N := 2) rfl ?_); refine zad ?hg (N := 2) ?hd (cs := #[.int .i64 0, .slice none 0 0, .slice none 0 0]) (t := 36) ?hr ?_; (case hd => rfl); (case hg => rfl); (case hr => first | (go_simp; done) | (go_simp; rfl)); intro gb183 hg w7 hbox hb; have n0_ := Aside0.mk (za7 (g := gb182) (o := .cells #[.int .i64 a0_0, .slice A0_1 l0_1.length c0_1, .slice A0_2 l0_2.length c0_2, .slice A0_3 l0_3.length c0_3] 30 (0, 0)) (by (with_reducible repeat (first | refine za3 ?_ _ | refine za4 ?_ | refine za2 ?_ _)); exact BK182.out) hb); have n1_ := Aside0.mk (za8 bw_ hb); have n2_ := Aside0.mk (hbox); have n3_ := Aside0.mk ((by rw [hg]; exact (za6 bw_) : w.heap.size ≤ gb183)); have n4_ := Aside0.mk ((by rw [hg]; exact (za6 bw_) : w.heap.size ≤ gb183)); have n5_ := Aside0.mk ((by rw [hg]; exact Nat.ne_of_lt (zan (g := gb182) (o := .cells #[.int .i64 a0_0, .slice A0_1 l0_1.length c0_1, .slice A0_2 l0_2.length c0_2, .slice A0_3 l0_3.length c0_3] 30 (0, 0)) (by (with_reducible repeat (first | refine za3 ?_ _ | refine za4 ?_ | refine za2 ?_ _)); exact BK182.out)) : gb182 ≠ gb183)); have n6_ := Aside0.mk ((by rw [hg]; exact Nat.ne_of_gt (zan (g := gb182) (o := .cells #[.int .i64 a0_0, .slice A0_1 l0_1.length c0_1, .slice A0_2 l0_2.length c0_2, .slice A0_3 l0_3.length c0_3] 30 (0, 0)) (by (with_reducible repeat (first | refine za3 ?_ _ | refine za4 ?_ | refine za2 ?_ _)); exact BK182.out)) : gb183 ≠ gb182)); clear BK182; clear HB; have BK182 := n0_; have HB := n1_; have BK183 := n2_; have GW183 := n3_; have GE183 := n4_; have NB182_183 := n5_; have NB183_182 := n6_; clear n0_ n1_ n2_ n3_ n4_ n5_ n6_; clear hb hbox hg; have hnb8 := NB182_183.out; have hnc8 := NB183_182.out; have hcz9_0 : w7.cell? ⟨gb182, 0, none⟩ = some (.int .i64 a0_0) := (za1 BK182.out 0).trans rfl; have hcz9_1 : w7.cell? ⟨gb182, 1, none⟩ = some (.slice A0_1 l0_1.length c0_1) := (za1 BK182.out 1).trans rfl; have hcz9_2 : w7.cell? ⟨gb182, 2, none⟩ = some (.slice A0_2 l0_2.length c0_2) := (za1 BK182.out 2).trans rfl; have hcz9_3 : w7.cell? ⟨gb182, 3, none⟩ = some (.slice A0_3 l0_3.length c0_3) := (za1 BK182.out 3).trans rfl; have hfz9_0 := za0 BK182.out 0; have hfz9_1 := za0 BK182.out 1; have hfz9_2 := za0 BK182.out 2; have hfz9_3 := za0 BK182.out 3) | ((with_reducible refine zah (f := 128) rfl ?_); refine zaz (some 11) rfl rfl Try.func128 (by kernel_rfl) rfl #[.agg #[.int .i64 a0_0, .slice A0_1 l0_1.length c0_1, .slice A0_2 l0_2.length c0_2, .slice A0_3 l0_3.length c0_3]] rfl (by (try simp only [List.map_toArray, List.map_cons, List.map_nil]); first | done | rfl | (simp only [List.length_drop, List.length_take]; rfl)) ?_; (with_reducible refine (spec_reShape.calls k a0_0 _ _ l0_1 _ _ l0_2 _ _ l0_3 true _ ?side1 ?side2 ?side3 ?side4 ?side5 ?side6 A2.out).mono ?_); (case side1 => exact Kd.zac HR0_1.out bw_); (case side2 => exact HC0_1.out); (case side3 => exact Kd.zac HR0_2.out bw_); (case side4 => exact HC0_2.out); (case side5 => exact Kd.zac HR0_3.out bw_); (case side6 => exact HC0_3.out); rintro e w10 ⟨rfl, hb⟩; refine ⟨_, rfl, ?_⟩; have n0_ := Aside0.mk (za7 (g := gb182) (o := .cells #[.int .i64 a0_0, .slice A0_1 l0_1.length c0_1, .slice A0_2 l0_2.length c0_2, .slice A0_3 l0_3.length c0_3] 30 (0, 0)) (by (with_reducible repeat (first | refine za3 ?_ _ | refine za4 ?_ | refine za2 ?_ _)); exact BK182.out) hb); have n1_ := Aside0.mk (za7 (g := gb183) (o := .cells #[.int .i64 0, .slice none 0 0, .slice none 0 0] 36 (0, 0)) (by (with_reducible repeat (first | refine za3 ?_ _ | refine za4 ?_ | refine za2 ?_ _)); exact BK183.out) hb); have n2_ := Aside0.mk (za8 bw_ hb); clear BK182; clear BK183; clear HB; have BK182 := n0_; have BK183 := n1_; have HB := n2_; clear n0_ n1_ n2_; (try clear hb); (try clear hb2); (try clear hk); (try clear hi); have hcz11_0 : w10.cell? ⟨gb182, 0, none⟩ = some (.int .i64 a0_0) := (za1 BK182.out 0).trans rfl; have hcz11_1 : w10.cell? ⟨gb182, 1, none⟩ = some (.slice A0_1 l0_1.length c0_1) := (za1 BK182.out 1).trans rfl; have hcz11_2 : w10.cell? ⟨gb182, 2, none⟩ = some (.slice A0_2 l0_2.length c0_2) := (za1 BK182.out 2).trans rfl; have hcz11_3 : w10.cell? ⟨gb182, 3, none⟩ = some (.slice A0_3 l0_3.length c0_3) := (za1 BK182.out 3).trans rfl; have hfz11_0 := za0 BK182.out 0; have hfz11_1 := za0 BK182.out 1; have hfz11_2 := za0 BK182.out 2; have hfz11_3 := za0 BK182.out 3) | ((with_reducible refine zah (f := 129) rfl ?_); refine zaz (some 19) rfl rfl Try.func129 (by kernel_rfl) rfl #[.agg #[.int .i64 a0_0, .slice A0_1 l0_1.length c0_1, .slice A0_2 l0_2.length c0_2, .slice A0_3 l0_3.length c0_3], .int .i64 (l0_2.length : Int)] rfl (by (try simp only [List.map_toArray, List.map_cons, List.map_nil]); first | done | rfl | (simp only [List.length_drop, List.length_take]; rfl)) ?_; (with_reducible refine (spec_reValues.calls k a0_0 _ _ l0_1 _ _ l0_2 _ _ l0_3 (l0_2.length : Int) t185 t188 true _ ?side1 ?side2 ?side3 ?side4 ?side5 ?side6 A4.out).mono ?_); (case side1 => exact Kd.zac HR0_1.out bw_); (case side2 => exact HC0_1.out); (case side3 => exact Kd.zac HR0_2.out bw_); (case side4 => exact HC0_2.out); (case side5 => exact Kd.zac HR0_3.out bw_); (case side6 => exact HC0_3.out); rintro e w12 ⟨v186, v189, rfl, ho0, ho1, hb⟩; refine ⟨_, rfl, ?_⟩; have n0_ := Aside0.mk (Kd.R_lower ho0 (za6 bw_)); have n1_ := Aside0.mk (Kd.R_lower ho1 (za6 bw_)); have n2_ := Aside0.mk (za7 (g := gb182) (o := .cells #[.int .i64 a0_0, .slice A0_1 l0_1.length c0_1, .slice A0_2 l0_2.length c0_2, .slice A0_3 l0_3.length c0_3] 30 (0, 0)) (by (with_reducible repeat (first | refine za3 ?_ _ | refine za4 ?_ | refine za2 ?_ _)); exact BK182.out) hb); have n3_ := Aside0.mk (za7 (g := gb183) (o := .cells #[.int .i64 0, .slice none 0 0, .slice none 0 0] 36 (0, 0)) (by (with_reducible repeat (first | refine za3 ?_ _ | refine za4 ?_ | refine za2 ?_ _)); exact BK183.out) hb); have n4_ := Aside0.mk (za8 bw_ hb); clear BK182; clear BK183; clear HB; have HO187 := n0_; have HO190 := n1_; have BK182 := n2_; have BK183 := n3_; have HB := n4_; clear n0_ n1_ n2_ n3_ n4_; (try clear hb); (try clear hb2); (try clear hk); (try clear hi); (try clear ho0); (try clear ho1); have hcz13_0 : w12.cell? ⟨gb182, 0, none⟩ = some (.int .i64 a0_0) := (za1 BK182.out 0).trans rfl; have hcz13_1 : w12.cell? ⟨gb182, 1, none⟩ = some (.slice A0_1 l0_1.length c0_1) := (za1 BK182.out 1).trans rfl; have hcz13_2 : w12.cell? ⟨gb182, 2, none⟩ = some (.slice A0_2 l0_2.length c0_2) := (za1 BK182.out 2).trans rfl; have hcz13_3 : w12.cell? ⟨gb182, 3, none⟩ = some (.slice A0_3 l0_3.length c0_3) := (za1 BK182.out 3).trans rfl; have hfz13_0 := za0 BK182.out 0; have hfz13_1 := za0 BK182.out 1; have hfz13_2 := za0 BK182.out 2; have hfz13_3 := za0 BK182.out 3; obtain ⟨Ao14, co14, eo14⟩ := Kd.zat HO190.out; subst eo14) | ((with_reducible refine zaf (N := 7) rfl ?_); refine zad ?hg (N := 7) ?hd (cs := #[.int .i64 0, .slice none 0 0, .slice none 0 0]) (t := 36) ?hr ?_; (case hd => rfl); (case hg => rfl); (case hr => first | (go_simp; done) | (go_simp; rfl)); intro gb192 hg w15 hbox hb; have n0_ := Aside0.mk (Kd.zba (by (with_reducible repeat (first | apply Kd.zaj | apply Kd.zak | apply Kd.zam)); exact HO187.out) hb); have n1_ := Aside0.mk (Kd.zba (by (with_reducible repeat (first | apply Kd.zaj | apply Kd.zak | apply Kd.zam)); exact HO190.out) hb); have n2_ := Aside0.mk (za7 (g := gb182) (o := .cells #[.int .i64 a0_0, .slice A0_1 l0_1.length c0_1, .slice A0_2 l0_2.length c0_2, .slice A0_3 l0_3.length c0_3] 30 (0, 0)) (by (with_reducible repeat (first | refine za3 ?_ _ | refine za4 ?_ | refine za2 ?_ _)); exact BK182.out) hb); have n3_ := Aside0.mk (za7 (g := gb183) (o := .cells #[.int .i64 0, .slice none 0 0, .slice none 0 0] 36 (0, 0)) (by (with_reducible repeat (first | refine za3 ?_ _ | refine za4 ?_ | refine za2 ?_ _)); exact BK183.out) hb); have n4_ := Aside0.mk (za8 bw_ hb); have n5_ := Aside0.mk (hbox); have n6_ := Aside0.mk ((by rw [hg]; exact (za6 bw_) : w.heap.size ≤ gb192)); have n7_ := Aside0.mk ((by rw [hg]; exact (za6 bw_) : w.heap.size ≤ gb192)); have n8_ := Aside0.mk ((by rw [hg]; exact Nat.ne_of_lt (zan (g := gb182) (o := .cells #[.int .i64 a0_0, .slice A0_1 l0_1.length c0_1, .slice A0_2 l0_2.length c0_2, .slice A0_3 l0_3.length c0_3] 30 (0, 0)) (by (with_reducible repeat (first | refine za3 ?_ _ | refine za4 ?_ | refine za2 ?_ _)); exact BK182.out)) : gb182 ≠ gb192)); have n9_ := Aside0.mk ((by rw [hg]; exact Nat.ne_of_gt (zan (g := gb182) (o := .cells #[.int .i64 a0_0, .slice A0_1 l0_1.length c0_1, .slice A0_2 l0_2.length c0_2, .slice A0_3 l0_3.length c0_3] 30 (0, 0)) (by (with_reducible repeat (first | refine za3 ?_ _ | refine za4 ?_ | refine za2 ?_ _)); exact BK182.out)) : gb192 ≠ gb182)); have n10_ := Aside0.mk ((by rw [hg]; exact Nat.ne_of_lt (zan (g := gb183) (o := .cells #[.int .i64 0, .slice none 0 0, .slice none 0 0] 36 (0, 0)) (by (with_reducible repeat (first | refine za3 ?_ _ | refine za4 ?_ | refine za2 ?_ _)); exact BK183.out)) : gb183 ≠ gb192)); have n11_ := Aside0.mk ((by rw [hg]; exact Nat.ne_of_gt (zan (g := gb183) (o := .cells #[.int .i64 0, .slice none 0 0, .slice none 0 0] 36 (0, 0)) (by (with_reducible repeat (first | refine za3 ?_ _ | refine za4 ?_ | refine za2 ?_ _)); exact BK183.out)) : gb192 ≠ gb183)); clear HO187; clear HO190; clear BK182; clear BK183; clear HB; have HO187 := n0_; have HO190 := n1_; have BK182 := n2_; have BK183 := n3_; have HB := n4_; have BK192 := n5_; have GW192 := n6_; have GE192 := n7_; have NB182_192 := n8_; have NB192_182 := n9_; have NB183_192 := n10_; have NB192_183 := n11_; clear n0_ n1_ n2_ n3_ n4_ n5_ n6_ n7_ n8_ n9_ n10_ n11_; clear hb hbox hg; have hnb16 := NB192_182.out; have hnc16 := NB182_192.out; have hnb17 := NB192_183.out; have hnc17 := NB183_192.out; have hcz18_0 : w15.cell? ⟨gb192, 0, none⟩ = some (.int .i64 0) := (za1 BK192.out 0).trans rfl; have hcz18_1 : w15.cell? ⟨gb192, 1, none⟩ = some (.slice none 0 0) := (za1 BK192.out 1).trans rfl; have hcz18_2 : w15.cell? ⟨gb192, 2, none⟩ = some (.slice none 0 0) := (za1 BK192.out 2).trans rfl; have hfz18_0 := za0 BK192.out 0; have hfz18_1 := za0 BK192.out 1; have hfz18_2 := za0 BK192.out 2; have hcz19_0 : w15.cell? ⟨gb182, 0, none⟩ = some (.int .i64 a0_0) := (za1 BK182.out 0).trans rfl; have hcz19_1 : w15.cell? ⟨gb182, 1, none⟩ = some (.slice A0_1 l0_1.length c0_1) := (za1 BK182.out 1).trans rfl; have hcz19_2 : w15.cell? ⟨gb182, 2, none⟩ = some (.slice A0_2 l0_2.length c0_2) := (za1 BK182.out 2).trans rfl; have hcz19_3 : w15.cell? ⟨gb182, 3, none⟩ = some (.slice A0_3 l0_3.length c0_3) := (za1 BK182.out 3).trans rfl; have hfz19_0 := za0 BK182.out 0; have hfz19_1 := za0 BK182.out 1; have hfz19_2 := za0 BK182.out 2; have hfz19_3 := za0 BK182.out 3))
   go_loopg [34] k (fun kq v34 w' => ∃ (x34_1 : Int) (x184000_1 : Int) (x193002_1 : List Int) (u193002 : Value), v34 = .int .i64 x34_1 ∧ Aside0 (spec_rePlan.l0 kq t185 l0_3 (l0_3.length : Int) x34_1 (l0_1.length : Int) t188 x193002_1 = some (r1, r2, r3, r4)) ∧ Aside0 (kq ≤ k) ∧ Aside0 (Kd.R (Kd.int .i64) 3 w' w.heap.size (fun k_ => some k_ ≠ (u193002 : Value).ownBlock) v186 t185) ∧ Aside0 (Kd.R k117 117 w' w.heap.size (fun _ => True) (.slice Ao14 t188.length co14) t188) ∧ Aside0 (Kd.R (Kd.int .i64) 3 w' w.heap.size (fun k_ => some k_ ≠ (v186 : Value).ownBlock) u193002 x193002_1) ∧ Aside0 (w'.heap[gb182]? = some (.cells #[.int .i64 a0_0, (.slice A0_1 l0_1.length c0_1), (.slice A0_2 l0_2.length c0_2), (.slice A0_3 l0_3.length c0_3)] 30 (0, 0))) ∧ Aside0 (w'.heap[gb183]? = some (.cells #[.int .i64 x184000_1, (.slice none 0 0), (.slice none 0 0)] 36 (0, 0))) ∧ Aside0 (w'.heap[gb192]? = some (.cells #[.int .i64 (l0_1.length : Int), (.slice Ao14 t188.length co14), u193002] 36 (0, 0))) ∧ Aside0 (Below w.heap.size w w'))
   case atStart => exact ⟨(0), (0), (([] : List Int)), (.slice none 0 0), (by first | rfl | (simp; done) | (simp [*]; done)), H', ⟨Nat.le_refl _⟩, ⟨by (with_reducible repeat (first | apply Kd.zaj | apply Kd.zak | apply Kd.zam)); exact Kd.zar (Kd.R_far (p := ⟨gb192, 2, none⟩) (Kd.R_far (p := ⟨gb192, 1, none⟩) (Kd.R_far (p := ⟨gb192, 0, none⟩) (Kd.R_types HO187.out BK192.out (by decide)) (fun _ hk => hk.2) (.int .i64 (l0_1.length : Int))) (fun _ hk => hk.2) (.slice Ao14 t188.length co14)) (fun _ hk => hk.2) (.slice none 0 0)) (fun _ hk => (by simp [Value.ownBlock]))⟩, ⟨by (with_reducible repeat (first | apply Kd.zaj | apply Kd.zak | apply Kd.zam)); exact Kd.zar (Kd.R_far (p := ⟨gb192, 2, none⟩) (Kd.R_far (p := ⟨gb192, 1, none⟩) (Kd.R_far (p := ⟨gb192, 0, none⟩) (Kd.R_types HO190.out BK192.out (by decide)) (fun _ hk => hk.2) (.int .i64 (l0_1.length : Int))) (fun _ hk => hk.2) (.slice Ao14 t188.length co14)) (fun _ hk => hk.2) (.slice none 0 0)) (fun _ hk => trivial)⟩, ⟨by first | exact Kd.R_nil _ _ _ _ _ | exact Kd.N_nil _ _ _ _ _ | exact Kd.V_nil _ _ _ _ _ | exact Kd.Q_nil _ _ _ _ _ | exact Kd.S_nil _ _ _ _ _⟩, ⟨by (with_reducible repeat (first | refine za3 ?_ _ | refine za4 ?_ | refine za2 ?_ _)); refine zb2 ?_ NB182_192.out _; (with_reducible repeat (first | refine za3 ?_ _ | refine za4 ?_ | refine za2 ?_ _)); refine zb2 ?_ NB182_192.out _; (with_reducible repeat (first | refine za3 ?_ _ | refine za4 ?_ | refine za2 ?_ _)); refine zb2 ?_ NB182_192.out _; (with_reducible repeat (first | refine za3 ?_ _ | refine za4 ?_ | refine za2 ?_ _)); exact BK182.out⟩, ⟨by (with_reducible repeat (first | refine za3 ?_ _ | refine za4 ?_ | refine za2 ?_ _)); refine zb2 ?_ NB183_192.out _; (with_reducible repeat (first | refine za3 ?_ _ | refine za4 ?_ | refine za2 ?_ _)); refine zb2 ?_ NB183_192.out _; (with_reducible repeat (first | refine za3 ?_ _ | refine za4 ?_ | refine za2 ?_ _)); refine zb2 ?_ NB183_192.out _; (with_reducible repeat (first | refine za3 ?_ _ | refine za4 ?_ | refine za2 ?_ _)); exact BK183.out⟩, ⟨by (with_reducible repeat (first | refine za3 ?_ _ | refine za4 ?_ | refine za2 ?_ _)); refine zao (cs := #[.int .i64 (l0_1.length : Int), .slice Ao14 t188.length co14, .slice none 0 0]) ?_ 2 _ rfl; (with_reducible repeat (first | refine za3 ?_ _ | refine za4 ?_ | refine za2 ?_ _)); refine zao (cs := #[.int .i64 (l0_1.length : Int), .slice none 0 0, .slice none 0 0]) ?_ 1 _ rfl; (with_reducible repeat (first | refine za3 ?_ _ | refine za4 ?_ | refine za2 ?_ _)); refine zao (cs := #[.int .i64 0, .slice none 0 0, .slice none 0 0]) ?_ 0 _ rfl; (with_reducible repeat (first | refine za3 ?_ _ | refine za4 ?_ | refine za2 ?_ _)); exact BK192.out⟩, ⟨bw_⟩⟩
   case round =>
    clear H'
    try clear c1
    try clear p2
    try clear c3
    try clear c5
    try clear c6
    try clear c8
    try clear c12
    try clear c16
    try clear c17
    try clear hcz11_0
    try clear hcz11_1
    try clear hcz11_2
    try clear hcz11_3
    try clear hcz13_0
    try clear hcz13_1
    try clear hcz13_2
    try clear hcz13_3
    try clear hcz18_0
    try clear hcz18_1
    try clear hcz18_2
    try clear hcz19_0
    try clear hcz19_1
    try clear hcz19_2
    try clear hcz19_3
    try clear hcz9_0
    try clear hcz9_1
    try clear hcz9_2
    try clear hcz9_3
    try clear hfz11_0
    try clear hfz11_1
    try clear hfz11_2
    try clear hfz11_3
    try clear hfz13_0
    try clear hfz13_1
    try clear hfz13_2
    try clear hfz13_3
    try clear hfz18_0
    try clear hfz18_1
    try clear hfz18_2
    try clear hfz19_0
    try clear hfz19_1
    try clear hfz19_2
    try clear hfz19_3
    try clear hfz9_0
    try clear hfz9_1
    try clear hfz9_2
    try clear hfz9_3
    obtain ⟨x34_1, x184000_1, x193002_1, u193002, rfl, HA, HK1, HO_4, HO_193001, HO_193002, BK182, BK183, BK192, HB⟩ := hrel
    cases gk with
    | zero => exact absurd HA.out (by simp [spec_rePlan.l0])
    | succ k1 =>
     have H := HA.out
     clear HA
     simp only [spec_rePlan.l0] at H
     by_cases c20 : x34_1 < (l0_3.length : Int)
     ·rw [if_pos c20] at H
      have c20b0 : decide (x34_1 < (l0_3.length : Int)) = true := decide_eq_true c20
      clear c20
      by_cases c21 : 0 ≤ x34_1
      ·rw [if_pos c21] at H
       have c21b0 : decide (0 ≤ x34_1) = true := decide_eq_true c21
       clear c21
       by_cases c22 : x34_1 < (l0_3.length : Int)
       ·rw [if_pos c22] at H
        have c22b0 : decide (x34_1 < (l0_3.length : Int)) = true := decide_eq_true c22
        clear c22
        by_cases c23 : 0 ≤ (rd l0_3 x34_1)
        ·rw [if_pos c23] at H
         have c23b0 : decide (0 ≤ (rd l0_3 x34_1)) = true := decide_eq_true c23
         clear c23
         by_cases c24 : (rd l0_3 x34_1) < (t185.length : Int)
         ·rw [if_pos c24] at H
          have c24b0 : decide ((rd l0_3 x34_1) < (t185.length : Int)) = true := decide_eq_true c24
          clear c24
          by_cases c25 : (rd t185 (rd l0_3 x34_1)) < 0
          ·rw [if_pos c25] at H
           have c25b0 : decide ((rd t185 (rd l0_3 x34_1)) < 0) = true := decide_eq_true c25
           clear c25
           simp only [Option.some.injEq, Prod.mk.injEq] at H
           obtain ⟨rfl, rfl, rfl, rfl⟩ := H
           have p193 : 0 ≤ (x34_1 : Int) := of_decide_eq_true (by first | (with_reducible assumption) | assumption)
           have q193 : x34_1 < (l0_3.length : Int) := of_decide_eq_true (by first | (with_reducible assumption) | assumption)
           obtain ⟨ad193, e193, hx193_0⟩ := Kd.at_int HR0_3.out x34_1 p193 q193
           cases e193
           replace hx193_0 := (HB.out.cell (World.block_lt_of_cell? w _ hx193_0)).trans hx193_0
           replace p193 := eq_true p193
           replace q193 := eq_true q193
           obtain ⟨Ao26, co26, eo26⟩ := Kd.zat HO_4.out
           subst eo26
           have p194 : 0 ≤ ((rd l0_3 x34_1) : Int) := of_decide_eq_true (by first | (with_reducible assumption) | assumption)
           have q194 : (rd l0_3 x34_1) < (t185.length : Int) := of_decide_eq_true (by first | (with_reducible assumption) | assumption)
           obtain ⟨ad194, e194, hx194_0⟩ := Kd.at_int (Kd.R_reads' HO_4.out).2.2 (rd l0_3 x34_1) p194 q194
           cases e194
           replace p194 := eq_true p194
           replace q194 := eq_true q194
           have hnb27 := NB183_182.out
           have hnc27 := NB182_183.out
           have hnb28 := NB183_192.out
           have hnc28 := NB192_183.out
           have hcz29_0 : wr.cell? ⟨gb183, 0, none⟩ = some (.int .i64 x184000_1) := (za1 BK183.out 0).trans rfl
           have hcz29_1 : wr.cell? ⟨gb183, 1, none⟩ = some (.slice none 0 0) := (za1 BK183.out 1).trans rfl
           have hcz29_2 : wr.cell? ⟨gb183, 2, none⟩ = some (.slice none 0 0) := (za1 BK183.out 2).trans rfl
           have hfz29_0 := za0 BK183.out 0
           have hfz29_1 := za0 BK183.out 1
           have hfz29_2 := za0 BK183.out 2
           go_wp2
           refine bodyPost_ret (results_ct rfl _ _ gb183 36 #[.int .i64 0, .slice none 0 0, .slice none 0 0] (0, 0) _ rfl (by (with_reducible repeat (first | refine za3 ?_ _ | refine za4 ?_ | refine za2 ?_ _)); refine zao (cs := #[.int .i64 0, .slice none 0 0, .slice none 0 0]) ?_ 2 _ rfl; (with_reducible repeat (first | refine za3 ?_ _ | refine za4 ?_ | refine za2 ?_ _)); refine zao (cs := #[.int .i64 0, .slice none 0 0, .slice none 0 0]) ?_ 1 _ rfl; (with_reducible repeat (first | refine za3 ?_ _ | refine za4 ?_ | refine za2 ?_ _)); refine zao (cs := #[.int .i64 x184000_1, .slice none 0 0, .slice none 0 0]) ?_ 0 _ rfl; (with_reducible repeat (first | refine za3 ?_ _ | refine za4 ?_ | refine za2 ?_ _)); exact BK183.out) Try.underlying36 rfl (by kernel_rfl)) rfl ?_
           exact ⟨_, _, by first | rfl | (simp [zab, zaa] <;> rfl) | (simp [*, zab, zaa] <;> rfl), by first | exact Kd.R_nil _ _ _ _ _ | exact Kd.N_nil _ _ _ _ _ | exact Kd.V_nil _ _ _ _ _ | exact Kd.Q_nil _ _ _ _ _ | exact Kd.S_nil _ _ _ _ _, by first | exact Kd.R_nil _ _ _ _ _ | exact Kd.N_nil _ _ _ _ _ | exact Kd.V_nil _ _ _ _ _ | exact Kd.Q_nil _ _ _ _ _ | exact Kd.S_nil _ _ _ _ _, bw_⟩
          ·rw [if_neg c25] at H
           have c25b0 : decide ((rd t185 (rd l0_3 x34_1)) < 0) = false := decide_eq_false c25
           clear c25
           by_cases c30 : x193002_1.length < 17592186044416
           ·rw [if_pos c30] at H
            have LMc30 := Aside0.mk c30
            clear c30
            obtain ⟨y196, hy196⟩ : ∃ y_ : List Int, y_ = (x193002_1 ++ [rd t185 (rd l0_3 x34_1)]) := ⟨_, rfl⟩
            replace H : (spec_rePlan.l0 k1 t185 l0_3 (l0_3.length : Int) (wrap64 (x34_1 + 1)) (l0_1.length : Int) t188 y196) = some (r1, r2, r3, r4) := by first | (rw [hy196]; with_reducible exact H) | (have H2_ := (Option.bind_some _ _).symm.trans H; rw [hy196]; with_reducible exact H2_) | (have H2_ := (Option.bind_some _ _).symm.trans H; with_reducible exact H2_) | with_reducible exact H | (rw [hy196]; exact H) | exact H
            have Ny196 := Aside0.mk hy196
            clear hy196
            have H' := Aside0.mk H
            clear H
            have p193 : 0 ≤ (x34_1 : Int) := of_decide_eq_true (by first | (with_reducible assumption) | assumption)
            have q193 : x34_1 < (l0_3.length : Int) := of_decide_eq_true (by first | (with_reducible assumption) | assumption)
            obtain ⟨ad193, e193, hx193_0⟩ := Kd.at_int HR0_3.out x34_1 p193 q193
            cases e193
            replace hx193_0 := (HB.out.cell (World.block_lt_of_cell? w _ hx193_0)).trans hx193_0
            replace p193 := eq_true p193
            replace q193 := eq_true q193
            obtain ⟨Ao31, co31, eo31⟩ := Kd.zat HO_4.out
            subst eo31
            have p194 : 0 ≤ ((rd l0_3 x34_1) : Int) := of_decide_eq_true (by first | (with_reducible assumption) | assumption)
            have q194 : (rd l0_3 x34_1) < (t185.length : Int) := of_decide_eq_true (by first | (with_reducible assumption) | assumption)
            obtain ⟨ad194, e194, hx194_0⟩ := Kd.at_int (Kd.R_reads' HO_4.out).2.2 (rd l0_3 x34_1) p194 q194
            cases e194
            replace p194 := eq_true p194
            replace q194 := eq_true q194
            try go_wp2
            have n0_ := Aside0.mk (Kd.zam HO_4.out)
            have n1_ := Aside0.mk (Kd.zam HO_193001.out)
            have n2_ := Aside0.mk (Kd.zam HO_193002.out)
            have n3_ := Aside0.mk (za4 BK182.out)
            have n4_ := Aside0.mk (za4 BK183.out)
            have n5_ := Aside0.mk (za4 BK192.out)
            have n6_ := Aside0.mk (zav HB.out)
            clear HO_4
            clear HO_193001
            clear HO_193002
            clear BK182
            clear BK183
            clear BK192
            clear HB
            have HO_4 := n0_
            have HO_193001 := n1_
            have HO_193002 := n2_
            have BK182 := n3_
            have BK183 := n4_
            have BK192 := n5_
            have HB := n6_
            clear n0_ n1_ n2_ n3_ n4_ n5_ n6_
            have p195 : 0 ≤ ((rd l0_3 x34_1) : Int) := of_decide_eq_true (by first | (with_reducible assumption) | assumption)
            have q195 : (rd l0_3 x34_1) < (t185.length : Int) := of_decide_eq_true (by first | (with_reducible assumption) | assumption)
            obtain ⟨ad195, e195, hx195_0⟩ := Kd.at_int (Kd.R_reads' HO_4.out).2.2 (rd l0_3 x34_1) p195 q195
            obtain rfl : ad194 = ad195 := (by injection e195)
            replace p195 := eq_true p195
            replace q195 := eq_true q195
            refine start_ (n := 10) (S := fun w' => w'.cell? ⟨gb192, 0, none⟩ = some (.int .i64 (l0_1.length : Int)) ∧ w'.cell? ⟨gb192, 1, none⟩ = some (.slice Ao14 t188.length co14) ∧ w'.cell? ⟨gb192, 2, none⟩ = some (u193002) ∧ w'.cell? (ad194.add ((rd l0_3 x34_1)).toNat) = some (.int .i64 (rd t185 (rd l0_3 x34_1)))) (ds := [7, 9]) #[false, false, false, false, false, false, false, false, false, false] (by kernel_rfl) rfl rfl ⟨(za1 BK192.out 0).trans rfl, (za1 BK192.out 1).trans rfl, (za1 BK192.out 2).trans rfl, hx195_0⟩ (fun hHeld => ?_); refine with_tabW spec_rePlan.tab12 spec_rePlan.bits12 (fun HT_ HW_ => ?_)
            generalize wr.drew = w32 at HO_4 HO_193001 HO_193002 BK182 BK183 BK192 HB hx195_0 hHeld ⊢
            refine pure_ (i := 0) (N := some 44) (v := ?_) (a' := ?_) #[true, false, false, false, false, false, false, false, false, false] rfl rfl (zaw HT_.out (by kernel_rfl)) (fun _ _ _ h => h) (Or.inl ⟨by rfl, ?_⟩) ?_ ?_
            rotate_left
            ·intro w'
             go_simp
             with_reducible rfl
            rotate_left
            ·simp only [Act.put, sa_, sb_, sc_, i64_w, i32_w]
             rfl
            refine pure_ (i := 2) (N := some 46) (v := ?_) (a' := ?_) #[true, false, true, false, false, false, false, false, false, false] rfl rfl (zaw HT_.out (by kernel_rfl)) (fun _ _ _ h => h) (Or.inl ⟨by rfl, ?_⟩) ?_ ?_
            rotate_left
            ·intro w'
             go_simp
             with_reducible rfl
            rotate_left
            ·simp only [Act.put, sa_, sb_, sc_, i64_w, i32_w]
             rfl
            refine pure_ (i := 3) (N := some 47) (v := ?_) (a' := ?_) #[true, false, true, true, false, false, false, false, false, false] rfl rfl (zaw HT_.out (by kernel_rfl)) (fun _ _ _ h => h) (Or.inl ⟨by rfl, ?_⟩) ?_ ?_
            rotate_left
            ·intro w'
             go_simp
             with_reducible rfl
            rotate_left
            ·simp only [Act.put, sa_, sb_, sc_, i64_w, i32_w]
             rfl
            refine pure_ (i := 4) (N := some 48) (v := ?_) (a' := ?_) #[true, false, true, true, true, false, false, false, false, false] rfl rfl (zaw HT_.out (by kernel_rfl)) (fun _ _ _ h => h) (Or.inl ⟨by rfl, ?_⟩) ?_ ?_
            rotate_left
            ·intro w'
             go_simp
             with_reducible rfl
            rotate_left
            ·simp only [Act.put, sa_, sb_, sc_, i64_w, i32_w]
             rfl
            refine take_ (i := 1) (N := some 45) (v := ?_) (a' := ?_) #[true, true, true, true, true, false, false, false, false, false] rfl rfl (take_ofW HT_.out HW_.out (by kernel_rfl)) (fun _ _ _ h => h) (Or.inl ⟨by rfl, ?_⟩) hHeld ?_ ?_
            rotate_left
            ·rintro w' ⟨s0, s1, s2, s3⟩
             go_simp
             with_reducible rfl
            rotate_left
            ·simp only [Act.put, sa_, sb_, sc_, i64_w, i32_w]
             rfl
            refine take_ (i := 5) (N := some 49) (v := ?_) (a' := ?_) #[true, true, true, true, true, true, false, false, false, false] rfl rfl (take_ofW HT_.out HW_.out (by kernel_rfl)) (fun _ _ _ h => h) (Or.inl ⟨by rfl, ?_⟩) hHeld ?_ ?_
            rotate_left
            ·rintro w' ⟨s0, s1, s2, s3⟩
             go_simp
             with_reducible rfl
            rotate_left
            ·simp only [Act.put, sa_, sb_, sc_, i64_w, i32_w]
             rfl
            refine one_ (i := 6) (N := some 50) #[true, true, true, true, true, true, true, false, false, false] rfl rfl (one_of HT_.out (by kernel_rfl)) (by decide) (fun K hK => ?_)
            refine value_ (w1 := ?_) (v := ?_) (by rfl) rfl ?_ ?_
            rotate_left 2
            ·go_simp
             constructor
             ·rfl
             ·rfl
            refine hK.out _ _ ⟨(za1 (za2 BK192.out _) 0).trans rfl, (za1 (za2 BK192.out _) 1).trans rfl, (za1 (za2 BK192.out _) 2).trans rfl, (World.cell?_alloc_lt _ _ _ (World.block_lt_of_cell? _ _ (hHeld.2.2.2))).trans (hHeld.2.2.2)⟩ (fun hHeld => ?_)
            clear hK K
            refine norm_ (a' := ?_) ?_ ?_
            rotate_left
            ·show Act.put _ (some 50) _ = _
             simp only [Act.put, sa_, sb_, sc_, i64_w, i32_w]
             rfl
            refine last_ (i := 7) (N := some 51) #[true, true, true, true, true, true, true, true, false, false] rfl rfl (one_of HT_.out (by kernel_rfl)) (by decide) (fun K hK => ?_)
            refine Kd.R_append_step (Kd.int .i64) (w0 := w) w.heap.size (by rfl) (.tmp 45) (.tmp 50) 22 3 (.int .i64 0) 8 rfl Try.underlying22 info3 rfl (by decide) (by omega) u193002 x193002_1 (rd t185 (rd l0_3 x34_1)) [.int .i64 (rd t185 (rd l0_3 x34_1))] (fun k_ => some k_ ≠ (.slice (some ad194) t185.length co31 : Value).ownBlock) (fun _ => False) rfl rfl ?aP (fun _ hk => hk.elim) ?aF ?aO ?aB ?aS ?aL ?_
            (case aP => exact rfl)
            (case aB => exact bw_)
            (case aF => exact (fun k_ hk => Kd.fresh' (Kd.R_lt (by (with_reducible repeat (first | apply Kd.zaj | apply Kd.zak | apply Kd.zam)); exact HO_4.out)) k_ hk))
            (case aO => exact (by (with_reducible repeat (first | apply Kd.zaj | apply Kd.zak | apply Kd.zam)); exact HO_193002.out))
            (case aS => exact (za6 bw_))
            (case aL => have := LMc30.out; omega)
            intro v197 w33 ho hb hg hat
            rw [← Ny196.out] at ho
            have n0_ := Aside0.mk (Kd.R_after (ok := (fun _ => True)) (by (with_reducible repeat (first | apply Kd.zaj | apply Kd.zak | apply Kd.zam)); exact Kd.zar HO_4.out (fun _ hk => ⟨trivial, hk⟩)) hg hat)
            have n1_ := Aside0.mk (Kd.R_over' (by (with_reducible repeat (first | apply Kd.zaj | apply Kd.zak | apply Kd.zam)); exact HO_193001.out) (Kd.R_typed (by (with_reducible repeat (first | apply Kd.zaj | apply Kd.zak | apply Kd.zam)); exact HO_193002.out)) (by decide) hg)
            have n2_ := Aside0.mk (blk_grown (g := gb182) (o := .cells #[.int .i64 a0_0, .slice A0_1 l0_1.length c0_1, .slice A0_2 l0_2.length c0_2, .slice (some ad193) l0_3.length c0_3] 30 (0, 0)) (by (with_reducible repeat (first | refine za3 ?_ _ | refine za4 ?_ | refine za2 ?_ _)); exact BK182.out) hg (Kd.R_ne HO_193002.out BK182.out (by decide)))
            have n3_ := Aside0.mk (blk_grown (g := gb183) (o := .cells #[.int .i64 x184000_1, .slice none 0 0, .slice none 0 0] 36 (0, 0)) (by (with_reducible repeat (first | refine za3 ?_ _ | refine za4 ?_ | refine za2 ?_ _)); exact BK183.out) hg (Kd.R_ne HO_193002.out BK183.out (by decide)))
            have n4_ := Aside0.mk (blk_grown (g := gb192) (o := .cells #[.int .i64 (l0_1.length : Int), .slice Ao14 t188.length co14, u193002] 36 (0, 0)) (by (with_reducible repeat (first | refine za3 ?_ _ | refine za4 ?_ | refine za2 ?_ _)); exact BK192.out) hg (Kd.R_ne HO_193002.out BK192.out (by decide)))
            have n5_ := Aside0.mk (hb)
            have n6_ := Aside0.mk (ho)
            clear HO_4
            clear HO_193001
            clear BK182
            clear BK183
            clear BK192
            clear HB
            clear HO_193002
            have HO_4 := n0_
            have HO_193001 := n1_
            have BK182 := n2_
            have BK183 := n3_
            have BK192 := n4_
            have HB := n5_
            have HO198 := n6_
            clear n0_ n1_ n2_ n3_ n4_ n5_ n6_
            clear ho hb hg hat
            obtain ⟨Ao34, co34, eo34⟩ := Kd.zat HO198.out
            (first | subst eo34 | (injection eo34 with f1_ f2_ f3_; have f4_ := f1_.symm; have f5_ := f3_.symm; clear f1_ f2_ f3_; subst f4_; subst f5_))
            refine hK.out _ _ ?_
            clear hK K
            refine norm_ (a' := ?_) ?_ ?_
            rotate_left
            ·show Act.put _ (some 51) _ = _
             simp only [Act.put, sa_, sb_, sc_, i64_w, i32_w]
             rfl
            refine pure_ (i := 8) (N := some 52) (v := ?_) (a' := ?_) #[true, true, true, true, true, true, true, true, true, false] rfl rfl (zaw HT_.out (by kernel_rfl)) (fun _ _ _ h => h) (Or.inl ⟨by rfl, ?_⟩) ?_ ?_
            rotate_left
            ·intro w'
             go_simp
             with_reducible rfl
            rotate_left
            ·simp only [Act.put, sa_, sb_, sc_, i64_w, i32_w]
             rfl
            refine last_ (i := 9) (N := none) #[true, true, true, true, true, true, true, true, true, true] rfl rfl (one_of HT_.out (by kernel_rfl)) (by decide) (fun K hK => ?_)
            have hs35 : w33.cell? ⟨gb192, 2, none⟩ = some (u193002) := (za1 BK192.out 2).trans rfl
            have hfs35 := za0 BK192.out 2
            have hns35_0 := NB182_192.out
            have hns35_1 := NB183_192.out
            have hms35_0 := NB192_182.out
            have hms35_1 := NB192_183.out
            refine skip_ (w1 := ?_) (by rfl) rfl ?_ ?_
            rotate_left
            ·go_simp
             rfl
            refine hK.out _ _ ?_
            clear hK K
            refine done_ (done_of HT_.out (by kernel_rfl)) ?_
            try go_wp2
            go_roundg k1
            case measure => have := HK1.out; omega
            case rel => exact ⟨(wrap64 (x34_1 + 1)), (x184000_1), (y196), (.slice Ao34 y196.length co34), (by first | rfl | (simp; done) | (simp [*]; done)), H', ⟨by have := HK1.out; omega⟩, ⟨by (with_reducible repeat (first | apply Kd.zaj | apply Kd.zak | apply Kd.zam)); exact Kd.zar (Kd.R_far (p := ⟨gb192, 2, none⟩) (Kd.R_types HO_4.out BK192.out (by decide)) (fun _ hk => hk.2) (.slice Ao34 y196.length co34)) (fun _ hk => hk.1.2)⟩, ⟨by (with_reducible repeat (first | apply Kd.zaj | apply Kd.zak | apply Kd.zam)); exact Kd.zar (Kd.R_far (p := ⟨gb192, 2, none⟩) (Kd.R_types HO_193001.out BK192.out (by decide)) (fun _ hk => hk.2) (.slice Ao34 y196.length co34)) (fun _ hk => trivial)⟩, ⟨by (with_reducible repeat (first | apply Kd.zaj | apply Kd.zak | apply Kd.zam)); exact Kd.zar (Kd.R_far (p := ⟨gb192, 2, none⟩) (Kd.R_types HO198.out BK192.out (by decide)) (fun _ hk => hk.2) (.slice Ao34 y196.length co34)) (fun _ hk => hk.1)⟩, ⟨by (with_reducible repeat (first | refine za3 ?_ _ | refine za4 ?_ | refine za2 ?_ _)); refine zb2 ?_ NB182_192.out _; (with_reducible repeat (first | refine za3 ?_ _ | refine za4 ?_ | refine za2 ?_ _)); exact BK182.out⟩, ⟨by (with_reducible repeat (first | refine za3 ?_ _ | refine za4 ?_ | refine za2 ?_ _)); refine zb2 ?_ NB183_192.out _; (with_reducible repeat (first | refine za3 ?_ _ | refine za4 ?_ | refine za2 ?_ _)); exact BK183.out⟩, ⟨by (with_reducible repeat (first | refine za3 ?_ _ | refine za4 ?_ | refine za2 ?_ _)); refine zao (cs := #[.int .i64 (l0_1.length : Int), .slice Ao14 t188.length co14, u193002]) ?_ 2 _ rfl; (with_reducible repeat (first | refine za3 ?_ _ | refine za4 ?_ | refine za2 ?_ _)); exact BK192.out⟩, ⟨bw_⟩⟩
           ·rw [if_neg c30] at H
            exact absurd H (by simp)
         ·rw [if_neg c24] at H
          exact absurd H (by simp)
        ·rw [if_neg c23] at H
         exact absurd H (by simp)
       ·rw [if_neg c22] at H
        exact absurd H (by simp)
      ·rw [if_neg c21] at H
       exact absurd H (by simp)
     ·rw [if_neg c20] at H
      have c20b0 : decide (x34_1 < (l0_3.length : Int)) = false := decide_eq_false c20
      clear c20
      replace H := Option.bind_eq_some_iff.mp H
      obtain ⟨t199, A360, H⟩ := H
      replace H : (some ((l0_1.length : Int), t188, x193002_1, t199)) = some (r1, r2, r3, r4) := H
      have A36 := Aside0.mk A360
      clear A360
      simp only [Option.some.injEq, Prod.mk.injEq] at H
      obtain ⟨rfl, rfl, rfl, rfl⟩ := H
      try go_wp2
      have n0_ := Aside0.mk (Kd.zam HO_4.out)
      have n1_ := Aside0.mk (Kd.zam HO_193001.out)
      have n2_ := Aside0.mk (Kd.zam HO_193002.out)
      have n3_ := Aside0.mk (za4 BK182.out)
      have n4_ := Aside0.mk (za4 BK183.out)
      have n5_ := Aside0.mk (za4 BK192.out)
      have n6_ := Aside0.mk (zav HB.out)
      clear HO_4
      clear HO_193001
      clear HO_193002
      clear BK182
      clear BK183
      clear BK192
      clear HB
      have HO_4 := n0_
      have HO_193001 := n1_
      have HO_193002 := n2_
      have BK182 := n3_
      have BK183 := n4_
      have BK192 := n5_
      have HB := n6_
      clear n0_ n1_ n2_ n3_ n4_ n5_ n6_
      obtain ⟨Ao38, co38, eo38⟩ := Kd.zat HO_193002.out
      (first | subst eo38 | (injection eo38 with f1_ f2_ f3_; have f4_ := f1_.symm; have f5_ := f3_.symm; clear f1_ f2_ f3_; subst f4_; subst f5_))
      refine start_ (n := 5) (S := fun w' => w'.cell? ⟨gb192, 0, none⟩ = some (.int .i64 (l0_1.length : Int)) ∧ w'.cell? ⟨gb192, 1, none⟩ = some (.slice Ao14 t188.length co14) ∧ w'.cell? ⟨gb192, 2, none⟩ = some (.slice Ao38 x193002_1.length co38)) (ds := []) #[false, false, false, false, false] (by kernel_rfl) rfl rfl ⟨(za1 BK192.out 0).trans rfl, (za1 BK192.out 1).trans rfl, (za1 BK192.out 2).trans rfl⟩ (fun hHeld => ?_)
      generalize wr.drew = w37 at HO_4 HO_193001 HO_193002 BK182 BK183 BK192 HB hHeld ⊢
      refine take_ (i := 0) (N := some 54) (v := ?_) (a' := ?_) #[true, false, false, false, false] rfl rfl (by kernel_rfl) (fun _ _ _ h => h) (Or.inl ⟨by rfl, ?_⟩) hHeld ?_ ?_
      rotate_left
      ·rintro w' ⟨s0, s1, s2⟩
       go_simp
       with_reducible rfl
      rotate_left
      ·simp only [Act.put, sa_, sb_, sc_, i64_w, i32_w]
       rfl
      refine take_ (i := 1) (N := some 55) (v := ?_) (a' := ?_) #[true, true, false, false, false] rfl rfl (by kernel_rfl) (fun _ _ _ h => h) (Or.inl ⟨by rfl, ?_⟩) hHeld ?_ ?_
      rotate_left
      ·rintro w' ⟨s0, s1, s2⟩
       go_simp
       with_reducible rfl
      rotate_left
      ·simp only [Act.put, sa_, sb_, sc_, i64_w, i32_w]
       rfl
      refine one_ (i := 2) (N := some 56) #[true, true, true, false, false] rfl rfl (by kernel_rfl) (by decide) (fun K hK => ?_)
      refine goes_ Try.func72 (by kernel_rfl) rfl #[.agg #[.int .i64 (l0_1.length : Int), .slice Ao14 t188.length co14, .slice Ao38 x193002_1.length co38]] (by rfl) rfl rfl (by (try simp only [List.map_toArray, List.map_cons, List.map_nil]); first | done | rfl | (simp only [List.length_drop, List.length_take]; rfl)) ?_
      with_reducible refine (spec_plGood.calls k1 (l0_1.length : Int) _ _ t188 _ _ x193002_1 t199 _ ?side1 ?side2 ?side3 ?side4 A36.out).mono ?_
      (case side1 => repeat (first | exact (Kd.R_reads' HO_193001.out).2.2 | (with_reducible refine Kd.zb1 ?_ _) | (with_reducible refine Kd.zax ?_ _) | (with_reducible refine Kd.zb7 ?_)))
      (case side2 => exact (Kd.R_reads' HO_193001.out).2.1)
      (case side3 => repeat (first | exact (Kd.R_reads' HO_193002.out).2.2 | (with_reducible refine Kd.zb1 ?_ _) | (with_reducible refine Kd.zax ?_ _) | (with_reducible refine Kd.zb7 ?_)))
      (case side4 => exact (Kd.R_reads' HO_193002.out).2.1)
      rintro e w39 ⟨rfl, hb⟩
      refine ⟨_, rfl, ?_⟩
      have n0_ := Aside0.mk (Kd.zba (by (with_reducible repeat (first | apply Kd.zaj | apply Kd.zak | apply Kd.zam)); exact HO_4.out) hb)
      have n1_ := Aside0.mk (Kd.zba (by (with_reducible repeat (first | apply Kd.zaj | apply Kd.zak | apply Kd.zam)); exact HO_193001.out) hb)
      have n2_ := Aside0.mk (Kd.zba (by (with_reducible repeat (first | apply Kd.zaj | apply Kd.zak | apply Kd.zam)); exact HO_193002.out) hb)
      have n3_ := Aside0.mk (za7 (g := gb182) (o := .cells #[.int .i64 a0_0, .slice A0_1 l0_1.length c0_1, .slice A0_2 l0_2.length c0_2, .slice A0_3 l0_3.length c0_3] 30 (0, 0)) (by (with_reducible repeat (first | refine za3 ?_ _ | refine za4 ?_ | refine za2 ?_ _)); exact BK182.out) hb)
      have n4_ := Aside0.mk (za7 (g := gb183) (o := .cells #[.int .i64 x184000_1, .slice none 0 0, .slice none 0 0] 36 (0, 0)) (by (with_reducible repeat (first | refine za3 ?_ _ | refine za4 ?_ | refine za2 ?_ _)); exact BK183.out) hb)
      have n5_ := Aside0.mk (za7 (g := gb192) (o := .cells #[.int .i64 (l0_1.length : Int), .slice Ao14 t188.length co14, .slice Ao38 x193002_1.length co38] 36 (0, 0)) (by (with_reducible repeat (first | refine za3 ?_ _ | refine za4 ?_ | refine za2 ?_ _)); exact BK192.out) hb)
      have n6_ := Aside0.mk (za8 bw_ hb)
      clear HO_4
      clear HO_193001
      clear HO_193002
      clear BK182
      clear BK183
      clear BK192
      clear HB
      have HO_4 := n0_
      have HO_193001 := n1_
      have HO_193002 := n2_
      have BK182 := n3_
      have BK183 := n4_
      have BK192 := n5_
      have HB := n6_
      clear n0_ n1_ n2_ n3_ n4_ n5_ n6_
      (try clear hb)
      (try clear hb2)
      (try clear hk)
      (try clear hi)
      refine hK.out _ _ ⟨(za1 BK192.out 0).trans rfl, (za1 BK192.out 1).trans rfl, (za1 BK192.out 2).trans rfl⟩ (fun hHeld => ?_)
      clear hK K
      refine norm_ (a' := ?_) ?_ ?_
      rotate_left
      ·show Act.put _ (some 56) _ = _
       simp only [Act.put, sa_, sb_, sc_, i64_w, i32_w]
       rfl
      refine one_ (i := 3) (N := none) #[true, true, true, true, false] rfl rfl (by kernel_rfl) (by decide) (fun K hK => ?_)
      have hs40 : w39.cell? ⟨gb183, 0, none⟩ = some (.int .i64 x184000_1) := (za1 BK183.out 0).trans rfl
      have hfs40 := za0 BK183.out 0
      have hns40_0 := NB182_183.out
      have hns40_2 := NB192_183.out
      have hms40_0 := NB183_182.out
      have hms40_2 := NB183_192.out
      have hs41 : w39.cell? ⟨gb183, 1, none⟩ = some (.slice none 0 0) := (za1 BK183.out 1).trans rfl
      have hfs41 := za0 BK183.out 1
      have hns41_0 := NB182_183.out
      have hns41_2 := NB192_183.out
      have hms41_0 := NB183_182.out
      have hms41_2 := NB183_192.out
      have hs42 : w39.cell? ⟨gb183, 2, none⟩ = some (.slice none 0 0) := (za1 BK183.out 2).trans rfl
      have hfs42 := za0 BK183.out 2
      have hns42_0 := NB182_183.out
      have hns42_2 := NB192_183.out
      have hms42_0 := NB183_182.out
      have hms42_2 := NB183_192.out
      refine skip_ (w1 := ?_) (by rfl) rfl ?_ ?_
      rotate_left
      ·go_simp
       rfl
      refine hK.out _ _ ⟨((cell_far (p := ⟨gb183, _, none⟩) NB192_183.out _).trans (((cell_far (p := ⟨gb183, _, none⟩) NB192_183.out _).trans (((cell_far (p := ⟨gb183, _, none⟩) NB192_183.out _).trans (hHeld.1)))))), ((cell_far (p := ⟨gb183, _, none⟩) NB192_183.out _).trans (((cell_far (p := ⟨gb183, _, none⟩) NB192_183.out _).trans (((cell_far (p := ⟨gb183, _, none⟩) NB192_183.out _).trans (hHeld.2.1)))))), ((cell_far (p := ⟨gb183, _, none⟩) NB192_183.out _).trans (((cell_far (p := ⟨gb183, _, none⟩) NB192_183.out _).trans (((cell_far (p := ⟨gb183, _, none⟩) NB192_183.out _).trans (hHeld.2.2))))))⟩ (fun hHeld => ?_)
      clear hK K
      refine pure_ (i := 4) (N := some 3) (v := ?_) (a' := ?_) #[true, true, true, true, true] rfl rfl (by kernel_rfl) (fun _ _ _ h => h) (Or.inl ⟨by rfl, ?_⟩) ?_ ?_
      rotate_left
      ·intro w'
       go_simp
       with_reducible rfl
      rotate_left
      ·simp only [Act.put, sa_, sb_, sc_, i64_w, i32_w]
       rfl
      refine done_ (by kernel_rfl) ?_
      try go_wp2
      refine bodyPost_ret (results_ct rfl _ _ gb183 36 #[.int .i64 (l0_1.length : Int), .slice Ao14 t188.length co14, .slice Ao38 x193002_1.length co38] (0, 0) _ rfl (by (with_reducible repeat (first | refine za3 ?_ _ | refine za4 ?_ | refine za2 ?_ _)); refine zao (cs := #[.int .i64 (l0_1.length : Int), .slice Ao14 t188.length co14, .slice none 0 0]) ?_ 2 _ rfl; (with_reducible repeat (first | refine za3 ?_ _ | refine za4 ?_ | refine za2 ?_ _)); refine zao (cs := #[.int .i64 (l0_1.length : Int), .slice none 0 0, .slice none 0 0]) ?_ 1 _ rfl; (with_reducible repeat (first | refine za3 ?_ _ | refine za4 ?_ | refine za2 ?_ _)); refine zao (cs := #[.int .i64 x184000_1, .slice none 0 0, .slice none 0 0]) ?_ 0 _ rfl; (with_reducible repeat (first | refine za3 ?_ _ | refine za4 ?_ | refine za2 ?_ _)); exact BK183.out) Try.underlying36 rfl (by kernel_rfl)) rfl ?_
      exact ⟨_, _, by first | rfl | (simp [zab, zaa] <;> rfl) | (simp [*, zab, zaa] <;> rfl), by (with_reducible repeat (first | apply Kd.zaj | apply Kd.zak | apply Kd.zam)); exact Kd.zar (Kd.R_far (p := ⟨gb183, 2, none⟩) (Kd.R_far (p := ⟨gb183, 1, none⟩) (Kd.R_far (p := ⟨gb183, 0, none⟩) (Kd.R_types HO_193001.out BK183.out (by decide)) (fun _ hk => hk.2) (.int .i64 (l0_1.length : Int))) (fun _ hk => hk.2) (.slice Ao14 t188.length co14)) (fun _ hk => hk.2) (.slice Ao38 x193002_1.length co38)) (fun _ hk => trivial), by (with_reducible repeat (first | apply Kd.zaj | apply Kd.zak | apply Kd.zam)); exact Kd.zar (Kd.R_far (p := ⟨gb183, 2, none⟩) (Kd.R_far (p := ⟨gb183, 1, none⟩) (Kd.R_far (p := ⟨gb183, 0, none⟩) (Kd.R_types HO_193002.out BK183.out (by decide)) (fun _ hk => hk.2) (.int .i64 (l0_1.length : Int))) (fun _ hk => hk.2) (.slice Ao14 t188.length co14)) (fun _ hk => hk.2) (.slice Ao38 x193002_1.length co38)) (fun _ hk => trivial), bw_⟩
  ·replace c5 := Bool.eq_false_iff.mpr c5
   subst c5
   have H1 : (some (0, ([] : List (S117)), ([] : List Int), false)) = some (r1, r2, r3, r4) := by rw [if_neg (show ¬ (false = true) by decide)] at H; exact H
   clear H
   have H := H1
   clear H1
   simp only [Option.some.injEq, Prod.mk.injEq] at H
   obtain ⟨rfl, rfl, rfl, rfl⟩ := H
   go_enter Try.func62, Try.ntmps62
   go_wp2_with (first | ((with_reducible refine zaf (N := 1) rfl ?_); refine zad ?hg (N := 1) ?hd (cs := #[.int .i64 a0_0, .slice A0_1 l0_1.length c0_1, .slice A0_2 l0_2.length c0_2, .slice A0_3 l0_3.length c0_3]) (t := 30) ?hr ?_; (case hd => rfl); (case hg => rfl); (case hr => first | (go_simp; done) | (go_simp; rfl)); intro gb182 hg w43 hbox hb; have n0_ := Aside0.mk (za8 bw_ hb); have n1_ := Aside0.mk (hbox); have n2_ := Aside0.mk ((by rw [hg]; exact (za6 bw_) : w.heap.size ≤ gb182)); have n3_ := Aside0.mk ((by rw [hg]; exact (za6 bw_) : w.heap.size ≤ gb182)); clear HB; have HB := n0_; have BK182 := n1_; have GW182 := n2_; have GE182 := n3_; clear n0_ n1_ n2_ n3_; clear hb hbox hg) | ((with_reducible refine zaf (N := 2) rfl ?_); refine zad ?hg (N := 2) ?hd (cs := #[.int .i64 0, .slice none 0 0, .slice none 0 0]) (t := 36) ?hr ?_; (case hd => rfl); (case hg => rfl); (case hr => first | (go_simp; done) | (go_simp; rfl)); intro gb183 hg w44 hbox hb; have n0_ := Aside0.mk (za7 (g := gb182) (o := .cells #[.int .i64 a0_0, .slice A0_1 l0_1.length c0_1, .slice A0_2 l0_2.length c0_2, .slice A0_3 l0_3.length c0_3] 30 (0, 0)) (by (with_reducible repeat (first | refine za3 ?_ _ | refine za4 ?_ | refine za2 ?_ _)); exact BK182.out) hb); have n1_ := Aside0.mk (za8 bw_ hb); have n2_ := Aside0.mk (hbox); have n3_ := Aside0.mk ((by rw [hg]; exact (za6 bw_) : w.heap.size ≤ gb183)); have n4_ := Aside0.mk ((by rw [hg]; exact (za6 bw_) : w.heap.size ≤ gb183)); have n5_ := Aside0.mk ((by rw [hg]; exact Nat.ne_of_lt (zan (g := gb182) (o := .cells #[.int .i64 a0_0, .slice A0_1 l0_1.length c0_1, .slice A0_2 l0_2.length c0_2, .slice A0_3 l0_3.length c0_3] 30 (0, 0)) (by (with_reducible repeat (first | refine za3 ?_ _ | refine za4 ?_ | refine za2 ?_ _)); exact BK182.out)) : gb182 ≠ gb183)); have n6_ := Aside0.mk ((by rw [hg]; exact Nat.ne_of_gt (zan (g := gb182) (o := .cells #[.int .i64 a0_0, .slice A0_1 l0_1.length c0_1, .slice A0_2 l0_2.length c0_2, .slice A0_3 l0_3.length c0_3] 30 (0, 0)) (by (with_reducible repeat (first | refine za3 ?_ _ | refine za4 ?_ | refine za2 ?_ _)); exact BK182.out)) : gb183 ≠ gb182)); clear BK182; clear HB; have BK182 := n0_; have HB := n1_; have BK183 := n2_; have GW183 := n3_; have GE183 := n4_; have NB182_183 := n5_; have NB183_182 := n6_; clear n0_ n1_ n2_ n3_ n4_ n5_ n6_; clear hb hbox hg; have hnb45 := NB182_183.out; have hnc45 := NB183_182.out; have hcz46_0 : w44.cell? ⟨gb182, 0, none⟩ = some (.int .i64 a0_0) := (za1 BK182.out 0).trans rfl; have hcz46_1 : w44.cell? ⟨gb182, 1, none⟩ = some (.slice A0_1 l0_1.length c0_1) := (za1 BK182.out 1).trans rfl; have hcz46_2 : w44.cell? ⟨gb182, 2, none⟩ = some (.slice A0_2 l0_2.length c0_2) := (za1 BK182.out 2).trans rfl; have hcz46_3 : w44.cell? ⟨gb182, 3, none⟩ = some (.slice A0_3 l0_3.length c0_3) := (za1 BK182.out 3).trans rfl; have hfz46_0 := za0 BK182.out 0; have hfz46_1 := za0 BK182.out 1; have hfz46_2 := za0 BK182.out 2; have hfz46_3 := za0 BK182.out 3) | ((with_reducible refine zah (f := 128) rfl ?_); refine zaz (some 11) rfl rfl Try.func128 (by kernel_rfl) rfl #[.agg #[.int .i64 a0_0, .slice A0_1 l0_1.length c0_1, .slice A0_2 l0_2.length c0_2, .slice A0_3 l0_3.length c0_3]] rfl (by (try simp only [List.map_toArray, List.map_cons, List.map_nil]); first | done | rfl | (simp only [List.length_drop, List.length_take]; rfl)) ?_; (with_reducible refine (spec_reShape.calls k a0_0 _ _ l0_1 _ _ l0_2 _ _ l0_3 true _ ?side1 ?side2 ?side3 ?side4 ?side5 ?side6 A2.out).mono ?_); (case side1 => exact Kd.zac HR0_1.out bw_); (case side2 => exact HC0_1.out); (case side3 => exact Kd.zac HR0_2.out bw_); (case side4 => exact HC0_2.out); (case side5 => exact Kd.zac HR0_3.out bw_); (case side6 => exact HC0_3.out); rintro e w47 ⟨rfl, hb⟩; refine ⟨_, rfl, ?_⟩; have n0_ := Aside0.mk (za7 (g := gb182) (o := .cells #[.int .i64 a0_0, .slice A0_1 l0_1.length c0_1, .slice A0_2 l0_2.length c0_2, .slice A0_3 l0_3.length c0_3] 30 (0, 0)) (by (with_reducible repeat (first | refine za3 ?_ _ | refine za4 ?_ | refine za2 ?_ _)); exact BK182.out) hb); have n1_ := Aside0.mk (za7 (g := gb183) (o := .cells #[.int .i64 0, .slice none 0 0, .slice none 0 0] 36 (0, 0)) (by (with_reducible repeat (first | refine za3 ?_ _ | refine za4 ?_ | refine za2 ?_ _)); exact BK183.out) hb); have n2_ := Aside0.mk (za8 bw_ hb); clear BK182; clear BK183; clear HB; have BK182 := n0_; have BK183 := n1_; have HB := n2_; clear n0_ n1_ n2_; (try clear hb); (try clear hb2); (try clear hk); (try clear hi); have hcz48_0 : w47.cell? ⟨gb182, 0, none⟩ = some (.int .i64 a0_0) := (za1 BK182.out 0).trans rfl; have hcz48_1 : w47.cell? ⟨gb182, 1, none⟩ = some (.slice A0_1 l0_1.length c0_1) := (za1 BK182.out 1).trans rfl; have hcz48_2 : w47.cell? ⟨gb182, 2, none⟩ = some (.slice A0_2 l0_2.length c0_2) := (za1 BK182.out 2).trans rfl; have hcz48_3 : w47.cell? ⟨gb182, 3, none⟩ = some (.slice A0_3 l0_3.length c0_3) := (za1 BK182.out 3).trans rfl; have hfz48_0 := za0 BK182.out 0; have hfz48_1 := za0 BK182.out 1; have hfz48_2 := za0 BK182.out 2; have hfz48_3 := za0 BK182.out 3) | ((with_reducible refine zah (f := 129) rfl ?_); refine zaz (some 19) rfl rfl Try.func129 (by kernel_rfl) rfl #[.agg #[.int .i64 a0_0, .slice A0_1 l0_1.length c0_1, .slice A0_2 l0_2.length c0_2, .slice A0_3 l0_3.length c0_3], .int .i64 (l0_2.length : Int)] rfl (by (try simp only [List.map_toArray, List.map_cons, List.map_nil]); first | done | rfl | (simp only [List.length_drop, List.length_take]; rfl)) ?_; (with_reducible refine (spec_reValues.calls k a0_0 _ _ l0_1 _ _ l0_2 _ _ l0_3 (l0_2.length : Int) t185 t188 false _ ?side1 ?side2 ?side3 ?side4 ?side5 ?side6 A4.out).mono ?_); (case side1 => exact Kd.zac HR0_1.out bw_); (case side2 => exact HC0_1.out); (case side3 => exact Kd.zac HR0_2.out bw_); (case side4 => exact HC0_2.out); (case side5 => exact Kd.zac HR0_3.out bw_); (case side6 => exact HC0_3.out); rintro e w49 ⟨v186, v189, rfl, ho0, ho1, hb⟩; refine ⟨_, rfl, ?_⟩; have n0_ := Aside0.mk (Kd.R_lower ho0 (za6 bw_)); have n1_ := Aside0.mk (Kd.R_lower ho1 (za6 bw_)); have n2_ := Aside0.mk (za7 (g := gb182) (o := .cells #[.int .i64 a0_0, .slice A0_1 l0_1.length c0_1, .slice A0_2 l0_2.length c0_2, .slice A0_3 l0_3.length c0_3] 30 (0, 0)) (by (with_reducible repeat (first | refine za3 ?_ _ | refine za4 ?_ | refine za2 ?_ _)); exact BK182.out) hb); have n3_ := Aside0.mk (za7 (g := gb183) (o := .cells #[.int .i64 0, .slice none 0 0, .slice none 0 0] 36 (0, 0)) (by (with_reducible repeat (first | refine za3 ?_ _ | refine za4 ?_ | refine za2 ?_ _)); exact BK183.out) hb); have n4_ := Aside0.mk (za8 bw_ hb); clear BK182; clear BK183; clear HB; have HO187 := n0_; have HO190 := n1_; have BK182 := n2_; have BK183 := n3_; have HB := n4_; clear n0_ n1_ n2_ n3_ n4_; (try clear hb); (try clear hb2); (try clear hk); (try clear hi); (try clear ho0); (try clear ho1); have hcz50_0 : w49.cell? ⟨gb183, 0, none⟩ = some (.int .i64 0) := (za1 BK183.out 0).trans rfl; have hcz50_1 : w49.cell? ⟨gb183, 1, none⟩ = some (.slice none 0 0) := (za1 BK183.out 1).trans rfl; have hcz50_2 : w49.cell? ⟨gb183, 2, none⟩ = some (.slice none 0 0) := (za1 BK183.out 2).trans rfl; have hfz50_0 := za0 BK183.out 0; have hfz50_1 := za0 BK183.out 1; have hfz50_2 := za0 BK183.out 2))
   refine bodyPost_ret (results_ct rfl _ _ gb183 36 #[.int .i64 0, .slice none 0 0, .slice none 0 0] (0, 0) _ rfl (by (with_reducible repeat (first | refine za3 ?_ _ | refine za4 ?_ | refine za2 ?_ _)); refine zao (cs := #[.int .i64 0, .slice none 0 0, .slice none 0 0]) ?_ 2 _ rfl; (with_reducible repeat (first | refine za3 ?_ _ | refine za4 ?_ | refine za2 ?_ _)); refine zao (cs := #[.int .i64 0, .slice none 0 0, .slice none 0 0]) ?_ 1 _ rfl; (with_reducible repeat (first | refine za3 ?_ _ | refine za4 ?_ | refine za2 ?_ _)); refine zao (cs := #[.int .i64 0, .slice none 0 0, .slice none 0 0]) ?_ 0 _ rfl; (with_reducible repeat (first | refine za3 ?_ _ | refine za4 ?_ | refine za2 ?_ _)); exact BK183.out) Try.underlying36 rfl (by kernel_rfl)) rfl ?_
   exact ⟨_, _, by first | rfl | (simp [zab, zaa] <;> rfl) | (simp [*, zab, zaa] <;> rfl), by first | exact Kd.R_nil _ _ _ _ _ | exact Kd.N_nil _ _ _ _ _ | exact Kd.V_nil _ _ _ _ _ | exact Kd.Q_nil _ _ _ _ _ | exact Kd.S_nil _ _ _ _ _, by first | exact Kd.R_nil _ _ _ _ _ | exact Kd.N_nil _ _ _ _ _ | exact Kd.V_nil _ _ _ _ _ | exact Kd.Q_nil _ _ _ _ _ | exact Kd.S_nil _ _ _ _ _, bw_⟩
 ·replace c3 := Bool.eq_false_iff.mpr c3
  subst c3
  have H1 : (some (0, ([] : List (S117)), ([] : List Int), false)) = some (r1, r2, r3, r4) := by rw [if_neg (show ¬ (false = true) by decide)] at H; exact H
  clear H
  have H := H1
  clear H1
  simp only [Option.some.injEq, Prod.mk.injEq] at H
  obtain ⟨rfl, rfl, rfl, rfl⟩ := H
  go_enter Try.func62, Try.ntmps62
  go_wp2_with (first | ((with_reducible refine zaf (N := 1) rfl ?_); refine zad ?hg (N := 1) ?hd (cs := #[.int .i64 a0_0, .slice A0_1 l0_1.length c0_1, .slice A0_2 l0_2.length c0_2, .slice A0_3 l0_3.length c0_3]) (t := 30) ?hr ?_; (case hd => rfl); (case hg => rfl); (case hr => first | (go_simp; done) | (go_simp; rfl)); intro gb182 hg w51 hbox hb; have n0_ := Aside0.mk (za8 bw_ hb); have n1_ := Aside0.mk (hbox); have n2_ := Aside0.mk ((by rw [hg]; exact (za6 bw_) : w.heap.size ≤ gb182)); have n3_ := Aside0.mk ((by rw [hg]; exact (za6 bw_) : w.heap.size ≤ gb182)); clear HB; have HB := n0_; have BK182 := n1_; have GW182 := n2_; have GE182 := n3_; clear n0_ n1_ n2_ n3_; clear hb hbox hg) | ((with_reducible refine zaf (N := 2) rfl ?_); refine zad ?hg (N := 2) ?hd (cs := #[.int .i64 0, .slice none 0 0, .slice none 0 0]) (t := 36) ?hr ?_; (case hd => rfl); (case hg => rfl); (case hr => first | (go_simp; done) | (go_simp; rfl)); intro gb183 hg w52 hbox hb; have n0_ := Aside0.mk (za7 (g := gb182) (o := .cells #[.int .i64 a0_0, .slice A0_1 l0_1.length c0_1, .slice A0_2 l0_2.length c0_2, .slice A0_3 l0_3.length c0_3] 30 (0, 0)) (by (with_reducible repeat (first | refine za3 ?_ _ | refine za4 ?_ | refine za2 ?_ _)); exact BK182.out) hb); have n1_ := Aside0.mk (za8 bw_ hb); have n2_ := Aside0.mk (hbox); have n3_ := Aside0.mk ((by rw [hg]; exact (za6 bw_) : w.heap.size ≤ gb183)); have n4_ := Aside0.mk ((by rw [hg]; exact (za6 bw_) : w.heap.size ≤ gb183)); have n5_ := Aside0.mk ((by rw [hg]; exact Nat.ne_of_lt (zan (g := gb182) (o := .cells #[.int .i64 a0_0, .slice A0_1 l0_1.length c0_1, .slice A0_2 l0_2.length c0_2, .slice A0_3 l0_3.length c0_3] 30 (0, 0)) (by (with_reducible repeat (first | refine za3 ?_ _ | refine za4 ?_ | refine za2 ?_ _)); exact BK182.out)) : gb182 ≠ gb183)); have n6_ := Aside0.mk ((by rw [hg]; exact Nat.ne_of_gt (zan (g := gb182) (o := .cells #[.int .i64 a0_0, .slice A0_1 l0_1.length c0_1, .slice A0_2 l0_2.length c0_2, .slice A0_3 l0_3.length c0_3] 30 (0, 0)) (by (with_reducible repeat (first | refine za3 ?_ _ | refine za4 ?_ | refine za2 ?_ _)); exact BK182.out)) : gb183 ≠ gb182)); clear BK182; clear HB; have BK182 := n0_; have HB := n1_; have BK183 := n2_; have GW183 := n3_; have GE183 := n4_; have NB182_183 := n5_; have NB183_182 := n6_; clear n0_ n1_ n2_ n3_ n4_ n5_ n6_; clear hb hbox hg; have hnb53 := NB182_183.out; have hnc53 := NB183_182.out; have hcz54_0 : w52.cell? ⟨gb182, 0, none⟩ = some (.int .i64 a0_0) := (za1 BK182.out 0).trans rfl; have hcz54_1 : w52.cell? ⟨gb182, 1, none⟩ = some (.slice A0_1 l0_1.length c0_1) := (za1 BK182.out 1).trans rfl; have hcz54_2 : w52.cell? ⟨gb182, 2, none⟩ = some (.slice A0_2 l0_2.length c0_2) := (za1 BK182.out 2).trans rfl; have hcz54_3 : w52.cell? ⟨gb182, 3, none⟩ = some (.slice A0_3 l0_3.length c0_3) := (za1 BK182.out 3).trans rfl; have hfz54_0 := za0 BK182.out 0; have hfz54_1 := za0 BK182.out 1; have hfz54_2 := za0 BK182.out 2; have hfz54_3 := za0 BK182.out 3) | ((with_reducible refine zah (f := 128) rfl ?_); refine zaz (some 11) rfl rfl Try.func128 (by kernel_rfl) rfl #[.agg #[.int .i64 a0_0, .slice A0_1 l0_1.length c0_1, .slice A0_2 l0_2.length c0_2, .slice A0_3 l0_3.length c0_3]] rfl (by (try simp only [List.map_toArray, List.map_cons, List.map_nil]); first | done | rfl | (simp only [List.length_drop, List.length_take]; rfl)) ?_; (with_reducible refine (spec_reShape.calls k a0_0 _ _ l0_1 _ _ l0_2 _ _ l0_3 false _ ?side1 ?side2 ?side3 ?side4 ?side5 ?side6 A2.out).mono ?_); (case side1 => exact Kd.zac HR0_1.out bw_); (case side2 => exact HC0_1.out); (case side3 => exact Kd.zac HR0_2.out bw_); (case side4 => exact HC0_2.out); (case side5 => exact Kd.zac HR0_3.out bw_); (case side6 => exact HC0_3.out); rintro e w55 ⟨rfl, hb⟩; refine ⟨_, rfl, ?_⟩; have n0_ := Aside0.mk (za7 (g := gb182) (o := .cells #[.int .i64 a0_0, .slice A0_1 l0_1.length c0_1, .slice A0_2 l0_2.length c0_2, .slice A0_3 l0_3.length c0_3] 30 (0, 0)) (by (with_reducible repeat (first | refine za3 ?_ _ | refine za4 ?_ | refine za2 ?_ _)); exact BK182.out) hb); have n1_ := Aside0.mk (za7 (g := gb183) (o := .cells #[.int .i64 0, .slice none 0 0, .slice none 0 0] 36 (0, 0)) (by (with_reducible repeat (first | refine za3 ?_ _ | refine za4 ?_ | refine za2 ?_ _)); exact BK183.out) hb); have n2_ := Aside0.mk (za8 bw_ hb); clear BK182; clear BK183; clear HB; have BK182 := n0_; have BK183 := n1_; have HB := n2_; clear n0_ n1_ n2_; (try clear hb); (try clear hb2); (try clear hk); (try clear hi); have hcz56_0 : w55.cell? ⟨gb183, 0, none⟩ = some (.int .i64 0) := (za1 BK183.out 0).trans rfl; have hcz56_1 : w55.cell? ⟨gb183, 1, none⟩ = some (.slice none 0 0) := (za1 BK183.out 1).trans rfl; have hcz56_2 : w55.cell? ⟨gb183, 2, none⟩ = some (.slice none 0 0) := (za1 BK183.out 2).trans rfl; have hfz56_0 := za0 BK183.out 0; have hfz56_1 := za0 BK183.out 1; have hfz56_2 := za0 BK183.out 2))
  refine bodyPost_ret (results_ct rfl _ _ gb183 36 #[.int .i64 0, .slice none 0 0, .slice none 0 0] (0, 0) _ rfl (by (with_reducible repeat (first | refine za3 ?_ _ | refine za4 ?_ | refine za2 ?_ _)); refine zao (cs := #[.int .i64 0, .slice none 0 0, .slice none 0 0]) ?_ 2 _ rfl; (with_reducible repeat (first | refine za3 ?_ _ | refine za4 ?_ | refine za2 ?_ _)); refine zao (cs := #[.int .i64 0, .slice none 0 0, .slice none 0 0]) ?_ 1 _ rfl; (with_reducible repeat (first | refine za3 ?_ _ | refine za4 ?_ | refine za2 ?_ _)); refine zao (cs := #[.int .i64 0, .slice none 0 0, .slice none 0 0]) ?_ 0 _ rfl; (with_reducible repeat (first | refine za3 ?_ _ | refine za4 ?_ | refine za2 ?_ _)); exact BK183.out) Try.underlying36 rfl (by kernel_rfl)) rfl ?_
  exact ⟨_, _, by first | rfl | (simp [zab, zaa] <;> rfl) | (simp [*, zab, zaa] <;> rfl), by first | exact Kd.R_nil _ _ _ _ _ | exact Kd.N_nil _ _ _ _ _ | exact Kd.V_nil _ _ _ _ _ | exact Kd.Q_nil _ _ _ _ _ | exact Kd.S_nil _ _ _ _ _, by first | exact Kd.R_nil _ _ _ _ _ | exact Kd.N_nil _ _ _ _ _ | exact Kd.V_nil _ _ _ _ _ | exact Kd.Q_nil _ _ _ _ _ | exact Kd.S_nil _ _ _ _ _, bw_⟩

/-! ### laws_toIntS: function 28 -/
def laws_toIntS.l0 : Nat → List Int → List Int → Int → Option (List Int)
 | 0, _, _, _ => none
 | k + 1, x0, x3, x4 => if x4 < (x0.length : Int) then (if 0 ≤ x4 then (if x4 < (x3.length : Int) then (laws_toIntS.l0 k x0 (x3.set (x4 : Int).toNat (rd x0 x4)) (wrap64 (x4 + 1))) else (none)) else (none)) else (some x3)
def laws_toIntS.f (k : Nat) (l0 : List Int) : Option (List Int) := if 0 ≤ (l0.length : Int) then (if ((l0.length : Int) : Int).toNat ≤ 35184372088832 then (laws_toIntS.l0 k l0 (List.replicate ((l0.length : Int) : Int).toNat 0) 0) else (none)) else (none)
theorem laws_toIntS.zb5 : ∀ k, (∀ y0 y1 y2, LeO (laws_toIntS.l0 k y0 y1 y2) (laws_toIntS.l0 (k + 1) y0 y1 y2))
 | 0 => fun _ _ _ r h => by simp [laws_toIntS.l0] at h
 | k + 1 => by
  have ih0 := laws_toIntS.zb5 k
  ·intro y0 y1 y2
   unfold laws_toIntS.l0
   repeat' first
   | (with_reducible exact ih0 _ _ _)
   | (with_reducible exact LeO.refl _)
   | (with_reducible exact LeO.none _)
   | (with_reducible refine LeO.ite ?_ ?_)
   | (with_reducible refine LeO.bind ?_ (fun _ => ?_))
   | exact ih0 _ _ _
   | exact LeO.none _
   | refine LeO.ite ?_ ?_
   | refine LeO.bind ?_ (fun _ => ?_)
theorem laws_toIntS.mono : ∀ a0 k, LeO (laws_toIntS.f k a0) (laws_toIntS.f (k + 1) a0) := by
 intro a0 k
 have ih0 := laws_toIntS.zb5 k
 unfold laws_toIntS.f
 repeat' first
   | (with_reducible exact ih0 _ _ _)
   | (with_reducible exact LeO.refl _)
   | (with_reducible exact LeO.none _)
   | (with_reducible refine LeO.ite ?_ ?_)
   | (with_reducible refine LeO.bind ?_ (fun _ => ?_))
   | exact ih0 _ _ _
   | exact LeO.none _
   | refine LeO.ite ?_ ?_
   | refine LeO.bind ?_ (fun _ => ?_)
set_option maxHeartbeats 8000000 in
set_option maxRecDepth 100000 in
theorem laws_toIntS.calls (k : Nat) (A0 : Option Addr) (c0 : Nat) (l0 : List Int) (r : List Int) (w : World) (hr0 : Kd.C (Kd.int .i64) w A0 l0.length l0) (hc0 : l0.length ≤ c0) (h : laws_toIntS.f k l0 = some r) :
  Calls Try.prog 28 #[.slice A0 l0.length c0] w fun e w' => ∃ v0_ : Value, e = .returned (v0_) ∧ Kd.R (Kd.int .i64) 3 w' w.heap.size (fun _ => True) v0_ r ∧ Below w.heap.size w w' := by
 have HR0 := Aside0.mk hr0
 have HC0 := Aside0.mk hc0
 clear hr0 hc0
 have HB := Aside0.mk (Below.refl w.heap.size w)
 have H : (if 0 ≤ (l0.length : Int) then (if ((l0.length : Int) : Int).toNat ≤ 35184372088832 then (laws_toIntS.l0 k l0 (List.replicate ((l0.length : Int) : Int).toNat 0) 0) else (none)) else (none)) = some r := h
 clear h
 by_cases c2 : 0 ≤ (l0.length : Int)
 ·rw [if_pos c2] at H
  have c2b0 := eq_true c2
  have c2b1 : decide (0 ≤ (l0.length : Int)) = true := decide_eq_true c2
  clear c2
  by_cases c3 : ((l0.length : Int) : Int).toNat ≤ 35184372088832
  ·rw [if_pos c3] at H
   have c3b0 := eq_true c3
   have c3b1 : decide (((l0.length : Int) : Int).toNat ≤ 35184372088832) = true := decide_eq_true c3
   clear c3
   obtain ⟨y212, hy212⟩ : ∃ y_ : List Int, y_ = (List.replicate ((l0.length : Int) : Int).toNat 0) := ⟨_, rfl⟩
   replace H : (laws_toIntS.l0 k l0 y212 0) = some r := by first | (rw [hy212]; with_reducible exact H) | (have H2_ := (Option.bind_some _ _).symm.trans H; rw [hy212]; with_reducible exact H2_) | (have H2_ := (Option.bind_some _ _).symm.trans H; with_reducible exact H2_) | with_reducible exact H | (rw [hy212]; exact H) | exact H
   have Ny212 := Aside0.mk hy212
   clear hy212
   have H' := Aside0.mk H
   clear H
   go_enter Try.func28, Try.ntmps28
   go_wp2_with (first | ((with_reducible refine zaf (N := 7) rfl ?_); refine Kd.R_make (Kd.int .i64) _ 3 rfl (N := 7) rfl 22 _ _ rfl (l0.length : Int) rfl rfl Try.underlying22 (.int .i64 0) 8 info3 rfl (by decide) (by omega) 0 (ok := fun _ => True) (okp := fun _ => True) rfl (fun _ hk => hk) trivial (of_decide_eq_true (by first | (with_reducible assumption) | assumption)) (Nat.le_trans (Nat.mul_le_mul_right _ (of_decide_eq_true (by first | (with_reducible assumption) | assumption) : (l0.length : Int).toNat ≤ 35184372088832)) (by omega)) (Below.refl _ _) (Nat.le_refl _) ?_; intro v213 w4 ho5 hb hg_ hnew_; clear hg_ hnew_; (first | rw [← Ny212.out] at ho5 | (simp only [Int.reduceToNat] at ho5; rw [← Ny212.out] at ho5)); have n0_ := Aside0.mk (Kd.R_lower ho5 (za6 bw_)); have n1_ := Aside0.mk (za8 bw_ hb); clear HB; have HO214 := n0_; have HB := n1_; clear n0_ n1_; clear hb ho5))
   go_loopg [4] k (fun kq v4 w' => ∃ (x3_1 : List Int) (x4_1 : Int), v4 = .int .i64 x4_1 ∧ Aside0 (laws_toIntS.l0 kq l0 x3_1 x4_1 = some r) ∧ Aside0 (kq ≤ k) ∧ Aside0 (Kd.R (Kd.int .i64) 3 w' w.heap.size (fun _ => True) v213 x3_1) ∧ Aside0 (Below w.heap.size w w'))
   case atStart => exact ⟨(y212), (0), (by first | rfl | (simp; done) | (simp [*]; done)), H', ⟨Nat.le_refl _⟩, ⟨by (with_reducible repeat (first | apply Kd.zaj | apply Kd.zak | apply Kd.zam)); exact HO214.out⟩, ⟨bw_⟩⟩
   case round =>
    clear H'
    try clear c2
    try clear c2b0
    try clear c2b1
    try clear p2
    try clear c3
    try clear c3b0
    try clear c3b1
    obtain ⟨x3_1, x4_1, rfl, HA, HK1, HO_3, HB⟩ := hrel
    cases gk with
    | zero => exact absurd HA.out (by simp [laws_toIntS.l0])
    | succ k1 =>
     have H := HA.out
     clear HA
     simp only [laws_toIntS.l0] at H
     by_cases c6 : x4_1 < (l0.length : Int)
     ·rw [if_pos c6] at H
      have c6b0 : decide (x4_1 < (l0.length : Int)) = true := decide_eq_true c6
      clear c6
      by_cases c7 : 0 ≤ x4_1
      ·rw [if_pos c7] at H
       have c7b0 : decide (0 ≤ x4_1) = true := decide_eq_true c7
       clear c7
       by_cases c8 : x4_1 < (x3_1.length : Int)
       ·rw [if_pos c8] at H
        have c8b0 : decide (x4_1 < (x3_1.length : Int)) = true := decide_eq_true c8
        clear c8
        obtain ⟨y216, hy216⟩ : ∃ y_ : List Int, y_ = (x3_1.set (x4_1 : Int).toNat (rd l0 x4_1)) := ⟨_, rfl⟩
        replace H : (laws_toIntS.l0 k1 l0 y216 (wrap64 (x4_1 + 1))) = some r := by first | (rw [hy216]; with_reducible exact H) | (have H2_ := (Option.bind_some _ _).symm.trans H; rw [hy216]; with_reducible exact H2_) | (have H2_ := (Option.bind_some _ _).symm.trans H; with_reducible exact H2_) | with_reducible exact H | (rw [hy216]; exact H) | exact H
        have Ny216 := Aside0.mk hy216
        clear hy216
        have H' := Aside0.mk H
        clear H
        have p215 : 0 ≤ (x4_1 : Int) := of_decide_eq_true (by first | (with_reducible assumption) | assumption)
        have q215 : x4_1 < (l0.length : Int) := of_decide_eq_true (by first | (with_reducible assumption) | assumption)
        obtain ⟨ad215, e215, hx215_0⟩ := Kd.at_int HR0.out x4_1 p215 q215
        cases e215
        replace hx215_0 := (HB.out.cell (World.block_lt_of_cell? w _ hx215_0)).trans hx215_0
        replace p215 := eq_true p215
        replace q215 := eq_true q215
        have p9 : 0 ≤ (x4_1 : Int) := of_decide_eq_true (by first | (with_reducible assumption) | assumption)
        have q9 : (x4_1 : Int) < ((x3_1.length : Int) : Int) := of_decide_eq_true (by first | (with_reducible assumption) | assumption)
        obtain ⟨go9, co9, eo9, gb9, gl9, cl9, HG9⟩ := Kd.R_form HO_3.out (by omega)
        (first | cases eo9 | (injection eo9 with ea_ en_ ec_; (first | subst ea_ | (injection ea_ with ea_; subst ea_)); subst ec_; clear en_))
        have GB9 := Aside0.mk gb9
        have GG9 := Aside0.mk HG9
        clear gb9 gl9 HG9
        obtain ⟨hx9_0, hf9_0⟩ := Kd.R_celln 0 HO_3.out (x4_1 : Int) p9 q9
        replace p9 := eq_true p9
        replace q9 := eq_true q9
        have HP10 := Kd.R_putg HO_3.out (x4_1 : Int) (rd l0 x4_1)
        go_wp2_with (first | ((with_reducible refine gate_store (t := 3) (p := 20) rfl ?_); refine store_event (t := 3) (p := 20) (v := ?vo_w11) (w1 := (wr.setCell ⟨go9, (x4_1 : Int).toNat, none⟩ (.int .i64 (rd l0 x4_1)))) ?hg ?ho ?hn ?hr ?_; (case ho => rfl); (case hg => rfl); (case hn => rfl); (case hr => first | (go_simp; done) | (go_simp; rfl)); intro w11 hw; have hg : wr.grownBy w11 (some go9) := (by rw [hw]; exact HP10.2); have hp_ : Kd.R (Kd.int .i64) 3 w11 w.heap.size (fun _ => True) (.slice (some ⟨go9, 0, none⟩) x3_1.length co9) y216 := (by rw [hw, Ny216.out]; exact HP10.1); clear HP10; have n0_ := Aside0.mk (hp_); have n1_ := Aside0.mk ((by rw [hw]; exact below_set (HB.out) GB9.out : Below w.heap.size w w11)); clear HO_3; clear HB; have HO_3 := n0_; have HB := n1_; clear n0_ n1_; clear hg hw hp_))
        go_roundg k1
        case measure => have := HK1.out; omega
        case rel => exact ⟨(y216), (wrap64 (x4_1 + 1)), (by first | rfl | (simp; done) | (simp [*]; done)), H', ⟨by have := HK1.out; omega⟩, ⟨by (with_reducible repeat (first | apply Kd.zaj | apply Kd.zak | apply Kd.zam)); exact HO_3.out⟩, ⟨bw_⟩⟩
       ·rw [if_neg c8] at H
        exact absurd H (by simp)
      ·rw [if_neg c7] at H
       exact absurd H (by simp)
     ·rw [if_neg c6] at H
      have c6b0 : decide (x4_1 < (l0.length : Int)) = false := decide_eq_false c6
      clear c6
      obtain rfl := Option.some.inj H
      go_wp2
      go_ret
      exact ⟨_, by first | rfl | (simp [zab, zaa] <;> rfl) | (simp [*, zab, zaa] <;> rfl), by (with_reducible repeat (first | apply Kd.zaj | apply Kd.zak | apply Kd.zam)); exact HO_3.out, bw_⟩
  ·rw [if_neg c3] at H
   exact absurd H (by simp)
 ·rw [if_neg c2] at H
  exact absurd H (by simp)

/-! ### laws_toRegOp: function 125 -/
def laws_toRegOp.f (a0_0 : Int) (a0_1 : Int) (a0_2 : Int) : Option (Int × Int × Int) := some (a0_0, a0_1, a0_2)
set_option maxHeartbeats 8000000 in
set_option maxRecDepth 100000 in
theorem laws_toRegOp.calls (a0_0 : Int) (a0_1 : Int) (a0_2 : Int) (r1 : Int) (r2 : Int) (r3 : Int) (w : World) (h : laws_toRegOp.f a0_0 a0_1 a0_2 = some (r1, r2, r3)) :
  Calls Try.prog 125 #[.agg #[.int .i64 a0_0, .int .i64 a0_1, .int .i64 a0_2]] w fun e w' => e = .returned (.agg #[.int .i64 r1, .int .i64 r2, .int .i64 r3]) ∧ Below w.heap.size w w' := by
 have hu126 := Try.underlying126
 have hu80 := Try.underlying80
 have HB := Aside0.mk (Below.refl w.heap.size w)
 have H : (some (a0_0, a0_1, a0_2)) = some (r1, r2, r3) := h
 clear h
 simp only [Option.some.injEq, Prod.mk.injEq] at H
 obtain ⟨rfl, rfl, rfl⟩ := H
 go_enter Try.func125, Try.ntmps125
 go_wp2_with (first | ((with_reducible refine zaf (N := 1) rfl ?_); refine zad ?hg (N := 1) ?hd (cs := #[.int .i64 a0_0, .int .i64 a0_1, .int .i64 a0_2]) (t := 126) ?hr ?_; (case hd => rfl); (case hg => rfl); (case hr => first | (go_simp; done) | (go_simp; rfl)); intro gb217 hg w2 hbox hb; have n0_ := Aside0.mk (za8 bw_ hb); have n1_ := Aside0.mk (hbox); have n2_ := Aside0.mk ((by rw [hg]; exact (za6 bw_) : w.heap.size ≤ gb217)); have n3_ := Aside0.mk ((by rw [hg]; exact (za6 bw_) : w.heap.size ≤ gb217)); clear HB; have HB := n0_; have BK217 := n1_; have GW217 := n2_; have GE217 := n3_; clear n0_ n1_ n2_ n3_; clear hb hbox hg) | ((with_reducible refine zaf (N := 2) rfl ?_); refine zad ?hg (N := 2) ?hd (cs := #[.int .i64 0, .int .i64 0, .int .i64 0]) (t := 80) ?hr ?_; (case hd => rfl); (case hg => rfl); (case hr => first | (go_simp; done) | (go_simp; rfl)); intro gb218 hg w3 hbox hb; have n0_ := Aside0.mk (za7 (g := gb217) (o := .cells #[.int .i64 a0_0, .int .i64 a0_1, .int .i64 a0_2] 126 (0, 0)) (by (with_reducible repeat (first | refine za3 ?_ _ | refine za4 ?_ | refine za2 ?_ _)); exact BK217.out) hb); have n1_ := Aside0.mk (za8 bw_ hb); have n2_ := Aside0.mk (hbox); have n3_ := Aside0.mk ((by rw [hg]; exact (za6 bw_) : w.heap.size ≤ gb218)); have n4_ := Aside0.mk ((by rw [hg]; exact (za6 bw_) : w.heap.size ≤ gb218)); have n5_ := Aside0.mk ((by rw [hg]; exact Nat.ne_of_lt (zan (g := gb217) (o := .cells #[.int .i64 a0_0, .int .i64 a0_1, .int .i64 a0_2] 126 (0, 0)) (by (with_reducible repeat (first | refine za3 ?_ _ | refine za4 ?_ | refine za2 ?_ _)); exact BK217.out)) : gb217 ≠ gb218)); have n6_ := Aside0.mk ((by rw [hg]; exact Nat.ne_of_gt (zan (g := gb217) (o := .cells #[.int .i64 a0_0, .int .i64 a0_1, .int .i64 a0_2] 126 (0, 0)) (by (with_reducible repeat (first | refine za3 ?_ _ | refine za4 ?_ | refine za2 ?_ _)); exact BK217.out)) : gb218 ≠ gb217)); clear BK217; clear HB; have BK217 := n0_; have HB := n1_; have BK218 := n2_; have GW218 := n3_; have GE218 := n4_; have NB217_218 := n5_; have NB218_217 := n6_; clear n0_ n1_ n2_ n3_ n4_ n5_ n6_; clear hb hbox hg) | ((with_reducible refine zaf (N := 3) rfl ?_); refine zad ?hg (N := 3) ?hd (cs := #[.int .i64 0, .int .i64 0, .int .i64 0]) (t := 80) ?hr ?_; (case hd => rfl); (case hg => rfl); (case hr => first | (go_simp; done) | (go_simp; rfl)); intro gb219 hg w4 hbox hb; have n0_ := Aside0.mk (za7 (g := gb217) (o := .cells #[.int .i64 a0_0, .int .i64 a0_1, .int .i64 a0_2] 126 (0, 0)) (by (with_reducible repeat (first | refine za3 ?_ _ | refine za4 ?_ | refine za2 ?_ _)); exact BK217.out) hb); have n1_ := Aside0.mk (za7 (g := gb218) (o := .cells #[.int .i64 0, .int .i64 0, .int .i64 0] 80 (0, 0)) (by (with_reducible repeat (first | refine za3 ?_ _ | refine za4 ?_ | refine za2 ?_ _)); exact BK218.out) hb); have n2_ := Aside0.mk (za8 bw_ hb); have n3_ := Aside0.mk (hbox); have n4_ := Aside0.mk ((by rw [hg]; exact (za6 bw_) : w.heap.size ≤ gb219)); have n5_ := Aside0.mk ((by rw [hg]; exact (za6 bw_) : w.heap.size ≤ gb219)); have n6_ := Aside0.mk ((by rw [hg]; exact Nat.ne_of_lt (zan (g := gb217) (o := .cells #[.int .i64 a0_0, .int .i64 a0_1, .int .i64 a0_2] 126 (0, 0)) (by (with_reducible repeat (first | refine za3 ?_ _ | refine za4 ?_ | refine za2 ?_ _)); exact BK217.out)) : gb217 ≠ gb219)); have n7_ := Aside0.mk ((by rw [hg]; exact Nat.ne_of_gt (zan (g := gb217) (o := .cells #[.int .i64 a0_0, .int .i64 a0_1, .int .i64 a0_2] 126 (0, 0)) (by (with_reducible repeat (first | refine za3 ?_ _ | refine za4 ?_ | refine za2 ?_ _)); exact BK217.out)) : gb219 ≠ gb217)); have n8_ := Aside0.mk ((by rw [hg]; exact Nat.ne_of_lt (zan (g := gb218) (o := .cells #[.int .i64 0, .int .i64 0, .int .i64 0] 80 (0, 0)) (by (with_reducible repeat (first | refine za3 ?_ _ | refine za4 ?_ | refine za2 ?_ _)); exact BK218.out)) : gb218 ≠ gb219)); have n9_ := Aside0.mk ((by rw [hg]; exact Nat.ne_of_gt (zan (g := gb218) (o := .cells #[.int .i64 0, .int .i64 0, .int .i64 0] 80 (0, 0)) (by (with_reducible repeat (first | refine za3 ?_ _ | refine za4 ?_ | refine za2 ?_ _)); exact BK218.out)) : gb219 ≠ gb218)); clear BK217; clear BK218; clear HB; have BK217 := n0_; have BK218 := n1_; have HB := n2_; have BK219 := n3_; have GW219 := n4_; have GE219 := n5_; have NB217_219 := n6_; have NB219_217 := n7_; have NB218_219 := n8_; have NB219_218 := n9_; clear n0_ n1_ n2_ n3_ n4_ n5_ n6_ n7_ n8_ n9_; clear hb hbox hg; have hnb5 := NB217_218.out; have hnc5 := NB218_217.out; have hnb6 := NB217_219.out; have hnc6 := NB219_217.out; have hcz7_0 : w4.cell? ⟨gb217, 0, none⟩ = some (.int .i64 a0_0) := (za1 BK217.out 0).trans rfl; have hcz7_1 : w4.cell? ⟨gb217, 1, none⟩ = some (.int .i64 a0_1) := (za1 BK217.out 1).trans rfl; have hcz7_2 : w4.cell? ⟨gb217, 2, none⟩ = some (.int .i64 a0_2) := (za1 BK217.out 2).trans rfl; have hfz7_0 := za0 BK217.out 0; have hfz7_1 := za0 BK217.out 1; have hfz7_2 := za0 BK217.out 2; have hnb8 := NB219_218.out; have hnc8 := NB218_219.out; have hcz9_0 : w4.cell? ⟨gb219, 0, none⟩ = some (.int .i64 0) := (za1 BK219.out 0).trans rfl; have hcz9_1 : w4.cell? ⟨gb219, 1, none⟩ = some (.int .i64 0) := (za1 BK219.out 1).trans rfl; have hcz9_2 : w4.cell? ⟨gb219, 2, none⟩ = some (.int .i64 0) := (za1 BK219.out 2).trans rfl; have hfz9_0 := za0 BK219.out 0; have hfz9_1 := za0 BK219.out 1; have hfz9_2 := za0 BK219.out 2; have hcz10_0 : w4.cell? ⟨gb218, 0, none⟩ = some (.int .i64 0) := (za1 BK218.out 0).trans rfl; have hcz10_1 : w4.cell? ⟨gb218, 1, none⟩ = some (.int .i64 0) := (za1 BK218.out 1).trans rfl; have hcz10_2 : w4.cell? ⟨gb218, 2, none⟩ = some (.int .i64 0) := (za1 BK218.out 2).trans rfl; have hfz10_0 := za0 BK218.out 0; have hfz10_1 := za0 BK218.out 1; have hfz10_2 := za0 BK218.out 2))
 refine bodyPost_ret (results_cell_row rfl _ _ gb218 80 #[.int .i64 a0_0, .int .i64 a0_1, .int .i64 a0_2] (0, 0) _ rfl (by (with_reducible repeat (first | refine za3 ?_ _ | refine za4 ?_ | refine za2 ?_ _)); refine zao (cs := #[.int .i64 a0_0, .int .i64 a0_1, .int .i64 0]) ?_ 2 _ rfl; (with_reducible repeat (first | refine za3 ?_ _ | refine za4 ?_ | refine za2 ?_ _)); refine zao (cs := #[.int .i64 a0_0, .int .i64 0, .int .i64 0]) ?_ 1 _ rfl; (with_reducible repeat (first | refine za3 ?_ _ | refine za4 ?_ | refine za2 ?_ _)); refine zao (cs := #[.int .i64 0, .int .i64 0, .int .i64 0]) ?_ 0 _ rfl; (with_reducible repeat (first | refine za3 ?_ _ | refine za4 ?_ | refine za2 ?_ _)); refine zb2 ?_ NB218_219.out _; (with_reducible repeat (first | refine za3 ?_ _ | refine za4 ?_ | refine za2 ?_ _)); refine zb2 ?_ NB218_219.out _; (with_reducible repeat (first | refine za3 ?_ _ | refine za4 ?_ | refine za2 ?_ _)); refine zb2 ?_ NB218_219.out _; (with_reducible repeat (first | refine za3 ?_ _ | refine za4 ?_ | refine za2 ?_ _)); exact BK218.out) Try.underlying80 rfl (by kernel_rfl)) rfl ?_
 exact ⟨by first | rfl | (simp [zab, zaa] <;> rfl) | (simp [*, zab, zaa] <;> rfl), bw_⟩

/-! ### laws_toRegOpS: function 59 -/
def laws_toRegOpS.l0 : Nat → List (S126) → List (S80) → Int → Option ((List (S80)))
 | 0, _, _, _ => none
 | k + 1, x0, x3, x4 => if x4 < (x0.length : Int) then (if 0 ≤ x4 then ((laws_toRegOp.f ((rd_T126 x0 x4).f0) ((rd_T126 x0 x4).f1) ((rd_T126 x0 x4).f2)).bind fun bt224 => (if x4 < (x3.length : Int) then (laws_toRegOpS.l0 k x0 (x3.set (x4 : Int).toNat (⟨bt224.1, bt224.2.1, bt224.2.2⟩ : S80)) (wrap64 (x4 + 1))) else (none))) else (none)) else (some x3)
def laws_toRegOpS.f (k : Nat) (l0 : List (S126)) : Option ((List (S80))) := if 0 ≤ (l0.length : Int) then (if ((l0.length : Int) : Int).toNat ≤ 11728124029610 then (laws_toRegOpS.l0 k l0 (List.replicate ((l0.length : Int) : Int).toNat z80) 0) else (none)) else (none)
theorem laws_toRegOpS.zb5 : ∀ k, (∀ y0 y1 y2, LeO (laws_toRegOpS.l0 k y0 y1 y2) (laws_toRegOpS.l0 (k + 1) y0 y1 y2))
 | 0 => fun _ _ _ r h => by simp [laws_toRegOpS.l0] at h
 | k + 1 => by
  have ih0 := laws_toRegOpS.zb5 k
  ·intro y0 y1 y2
   unfold laws_toRegOpS.l0
   repeat' first
   | (with_reducible exact ih0 _ _ _)
   | (with_reducible exact LeO.refl _)
   | (with_reducible exact LeO.none _)
   | (with_reducible refine LeO.ite ?_ ?_)
   | (with_reducible refine LeO.bind ?_ (fun _ => ?_))
   | exact ih0 _ _ _
   | exact LeO.none _
   | refine LeO.ite ?_ ?_
   | refine LeO.bind ?_ (fun _ => ?_)
theorem laws_toRegOpS.mono : ∀ a0 k, LeO (laws_toRegOpS.f k a0) (laws_toRegOpS.f (k + 1) a0) := by
 intro a0 k
 have ih0 := laws_toRegOpS.zb5 k
 unfold laws_toRegOpS.f
 repeat' first
   | (with_reducible exact ih0 _ _ _)
   | (with_reducible exact LeO.refl _)
   | (with_reducible exact LeO.none _)
   | (with_reducible refine LeO.ite ?_ ?_)
   | (with_reducible refine LeO.bind ?_ (fun _ => ?_))
   | exact ih0 _ _ _
   | exact LeO.none _
   | refine LeO.ite ?_ ?_
   | refine LeO.bind ?_ (fun _ => ?_)
set_option maxHeartbeats 8000000 in
set_option maxRecDepth 100000 in
theorem laws_toRegOpS.calls (k : Nat) (A0 : Option Addr) (c0 : Nat) (l0 : List (S126)) (r : List (S80)) (w : World) (hr0 : Kd.C k126 w A0 l0.length l0) (hc0 : l0.length ≤ c0) (h : laws_toRegOpS.f k l0 = some r) :
  Calls Try.prog 59 #[.slice A0 l0.length c0] w fun e w' => ∃ v0_ : Value, e = .returned (v0_) ∧ Kd.R k80 80 w' w.heap.size (fun _ => True) v0_ r ∧ Below w.heap.size w w' := by
 have hu126 := Try.underlying126
 have hu80 := Try.underlying80
 have HR0 := Aside0.mk hr0
 have HC0 := Aside0.mk hc0
 clear hr0 hc0
 have HB := Aside0.mk (Below.refl w.heap.size w)
 have H : (if 0 ≤ (l0.length : Int) then (if ((l0.length : Int) : Int).toNat ≤ 11728124029610 then (laws_toRegOpS.l0 k l0 (List.replicate ((l0.length : Int) : Int).toNat z80) 0) else (none)) else (none)) = some r := h
 clear h
 by_cases c2 : 0 ≤ (l0.length : Int)
 ·rw [if_pos c2] at H
  have c2b0 := eq_true c2
  have c2b1 : decide (0 ≤ (l0.length : Int)) = true := decide_eq_true c2
  clear c2
  by_cases c3 : ((l0.length : Int) : Int).toNat ≤ 11728124029610
  ·rw [if_pos c3] at H
   have c3b0 := eq_true c3
   have c3b1 : decide (((l0.length : Int) : Int).toNat ≤ 11728124029610) = true := decide_eq_true c3
   clear c3
   obtain ⟨y220, hy220⟩ : ∃ y_ : List (S80), y_ = (List.replicate ((l0.length : Int) : Int).toNat z80) := ⟨_, rfl⟩
   replace H : (laws_toRegOpS.l0 k l0 y220 0) = some r := by first | (rw [hy220]; with_reducible exact H) | (have H2_ := (Option.bind_some _ _).symm.trans H; rw [hy220]; with_reducible exact H2_) | (have H2_ := (Option.bind_some _ _).symm.trans H; with_reducible exact H2_) | with_reducible exact H | (rw [hy220]; exact H) | exact H
   have Ny220 := Aside0.mk hy220
   clear hy220
   have H' := Aside0.mk H
   clear H
   go_enter Try.func59, Try.ntmps59
   go_wp2_with (first | ((with_reducible refine zaf (N := 7) rfl ?_); refine Kd.R_make k80 _ 80 rfl (N := 7) rfl 28 _ _ rfl (l0.length : Int) rfl rfl Try.underlying28 (.agg #[(.int .i64 0), (.int .i64 0), (.int .i64 0)]) 24 info80 rfl (by decide) (by omega) z80 (ok := fun _ => True) (okp := fun _ => True) (k80_mkM _ _ _ z80 ) (fun _ hk => hk) trivial (of_decide_eq_true (by first | (with_reducible assumption) | assumption)) (Nat.le_trans (Nat.mul_le_mul_right _ (of_decide_eq_true (by first | (with_reducible assumption) | assumption) : (l0.length : Int).toNat ≤ 11728124029610)) (by omega)) (Below.refl _ _) (Nat.le_refl _) ?_; intro v221 w4 ho5 hb hg_ hnew_; clear hg_ hnew_; (first | rw [← Ny220.out] at ho5 | (simp only [Int.reduceToNat] at ho5; rw [← Ny220.out] at ho5)); have n0_ := Aside0.mk (Kd.R_lower ho5 (za6 bw_)); have n1_ := Aside0.mk (za8 bw_ hb); clear HB; have HO222 := n0_; have HB := n1_; clear n0_ n1_; clear hb ho5))
   go_loopg [4] k (fun kq v4 w' => ∃ (x3_1 : List (S80)) (x4_1 : Int), v4 = .int .i64 x4_1 ∧ Aside0 (laws_toRegOpS.l0 kq l0 x3_1 x4_1 = some r) ∧ Aside0 (kq ≤ k) ∧ Aside0 (Kd.R k80 80 w' w.heap.size (fun _ => True) v221 x3_1) ∧ Aside0 (Below w.heap.size w w'))
   case atStart => exact ⟨(y220), (0), (by first | rfl | (simp; done) | (simp [*]; done)), H', ⟨Nat.le_refl _⟩, ⟨by (with_reducible repeat (first | apply Kd.zaj | apply Kd.zak | apply Kd.zam)); exact HO222.out⟩, ⟨bw_⟩⟩
   case round =>
    clear H'
    try clear c2
    try clear c2b0
    try clear c2b1
    try clear p2
    try clear c3
    try clear c3b0
    try clear c3b1
    try clear c5
    obtain ⟨x3_1, x4_1, rfl, HA, HK1, HO_3, HB⟩ := hrel
    cases gk with
    | zero => exact absurd HA.out (by simp [laws_toRegOpS.l0])
    | succ k1 =>
     have H := HA.out
     clear HA
     simp only [laws_toRegOpS.l0] at H
     by_cases c6 : x4_1 < (l0.length : Int)
     ·rw [if_pos c6] at H
      have c6b0 : decide (x4_1 < (l0.length : Int)) = true := decide_eq_true c6
      clear c6
      by_cases c7 : 0 ≤ x4_1
      ·rw [if_pos c7] at H
       have c7b0 : decide (0 ≤ x4_1) = true := decide_eq_true c7
       clear c7
       replace H := Option.bind_eq_some_iff.mp H
       obtain ⟨⟨t224, t225, t226⟩, A80, H⟩ := H
       replace H : (if x4_1 < (x3_1.length : Int) then (laws_toRegOpS.l0 k1 l0 (x3_1.set (x4_1 : Int).toNat (⟨t224, t225, t226⟩ : S80)) (wrap64 (x4_1 + 1))) else (none)) = some r := H
       have A8 := Aside0.mk A80
       clear A80
       by_cases c9 : x4_1 < (x3_1.length : Int)
       ·rw [if_pos c9] at H
        have c9b0 : decide (x4_1 < (x3_1.length : Int)) = true := decide_eq_true c9
        clear c9
        obtain ⟨y227, hy227⟩ : ∃ y_ : List (S80), y_ = (x3_1.set (x4_1 : Int).toNat (⟨t224, t225, t226⟩ : S80)) := ⟨_, rfl⟩
        replace H : (laws_toRegOpS.l0 k1 l0 y227 (wrap64 (x4_1 + 1))) = some r := by first | (rw [hy227]; with_reducible exact H) | (have H2_ := (Option.bind_some _ _).symm.trans H; rw [hy227]; with_reducible exact H2_) | (have H2_ := (Option.bind_some _ _).symm.trans H; with_reducible exact H2_) | with_reducible exact H | (rw [hy227]; exact H) | exact H
        have Ny227 := Aside0.mk hy227
        clear hy227
        have H' := Aside0.mk H
        clear H
        have p223 : 0 ≤ (x4_1 : Int) := of_decide_eq_true (by first | (with_reducible assumption) | assumption)
        have q223 : x4_1 < (l0.length : Int) := of_decide_eq_true (by first | (with_reducible assumption) | assumption)
        obtain ⟨ad223, e223, hx223_0, hx223_1, hx223_2⟩ := at_T126 HR0.out x4_1 p223 q223
        cases e223
        replace hx223_0 := (HB.out.cell (World.block_lt_of_cell? w _ hx223_0)).trans hx223_0
        replace hx223_1 := (HB.out.cell (World.block_lt_of_cell? w _ hx223_1)).trans hx223_1
        replace hx223_2 := (HB.out.cell (World.block_lt_of_cell? w _ hx223_2)).trans hx223_2
        replace p223 := eq_true p223
        replace q223 := eq_true q223
        go_wp2_with (first | ((with_reducible refine zah (f := 125) rfl ?_); refine zaz (some 20) rfl rfl Try.func125 (by kernel_rfl) rfl #[.agg #[.int .i64 ((rd_T126 l0 x4_1).f0), .int .i64 ((rd_T126 l0 x4_1).f1), .int .i64 ((rd_T126 l0 x4_1).f2)]] rfl (by (try simp only [List.map_toArray, List.map_cons, List.map_nil]); first | done | rfl | (simp only [List.length_drop, List.length_take]; rfl)) ?_; (with_reducible refine (laws_toRegOp.calls ((rd_T126 l0 x4_1).f0) ((rd_T126 l0 x4_1).f1) ((rd_T126 l0 x4_1).f2) t224 t225 t226 _ A8.out).mono ?_); rintro e w11 ⟨rfl, hb⟩; refine ⟨_, rfl, ?_⟩; have n0_ := Aside0.mk (Kd.zba (by (with_reducible repeat (first | apply Kd.zaj | apply Kd.zak | apply Kd.zam)); exact HO_3.out) hb); have n1_ := Aside0.mk (za8 bw_ hb); clear HO_3; clear HB; have HO_3 := n0_; have HB := n1_; clear n0_ n1_; (try clear hb); (try clear hb2); (try clear hk); (try clear hi); have p10 : 0 ≤ (x4_1 : Int) := of_decide_eq_true (by first | (with_reducible assumption) | assumption); have q10 : (x4_1 : Int) < ((x3_1.length : Int) : Int) := of_decide_eq_true (by first | (with_reducible assumption) | assumption); obtain ⟨go10, co10, eo10, gb10, gl10, cl10, HG10⟩ := Kd.R_form HO_3.out (by omega); (first | cases eo10 | (injection eo10 with ea_ en_ ec_; (first | subst ea_ | (injection ea_ with ea_; subst ea_)); subst ec_; clear en_)); have GB10 := Aside0.mk gb10; have GG10 := Aside0.mk HG10; clear gb10 gl10 HG10; obtain ⟨ce10, hcl10, hM10, hcc10, hfr10⟩ := Kd.R_elem HO_3.out z80 (x4_1 : Int) p10 q10; obtain rfl := k80_openM hM10; have hx10_0 : w11.cell? ⟨go10, (x4_1 : Int).toNat * 3, none⟩ = some (.int .i64 ((zae x3_1 x4_1).f0)) := hcc10 0 _ rfl; have hx10_1 : w11.cell? ⟨go10, (x4_1 : Int).toNat * 3 + 1, none⟩ = some (.int .i64 ((zae x3_1 x4_1).f1)) := hcc10 1 _ rfl; have hx10_2 : w11.cell? ⟨go10, (x4_1 : Int).toNat * 3 + 2, none⟩ = some (.int .i64 ((zae x3_1 x4_1).f2)) := hcc10 2 _ rfl; have hf10_0 : w11.frozen? ⟨go10, (x4_1 : Int).toNat * 3, none⟩ = false := hfr10 0; have hf10_1 : w11.frozen? ⟨go10, (x4_1 : Int).toNat * 3 + 1, none⟩ = false := hfr10 1; have hf10_2 : w11.frozen? ⟨go10, (x4_1 : Int).toNat * 3 + 2, none⟩ = false := hfr10 2; clear hcl10 hcc10 hfr10 hM10; replace p10 := eq_true p10; replace q10 := eq_true q10; have HX12 := Aside0.mk (show Kd.R k80 80 w11 w.heap.size (fun _ => True) (.slice (some ⟨go10, 0, none⟩) x3_1.length co10) x3_1 from (by (with_reducible repeat (first | apply Kd.zaj | apply Kd.zak | apply Kd.zam)); exact HO_3.out)); obtain ⟨ce12, hcl12, hM12, hcc12, hfr12⟩ := Kd.R_elem HX12.out z80 (x4_1 : Int) (of_decide_eq_true (by first | (with_reducible assumption) | assumption)) (by have h_ : (x4_1 : Int) < ((x3_1.length : Int) : Int) := of_decide_eq_true (by first | (with_reducible assumption) | assumption); first | exact h_ | (have e_ := (Kd.R_reads' HO_3.out).1; omega) | simpa using h_); obtain rfl := k80_openM hM12; have HP12 := Kd.R_seg HX12.out (x4_1 : Int) (of_decide_eq_true (by first | (with_reducible assumption) | assumption)) (by have h_ : (x4_1 : Int) < ((x3_1.length : Int) : Int) := of_decide_eq_true (by first | (with_reducible assumption) | assumption); first | exact h_ | (have e_ := (Kd.R_reads' HO_3.out).1; omega) | simpa using h_) (seg := [.int .i64 t224, .int .i64 t225, .int .i64 t226]) (j := 0) hcl12 hcc12 (show 3 ≤ 3 from by decide) (x' := (⟨t224, t225, t226⟩ : S80)) (k80_mkM _ _ _ (⟨t224, t225, t226⟩ : S80) ) (fun _ hk => hk); have hx12_0 := hcc12 0 _ rfl; (try simp only [show (k80).sz = 3 from rfl, Nat.mul_one, Nat.add_zero] at hx12_0); have hf12_0 := hfr12 0; (try simp only [show (k80).sz = 3 from rfl, Nat.mul_one, Nat.add_zero] at hf12_0); have hx12_1 := hcc12 1 _ rfl; (try simp only [show (k80).sz = 3 from rfl, Nat.mul_one, Nat.add_zero] at hx12_1); have hf12_1 := hfr12 1; (try simp only [show (k80).sz = 3 from rfl, Nat.mul_one, Nat.add_zero] at hf12_1); have hx12_2 := hcc12 2 _ rfl; (try simp only [show (k80).sz = 3 from rfl, Nat.mul_one, Nat.add_zero] at hx12_2); have hf12_2 := hfr12 2; (try simp only [show (k80).sz = 3 from rfl, Nat.mul_one, Nat.add_zero] at hf12_2); clear hcl12 hcc12 hfr12 hM12) | ((with_reducible refine gate_store (t := 80) (p := 21) rfl ?_); refine store_event (t := 80) (p := 21) (v := ?vo_w13) (w1 := (((w11.setCell ⟨go10, (x4_1 : Int).toNat * 3, none⟩ (.int .i64 t224)).setCell ⟨go10, (x4_1 : Int).toNat * 3 + 1, none⟩ (.int .i64 t225)).setCell ⟨go10, (x4_1 : Int).toNat * 3 + 2, none⟩ (.int .i64 t226))) ?hg ?ho ?hn ?hr ?_; (case ho => rfl); (case hg => rfl); (case hn => rfl); (case hr => first | (go_simp; done) | (go_simp; rfl)); intro w13 hw; have hg : w11.grownBy w13 (some go10) := (by rw [hw]; exact HP12.2); have hp_ : Kd.R k80 80 w13 w.heap.size (fun _ => True) (.slice (some ⟨go10, 0, none⟩) x3_1.length co10) y227 := (by rw [hw, Ny227.out]; exact HP12.1); clear HP12; have n0_ := Aside0.mk (hp_); have n1_ := Aside0.mk ((by rw [hw]; exact below_set (below_set (below_set (HB.out) GB10.out) GB10.out) GB10.out : Below w.heap.size w w13)); clear HO_3; clear HB; have HO_3 := n0_; have HB := n1_; clear n0_ n1_; clear hg hw hp_))
        go_roundg k1
        case measure => have := HK1.out; omega
        case rel => exact ⟨(y227), (wrap64 (x4_1 + 1)), (by first | rfl | (simp; done) | (simp [*]; done)), H', ⟨by have := HK1.out; omega⟩, ⟨by (with_reducible repeat (first | apply Kd.zaj | apply Kd.zak | apply Kd.zam)); exact HO_3.out⟩, ⟨bw_⟩⟩
       ·rw [if_neg c9] at H
        exact absurd H (by simp)
      ·rw [if_neg c7] at H
       exact absurd H (by simp)
     ·rw [if_neg c6] at H
      have c6b0 : decide (x4_1 < (l0.length : Int)) = false := decide_eq_false c6
      clear c6
      obtain rfl := Option.some.inj H
      go_wp2
      go_ret
      exact ⟨_, by first | rfl | (simp [zab, zaa] <;> rfl) | (simp [*, zab, zaa] <;> rfl), by (with_reducible repeat (first | apply Kd.zaj | apply Kd.zak | apply Kd.zam)); exact HO_3.out, bw_⟩
  ·rw [if_neg c3] at H
   exact absurd H (by simp)
 ·rw [if_neg c2] at H
  exact absurd H (by simp)

end Go.Proofs.Ytpdpomjgfmdjfaa.Z
