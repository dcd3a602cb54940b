-- Written by a program of this session (wip/tools/stubprint.py): contracts by hand where the kit's print has none.
import Derived.Test.YtgglemlhombgkaaKFnExactEstrinCodeQ0
import Derived.Test.YtgglemlhombgkaaKFnExactEstrinCodeQ1
import Derived.Test.YtgglemlhombgkaaKFnExactEstrinCodeQ2
import Derived.Test.YtgglemlhombgkaaKFnExactEstrinCodeQ3
import Derived.Test.YtgglemlhombgkaaKFnExactEstrinCodeQ4
namespace Go.Proofs.Ytgglemlhombgkaa.Z
open Go.RowKit Go.Proofs.YtgglemlhombgkaaW.PrintWords Go.Proofs.YtgglemlhombgkaaW.PrintLast Go.Proofs.YtgglemlhombgkaaW.PrintMore
attribute [local go_sem] max2_int min2_int max_two min_two max_three min_three max_four min_four   -- for this text's walks alone
set_option linter.unusedVariables false
set_option linter.unusedSimpArgs false

/-! ### spec_EstrinCode: function 49 -/
mutual
def spec_EstrinCode.l0 : Nat → List Int → List Int → Int → Int → List (S69) → Int → Option ((List (S69)) × Int × Bool)
 | 0, _, _, _, _, _, _ => none
 | k + 1, x6, x17, x18, x19, x491000, x491001 => if x19 < x18 then (if 0 ≤ x19 then (if x19 < (x17.length : Int) then ((spec_poAdd.f x491000 x491001 0 (rd x17 x19) 0).bind fun bt492 => (if x6.length < 17592186044416 then (spec_EstrinCode.l0 k (x6 ++ [bt492.2.2]) x17 x18 (wrap64 (x19 + 1)) bt492.1 bt492.2.1) else (none))) else (none)) else (none)) else (spec_EstrinCode.l1 k x6 0 x491000 x491001)
def spec_EstrinCode.l1 : Nat → List Int → Int → List (S69) → Int → Option ((List (S69)) × Int × Bool)
 | 0, _, _, _, _ => none
 | k + 1, x6, x9, x491000, x491001 => if (x6.length : Int) > 1 then (spec_EstrinCode.l2 k x6 x9 ([] : List Int) 0 x491000 x491001) else (if 0 < (x6.length : Int) then ((spec_poIf.f k x491000 (rd x6 0)).bind fun bt501 => (some (bt501.1, bt501.2.1, bt501.2.2))) else (none))
def spec_EstrinCode.l2 : Nat → List Int → Int → List Int → Int → List (S69) → Int → Option ((List (S69)) × Int × Bool)
 | 0, _, _, _, _, _, _ => none
 | k + 1, x6, x9, x10, x11, x491000, x491001 => if (wrap64 (x11 + 1)) < (x6.length : Int) then (if 0 ≤ (wrap64 (x11 + 1)) then ((spec_poAdd.f x491000 x491001 3 (rd x6 (wrap64 (x11 + 1))) x9).bind fun bt507 => (if 0 ≤ x11 then (if x11 < (x6.length : Int) then ((spec_poAdd.f bt507.1 bt507.2.1 1 (rd x6 x11) bt507.2.2).bind fun bt513 => (if x10.length < 17592186044416 then (spec_EstrinCode.l2 k x6 x9 (x10 ++ [bt513.2.2]) (wrap64 (x11 + 2)) bt513.1 bt513.2.1) else (none))) else (none)) else (none))) else (none)) else (if ((x6.length : Int) % 2) = 1 then (if 0 ≤ (wrap64 ((x6.length : Int) - 1)) then (if (wrap64 ((x6.length : Int) - 1)) < (x6.length : Int) then (if x10.length < 17592186044416 then (spec_EstrinCode.j3 k x9 (x10 ++ [rd x6 (wrap64 ((x6.length : Int) - 1))]) x491000 x491001) else (none)) else (none)) else (none)) else (spec_EstrinCode.j3 k x9 x10 x491000 x491001))
def spec_EstrinCode.j3 : Nat → Int → List Int → List (S69) → Int → Option ((List (S69)) × Int × Bool)
 | 0, _, _, _, _ => none
 | k + 1, x9, x10, x491000, x491001 => if (x10.length : Int) > 1 then ((spec_poAdd.f x491000 x491001 3 x9 x9).bind fun bt525 => (spec_EstrinCode.l1 k x10 bt525.2.2 bt525.1 bt525.2.1)) else (spec_EstrinCode.l1 k x10 x9 x491000 x491001)
end
def spec_EstrinCode.f (k : Nat) (l0 : List Int) : Option ((List (S69)) × Int × Bool) := (spec_poCoefs.f k l0).bind fun t489 => (if t489 = true then (spec_EstrinCode.l0 k ([] : List Int) l0 (l0.length : Int) 0 ([] : List (S69)) 0) else (some (([] : List (S69)), 0, false)))
theorem spec_EstrinCode.zb2 : ∀ k, (∀ y0 y1 y2 y3 y4 y5, LeO (spec_EstrinCode.l0 k y0 y1 y2 y3 y4 y5) (spec_EstrinCode.l0 (k + 1) y0 y1 y2 y3 y4 y5)) ∧ (∀ y0 y1 y2 y3, LeO (spec_EstrinCode.l1 k y0 y1 y2 y3) (spec_EstrinCode.l1 (k + 1) y0 y1 y2 y3)) ∧ (∀ y0 y1 y2 y3 y4 y5, LeO (spec_EstrinCode.l2 k y0 y1 y2 y3 y4 y5) (spec_EstrinCode.l2 (k + 1) y0 y1 y2 y3 y4 y5)) ∧ (∀ y0 y1 y2 y3, LeO (spec_EstrinCode.j3 k y0 y1 y2 y3) (spec_EstrinCode.j3 (k + 1) y0 y1 y2 y3))
 | 0 => ⟨fun _ _ _ _ _ _ r h => by simp [spec_EstrinCode.l0] at h, fun _ _ _ _ r h => by simp [spec_EstrinCode.l1] at h, fun _ _ _ _ _ _ r h => by simp [spec_EstrinCode.l2] at h, fun _ _ _ _ r h => by simp [spec_EstrinCode.j3] at h⟩
 | k + 1 => by
  obtain ⟨ih0, ih1, ih2, ih3⟩ := spec_EstrinCode.zb2 k
  refine ⟨?_, ?_, ?_, ?_⟩
  ·intro y0 y1 y2 y3 y4 y5
   unfold spec_EstrinCode.l0
   repeat' first
   | (with_reducible exact ih0 _ _ _ _ _ _)
   | (with_reducible exact ih1 _ _ _ _)
   | (with_reducible exact ih2 _ _ _ _ _ _)
   | (with_reducible exact ih3 _ _ _ _)
   | (with_reducible exact spec_poCoefs.mono _ _)
   | (with_reducible exact spec_poIf.mono _ _ _)
   | (with_reducible exact LeO.refl _)
   | (with_reducible exact LeO.none _)
   | (with_reducible refine LeO.ite ?_ ?_)
   | (with_reducible refine LeO.bind ?_ (fun _ => ?_))
   | exact ih0 _ _ _ _ _ _
   | exact ih1 _ _ _ _
   | exact ih2 _ _ _ _ _ _
   | exact ih3 _ _ _ _
   | exact spec_poCoefs.mono _ _
   | exact spec_poIf.mono _ _ _
   | exact LeO.none _
   | refine LeO.ite ?_ ?_
   | refine LeO.bind ?_ (fun _ => ?_)
  ·intro y0 y1 y2 y3
   unfold spec_EstrinCode.l1
   repeat' first
   | (with_reducible exact ih0 _ _ _ _ _ _)
   | (with_reducible exact ih1 _ _ _ _)
   | (with_reducible exact ih2 _ _ _ _ _ _)
   | (with_reducible exact ih3 _ _ _ _)
   | (with_reducible exact spec_poCoefs.mono _ _)
   | (with_reducible exact spec_poIf.mono _ _ _)
   | (with_reducible exact LeO.refl _)
   | (with_reducible exact LeO.none _)
   | (with_reducible refine LeO.ite ?_ ?_)
   | (with_reducible refine LeO.bind ?_ (fun _ => ?_))
   | exact ih0 _ _ _ _ _ _
   | exact ih1 _ _ _ _
   | exact ih2 _ _ _ _ _ _
   | exact ih3 _ _ _ _
   | exact spec_poCoefs.mono _ _
   | exact spec_poIf.mono _ _ _
   | exact LeO.none _
   | refine LeO.ite ?_ ?_
   | refine LeO.bind ?_ (fun _ => ?_)
  ·intro y0 y1 y2 y3 y4 y5
   unfold spec_EstrinCode.l2
   repeat' first
   | (with_reducible exact ih0 _ _ _ _ _ _)
   | (with_reducible exact ih1 _ _ _ _)
   | (with_reducible exact ih2 _ _ _ _ _ _)
   | (with_reducible exact ih3 _ _ _ _)
   | (with_reducible exact spec_poCoefs.mono _ _)
   | (with_reducible exact spec_poIf.mono _ _ _)
   | (with_reducible exact LeO.refl _)
   | (with_reducible exact LeO.none _)
   | (with_reducible refine LeO.ite ?_ ?_)
   | (with_reducible refine LeO.bind ?_ (fun _ => ?_))
   | exact ih0 _ _ _ _ _ _
   | exact ih1 _ _ _ _
   | exact ih2 _ _ _ _ _ _
   | exact ih3 _ _ _ _
   | exact spec_poCoefs.mono _ _
   | exact spec_poIf.mono _ _ _
   | exact LeO.none _
   | refine LeO.ite ?_ ?_
   | refine LeO.bind ?_ (fun _ => ?_)
  ·intro y0 y1 y2 y3
   unfold spec_EstrinCode.j3
   repeat' first
   | (with_reducible exact ih0 _ _ _ _ _ _)
   | (with_reducible exact ih1 _ _ _ _)
   | (with_reducible exact ih2 _ _ _ _ _ _)
   | (with_reducible exact ih3 _ _ _ _)
   | (with_reducible exact spec_poCoefs.mono _ _)
   | (with_reducible exact spec_poIf.mono _ _ _)
   | (with_reducible exact LeO.refl _)
   | (with_reducible exact LeO.none _)
   | (with_reducible refine LeO.ite ?_ ?_)
   | (with_reducible refine LeO.bind ?_ (fun _ => ?_))
   | exact ih0 _ _ _ _ _ _
   | exact ih1 _ _ _ _
   | exact ih2 _ _ _ _ _ _
   | exact ih3 _ _ _ _
   | exact spec_poCoefs.mono _ _
   | exact spec_poIf.mono _ _ _
   | exact LeO.none _
   | refine LeO.ite ?_ ?_
   | refine LeO.bind ?_ (fun _ => ?_)
theorem spec_EstrinCode.mono : ∀ a0 k, LeO (spec_EstrinCode.f k a0) (spec_EstrinCode.f (k + 1) a0) := by
 intro a0 k
 obtain ⟨ih0, ih1, ih2, ih3⟩ := spec_EstrinCode.zb2 k
 unfold spec_EstrinCode.f
 repeat' first
   | (with_reducible exact ih0 _ _ _ _ _ _)
   | (with_reducible exact ih1 _ _ _ _)
   | (with_reducible exact ih2 _ _ _ _ _ _)
   | (with_reducible exact ih3 _ _ _ _)
   | (with_reducible exact spec_poCoefs.mono _ _)
   | (with_reducible exact spec_poIf.mono _ _ _)
   | (with_reducible exact LeO.refl _)
   | (with_reducible exact LeO.none _)
   | (with_reducible refine LeO.ite ?_ ?_)
   | (with_reducible refine LeO.bind ?_ (fun _ => ?_))
   | exact ih0 _ _ _ _ _ _
   | exact ih1 _ _ _ _
   | exact ih2 _ _ _ _ _ _
   | exact ih3 _ _ _ _
   | exact spec_poCoefs.mono _ _
   | exact spec_poIf.mono _ _ _
   | exact LeO.none _
   | refine LeO.ite ?_ ?_
   | refine LeO.bind ?_ (fun _ => ?_)
def spec_EstrinCode.T18 : Bool × List (List Nat × List Nat) := (true, [([], []), ([], []), ([], []), ([2], [2]), ([1, 3], [1, 3]), ([4], [4]), ([], []), ([0, 5, 6], [0, 5, 6]), ([7], [7]), ([8], [8]), ([8], [8]), ([9, 7, 0, 1, 2, 3, 4, 5, 6, 7, 8, 9], [9]), ([10, 11, 0, 1, 2, 3, 4, 5, 6, 7, 8, 9, 10, 11], [10])])
def spec_EstrinCode.B18 : List Nat := [0, 0, 0, 4, 14, 30, 0, 127, 255, 511, 511, 1023, 4095]
theorem spec_EstrinCode.tab18 : rtab .any (opsOf Try.f49 18) = spec_EstrinCode.T18 := by kernel_rfl
theorem spec_EstrinCode.bits18 : waitsOk spec_EstrinCode.T18.2 spec_EstrinCode.B18 = true := by kernel_rfl
def spec_EstrinCode.T19 : Bool × List (List Nat × List Nat) := (true, [([], []), ([], []), ([], []), ([1, 2], [1, 2]), ([3], [3]), ([], []), ([0, 4, 5], [0, 4, 5]), ([6], [6]), ([7], [7]), ([7], [7]), ([8, 6, 0, 1, 2, 3, 4, 5, 6, 7, 8], [8]), ([9, 10, 0, 1, 2, 3, 4, 5, 6, 7, 8, 9, 10], [5, 9])])
def spec_EstrinCode.B19 : List Nat := [0, 0, 0, 6, 14, 0, 63, 127, 255, 255, 511, 2047]
theorem spec_EstrinCode.tab19 : rtab .any (opsOf Try.f49 19) = spec_EstrinCode.T19 := by kernel_rfl
theorem spec_EstrinCode.bits19 : waitsOk spec_EstrinCode.T19.2 spec_EstrinCode.B19 = true := by kernel_rfl
set_option maxHeartbeats 8000000 in
set_option maxRecDepth 100000 in
theorem spec_EstrinCode.calls (k : Nat) (A0 : Option Addr) (c0 : Nat) (l0 : List Int) (r1 : List (S69)) (r2 : Int) (r3 : Bool) (w : World) (hr0 : Kd.C (Kd.int .i64) w A0 l0.length l0) (hc0 : l0.length ≤ c0) (h : spec_EstrinCode.f k l0 = some (r1, r2, r3)) :
  Calls Try.prog 49 #[.slice A0 l0.length c0] w fun e w' => ∃ v0_ : Value, e = .returned (.tuple #[.agg #[v0_, .int .i64 r2], .bool r3]) ∧ Kd.R k69 69 w' w.heap.size (fun _ => True) v0_ r1 ∧ Below w.heap.size w w' := by
 have hu39 := Try.underlying39
 have HR0 := Aside0.mk hr0
 have HC0 := Aside0.mk hc0
 clear hr0 hc0
 have HB := Aside0.mk (Below.refl w.heap.size w)
 have H : ((spec_poCoefs.f k l0).bind fun t489 => (if t489 = true then (spec_EstrinCode.l0 k ([] : List Int) l0 (l0.length : Int) 0 ([] : List (S69)) 0) else (some (([] : List (S69)), 0, false)))) = some (r1, r2, r3) := h
 clear h
 replace H := Option.bind_eq_some_iff.mp H
 obtain ⟨t489, A20, H⟩ := H
 replace H : (if t489 = true then (spec_EstrinCode.l0 k ([] : List Int) l0 (l0.length : Int) 0 ([] : List (S69)) 0) else (some (([] : List (S69)), 0, false))) = some (r1, r2, r3) := H
 have A2 := Aside0.mk A20
 clear A20
 by_cases c3 : t489 = true
 ·subst c3
  have H1 : (spec_EstrinCode.l0 k ([] : List Int) l0 (l0.length : Int) 0 ([] : List (S69)) 0) = some (r1, r2, r3) := by rw [if_pos rfl] at H; exact H
  clear H
  have H := H1
  clear H1
  have H' := Aside0.mk H
  clear H
  go_enter Try.func49, Try.ntmps49
  go_wp2_with (first | ((with_reducible refine zal (N := 2) rfl ?_); refine zan ?hg (N := 2) ?hd (cs := #[.slice none 0 0, .int .i64 0]) (t := 39) ?hr ?_; (case hd => rfl); (case hg => rfl); (case hr => first | (go_simp; done) | (go_simp; rfl)); intro gb488 hg w4 hbox hb; have n0_ := Aside0.mk (zad (by repeat (first | (with_reducible first | exact HB.out | apply za2 | apply za0 | apply za1) | exact HB.out)) hb); have n1_ := Aside0.mk (hbox); have n2_ := Aside0.mk ((by rw [hg]; exact (za9 (by repeat (first | (with_reducible first | exact HB.out | apply za2 | apply za0 | apply za1) | exact HB.out))) : w.heap.size ≤ gb488)); have n3_ := Aside0.mk ((by rw [hg]; exact (za9 (by repeat (first | (with_reducible first | exact HB.out | apply za2 | apply za0 | apply za1) | exact HB.out))) : w.heap.size ≤ gb488)); clear HB; have HB := n0_; have BK488 := n1_; have GW488 := n2_; have GE488 := n3_; clear n0_ n1_ n2_ n3_; clear hb hbox hg) | ((with_reducible refine zaj (f := 51) rfl ?_); refine zaz (some 13) rfl rfl Try.func51 (by kernel_rfl) rfl #[.slice A0 l0.length c0] rfl (by (try simp only [List.map_toArray, List.map_cons, List.map_nil]); first | done | rfl | (simp only [List.length_drop, List.length_take]; rfl)) ?_; (with_reducible refine (spec_poCoefs.calls k _ _ l0 true _ ?side1 ?side2 A2.out).mono ?_); (case side1 => repeat (first | exact (Kd.zb4 HR0.out HB.out) | (with_reducible refine Kd.zar ?_ _) | (with_reducible refine Kd.zas ?_ _) | (with_reducible refine Kd.zav ?_))); (case side2 => exact HC0.out); rintro e w' ⟨rfl, ⟨nd, rfl⟩⟩; refine ⟨_, rfl, ?_⟩; (try (rw [drewN_self w4]; generalize hq_ : World.drewN w4 _ = w4; have n0_ : Aside0 (w4.heap[gb488]? = some (.cells #[.slice none 0 0, .int .i64 0] 39 (0, 0))) := ⟨by rw [← hq_]; exact (by (with_reducible repeat (first | refine za4 ?_ _ | refine za6 ?_ | refine za5 ?_ _)); exact BK488.out)⟩; have n1_ : Aside0 (Below w.heap.size w w4) := ⟨by rw [← hq_]; exact (by repeat (first | (with_reducible first | exact HB.out | apply za2 | apply za0 | apply za1 | refine za3 ?_ GE488.out) | exact HB.out))⟩; clear BK488 HB hq_; have BK488 := n0_; have HB := n1_; clear n0_ n1_))) | ((with_reducible refine zal (N := 4) rfl ?_); refine zan ?hg (N := 4) ?hd (cs := #[.slice none 0 0, .int .i64 0]) (t := 39) ?hr ?_; (case hd => rfl); (case hg => rfl); (case hr => first | (go_simp; done) | (go_simp; rfl)); intro gb490 hg w5 hbox hb; have n0_ := Aside0.mk (zae (g := gb488) (o := .cells #[.slice none 0 0, .int .i64 0] 39 (0, 0)) (by (with_reducible repeat (first | refine za4 ?_ _ | refine za6 ?_ | refine za5 ?_ _)); exact BK488.out) hb); have n1_ := Aside0.mk (zad (by repeat (first | (with_reducible first | exact HB.out | apply za2 | apply za0 | apply za1 | refine za3 ?_ GE488.out) | exact HB.out)) hb); have n2_ := Aside0.mk (hbox); have n3_ := Aside0.mk ((by rw [hg]; exact (za9 (by repeat (first | (with_reducible first | exact HB.out | apply za2 | apply za0 | apply za1 | refine za3 ?_ GE488.out) | exact HB.out))) : w.heap.size ≤ gb490)); have n4_ := Aside0.mk ((by rw [hg]; exact (za9 (by repeat (first | (with_reducible first | exact HB.out | apply za2 | apply za0 | apply za1 | refine za3 ?_ GE488.out) | exact HB.out))) : w.heap.size ≤ gb490)); have n5_ := Aside0.mk ((by rw [hg]; exact Nat.ne_of_lt (zay (g := gb488) (o := .cells #[.slice none 0 0, .int .i64 0] 39 (0, 0)) (by (with_reducible repeat (first | refine za4 ?_ _ | refine za6 ?_ | refine za5 ?_ _)); exact BK488.out)) : gb488 ≠ gb490)); have n6_ := Aside0.mk ((by rw [hg]; exact Nat.ne_of_gt (zay (g := gb488) (o := .cells #[.slice none 0 0, .int .i64 0] 39 (0, 0)) (by (with_reducible repeat (first | refine za4 ?_ _ | refine za6 ?_ | refine za5 ?_ _)); exact BK488.out)) : gb490 ≠ gb488)); clear BK488; clear HB; have BK488 := n0_; have HB := n1_; have BK490 := n2_; have GW490 := n3_; have GE490 := n4_; have NB488_490 := n5_; have NB490_488 := n6_; clear n0_ n1_ n2_ n3_ n4_ n5_ n6_; clear hb hbox hg; have hnb6 := NB490_488.out; have hnc6 := NB488_490.out; have hcz7_0 : w5.cell? ⟨gb490, 0, none⟩ = some (.slice none 0 0) := (za8 BK490.out 0).trans rfl; have hcz7_1 : w5.cell? ⟨gb490, 1, none⟩ = some (.int .i64 0) := (za8 BK490.out 1).trans rfl; have hfz7_0 := za7 BK490.out 0; have hfz7_1 := za7 BK490.out 1))
  go_loopg [6, 19] k (fun kq v6 v19 w' => ∃ (x6_1 : List Int) (x19_1 : Int) (x491000_1 : List (S69)) (x491001_1 : Int) (u491000 : Value), v19 = .int .i64 x19_1 ∧ Aside0 (spec_EstrinCode.l0 kq x6_1 l0 (l0.length : Int) x19_1 x491000_1 x491001_1 = some (r1, r2, r3)) ∧ Aside0 (kq ≤ k) ∧ Aside0 (Kd.R (Kd.int .i64) 3 w' w.heap.size (fun _ => True) v6 x6_1) ∧ Aside0 (Kd.R k69 69 w' w.heap.size (fun _ => True) u491000 x491000_1) ∧ Aside0 (w'.heap[gb488]? = some (.cells #[(.slice none 0 0), .int .i64 0] 39 (0, 0))) ∧ Aside0 (w'.heap[gb490]? = some (.cells #[u491000, .int .i64 x491001_1] 39 (0, 0))) ∧ Aside0 (Below w.heap.size w w'))
  case atStart => exact ⟨(([] : List Int)), (0), (([] : List (S69))), (0), (.slice none 0 0), (by first | rfl | (simp; done) | (simp [*]; done)), H', ⟨Nat.le_refl _⟩, ⟨by first | exact Kd.R_nil _ _ _ _ _ | exact Kd.N_nil _ _ _ _ _ | exact Kd.V_nil _ _ _ _ _ | exact Kd.Q_nil _ _ _ _ _ | exact Kd.S_nil _ _ _ _ _⟩, ⟨by first | exact Kd.R_nil _ _ _ _ _ | exact Kd.N_nil _ _ _ _ _ | exact Kd.V_nil _ _ _ _ _ | exact Kd.Q_nil _ _ _ _ _ | exact Kd.S_nil _ _ _ _ _⟩, ⟨by (with_reducible repeat (first | refine za4 ?_ _ | refine za6 ?_ | refine za5 ?_ _)); refine zax ?_ NB488_490.out _; (with_reducible repeat (first | refine za4 ?_ _ | refine za6 ?_ | refine za5 ?_ _)); refine zax ?_ NB488_490.out _; (with_reducible repeat (first | refine za4 ?_ _ | refine za6 ?_ | refine za5 ?_ _)); exact BK488.out⟩, ⟨by (with_reducible repeat (first | refine za4 ?_ _ | refine za6 ?_ | refine za5 ?_ _)); refine zat (cs := #[.slice none 0 0, .int .i64 0]) ?_ 1 _ rfl; (with_reducible repeat (first | refine za4 ?_ _ | refine za6 ?_ | refine za5 ?_ _)); refine zat (cs := #[.slice none 0 0, .int .i64 0]) ?_ 0 _ rfl; (with_reducible repeat (first | refine za4 ?_ _ | refine za6 ?_ | refine za5 ?_ _)); exact BK490.out⟩, ⟨by repeat (first | (with_reducible first | exact HB.out | apply za2 | apply za0 | apply za1 | refine za3 ?_ GE488.out | refine za3 ?_ GE490.out) | exact HB.out)⟩⟩
  case round =>
   clear H'
   try clear p2
   try clear c3
   try clear c4
   try clear c5
   try clear c6
   try clear hcz7_0
   try clear hcz7_1
   try clear hfz7_0
   try clear hfz7_1
   obtain ⟨x6_1, x19_1, x491000_1, x491001_1, u491000, rfl, HA, HK1, HO_6, HO_491000, BK488, BK490, HB⟩ := hrel
   cases gk with
   | zero => exact absurd HA.out (by simp [spec_EstrinCode.l0])
   | succ k1 =>
    have H := HA.out
    clear HA
    simp only [spec_EstrinCode.l0] at H
    by_cases c8 : x19_1 < (l0.length : Int)
    ·rw [if_pos c8] at H
     have c8b0 : decide (x19_1 < (l0.length : Int)) = true := decide_eq_true c8
     clear c8
     by_cases c9 : 0 ≤ x19_1
     ·rw [if_pos c9] at H
      have c9b0 : decide (0 ≤ x19_1) = true := decide_eq_true c9
      clear c9
      by_cases c10 : x19_1 < (l0.length : Int)
      ·rw [if_pos c10] at H
       have c10b0 : decide (x19_1 < (l0.length : Int)) = true := decide_eq_true c10
       clear c10
       replace H := Option.bind_eq_some_iff.mp H
       obtain ⟨⟨t492, t495, t496⟩, A110, H⟩ := H
       replace H : (if x6_1.length < 17592186044416 then (spec_EstrinCode.l0 k1 (x6_1 ++ [t496]) l0 (l0.length : Int) (wrap64 (x19_1 + 1)) t492 t495) else (none)) = some (r1, r2, r3) := H
       have A11 := Aside0.mk A110
       clear A110
       by_cases c12 : x6_1.length < 17592186044416
       ·rw [if_pos c12] at H
        have LMc12 := Aside0.mk c12
        clear c12
        obtain ⟨y497, hy497⟩ : ∃ y_ : List Int, y_ = (x6_1 ++ [t496]) := ⟨_, rfl⟩
        replace H : (spec_EstrinCode.l0 k1 y497 l0 (l0.length : Int) (wrap64 (x19_1 + 1)) t492 t495) = some (r1, r2, r3) := by first | (rw [hy497]; with_reducible exact H) | (have H2_ := (Option.bind_some _ _).symm.trans H; rw [hy497]; with_reducible exact H2_) | (have H2_ := (Option.bind_some _ _).symm.trans H; with_reducible exact H2_) | with_reducible exact H | (rw [hy497]; exact H) | exact H
        have Ny497 := Aside0.mk hy497
        clear hy497
        have H' := Aside0.mk H
        clear H
        have p491 : 0 ≤ (x19_1 : Int) := of_decide_eq_true (by first | (with_reducible assumption) | assumption)
        have q491 : x19_1 < (l0.length : Int) := of_decide_eq_true (by first | (with_reducible assumption) | assumption)
        obtain ⟨ad491, e491, hx491_0⟩ := Kd.at_int HR0.out x19_1 p491 q491
        cases e491
        replace hx491_0 := (HB.out.cell (World.block_lt_of_cell? w _ hx491_0)).trans hx491_0
        replace p491 := eq_true p491
        replace q491 := eq_true q491
        have hnb13 := NB490_488.out
        have hnc13 := NB488_490.out
        have hcz14_0 : wr.cell? ⟨gb490, 0, none⟩ = some (u491000) := (za8 BK490.out 0).trans rfl
        have hcz14_1 : wr.cell? ⟨gb490, 1, none⟩ = some (.int .i64 x491001_1) := (za8 BK490.out 1).trans rfl
        have hfz14_0 := za7 BK490.out 0
        have hfz14_1 := za7 BK490.out 1
        obtain ⟨Ao15, co15, eo15⟩ := Kd.zau HO_491000.out
        subst eo15
        go_wp2_with (first | ((with_reducible refine zaj (f := 77) rfl ?_); refine zaz (some 26) rfl rfl Try.func77 (by kernel_rfl) rfl #[.agg #[.slice Ao15 x491000_1.length co15, .int .i64 x491001_1], .int .i64 0, .int .i64 (rd l0 x19_1), .int .i64 0] rfl (by (try simp only [List.map_toArray, List.map_cons, List.map_nil]); first | done | rfl | (simp only [List.length_drop, List.length_take]; rfl)) ?_; (with_reducible refine (spec_poAdd.calls _ _ x491000_1 x491001_1 0 (rd l0 x19_1) 0 t492 t495 t496 _ ?side1 ?side2 A11.out).mono ?_); (case side1 => repeat (first | exact (Kd.R_reads' HO_491000.out).2.2 | (with_reducible refine Kd.zar ?_ _) | (with_reducible refine Kd.zas ?_ _) | (with_reducible refine Kd.zav ?_))); (case side2 => exact (Kd.R_reads' HO_491000.out).2.1); rintro e w16 ⟨v493, rfl, ho0, hb⟩; refine ⟨_, rfl, ?_⟩; have n0_ := Aside0.mk (Kd.zaq (by (with_reducible repeat (first | apply Kd.zac | apply Kd.zab | apply Kd.zai)); exact HO_6.out) hb); have n1_ := Aside0.mk (Kd.R_elder' (by (with_reducible repeat (first | apply Kd.zac | apply Kd.zab | apply Kd.zai)); exact HO_491000.out) (Kd.R_base ho0) hb); have n2_ := Aside0.mk (Kd.zb1 (Kd.R_new' ho0 (Kd.R_lt (by (with_reducible repeat (first | apply Kd.zac | apply Kd.zab | apply Kd.zai)); exact HO_491000.out))) (za9 (by repeat (first | (with_reducible first | exact HB.out | apply za2 | apply za0 | apply za1 | refine za3 ?_ GE488.out | refine za3 ?_ GE490.out) | exact HB.out)))); have n3_ := Aside0.mk (zae (g := gb488) (o := .cells #[.slice none 0 0, .int .i64 0] 39 (0, 0)) (by (with_reducible repeat (first | refine za4 ?_ _ | refine za6 ?_ | refine za5 ?_ _)); exact BK488.out) hb); have n4_ := Aside0.mk (zae (g := gb490) (o := .cells #[.slice Ao15 x491000_1.length co15, .int .i64 x491001_1] 39 (0, 0)) (by (with_reducible repeat (first | refine za4 ?_ _ | refine za6 ?_ | refine za5 ?_ _)); exact BK490.out) hb); have n5_ := Aside0.mk (zad (by repeat (first | (with_reducible first | exact HB.out | apply za2 | apply za0 | apply za1 | refine za3 ?_ GE488.out | refine za3 ?_ GE490.out) | exact HB.out)) hb); clear HO_6; clear HO_491000; clear BK488; clear BK490; clear HB; have HO_6 := n0_; have HO_491000 := n1_; have HO494 := n2_; have BK488 := n3_; have BK490 := n4_; have HB := n5_; clear n0_ n1_ n2_ n3_ n4_ n5_; (try clear hb); (try clear hb2); (try clear hk); (try clear hi); (try clear ho0); obtain ⟨Ao17, co17, eo17⟩ := Kd.zau HO494.out; subst eo17; have hcz18_0 : w16.cell? ⟨gb490, 0, none⟩ = some (.slice Ao15 x491000_1.length co15) := (za8 BK490.out 0).trans rfl; have hcz18_1 : w16.cell? ⟨gb490, 1, none⟩ = some (.int .i64 x491001_1) := (za8 BK490.out 1).trans rfl; have hfz18_0 := za7 BK490.out 0; have hfz18_1 := za7 BK490.out 1) | ((with_reducible refine gate_builtin (b := .append) (xs := #[.tmp 29, .tmp 31]) rfl ?_); at_builtin; refine Kd.R_append (Kd.int .i64) (w0 := w) w.heap.size rfl (.tmp 29) (.tmp 31) 22 3 (.int .i64 0) 8 rfl Try.underlying22 info3 rfl (by decide) (by omega) u6 x6_1 t496 [.int .i64 t496] (fun _ => True) (fun _ => False) rfl (by first | (go_simp; done) | (go_simp; rfl)) ?aP (fun _ hk => hk.elim) ?aF ?aO ?aB ?aS ?aL ?_; (case aP => exact rfl); (case aB => exact (by repeat (first | (with_reducible first | exact HB.out | apply za2 | apply za0 | apply za1 | refine za3 ?_ GE488.out | refine za3 ?_ GE490.out) | exact HB.out))); (case aF => exact (fun _ _ => trivial)); (case aO => exact (by (with_reducible repeat (first | apply Kd.zac | apply Kd.zab | apply Kd.zai)); exact Kd.zam (Kd.R_far (p := ⟨gb490, 1, none⟩) (Kd.R_far (p := ⟨gb490, 0, none⟩) (Kd.zao HO_6.out BK490.out (by decide)) (fun _ hk => hk.2) (.slice Ao17 t492.length co17)) (fun _ hk => hk.2) (.int .i64 t495)) (fun _ hk => trivial))); (case aS => exact (za9 (by repeat (first | (with_reducible first | exact HB.out | apply za2 | apply za0 | apply za1 | refine za3 ?_ GE488.out | refine za3 ?_ GE490.out) | exact HB.out)))); (case aL => have := LMc12.out; omega); intro v498 w19 ho hb hg hat; rw [← Ny497.out] at ho; have n0_ := Aside0.mk (Kd.R_over' (by (with_reducible repeat (first | apply Kd.zac | apply Kd.zab | apply Kd.zai)); exact (Kd.zam (Kd.R_far (p := ⟨gb490, 1, none⟩) (Kd.R_far (p := ⟨gb490, 0, none⟩) (Kd.zao HO_491000.out BK490.out (by decide)) (fun _ hk => hk.2) (.slice Ao17 t492.length co17)) (fun _ hk => hk.2) (.int .i64 t495)) (fun _ h_ => h_.1))) (Kd.R_typed (by (with_reducible repeat (first | apply Kd.zac | apply Kd.zab | apply Kd.zai)); exact (Kd.zam (Kd.R_far (p := ⟨gb490, 1, none⟩) (Kd.R_far (p := ⟨gb490, 0, none⟩) (Kd.zao HO_6.out BK490.out (by decide)) (fun _ hk => hk.2) (.slice Ao17 t492.length co17)) (fun _ hk => hk.2) (.int .i64 t495)) (fun _ h_ => h_.1)))) (by decide) hg); have n1_ := Aside0.mk (blk_grown (g := gb488) (o := .cells #[.slice none 0 0, .int .i64 0] 39 (0, 0)) (by (with_reducible repeat (first | refine za4 ?_ _ | refine za6 ?_ | refine za5 ?_ _)); refine zax ?_ NB488_490.out _; (with_reducible repeat (first | refine za4 ?_ _ | refine za6 ?_ | refine za5 ?_ _)); refine zax ?_ NB488_490.out _; (with_reducible repeat (first | refine za4 ?_ _ | refine za6 ?_ | refine za5 ?_ _)); exact BK488.out) hg (Kd.R_ne HO_6.out BK488.out (by decide))); have n2_ := Aside0.mk (blk_grown (g := gb490) (o := .cells #[.slice Ao17 t492.length co17, .int .i64 t495] 39 (0, 0)) (by (with_reducible repeat (first | refine za4 ?_ _ | refine za6 ?_ | refine za5 ?_ _)); refine zat (cs := #[.slice Ao17 t492.length co17, .int .i64 x491001_1]) ?_ 1 _ rfl; (with_reducible repeat (first | refine za4 ?_ _ | refine za6 ?_ | refine za5 ?_ _)); refine zat (cs := #[.slice Ao15 x491000_1.length co15, .int .i64 x491001_1]) ?_ 0 _ rfl; (with_reducible repeat (first | refine za4 ?_ _ | refine za6 ?_ | refine za5 ?_ _)); exact BK490.out) hg (Kd.R_ne HO_6.out BK490.out (by decide))); have n3_ := Aside0.mk (Kd.R_over' (by (with_reducible repeat (first | apply Kd.zac | apply Kd.zab | apply Kd.zai)); exact (Kd.zam (Kd.R_far (p := ⟨gb490, 1, none⟩) (Kd.R_far (p := ⟨gb490, 0, none⟩) (Kd.zao HO494.out BK490.out (by decide)) (fun _ hk => hk.2) (.slice Ao17 t492.length co17)) (fun _ hk => hk.2) (.int .i64 t495)) (fun _ h_ => h_.1))) (Kd.R_typed (by (with_reducible repeat (first | apply Kd.zac | apply Kd.zab | apply Kd.zai)); exact (Kd.zam (Kd.R_far (p := ⟨gb490, 1, none⟩) (Kd.R_far (p := ⟨gb490, 0, none⟩) (Kd.zao HO_6.out BK490.out (by decide)) (fun _ hk => hk.2) (.slice Ao17 t492.length co17)) (fun _ hk => hk.2) (.int .i64 t495)) (fun _ h_ => h_.1)))) (by decide) hg); have n4_ := Aside0.mk (hb); have n5_ := Aside0.mk (ho); clear HO_491000; clear BK488; clear BK490; clear HO494; clear HB; clear HO_6; have HO_491000 := n0_; have BK488 := n1_; have BK490 := n2_; have HO494 := n3_; have HB := n4_; have HO499 := n5_; clear n0_ n1_ n2_ n3_ n4_ n5_; clear ho hb hg hat))
        go_roundg k1
        case measure => have := HK1.out; omega
        case rel => exact ⟨(y497), (wrap64 (x19_1 + 1)), (t492), (t495), (.slice Ao17 t492.length co17), (by first | rfl | (simp; done) | (simp [*]; done)), H', ⟨by have := HK1.out; omega⟩, ⟨by (with_reducible repeat (first | apply Kd.zac | apply Kd.zab | apply Kd.zai)); exact HO499.out⟩, ⟨by (with_reducible repeat (first | apply Kd.zac | apply Kd.zab | apply Kd.zai)); exact Kd.zam HO494.out (fun _ hk => trivial)⟩, ⟨by (with_reducible repeat (first | refine za4 ?_ _ | refine za6 ?_ | refine za5 ?_ _)); exact BK488.out⟩, ⟨by (with_reducible repeat (first | refine za4 ?_ _ | refine za6 ?_ | refine za5 ?_ _)); exact BK490.out⟩, ⟨by repeat (first | (with_reducible first | exact HB.out | apply za2 | apply za0 | apply za1 | refine za3 ?_ GE488.out | refine za3 ?_ GE490.out) | exact HB.out)⟩⟩
       ·rw [if_neg c12] at H
        exact absurd H (by simp)
      ·rw [if_neg c10] at H
       exact absurd H (by simp)
     ·rw [if_neg c9] at H
      exact absurd H (by simp)
    ·rw [if_neg c8] at H
     have c8b0 : decide (x19_1 < (l0.length : Int)) = false := decide_eq_false c8
     clear c8
     have H' := Aside0.mk H
     clear H
     go_wp2
     go_loopg [6, 9] k1 (fun kq v6 v9 w' => ∃ (x6_2 : List Int) (x9_2 : Int) (x491000_2 : List (S69)) (x491001_2 : Int) (u491000 : Value), v9 = .int .i64 x9_2 ∧ Aside0 (spec_EstrinCode.l1 kq x6_2 x9_2 x491000_2 x491001_2 = some (r1, r2, r3)) ∧ Aside0 (kq ≤ k1) ∧ Aside0 (Kd.R (Kd.int .i64) 3 w' w.heap.size (fun _ => True) v6 x6_2) ∧ Aside0 (Kd.R k69 69 w' w.heap.size (fun _ => True) u491000 x491000_2) ∧ Aside0 (w'.heap[gb488]? = some (.cells #[(.slice none 0 0), .int .i64 0] 39 (0, 0))) ∧ Aside0 (w'.heap[gb490]? = some (.cells #[u491000, .int .i64 x491001_2] 39 (0, 0))) ∧ Aside0 (Below w.heap.size w w'))
     case atStart => exact ⟨(x6_1), (0), (x491000_1), (x491001_1), (u491000), (by first | rfl | (simp; done) | (simp [*]; done)), H', ⟨Nat.le_refl _⟩, ⟨by (with_reducible repeat (first | apply Kd.zac | apply Kd.zab | apply Kd.zai)); exact HO_6.out⟩, ⟨by (with_reducible repeat (first | apply Kd.zac | apply Kd.zab | apply Kd.zai)); exact HO_491000.out⟩, ⟨by (with_reducible repeat (first | refine za4 ?_ _ | refine za6 ?_ | refine za5 ?_ _)); exact BK488.out⟩, ⟨by (with_reducible repeat (first | refine za4 ?_ _ | refine za6 ?_ | refine za5 ?_ _)); exact BK490.out⟩, ⟨by repeat (first | (with_reducible first | exact HB.out | apply za2 | apply za0 | apply za1 | refine za3 ?_ GE488.out | refine za3 ?_ GE490.out) | exact HB.out)⟩⟩
     case round =>
      clear H'
      try clear c1
      try clear p2
      try clear c3
      try clear c4
      try clear p4
      try clear q4
      try clear hx4
      try clear c5
      try clear c6
      try clear p6
      try clear c7
      try clear c8
      try clear c8b0
      try clear c9
      try clear c9b0
      try clear c10
      try clear c10b0
      try clear c12
      try clear c13
      try clear hcz14_0
      try clear hcz14_1
      try clear hcz18_0
      try clear hcz18_1
      try clear hcz7_0
      try clear hcz7_1
      try clear hfz14_0
      try clear hfz14_1
      try clear hfz18_0
      try clear hfz18_1
      try clear hfz7_0
      try clear hfz7_1
      try clear hx491_0
      try clear p2
      try clear p491
      try clear q491
      obtain ⟨x6_2, x9_2, x491000_2, x491001_2, u491000, rfl, HA, HK2, HO_6, HO_491000, BK488, BK490, HB⟩ := hrel
      cases gk with
      | zero => exact absurd HA.out (by simp [spec_EstrinCode.l1])
      | succ k2 =>
       have H := HA.out
       clear HA
       simp only [spec_EstrinCode.l1] at H
       by_cases c20 : (x6_2.length : Int) > 1
       ·rw [if_pos c20] at H
        have c20b0 : decide (1 < (x6_2.length : Int)) = true := decide_eq_true c20
        have c20b1 : decide (1 < x6_2.length) = true := decide_eq_true (by omega)
        clear c20
        have H' := Aside0.mk H
        clear H
        obtain ⟨Ao21, co21, eo21⟩ := Kd.zau HO_6.out
        subst eo21
        go_wp2
        go_loopg [10, 11] k2 (fun kq v10 v11 w' => ∃ (x10_3 : List Int) (x11_3 : Int) (x491000_3 : List (S69)) (x491001_3 : Int) (u491000 : Value), v11 = .int .i64 x11_3 ∧ Aside0 (spec_EstrinCode.l2 kq x6_2 x9_2 x10_3 x11_3 x491000_3 x491001_3 = some (r1, r2, r3)) ∧ Aside0 (kq ≤ k2) ∧ Aside0 (Kd.R (Kd.int .i64) 3 w' w.heap.size (fun k_ => some k_ ≠ (v10 : Value).ownBlock) (.slice Ao21 x6_2.length co21) x6_2) ∧ Aside0 (Kd.R (Kd.int .i64) 3 w' w.heap.size (fun k_ => some k_ ≠ ((.slice Ao21 x6_2.length co21) : Value).ownBlock) v10 x10_3) ∧ Aside0 (Kd.R k69 69 w' w.heap.size (fun _ => True) u491000 x491000_3) ∧ Aside0 (w'.heap[gb488]? = some (.cells #[(.slice none 0 0), .int .i64 0] 39 (0, 0))) ∧ Aside0 (w'.heap[gb490]? = some (.cells #[u491000, .int .i64 x491001_3] 39 (0, 0))) ∧ Aside0 (Below w.heap.size w w'))
        case atStart => exact ⟨(([] : List Int)), (0), (x491000_2), (x491001_2), (u491000), (by first | rfl | (simp; done) | (simp [*]; done)), H', ⟨Nat.le_refl _⟩, ⟨by (with_reducible repeat (first | apply Kd.zac | apply Kd.zab | apply Kd.zai)); exact Kd.zam HO_6.out (fun _ hk => (by simp [Value.ownBlock]))⟩, ⟨by first | exact Kd.R_nil _ _ _ _ _ | exact Kd.N_nil _ _ _ _ _ | exact Kd.V_nil _ _ _ _ _ | exact Kd.Q_nil _ _ _ _ _ | exact Kd.S_nil _ _ _ _ _⟩, ⟨by (with_reducible repeat (first | apply Kd.zac | apply Kd.zab | apply Kd.zai)); exact HO_491000.out⟩, ⟨by (with_reducible repeat (first | refine za4 ?_ _ | refine za6 ?_ | refine za5 ?_ _)); exact BK488.out⟩, ⟨by (with_reducible repeat (first | refine za4 ?_ _ | refine za6 ?_ | refine za5 ?_ _)); exact BK490.out⟩, ⟨by repeat (first | (with_reducible first | exact HB.out | apply za2 | apply za0 | apply za1 | refine za3 ?_ GE488.out | refine za3 ?_ GE490.out) | exact HB.out)⟩⟩
        case round =>
         clear H'
         try clear c1
         try clear c2
         try clear p2
         try clear c3
         try clear c4
         try clear p4
         try clear q4
         try clear hx4
         try clear c5
         try clear c6
         try clear p6
         try clear c7
         try clear c8
         try clear c8b0
         try clear c9
         try clear c9b0
         try clear c10
         try clear c10b0
         try clear c12
         try clear c13
         try clear c20
         try clear c20b0
         try clear c20b1
         try clear hcz14_0
         try clear hcz14_1
         try clear hcz18_0
         try clear hcz18_1
         try clear hcz7_0
         try clear hcz7_1
         try clear hfz14_0
         try clear hfz14_1
         try clear hfz18_0
         try clear hfz18_1
         try clear hfz7_0
         try clear hfz7_1
         try clear hx491_0
         try clear p2
         try clear p4
         try clear p491
         try clear p6
         try clear q4
         try clear q491
         obtain ⟨x10_3, x11_3, x491000_3, x491001_3, u491000, rfl, HA, HK3, HO_6, HO_10, HO_491000, BK488, BK490, HB⟩ := hrel
         cases gk with
         | zero => exact absurd HA.out (by simp [spec_EstrinCode.l2])
         | succ k3 =>
          have H := HA.out
          clear HA
          simp only [spec_EstrinCode.l2] at H
          by_cases c22 : (wrap64 (x11_3 + 1)) < (x6_2.length : Int)
          ·rw [if_pos c22] at H
           have c22b0 : decide ((wrap64 (x11_3 + 1)) < (x6_2.length : Int)) = true := decide_eq_true c22
           clear c22
           obtain ⟨ji23, hji23⟩ : ∃ j_ : Int, (wrap64 (x11_3 + 1)) = j_ := ⟨_, rfl⟩
           replace H : (if 0 ≤ (ji23) then ((spec_poAdd.f x491000_3 x491001_3 3 (rd x6_2 (ji23)) x9_2).bind fun bt507 => (if 0 ≤ x11_3 then (if x11_3 < (x6_2.length : Int) then ((spec_poAdd.f bt507.1 bt507.2.1 1 (rd x6_2 x11_3) bt507.2.2).bind fun bt513 => (if x10_3.length < 17592186044416 then (spec_EstrinCode.l2 k3 x6_2 x9_2 (x10_3 ++ [bt513.2.2]) (wrap64 (x11_3 + 2)) bt513.1 bt513.2.1) else (none))) else (none)) else (none))) else (none)) = some (r1, r2, r3) := by first | (rw [hji23] at H; exact H) | (simp only [hji23] at H ⊢; exact H)
           (try rw [hji23] at c22b0)
           have hji23w : (IntKind.i64.wrap (x11_3 + 1)) = ji23 := (i64_w _).trans hji23
           by_cases c24 : 0 ≤ (ji23)
           ·rw [if_pos c24] at H
            have c24b0 : decide (0 ≤ (ji23)) = true := decide_eq_true c24
            clear c24
            replace H := Option.bind_eq_some_iff.mp H
            obtain ⟨⟨t507, t510, t511⟩, A250, H⟩ := H
            replace H : (if 0 ≤ x11_3 then (if x11_3 < (x6_2.length : Int) then ((spec_poAdd.f t507 t510 1 (rd x6_2 x11_3) t511).bind fun bt513 => (if x10_3.length < 17592186044416 then (spec_EstrinCode.l2 k3 x6_2 x9_2 (x10_3 ++ [bt513.2.2]) (wrap64 (x11_3 + 2)) bt513.1 bt513.2.1) else (none))) else (none)) else (none)) = some (r1, r2, r3) := H
            have A25 := Aside0.mk A250
            clear A250
            by_cases c26 : 0 ≤ x11_3
            ·rw [if_pos c26] at H
             have c26b0 : decide (0 ≤ x11_3) = true := decide_eq_true c26
             clear c26
             by_cases c27 : x11_3 < (x6_2.length : Int)
             ·rw [if_pos c27] at H
              have c27b0 : decide (x11_3 < (x6_2.length : Int)) = true := decide_eq_true c27
              clear c27
              replace H := Option.bind_eq_some_iff.mp H
              obtain ⟨⟨t513, t516, t517⟩, A280, H⟩ := H
              replace H : (if x10_3.length < 17592186044416 then (spec_EstrinCode.l2 k3 x6_2 x9_2 (x10_3 ++ [t517]) (wrap64 (x11_3 + 2)) t513 t516) else (none)) = some (r1, r2, r3) := H
              have A28 := Aside0.mk A280
              clear A280
              by_cases c29 : x10_3.length < 17592186044416
              ·rw [if_pos c29] at H
               have LMc29 := Aside0.mk c29
               clear c29
               obtain ⟨y518, hy518⟩ : ∃ y_ : List Int, y_ = (x10_3 ++ [t517]) := ⟨_, rfl⟩
               replace H : (spec_EstrinCode.l2 k3 x6_2 x9_2 y518 (wrap64 (x11_3 + 2)) t513 t516) = some (r1, r2, r3) := by first | (rw [hy518]; with_reducible exact H) | (have H2_ := (Option.bind_some _ _).symm.trans H; rw [hy518]; with_reducible exact H2_) | (have H2_ := (Option.bind_some _ _).symm.trans H; with_reducible exact H2_) | with_reducible exact H | (rw [hy518]; exact H) | exact H
               have Ny518 := Aside0.mk hy518
               clear hy518
               have H' := Aside0.mk H
               clear H
               try go_wp2
               have n0_ := Aside0.mk (Kd.zai HO_6.out)
               have n1_ := Aside0.mk (Kd.zai HO_10.out)
               have n2_ := Aside0.mk (Kd.zai HO_491000.out)
               have n3_ := Aside0.mk (za6 BK488.out)
               have n4_ := Aside0.mk (za6 BK490.out)
               have n5_ := Aside0.mk (za1 HB.out)
               clear HO_6
               clear HO_10
               clear HO_491000
               clear BK488
               clear BK490
               clear HB
               have HO_6 := n0_
               have HO_10 := n1_
               have HO_491000 := n2_
               have BK488 := n3_
               have BK490 := n4_
               have HB := n5_
               clear n0_ n1_ n2_ n3_ n4_ n5_
               have p506 : 0 ≤ ((ji23) : Int) := of_decide_eq_true (by first | (with_reducible assumption) | assumption)
               have q506 : (ji23) < (x6_2.length : Int) := of_decide_eq_true (by first | (with_reducible assumption) | assumption)
               obtain ⟨ad506, e506, hx506_0⟩ := Kd.at_int (Kd.R_reads' HO_6.out).2.2 (ji23) p506 q506
               cases e506
               replace p506 := eq_true p506
               replace q506 := eq_true q506
               obtain ⟨Ao31, co31, eo31⟩ := Kd.zau HO_491000.out
               (first | subst eo31 | (injection eo31 with f1_ f2_ f3_; have f4_ := f1_.symm; have f5_ := f3_.symm; clear f1_ f2_ f3_; subst f4_; subst f5_))
               refine start_ (n := 13) (S := fun w' => w'.cell? ⟨gb490, 0, none⟩ = some (.slice Ao31 x491000_3.length co31) ∧ w'.cell? ⟨gb490, 1, none⟩ = some (.int .i64 x491001_3) ∧ w'.cell? (ad506.add ((ji23)).toNat) = some (.int .i64 (rd x6_2 (ji23)))) (ds := [11]) #[false, false, false, false, false, false, false, false, false, false, false, false, false] (by kernel_rfl) rfl rfl ⟨(za8 BK490.out 0).trans rfl, (za8 BK490.out 1).trans rfl, hx506_0⟩ (fun hHeld => ?_); refine with_tabW spec_EstrinCode.tab18 spec_EstrinCode.bits18 (fun HT_ HW_ => ?_)
               generalize wr.drew = w30 at HO_6 HO_10 HO_491000 BK488 BK490 HB hx506_0 hHeld ⊢
               refine pure_ (i := 1) (N := some 46) (v := ?_) (a' := ?_) #[false, true, false, false, false, false, false, false, false, false, false, false, false] rfl rfl (zak HT_.out (by kernel_rfl)) (fun _ _ _ h => h) (Or.inl ⟨by rfl, ?_⟩) ?_ ?_
               rotate_left
               ·intro w'
                go_simp
                with_reducible rfl
               rotate_left
               ·simp only [Act.put, List.setIfInBounds_toArray, List.set_cons_zero, List.set_cons_succ, i64_w, i32_w]
                rfl
               refine pure_ (i := 2) (N := some 47) (v := ?_) (a' := ?_) #[false, true, true, false, false, false, false, false, false, false, false, false, false] rfl rfl (zak HT_.out (by kernel_rfl)) (fun _ _ _ h => h) (Or.inl ⟨by rfl, ?_⟩) ?_ ?_
               rotate_left
               ·intro w'
                go_simp
                with_reducible rfl
               rotate_left
               ·simp only [Act.put, List.setIfInBounds_toArray, List.set_cons_zero, List.set_cons_succ, i64_w, i32_w]
                rfl
               refine pure_ (i := 3) (N := some 48) (v := ?_) (a' := ?_) #[false, true, true, true, false, false, false, false, false, false, false, false, false] rfl rfl (zak HT_.out (by kernel_rfl)) (fun _ _ _ h => h) (Or.inl ⟨by rfl, ?_⟩) ?_ ?_
               rotate_left
               ·intro w'
                go_simp
                with_reducible rfl
               rotate_left
               ·simp only [Act.put, List.setIfInBounds_toArray, List.set_cons_zero, List.set_cons_succ, i64_w, i32_w]
                rfl
               refine pure_ (i := 4) (N := some 49) (v := ?_) (a' := ?_) #[false, true, true, true, true, false, false, false, false, false, false, false, false] rfl rfl (zak HT_.out (by kernel_rfl)) (fun _ _ _ h => h) (Or.inl ⟨by rfl, ?_⟩) ?_ ?_
               rotate_left
               ·intro w'
                go_simp
                with_reducible rfl
               rotate_left
               ·simp only [Act.put, List.setIfInBounds_toArray, List.set_cons_zero, List.set_cons_succ, i64_w, i32_w]
                rfl
               refine pure_ (i := 6) (N := some 51) (v := ?_) (a' := ?_) #[false, true, true, true, true, false, true, false, false, false, false, false, false] rfl rfl (zak HT_.out (by kernel_rfl)) (fun _ _ _ h => h) (Or.inl ⟨by rfl, ?_⟩) ?_ ?_
               rotate_left
               ·intro w'
                go_simp
                with_reducible rfl
               rotate_left
               ·simp only [Act.put, List.setIfInBounds_toArray, List.set_cons_zero, List.set_cons_succ, i64_w, i32_w]
                rfl
               refine take_ (i := 0) (N := some 45) (v := ?_) (a' := ?_) #[true, true, true, true, true, false, true, false, false, false, false, false, false] rfl rfl (zb0 HT_.out HW_.out (by kernel_rfl)) (fun _ _ _ h => h) (Or.inl ⟨by rfl, ?_⟩) hHeld ?_ ?_
               rotate_left
               ·rintro w' ⟨s0, s1, s2⟩
                go_simp
                with_reducible rfl
               rotate_left
               ·simp only [Act.put, List.setIfInBounds_toArray, List.set_cons_zero, List.set_cons_succ, i64_w, i32_w]
                rfl
               refine take_ (i := 5) (N := some 50) (v := ?_) (a' := ?_) #[true, true, true, true, true, true, true, false, false, false, false, false, false] rfl rfl (zb0 HT_.out HW_.out (by kernel_rfl)) (fun _ _ _ h => h) (Or.inl ⟨by rfl, ?_⟩) hHeld ?_ ?_
               rotate_left
               ·rintro w' ⟨s0, s1, s2⟩
                go_simp
                with_reducible rfl
               rotate_left
               ·simp only [Act.put, List.setIfInBounds_toArray, List.set_cons_zero, List.set_cons_succ, i64_w, i32_w]
                rfl
               refine one_ (i := 7) (N := some 52) #[true, true, true, true, true, true, true, true, false, false, false, false, false] rfl rfl (one_of HT_.out (by kernel_rfl)) (by decide) (fun K hK => ?_)
               refine goes_ Try.func77 (by kernel_rfl) rfl #[.agg #[.slice Ao31 x491000_3.length co31, .int .i64 x491001_3], .int .i64 3, .int .i64 (rd x6_2 (ji23)), .int .i64 x9_2] (by rfl) rfl rfl (by (try simp only [List.map_toArray, List.map_cons, List.map_nil]); first | done | (simp only [hji23]; rfl) | rfl | (simp only [List.length_drop, List.length_take]; rfl)) ?_
               with_reducible refine (spec_poAdd.calls _ _ x491000_3 x491001_3 3 (rd x6_2 (ji23)) x9_2 t507 t510 t511 _ ?side1 ?side2 A25.out).mono ?_
               (case side1 => repeat (first | exact (Kd.R_reads' HO_491000.out).2.2 | (with_reducible refine Kd.zar ?_ _) | (with_reducible refine Kd.zas ?_ _) | (with_reducible refine Kd.zav ?_)))
               (case side2 => exact (Kd.R_reads' HO_491000.out).2.1)
               rintro e w32 ⟨v508, rfl, ho0, hb⟩
               have HS2_ := (hb.cell (World.block_lt_of_cell? _ _ (hHeld.2.2))).trans (hHeld.2.2)
               refine ⟨_, rfl, ?_⟩
               have n0_ := Aside0.mk (Kd.zaq (by (with_reducible repeat (first | apply Kd.zac | apply Kd.zab | apply Kd.zai)); exact HO_6.out) hb)
               have n1_ := Aside0.mk (Kd.zaq (by (with_reducible repeat (first | apply Kd.zac | apply Kd.zab | apply Kd.zai)); exact HO_10.out) hb)
               have n2_ := Aside0.mk (Kd.R_elder' (by (with_reducible repeat (first | apply Kd.zac | apply Kd.zab | apply Kd.zai)); exact HO_491000.out) (Kd.R_base ho0) hb)
               have n3_ := Aside0.mk (Kd.zb1 (Kd.R_new' ho0 (Kd.R_lt (by (with_reducible repeat (first | apply Kd.zac | apply Kd.zab | apply Kd.zai)); exact HO_491000.out))) (za9 (by repeat (first | (with_reducible first | exact HB.out | apply za2 | apply za0 | apply za1 | refine za3 ?_ GE488.out | refine za3 ?_ GE490.out) | exact HB.out))))
               have n4_ := Aside0.mk (zae (g := gb488) (o := .cells #[.slice none 0 0, .int .i64 0] 39 (0, 0)) (by (with_reducible repeat (first | refine za4 ?_ _ | refine za6 ?_ | refine za5 ?_ _)); exact BK488.out) hb)
               have n5_ := Aside0.mk (zae (g := gb490) (o := .cells #[.slice Ao31 x491000_3.length co31, .int .i64 x491001_3] 39 (0, 0)) (by (with_reducible repeat (first | refine za4 ?_ _ | refine za6 ?_ | refine za5 ?_ _)); exact BK490.out) hb)
               have n6_ := Aside0.mk (zad (by repeat (first | (with_reducible first | exact HB.out | apply za2 | apply za0 | apply za1 | refine za3 ?_ GE488.out | refine za3 ?_ GE490.out) | exact HB.out)) hb)
               clear HO_6
               clear HO_10
               clear HO_491000
               clear BK488
               clear BK490
               clear HB
               have HO_6 := n0_
               have HO_10 := n1_
               have HO_491000 := n2_
               have HO509 := n3_
               have BK488 := n4_
               have BK490 := n5_
               have HB := n6_
               clear n0_ n1_ n2_ n3_ n4_ n5_ n6_
               (try clear hb)
               (try clear hb2)
               (try clear hk)
               (try clear hi)
               (try clear ho0)
               obtain ⟨Ao33, co33, eo33⟩ := Kd.zau HO509.out
               (first | subst eo33 | (injection eo33 with f1_ f2_ f3_; have f4_ := f1_.symm; have f5_ := f3_.symm; clear f1_ f2_ f3_; subst f4_; subst f5_))
               refine hK.out _ _ ⟨(za8 BK490.out 0).trans rfl, (za8 BK490.out 1).trans rfl, HS2_⟩ (fun hHeld => ?_)
               clear hK K
               refine norm_ (a' := ?_) ?_ ?_
               rotate_left
               ·show Act.put _ (some 52) _ = _
                simp only [Act.put, List.setIfInBounds_toArray, List.set_cons_zero, List.set_cons_succ, i64_w, i32_w]
                rfl
               refine pure_ (i := 8) (N := some 44) (v := ?_) (a' := ?_) #[true, true, true, true, true, true, true, true, true, false, false, false, false] rfl rfl (zak HT_.out (by kernel_rfl)) (fun _ _ _ h => h) (Or.inl ⟨by rfl, ?_⟩) ?_ ?_
               rotate_left
               ·intro w'
                go_simp
                with_reducible rfl
               rotate_left
               ·simp only [Act.put, List.setIfInBounds_toArray, List.set_cons_zero, List.set_cons_succ, i64_w, i32_w]
                rfl
               refine pure_ (i := 9) (N := some 53) (v := ?_) (a' := ?_) #[true, true, true, true, true, true, true, true, true, true, false, false, false] rfl rfl (zak HT_.out (by kernel_rfl)) (fun _ _ _ h => h) (Or.inl ⟨by rfl, ?_⟩) ?_ ?_
               rotate_left
               ·intro w'
                go_simp
                with_reducible rfl
               rotate_left
               ·simp only [Act.put, List.setIfInBounds_toArray, List.set_cons_zero, List.set_cons_succ, i64_w, i32_w]
                rfl
               refine pure_ (i := 10) (N := some 54) (v := ?_) (a' := ?_) #[true, true, true, true, true, true, true, true, true, true, true, false, false] rfl rfl (zak HT_.out (by kernel_rfl)) (fun _ _ _ h => h) (Or.inl ⟨by rfl, ?_⟩) ?_ ?_
               rotate_left
               ·intro w'
                go_simp
                with_reducible rfl
               rotate_left
               ·simp only [Act.put, List.setIfInBounds_toArray, List.set_cons_zero, List.set_cons_succ, i64_w, i32_w]
                rfl
               refine last_ (i := 11) (N := none) #[true, true, true, true, true, true, true, true, true, true, true, true, false] rfl rfl (one_of HT_.out (by kernel_rfl)) (by decide) (fun K hK => ?_)
               have hs34 : w32.cell? ⟨gb490, 0, none⟩ = some (.slice Ao31 x491000_3.length co31) := (za8 BK490.out 0).trans rfl
               have hfs34 := za7 BK490.out 0
               have hns34_0 := NB488_490.out
               have hms34_0 := NB490_488.out
               have hs35 : w32.cell? ⟨gb490, 1, none⟩ = some (.int .i64 x491001_3) := (za8 BK490.out 1).trans rfl
               have hfs35 := za7 BK490.out 1
               have hns35_0 := NB488_490.out
               have hms35_0 := NB490_488.out
               refine skip_ (w1 := ?_) (by rfl) rfl ?_ ?_
               rotate_left
               ·go_simp
                rfl
               refine hK.out _ _ ?_
               clear hK K
               refine pure_ (i := 12) (N := some 5) (v := ?_) (a' := ?_) #[true, true, true, true, true, true, true, true, true, true, true, true, true] rfl rfl (zak HT_.out (by kernel_rfl)) (fun _ _ _ h => h) (Or.inl ⟨by rfl, ?_⟩) ?_ ?_
               rotate_left
               ·intro w'
                go_simp
                with_reducible rfl
               rotate_left
               ·simp only [Act.put, List.setIfInBounds_toArray, List.set_cons_zero, List.set_cons_succ, i64_w, i32_w]
                rfl
               refine done_ (done_of HT_.out (by kernel_rfl)) ?_
               try go_wp2
               have n0_ : Aside0 (Kd.R (Kd.int .i64) 3 ((w32.setCell ⟨gb490, 0, none⟩ (.slice Ao33 t507.length co33)).setCell ⟨gb490, 1, none⟩ (.int .i64 t510)) w.heap.size (fun k_ => some k_ ≠ (u10 : Value).ownBlock) (.slice (some ad506) x6_2.length co21) x6_2) := ⟨by (with_reducible repeat (first | apply Kd.zac | apply Kd.zab | apply Kd.zai)); exact Kd.zam (Kd.R_far (p := ⟨gb490, 1, none⟩) (Kd.R_far (p := ⟨gb490, 0, none⟩) (Kd.zao HO_6.out BK490.out (by decide)) (fun _ hk => hk.2) (.slice Ao33 t507.length co33)) (fun _ hk => hk.2) (.int .i64 t510)) (fun _ hk => hk.1)⟩
               have n1_ : Aside0 (Kd.R (Kd.int .i64) 3 ((w32.setCell ⟨gb490, 0, none⟩ (.slice Ao33 t507.length co33)).setCell ⟨gb490, 1, none⟩ (.int .i64 t510)) w.heap.size (fun k_ => some k_ ≠ (.slice (some ad506) x6_2.length co21 : Value).ownBlock) u10 x10_3) := ⟨by (with_reducible repeat (first | apply Kd.zac | apply Kd.zab | apply Kd.zai)); exact Kd.zam (Kd.R_far (p := ⟨gb490, 1, none⟩) (Kd.R_far (p := ⟨gb490, 0, none⟩) (Kd.zao HO_10.out BK490.out (by decide)) (fun _ hk => hk.2) (.slice Ao33 t507.length co33)) (fun _ hk => hk.2) (.int .i64 t510)) (fun _ hk => hk.1)⟩
               have n2_ : Aside0 (Kd.R k69 69 ((w32.setCell ⟨gb490, 0, none⟩ (.slice Ao33 t507.length co33)).setCell ⟨gb490, 1, none⟩ (.int .i64 t510)) w.heap.size (fun k_ => some k_ ≠ (.slice Ao33 t507.length co33 : Value).ownBlock) (.slice Ao31 x491000_3.length co31) x491000_3) := ⟨by (with_reducible repeat (first | apply Kd.zac | apply Kd.zab | apply Kd.zai)); exact Kd.zam (Kd.R_far (p := ⟨gb490, 1, none⟩) (Kd.R_far (p := ⟨gb490, 0, none⟩) (Kd.zao HO_491000.out BK490.out (by decide)) (fun _ hk => hk.2) (.slice Ao33 t507.length co33)) (fun _ hk => hk.2) (.int .i64 t510)) (fun _ hk => hk.1.2)⟩
               have n3_ : Aside0 (Kd.R k69 69 ((w32.setCell ⟨gb490, 0, none⟩ (.slice Ao33 t507.length co33)).setCell ⟨gb490, 1, none⟩ (.int .i64 t510)) w.heap.size (fun k_ => some k_ ≠ (.slice Ao31 x491000_3.length co31 : Value).ownBlock) (.slice Ao33 t507.length co33) t507) := ⟨by (with_reducible repeat (first | apply Kd.zac | apply Kd.zab | apply Kd.zai)); exact Kd.zam (Kd.R_far (p := ⟨gb490, 1, none⟩) (Kd.R_far (p := ⟨gb490, 0, none⟩) (Kd.zao HO509.out BK490.out (by decide)) (fun _ hk => hk.2) (.slice Ao33 t507.length co33)) (fun _ hk => hk.2) (.int .i64 t510)) (fun _ hk => hk.1.2)⟩
               have n4_ : Aside0 (((w32.setCell ⟨gb490, 0, none⟩ (.slice Ao33 t507.length co33)).setCell ⟨gb490, 1, none⟩ (.int .i64 t510)).heap[gb488]? = some (.cells #[.slice none 0 0, .int .i64 0] 39 (0, 0))) := ⟨by (with_reducible repeat (first | refine za4 ?_ _ | refine za6 ?_ | refine za5 ?_ _)); refine zax ?_ NB488_490.out _; (with_reducible repeat (first | refine za4 ?_ _ | refine za6 ?_ | refine za5 ?_ _)); refine zax ?_ NB488_490.out _; (with_reducible repeat (first | refine za4 ?_ _ | refine za6 ?_ | refine za5 ?_ _)); exact BK488.out⟩
               have n5_ : Aside0 (((w32.setCell ⟨gb490, 0, none⟩ (.slice Ao33 t507.length co33)).setCell ⟨gb490, 1, none⟩ (.int .i64 t510)).heap[gb490]? = some (.cells #[.slice Ao33 t507.length co33, .int .i64 t510] 39 (0, 0))) := ⟨by (with_reducible repeat (first | refine za4 ?_ _ | refine za6 ?_ | refine za5 ?_ _)); refine zat (cs := #[.slice Ao33 t507.length co33, .int .i64 x491001_3]) ?_ 1 _ rfl; (with_reducible repeat (first | refine za4 ?_ _ | refine za6 ?_ | refine za5 ?_ _)); refine zat (cs := #[.slice Ao31 x491000_3.length co31, .int .i64 x491001_3]) ?_ 0 _ rfl; (with_reducible repeat (first | refine za4 ?_ _ | refine za6 ?_ | refine za5 ?_ _)); exact BK490.out⟩
               have n6_ : Aside0 (Below w.heap.size w ((w32.setCell ⟨gb490, 0, none⟩ (.slice Ao33 t507.length co33)).setCell ⟨gb490, 1, none⟩ (.int .i64 t510))) := ⟨by repeat (first | (with_reducible first | exact HB.out | apply za2 | apply za0 | apply za1 | refine za3 ?_ GE488.out | refine za3 ?_ GE490.out) | exact HB.out)⟩
               (try clear HO_6)
               (try clear HO_10)
               (try clear HO_491000)
               (try clear HO509)
               (try clear BK488)
               (try clear BK490)
               (try clear HB)
               generalize ((w32.setCell ⟨gb490, 0, none⟩ (.slice Ao33 t507.length co33)).setCell ⟨gb490, 1, none⟩ (.int .i64 t510)) = w36 at n0_ n1_ n2_ n3_ n4_ n5_ n6_ ⊢
               have HO_6 := n0_
               have HO_10 := n1_
               have HO_491000 := n2_
               have HO509 := n3_
               have BK488 := n4_
               have BK490 := n5_
               have HB := n6_
               clear n0_ n1_ n2_ n3_ n4_ n5_ n6_
               have n0_ := Aside0.mk (Kd.zai HO_6.out)
               have n1_ := Aside0.mk (Kd.zai HO_10.out)
               have n2_ := Aside0.mk (Kd.zai HO_491000.out)
               have n3_ := Aside0.mk (Kd.zai HO509.out)
               have n4_ := Aside0.mk (za6 BK488.out)
               have n5_ := Aside0.mk (za6 BK490.out)
               have n6_ := Aside0.mk (za1 HB.out)
               clear HO_6
               clear HO_10
               clear HO_491000
               clear HO509
               clear BK488
               clear BK490
               clear HB
               have HO_6 := n0_
               have HO_10 := n1_
               have HO_491000 := n2_
               have HO509 := n3_
               have BK488 := n4_
               have BK490 := n5_
               have HB := n6_
               clear n0_ n1_ n2_ n3_ n4_ n5_ n6_
               have p512 : 0 ≤ (x11_3 : Int) := of_decide_eq_true (by first | (with_reducible assumption) | assumption)
               have q512 : x11_3 < (x6_2.length : Int) := of_decide_eq_true (by first | (with_reducible assumption) | assumption)
               obtain ⟨ad512, e512, hx512_0⟩ := Kd.at_int (Kd.R_reads' HO_6.out).2.2 x11_3 p512 q512
               obtain rfl : ad506 = ad512 := (by injection e512)
               replace p512 := eq_true p512
               replace q512 := eq_true q512
               refine start_ (n := 12) (S := fun w' => w'.cell? ⟨gb490, 0, none⟩ = some (.slice Ao33 t507.length co33) ∧ w'.cell? ⟨gb490, 1, none⟩ = some (.int .i64 t510) ∧ w'.cell? (ad506.add (x11_3).toNat) = some (.int .i64 (rd x6_2 x11_3))) (ds := [10]) #[false, false, false, false, false, false, false, false, false, false, false, false] (by kernel_rfl) rfl rfl ⟨(za8 BK490.out 0).trans rfl, (za8 BK490.out 1).trans rfl, hx512_0⟩ (fun hHeld => ?_); refine with_tabW spec_EstrinCode.tab19 spec_EstrinCode.bits19 (fun HT_ HW_ => ?_)
               generalize w36.drew = w37 at HO_6 HO_10 HO_491000 HO509 BK488 BK490 HB hx512_0 hHeld ⊢
               refine pure_ (i := 1) (N := some 57) (v := ?_) (a' := ?_) #[false, true, false, false, false, false, false, false, false, false, false, false] rfl rfl (zak HT_.out (by kernel_rfl)) (fun _ _ _ h => h) (Or.inl ⟨by rfl, ?_⟩) ?_ ?_
               rotate_left
               ·intro w'
                go_simp
                with_reducible rfl
               rotate_left
               ·simp only [Act.put, List.setIfInBounds_toArray, List.set_cons_zero, List.set_cons_succ, i64_w, i32_w]
                rfl
               refine pure_ (i := 2) (N := some 58) (v := ?_) (a' := ?_) #[false, true, true, false, false, false, false, false, false, false, false, false] rfl rfl (zak HT_.out (by kernel_rfl)) (fun _ _ _ h => h) (Or.inl ⟨by rfl, ?_⟩) ?_ ?_
               rotate_left
               ·intro w'
                go_simp
                with_reducible rfl
               rotate_left
               ·simp only [Act.put, List.setIfInBounds_toArray, List.set_cons_zero, List.set_cons_succ, i64_w, i32_w]
                rfl
               refine pure_ (i := 3) (N := some 59) (v := ?_) (a' := ?_) #[false, true, true, true, false, false, false, false, false, false, false, false] rfl rfl (zak HT_.out (by kernel_rfl)) (fun _ _ _ h => h) (Or.inl ⟨by rfl, ?_⟩) ?_ ?_
               rotate_left
               ·intro w'
                go_simp
                with_reducible rfl
               rotate_left
               ·simp only [Act.put, List.setIfInBounds_toArray, List.set_cons_zero, List.set_cons_succ, i64_w, i32_w]
                rfl
               refine pure_ (i := 5) (N := some 61) (v := ?_) (a' := ?_) #[false, true, true, true, false, true, false, false, false, false, false, false] rfl rfl (zak HT_.out (by kernel_rfl)) (fun _ _ _ h => h) (Or.inl ⟨by rfl, ?_⟩) ?_ ?_
               rotate_left
               ·intro w'
                go_simp
                with_reducible rfl
               rotate_left
               ·simp only [Act.put, List.setIfInBounds_toArray, List.set_cons_zero, List.set_cons_succ, i64_w, i32_w]
                rfl
               refine take_ (i := 0) (N := some 56) (v := ?_) (a' := ?_) #[true, true, true, true, false, true, false, false, false, false, false, false] rfl rfl (zb0 HT_.out HW_.out (by kernel_rfl)) (fun _ _ _ h => h) (Or.inl ⟨by rfl, ?_⟩) hHeld ?_ ?_
               rotate_left
               ·rintro w' ⟨s0, s1, s2⟩
                go_simp
                with_reducible rfl
               rotate_left
               ·simp only [Act.put, List.setIfInBounds_toArray, List.set_cons_zero, List.set_cons_succ, i64_w, i32_w]
                rfl
               refine take_ (i := 4) (N := some 60) (v := ?_) (a' := ?_) #[true, true, true, true, true, true, false, false, false, false, false, false] rfl rfl (zb0 HT_.out HW_.out (by kernel_rfl)) (fun _ _ _ h => h) (Or.inl ⟨by rfl, ?_⟩) hHeld ?_ ?_
               rotate_left
               ·rintro w' ⟨s0, s1, s2⟩
                go_simp
                with_reducible rfl
               rotate_left
               ·simp only [Act.put, List.setIfInBounds_toArray, List.set_cons_zero, List.set_cons_succ, i64_w, i32_w]
                rfl
               refine one_ (i := 6) (N := some 62) #[true, true, true, true, true, true, true, false, false, false, false, false] rfl rfl (one_of HT_.out (by kernel_rfl)) (by decide) (fun K hK => ?_)
               refine goes_ Try.func77 (by kernel_rfl) rfl #[.agg #[.slice Ao33 t507.length co33, .int .i64 t510], .int .i64 1, .int .i64 (rd x6_2 x11_3), .int .i64 t511] (by rfl) rfl rfl (by (try simp only [List.map_toArray, List.map_cons, List.map_nil]); first | done | rfl | (simp only [List.length_drop, List.length_take]; rfl)) ?_
               with_reducible refine (spec_poAdd.calls _ _ t507 t510 1 (rd x6_2 x11_3) t511 t513 t516 t517 _ ?side1 ?side2 A28.out).mono ?_
               (case side1 => repeat (first | exact (Kd.R_reads' HO509.out).2.2 | (with_reducible refine Kd.zar ?_ _) | (with_reducible refine Kd.zas ?_ _) | (with_reducible refine Kd.zav ?_)))
               (case side2 => exact (Kd.R_reads' HO509.out).2.1)
               rintro e w38 ⟨v514, rfl, ho0, hb⟩
               have HS2_ := (hb.cell (World.block_lt_of_cell? _ _ (hHeld.2.2))).trans (hHeld.2.2)
               refine ⟨_, rfl, ?_⟩
               have n0_ := Aside0.mk (Kd.zaq (by (with_reducible repeat (first | apply Kd.zac | apply Kd.zab | apply Kd.zai)); exact HO_6.out) hb)
               have n1_ := Aside0.mk (Kd.zaq (by (with_reducible repeat (first | apply Kd.zac | apply Kd.zab | apply Kd.zai)); exact HO_10.out) hb)
               have n2_ := Aside0.mk (Kd.R_elder' (by (with_reducible repeat (first | apply Kd.zac | apply Kd.zab | apply Kd.zai)); exact HO_491000.out) (Kd.R_base ho0) hb)
               have n3_ := Aside0.mk (Kd.R_elder' (by (with_reducible repeat (first | apply Kd.zac | apply Kd.zab | apply Kd.zai)); exact HO509.out) (Kd.R_base ho0) hb)
               have n4_ := Aside0.mk (Kd.zb1 (Kd.R_new' (Kd.R_new' ho0 (Kd.R_lt (by (with_reducible repeat (first | apply Kd.zac | apply Kd.zab | apply Kd.zai)); exact HO_491000.out))) (Kd.R_lt (by (with_reducible repeat (first | apply Kd.zac | apply Kd.zab | apply Kd.zai)); exact HO509.out))) (za9 (by repeat (first | (with_reducible first | exact HB.out | apply za2 | apply za0 | apply za1 | refine za3 ?_ GE488.out | refine za3 ?_ GE490.out) | exact HB.out))))
               have n5_ := Aside0.mk (zae (g := gb488) (o := .cells #[.slice none 0 0, .int .i64 0] 39 (0, 0)) (by (with_reducible repeat (first | refine za4 ?_ _ | refine za6 ?_ | refine za5 ?_ _)); exact BK488.out) hb)
               have n6_ := Aside0.mk (zae (g := gb490) (o := .cells #[.slice Ao33 t507.length co33, .int .i64 t510] 39 (0, 0)) (by (with_reducible repeat (first | refine za4 ?_ _ | refine za6 ?_ | refine za5 ?_ _)); exact BK490.out) hb)
               have n7_ := Aside0.mk (zad (by repeat (first | (with_reducible first | exact HB.out | apply za2 | apply za0 | apply za1 | refine za3 ?_ GE488.out | refine za3 ?_ GE490.out) | exact HB.out)) hb)
               clear HO_6
               clear HO_10
               clear HO_491000
               clear HO509
               clear BK488
               clear BK490
               clear HB
               have HO_6 := n0_
               have HO_10 := n1_
               have HO_491000 := n2_
               have HO509 := n3_
               have HO515 := n4_
               have BK488 := n5_
               have BK490 := n6_
               have HB := n7_
               clear n0_ n1_ n2_ n3_ n4_ n5_ n6_ n7_
               (try clear hb)
               (try clear hb2)
               (try clear hk)
               (try clear hi)
               (try clear ho0)
               obtain ⟨Ao39, co39, eo39⟩ := Kd.zau HO515.out
               (first | subst eo39 | (injection eo39 with f1_ f2_ f3_; have f4_ := f1_.symm; have f5_ := f3_.symm; clear f1_ f2_ f3_; subst f4_; subst f5_))
               refine hK.out _ _ ⟨(za8 BK490.out 0).trans rfl, (za8 BK490.out 1).trans rfl, HS2_⟩ (fun hHeld => ?_)
               clear hK K
               refine norm_ (a' := ?_) ?_ ?_
               rotate_left
               ·show Act.put _ (some 62) _ = _
                simp only [Act.put, List.setIfInBounds_toArray, List.set_cons_zero, List.set_cons_succ, i64_w, i32_w]
                rfl
               refine pure_ (i := 7) (N := some 55) (v := ?_) (a' := ?_) #[true, true, true, true, true, true, true, true, false, false, false, false] rfl rfl (zak HT_.out (by kernel_rfl)) (fun _ _ _ h => h) (Or.inl ⟨by rfl, ?_⟩) ?_ ?_
               rotate_left
               ·intro w'
                go_simp
                with_reducible rfl
               rotate_left
               ·simp only [Act.put, List.setIfInBounds_toArray, List.set_cons_zero, List.set_cons_succ, i64_w, i32_w]
                rfl
               refine pure_ (i := 8) (N := some 63) (v := ?_) (a' := ?_) #[true, true, true, true, true, true, true, true, true, false, false, false] rfl rfl (zak HT_.out (by kernel_rfl)) (fun _ _ _ h => h) (Or.inl ⟨by rfl, ?_⟩) ?_ ?_
               rotate_left
               ·intro w'
                go_simp
                with_reducible rfl
               rotate_left
               ·simp only [Act.put, List.setIfInBounds_toArray, List.set_cons_zero, List.set_cons_succ, i64_w, i32_w]
                rfl
               refine pure_ (i := 9) (N := some 64) (v := ?_) (a' := ?_) #[true, true, true, true, true, true, true, true, true, true, false, false] rfl rfl (zak HT_.out (by kernel_rfl)) (fun _ _ _ h => h) (Or.inl ⟨by rfl, ?_⟩) ?_ ?_
               rotate_left
               ·intro w'
                go_simp
                with_reducible rfl
               rotate_left
               ·simp only [Act.put, List.setIfInBounds_toArray, List.set_cons_zero, List.set_cons_succ, i64_w, i32_w]
                rfl
               refine last_ (i := 10) (N := none) #[true, true, true, true, true, true, true, true, true, true, true, false] rfl rfl (one_of HT_.out (by kernel_rfl)) (by decide) (fun K hK => ?_)
               have hs40 : w38.cell? ⟨gb490, 0, none⟩ = some (.slice Ao33 t507.length co33) := (za8 BK490.out 0).trans rfl
               have hfs40 := za7 BK490.out 0
               have hns40_0 := NB488_490.out
               have hms40_0 := NB490_488.out
               have hs41 : w38.cell? ⟨gb490, 1, none⟩ = some (.int .i64 t510) := (za8 BK490.out 1).trans rfl
               have hfs41 := za7 BK490.out 1
               have hns41_0 := NB488_490.out
               have hms41_0 := NB490_488.out
               refine skip_ (w1 := ?_) (by rfl) rfl ?_ ?_
               rotate_left
               ·go_simp
                rfl
               refine hK.out _ _ ?_
               clear hK K
               refine pure_ (i := 11) (N := some 5) (v := ?_) (a' := ?_) #[true, true, true, true, true, true, true, true, true, true, true, true] rfl rfl (zak HT_.out (by kernel_rfl)) (fun _ _ _ h => h) (Or.inl ⟨by rfl, ?_⟩) ?_ ?_
               rotate_left
               ·intro w'
                go_simp
                with_reducible rfl
               rotate_left
               ·simp only [Act.put, List.setIfInBounds_toArray, List.set_cons_zero, List.set_cons_succ, i64_w, i32_w]
                rfl
               refine done_ (done_of HT_.out (by kernel_rfl)) ?_
               try go_wp2_with (first | ((with_reducible refine gate_builtin (b := .append) (xs := #[.tmp 65, .tmp 67]) rfl ?_); at_builtin; refine Kd.R_append (Kd.int .i64) (w0 := w) w.heap.size rfl (.tmp 65) (.tmp 67) 22 3 (.int .i64 0) 8 rfl Try.underlying22 info3 rfl (by decide) (by omega) u10 x10_3 t517 [.int .i64 t517] (fun k_ => some k_ ≠ (.slice (some ad506) x6_2.length co21 : Value).ownBlock) (fun _ => False) rfl (by first | (go_simp; done) | (go_simp; rfl)) ?aP (fun _ hk => hk.elim) ?aF ?aO ?aB ?aS ?aL ?_; (case aP => exact rfl); (case aB => exact (by repeat (first | (with_reducible first | exact HB.out | apply za2 | apply za0 | apply za1 | refine za3 ?_ GE488.out | refine za3 ?_ GE490.out) | exact HB.out))); (case aF => exact (fun k_ hk => Kd.fresh' (Kd.R_lt (by (with_reducible repeat (first | apply Kd.zac | apply Kd.zab | apply Kd.zai)); exact (Kd.zam (Kd.R_far (p := ⟨gb490, 1, none⟩) (Kd.R_far (p := ⟨gb490, 0, none⟩) (Kd.zao HO_6.out BK490.out (by decide)) (fun _ hk => hk.2) (.slice Ao39 t513.length co39)) (fun _ hk => hk.2) (.int .i64 t516)) (fun _ h_ => h_.1)))) k_ hk)); (case aO => exact (by (with_reducible repeat (first | apply Kd.zac | apply Kd.zab | apply Kd.zai)); exact Kd.zam (Kd.R_far (p := ⟨gb490, 1, none⟩) (Kd.R_far (p := ⟨gb490, 0, none⟩) (Kd.zao HO_10.out BK490.out (by decide)) (fun _ hk => hk.2) (.slice Ao39 t513.length co39)) (fun _ hk => hk.2) (.int .i64 t516)) (fun _ hk => hk.1))); (case aS => exact (za9 (by repeat (first | (with_reducible first | exact HB.out | apply za2 | apply za0 | apply za1 | refine za3 ?_ GE488.out | refine za3 ?_ GE490.out) | exact HB.out)))); (case aL => have := LMc29.out; omega); intro v519 w42 ho hb hg hat; rw [← Ny518.out] at ho; have n0_ := Aside0.mk (Kd.R_after (ok := (fun _ => True)) (by (with_reducible repeat (first | apply Kd.zac | apply Kd.zab | apply Kd.zai)); exact Kd.zam (Kd.R_far (p := ⟨gb490, 1, none⟩) (Kd.R_far (p := ⟨gb490, 0, none⟩) (Kd.zao HO_6.out BK490.out (by decide)) (fun _ hk => hk.2) (.slice Ao39 t513.length co39)) (fun _ hk => hk.2) (.int .i64 t516)) (fun _ hk => ⟨trivial, hk.1⟩)) hg hat); have n1_ := Aside0.mk (Kd.R_over' (by (with_reducible repeat (first | apply Kd.zac | apply Kd.zab | apply Kd.zai)); exact (Kd.zam (Kd.R_far (p := ⟨gb490, 1, none⟩) (Kd.R_far (p := ⟨gb490, 0, none⟩) (Kd.zao HO_491000.out BK490.out (by decide)) (fun _ hk => hk.2) (.slice Ao39 t513.length co39)) (fun _ hk => hk.2) (.int .i64 t516)) (fun _ h_ => h_.1))) (Kd.R_typed (by (with_reducible repeat (first | apply Kd.zac | apply Kd.zab | apply Kd.zai)); exact (Kd.zam (Kd.R_far (p := ⟨gb490, 1, none⟩) (Kd.R_far (p := ⟨gb490, 0, none⟩) (Kd.zao HO_10.out BK490.out (by decide)) (fun _ hk => hk.2) (.slice Ao39 t513.length co39)) (fun _ hk => hk.2) (.int .i64 t516)) (fun _ h_ => h_.1)))) (by decide) hg); have n2_ := Aside0.mk (blk_grown (g := gb488) (o := .cells #[.slice none 0 0, .int .i64 0] 39 (0, 0)) (by (with_reducible repeat (first | refine za4 ?_ _ | refine za6 ?_ | refine za5 ?_ _)); refine zax ?_ NB488_490.out _; (with_reducible repeat (first | refine za4 ?_ _ | refine za6 ?_ | refine za5 ?_ _)); refine zax ?_ NB488_490.out _; (with_reducible repeat (first | refine za4 ?_ _ | refine za6 ?_ | refine za5 ?_ _)); exact BK488.out) hg (Kd.R_ne HO_10.out BK488.out (by decide))); have n3_ := Aside0.mk (blk_grown (g := gb490) (o := .cells #[.slice Ao39 t513.length co39, .int .i64 t516] 39 (0, 0)) (by (with_reducible repeat (first | refine za4 ?_ _ | refine za6 ?_ | refine za5 ?_ _)); refine zat (cs := #[.slice Ao39 t513.length co39, .int .i64 t510]) ?_ 1 _ rfl; (with_reducible repeat (first | refine za4 ?_ _ | refine za6 ?_ | refine za5 ?_ _)); refine zat (cs := #[.slice Ao33 t507.length co33, .int .i64 t510]) ?_ 0 _ rfl; (with_reducible repeat (first | refine za4 ?_ _ | refine za6 ?_ | refine za5 ?_ _)); exact BK490.out) hg (Kd.R_ne HO_10.out BK490.out (by decide))); have n4_ := Aside0.mk (Kd.R_over' (by (with_reducible repeat (first | apply Kd.zac | apply Kd.zab | apply Kd.zai)); exact (Kd.zam (Kd.R_far (p := ⟨gb490, 1, none⟩) (Kd.R_far (p := ⟨gb490, 0, none⟩) (Kd.zao HO509.out BK490.out (by decide)) (fun _ hk => hk.2) (.slice Ao39 t513.length co39)) (fun _ hk => hk.2) (.int .i64 t516)) (fun _ h_ => h_.1))) (Kd.R_typed (by (with_reducible repeat (first | apply Kd.zac | apply Kd.zab | apply Kd.zai)); exact (Kd.zam (Kd.R_far (p := ⟨gb490, 1, none⟩) (Kd.R_far (p := ⟨gb490, 0, none⟩) (Kd.zao HO_10.out BK490.out (by decide)) (fun _ hk => hk.2) (.slice Ao39 t513.length co39)) (fun _ hk => hk.2) (.int .i64 t516)) (fun _ h_ => h_.1)))) (by decide) hg); have n5_ := Aside0.mk (Kd.R_over' (by (with_reducible repeat (first | apply Kd.zac | apply Kd.zab | apply Kd.zai)); exact (Kd.zam (Kd.R_far (p := ⟨gb490, 1, none⟩) (Kd.R_far (p := ⟨gb490, 0, none⟩) (Kd.zao HO515.out BK490.out (by decide)) (fun _ hk => hk.2) (.slice Ao39 t513.length co39)) (fun _ hk => hk.2) (.int .i64 t516)) (fun _ h_ => h_.1))) (Kd.R_typed (by (with_reducible repeat (first | apply Kd.zac | apply Kd.zab | apply Kd.zai)); exact (Kd.zam (Kd.R_far (p := ⟨gb490, 1, none⟩) (Kd.R_far (p := ⟨gb490, 0, none⟩) (Kd.zao HO_10.out BK490.out (by decide)) (fun _ hk => hk.2) (.slice Ao39 t513.length co39)) (fun _ hk => hk.2) (.int .i64 t516)) (fun _ h_ => h_.1)))) (by decide) hg); have n6_ := Aside0.mk (hb); have n7_ := Aside0.mk (ho); clear HO_6; clear HO_491000; clear BK488; clear BK490; clear HO509; clear HO515; clear HB; clear HO_10; have HO_6 := n0_; have HO_491000 := n1_; have BK488 := n2_; have BK490 := n3_; have HO509 := n4_; have HO515 := n5_; have HB := n6_; have HO520 := n7_; clear n0_ n1_ n2_ n3_ n4_ n5_ n6_ n7_; clear ho hb hg hat))
               go_roundg k3
               case measure => have := HK1.out; have := HK2.out; have := HK3.out; omega
               case rel => exact ⟨(y518), (wrap64 (x11_3 + 2)), (t513), (t516), (.slice Ao39 t513.length co39), (by first | rfl | (simp; done) | (simp [*]; done)), H', ⟨by have := HK1.out; have := HK2.out; have := HK3.out; omega⟩, ⟨by (with_reducible repeat (first | apply Kd.zac | apply Kd.zab | apply Kd.zai)); exact Kd.zam HO_6.out (fun _ hk => hk.2)⟩, ⟨by (with_reducible repeat (first | apply Kd.zac | apply Kd.zab | apply Kd.zai)); exact HO520.out⟩, ⟨by (with_reducible repeat (first | apply Kd.zac | apply Kd.zab | apply Kd.zai)); exact Kd.zam HO515.out (fun _ hk => trivial)⟩, ⟨by (with_reducible repeat (first | refine za4 ?_ _ | refine za6 ?_ | refine za5 ?_ _)); exact BK488.out⟩, ⟨by (with_reducible repeat (first | refine za4 ?_ _ | refine za6 ?_ | refine za5 ?_ _)); exact BK490.out⟩, ⟨by repeat (first | (with_reducible first | exact HB.out | apply za2 | apply za0 | apply za1 | refine za3 ?_ GE488.out | refine za3 ?_ GE490.out) | exact HB.out)⟩⟩
              ·rw [if_neg c29] at H
               exact absurd H (by simp)
             ·rw [if_neg c27] at H
              exact absurd H (by simp)
            ·rw [if_neg c26] at H
             exact absurd H (by simp)
           ·rw [if_neg c24] at H
            exact absurd H (by simp)
          ·rw [if_neg c22] at H
           have c22b0 : decide ((wrap64 (x11_3 + 1)) < (x6_2.length : Int)) = false := decide_eq_false c22
           clear c22
           have HC43 := Aside0.mk H
           clear H
           go_upto_if 72 with (fail)
           go_cut [10] (fun v10 wc => ∃ (kq : Nat) (x10_42 : List Int), Aside0 (spec_EstrinCode.j3 kq x9_2 x10_42 x491000_3 x491001_3 = some (r1, r2, r3)) ∧ Aside0 (kq ≤ k3) ∧ Aside0 (Kd.R (Kd.int .i64) 3 wc w.heap.size (fun _ => True) v10 x10_42) ∧ Aside0 (Kd.R k69 69 wc w.heap.size (fun _ => True) u491000 x491000_3) ∧ Aside0 (wc.heap[gb488]? = some (.cells #[(.slice none 0 0), .int .i64 0] 39 (0, 0))) ∧ Aside0 (wc.heap[gb490]? = some (.cells #[u491000, .int .i64 x491001_3] 39 (0, 0))) ∧ Aside0 (Below w.heap.size w wc))
           case first =>
            have H := HC43.out
            clear HC43
            by_cases c44 : ((x6_2.length : Int) % 2) = 1
            ·rw [if_pos c44] at H
             have c44b0 : (((x6_2.length : Int) % 2) == 1) = true := beq_iff_eq.mpr c44
             have c44b1 : (((x6_2.length : Int) % 2) != 1) = false := bne_eq_false_iff_eq.mpr c44
             clear c44
             (first | rw [c44b0] | (simp only [i64_w, i32_w]; rw [c44b0]) | skip)
             obtain ⟨ji45, hji45⟩ : ∃ j_ : Int, (wrap64 ((x6_2.length : Int) - 1)) = j_ := ⟨_, rfl⟩
             replace H : (if 0 ≤ (ji45) then (if (ji45) < (x6_2.length : Int) then (if x10_3.length < 17592186044416 then (spec_EstrinCode.j3 k3 x9_2 (x10_3 ++ [rd x6_2 (ji45)]) x491000_3 x491001_3) else (none)) else (none)) else (none)) = some (r1, r2, r3) := by first | (rw [hji45] at H; exact H) | (simp only [hji45] at H ⊢; exact H)
             have hji45w : (IntKind.i64.wrap ((x6_2.length : Int) - 1)) = ji45 := (i64_w _).trans hji45
             by_cases c46 : 0 ≤ (ji45)
             ·rw [if_pos c46] at H
              have c46b0 : decide (0 ≤ (ji45)) = true := decide_eq_true c46
              clear c46
              by_cases c47 : (ji45) < (x6_2.length : Int)
              ·rw [if_pos c47] at H
               have c47b0 : decide ((ji45) < (x6_2.length : Int)) = true := decide_eq_true c47
               clear c47
               by_cases c48 : x10_3.length < 17592186044416
               ·rw [if_pos c48] at H
                have LMc48 := Aside0.mk c48
                clear c48
                obtain ⟨y522, hy522⟩ : ∃ y_ : List Int, y_ = (x10_3 ++ [rd x6_2 (ji45)]) := ⟨_, rfl⟩
                replace H : (spec_EstrinCode.j3 k3 x9_2 y522 x491000_3 x491001_3) = some (r1, r2, r3) := by first | (rw [hy522]; with_reducible exact H) | (have H2_ := (Option.bind_some _ _).symm.trans H; rw [hy522]; with_reducible exact H2_) | (have H2_ := (Option.bind_some _ _).symm.trans H; with_reducible exact H2_) | with_reducible exact H | (rw [hy522]; exact H) | exact H
                have Ny522 := Aside0.mk hy522
                clear hy522
                have H' := Aside0.mk H
                clear H
                have p521 : 0 ≤ ((ji45) : Int) := of_decide_eq_true (by first | (with_reducible assumption) | assumption)
                have q521 : (ji45) < (x6_2.length : Int) := of_decide_eq_true (by first | (with_reducible assumption) | assumption)
                obtain ⟨ad521, e521, hx521_0⟩ := Kd.at_int (Kd.R_reads' HO_6.out).2.2 (ji45) p521 q521
                cases e521
                replace p521 := eq_true p521
                replace q521 := eq_true q521
                go_wp2_with (first | ((with_reducible refine gate_builtin (b := .append) (xs := #[.tmp 73, .tmp 80]) rfl ?_); at_builtin; refine Kd.R_append (Kd.int .i64) (w0 := w) w.heap.size rfl (.tmp 73) (.tmp 80) 22 3 (.int .i64 0) 8 rfl Try.underlying22 info3 rfl (by decide) (by omega) u10 x10_3 (rd x6_2 (ji45)) [.int .i64 (rd x6_2 (ji45))] (fun k_ => some k_ ≠ (.slice (some ad521) x6_2.length co21 : Value).ownBlock) (fun _ => False) rfl rfl ?aP (fun _ hk => hk.elim) ?aF ?aO ?aB ?aS ?aL ?_; (case aP => exact rfl); (case aB => exact (by repeat (first | (with_reducible first | exact HB.out | apply za2 | apply za0 | apply za1 | refine za3 ?_ GE488.out | refine za3 ?_ GE490.out) | exact HB.out))); (case aF => exact (fun k_ hk => Kd.fresh' (Kd.R_lt (by (with_reducible repeat (first | apply Kd.zac | apply Kd.zab | apply Kd.zai)); exact HO_6.out)) k_ hk)); (case aO => exact (by (with_reducible repeat (first | apply Kd.zac | apply Kd.zab | apply Kd.zai)); exact HO_10.out)); (case aS => exact (za9 (by repeat (first | (with_reducible first | exact HB.out | apply za2 | apply za0 | apply za1 | refine za3 ?_ GE488.out | refine za3 ?_ GE490.out) | exact HB.out)))); (case aL => have := LMc48.out; omega); intro v523 w49 ho hb hg hat; rw [← Ny522.out] at ho; have n0_ := Aside0.mk (Kd.R_after (ok := (fun _ => True)) (by (with_reducible repeat (first | apply Kd.zac | apply Kd.zab | apply Kd.zai)); exact Kd.zam HO_6.out (fun _ hk => ⟨trivial, hk⟩)) hg hat); have n1_ := Aside0.mk (Kd.R_over' (by (with_reducible repeat (first | apply Kd.zac | apply Kd.zab | apply Kd.zai)); exact HO_491000.out) (Kd.R_typed (by (with_reducible repeat (first | apply Kd.zac | apply Kd.zab | apply Kd.zai)); exact HO_10.out)) (by decide) hg); have n2_ := Aside0.mk (blk_grown (g := gb488) (o := .cells #[.slice none 0 0, .int .i64 0] 39 (0, 0)) (by (with_reducible repeat (first | refine za4 ?_ _ | refine za6 ?_ | refine za5 ?_ _)); exact BK488.out) hg (Kd.R_ne HO_10.out BK488.out (by decide))); have n3_ := Aside0.mk (blk_grown (g := gb490) (o := .cells #[u491000, .int .i64 x491001_3] 39 (0, 0)) (by (with_reducible repeat (first | refine za4 ?_ _ | refine za6 ?_ | refine za5 ?_ _)); exact BK490.out) hg (Kd.R_ne HO_10.out BK490.out (by decide))); have n4_ := Aside0.mk (hb); have n5_ := Aside0.mk (ho); clear HO_6; clear HO_491000; clear BK488; clear BK490; clear HB; clear HO_10; have HO_6 := n0_; have HO_491000 := n1_; have BK488 := n2_; have BK490 := n3_; have HB := n4_; have HO524 := n5_; clear n0_ n1_ n2_ n3_ n4_ n5_; clear ho hb hg hat))
                go_meet
                case rel => exact ⟨_, (y522), H', ⟨by have := HK1.out; have := HK2.out; have := HK3.out; first | omega | exact Nat.le_refl _⟩, ⟨by (with_reducible repeat (first | apply Kd.zac | apply Kd.zab | apply Kd.zai)); exact Kd.zam HO524.out (fun _ hk => trivial)⟩, ⟨by (with_reducible repeat (first | apply Kd.zac | apply Kd.zab | apply Kd.zai)); exact HO_491000.out⟩, ⟨by (with_reducible repeat (first | refine za4 ?_ _ | refine za6 ?_ | refine za5 ?_ _)); exact BK488.out⟩, ⟨by (with_reducible repeat (first | refine za4 ?_ _ | refine za6 ?_ | refine za5 ?_ _)); exact BK490.out⟩, ⟨by repeat (first | (with_reducible first | exact HB.out | apply za2 | apply za0 | apply za1 | refine za3 ?_ GE488.out | refine za3 ?_ GE490.out) | exact HB.out)⟩⟩
               ·rw [if_neg c48] at H
                exact absurd H (by simp)
              ·rw [if_neg c47] at H
               exact absurd H (by simp)
             ·rw [if_neg c46] at H
              exact absurd H (by simp)
            ·rw [if_neg c44] at H
             have c44b0 : (((x6_2.length : Int) % 2) == 1) = false := beq_eq_false_iff_ne.mpr c44
             have c44b1 : (((x6_2.length : Int) % 2) != 1) = true := bne_iff_ne.mpr c44
             (first | rw [c44b0] | (simp only [i64_w, i32_w]; rw [c44b0]) | skip)
             have H' := Aside0.mk H
             clear H
             go_wp2
             go_meet
             case rel => exact ⟨_, (x10_3), H', ⟨by have := HK1.out; have := HK2.out; have := HK3.out; first | omega | exact Nat.le_refl _⟩, ⟨by (with_reducible repeat (first | apply Kd.zac | apply Kd.zab | apply Kd.zai)); exact Kd.zam HO_10.out (fun _ hk => trivial)⟩, ⟨by (with_reducible repeat (first | apply Kd.zac | apply Kd.zab | apply Kd.zai)); exact HO_491000.out⟩, ⟨by (with_reducible repeat (first | refine za4 ?_ _ | refine za6 ?_ | refine za5 ?_ _)); exact BK488.out⟩, ⟨by (with_reducible repeat (first | refine za4 ?_ _ | refine za6 ?_ | refine za5 ?_ _)); exact BK490.out⟩, ⟨by repeat (first | (with_reducible first | exact HB.out | apply za2 | apply za0 | apply za1 | refine za3 ?_ GE488.out | refine za3 ?_ GE490.out) | exact HB.out)⟩⟩
           case rest =>
            clear HC43
            try clear c1
            try clear c2
            try clear p2
            try clear c3
            try clear c4
            try clear p4
            try clear q4
            try clear hx4
            try clear c5
            try clear p5
            try clear q5
            try clear hx5
            try clear c6
            try clear p6
            try clear c7
            try clear c8
            try clear c8b0
            try clear c9
            try clear c9b0
            try clear c10
            try clear c10b0
            try clear c12
            try clear c13
            try clear c20
            try clear c20b0
            try clear c20b1
            try clear c22
            try clear c22b0
            try clear c24
            try clear c24b0
            try clear c26
            try clear c26b0
            try clear c27
            try clear c27b0
            try clear c29
            try clear c44
            try clear c44b0
            try clear c44b1
            try clear c46
            try clear c46b0
            try clear c47
            try clear c47b0
            try clear c48
            try clear p49
            try clear q49
            try clear hx49
            try clear hcz14_0
            try clear hcz14_1
            try clear hcz18_0
            try clear hcz18_1
            try clear hcz7_0
            try clear hcz7_1
            try clear hfz14_0
            try clear hfz14_1
            try clear hfz18_0
            try clear hfz18_1
            try clear hfz7_0
            try clear hfz7_1
            try clear hx491_0
            try clear hx506_0
            try clear hx512_0
            try clear hx521_0
            try clear p2
            try clear p4
            try clear p491
            try clear p506
            try clear p512
            try clear p521
            try clear p6
            try clear q4
            try clear q491
            try clear q506
            try clear q512
            try clear q521
            obtain ⟨kq, x10_42, HA, HJ42, HO_10, HO_491000, BK488, BK490, HB⟩ := hcut
            cases kq with
            | zero => exact absurd HA.out (by simp [spec_EstrinCode.j3])
            | succ kj42 =>
             have H := HA.out
             clear HA
             simp only [spec_EstrinCode.j3] at H
             by_cases c50 : (x10_42.length : Int) > 1
             ·rw [if_pos c50] at H
              have c50b0 : decide (1 < (x10_42.length : Int)) = true := decide_eq_true c50
              have c50b1 : decide (1 < x10_42.length) = true := decide_eq_true (by omega)
              clear c50
              replace H := Option.bind_eq_some_iff.mp H
              obtain ⟨⟨t525, t528, t529⟩, A510, H⟩ := H
              replace H : (spec_EstrinCode.l1 kj42 x10_42 t529 t525 t528) = some (r1, r2, r3) := H
              have A51 := Aside0.mk A510
              clear A510
              have H' := Aside0.mk H
              clear H
              obtain ⟨Ao52, co52, eo52⟩ := Kd.zau HO_10.out
              subst eo52
              have hnb53 := NB490_488.out
              have hnc53 := NB488_490.out
              have hcz54_0 : wc.cell? ⟨gb490, 0, none⟩ = some (u491000) := (za8 BK490.out 0).trans rfl
              have hcz54_1 : wc.cell? ⟨gb490, 1, none⟩ = some (.int .i64 x491001_3) := (za8 BK490.out 1).trans rfl
              have hfz54_0 := za7 BK490.out 0
              have hfz54_1 := za7 BK490.out 1
              obtain ⟨Ao55, co55, eo55⟩ := Kd.zau HO_491000.out
              subst eo55
              go_wp2_with (first | ((with_reducible refine zaj (f := 77) rfl ?_); refine zaz (some 90) rfl rfl Try.func77 (by kernel_rfl) rfl #[.agg #[.slice Ao55 x491000_3.length co55, .int .i64 x491001_3], .int .i64 3, .int .i64 x9_2, .int .i64 x9_2] rfl (by (try simp only [List.map_toArray, List.map_cons, List.map_nil]); first | done | rfl | (simp only [List.length_drop, List.length_take]; rfl)) ?_; (with_reducible refine (spec_poAdd.calls _ _ x491000_3 x491001_3 3 x9_2 x9_2 t525 t528 t529 _ ?side1 ?side2 A51.out).mono ?_); (case side1 => repeat (first | exact (Kd.R_reads' HO_491000.out).2.2 | (with_reducible refine Kd.zar ?_ _) | (with_reducible refine Kd.zas ?_ _) | (with_reducible refine Kd.zav ?_))); (case side2 => exact (Kd.R_reads' HO_491000.out).2.1); rintro e w56 ⟨v526, rfl, ho0, hb⟩; refine ⟨_, rfl, ?_⟩; have n0_ := Aside0.mk (Kd.zaq (by (with_reducible repeat (first | apply Kd.zac | apply Kd.zab | apply Kd.zai)); exact HO_10.out) hb); have n1_ := Aside0.mk (Kd.R_elder' (by (with_reducible repeat (first | apply Kd.zac | apply Kd.zab | apply Kd.zai)); exact HO_491000.out) (Kd.R_base ho0) hb); have n2_ := Aside0.mk (Kd.zb1 (Kd.R_new' ho0 (Kd.R_lt (by (with_reducible repeat (first | apply Kd.zac | apply Kd.zab | apply Kd.zai)); exact HO_491000.out))) (za9 (by repeat (first | (with_reducible first | exact HB.out | apply za2 | apply za0 | apply za1 | refine za3 ?_ GE488.out | refine za3 ?_ GE490.out) | exact HB.out)))); have n3_ := Aside0.mk (zae (g := gb488) (o := .cells #[.slice none 0 0, .int .i64 0] 39 (0, 0)) (by (with_reducible repeat (first | refine za4 ?_ _ | refine za6 ?_ | refine za5 ?_ _)); exact BK488.out) hb); have n4_ := Aside0.mk (zae (g := gb490) (o := .cells #[.slice Ao55 x491000_3.length co55, .int .i64 x491001_3] 39 (0, 0)) (by (with_reducible repeat (first | refine za4 ?_ _ | refine za6 ?_ | refine za5 ?_ _)); exact BK490.out) hb); have n5_ := Aside0.mk (zad (by repeat (first | (with_reducible first | exact HB.out | apply za2 | apply za0 | apply za1 | refine za3 ?_ GE488.out | refine za3 ?_ GE490.out) | exact HB.out)) hb); clear HO_10; clear HO_491000; clear BK488; clear BK490; clear HB; have HO_10 := n0_; have HO_491000 := n1_; have HO527 := n2_; have BK488 := n3_; have BK490 := n4_; have HB := n5_; clear n0_ n1_ n2_ n3_ n4_ n5_; (try clear hb); (try clear hb2); (try clear hk); (try clear hi); (try clear ho0); obtain ⟨Ao57, co57, eo57⟩ := Kd.zau HO527.out; subst eo57; have hcz58_0 : w56.cell? ⟨gb490, 0, none⟩ = some (.slice Ao55 x491000_3.length co55) := (za8 BK490.out 0).trans rfl; have hcz58_1 : w56.cell? ⟨gb490, 1, none⟩ = some (.int .i64 x491001_3) := (za8 BK490.out 1).trans rfl; have hfz58_0 := za7 BK490.out 0; have hfz58_1 := za7 BK490.out 1))
              go_roundg kj42
              case measure => have := HK1.out; have := HK2.out; have := HK3.out; have := HJ42.out; omega
              case rel => exact ⟨(x10_42), (t529), (t525), (t528), (.slice Ao57 t525.length co57), (by first | rfl | (simp; done) | (simp [*]; done)), H', ⟨by have := HK1.out; have := HK2.out; have := HK3.out; have := HJ42.out; omega⟩, ⟨by (with_reducible repeat (first | apply Kd.zac | apply Kd.zab | apply Kd.zai)); exact Kd.zam (Kd.R_far (p := ⟨gb490, 1, none⟩) (Kd.R_far (p := ⟨gb490, 0, none⟩) (Kd.zao HO_10.out BK490.out (by decide)) (fun _ hk => hk.2) (.slice Ao57 t525.length co57)) (fun _ hk => hk.2) (.int .i64 t528)) (fun _ hk => trivial)⟩, ⟨by (with_reducible repeat (first | apply Kd.zac | apply Kd.zab | apply Kd.zai)); exact Kd.zam (Kd.R_far (p := ⟨gb490, 1, none⟩) (Kd.R_far (p := ⟨gb490, 0, none⟩) (Kd.zao HO527.out BK490.out (by decide)) (fun _ hk => hk.2) (.slice Ao57 t525.length co57)) (fun _ hk => hk.2) (.int .i64 t528)) (fun _ hk => trivial)⟩, ⟨by (with_reducible repeat (first | refine za4 ?_ _ | refine za6 ?_ | refine za5 ?_ _)); refine zax ?_ NB488_490.out _; (with_reducible repeat (first | refine za4 ?_ _ | refine za6 ?_ | refine za5 ?_ _)); refine zax ?_ NB488_490.out _; (with_reducible repeat (first | refine za4 ?_ _ | refine za6 ?_ | refine za5 ?_ _)); exact BK488.out⟩, ⟨by (with_reducible repeat (first | refine za4 ?_ _ | refine za6 ?_ | refine za5 ?_ _)); refine zat (cs := #[.slice Ao57 t525.length co57, .int .i64 x491001_3]) ?_ 1 _ rfl; (with_reducible repeat (first | refine za4 ?_ _ | refine za6 ?_ | refine za5 ?_ _)); refine zat (cs := #[.slice Ao55 x491000_3.length co55, .int .i64 x491001_3]) ?_ 0 _ rfl; (with_reducible repeat (first | refine za4 ?_ _ | refine za6 ?_ | refine za5 ?_ _)); exact BK490.out⟩, ⟨by repeat (first | (with_reducible first | exact HB.out | apply za2 | apply za0 | apply za1 | refine za3 ?_ GE488.out | refine za3 ?_ GE490.out) | exact HB.out)⟩⟩
             ·rw [if_neg c50] at H
              have c50b0 : decide (1 < (x10_42.length : Int)) = false := decide_eq_false c50
              have c50b1 : decide (1 < x10_42.length) = false := decide_eq_false (by omega)
              clear c50
              have H' := Aside0.mk H
              clear H
              obtain ⟨Ao59, co59, eo59⟩ := Kd.zau HO_10.out
              subst eo59
              go_wp2
              go_roundg kj42
              case measure => have := HK1.out; have := HK2.out; have := HK3.out; have := HJ42.out; omega
              case rel => exact ⟨(x10_42), (x9_2), (x491000_3), (x491001_3), (u491000), (by first | rfl | (simp; done) | (simp [*]; done)), H', ⟨by have := HK1.out; have := HK2.out; have := HK3.out; have := HJ42.out; omega⟩, ⟨by (with_reducible repeat (first | apply Kd.zac | apply Kd.zab | apply Kd.zai)); exact HO_10.out⟩, ⟨by (with_reducible repeat (first | apply Kd.zac | apply Kd.zab | apply Kd.zai)); exact HO_491000.out⟩, ⟨by (with_reducible repeat (first | refine za4 ?_ _ | refine za6 ?_ | refine za5 ?_ _)); exact BK488.out⟩, ⟨by (with_reducible repeat (first | refine za4 ?_ _ | refine za6 ?_ | refine za5 ?_ _)); exact BK490.out⟩, ⟨by repeat (first | (with_reducible first | exact HB.out | apply za2 | apply za0 | apply za1 | refine za3 ?_ GE488.out | refine za3 ?_ GE490.out) | exact HB.out)⟩⟩
       ·rw [if_neg c20] at H
        have c20b0 : decide (1 < (x6_2.length : Int)) = false := decide_eq_false c20
        have c20b1 : decide (1 < x6_2.length) = false := decide_eq_false (by omega)
        clear c20
        by_cases c60 : 0 < (x6_2.length : Int)
        ·rw [if_pos c60] at H
         have c60b0 : decide (0 < (x6_2.length : Int)) = true := decide_eq_true c60
         have c60b1 : decide (0 < x6_2.length) = true := decide_eq_true (by omega)
         clear c60
         replace H := Option.bind_eq_some_iff.mp H
         obtain ⟨⟨t501, t504, t505⟩, A610, H⟩ := H
         replace H : (some (t501, t504, t505)) = some (r1, r2, r3) := H
         have A61 := Aside0.mk A610
         clear A610
         simp only [Option.some.injEq, Prod.mk.injEq] at H
         obtain ⟨rfl, rfl, rfl⟩ := H
         obtain ⟨Ao62, co62, eo62⟩ := Kd.zau HO_6.out
         subst eo62
         have p500 : 0 ≤ (0 : Int) := (by omega)
         have q500 : 0 < (x6_2.length : Int) := of_decide_eq_true (by first | (with_reducible assumption) | assumption)
         obtain ⟨ad500, e500, hx500_0⟩ := Kd.at_int (Kd.R_reads' HO_6.out).2.2 0 p500 q500
         cases e500
         have qi500 : (0 < x6_2.length) = True := eq_true (by omega)
         (try rw [show ((0 : Int)).toNat = 0 from rfl] at hx500_0)
         (try rw [Addr.add_zero'] at hx500_0)
         replace p500 := eq_true p500
         replace q500 := eq_true q500
         have hnb63 := NB490_488.out
         have hnc63 := NB488_490.out
         have hcz64_0 : wr.cell? ⟨gb490, 0, none⟩ = some (u491000) := (za8 BK490.out 0).trans rfl
         have hcz64_1 : wr.cell? ⟨gb490, 1, none⟩ = some (.int .i64 x491001_2) := (za8 BK490.out 1).trans rfl
         have hfz64_0 := za7 BK490.out 0
         have hfz64_1 := za7 BK490.out 1
         go_wp2_with (first | ((with_reducible refine gate_store (t := 3) (p := 96) rfl ?_); refine store_event (t := 3) (p := 96) (v := ?vo_w65) (w1 := (wr.setCell ⟨gb490, 1, none⟩ (.int .i64 (rd x6_2 0)))) ?hg ?ho ?hn ?hr ?_; (case ho => rfl); (case hg => rfl); (case hn => rfl); (case hr => first | (go_simp; done) | (go_simp; rfl)); intro w65 hw; have n0_ : Aside0 (Kd.R (Kd.int .i64) 3 w65 w.heap.size (fun _ => True) (.slice (some ad500) x6_2.length co62) x6_2) := ⟨(by rw [hw]; exact (by (with_reducible repeat (first | apply Kd.zac | apply Kd.zab | apply Kd.zai)); exact Kd.zam (Kd.R_far (p := ⟨gb490, 1, none⟩) (Kd.zao HO_6.out BK490.out (by decide)) (fun _ hk => hk.2) (.int .i64 (rd x6_2 0))) (fun _ hk => trivial)))⟩; have n1_ : Aside0 (Kd.R k69 69 w65 w.heap.size (fun _ => True) u491000 x491000_2) := ⟨(by rw [hw]; exact (by (with_reducible repeat (first | apply Kd.zac | apply Kd.zab | apply Kd.zai)); exact Kd.zam (Kd.R_far (p := ⟨gb490, 1, none⟩) (Kd.zao HO_491000.out BK490.out (by decide)) (fun _ hk => hk.2) (.int .i64 (rd x6_2 0))) (fun _ hk => trivial)))⟩; have n2_ : Aside0 (w65.heap[gb488]? = some (.cells #[.slice none 0 0, .int .i64 0] 39 (0, 0))) := ⟨(by rw [hw]; exact (by (with_reducible repeat (first | refine za4 ?_ _ | refine za6 ?_ | refine za5 ?_ _)); refine zax ?_ NB488_490.out _; (with_reducible repeat (first | refine za4 ?_ _ | refine za6 ?_ | refine za5 ?_ _)); exact BK488.out))⟩; have n3_ : Aside0 (w65.heap[gb490]? = some (.cells #[u491000, .int .i64 (rd x6_2 0)] 39 (0, 0))) := ⟨(by rw [hw]; exact (by (with_reducible repeat (first | refine za4 ?_ _ | refine za6 ?_ | refine za5 ?_ _)); refine zat (cs := #[u491000, .int .i64 x491001_2]) ?_ 1 _ rfl; (with_reducible repeat (first | refine za4 ?_ _ | refine za6 ?_ | refine za5 ?_ _)); exact BK490.out))⟩; have n4_ : Aside0 (Below w.heap.size w w65) := ⟨(by rw [hw]; exact (by repeat (first | (with_reducible first | exact HB.out | apply za2 | apply za0 | apply za1 | refine za3 ?_ GE488.out | refine za3 ?_ GE490.out) | exact HB.out)))⟩; clear hw; clear HO_6; clear HO_491000; clear BK488; clear BK490; clear HB; have HO_6 := n0_; have HO_491000 := n1_; have BK488 := n2_; have BK490 := n3_; have HB := n4_; clear n0_ n1_ n2_ n3_ n4_; have hcz66_0 : w65.cell? ⟨gb490, 0, none⟩ = some (u491000) := (za8 BK490.out 0).trans rfl; have hcz66_1 : w65.cell? ⟨gb490, 1, none⟩ = some (.int .i64 (rd x6_2 0)) := (za8 BK490.out 1).trans rfl; have hfz66_0 := za7 BK490.out 0; have hfz66_1 := za7 BK490.out 1; obtain ⟨Ao67, co67, eo67⟩ := Kd.zau HO_491000.out; subst eo67) | ((with_reducible refine zaj (f := 78) rfl ?_); refine zaz (some 98) rfl rfl Try.func78 (by kernel_rfl) rfl #[.agg #[.slice Ao67 x491000_2.length co67, .int .i64 (rd x6_2 0)]] rfl (by (try simp only [List.map_toArray, List.map_cons, List.map_nil]); first | done | rfl | (simp only [List.length_drop, List.length_take]; rfl)) ?_; (with_reducible refine (spec_poIf.calls k2 (fun k_ => some k_ = (.slice Ao67 x491000_2.length co67 : Value).ownBlock) (.slice Ao67 x491000_2.length co67) x491000_2 (rd x6_2 0) t501 t504 t505 w _ ?side1 ?side2 A61.out).mono ?_); (case side1 => repeat (first | (with_reducible first | exact HB.out | apply za2 | apply za0 | apply za1 | refine za3 ?_ GE488.out | refine za3 ?_ GE490.out) | exact HB.out)); (case side2 => exact Kd.R_tight rfl HO_491000.out); rintro e w68 ⟨v502, rfl, ho0, hb, hkp⟩; refine ⟨_, rfl, ?_⟩; have n0_ := Aside0.mk (Kd.zam (ok' := fun k_ => True) (Kd.R_keptB ((Kd.R_apart' HO_6.out (Kd.R_typed HO_491000.out) (by decide))) hkp (fun k_ hk_ hs_ => (hk_.2) hs_)) (fun k_ hk_ => trivial)); have n1_ := Aside0.mk (blk_kept (by (with_reducible repeat (first | refine za4 ?_ _ | refine za6 ?_ | refine za5 ?_ _)); exact BK488.out) hkp (fun hs_ => (fun e_ => (Kd.R_ne HO_491000.out BK488.out (by decide)) e_) hs_)); have n2_ := Aside0.mk (blk_kept (by (with_reducible repeat (first | refine za4 ?_ _ | refine za6 ?_ | refine za5 ?_ _)); exact BK490.out) hkp (fun hs_ => (fun e_ => (Kd.R_ne HO_491000.out BK490.out (by decide)) e_) hs_)); have n3_ := Aside0.mk (Kd.zam (ok' := fun k_ => True) ho0 (fun k_ hk_ => trivial)); have n4_ := Aside0.mk (hb); clear HO_6; clear BK488; clear BK490; clear HB; clear HO_491000; have HO_6 := n0_; have BK488 := n1_; have BK490 := n2_; have HO503 := n3_; have HB := n4_; clear n0_ n1_ n2_ n3_ n4_; (try clear hb); (try clear hkp); (try clear ho0); obtain ⟨Ao69, co69, eo69⟩ := Kd.zau HO503.out; subst eo69; have hcz70_0 : w68.cell? ⟨gb488, 0, none⟩ = some (.slice none 0 0) := (za8 BK488.out 0).trans rfl; have hcz70_1 : w68.cell? ⟨gb488, 1, none⟩ = some (.int .i64 0) := (za8 BK488.out 1).trans rfl; have hfz70_0 := za7 BK488.out 0; have hfz70_1 := za7 BK488.out 1))
         refine bodyPost_ret (results_ct rfl _ _ gb488 39 #[.slice Ao69 t501.length co69, .int .i64 t504] (0, 0) _ rfl (by (with_reducible repeat (first | refine za4 ?_ _ | refine za6 ?_ | refine za5 ?_ _)); refine zat (cs := #[.slice Ao69 t501.length co69, .int .i64 0]) ?_ 1 _ rfl; (with_reducible repeat (first | refine za4 ?_ _ | refine za6 ?_ | refine za5 ?_ _)); refine zat (cs := #[.slice none 0 0, .int .i64 0]) ?_ 0 _ rfl; (with_reducible repeat (first | refine za4 ?_ _ | refine za6 ?_ | refine za5 ?_ _)); exact BK488.out) Try.underlying39 rfl (by kernel_rfl)) rfl ?_
         exact ⟨_, by first | rfl | (simp [zaf, zah] <;> rfl) | (simp [*, zaf, zah] <;> rfl), by (with_reducible repeat (first | apply Kd.zac | apply Kd.zab | apply Kd.zai)); exact Kd.zam (Kd.R_far (p := ⟨gb488, 1, none⟩) (Kd.R_far (p := ⟨gb488, 0, none⟩) (Kd.zao HO503.out BK488.out (by decide)) (fun _ hk => hk.2) (.slice Ao69 t501.length co69)) (fun _ hk => hk.2) (.int .i64 t504)) (fun _ hk => trivial), by repeat (first | (with_reducible first | exact HB.out | apply za2 | apply za0 | apply za1 | refine za3 ?_ GE488.out | refine za3 ?_ GE490.out) | exact HB.out)⟩
        ·rw [if_neg c60] at H
         exact absurd H (by simp)
 ·replace c3 := Bool.eq_false_iff.mpr c3
  subst c3
  have H1 : (some (([] : List (S69)), 0, false)) = some (r1, r2, r3) := by rw [if_neg (show ¬ (false = true) by decide)] at H; exact H
  clear H
  have H := H1
  clear H1
  simp only [Option.some.injEq, Prod.mk.injEq] at H
  obtain ⟨rfl, rfl, rfl⟩ := H
  go_enter Try.func49, Try.ntmps49
  go_wp2_with (first | ((with_reducible refine zal (N := 2) rfl ?_); refine zan ?hg (N := 2) ?hd (cs := #[.slice none 0 0, .int .i64 0]) (t := 39) ?hr ?_; (case hd => rfl); (case hg => rfl); (case hr => first | (go_simp; done) | (go_simp; rfl)); intro gb488 hg w71 hbox hb; have n0_ := Aside0.mk (zad (by repeat (first | (with_reducible first | exact HB.out | apply za2 | apply za0 | apply za1) | exact HB.out)) hb); have n1_ := Aside0.mk (hbox); have n2_ := Aside0.mk ((by rw [hg]; exact (za9 (by repeat (first | (with_reducible first | exact HB.out | apply za2 | apply za0 | apply za1) | exact HB.out))) : w.heap.size ≤ gb488)); have n3_ := Aside0.mk ((by rw [hg]; exact (za9 (by repeat (first | (with_reducible first | exact HB.out | apply za2 | apply za0 | apply za1) | exact HB.out))) : w.heap.size ≤ gb488)); clear HB; have HB := n0_; have BK488 := n1_; have GW488 := n2_; have GE488 := n3_; clear n0_ n1_ n2_ n3_; clear hb hbox hg) | ((with_reducible refine zaj (f := 51) rfl ?_); refine zaz (some 13) rfl rfl Try.func51 (by kernel_rfl) rfl #[.slice A0 l0.length c0] rfl (by (try simp only [List.map_toArray, List.map_cons, List.map_nil]); first | done | rfl | (simp only [List.length_drop, List.length_take]; rfl)) ?_; (with_reducible refine (spec_poCoefs.calls k _ _ l0 false _ ?side1 ?side2 A2.out).mono ?_); (case side1 => repeat (first | exact (Kd.zb4 HR0.out HB.out) | (with_reducible refine Kd.zar ?_ _) | (with_reducible refine Kd.zas ?_ _) | (with_reducible refine Kd.zav ?_))); (case side2 => exact HC0.out); rintro e w' ⟨rfl, ⟨nd, rfl⟩⟩; refine ⟨_, rfl, ?_⟩; (try (rw [drewN_self w71]; generalize hq_ : World.drewN w71 _ = w71; have n0_ : Aside0 (w71.heap[gb488]? = some (.cells #[.slice none 0 0, .int .i64 0] 39 (0, 0))) := ⟨by rw [← hq_]; exact (by (with_reducible repeat (first | refine za4 ?_ _ | refine za6 ?_ | refine za5 ?_ _)); exact BK488.out)⟩; have n1_ : Aside0 (Below w.heap.size w w71) := ⟨by rw [← hq_]; exact (by repeat (first | (with_reducible first | exact HB.out | apply za2 | apply za0 | apply za1 | refine za3 ?_ GE488.out) | exact HB.out))⟩; clear BK488 HB hq_; have BK488 := n0_; have HB := n1_; clear n0_ n1_)); have hcz72_0 : w71.cell? ⟨gb488, 0, none⟩ = some (.slice none 0 0) := (za8 BK488.out 0).trans rfl; have hcz72_1 : w71.cell? ⟨gb488, 1, none⟩ = some (.int .i64 0) := (za8 BK488.out 1).trans rfl; have hfz72_0 := za7 BK488.out 0; have hfz72_1 := za7 BK488.out 1))
  refine bodyPost_ret (results_ct rfl _ _ gb488 39 #[.slice none 0 0, .int .i64 0] (0, 0) _ rfl (by (with_reducible repeat (first | refine za4 ?_ _ | refine za6 ?_ | refine za5 ?_ _)); refine zat (cs := #[.slice none 0 0, .int .i64 0]) ?_ 1 _ rfl; (with_reducible repeat (first | refine za4 ?_ _ | refine za6 ?_ | refine za5 ?_ _)); refine zat (cs := #[.slice none 0 0, .int .i64 0]) ?_ 0 _ rfl; (with_reducible repeat (first | refine za4 ?_ _ | refine za6 ?_ | refine za5 ?_ _)); exact BK488.out) Try.underlying39 rfl (by kernel_rfl)) rfl ?_
  exact ⟨_, by first | rfl | (simp [zaf, zah] <;> rfl) | (simp [*, zaf, zah] <;> rfl), by first | exact Kd.R_nil _ _ _ _ _ | exact Kd.N_nil _ _ _ _ _ | exact Kd.V_nil _ _ _ _ _ | exact Kd.Q_nil _ _ _ _ _ | exact Kd.S_nil _ _ _ _ _, by repeat (first | (with_reducible first | exact HB.out | apply za2 | apply za0 | apply za1 | refine za3 ?_ GE488.out) | exact HB.out)⟩

/-! ### impl_EstrinCode: function 50 -/
def es0 (coefs : List Int) : Nat → Nat → List Int → List SOp → List Int × List SOp
 | 0, _, xs, m => (xs, m)
 | d + 1, i, xs, m => es0 coefs d (i + 1) (xs ++ [(m.length : Int) + 1]) (m ++ [⟨0, rd coefs (i : Int), 0⟩])
def esIn (xs : List Int) (y : Int) : Nat → Nat → List Int → List SOp → List Int × List SOp
 | 0, _, nx, m => (nx, m)
 | d + 1, i, nx, m => if i + 1 = xs.length then esIn xs y d (i + 2) (nx ++ [rd xs (i : Int)]) m else esIn xs y d (i + 2) (nx ++ [(m.length : Int) + 2]) (m ++ [⟨3, rd xs ((i + 1 : Nat) : Int), y⟩] ++ [⟨1, rd xs (i : Int), (m.length : Int) + 1⟩])
def esOut : Nat → List Int → Int → List SOp → Int × List SOp
 | 0, xs, y, m => (rd xs 0, m)
 | d + 1, xs, y, m => if 1 < xs.length then (if 1 < (esIn xs y ((xs.length + 1) / 2) 0 [] m).1.length then esOut d (esIn xs y ((xs.length + 1) / 2) 0 [] m).1 (((esIn xs y ((xs.length + 1) / 2) 0 [] m).2.length : Int) + 1) ((esIn xs y ((xs.length + 1) / 2) 0 [] m).2 ++ [⟨3, y, y⟩]) else esOut d (esIn xs y ((xs.length + 1) / 2) 0 [] m).1 y (esIn xs y ((xs.length + 1) / 2) 0 [] m).2) else (rd xs 0, m)
def estrinIn (l0 : List Int) : Int × List SOp := esOut l0.length (es0 l0 l0.length 0 [] []).1 0 (es0 l0 l0.length 0 [] []).2
def impl_EstrinCode.f (k : Nat) (l0 : List Int) : Option (List SOp × Int × Bool) := (impl_coefsOk.f l0).bind fun b => if b = true then impl_toldCode.f k (estrinIn l0).2 (estrinIn l0).1 else some ([], 0, false)
theorem impl_EstrinCode.mono : ∀ a0 k, LeO (impl_EstrinCode.f k a0) (impl_EstrinCode.f (k + 1) a0) := by
 intro a0 k
 unfold impl_EstrinCode.f
 exact LeO.bind (LeO.refl _) (fun b => LeO.ite (impl_toldCode.mono _ _ _) (LeO.refl _))
theorem es0_length (coefs : List Int) : ∀ (d i : Nat) (xs : List Int) (m : List SOp), (es0 coefs d i xs m).1.length = xs.length + d ∧ (es0 coefs d i xs m).2.length = m.length + d
 | 0, i, xs, m => by simp [es0]
 | d + 1, i, xs, m => by
  have := es0_length coefs d (i + 1) (xs ++ [(m.length : Int) + 1]) (m ++ [⟨0, rd coefs (i : Int), 0⟩])
  simp only [es0]
  simp at this
  omega
theorem esIn_length (xs : List Int) (y : Int) : ∀ (d i : Nat) (nx : List Int) (m : List SOp), (esIn xs y d i nx m).1.length = nx.length + d ∧ (esIn xs y d i nx m).2.length ≤ m.length + 2 * d
 | 0, i, nx, m => by simp [esIn]
 | d + 1, i, nx, m => by
  simp only [esIn]
  split
  ·have := esIn_length xs y d (i + 2) (nx ++ [rd xs (i : Int)]) m
   simp at this
   omega
  ·have := esIn_length xs y d (i + 2) (nx ++ [(m.length : Int) + 2]) (m ++ [⟨3, rd xs ((i + 1 : Nat) : Int), y⟩] ++ [⟨1, rd xs (i : Int), (m.length : Int) + 1⟩])
   simp at this
   simp
   omega

set_option maxHeartbeats 8000000 in
set_option maxRecDepth 100000 in
theorem impl_EstrinCode.calls (k : Nat) (A0 : Option Addr) (c0 : Nat) (l0 : List Int) (r1 : List SOp) (r2 : Int) (r3 : Bool) (w : World) (hr0 : Kd.C (Kd.int .i64) w A0 l0.length l0) (hc0 : l0.length ≤ c0) (h : impl_EstrinCode.f k l0 = some (r1, r2, r3)) :
  Calls Try.prog 50 #[.slice A0 l0.length c0] w fun e w' => ∃ v, e = .returned (.tuple #[.agg #[v, .int .i64 r2], .bool r3]) ∧ Kd.R k69 69 w' w.heap.size (fun _ => True) v r1 ∧ Below w.heap.size w w' := by
 have hu39 := Try.underlying39
 have HC := Aside0.mk hr0
 have HN := Aside0.mk hc0
 unfold impl_EstrinCode.f at h
 obtain ⟨b, hT, h⟩ := Option.bind_eq_some_iff.1 h
 have HT := Aside0.mk hT
 cases b with
 | false =>
  simp only [Bool.false_eq_true, if_false, Option.some.injEq, Prod.mk.injEq] at h
  obtain ⟨rfl, rfl, rfl⟩ := h
  clear hr0 hc0 hT
  go_enter Try.func50, Try.ntmps50
  go_wp2_with (first | ((with_reducible refine zal (N := 2) rfl ?_); refine zan ?hg (N := 2) ?hd (cs := #[.slice none 0 0, .int .i64 0]) (t := 39) ?hr ?_; (case hd => rfl); (case hg => rfl); (case hr => first | (go_simp; done) | (go_simp; rfl)); intro gr hg_ w1 hbox_ hb_; have H1 := Aside0.mk ((Fr.start w).box_new hbox_ hb_ hg_); clear hbox_ hb_ hg_; have HA := Aside0.mk (impl_coefsOk.calls A0 c0 l0 _ w1 (Kd.zb4 HC.out H1.out.bel) HN.out HT.out)) | (go_at_call 54; refine HA.out.mono ?_; clear HA; rintro e w2 ⟨rfl, hb⟩; have H2 := Aside0.mk (H1.out.below hb); clear hb; have hsgr_0 : w2.cell? ⟨gr, 0, none⟩ = some (.slice none 0 0) := (H2.out).box_cell (i := 0) rfl 0 rfl; have hfgr_0 := za7 ((H2.out).box_at (i := 0) rfl) 0; have hsgr_1 : w2.cell? ⟨gr, 1, none⟩ = some (.int .i64 0) := (H2.out).box_cell (i := 0) rfl 1 rfl; have hfgr_1 := za7 ((H2.out).box_at (i := 0) rfl) 1))
  have h4 := (H2.out.box_set (i := 0) rfl 0 (.slice none 0 0) rfl).box_set (i := 0) rfl 1 (.int .i64 0) rfl
  refine bodyPost_ret (results_ct rfl _ _ gr 39 #[.slice none 0 0, .int .i64 0] (0, 0) _ rfl (h4.box_at (i := 0) rfl) Try.underlying39 rfl (by kernel_rfl)) rfl ?_
  exact ⟨_, rfl, Kd.R_nil _ _ _ _ _, h4.bel⟩
 | true =>
  simp only [if_true] at h
  have HF := Aside0.mk h
  have hl := coefsOk_len hT
  have HL := Aside0.mk hl
  clear hr0 hc0 hT h hl
  unfold estrinIn at HF
  go_enter Try.func50, Try.ntmps50
  go_wp2_with (first | ((with_reducible refine zal (N := 2) rfl ?_); refine zan ?hg (N := 2) ?hd (cs := #[.slice none 0 0, .int .i64 0]) (t := 39) ?hr ?_; (case hd => rfl); (case hg => rfl); (case hr => first | (go_simp; done) | (go_simp; rfl)); intro gr hg_ w1 hbox_ hb_; have H1 := Aside0.mk ((Fr.start w).box_new hbox_ hb_ hg_); clear hbox_ hb_ hg_; have HA := Aside0.mk (impl_coefsOk.calls A0 c0 l0 _ w1 (Kd.zb4 HC.out H1.out.bel) HN.out HT.out)) | (go_at_call 54; refine HA.out.mono ?_; clear HA; rintro e w2 ⟨rfl, hb⟩; have H2 := Aside0.mk (H1.out.below hb); clear hb) | ((with_reducible refine zal (N := 16) rfl ?_); refine zan ?hg (N := 16) ?hd (cs := #[.slice none 0 0]) (t := 78) ?hr ?_; (case hd => rfl); (case hg => rfl); (case hr => first | (go_simp; done) | (go_simp; rfl)); intro gw hg_ w3 hbox_ hb_; have H3_ := Aside0.mk ((H2.out).box_new hbox_ hb_ hg_); clear hbox_ hb_ hg_; have H3 := Aside0.mk ((H3_.out.row_nil k69 69).obj_close (i := 0) (f := fun v => #[v]) rfl); clear H3_) | ((with_reducible refine zal (N := 17) rfl ?_); refine Kd.R_lit (Kd.int .i64) (w0 := w) w.heap.size 3 ?hg (N := 17) ?hd (xs := ([] : List Int)) (inner := []) (ok := fun k => w3.heap.size ≤ k) (okp := fun k => w3.heap.size ≤ k) ?hr ?hp (fun _ hk => hk) (Nat.le_refl _) (H3.out).bel (H3.out).size (by simp) ?_; (case hd => rfl); (case hg => rfl); (case hr => first | (go_simp; done) | (go_simp; rfl)); (case hp => exact (Reps.none _ _)); intro v4 w4 hr_ hb_ hg_ hn_; have H4 := Aside0.mk ((H3.out).row_lit hr_ hg_); clear hb_ hg_ hn_; clear hr_))
  have HZ := Aside0.mk (show 1 ≤ l0.length ∧ l0.length ≤ 17 from HL.out)
  have H5 := Aside0.mk (show Fr w w (fun _ => False) [row (Kd.int .i64) 3 v4 [], wr8 gw [], box gr 39 #[.slice none 0 0, .int .i64 0]] w4 from H4.out)
  have HSZ := Aside0.mk (es0_length l0 l0.length 0 [] [])
  clear H1 H2 H3 H4
  go_loopg [5, 20] l0.length (fun d v5 v20 w' => ∃ (i : Nat) (xs : List Int) (m : List SOp), v20 = .int .i64 (i : Int) ∧ Aside0 (es0 l0 d i xs m = es0 l0 l0.length 0 [] []) ∧ Aside0 (i + d = l0.length ∧ xs.length = i ∧ m.length = i) ∧ Aside0 (Fr w w (fun _ => False) [row (Kd.int .i64) 3 v5 xs, wr8 gw m, box gr 39 #[.slice none 0 0, .int .i64 0]] w'))
  case atStart => exact ⟨0, [], [], rfl, ⟨rfl⟩, ⟨by simp⟩, H5⟩
  case round =>
   obtain ⟨i, xs, m, rfl, HE, HM, H6⟩ := hrel
   clear H5
   cases gk with
   | succ d =>
    have hm := HM.out
    have hz := HZ.out
    have c1 : decide (i < l0.length) = true := decide_eq_true (by omega)
    obtain ⟨ad, e1, hx⟩ := Kd.at_int (Kd.zb4 HC.out H6.out.bel) (i : Int) (by omega) (by omega)
    cases e1
    rw [Int.toNat_natCast] at hx
    have q1 : (i < l0.length) = True := eq_true (by omega)
    have hw1 : wrap64 ((i : Int) + 1) = (i : Int) + 1 := by unfold wrap64; omega
    obtain ⟨A5, c5, rfl, _, _⟩ := H6.out.row_reads (i := 0) rfl
    have HCc := Aside0.mk (constant_fr (i := 1) (rd l0 (i : Int)) H6.out rfl (by omega))
    clear hm hz
    go_wp2_with (first | (go_at_call 79; refine HCc.out.mono ?_; clear HCc; rintro e w7 ⟨rfl, k_⟩; have H7 := Aside0.mk k_; simp only [List.set_cons_zero, List.set_cons_succ] at H7; clear k_) | ((with_reducible refine gate_builtin (b := .append) (xs := #[.tmp 24, .tmp 28]) rfl ?_); at_builtin; obtain ⟨ok_, hR_, hF_, hX_⟩ := (H7.out).row_append (i := 0) rfl; refine Kd.R_append (Kd.int .i64) (w0 := w) w.heap.size (by rfl) (.tmp 24) (.tmp 28) 22 3 (.int .i64 0) 8 rfl Try.underlying22 info3 rfl (by decide) (by omega) (.slice A5 xs.length c5) xs ((m.length : Int) + 1) [.int .i64 ((m.length : Int) + 1)] ok_ (fun _ => False) rfl (by first | rfl | (go_simp; done) | (go_simp; rfl)) ?aP (fun _ hk => hk.elim) ?aF ?aO ?aB ?aS ?aL ?_; (case aP => exact rfl); (case aB => exact (H7.out).bel); (case aF => exact hF_); (case aO => exact hR_); (case aS => exact (H7.out).size); (case aL => have := HM.out; have := HZ.out; omega); intro v_ w8 ho_ hb_ hg_ ha_; have H8 := Aside0.mk (hX_ _ _ _ ho_ hg_); obtain ⟨A_, c_, rfl⟩ := Kd.zau ho_; simp only [List.set_cons_zero, List.set_cons_succ] at H8; clear ho_ hb_ hg_ ha_ hR_ hF_ hX_))
    go_roundg d
    case measure => omega
    case rel => exact ⟨i + 1, xs ++ [(m.length : Int) + 1], m ++ [(⟨0, rd l0 (i : Int), 0⟩ : SOp)], by go_num, ⟨HE.out⟩, ⟨by have := HM.out; simp; omega⟩, ⟨by simpa using H8.out⟩⟩
   | zero =>
    have hm := HM.out
    have hz := HZ.out
    have c1 : decide (i < l0.length) = false := decide_eq_false (by omega)
    have he := HE.out
    simp only [es0] at he
    rw [← he] at HF HSZ
    have HX := Aside0.mk (show 1 ≤ xs.length ∧ xs.length ≤ l0.length + 1 ∧ l0.length ≤ 17 ∧ m.length ≤ 17 ∧ xs.length ≤ 17 by omega)
    clear hm hz he HM HE HSZ
    obtain ⟨A5, c5, rfl, _, _⟩ := H6.out.row_reads (i := 0) rfl
    go_wp2
    go_loopg [5, 6] l0.length (fun d v5 v6 w' => ∃ (xs' : List Int) (y : Int) (m' : List SOp), v6 = .int .i64 y ∧ Aside0 (esOut d xs' y m' = esOut l0.length xs 0 m) ∧ Aside0 (1 ≤ xs'.length ∧ xs'.length ≤ d + 1 ∧ m'.length + 40 * d ≤ 1000 ∧ d ≤ 17) ∧ Aside0 (Fr w w (fun _ => False) [row (Kd.int .i64) 3 v5 xs', wr8 gw m', box gr 39 #[.slice none 0 0, .int .i64 0]] w'))
    case atStart => exact ⟨xs, 0, m, rfl, ⟨rfl⟩, ⟨by have := HX.out; omega⟩, H6⟩
    case round =>
     obtain ⟨xs1, y, m1, rfl, HE, HM, H7⟩ := hrel
     clear H6
     obtain ⟨A7, c7, rfl, hcap, hC7⟩ := H7.out.row_reads (i := 0) rfl
     by_cases hlong : 1 < xs1.length
     ·cases gk with
      | zero => have := HM.out; omega
      | succ d =>
       have c2 : decide (1 < (xs1.length : Int)) = true := decide_eq_true (by omega)
       have HLG := Aside0.mk hlong
       clear hlong hC7 hcap
       go_wp2_with ((with_reducible refine zal (N := 34) rfl ?_); refine Kd.R_lit (Kd.int .i64) (w0 := w) w.heap.size 3 ?hg (N := 34) ?hd (xs := ([] : List Int)) (inner := []) (ok := fun k => wr.heap.size ≤ k) (okp := fun k => wr.heap.size ≤ k) ?hr ?hp (fun _ hk => hk) (Nat.le_refl _) (H7.out).bel (H7.out).size (by simp) ?_; (case hd => rfl); (case hg => rfl); (case hr => first | (go_simp; done) | (go_simp; rfl)); (case hp => exact (Reps.none _ _)); intro v8 w8 hr_ hb_ hg_ hn_; have H8 := Aside0.mk ((H7.out).row_lit hr_ hg_); clear hb_ hg_ hn_; clear hr_)
       go_loopg [9, 10] ((xs1.length + 1) / 2) (fun d9 v9 v10 w' => ∃ (j : Nat) (nx : List Int) (m2 : List SOp), v10 = .int .i64 (j : Int) ∧ Aside0 (esIn xs1 y d9 j nx m2 = esIn xs1 y ((xs1.length + 1) / 2) 0 [] m1) ∧ Aside0 ((j + 2 * d9 = xs1.length ∨ j + 2 * d9 = xs1.length + 1) ∧ m2.length ≤ 2000 + j ∧ nx.length ≤ j) ∧ Aside0 (Fr w w (fun _ => False) [row (Kd.int .i64) 3 v9 nx, row (Kd.int .i64) 3 (.slice A7 xs1.length c7) xs1, wr8 gw m2, box gr 39 #[.slice none 0 0, .int .i64 0]] w'))
       case atStart => exact ⟨0, [], m1, rfl, ⟨rfl⟩, ⟨by have := HM.out; simp; omega⟩, H8⟩
       case round =>
        obtain ⟨j, nx, m2, rfl, HE2, HM2, H9⟩ := hrel
        clear H8 H7
        obtain ⟨A9, c9, rfl, _, _⟩ := H9.out.row_reads (i := 0) rfl
        cases gk with
        | zero =>
         have hm2 := HM2.out
         have c3 : decide (j < xs1.length) = false := decide_eq_false (by omega)
         have he2 := HE2.out
         simp only [esIn] at he2
         have hin := esIn_length xs1 y ((xs1.length + 1) / 2) 0 [] m1
         have he := HE.out
         simp only [esOut, if_pos HLG.out] at he
         rw [← he2] at hin he
         simp only [List.length_nil, Nat.zero_add] at hin
         have HIN := Aside0.mk hin
         by_cases h2 : 1 < nx.length
         ·have c4 : decide (1 < (nx.length : Int)) = true := decide_eq_true (by omega)
          simp only [if_pos h2] at he
          have HE3 := Aside0.mk he
          have HCp := Aside0.mk (put_fr (i := 2) 3 y y H9.out rfl (by have := HM.out; omega))
          clear hm2 he2 hin he h2
          go_wp2_with (go_at_call 80; refine HCp.out.mono ?_; clear HCp; rintro e w7 ⟨rfl, k_⟩; have H10 := Aside0.mk k_; simp only [List.set_cons_zero, List.set_cons_succ] at H10; clear k_)
          go_roundg d
          case measure => omega
          case rel => exact ⟨nx, _, _, rfl, HE3, ⟨by have := HM.out; have := HIN.out; have := HLG.out; simp; omega⟩, ⟨H10.out.drop1⟩⟩
         ·have c4 : decide (1 < (nx.length : Int)) = false := decide_eq_false (by omega)
          simp only [if_neg h2] at he
          have HE3 := Aside0.mk he
          clear hm2 he2 hin he h2
          go_wp2
          go_roundg d
          case measure => omega
          case rel => exact ⟨nx, y, m2, rfl, HE3, ⟨by have := HM.out; have := HIN.out; have := HLG.out; omega⟩, ⟨H9.out.drop1⟩⟩
        | succ d9 =>
         have hm2 := HM2.out
         have hm := HM.out
         have c3 : decide (j < xs1.length) = true := decide_eq_true (by omega)
         have HW := Aside0.mk (show wrap64 ((j : Int) + 1) = (j : Int) + 1 ∧ wrap64 ((j : Int) + 2) = (j : Int) + 2 from ⟨by unfold wrap64; omega, by unfold wrap64; omega⟩)
         obtain ⟨A8, c8, e8, _, hC8⟩ := H9.out.row_reads (i := 1) rfl
         injection e8 with e8 _ e9
         subst e8
         subst e9
         obtain ⟨ad, e1, hx⟩ := Kd.at_int hC8 (j : Int) (by omega) (by omega)
         cases e1
         rw [Int.toNat_natCast] at hx
         have q1 : (j < xs1.length) = True := eq_true (by omega)
         by_cases hlast : j + 1 = xs1.length
         ·have c4 : decide ((j : Int) + 1 = (xs1.length : Int)) = true := decide_eq_true (by omega)
          have c5_ : (((j : Int) + 1) == (xs1.length : Int)) = true := by rw [beq_iff_eq]; omega
          have he2 := HE2.out
          simp only [esIn, if_pos hlast] at he2
          have HE3 := Aside0.mk he2
          have HJ := Aside0.mk hlast
          have HMM := Aside0.mk hm
          clear hm2 he2 hC8 hlast hm
          obtain ⟨hw1, hw2⟩ := HW.out
          go_wp2_with ((with_reducible refine gate_builtin (b := .append) (xs := #[.tmp 46, .tmp 51]) rfl ?_); at_builtin; obtain ⟨ok_, hR_, hF_, hX_⟩ := (H9.out).row_append (i := 0) rfl; refine Kd.R_append (Kd.int .i64) (w0 := w) w.heap.size (by rfl) (.tmp 46) (.tmp 51) 22 3 (.int .i64 0) 8 rfl Try.underlying22 info3 rfl (by decide) (by omega) (.slice A9 nx.length c9) nx (rd xs1 (j : Int)) [.int .i64 (rd xs1 (j : Int))] ok_ (fun _ => False) rfl (by first | rfl | (go_simp; done) | (go_simp; rfl)) ?aP (fun _ hk => hk.elim) ?aF ?aO ?aB ?aS ?aL ?_; (case aP => exact rfl); (case aB => exact (H9.out).bel); (case aF => exact hF_); (case aO => exact hR_); (case aS => exact (H9.out).size); (case aL => have := HM2.out; have := HMM.out; omega); intro v_ w8_ ho_ hb_ hg_ ha_; have H10 := Aside0.mk (hX_ _ _ _ ho_ hg_); obtain ⟨A_, c_, rfl⟩ := Kd.zau ho_; simp only [List.set_cons_zero, List.set_cons_succ] at H10; clear ho_ hb_ hg_ ha_ hR_ hF_ hX_)
          clear hw1 hw2
          go_roundg d9
          case measure => omega
          case rel => exact ⟨j + 2, nx ++ [rd xs1 (j : Int)], m2, by first | go_num | (rw [HW.out.2]; go_num), HE3, ⟨by have := HM2.out; have := HJ.out; simp; omega⟩, ⟨by simpa using H10.out⟩⟩
         ·have c4 : decide ((j : Int) + 1 = (xs1.length : Int)) = false := decide_eq_false (by omega)
          have c5_ : (((j : Int) + 1) == (xs1.length : Int)) = false := by rw [beq_eq_false_iff_ne]; omega
          have he2 := HE2.out
          simp only [esIn, if_neg hlast] at he2
          have HE3 := Aside0.mk he2
          have HJ1 := Aside0.mk (show j < xs1.length ∧ j + 1 < xs1.length ∧ xs1.length ≤ 18 by omega)
          have q2 : (0 ≤ (j : Int) + 1) = True := eq_true (by omega)
          have q3 : ((j : Int) + 1 < (xs1.length : Int)) = True := eq_true (by omega)
          have q4 : ((j : Int) + 1).toNat = j + 1 := by omega
          clear hm2 he2 hC8 hlast hm hx
          obtain ⟨hw1, hw2⟩ := HW.out
          go_wp2
          refine start_ (n := 18) (S := fun w' => w'.cell? (ad.add j) = some (.int .i64 (rd xs1 (j : Int))) ∧ w'.cell? ⟨ad.block, ad.off + (j + 1), none⟩ = some (.int .i64 (rd xs1 ((j + 1 : Nat) : Int)))) (ds := []) #[false, false, false, false, false, false, false, false, false, false, false, false, false, false, false, false, false, false] (by kernel_rfl) rfl rfl ⟨H9.out.drew.int_at (i := 1) rfl j HJ1.out.1, H9.out.drew.int_at (i := 1) rfl (j + 1) HJ1.out.2.1⟩ (fun hHeld => ?_)
          refine pure_ (i := 0) (N := some 53) (v := ?_) (a' := ?_) #[true, false, false, false, false, false, false, false, false, false, false, false, false, false, false, false, false, false] rfl rfl (by kernel_rfl) (fun _ _ _ h => h) (Or.inl ⟨by rfl, ?_⟩) ?_ ?_
          rotate_left
          ·intro w'
           go_simp
           with_reducible rfl
          rotate_left
          ·simp only [Act.put, List.setIfInBounds_toArray, List.set_cons_zero, List.set_cons_succ, i64_w, i32_w]
           rfl
          refine pure_ (i := 1) (N := some 54) (v := ?_) (a' := ?_) #[true, true, false, false, false, false, false, false, false, false, false, false, false, false, false, false, false, false] rfl rfl (by kernel_rfl) (fun _ _ _ h => h) (Or.inl ⟨by rfl, ?_⟩) ?_ ?_
          rotate_left
          ·intro w'
           go_simp
           with_reducible rfl
          rotate_left
          ·simp only [Act.put, List.setIfInBounds_toArray, List.set_cons_zero, List.set_cons_succ, i64_w, i32_w]
           rfl
          refine pure_ (i := 2) (N := some 55) (v := ?_) (a' := ?_) #[true, true, true, false, false, false, false, false, false, false, false, false, false, false, false, false, false, false] rfl rfl (by kernel_rfl) (fun _ _ _ h => h) (Or.inl ⟨by rfl, ?_⟩) ?_ ?_
          rotate_left
          ·intro w'
           go_simp
           with_reducible rfl
          rotate_left
          ·simp only [Act.put, List.setIfInBounds_toArray, List.set_cons_zero, List.set_cons_succ, i64_w, i32_w]
           rfl
          refine pure_ (i := 3) (N := some 56) (v := ?_) (a' := ?_) #[true, true, true, true, false, false, false, false, false, false, false, false, false, false, false, false, false, false] rfl rfl (by kernel_rfl) (fun _ _ _ h => h) (Or.inl ⟨by rfl, ?_⟩) ?_ ?_
          rotate_left
          ·intro w'
           go_simp
           with_reducible rfl
          rotate_left
          ·simp only [Act.put, List.setIfInBounds_toArray, List.set_cons_zero, List.set_cons_succ, i64_w, i32_w]
           rfl
          refine pure_ (i := 4) (N := some 57) (v := ?_) (a' := ?_) #[true, true, true, true, true, false, false, false, false, false, false, false, false, false, false, false, false, false] rfl rfl (by kernel_rfl) (fun _ _ _ h => h) (Or.inl ⟨by rfl, ?_⟩) ?_ ?_
          rotate_left
          ·intro w'
           go_simp
           with_reducible rfl
          rotate_left
          ·simp only [Act.put, List.setIfInBounds_toArray, List.set_cons_zero, List.set_cons_succ, i64_w, i32_w]
           rfl
          refine pure_ (i := 6) (N := some 59) (v := ?_) (a' := ?_) #[true, true, true, true, true, false, true, false, false, false, false, false, false, false, false, false, false, false] rfl rfl (by kernel_rfl) (fun _ _ _ h => h) (Or.inl ⟨by rfl, ?_⟩) ?_ ?_
          rotate_left
          ·intro w'
           go_simp
           with_reducible rfl
          rotate_left
          ·simp only [Act.put, List.setIfInBounds_toArray, List.set_cons_zero, List.set_cons_succ, i64_w, i32_w]
           rfl
          refine pure_ (i := 7) (N := some 60) (v := ?_) (a' := ?_) #[true, true, true, true, true, false, true, true, false, false, false, false, false, false, false, false, false, false] rfl rfl (by kernel_rfl) (fun _ _ _ h => h) (Or.inl ⟨by rfl, ?_⟩) ?_ ?_
          rotate_left
          ·intro w'
           go_simp
           with_reducible rfl
          rotate_left
          ·simp only [Act.put, List.setIfInBounds_toArray, List.set_cons_zero, List.set_cons_succ, i64_w, i32_w]
           rfl
          refine pure_ (i := 8) (N := some 61) (v := ?_) (a' := ?_) #[true, true, true, true, true, false, true, true, true, false, false, false, false, false, false, false, false, false] rfl rfl (by kernel_rfl) (fun _ _ _ h => h) (Or.inl ⟨by rfl, ?_⟩) ?_ ?_
          rotate_left
          ·intro w'
           go_simp
           with_reducible rfl
          rotate_left
          ·simp only [Act.put, List.setIfInBounds_toArray, List.set_cons_zero, List.set_cons_succ, i64_w, i32_w]
           rfl
          refine pure_ (i := 9) (N := some 62) (v := ?_) (a' := ?_) #[true, true, true, true, true, false, true, true, true, true, false, false, false, false, false, false, false, false] rfl rfl (by kernel_rfl) (fun _ _ _ h => h) (Or.inl ⟨by rfl, ?_⟩) ?_ ?_
          rotate_left
          ·intro w'
           go_simp
           with_reducible rfl
          rotate_left
          ·simp only [Act.put, List.setIfInBounds_toArray, List.set_cons_zero, List.set_cons_succ, i64_w, i32_w]
           rfl
          refine pure_ (i := 10) (N := some 63) (v := ?_) (a' := ?_) #[true, true, true, true, true, false, true, true, true, true, true, false, false, false, false, false, false, false] rfl rfl (by kernel_rfl) (fun _ _ _ h => h) (Or.inl ⟨by rfl, ?_⟩) ?_ ?_
          rotate_left
          ·intro w'
           go_simp
           with_reducible rfl
          rotate_left
          ·simp only [Act.put, List.setIfInBounds_toArray, List.set_cons_zero, List.set_cons_succ, i64_w, i32_w]
           rfl
          refine pure_ (i := 12) (N := some 65) (v := ?_) (a' := ?_) #[true, true, true, true, true, false, true, true, true, true, true, false, true, false, false, false, false, false] rfl rfl (by kernel_rfl) (fun _ _ _ h => h) (Or.inl ⟨by rfl, ?_⟩) ?_ ?_
          rotate_left
          ·intro w'
           go_simp
           with_reducible rfl
          rotate_left
          ·simp only [Act.put, List.setIfInBounds_toArray, List.set_cons_zero, List.set_cons_succ, i64_w, i32_w]
           rfl
          refine take_ (i := 5) (N := some 58) (v := ?_) (a' := ?_) #[true, true, true, true, true, true, true, true, true, true, true, false, true, false, false, false, false, false] rfl rfl (by kernel_rfl) (fun _ _ _ h => h) (Or.inl ⟨by rfl, ?_⟩) hHeld ?_ ?_
          rotate_left
          ·rintro w' ⟨s0, s1⟩
           go_simp
           with_reducible rfl
          rotate_left
          ·simp only [Act.put, List.setIfInBounds_toArray, List.set_cons_zero, List.set_cons_succ, i64_w, i32_w]
           rfl
          refine take_ (i := 11) (N := some 64) (v := ?_) (a' := ?_) #[true, true, true, true, true, true, true, true, true, true, true, true, true, false, false, false, false, false] rfl rfl (by kernel_rfl) (fun _ _ _ h => h) (Or.inl ⟨by rfl, ?_⟩) hHeld ?_ ?_
          rotate_left
          ·rintro w' ⟨s0, s1⟩
           go_simp
           with_reducible rfl
          rotate_left
          ·simp only [Act.put, List.setIfInBounds_toArray, List.set_cons_zero, List.set_cons_succ, i64_w, i32_w]
           rfl
          refine one_ (i := 13) (N := some 66) #[true, true, true, true, true, true, true, true, true, true, true, true, true, true, false, false, false, false] rfl rfl (by kernel_rfl) (by decide) (fun K hK => ?_)
          refine goes_ Try.func80 (by kernel_rfl) rfl #[.pointer (some ⟨gw, 0, none⟩), .int .i64 3, .int .i64 (rd xs1 ((j + 1 : Nat) : Int)), .int .i64 y] (by rfl) rfl rfl (by simp only [List.map_toArray, List.map_cons, List.map_nil]; rfl) ?_
          with_reducible refine (put_fr (i := 2) 3 (rd xs1 ((j + 1 : Nat) : Int)) y H9.out.drew rfl (by have := HJ1.out; have := HM2.out; omega)).mono ?_
          rintro e w5 ⟨rfl, k_⟩
          refine ⟨_, rfl, ?_⟩
          have H10 := Aside0.mk k_; simp only [List.set_cons_zero, List.set_cons_succ] at H10; clear k_
          refine hK.out _ _ ⟨H10.out.int_at (i := 1) rfl j HJ1.out.1, H10.out.int_at (i := 1) rfl (j + 1) HJ1.out.2.1⟩ (fun hHeld => ?_)
          clear hK K
          refine norm_ (a' := ?_) ?_ ?_
          rotate_left
          ·show Act.put _ (some 66) _ = _
           simp only [Act.put, List.setIfInBounds_toArray, List.set_cons_zero, List.set_cons_succ, i64_w, i32_w]
           rfl
          refine one_ (i := 14) (N := some 67) #[true, true, true, true, true, true, true, true, true, true, true, true, true, true, true, false, false, false] rfl rfl (by kernel_rfl) (by decide) (fun K hK => ?_)
          refine goes_ Try.func80 (by kernel_rfl) rfl #[.pointer (some ⟨gw, 0, none⟩), .int .i64 1, .int .i64 (rd xs1 (j : Int)), .int .i64 ((m2.length : Int) + 1)] (by rfl) rfl rfl (by simp only [List.map_toArray, List.map_cons, List.map_nil]; rfl) ?_
          with_reducible refine (put_fr (i := 2) 1 (rd xs1 (j : Int)) ((m2.length : Int) + 1) H10.out rfl (by have := HM2.out; have := HJ1.out; simp; omega)).mono ?_
          rintro e w6 ⟨rfl, k_⟩
          refine ⟨_, rfl, ?_⟩
          have H11 := Aside0.mk k_; simp only [List.set_cons_zero, List.set_cons_succ] at H11; clear k_
          generalize hz_ : ((m2 ++ [(⟨3, rd xs1 ((j + 1 : Nat) : Int), y⟩ : SOp)]).length : Int) + 1 = z
          have HZ1 := Aside0.mk (show z = (m2.length : Int) + 2 by rw [← hz_]; simp; omega)
          clear hz_
          refine hK.out _ _ ⟨H11.out.int_at (i := 1) rfl j HJ1.out.1, H11.out.int_at (i := 1) rfl (j + 1) HJ1.out.2.1⟩ (fun hHeld => ?_)
          clear hK K
          refine norm_ (a' := ?_) ?_ ?_
          rotate_left
          ·show Act.put _ (some 67) _ = _
           simp only [Act.put, List.setIfInBounds_toArray, List.set_cons_zero, List.set_cons_succ, i64_w, i32_w]
           rfl
          refine one_ (i := 15) (N := some 68) #[true, true, true, true, true, true, true, true, true, true, true, true, true, true, true, true, false, false] rfl rfl (by kernel_rfl) (by decide) (fun K hK => ?_)
          refine value_ (w1 := ?_) (v := ?_) (by rfl) rfl ?_ ?_
          rotate_left 2
          ·go_simp
           constructor
           ·rfl
           ·rfl
          refine hK.out _ _ ⟨(H11.out.alloc _).int_at (i := 1) rfl j HJ1.out.1, (H11.out.alloc _).int_at (i := 1) rfl (j + 1) HJ1.out.2.1⟩ (fun hHeld => ?_)
          clear hK K
          refine norm_ (a' := ?_) ?_ ?_
          rotate_left
          ·show Act.put _ (some 68) _ = _
           simp only [Act.put, List.setIfInBounds_toArray, List.set_cons_zero, List.set_cons_succ, i64_w, i32_w]
           rfl
          refine one_ (i := 16) (N := some 69) #[true, true, true, true, true, true, true, true, true, true, true, true, true, true, true, true, true, false] rfl rfl (by kernel_rfl) (by decide) (fun K hK => ?_)
          obtain ⟨ok_, hR_, hF_, hX_⟩ := (H11.out).row_append (i := 0) rfl
          refine Kd.R_append_step (Kd.int .i64) (w0 := w) w.heap.size (by rfl) (.tmp 53) (.tmp 68) 22 3 (.int .i64 0) 8 rfl Try.underlying22 info3 rfl (by decide) (by omega) (.slice A9 nx.length c9) nx z [.int .i64 z] ok_ (fun _ => False) rfl (by first | rfl | (go_simp; done) | (go_simp; rfl)) ?aP (fun _ hk => hk.elim) ?aF ?aO ?aB ?aS ?aL ?_; (case aP => exact rfl); (case aB => exact (H11.out).bel); (case aF => exact hF_); (case aO => exact hR_); (case aS => exact (H11.out).size); (case aL => have := HM2.out; have := HJ1.out; omega)
          intro v_ w8_ ho_ hb_ hg_ ha_; have H12 := Aside0.mk (hX_ _ _ _ ho_ hg_); obtain ⟨A_, c_, rfl⟩ := Kd.zau ho_; simp only [List.set_cons_zero, List.set_cons_succ] at H12; clear ho_ hb_ hg_ ha_ hR_ hF_ hX_
          refine hK.out _ _ ⟨H12.out.int_at (i := 1) rfl j HJ1.out.1, H12.out.int_at (i := 1) rfl (j + 1) HJ1.out.2.1⟩ (fun hHeld => ?_)
          clear hK K
          refine norm_ (a' := ?_) ?_ ?_
          rotate_left
          ·show Act.put _ (some 69) _ = _
           simp only [Act.put, List.setIfInBounds_toArray, List.set_cons_zero, List.set_cons_succ, i64_w, i32_w]
           rfl
          refine pure_ (i := 17) (N := some 9) (v := ?_) (a' := ?_) #[true, true, true, true, true, true, true, true, true, true, true, true, true, true, true, true, true, true] rfl rfl (by kernel_rfl) (fun _ _ _ h => h) (Or.inl ⟨by rfl, ?_⟩) ?_ ?_
          rotate_left
          ·intro w'
           go_simp
           with_reducible rfl
          rotate_left
          ·simp only [Act.put, List.setIfInBounds_toArray, List.set_cons_zero, List.set_cons_succ, i64_w, i32_w]
           rfl
          refine done_ (by kernel_rfl) ?_
          go_wp2
          clear hw1 hw2
          go_roundg d9
          case measure => omega
          case rel => exact ⟨j + 2, _, _, by first | go_num | (rw [HW.out.2]; go_num), HE3, ⟨by have := HM2.out; have := HJ1.out; simp; omega⟩, ⟨by have := H12.out; rw [HZ1.out] at this; simpa using this⟩⟩
     ·have c2 : decide (1 < (xs1.length : Int)) = false := decide_eq_false (by omega)
      have h1 : xs1.length = 1 := by have := HM.out; omega
      obtain ⟨ad, e1, hx⟩ := Kd.at_int hC7 0 (by omega) (by omega)
      cases e1
      rw [show ((0 : Int)).toNat = 0 from rfl, Addr.add_zero'] at hx
      have he : (rd xs1 0, m1) = esOut l0.length xs 0 m := by
       rw [← HE.out]
       cases gk with
       | zero => rfl
       | succ d => simp only [esOut, if_neg hlong]
      rw [← he] at HF
      have HCd := Aside0.mk (code_fr (i := 1) k H7.out rfl HF.out)
      have q1 : (0 < xs1.length) = True := eq_true (by omega)
      clear he hlong hC7 hcap HF HE HM
      go_wp2_with (go_at_call 81; refine HCd.out.mono ?_; clear HCd; rintro e w9 ⟨v, rfl, k_⟩; obtain ⟨A6, c6, rfl, _, _⟩ := k_.row_reads (i := 0) rfl; have H10 := Aside0.mk k_; simp only [List.set_cons_zero, List.set_cons_succ] at H10; clear k_; have hsgr_0 : w9.cell? ⟨gr, 0, none⟩ = some (.slice none 0 0) := (H10.out).box_cell (i := 3) rfl 0 rfl; have hfgr_0 := za7 ((H10.out).box_at (i := 3) rfl) 0; have hsgr_1 : w9.cell? ⟨gr, 1, none⟩ = some (.int .i64 0) := (H10.out).box_cell (i := 3) rfl 1 rfl; have hfgr_1 := za7 ((H10.out).box_at (i := 3) rfl) 1)
      have h4 := (H10.out.box_set (i := 3) rfl 0 (.slice A6 r1.length c6) rfl).box_set (i := 3) rfl 1 (.int .i64 r2) rfl
      simp only [List.set_cons_succ, List.set_cons_zero] at h4
      refine bodyPost_ret (results_ct rfl _ _ gr 39 #[.slice A6 r1.length c6, .int .i64 r2] (0, 0) _ rfl (h4.box_at (i := 3) rfl) Try.underlying39 rfl (by kernel_rfl)) rfl ?_
      exact ⟨_, rfl, h4.row_R (i := 0) rfl, h4.bel⟩

end Go.Proofs.Ytgglemlhombgkaa.Z
