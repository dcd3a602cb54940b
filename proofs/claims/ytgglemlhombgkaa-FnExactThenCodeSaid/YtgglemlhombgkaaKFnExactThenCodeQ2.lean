-- Written by a program of this session (wip/tools/stubprint.py): contracts by hand where the kit's print has none.
import Derived.Test.YtgglemlhombgkaaKFnExactThenCodeQ0
import Derived.Test.YtgglemlhombgkaaKFnExactThenCodeQ1
namespace Go.Proofs.Ytgglemlhombgkaa.T
open Go.RowKit Go.Proofs.YtgglemlhombgkaaW.PrintWords Go.Proofs.YtgglemlhombgkaaW.PrintLast Go.Proofs.YtgglemlhombgkaaW.PrintMore
attribute [local go_sem] max2_int min2_int max_two min_two max_three min_three max_four min_four   -- for this text's walks alone
set_option linter.unusedVariables false
set_option linter.unusedSimpArgs false

/-! ### spec_poOp: function 103 -/
mutual
def spec_poOp.j0 : Nat → List (List Int) → Bool → Bool → Int → Int → Int → Option (List Int × Bool)
 | 0, _, _, _, _, _, _ => none
 | k + 1, x1, x6, x7, x171000, x171001, x171002 => if x171000 = 0 then ((spec_poTrim.f k (([x171001] : List Int))).bind fun t176 => ((spec_l1In.f x171001 (-1000000) 1000000).bind fun t179 => (if t179 = true then (some (t176, (x171002 == 0))) else (some (t176, false))))) else (if x171000 = 1 then (spec_poOp.j1 k x1 x6 x7 x7 x171000 x171001 x171002) else (spec_poOp.j1 k x1 x6 x7 false x171000 x171001 x171002))
def spec_poOp.j1 : Nat → List (List Int) → Bool → Bool → Bool → Int → Int → Int → Option (List Int × Bool)
 | 0, _, _, _, _, _, _, _ => none
 | k + 1, x1, x6, x7, x39, x171000, x171001, x171002 => if x39 = true then (if 0 ≤ x171001 then (if x171001 < (x1.length : Int) then (if 0 ≤ x171002 then (if x171002 < (x1.length : Int) then ((spec_poSum.f k (rd_L2 x1 x171001) (rd_L2 x1 x171002)).bind fun t182 => (some (t182, true))) else (none)) else (none)) else (none)) else (none)) else (if x171000 = 2 then (if x6 = true then ((spec_l1In.f x171002 (-1000000) 1000000).bind fun t185 => (spec_poOp.j2 k x1 x7 t185 x171000 x171001 x171002)) else (spec_poOp.j2 k x1 x7 false x171000 x171001 x171002)) else (spec_poOp.j2 k x1 x7 false x171000 x171001 x171002))
def spec_poOp.j2 : Nat → List (List Int) → Bool → Bool → Int → Int → Int → Option (List Int × Bool)
 | 0, _, _, _, _, _, _ => none
 | k + 1, x1, x7, x57, x171000, x171001, x171002 => if x57 = true then (if 0 ≤ x171001 then (if x171001 < (x1.length : Int) then ((spec_poTrim.f k (([x171002] : List Int))).bind fun t190 => ((spec_poProduct.f k (rd_L2 x1 x171001) t190).bind fun t193 => (some (t193, true)))) else (none)) else (none)) else (if x171000 = 3 then (if x7 = true then (if 0 ≤ x171001 then (if x171001 < (x1.length : Int) then (if 0 ≤ x171002 then (if x171002 < (x1.length : Int) then ((spec_poProduct.f k (rd_L2 x1 x171001) (rd_L2 x1 x171002)).bind fun t198 => (some (t198, true))) else (none)) else (none)) else (none)) else (none)) else (some (([] : List Int), false))) else (some (([] : List Int), false)))
end
def spec_poOp.f (k : Nat) (a0_0 : Int) (a0_1 : Int) (a0_2 : Int) (l1 : List (List Int)) : Option (List Int × Bool) := (spec_l1In.f a0_1 0 (wrap64 ((l1.length : Int) - 1))).bind fun t171 => (if t171 = true then ((spec_l1In.f a0_2 0 (wrap64 ((l1.length : Int) - 1))).bind fun t172 => (spec_poOp.j0 k l1 t171 t172 a0_0 a0_1 a0_2)) else (spec_poOp.j0 k l1 t171 false a0_0 a0_1 a0_2))
theorem spec_poOp.mono_l : ∀ k, (∀ y0 y1 y2 y3 y4 y5, LeO (spec_poOp.j0 k y0 y1 y2 y3 y4 y5) (spec_poOp.j0 (k + 1) y0 y1 y2 y3 y4 y5)) ∧ (∀ y0 y1 y2 y3 y4 y5 y6, LeO (spec_poOp.j1 k y0 y1 y2 y3 y4 y5 y6) (spec_poOp.j1 (k + 1) y0 y1 y2 y3 y4 y5 y6)) ∧ (∀ y0 y1 y2 y3 y4 y5, LeO (spec_poOp.j2 k y0 y1 y2 y3 y4 y5) (spec_poOp.j2 (k + 1) y0 y1 y2 y3 y4 y5))
 | 0 => ⟨fun _ _ _ _ _ _ r h => by simp [spec_poOp.j0] at h, fun _ _ _ _ _ _ _ r h => by simp [spec_poOp.j1] at h, fun _ _ _ _ _ _ r h => by simp [spec_poOp.j2] at h⟩
 | k + 1 => by
  obtain ⟨ih0, ih1, ih2⟩ := spec_poOp.mono_l k
  refine ⟨?_, ?_, ?_⟩
  ·intro y0 y1 y2 y3 y4 y5
   unfold spec_poOp.j0
   repeat' first
   | (with_reducible exact ih0 _ _ _ _ _ _)
   | (with_reducible exact ih1 _ _ _ _ _ _ _)
   | (with_reducible exact ih2 _ _ _ _ _ _)
   | (with_reducible exact spec_poProduct.mono _ _ _)
   | (with_reducible exact spec_poSum.mono _ _ _)
   | (with_reducible exact spec_poTrim.mono _ _)
   | (with_reducible exact LeO.refl _)
   | (with_reducible exact LeO.none _)
   | (with_reducible refine LeO.ite ?_ ?_)
   | (with_reducible refine LeO.bind ?_ (fun _ => ?_))
   | exact ih0 _ _ _ _ _ _
   | exact ih1 _ _ _ _ _ _ _
   | exact ih2 _ _ _ _ _ _
   | exact spec_poProduct.mono _ _ _
   | exact spec_poSum.mono _ _ _
   | exact spec_poTrim.mono _ _
   | exact LeO.none _
   | refine LeO.ite ?_ ?_
   | refine LeO.bind ?_ (fun _ => ?_)
  ·intro y0 y1 y2 y3 y4 y5 y6
   unfold spec_poOp.j1
   repeat' first
   | (with_reducible exact ih0 _ _ _ _ _ _)
   | (with_reducible exact ih1 _ _ _ _ _ _ _)
   | (with_reducible exact ih2 _ _ _ _ _ _)
   | (with_reducible exact spec_poProduct.mono _ _ _)
   | (with_reducible exact spec_poSum.mono _ _ _)
   | (with_reducible exact spec_poTrim.mono _ _)
   | (with_reducible exact LeO.refl _)
   | (with_reducible exact LeO.none _)
   | (with_reducible refine LeO.ite ?_ ?_)
   | (with_reducible refine LeO.bind ?_ (fun _ => ?_))
   | exact ih0 _ _ _ _ _ _
   | exact ih1 _ _ _ _ _ _ _
   | exact ih2 _ _ _ _ _ _
   | exact spec_poProduct.mono _ _ _
   | exact spec_poSum.mono _ _ _
   | exact spec_poTrim.mono _ _
   | exact LeO.none _
   | refine LeO.ite ?_ ?_
   | refine LeO.bind ?_ (fun _ => ?_)
  ·intro y0 y1 y2 y3 y4 y5
   unfold spec_poOp.j2
   repeat' first
   | (with_reducible exact ih0 _ _ _ _ _ _)
   | (with_reducible exact ih1 _ _ _ _ _ _ _)
   | (with_reducible exact ih2 _ _ _ _ _ _)
   | (with_reducible exact spec_poProduct.mono _ _ _)
   | (with_reducible exact spec_poSum.mono _ _ _)
   | (with_reducible exact spec_poTrim.mono _ _)
   | (with_reducible exact LeO.refl _)
   | (with_reducible exact LeO.none _)
   | (with_reducible refine LeO.ite ?_ ?_)
   | (with_reducible refine LeO.bind ?_ (fun _ => ?_))
   | exact ih0 _ _ _ _ _ _
   | exact ih1 _ _ _ _ _ _ _
   | exact ih2 _ _ _ _ _ _
   | exact spec_poProduct.mono _ _ _
   | exact spec_poSum.mono _ _ _
   | exact spec_poTrim.mono _ _
   | exact LeO.none _
   | refine LeO.ite ?_ ?_
   | refine LeO.bind ?_ (fun _ => ?_)
theorem spec_poOp.mono : ∀ a0 a1 a2 a3 k, LeO (spec_poOp.f k a0 a1 a2 a3) (spec_poOp.f (k + 1) a0 a1 a2 a3) := by
 intro a0 a1 a2 a3 k
 obtain ⟨ih0, ih1, ih2⟩ := spec_poOp.mono_l k
 unfold spec_poOp.f
 repeat' first
   | (with_reducible exact ih0 _ _ _ _ _ _)
   | (with_reducible exact ih1 _ _ _ _ _ _ _)
   | (with_reducible exact ih2 _ _ _ _ _ _)
   | (with_reducible exact spec_poProduct.mono _ _ _)
   | (with_reducible exact spec_poSum.mono _ _ _)
   | (with_reducible exact spec_poTrim.mono _ _)
   | (with_reducible exact LeO.refl _)
   | (with_reducible exact LeO.none _)
   | (with_reducible refine LeO.ite ?_ ?_)
   | (with_reducible refine LeO.bind ?_ (fun _ => ?_))
   | exact ih0 _ _ _ _ _ _
   | exact ih1 _ _ _ _ _ _ _
   | exact ih2 _ _ _ _ _ _
   | exact spec_poProduct.mono _ _ _
   | exact spec_poSum.mono _ _ _
   | exact spec_poTrim.mono _ _
   | exact LeO.none _
   | refine LeO.ite ?_ ?_
   | refine LeO.bind ?_ (fun _ => ?_)
def spec_poOp.T4 : Bool × List (List Nat × List Nat) := (true, [([], []), ([0], [0]), ([1], [1]), ([2], [2]), ([], []), ([4], [4]), ([5, 3], [5]), ([6, 6], [6]), ([7], [7]), ([8, 7], [7, 8]), ([9, 7], [7, 9]), ([7, 10], [7, 10]), ([3, 7, 0, 1, 2, 3], [3]), ([11, 12, 0, 1, 2, 3, 4, 5, 6, 7, 8, 9, 10, 11, 12], [11])])
def spec_poOp.B4 : List Nat := [0, 1, 3, 7, 0, 16, 63, 127, 255, 511, 1023, 2047, 255, 8191]
theorem spec_poOp.tab4 : rtab .any (opsOf Try.f103 4) = spec_poOp.T4 := by kernel_rfl
theorem spec_poOp.bits4 : waitsOk spec_poOp.T4.2 spec_poOp.B4 = true := by kernel_rfl
def spec_poOp.T6 : Bool × List (List Nat × List Nat) := (true, [([], []), ([], []), ([1], [1]), ([0, 2], [0, 2]), ([3], [3]), ([], []), ([], []), ([6], [6]), ([5, 7], [5, 7]), ([8], [8]), ([4, 9], [4, 9]), ([10, 10, 0, 1, 2, 3, 4, 5, 6, 7, 8, 9, 10], [10]), ([11, 0, 1, 2, 3, 4, 5, 6, 7, 8, 9, 10, 11], [])])
def spec_poOp.B6 : List Nat := [0, 0, 2, 7, 15, 0, 0, 64, 224, 480, 1023, 2047, 4095]
theorem spec_poOp.tab6 : rtab .any (opsOf Try.f103 6) = spec_poOp.T6 := by kernel_rfl
theorem spec_poOp.bits6 : waitsOk spec_poOp.T6.2 spec_poOp.B6 = true := by kernel_rfl
def spec_poOp.T8 : Bool × List (List Nat × List Nat) := (true, [([], []), ([], []), ([1], [1]), ([0, 2], [0, 2]), ([3], [3]), ([], []), ([5], [5]), ([6], [6]), ([7], [7]), ([4, 8, 8], [4, 8]), ([9, 9, 0, 1, 2, 3, 4, 5, 6, 7, 8, 9], [9]), ([10, 0, 1, 2, 3, 4, 5, 6, 7, 8, 9, 10], [])])
def spec_poOp.B8 : List Nat := [0, 0, 2, 7, 15, 0, 32, 96, 224, 511, 1023, 2047]
theorem spec_poOp.tab8 : rtab .any (opsOf Try.f103 8) = spec_poOp.T8 := by kernel_rfl
theorem spec_poOp.bits8 : waitsOk spec_poOp.T8.2 spec_poOp.B8 = true := by kernel_rfl
def spec_poOp.T10 : Bool × List (List Nat × List Nat) := (true, [([], []), ([], []), ([1], [1]), ([0, 2], [0, 2]), ([3], [3]), ([], []), ([], []), ([6], [6]), ([5, 7], [5, 7]), ([8], [8]), ([4, 9], [4, 9]), ([10, 10, 0, 1, 2, 3, 4, 5, 6, 7, 8, 9, 10], [10]), ([11, 0, 1, 2, 3, 4, 5, 6, 7, 8, 9, 10, 11], [])])
def spec_poOp.B10 : List Nat := [0, 0, 2, 7, 15, 0, 0, 64, 224, 480, 1023, 2047, 4095]
theorem spec_poOp.tab10 : rtab .any (opsOf Try.f103 10) = spec_poOp.T10 := by kernel_rfl
theorem spec_poOp.bits10 : waitsOk spec_poOp.T10.2 spec_poOp.B10 = true := by kernel_rfl
set_option maxHeartbeats 8000000 in
set_option maxRecDepth 100000 in
theorem spec_poOp.calls (k : Nat) (a0_0 : Int) (a0_1 : Int) (a0_2 : Int) (A1 : Option Addr) (c1 : Nat) (l1 : List (List Int)) (r1 : List Int) (r2 : Bool) (w : World) (hr1 : Kd.C (Kd.slice 3 (Kd.int .i64)) w A1 l1.length l1) (hc1 : l1.length ≤ c1) (h : spec_poOp.f k a0_0 a0_1 a0_2 l1 = some (r1, r2)) :
  Calls Try.prog 103 #[.agg #[.int .i64 a0_0, .int .i64 a0_1, .int .i64 a0_2], .slice A1 l1.length c1] w fun e w' => ∃ v0_ : Value, e = .returned (.tuple #[v0_, .bool r2]) ∧ Kd.R (Kd.int .i64) 3 w' w.heap.size (fun _ => True) v0_ r1 ∧ Below w.heap.size w w' := by
 have hu69 := Try.underlying69
 have HR1 := Aside0.mk hr1
 have HC1 := Aside0.mk hc1
 clear hr1 hc1
 have HB := Aside0.mk (Below.refl w.heap.size w)
 have H : ((spec_l1In.f a0_1 0 (wrap64 ((l1.length : Int) - 1))).bind fun t171 => (if t171 = true then ((spec_l1In.f a0_2 0 (wrap64 ((l1.length : Int) - 1))).bind fun t172 => (spec_poOp.j0 k l1 t171 t172 a0_0 a0_1 a0_2)) else (spec_poOp.j0 k l1 t171 false a0_0 a0_1 a0_2))) = some (r1, r2) := h
 clear h
 replace H := Option.bind_eq_some_iff.mp H
 obtain ⟨t171, A30, H⟩ := H
 replace H : (if t171 = true then ((spec_l1In.f a0_2 0 (wrap64 ((l1.length : Int) - 1))).bind fun t172 => (spec_poOp.j0 k l1 t171 t172 a0_0 a0_1 a0_2)) else (spec_poOp.j0 k l1 t171 false a0_0 a0_1 a0_2)) = some (r1, r2) := H
 have A3 := Aside0.mk A30
 clear A30
 have HC4 := Aside0.mk H
 clear H
 go_enter Try.func103, Try.ntmps103
 go_upto_region 2 with (first | ((with_reducible refine zai (N := 2) rfl ?_); (try (refine gate_guard (by rfl) ?_; dsimp only)); refine zah ?hg (N := 2) ?hd (cs := #[.int .i64 a0_0, .int .i64 a0_1, .int .i64 a0_2]) (t := 69) ?hr ?_; (case hd => rfl); (case hg => rfl); (case hr => first | (go_simp; done) | (go_simp; rfl)); intro gb170 hg w5 hbox hb; have n0_ := Aside0.mk (zac (by repeat (first | (with_reducible first | exact HB.out | apply za2 | apply za0 | apply za1) | exact HB.out)) hb); have n1_ := Aside0.mk (hbox); have n2_ := Aside0.mk ((by rw [hg]; exact (zaa (by repeat (first | (with_reducible first | exact HB.out | apply za2 | apply za0 | apply za1) | exact HB.out))) : w.heap.size ≤ gb170)); have n3_ := Aside0.mk ((by rw [hg]; exact (zaa (by repeat (first | (with_reducible first | exact HB.out | apply za2 | apply za0 | apply za1) | exact HB.out))) : w.heap.size ≤ gb170)); clear HB; have HB := n0_; have BK170 := n1_; have GW170 := n2_; have GE170 := n3_; clear n0_ n1_ n2_ n3_; clear hb hbox hg; have hcz6_0 : w5.cell? ⟨gb170, 0, none⟩ = some (.int .i64 a0_0) := (za8 BK170.out 0).trans rfl; have hcz6_1 : w5.cell? ⟨gb170, 1, none⟩ = some (.int .i64 a0_1) := (za8 BK170.out 1).trans rfl; have hcz6_2 : w5.cell? ⟨gb170, 2, none⟩ = some (.int .i64 a0_2) := (za8 BK170.out 2).trans rfl; have hfz6_0 := za7 BK170.out 0; have hfz6_1 := za7 BK170.out 1; have hfz6_2 := za7 BK170.out 2) | ((with_reducible refine zal (f := 59) rfl ?_); refine goesL_ (some 13) rfl rfl Try.func59 (by kernel_rfl) rfl #[.int .i64 a0_1, .int .i64 0, .int .i64 (wrap64 ((l1.length : Int) - 1))] rfl (by (try simp only [List.map_toArray, List.map_cons, List.map_nil]); first | done | rfl | (simp only [List.length_drop, List.length_take]; rfl)) ?_; (with_reducible refine (spec_l1In.calls a0_1 0 (wrap64 ((l1.length : Int) - 1)) t171 _ A3.out).mono ?_); rintro e w' ⟨rfl, ⟨nd, rfl⟩⟩; refine ⟨_, rfl, ?_⟩))
 (try simp only [Act.put, List.setIfInBounds_toArray, List.set_cons_zero, List.set_cons_succ])
 go_cut [7] (fun v7 wc => ∃ (kq : Nat) (x7_3 : Bool), v7 = .bool x7_3 ∧ Aside0 (spec_poOp.j0 kq l1 t171 x7_3 a0_0 a0_1 a0_2 = some (r1, r2)) ∧ Aside0 (kq ≤ k) ∧ Aside0 (wc.heap[gb170]? = some (.cells #[.int .i64 a0_0, .int .i64 a0_1, .int .i64 a0_2] 69 (0, 0))) ∧ Aside0 (Below w.heap.size w wc))
 case first =>
  have H := HC4.out
  clear HC4
  by_cases c7 : t171 = true
  ·subst c7
   have H1 : ((spec_l1In.f a0_2 0 (wrap64 ((l1.length : Int) - 1))).bind fun t172 => (spec_poOp.j0 k l1 true t172 a0_0 a0_1 a0_2)) = some (r1, r2) := by rw [if_pos rfl] at H; exact H
   clear H
   have H := H1
   clear H1
   replace H := Option.bind_eq_some_iff.mp H
   obtain ⟨t172, A80, H⟩ := H
   replace H : (spec_poOp.j0 k l1 true t172 a0_0 a0_1 a0_2) = some (r1, r2) := H
   have A8 := Aside0.mk A80
   clear A80
   have H' := Aside0.mk H
   clear H
   have hcz9_0 : w5.cell? ⟨gb170, 0, none⟩ = some (.int .i64 a0_0) := (za8 BK170.out 0).trans rfl
   have hcz9_1 : w5.cell? ⟨gb170, 1, none⟩ = some (.int .i64 a0_1) := (za8 BK170.out 1).trans rfl
   have hcz9_2 : w5.cell? ⟨gb170, 2, none⟩ = some (.int .i64 a0_2) := (za8 BK170.out 2).trans rfl
   have hfz9_0 := za7 BK170.out 0
   have hfz9_1 := za7 BK170.out 1
   have hfz9_2 := za7 BK170.out 2
   go_wp2_with (first | (go_at_call 59; (with_reducible refine (spec_l1In.calls a0_2 0 (wrap64 ((l1.length : Int) - 1)) t172 _ A8.out).mono ?_); rintro e w' ⟨rfl, ⟨nd, rfl⟩⟩))
   go_meet
   case rel => exact ⟨_, (t172), (by first | rfl | (simp; done) | (simp [*]; done)), H', ⟨by first | omega | exact Nat.le_refl _⟩, ⟨by (with_reducible repeat (first | refine za5 ?_ _ | refine za6 ?_ | refine za4 ?_ _)); exact BK170.out⟩, ⟨by repeat (first | (with_reducible first | exact HB.out | apply za2 | apply za0 | apply za1 | refine za3 ?_ GE170.out) | exact HB.out)⟩⟩
  ·replace c7 := Bool.eq_false_iff.mpr c7
   subst c7
   have H1 : (spec_poOp.j0 k l1 false false a0_0 a0_1 a0_2) = some (r1, r2) := by rw [if_neg (show ¬ (false = true) by decide)] at H; exact H
   clear H
   have H := H1
   clear H1
   have H' := Aside0.mk H
   clear H
   go_wp2
   go_meet
   case rel => exact ⟨_, (false), (by first | rfl | (simp; done) | (simp [*]; done)), H', ⟨by first | omega | exact Nat.le_refl _⟩, ⟨by (with_reducible repeat (first | refine za5 ?_ _ | refine za6 ?_ | refine za4 ?_ _)); exact BK170.out⟩, ⟨by repeat (first | (with_reducible first | exact HB.out | apply za2 | apply za0 | apply za1 | refine za3 ?_ GE170.out) | exact HB.out)⟩⟩
 case rest =>
  clear HC4
  try clear c1
  try clear p2
  try clear c5
  try clear p6
  try clear c7
  try clear hcz6_0
  try clear hcz6_1
  try clear hcz6_2
  try clear hcz9_0
  try clear hcz9_1
  try clear hcz9_2
  try clear hfz6_0
  try clear hfz6_1
  try clear hfz6_2
  try clear hfz9_0
  try clear hfz9_1
  try clear hfz9_2
  obtain ⟨kq, x7_3, rfl, HA, HJ3, BK170, HB⟩ := hcut
  cases kq with
  | zero => exact absurd HA.out (by simp [spec_poOp.j0])
  | succ kj3 =>
   have H := HA.out
   clear HA
   simp only [spec_poOp.j0] at H
   by_cases c10 : a0_0 = 0
   ·rw [if_pos c10] at H
    have c10b0 : (a0_0 == 0) = true := beq_iff_eq.mpr c10
    have c10b1 : (a0_0 != 0) = false := bne_eq_false_iff_eq.mpr c10
    clear c10
    obtain ⟨y173, hy173⟩ : ∃ y_ : List Int, y_ = (([a0_1] : List Int)) := ⟨_, rfl⟩
    replace H : ((spec_poTrim.f kj3 y173).bind fun t176 => ((spec_l1In.f a0_1 (-1000000) 1000000).bind fun t179 => (if t179 = true then (some (t176, (a0_2 == 0))) else (some (t176, false))))) = some (r1, r2) := by first | (rw [hy173]; with_reducible exact H) | (have H2_ := (Option.bind_some _ _).symm.trans H; rw [hy173]; with_reducible exact H2_) | (have H2_ := (Option.bind_some _ _).symm.trans H; with_reducible exact H2_) | with_reducible exact H | (rw [hy173]; exact H) | exact H
    have Ny173 := Aside0.mk hy173
    clear hy173
    replace H := Option.bind_eq_some_iff.mp H
    obtain ⟨t176, A110, H⟩ := H
    replace H : ((spec_l1In.f a0_1 (-1000000) 1000000).bind fun t179 => (if t179 = true then (some (t176, (a0_2 == 0))) else (some (t176, false)))) = some (r1, r2) := H
    have A11 := Aside0.mk A110
    clear A110
    replace H := Option.bind_eq_some_iff.mp H
    obtain ⟨t179, A120, H⟩ := H
    replace H : (if t179 = true then (some (t176, (a0_2 == 0))) else (some (t176, false))) = some (r1, r2) := H
    have A12 := Aside0.mk A120
    clear A120
    by_cases c13 : t179 = true
    ·subst c13
     have H1 : (some (t176, (a0_2 == 0))) = some (r1, r2) := by rw [if_pos rfl] at H; exact H
     clear H
     have H := H1
     clear H1
     simp only [Option.some.injEq, Prod.mk.injEq] at H
     obtain ⟨rfl, rfl⟩ := H
     have hcz14_0 : wc.cell? ⟨gb170, 0, none⟩ = some (.int .i64 a0_0) := (za8 BK170.out 0).trans rfl
     have hcz14_1 : wc.cell? ⟨gb170, 1, none⟩ = some (.int .i64 a0_1) := (za8 BK170.out 1).trans rfl
     have hcz14_2 : wc.cell? ⟨gb170, 2, none⟩ = some (.int .i64 a0_2) := (za8 BK170.out 2).trans rfl
     have hfz14_0 := za7 BK170.out 0
     have hfz14_1 := za7 BK170.out 1
     have hfz14_2 := za7 BK170.out 2
     try go_wp2
     have n0_ := Aside0.mk (za6 BK170.out)
     have n1_ := Aside0.mk (za1 HB.out)
     clear BK170
     clear HB
     have BK170 := n0_
     have HB := n1_
     clear n0_ n1_
     refine start_ (n := 14) (S := fun w' => w'.cell? ⟨gb170, 0, none⟩ = some (.int .i64 a0_0) ∧ w'.cell? ⟨gb170, 1, none⟩ = some (.int .i64 a0_1) ∧ w'.cell? ⟨gb170, 2, none⟩ = some (.int .i64 a0_2)) (ds := []) #[false, false, false, false, false, false, false, false, false, false, false, false, false, false] (by kernel_rfl) rfl rfl ⟨(za8 BK170.out 0).trans rfl, (za8 BK170.out 1).trans rfl, (za8 BK170.out 2).trans rfl⟩ (fun hHeld => ?_); refine with_tabW spec_poOp.tab4 spec_poOp.bits4 (fun HT_ HW_ => ?_)
     generalize wc.drew = w15 at BK170 HB hHeld ⊢
     refine pure_ (i := 0) (N := some 27) (v := ?_) (a' := ?_) #[true, false, false, false, false, false, false, false, false, false, false, false, false, false] rfl rfl (zan HT_.out (by kernel_rfl)) (fun _ _ _ h => h) (Or.inl ⟨by rfl, ?_⟩) ?_ ?_
     rotate_left
     ·intro w'
      go_simp
      with_reducible rfl
     rotate_left
     ·simp only [Act.put, List.setIfInBounds_toArray, List.set_cons_zero, List.set_cons_succ, i64_w, i32_w]
      rfl
     refine pure_ (i := 4) (N := some 31) (v := ?_) (a' := ?_) #[true, false, false, false, true, false, false, false, false, false, false, false, false, false] rfl rfl (zan HT_.out (by kernel_rfl)) (fun _ _ _ h => h) (Or.inl ⟨by rfl, ?_⟩) ?_ ?_
     rotate_left
     ·intro w'
      go_simp
      with_reducible rfl
     rotate_left
     ·simp only [Act.put, List.setIfInBounds_toArray, List.set_cons_zero, List.set_cons_succ, i64_w, i32_w]
      rfl
     refine take_ (i := 1) (N := some 28) (v := ?_) (a' := ?_) #[true, true, false, false, true, false, false, false, false, false, false, false, false, false] rfl rfl (zax HT_.out HW_.out (by kernel_rfl)) (fun _ _ _ h => h) (Or.inl ⟨by rfl, ?_⟩) hHeld ?_ ?_
     rotate_left
     ·rintro w' ⟨s0, s1, s2⟩
      go_simp
      with_reducible rfl
     rotate_left
     ·simp only [Act.put, List.setIfInBounds_toArray, List.set_cons_zero, List.set_cons_succ, i64_w, i32_w]
      rfl
     refine take_ (i := 5) (N := some 32) (v := ?_) (a' := ?_) #[true, true, false, false, true, true, false, false, false, false, false, false, false, false] rfl rfl (zax HT_.out HW_.out (by kernel_rfl)) (fun _ _ _ h => h) (Or.inl ⟨by rfl, ?_⟩) hHeld ?_ ?_
     rotate_left
     ·rintro w' ⟨s0, s1, s2⟩
      go_simp
      with_reducible rfl
     rotate_left
     ·simp only [Act.put, List.setIfInBounds_toArray, List.set_cons_zero, List.set_cons_succ, i64_w, i32_w]
      rfl
     refine one_ (i := 2) (N := some 29) #[true, true, true, false, true, true, false, false, false, false, false, false, false, false] rfl rfl (one_of HT_.out (by kernel_rfl)) (by decide) (fun K hK => ?_)
     refine Kd.R_lit_step (Kd.int .i64) _ 3 ?hg (N := 29) ?hd (xs := ([a0_1] : List Int)) (inner := [.int .i64 a0_1]) (ok := fun _ => True) (okp := fun _ => True) ?hr ?hp (fun _ hk => hk) trivial (Below.refl _ _) (Nat.le_refl _) (by simp) ?_; (case hd => rfl); (case hg => rfl); (case hr => first | (go_simp; done) | (go_simp; rfl)); (case hp => exact (Reps.one (show Kd.M (Kd.int .i64) _ _ _ a0_1 [.int .i64 a0_1] from rfl) (Reps.none _ _)))
     intro v174 w16 ho17 hb hg_ hnew_
     clear hg_ hnew_
     (first | rw [← Ny173.out] at ho17 | (simp only [Int.reduceToNat] at ho17; rw [← Ny173.out] at ho17))
     have n0_ := Aside0.mk (Kd.R_lower ho17 (zaa (by repeat (first | (with_reducible first | exact HB.out | apply za2 | apply za0 | apply za1 | refine za3 ?_ GE170.out) | exact HB.out))))
     have n1_ := Aside0.mk (zad (g := gb170) (o := .cells #[.int .i64 a0_0, .int .i64 a0_1, .int .i64 a0_2] 69 (0, 0)) (by (with_reducible repeat (first | refine za5 ?_ _ | refine za6 ?_ | refine za4 ?_ _)); exact BK170.out) hb)
     have n2_ := Aside0.mk (zac (by repeat (first | (with_reducible first | exact HB.out | apply za2 | apply za0 | apply za1 | refine za3 ?_ GE170.out) | exact HB.out)) hb)
     clear BK170
     clear HB
     have HO175 := n0_
     have BK170 := n1_
     have HB := n2_
     clear n0_ n1_ n2_
     clear hb ho17
     obtain ⟨Ao18, co18, eo18⟩ := Kd.zas HO175.out
     (first | subst eo18 | (injection eo18 with f1_ f2_ f3_; have f4_ := f1_.symm; have f5_ := f3_.symm; clear f1_ f2_ f3_; subst f4_; subst f5_))
     refine hK.out _ _ ⟨(za8 BK170.out 0).trans rfl, (za8 BK170.out 1).trans rfl, (za8 BK170.out 2).trans rfl⟩ (fun hHeld => ?_)
     clear hK K
     refine norm_ (a' := ?_) ?_ ?_
     rotate_left
     ·show Act.put _ (some 29) _ = _
      simp only [Act.put, List.setIfInBounds_toArray, List.set_cons_zero, List.set_cons_succ, i64_w, i32_w]
      rfl
     refine one_ (i := 3) (N := some 30) #[true, true, true, true, true, true, false, false, false, false, false, false, false, false] rfl rfl (one_of HT_.out (by kernel_rfl)) (by decide) (fun K hK => ?_)
     refine goes_ Try.func109 (by kernel_rfl) rfl #[.slice Ao18 y173.length co18] (by rfl) rfl rfl (by (try simp only [List.map_toArray, List.map_cons, List.map_nil]); first | done | rfl | (simp only [List.length_drop, List.length_take]; rfl)) ?_
     with_reducible refine (spec_poTrim.calls kj3 _ _ y173 t176 _ ?side1 ?side2 A11.out).mono ?_
     (case side1 => repeat (first | exact (Kd.R_reads' HO175.out).2.2 | (with_reducible refine Kd.zav ?_ _) | (with_reducible refine Kd.zau ?_ _) | (with_reducible refine Kd.zaz ?_)))
     (case side2 => exact (Kd.R_reads' HO175.out).2.1)
     rintro e w19 ⟨v177, rfl, ho0, hb⟩
     refine ⟨_, rfl, ?_⟩
     have n0_ := Aside0.mk (Kd.R_elder' (by (with_reducible repeat (first | apply Kd.zak | apply Kd.zaj | apply Kd.zam)); exact HO175.out) (Kd.R_base ho0) hb)
     have n1_ := Aside0.mk (Kd.R_lower (Kd.R_new' ho0 (Kd.R_lt (by (with_reducible repeat (first | apply Kd.zak | apply Kd.zaj | apply Kd.zam)); exact HO175.out))) (zaa (by repeat (first | (with_reducible first | exact HB.out | apply za2 | apply za0 | apply za1 | refine za3 ?_ GE170.out) | exact HB.out))))
     have n2_ := Aside0.mk (zad (g := gb170) (o := .cells #[.int .i64 a0_0, .int .i64 a0_1, .int .i64 a0_2] 69 (0, 0)) (by (with_reducible repeat (first | refine za5 ?_ _ | refine za6 ?_ | refine za4 ?_ _)); exact BK170.out) hb)
     have n3_ := Aside0.mk (zac (by repeat (first | (with_reducible first | exact HB.out | apply za2 | apply za0 | apply za1 | refine za3 ?_ GE170.out) | exact HB.out)) hb)
     clear HO175
     clear BK170
     clear HB
     have HO175 := n0_
     have HO178 := n1_
     have BK170 := n2_
     have HB := n3_
     clear n0_ n1_ n2_ n3_
     (try clear hb)
     (try clear hb2)
     (try clear hk)
     (try clear hi)
     (try clear ho0)
     refine hK.out _ _ ⟨(za8 BK170.out 0).trans rfl, (za8 BK170.out 1).trans rfl, (za8 BK170.out 2).trans rfl⟩ (fun hHeld => ?_)
     clear hK K
     refine norm_ (a' := ?_) ?_ ?_
     rotate_left
     ·show Act.put _ (some 30) _ = _
      simp only [Act.put, List.setIfInBounds_toArray, List.set_cons_zero, List.set_cons_succ, i64_w, i32_w]
      rfl
     refine one_ (i := 6) (N := some 33) #[true, true, true, true, true, true, true, false, false, false, false, false, false, false] rfl rfl (one_of HT_.out (by kernel_rfl)) (by decide) (fun K hK => ?_)
     refine goes_ Try.func59 (by kernel_rfl) rfl #[.int .i64 a0_1, .int .i64 (-1000000), .int .i64 1000000] (by rfl) rfl rfl (by (try simp only [List.map_toArray, List.map_cons, List.map_nil]); first | done | rfl | (simp only [List.length_drop, List.length_take]; rfl)) ?_
     with_reducible refine (spec_l1In.calls a0_1 (-1000000) 1000000 true _ A12.out).mono ?_
     rintro e w' ⟨rfl, ⟨nd, rfl⟩⟩
     refine ⟨_, rfl, ?_⟩
     refine hK.out _ _ ⟨(za8 BK170.out 0).trans rfl, (za8 BK170.out 1).trans rfl, (za8 BK170.out 2).trans rfl⟩ (fun hHeld => ?_)
     clear hK K
     refine norm_ (a' := ?_) ?_ ?_
     rotate_left
     ·show Act.put _ (some 33) _ = _
      simp only [Act.put, List.setIfInBounds_toArray, List.set_cons_zero, List.set_cons_succ, i64_w, i32_w]
      rfl
     refine pure_ (i := 7) (N := some 34) (v := ?_) (a' := ?_) #[true, true, true, true, true, true, true, true, false, false, false, false, false, false] rfl rfl (zan HT_.out (by kernel_rfl)) (fun _ _ _ h => h) (Or.inl ⟨by rfl, ?_⟩) ?_ ?_
     rotate_left
     ·intro w'
      go_simp
      with_reducible rfl
     rotate_left
     ·simp only [Act.put, List.setIfInBounds_toArray, List.set_cons_zero, List.set_cons_succ, i64_w, i32_w]
      rfl
     refine pure_ (i := 8) (N := some 35) (v := ?_) (a' := ?_) #[true, true, true, true, true, true, true, true, true, false, false, false, false, false] rfl rfl (zan HT_.out (by kernel_rfl)) (fun _ _ _ h => h) (Or.inl ⟨by rfl, ?_⟩) ?_ ?_
     rotate_left
     ·intro w'
      go_simp
      with_reducible rfl
     rotate_left
     ·simp only [Act.put, List.setIfInBounds_toArray, List.set_cons_zero, List.set_cons_succ, i64_w, i32_w]
      rfl
     refine pure_ (i := 12) (N := some 4) (v := ?_) (a' := ?_) #[true, true, true, true, true, true, true, true, true, false, false, false, true, false] rfl rfl (zan HT_.out (by kernel_rfl)) (fun _ _ _ h => h) (Or.inl ⟨by rfl, ?_⟩) ?_ ?_
     rotate_left
     ·intro w'
      go_simp
      with_reducible rfl
     rotate_left
     ·simp only [Act.put, List.setIfInBounds_toArray, List.set_cons_zero, List.set_cons_succ, i64_w, i32_w]
      rfl
     refine take_ (i := 9) (N := some 36) (v := ?_) (a' := ?_) #[true, true, true, true, true, true, true, true, true, true, false, false, true, false] rfl rfl (zax HT_.out HW_.out (by kernel_rfl)) (fun _ _ _ h => h) (Or.inl ⟨by rfl, ?_⟩) hHeld ?_ ?_
     rotate_left
     ·rintro w' ⟨s0, s1, s2⟩
      go_simp
      with_reducible rfl
     rotate_left
     ·simp only [Act.put, List.setIfInBounds_toArray, List.set_cons_zero, List.set_cons_succ, i64_w, i32_w]
      rfl
     refine pure_ (i := 10) (N := some 37) (v := ?_) (a' := ?_) #[true, true, true, true, true, true, true, true, true, true, true, false, true, false] rfl rfl (zan HT_.out (by kernel_rfl)) (fun _ _ _ h => h) (Or.inl ⟨by rfl, ?_⟩) ?_ ?_
     rotate_left
     ·intro w'
      go_simp
      with_reducible rfl
     rotate_left
     ·simp only [Act.put, List.setIfInBounds_toArray, List.set_cons_zero, List.set_cons_succ, i64_w, i32_w]
      rfl
     refine pure_ (i := 11) (N := some 38) (v := ?_) (a' := ?_) #[true, true, true, true, true, true, true, true, true, true, true, true, true, false] rfl rfl (zan HT_.out (by kernel_rfl)) (fun _ _ _ h => h) (Or.inl ⟨by rfl, ?_⟩) ?_ ?_
     rotate_left
     ·intro w'
      go_simp
      with_reducible rfl
     rotate_left
     ·simp only [Act.put, List.setIfInBounds_toArray, List.set_cons_zero, List.set_cons_succ, i64_w, i32_w]
      rfl
     refine pure_ (i := 13) (N := some 5) (v := ?_) (a' := ?_) #[true, true, true, true, true, true, true, true, true, true, true, true, true, true] rfl rfl (zan HT_.out (by kernel_rfl)) (fun _ _ _ h => h) (Or.inl ⟨by rfl, ?_⟩) ?_ ?_
     rotate_left
     ·intro w'
      go_simp
      with_reducible rfl
     rotate_left
     ·simp only [Act.put, List.setIfInBounds_toArray, List.set_cons_zero, List.set_cons_succ, i64_w, i32_w]
      rfl
     refine done_ (done_of HT_.out (by kernel_rfl)) ?_
     try go_wp2
     go_ret2
     exact ⟨_, by first | rfl | (simp [zaf, zae] <;> rfl) | (simp [*, zaf, zae] <;> rfl), by (with_reducible repeat (first | apply Kd.zak | apply Kd.zaj | apply Kd.zam)); exact Kd.R_mono HO178.out (fun _ hk => trivial), by repeat (first | (with_reducible first | exact HB.out | apply za2 | apply za0 | apply za1 | refine za3 ?_ GE170.out) | exact HB.out)⟩
    ·replace c13 := Bool.eq_false_iff.mpr c13
     subst c13
     have H1 : (some (t176, false)) = some (r1, r2) := by rw [if_neg (show ¬ (false = true) by decide)] at H; exact H
     clear H
     have H := H1
     clear H1
     simp only [Option.some.injEq, Prod.mk.injEq] at H
     obtain ⟨rfl, rfl⟩ := H
     have hcz20_0 : wc.cell? ⟨gb170, 0, none⟩ = some (.int .i64 a0_0) := (za8 BK170.out 0).trans rfl
     have hcz20_1 : wc.cell? ⟨gb170, 1, none⟩ = some (.int .i64 a0_1) := (za8 BK170.out 1).trans rfl
     have hcz20_2 : wc.cell? ⟨gb170, 2, none⟩ = some (.int .i64 a0_2) := (za8 BK170.out 2).trans rfl
     have hfz20_0 := za7 BK170.out 0
     have hfz20_1 := za7 BK170.out 1
     have hfz20_2 := za7 BK170.out 2
     try go_wp2
     have n0_ := Aside0.mk (za6 BK170.out)
     have n1_ := Aside0.mk (za1 HB.out)
     clear BK170
     clear HB
     have BK170 := n0_
     have HB := n1_
     clear n0_ n1_
     refine start_ (n := 14) (S := fun w' => w'.cell? ⟨gb170, 0, none⟩ = some (.int .i64 a0_0) ∧ w'.cell? ⟨gb170, 1, none⟩ = some (.int .i64 a0_1) ∧ w'.cell? ⟨gb170, 2, none⟩ = some (.int .i64 a0_2)) (ds := []) #[false, false, false, false, false, false, false, false, false, false, false, false, false, false] (by kernel_rfl) rfl rfl ⟨(za8 BK170.out 0).trans rfl, (za8 BK170.out 1).trans rfl, (za8 BK170.out 2).trans rfl⟩ (fun hHeld => ?_); refine with_tabW spec_poOp.tab4 spec_poOp.bits4 (fun HT_ HW_ => ?_)
     generalize wc.drew = w21 at BK170 HB hHeld ⊢
     refine pure_ (i := 0) (N := some 27) (v := ?_) (a' := ?_) #[true, false, false, false, false, false, false, false, false, false, false, false, false, false] rfl rfl (zan HT_.out (by kernel_rfl)) (fun _ _ _ h => h) (Or.inl ⟨by rfl, ?_⟩) ?_ ?_
     rotate_left
     ·intro w'
      go_simp
      with_reducible rfl
     rotate_left
     ·simp only [Act.put, List.setIfInBounds_toArray, List.set_cons_zero, List.set_cons_succ, i64_w, i32_w]
      rfl
     refine pure_ (i := 4) (N := some 31) (v := ?_) (a' := ?_) #[true, false, false, false, true, false, false, false, false, false, false, false, false, false] rfl rfl (zan HT_.out (by kernel_rfl)) (fun _ _ _ h => h) (Or.inl ⟨by rfl, ?_⟩) ?_ ?_
     rotate_left
     ·intro w'
      go_simp
      with_reducible rfl
     rotate_left
     ·simp only [Act.put, List.setIfInBounds_toArray, List.set_cons_zero, List.set_cons_succ, i64_w, i32_w]
      rfl
     refine take_ (i := 1) (N := some 28) (v := ?_) (a' := ?_) #[true, true, false, false, true, false, false, false, false, false, false, false, false, false] rfl rfl (zax HT_.out HW_.out (by kernel_rfl)) (fun _ _ _ h => h) (Or.inl ⟨by rfl, ?_⟩) hHeld ?_ ?_
     rotate_left
     ·rintro w' ⟨s0, s1, s2⟩
      go_simp
      with_reducible rfl
     rotate_left
     ·simp only [Act.put, List.setIfInBounds_toArray, List.set_cons_zero, List.set_cons_succ, i64_w, i32_w]
      rfl
     refine take_ (i := 5) (N := some 32) (v := ?_) (a' := ?_) #[true, true, false, false, true, true, false, false, false, false, false, false, false, false] rfl rfl (zax HT_.out HW_.out (by kernel_rfl)) (fun _ _ _ h => h) (Or.inl ⟨by rfl, ?_⟩) hHeld ?_ ?_
     rotate_left
     ·rintro w' ⟨s0, s1, s2⟩
      go_simp
      with_reducible rfl
     rotate_left
     ·simp only [Act.put, List.setIfInBounds_toArray, List.set_cons_zero, List.set_cons_succ, i64_w, i32_w]
      rfl
     refine one_ (i := 2) (N := some 29) #[true, true, true, false, true, true, false, false, false, false, false, false, false, false] rfl rfl (one_of HT_.out (by kernel_rfl)) (by decide) (fun K hK => ?_)
     refine Kd.R_lit_step (Kd.int .i64) _ 3 ?hg (N := 29) ?hd (xs := ([a0_1] : List Int)) (inner := [.int .i64 a0_1]) (ok := fun _ => True) (okp := fun _ => True) ?hr ?hp (fun _ hk => hk) trivial (Below.refl _ _) (Nat.le_refl _) (by simp) ?_; (case hd => rfl); (case hg => rfl); (case hr => first | (go_simp; done) | (go_simp; rfl)); (case hp => exact (Reps.one (show Kd.M (Kd.int .i64) _ _ _ a0_1 [.int .i64 a0_1] from rfl) (Reps.none _ _)))
     intro v174 w22 ho23 hb hg_ hnew_
     clear hg_ hnew_
     (first | rw [← Ny173.out] at ho23 | (simp only [Int.reduceToNat] at ho23; rw [← Ny173.out] at ho23))
     have n0_ := Aside0.mk (Kd.R_lower ho23 (zaa (by repeat (first | (with_reducible first | exact HB.out | apply za2 | apply za0 | apply za1 | refine za3 ?_ GE170.out) | exact HB.out))))
     have n1_ := Aside0.mk (zad (g := gb170) (o := .cells #[.int .i64 a0_0, .int .i64 a0_1, .int .i64 a0_2] 69 (0, 0)) (by (with_reducible repeat (first | refine za5 ?_ _ | refine za6 ?_ | refine za4 ?_ _)); exact BK170.out) hb)
     have n2_ := Aside0.mk (zac (by repeat (first | (with_reducible first | exact HB.out | apply za2 | apply za0 | apply za1 | refine za3 ?_ GE170.out) | exact HB.out)) hb)
     clear BK170
     clear HB
     have HO175 := n0_
     have BK170 := n1_
     have HB := n2_
     clear n0_ n1_ n2_
     clear hb ho23
     obtain ⟨Ao24, co24, eo24⟩ := Kd.zas HO175.out
     (first | subst eo24 | (injection eo24 with f1_ f2_ f3_; have f4_ := f1_.symm; have f5_ := f3_.symm; clear f1_ f2_ f3_; subst f4_; subst f5_))
     refine hK.out _ _ ⟨(za8 BK170.out 0).trans rfl, (za8 BK170.out 1).trans rfl, (za8 BK170.out 2).trans rfl⟩ (fun hHeld => ?_)
     clear hK K
     refine norm_ (a' := ?_) ?_ ?_
     rotate_left
     ·show Act.put _ (some 29) _ = _
      simp only [Act.put, List.setIfInBounds_toArray, List.set_cons_zero, List.set_cons_succ, i64_w, i32_w]
      rfl
     refine one_ (i := 3) (N := some 30) #[true, true, true, true, true, true, false, false, false, false, false, false, false, false] rfl rfl (one_of HT_.out (by kernel_rfl)) (by decide) (fun K hK => ?_)
     refine goes_ Try.func109 (by kernel_rfl) rfl #[.slice Ao24 y173.length co24] (by rfl) rfl rfl (by (try simp only [List.map_toArray, List.map_cons, List.map_nil]); first | done | rfl | (simp only [List.length_drop, List.length_take]; rfl)) ?_
     with_reducible refine (spec_poTrim.calls kj3 _ _ y173 t176 _ ?side1 ?side2 A11.out).mono ?_
     (case side1 => repeat (first | exact (Kd.R_reads' HO175.out).2.2 | (with_reducible refine Kd.zav ?_ _) | (with_reducible refine Kd.zau ?_ _) | (with_reducible refine Kd.zaz ?_)))
     (case side2 => exact (Kd.R_reads' HO175.out).2.1)
     rintro e w25 ⟨v177, rfl, ho0, hb⟩
     refine ⟨_, rfl, ?_⟩
     have n0_ := Aside0.mk (Kd.R_elder' (by (with_reducible repeat (first | apply Kd.zak | apply Kd.zaj | apply Kd.zam)); exact HO175.out) (Kd.R_base ho0) hb)
     have n1_ := Aside0.mk (Kd.R_lower (Kd.R_new' ho0 (Kd.R_lt (by (with_reducible repeat (first | apply Kd.zak | apply Kd.zaj | apply Kd.zam)); exact HO175.out))) (zaa (by repeat (first | (with_reducible first | exact HB.out | apply za2 | apply za0 | apply za1 | refine za3 ?_ GE170.out) | exact HB.out))))
     have n2_ := Aside0.mk (zad (g := gb170) (o := .cells #[.int .i64 a0_0, .int .i64 a0_1, .int .i64 a0_2] 69 (0, 0)) (by (with_reducible repeat (first | refine za5 ?_ _ | refine za6 ?_ | refine za4 ?_ _)); exact BK170.out) hb)
     have n3_ := Aside0.mk (zac (by repeat (first | (with_reducible first | exact HB.out | apply za2 | apply za0 | apply za1 | refine za3 ?_ GE170.out) | exact HB.out)) hb)
     clear HO175
     clear BK170
     clear HB
     have HO175 := n0_
     have HO178 := n1_
     have BK170 := n2_
     have HB := n3_
     clear n0_ n1_ n2_ n3_
     (try clear hb)
     (try clear hb2)
     (try clear hk)
     (try clear hi)
     (try clear ho0)
     refine hK.out _ _ ⟨(za8 BK170.out 0).trans rfl, (za8 BK170.out 1).trans rfl, (za8 BK170.out 2).trans rfl⟩ (fun hHeld => ?_)
     clear hK K
     refine norm_ (a' := ?_) ?_ ?_
     rotate_left
     ·show Act.put _ (some 30) _ = _
      simp only [Act.put, List.setIfInBounds_toArray, List.set_cons_zero, List.set_cons_succ, i64_w, i32_w]
      rfl
     refine one_ (i := 6) (N := some 33) #[true, true, true, true, true, true, true, false, false, false, false, false, false, false] rfl rfl (one_of HT_.out (by kernel_rfl)) (by decide) (fun K hK => ?_)
     refine goes_ Try.func59 (by kernel_rfl) rfl #[.int .i64 a0_1, .int .i64 (-1000000), .int .i64 1000000] (by rfl) rfl rfl (by (try simp only [List.map_toArray, List.map_cons, List.map_nil]); first | done | rfl | (simp only [List.length_drop, List.length_take]; rfl)) ?_
     with_reducible refine (spec_l1In.calls a0_1 (-1000000) 1000000 false _ A12.out).mono ?_
     rintro e w' ⟨rfl, ⟨nd, rfl⟩⟩
     refine ⟨_, rfl, ?_⟩
     refine hK.out _ _ ⟨(za8 BK170.out 0).trans rfl, (za8 BK170.out 1).trans rfl, (za8 BK170.out 2).trans rfl⟩ (fun hHeld => ?_)
     clear hK K
     refine norm_ (a' := ?_) ?_ ?_
     rotate_left
     ·show Act.put _ (some 33) _ = _
      simp only [Act.put, List.setIfInBounds_toArray, List.set_cons_zero, List.set_cons_succ, i64_w, i32_w]
      rfl
     refine pure_ (i := 7) (N := some 34) (v := ?_) (a' := ?_) #[true, true, true, true, true, true, true, true, false, false, false, false, false, false] rfl rfl (zan HT_.out (by kernel_rfl)) (fun _ _ _ h => h) (Or.inl ⟨by rfl, ?_⟩) ?_ ?_
     rotate_left
     ·intro w'
      go_simp
      with_reducible rfl
     rotate_left
     ·simp only [Act.put, List.setIfInBounds_toArray, List.set_cons_zero, List.set_cons_succ, i64_w, i32_w]
      rfl
     refine pure_ (i := 8) (N := some 35) (v := undef) (a' := ?_) #[true, true, true, true, true, true, true, true, true, false, false, false, false, false] rfl rfl (zan HT_.out (by kernel_rfl)) (fun _ _ _ h => h) (Or.inr ⟨by rfl, rfl⟩) ?_ ?_
     rotate_left
     ·simp only [Act.put, List.setIfInBounds_toArray, List.set_cons_zero, List.set_cons_succ, i64_w, i32_w]
      rfl
     refine pure_ (i := 9) (N := some 36) (v := undef) (a' := ?_) #[true, true, true, true, true, true, true, true, true, true, false, false, false, false] rfl rfl (zan HT_.out (by kernel_rfl)) (fun _ _ _ h => h) (Or.inr ⟨by rfl, rfl⟩) ?_ ?_
     rotate_left
     ·simp only [Act.put, List.setIfInBounds_toArray, List.set_cons_zero, List.set_cons_succ, i64_w, i32_w]
      rfl
     refine pure_ (i := 10) (N := some 37) (v := undef) (a' := ?_) #[true, true, true, true, true, true, true, true, true, true, true, false, false, false] rfl rfl (zan HT_.out (by kernel_rfl)) (fun _ _ _ h => h) (Or.inr ⟨by rfl, rfl⟩) ?_ ?_
     rotate_left
     ·simp only [Act.put, List.setIfInBounds_toArray, List.set_cons_zero, List.set_cons_succ, i64_w, i32_w]
      rfl
     refine pure_ (i := 11) (N := some 38) (v := ?_) (a' := ?_) #[true, true, true, true, true, true, true, true, true, true, true, true, false, false] rfl rfl (zan HT_.out (by kernel_rfl)) (fun _ _ _ h => h) (Or.inl ⟨by rfl, ?_⟩) ?_ ?_
     rotate_left
     ·intro w'
      go_simp
      with_reducible rfl
     rotate_left
     ·simp only [Act.put, List.setIfInBounds_toArray, List.set_cons_zero, List.set_cons_succ, i64_w, i32_w]
      rfl
     refine pure_ (i := 12) (N := some 4) (v := ?_) (a' := ?_) #[true, true, true, true, true, true, true, true, true, true, true, true, true, false] rfl rfl (zan HT_.out (by kernel_rfl)) (fun _ _ _ h => h) (Or.inl ⟨by rfl, ?_⟩) ?_ ?_
     rotate_left
     ·intro w'
      go_simp
      with_reducible rfl
     rotate_left
     ·simp only [Act.put, List.setIfInBounds_toArray, List.set_cons_zero, List.set_cons_succ, i64_w, i32_w]
      rfl
     refine pure_ (i := 13) (N := some 5) (v := ?_) (a' := ?_) #[true, true, true, true, true, true, true, true, true, true, true, true, true, true] rfl rfl (zan HT_.out (by kernel_rfl)) (fun _ _ _ h => h) (Or.inl ⟨by rfl, ?_⟩) ?_ ?_
     rotate_left
     ·intro w'
      go_simp
      with_reducible rfl
     rotate_left
     ·simp only [Act.put, List.setIfInBounds_toArray, List.set_cons_zero, List.set_cons_succ, i64_w, i32_w]
      rfl
     refine done_ (done_of HT_.out (by kernel_rfl)) ?_
     try go_wp2
     go_ret2
     exact ⟨_, by first | rfl | (simp [zaf, zae] <;> rfl) | (simp [*, zaf, zae] <;> rfl), by (with_reducible repeat (first | apply Kd.zak | apply Kd.zaj | apply Kd.zam)); exact Kd.R_mono HO178.out (fun _ hk => trivial), by repeat (first | (with_reducible first | exact HB.out | apply za2 | apply za0 | apply za1 | refine za3 ?_ GE170.out) | exact HB.out)⟩
   ·rw [if_neg c10] at H
    have c10b0 : (a0_0 == 0) = false := beq_eq_false_iff_ne.mpr c10
    have c10b1 : (a0_0 != 0) = true := bne_iff_ne.mpr c10
    have HC26 := Aside0.mk H
    clear H
    have hcz27_0 : wc.cell? ⟨gb170, 0, none⟩ = some (.int .i64 a0_0) := (za8 BK170.out 0).trans rfl
    have hcz27_1 : wc.cell? ⟨gb170, 1, none⟩ = some (.int .i64 a0_1) := (za8 BK170.out 1).trans rfl
    have hcz27_2 : wc.cell? ⟨gb170, 2, none⟩ = some (.int .i64 a0_2) := (za8 BK170.out 2).trans rfl
    have hfz27_0 := za7 BK170.out 0
    have hfz27_1 := za7 BK170.out 1
    have hfz27_2 := za7 BK170.out 2
    go_upto_region 5 with (fail)
    go_cut [39] (fun v39 wc => ∃ (kq : Nat) (x39_25 : Bool), v39 = .bool x39_25 ∧ Aside0 (spec_poOp.j1 kq l1 t171 x7_3 x39_25 a0_0 a0_1 a0_2 = some (r1, r2)) ∧ Aside0 (kq ≤ kj3) ∧ Aside0 (wc.heap[gb170]? = some (.cells #[.int .i64 a0_0, .int .i64 a0_1, .int .i64 a0_2] 69 (0, 0))) ∧ Aside0 (Below w.heap.size w wc))
    case first =>
     have H := HC26.out
     clear HC26
     by_cases c28 : a0_0 = 1
     ·rw [if_pos c28] at H
      have c28b0 : (a0_0 == 1) = true := beq_iff_eq.mpr c28
      have c28b1 : (a0_0 != 1) = false := bne_eq_false_iff_eq.mpr c28
      clear c28
      (first | rw [c28b0] | (simp only [i64_w, i32_w]; rw [c28b0]) | skip)
      have H' := Aside0.mk H
      clear H
      have hcz29_0 : wc.cell? ⟨gb170, 0, none⟩ = some (.int .i64 a0_0) := (za8 BK170.out 0).trans rfl
      have hcz29_1 : wc.cell? ⟨gb170, 1, none⟩ = some (.int .i64 a0_1) := (za8 BK170.out 1).trans rfl
      have hcz29_2 : wc.cell? ⟨gb170, 2, none⟩ = some (.int .i64 a0_2) := (za8 BK170.out 2).trans rfl
      have hfz29_0 := za7 BK170.out 0
      have hfz29_1 := za7 BK170.out 1
      have hfz29_2 := za7 BK170.out 2
      go_wp2
      go_meet
      case rel => exact ⟨_, (x7_3), (by first | rfl | (simp; done) | (simp [*]; done)), H', ⟨by have := HJ3.out; first | omega | exact Nat.le_refl _⟩, ⟨by (with_reducible repeat (first | refine za5 ?_ _ | refine za6 ?_ | refine za4 ?_ _)); exact BK170.out⟩, ⟨by repeat (first | (with_reducible first | exact HB.out | apply za2 | apply za0 | apply za1 | refine za3 ?_ GE170.out) | exact HB.out)⟩⟩
     ·rw [if_neg c28] at H
      have c28b0 : (a0_0 == 1) = false := beq_eq_false_iff_ne.mpr c28
      have c28b1 : (a0_0 != 1) = true := bne_iff_ne.mpr c28
      (first | rw [c28b0] | (simp only [i64_w, i32_w]; rw [c28b0]) | skip)
      have H' := Aside0.mk H
      clear H
      have hcz30_0 : wc.cell? ⟨gb170, 0, none⟩ = some (.int .i64 a0_0) := (za8 BK170.out 0).trans rfl
      have hcz30_1 : wc.cell? ⟨gb170, 1, none⟩ = some (.int .i64 a0_1) := (za8 BK170.out 1).trans rfl
      have hcz30_2 : wc.cell? ⟨gb170, 2, none⟩ = some (.int .i64 a0_2) := (za8 BK170.out 2).trans rfl
      have hfz30_0 := za7 BK170.out 0
      have hfz30_1 := za7 BK170.out 1
      have hfz30_2 := za7 BK170.out 2
      go_wp2
      go_meet
      case rel => exact ⟨_, (false), (by first | rfl | (simp; done) | (simp [*]; done)), H', ⟨by have := HJ3.out; first | omega | exact Nat.le_refl _⟩, ⟨by (with_reducible repeat (first | refine za5 ?_ _ | refine za6 ?_ | refine za4 ?_ _)); exact BK170.out⟩, ⟨by repeat (first | (with_reducible first | exact HB.out | apply za2 | apply za0 | apply za1 | refine za3 ?_ GE170.out) | exact HB.out)⟩⟩
    case rest =>
     clear HC26
     try clear c1
     try clear c2
     try clear p2
     try clear c5
     try clear p6
     try clear c7
     try clear c10
     try clear c10b0
     try clear c10b1
     try clear c13
     try clear c28
     try clear c28b0
     try clear c28b1
     try clear hcz14_0
     try clear hcz14_1
     try clear hcz14_2
     try clear hcz20_0
     try clear hcz20_1
     try clear hcz20_2
     try clear hcz27_0
     try clear hcz27_1
     try clear hcz27_2
     try clear hcz29_0
     try clear hcz29_1
     try clear hcz29_2
     try clear hcz30_0
     try clear hcz30_1
     try clear hcz30_2
     try clear hcz6_0
     try clear hcz6_1
     try clear hcz6_2
     try clear hcz9_0
     try clear hcz9_1
     try clear hcz9_2
     try clear hfz14_0
     try clear hfz14_1
     try clear hfz14_2
     try clear hfz20_0
     try clear hfz20_1
     try clear hfz20_2
     try clear hfz27_0
     try clear hfz27_1
     try clear hfz27_2
     try clear hfz29_0
     try clear hfz29_1
     try clear hfz29_2
     try clear hfz30_0
     try clear hfz30_1
     try clear hfz30_2
     try clear hfz6_0
     try clear hfz6_1
     try clear hfz6_2
     try clear hfz9_0
     try clear hfz9_1
     try clear hfz9_2
     try clear p2
     try clear p6
     obtain ⟨kq, x39_25, rfl, HA, HJ25, BK170, HB⟩ := hcut
     cases kq with
     | zero => exact absurd HA.out (by simp [spec_poOp.j1])
     | succ kj25 =>
      have H := HA.out
      clear HA
      simp only [spec_poOp.j1] at H
      by_cases c31 : x39_25 = true
      ·subst c31
       have H1 : (if 0 ≤ a0_1 then (if a0_1 < (l1.length : Int) then (if 0 ≤ a0_2 then (if a0_2 < (l1.length : Int) then ((spec_poSum.f kj25 (rd_L2 l1 a0_1) (rd_L2 l1 a0_2)).bind fun t182 => (some (t182, true))) else (none)) else (none)) else (none)) else (none)) = some (r1, r2) := by rw [if_pos rfl] at H; exact H
       clear H
       have H := H1
       clear H1
       by_cases c32 : 0 ≤ a0_1
       ·rw [if_pos c32] at H
        have c32b0 : decide (0 ≤ a0_1) = true := decide_eq_true c32
        clear c32
        by_cases c33 : a0_1 < (l1.length : Int)
        ·rw [if_pos c33] at H
         have c33b0 : decide (a0_1 < (l1.length : Int)) = true := decide_eq_true c33
         clear c33
         by_cases c34 : 0 ≤ a0_2
         ·rw [if_pos c34] at H
          have c34b0 : decide (0 ≤ a0_2) = true := decide_eq_true c34
          clear c34
          by_cases c35 : a0_2 < (l1.length : Int)
          ·rw [if_pos c35] at H
           have c35b0 : decide (a0_2 < (l1.length : Int)) = true := decide_eq_true c35
           clear c35
           replace H := Option.bind_eq_some_iff.mp H
           obtain ⟨t182, A360, H⟩ := H
           replace H : (some (t182, true)) = some (r1, r2) := H
           have A36 := Aside0.mk A360
           clear A360
           simp only [Option.some.injEq, Prod.mk.injEq] at H
           obtain ⟨rfl, rfl⟩ := H
           try go_wp2
           have n0_ := Aside0.mk (za6 BK170.out)
           have n1_ := Aside0.mk (za1 HB.out)
           clear BK170
           clear HB
           have BK170 := n0_
           have HB := n1_
           clear n0_ n1_
           have p180 : 0 ≤ (a0_1 : Int) := of_decide_eq_true (by first | (with_reducible assumption) | assumption)
           have q180 : a0_1 < (l1.length : Int) := of_decide_eq_true (by first | (with_reducible assumption) | assumption)
           obtain ⟨ad180, A180_0, c180_0, e180, hx180_0, hl180_0, hi180_0⟩ := at_L2 HR1.out a0_1 p180 q180
           have hw180_0 := hx180_0
           cases e180
           replace hx180_0 := (HB.out.cell (World.block_lt_of_cell? w _ hx180_0)).trans hx180_0
           have HR180_0 := Aside0.mk hi180_0
           have HC180_0 := Aside0.mk hl180_0
           clear hi180_0 hl180_0
           replace p180 := eq_true p180
           replace q180 := eq_true q180
           have p181 : 0 ≤ (a0_2 : Int) := of_decide_eq_true (by first | (with_reducible assumption) | assumption)
           have q181 : a0_2 < (l1.length : Int) := of_decide_eq_true (by first | (with_reducible assumption) | assumption)
           obtain ⟨ad181, A181_0, c181_0, e181, hx181_0, hl181_0, hi181_0⟩ := at_L2 HR1.out a0_2 p181 q181
           have hw181_0 := hx181_0
           obtain rfl : ad180 = ad181 := (by injection e181)
           replace hx181_0 := (HB.out.cell (World.block_lt_of_cell? w _ hx181_0)).trans hx181_0
           have HR181_0 := Aside0.mk hi181_0
           have HC181_0 := Aside0.mk hl181_0
           clear hi181_0 hl181_0
           replace p181 := eq_true p181
           replace q181 := eq_true q181
           refine start_ (n := 13) (S := fun w' => w'.cell? ⟨gb170, 0, none⟩ = some (.int .i64 a0_0) ∧ w'.cell? ⟨gb170, 1, none⟩ = some (.int .i64 a0_1) ∧ w'.cell? ⟨gb170, 2, none⟩ = some (.int .i64 a0_2) ∧ w'.cell? (ad180.add (a0_1).toNat) = some (.slice A180_0 (rd_L2 l1 a0_1).length c180_0) ∧ w'.cell? (ad180.add (a0_2).toNat) = some (.slice A181_0 (rd_L2 l1 a0_2).length c181_0)) (ds := []) #[false, false, false, false, false, false, false, false, false, false, false, false, false] (by kernel_rfl) rfl rfl ⟨(za8 BK170.out 0).trans rfl, (za8 BK170.out 1).trans rfl, (za8 BK170.out 2).trans rfl, ((HB.out.cell (World.block_lt_of_cell? w _ hw180_0)).trans hw180_0), ((HB.out.cell (World.block_lt_of_cell? w _ hw181_0)).trans hw181_0)⟩ (fun hHeld => ?_); refine with_tabW spec_poOp.tab6 spec_poOp.bits6 (fun HT_ HW_ => ?_)
           generalize wc.drew = w37 at BK170 HB HR180_0 HR181_0 hx180_0 hx181_0 hHeld ⊢
           refine pure_ (i := 0) (N := some 46) (v := ?_) (a' := ?_) #[true, false, false, false, false, false, false, false, false, false, false, false, false] rfl rfl (zan HT_.out (by kernel_rfl)) (fun _ _ _ h => h) (Or.inl ⟨by rfl, ?_⟩) ?_ ?_
           rotate_left
           ·intro w'
            go_simp
            with_reducible rfl
           rotate_left
           ·simp only [Act.put, List.setIfInBounds_toArray, List.set_cons_zero, List.set_cons_succ, i64_w, i32_w]
            rfl
           refine pure_ (i := 1) (N := some 47) (v := ?_) (a' := ?_) #[true, true, false, false, false, false, false, false, false, false, false, false, false] rfl rfl (zan HT_.out (by kernel_rfl)) (fun _ _ _ h => h) (Or.inl ⟨by rfl, ?_⟩) ?_ ?_
           rotate_left
           ·intro w'
            go_simp
            with_reducible rfl
           rotate_left
           ·simp only [Act.put, List.setIfInBounds_toArray, List.set_cons_zero, List.set_cons_succ, i64_w, i32_w]
            rfl
           refine pure_ (i := 5) (N := some 51) (v := ?_) (a' := ?_) #[true, true, false, false, false, true, false, false, false, false, false, false, false] rfl rfl (zan HT_.out (by kernel_rfl)) (fun _ _ _ h => h) (Or.inl ⟨by rfl, ?_⟩) ?_ ?_
           rotate_left
           ·intro w'
            go_simp
            with_reducible rfl
           rotate_left
           ·simp only [Act.put, List.setIfInBounds_toArray, List.set_cons_zero, List.set_cons_succ, i64_w, i32_w]
            rfl
           refine pure_ (i := 6) (N := some 52) (v := ?_) (a' := ?_) #[true, true, false, false, false, true, true, false, false, false, false, false, false] rfl rfl (zan HT_.out (by kernel_rfl)) (fun _ _ _ h => h) (Or.inl ⟨by rfl, ?_⟩) ?_ ?_
           rotate_left
           ·intro w'
            go_simp
            with_reducible rfl
           rotate_left
           ·simp only [Act.put, List.setIfInBounds_toArray, List.set_cons_zero, List.set_cons_succ, i64_w, i32_w]
            rfl
           refine take_ (i := 2) (N := some 48) (v := ?_) (a' := ?_) #[true, true, true, false, false, true, true, false, false, false, false, false, false] rfl rfl (zax HT_.out HW_.out (by kernel_rfl)) (fun _ _ _ h => h) (Or.inl ⟨by rfl, ?_⟩) hHeld ?_ ?_
           rotate_left
           ·rintro w' ⟨s0, s1, s2, s3, s4⟩
            go_simp
            with_reducible rfl
           rotate_left
           ·simp only [Act.put, List.setIfInBounds_toArray, List.set_cons_zero, List.set_cons_succ, i64_w, i32_w]
            rfl
           refine pure_ (i := 3) (N := some 49) (v := ?_) (a' := ?_) #[true, true, true, true, false, true, true, false, false, false, false, false, false] rfl rfl (zan HT_.out (by kernel_rfl)) (fun _ _ _ h => h) (Or.inl ⟨by rfl, ?_⟩) ?_ ?_
           rotate_left
           ·intro w'
            go_simp
            with_reducible rfl
           rotate_left
           ·simp only [Act.put, List.setIfInBounds_toArray, List.set_cons_zero, List.set_cons_succ, i64_w, i32_w]
            rfl
           refine take_ (i := 4) (N := some 50) (v := ?_) (a' := ?_) #[true, true, true, true, true, true, true, false, false, false, false, false, false] rfl rfl (zax HT_.out HW_.out (by kernel_rfl)) (fun _ _ _ h => h) (Or.inl ⟨by rfl, ?_⟩) hHeld ?_ ?_
           rotate_left
           ·rintro w' ⟨s0, s1, s2, s3, s4⟩
            go_simp
            with_reducible rfl
           rotate_left
           ·simp only [Act.put, List.setIfInBounds_toArray, List.set_cons_zero, List.set_cons_succ, i64_w, i32_w]
            rfl
           refine take_ (i := 7) (N := some 53) (v := ?_) (a' := ?_) #[true, true, true, true, true, true, true, true, false, false, false, false, false] rfl rfl (zax HT_.out HW_.out (by kernel_rfl)) (fun _ _ _ h => h) (Or.inl ⟨by rfl, ?_⟩) hHeld ?_ ?_
           rotate_left
           ·rintro w' ⟨s0, s1, s2, s3, s4⟩
            go_simp
            with_reducible rfl
           rotate_left
           ·simp only [Act.put, List.setIfInBounds_toArray, List.set_cons_zero, List.set_cons_succ, i64_w, i32_w]
            rfl
           refine pure_ (i := 8) (N := some 54) (v := ?_) (a' := ?_) #[true, true, true, true, true, true, true, true, true, false, false, false, false] rfl rfl (zan HT_.out (by kernel_rfl)) (fun _ _ _ h => h) (Or.inl ⟨by rfl, ?_⟩) ?_ ?_
           rotate_left
           ·intro w'
            go_simp
            with_reducible rfl
           rotate_left
           ·simp only [Act.put, List.setIfInBounds_toArray, List.set_cons_zero, List.set_cons_succ, i64_w, i32_w]
            rfl
           refine take_ (i := 9) (N := some 55) (v := ?_) (a' := ?_) #[true, true, true, true, true, true, true, true, true, true, false, false, false] rfl rfl (zax HT_.out HW_.out (by kernel_rfl)) (fun _ _ _ h => h) (Or.inl ⟨by rfl, ?_⟩) hHeld ?_ ?_
           rotate_left
           ·rintro w' ⟨s0, s1, s2, s3, s4⟩
            go_simp
            with_reducible rfl
           rotate_left
           ·simp only [Act.put, List.setIfInBounds_toArray, List.set_cons_zero, List.set_cons_succ, i64_w, i32_w]
            rfl
           refine one_ (i := 10) (N := some 56) #[true, true, true, true, true, true, true, true, true, true, true, false, false] rfl rfl (one_of HT_.out (by kernel_rfl)) (by decide) (fun K hK => ?_)
           refine goes_ Try.func110 (by kernel_rfl) rfl #[.slice A180_0 (rd_L2 l1 a0_1).length c180_0, .slice A181_0 (rd_L2 l1 a0_2).length c181_0] (by rfl) rfl rfl (by (try simp only [List.map_toArray, List.map_cons, List.map_nil]); first | done | rfl | (simp only [List.length_drop, List.length_take]; rfl)) ?_
           with_reducible refine (spec_poSum.calls kj25 _ _ (rd_L2 l1 a0_1) _ _ (rd_L2 l1 a0_2) t182 _ ?side1 ?side2 ?side3 ?side4 A36.out).mono ?_
           (case side1 => repeat (first | exact (Kd.zar HR180_0.out HB.out) | (with_reducible refine Kd.zav ?_ _) | (with_reducible refine Kd.zau ?_ _) | (with_reducible refine Kd.zaz ?_)))
           (case side2 => exact HC180_0.out)
           (case side3 => repeat (first | exact (Kd.zar HR181_0.out HB.out) | (with_reducible refine Kd.zav ?_ _) | (with_reducible refine Kd.zau ?_ _) | (with_reducible refine Kd.zaz ?_)))
           (case side4 => exact HC181_0.out)
           rintro e w38 ⟨v183, rfl, ho0, hb⟩
           refine ⟨_, rfl, ?_⟩
           have n0_ := Aside0.mk (Kd.R_lower ho0 (zaa (by repeat (first | (with_reducible first | exact HB.out | apply za2 | apply za0 | apply za1 | refine za3 ?_ GE170.out) | exact HB.out))))
           have n1_ := Aside0.mk (zad (g := gb170) (o := .cells #[.int .i64 a0_0, .int .i64 a0_1, .int .i64 a0_2] 69 (0, 0)) (by (with_reducible repeat (first | refine za5 ?_ _ | refine za6 ?_ | refine za4 ?_ _)); exact BK170.out) hb)
           have n2_ := Aside0.mk (zac (by repeat (first | (with_reducible first | exact HB.out | apply za2 | apply za0 | apply za1 | refine za3 ?_ GE170.out) | exact HB.out)) hb)
           clear BK170
           clear HB
           have HO184 := n0_
           have BK170 := n1_
           have HB := n2_
           clear n0_ n1_ n2_
           (try clear hb)
           (try clear hb2)
           (try clear hk)
           (try clear hi)
           (try clear ho0)
           refine hK.out _ _ ⟨(za8 BK170.out 0).trans rfl, (za8 BK170.out 1).trans rfl, (za8 BK170.out 2).trans rfl, ((HB.out.cell (World.block_lt_of_cell? w _ hw180_0)).trans hw180_0), ((HB.out.cell (World.block_lt_of_cell? w _ hw181_0)).trans hw181_0)⟩ (fun hHeld => ?_)
           clear hK K
           refine norm_ (a' := ?_) ?_ ?_
           rotate_left
           ·show Act.put _ (some 56) _ = _
            simp only [Act.put, List.setIfInBounds_toArray, List.set_cons_zero, List.set_cons_succ, i64_w, i32_w]
            rfl
           refine pure_ (i := 11) (N := some 4) (v := ?_) (a' := ?_) #[true, true, true, true, true, true, true, true, true, true, true, true, false] rfl rfl (zan HT_.out (by kernel_rfl)) (fun _ _ _ h => h) (Or.inl ⟨by rfl, ?_⟩) ?_ ?_
           rotate_left
           ·intro w'
            go_simp
            with_reducible rfl
           rotate_left
           ·simp only [Act.put, List.setIfInBounds_toArray, List.set_cons_zero, List.set_cons_succ, i64_w, i32_w]
            rfl
           refine pure_ (i := 12) (N := some 5) (v := ?_) (a' := ?_) #[true, true, true, true, true, true, true, true, true, true, true, true, true] rfl rfl (zan HT_.out (by kernel_rfl)) (fun _ _ _ h => h) (Or.inl ⟨by rfl, ?_⟩) ?_ ?_
           rotate_left
           ·intro w'
            go_simp
            with_reducible rfl
           rotate_left
           ·simp only [Act.put, List.setIfInBounds_toArray, List.set_cons_zero, List.set_cons_succ, i64_w, i32_w]
            rfl
           refine done_ (done_of HT_.out (by kernel_rfl)) ?_
           try go_wp2
           go_ret2
           exact ⟨_, by first | rfl | (simp [zaf, zae] <;> rfl) | (simp [*, zaf, zae] <;> rfl), by (with_reducible repeat (first | apply Kd.zak | apply Kd.zaj | apply Kd.zam)); exact HO184.out, by repeat (first | (with_reducible first | exact HB.out | apply za2 | apply za0 | apply za1 | refine za3 ?_ GE170.out) | exact HB.out)⟩
          ·rw [if_neg c35] at H
           exact absurd H (by simp)
         ·rw [if_neg c34] at H
          exact absurd H (by simp)
        ·rw [if_neg c33] at H
         exact absurd H (by simp)
       ·rw [if_neg c32] at H
        exact absurd H (by simp)
      ·replace c31 := Bool.eq_false_iff.mpr c31
       subst c31
       have H1 : (if a0_0 = 2 then (if t171 = true then ((spec_l1In.f a0_2 (-1000000) 1000000).bind fun t185 => (spec_poOp.j2 kj25 l1 x7_3 t185 a0_0 a0_1 a0_2)) else (spec_poOp.j2 kj25 l1 x7_3 false a0_0 a0_1 a0_2)) else (spec_poOp.j2 kj25 l1 x7_3 false a0_0 a0_1 a0_2)) = some (r1, r2) := by rw [if_neg (show ¬ (false = true) by decide)] at H; exact H
       clear H
       have H := H1
       clear H1
       have HC39 := Aside0.mk H
       clear H
       go_upto_region 7 with (fail)
       go_cut [57] (fun v57 wc => ∃ (kq : Nat) (x57_38 : Bool), v57 = .bool x57_38 ∧ Aside0 (spec_poOp.j2 kq l1 x7_3 x57_38 a0_0 a0_1 a0_2 = some (r1, r2)) ∧ Aside0 (kq ≤ kj25) ∧ Aside0 (wc.heap[gb170]? = some (.cells #[.int .i64 a0_0, .int .i64 a0_1, .int .i64 a0_2] 69 (0, 0))) ∧ Aside0 (Below w.heap.size w wc))
       case first =>
        have H := HC39.out
        clear HC39
        by_cases c40 : a0_0 = 2
        ·rw [if_pos c40] at H
         have c40b0 : (a0_0 == 2) = true := beq_iff_eq.mpr c40
         have c40b1 : (a0_0 != 2) = false := bne_eq_false_iff_eq.mpr c40
         clear c40
         (first | rw [c40b0] | (simp only [i64_w, i32_w]; rw [c40b0]) | skip)
         by_cases c41 : t171 = true
         ·subst c41
          have H1 : ((spec_l1In.f a0_2 (-1000000) 1000000).bind fun t185 => (spec_poOp.j2 kj25 l1 x7_3 t185 a0_0 a0_1 a0_2)) = some (r1, r2) := by rw [if_pos rfl] at H; exact H
          clear H
          have H := H1
          clear H1
          replace H := Option.bind_eq_some_iff.mp H
          obtain ⟨t185, A420, H⟩ := H
          replace H : (spec_poOp.j2 kj25 l1 x7_3 t185 a0_0 a0_1 a0_2) = some (r1, r2) := H
          have A42 := Aside0.mk A420
          clear A420
          have H' := Aside0.mk H
          clear H
          have hcz43_0 : wc.cell? ⟨gb170, 0, none⟩ = some (.int .i64 a0_0) := (za8 BK170.out 0).trans rfl
          have hcz43_1 : wc.cell? ⟨gb170, 1, none⟩ = some (.int .i64 a0_1) := (za8 BK170.out 1).trans rfl
          have hcz43_2 : wc.cell? ⟨gb170, 2, none⟩ = some (.int .i64 a0_2) := (za8 BK170.out 2).trans rfl
          have hfz43_0 := za7 BK170.out 0
          have hfz43_1 := za7 BK170.out 1
          have hfz43_2 := za7 BK170.out 2
          go_wp2_with (first | (go_at_call 59; (with_reducible refine (spec_l1In.calls a0_2 (-1000000) 1000000 t185 _ A42.out).mono ?_); rintro e w' ⟨rfl, ⟨nd, rfl⟩⟩))
          go_meet
          case rel => exact ⟨_, (t185), (by first | rfl | (simp; done) | (simp [*]; done)), H', ⟨by have := HJ3.out; have := HJ25.out; first | omega | exact Nat.le_refl _⟩, ⟨by (with_reducible repeat (first | refine za5 ?_ _ | refine za6 ?_ | refine za4 ?_ _)); exact BK170.out⟩, ⟨by repeat (first | (with_reducible first | exact HB.out | apply za2 | apply za0 | apply za1 | refine za3 ?_ GE170.out) | exact HB.out)⟩⟩
         ·replace c41 := Bool.eq_false_iff.mpr c41
          subst c41
          have H1 : (spec_poOp.j2 kj25 l1 x7_3 false a0_0 a0_1 a0_2) = some (r1, r2) := by rw [if_neg (show ¬ (false = true) by decide)] at H; exact H
          clear H
          have H := H1
          clear H1
          have H' := Aside0.mk H
          clear H
          have hcz44_0 : wc.cell? ⟨gb170, 0, none⟩ = some (.int .i64 a0_0) := (za8 BK170.out 0).trans rfl
          have hcz44_1 : wc.cell? ⟨gb170, 1, none⟩ = some (.int .i64 a0_1) := (za8 BK170.out 1).trans rfl
          have hcz44_2 : wc.cell? ⟨gb170, 2, none⟩ = some (.int .i64 a0_2) := (za8 BK170.out 2).trans rfl
          have hfz44_0 := za7 BK170.out 0
          have hfz44_1 := za7 BK170.out 1
          have hfz44_2 := za7 BK170.out 2
          go_wp2
          go_meet
          case rel => exact ⟨_, (false), (by first | rfl | (simp; done) | (simp [*]; done)), H', ⟨by have := HJ3.out; have := HJ25.out; first | omega | exact Nat.le_refl _⟩, ⟨by (with_reducible repeat (first | refine za5 ?_ _ | refine za6 ?_ | refine za4 ?_ _)); exact BK170.out⟩, ⟨by repeat (first | (with_reducible first | exact HB.out | apply za2 | apply za0 | apply za1 | refine za3 ?_ GE170.out) | exact HB.out)⟩⟩
        ·rw [if_neg c40] at H
         have c40b0 : (a0_0 == 2) = false := beq_eq_false_iff_ne.mpr c40
         have c40b1 : (a0_0 != 2) = true := bne_iff_ne.mpr c40
         (first | rw [c40b0] | (simp only [i64_w, i32_w]; rw [c40b0]) | skip)
         have H' := Aside0.mk H
         clear H
         have hcz45_0 : wc.cell? ⟨gb170, 0, none⟩ = some (.int .i64 a0_0) := (za8 BK170.out 0).trans rfl
         have hcz45_1 : wc.cell? ⟨gb170, 1, none⟩ = some (.int .i64 a0_1) := (za8 BK170.out 1).trans rfl
         have hcz45_2 : wc.cell? ⟨gb170, 2, none⟩ = some (.int .i64 a0_2) := (za8 BK170.out 2).trans rfl
         have hfz45_0 := za7 BK170.out 0
         have hfz45_1 := za7 BK170.out 1
         have hfz45_2 := za7 BK170.out 2
         go_wp2
         go_meet
         case rel => exact ⟨_, (false), (by first | rfl | (simp; done) | (simp [*]; done)), H', ⟨by have := HJ3.out; have := HJ25.out; first | omega | exact Nat.le_refl _⟩, ⟨by (with_reducible repeat (first | refine za5 ?_ _ | refine za6 ?_ | refine za4 ?_ _)); exact BK170.out⟩, ⟨by repeat (first | (with_reducible first | exact HB.out | apply za2 | apply za0 | apply za1 | refine za3 ?_ GE170.out) | exact HB.out)⟩⟩
       case rest =>
        clear HC39
        try clear c1
        try clear p1
        try clear q1
        try clear hx1
        try clear c2
        try clear p2
        try clear c3
        try clear c4
        try clear c5
        try clear p6
        try clear c7
        try clear c10
        try clear c10b0
        try clear c10b1
        try clear c11
        try clear c13
        try clear c18
        try clear p18
        try clear q18
        try clear hx18
        try clear c28
        try clear c28b0
        try clear c28b1
        try clear c31
        try clear c32
        try clear c32b0
        try clear c33
        try clear c33b0
        try clear c34
        try clear c34b0
        try clear c35
        try clear c35b0
        try clear c40
        try clear c40b0
        try clear c40b1
        try clear c41
        try clear hcz14_0
        try clear hcz14_1
        try clear hcz14_2
        try clear hcz20_0
        try clear hcz20_1
        try clear hcz20_2
        try clear hcz27_0
        try clear hcz27_1
        try clear hcz27_2
        try clear hcz29_0
        try clear hcz29_1
        try clear hcz29_2
        try clear hcz30_0
        try clear hcz30_1
        try clear hcz30_2
        try clear hcz43_0
        try clear hcz43_1
        try clear hcz43_2
        try clear hcz44_0
        try clear hcz44_1
        try clear hcz44_2
        try clear hcz45_0
        try clear hcz45_1
        try clear hcz45_2
        try clear hcz6_0
        try clear hcz6_1
        try clear hcz6_2
        try clear hcz9_0
        try clear hcz9_1
        try clear hcz9_2
        try clear hfz14_0
        try clear hfz14_1
        try clear hfz14_2
        try clear hfz20_0
        try clear hfz20_1
        try clear hfz20_2
        try clear hfz27_0
        try clear hfz27_1
        try clear hfz27_2
        try clear hfz29_0
        try clear hfz29_1
        try clear hfz29_2
        try clear hfz30_0
        try clear hfz30_1
        try clear hfz30_2
        try clear hfz43_0
        try clear hfz43_1
        try clear hfz43_2
        try clear hfz44_0
        try clear hfz44_1
        try clear hfz44_2
        try clear hfz45_0
        try clear hfz45_1
        try clear hfz45_2
        try clear hfz6_0
        try clear hfz6_1
        try clear hfz6_2
        try clear hfz9_0
        try clear hfz9_1
        try clear hfz9_2
        try clear hx180_0
        try clear hx181_0
        try clear p180
        try clear p181
        try clear p2
        try clear p6
        try clear q180
        try clear q181
        obtain ⟨kq, x57_38, rfl, HA, HJ38, BK170, HB⟩ := hcut
        cases kq with
        | zero => exact absurd HA.out (by simp [spec_poOp.j2])
        | succ kj38 =>
         have H := HA.out
         clear HA
         simp only [spec_poOp.j2] at H
         by_cases c46 : x57_38 = true
         ·subst c46
          have H1 : (if 0 ≤ a0_1 then (if a0_1 < (l1.length : Int) then ((spec_poTrim.f kj38 (([a0_2] : List Int))).bind fun t190 => ((spec_poProduct.f kj38 (rd_L2 l1 a0_1) t190).bind fun t193 => (some (t193, true)))) else (none)) else (none)) = some (r1, r2) := by rw [if_pos rfl] at H; exact H
          clear H
          have H := H1
          clear H1
          by_cases c47 : 0 ≤ a0_1
          ·rw [if_pos c47] at H
           have c47b0 : decide (0 ≤ a0_1) = true := decide_eq_true c47
           clear c47
           by_cases c48 : a0_1 < (l1.length : Int)
           ·rw [if_pos c48] at H
            have c48b0 : decide (a0_1 < (l1.length : Int)) = true := decide_eq_true c48
            clear c48
            obtain ⟨y187, hy187⟩ : ∃ y_ : List Int, y_ = (([a0_2] : List Int)) := ⟨_, rfl⟩
            replace H : ((spec_poTrim.f kj38 y187).bind fun t190 => ((spec_poProduct.f kj38 (rd_L2 l1 a0_1) t190).bind fun t193 => (some (t193, true)))) = some (r1, r2) := by first | (rw [hy187]; with_reducible exact H) | (have H2_ := (Option.bind_some _ _).symm.trans H; rw [hy187]; with_reducible exact H2_) | (have H2_ := (Option.bind_some _ _).symm.trans H; with_reducible exact H2_) | with_reducible exact H | (rw [hy187]; exact H) | exact H
            have Ny187 := Aside0.mk hy187
            clear hy187
            replace H := Option.bind_eq_some_iff.mp H
            obtain ⟨t190, A490, H⟩ := H
            replace H : ((spec_poProduct.f kj38 (rd_L2 l1 a0_1) t190).bind fun t193 => (some (t193, true))) = some (r1, r2) := H
            have A49 := Aside0.mk A490
            clear A490
            replace H := Option.bind_eq_some_iff.mp H
            obtain ⟨t193, A500, H⟩ := H
            replace H : (some (t193, true)) = some (r1, r2) := H
            have A50 := Aside0.mk A500
            clear A500
            simp only [Option.some.injEq, Prod.mk.injEq] at H
            obtain ⟨rfl, rfl⟩ := H
            try go_wp2
            have n0_ := Aside0.mk (za6 BK170.out)
            have n1_ := Aside0.mk (za1 HB.out)
            clear BK170
            clear HB
            have BK170 := n0_
            have HB := n1_
            clear n0_ n1_
            have p186 : 0 ≤ (a0_1 : Int) := of_decide_eq_true (by first | (with_reducible assumption) | assumption)
            have q186 : a0_1 < (l1.length : Int) := of_decide_eq_true (by first | (with_reducible assumption) | assumption)
            obtain ⟨ad186, A186_0, c186_0, e186, hx186_0, hl186_0, hi186_0⟩ := at_L2 HR1.out a0_1 p186 q186
            have hw186_0 := hx186_0
            cases e186
            replace hx186_0 := (HB.out.cell (World.block_lt_of_cell? w _ hx186_0)).trans hx186_0
            have HR186_0 := Aside0.mk hi186_0
            have HC186_0 := Aside0.mk hl186_0
            clear hi186_0 hl186_0
            replace p186 := eq_true p186
            replace q186 := eq_true q186
            refine start_ (n := 12) (S := fun w' => w'.cell? ⟨gb170, 0, none⟩ = some (.int .i64 a0_0) ∧ w'.cell? ⟨gb170, 1, none⟩ = some (.int .i64 a0_1) ∧ w'.cell? ⟨gb170, 2, none⟩ = some (.int .i64 a0_2) ∧ w'.cell? (ad186.add (a0_1).toNat) = some (.slice A186_0 (rd_L2 l1 a0_1).length c186_0)) (ds := []) #[false, false, false, false, false, false, false, false, false, false, false, false] (by kernel_rfl) rfl rfl ⟨(za8 BK170.out 0).trans rfl, (za8 BK170.out 1).trans rfl, (za8 BK170.out 2).trans rfl, ((HB.out.cell (World.block_lt_of_cell? w _ hw186_0)).trans hw186_0)⟩ (fun hHeld => ?_); refine with_tabW spec_poOp.tab8 spec_poOp.bits8 (fun HT_ HW_ => ?_)
            generalize wc.drew = w51 at BK170 HB HR186_0 hx186_0 hHeld ⊢
            refine pure_ (i := 0) (N := some 69) (v := ?_) (a' := ?_) #[true, false, false, false, false, false, false, false, false, false, false, false] rfl rfl (zan HT_.out (by kernel_rfl)) (fun _ _ _ h => h) (Or.inl ⟨by rfl, ?_⟩) ?_ ?_
            rotate_left
            ·intro w'
             go_simp
             with_reducible rfl
            rotate_left
            ·simp only [Act.put, List.setIfInBounds_toArray, List.set_cons_zero, List.set_cons_succ, i64_w, i32_w]
             rfl
            refine pure_ (i := 1) (N := some 70) (v := ?_) (a' := ?_) #[true, true, false, false, false, false, false, false, false, false, false, false] rfl rfl (zan HT_.out (by kernel_rfl)) (fun _ _ _ h => h) (Or.inl ⟨by rfl, ?_⟩) ?_ ?_
            rotate_left
            ·intro w'
             go_simp
             with_reducible rfl
            rotate_left
            ·simp only [Act.put, List.setIfInBounds_toArray, List.set_cons_zero, List.set_cons_succ, i64_w, i32_w]
             rfl
            refine pure_ (i := 5) (N := some 74) (v := ?_) (a' := ?_) #[true, true, false, false, false, true, false, false, false, false, false, false] rfl rfl (zan HT_.out (by kernel_rfl)) (fun _ _ _ h => h) (Or.inl ⟨by rfl, ?_⟩) ?_ ?_
            rotate_left
            ·intro w'
             go_simp
             with_reducible rfl
            rotate_left
            ·simp only [Act.put, List.setIfInBounds_toArray, List.set_cons_zero, List.set_cons_succ, i64_w, i32_w]
             rfl
            refine take_ (i := 2) (N := some 71) (v := ?_) (a' := ?_) #[true, true, true, false, false, true, false, false, false, false, false, false] rfl rfl (zax HT_.out HW_.out (by kernel_rfl)) (fun _ _ _ h => h) (Or.inl ⟨by rfl, ?_⟩) hHeld ?_ ?_
            rotate_left
            ·rintro w' ⟨s0, s1, s2, s3⟩
             go_simp
             with_reducible rfl
            rotate_left
            ·simp only [Act.put, List.setIfInBounds_toArray, List.set_cons_zero, List.set_cons_succ, i64_w, i32_w]
             rfl
            refine pure_ (i := 3) (N := some 72) (v := ?_) (a' := ?_) #[true, true, true, true, false, true, false, false, false, false, false, false] rfl rfl (zan HT_.out (by kernel_rfl)) (fun _ _ _ h => h) (Or.inl ⟨by rfl, ?_⟩) ?_ ?_
            rotate_left
            ·intro w'
             go_simp
             with_reducible rfl
            rotate_left
            ·simp only [Act.put, List.setIfInBounds_toArray, List.set_cons_zero, List.set_cons_succ, i64_w, i32_w]
             rfl
            refine take_ (i := 4) (N := some 73) (v := ?_) (a' := ?_) #[true, true, true, true, true, true, false, false, false, false, false, false] rfl rfl (zax HT_.out HW_.out (by kernel_rfl)) (fun _ _ _ h => h) (Or.inl ⟨by rfl, ?_⟩) hHeld ?_ ?_
            rotate_left
            ·rintro w' ⟨s0, s1, s2, s3⟩
             go_simp
             with_reducible rfl
            rotate_left
            ·simp only [Act.put, List.setIfInBounds_toArray, List.set_cons_zero, List.set_cons_succ, i64_w, i32_w]
             rfl
            refine take_ (i := 6) (N := some 75) (v := ?_) (a' := ?_) #[true, true, true, true, true, true, true, false, false, false, false, false] rfl rfl (zax HT_.out HW_.out (by kernel_rfl)) (fun _ _ _ h => h) (Or.inl ⟨by rfl, ?_⟩) hHeld ?_ ?_
            rotate_left
            ·rintro w' ⟨s0, s1, s2, s3⟩
             go_simp
             with_reducible rfl
            rotate_left
            ·simp only [Act.put, List.setIfInBounds_toArray, List.set_cons_zero, List.set_cons_succ, i64_w, i32_w]
             rfl
            refine one_ (i := 7) (N := some 76) #[true, true, true, true, true, true, true, true, false, false, false, false] rfl rfl (one_of HT_.out (by kernel_rfl)) (by decide) (fun K hK => ?_)
            refine Kd.R_lit_step (Kd.int .i64) _ 3 ?hg (N := 76) ?hd (xs := ([a0_2] : List Int)) (inner := [.int .i64 a0_2]) (ok := fun _ => True) (okp := fun _ => True) ?hr ?hp (fun _ hk => hk) trivial (Below.refl _ _) (Nat.le_refl _) (by simp) ?_; (case hd => rfl); (case hg => rfl); (case hr => first | (go_simp; done) | (go_simp; rfl)); (case hp => exact (Reps.one (show Kd.M (Kd.int .i64) _ _ _ a0_2 [.int .i64 a0_2] from rfl) (Reps.none _ _)))
            intro v188 w52 ho53 hb hg_ hnew_
            clear hg_ hnew_
            (first | rw [← Ny187.out] at ho53 | (simp only [Int.reduceToNat] at ho53; rw [← Ny187.out] at ho53))
            have n0_ := Aside0.mk (Kd.R_lower ho53 (zaa (by repeat (first | (with_reducible first | exact HB.out | apply za2 | apply za0 | apply za1 | refine za3 ?_ GE170.out) | exact HB.out))))
            have n1_ := Aside0.mk (zad (g := gb170) (o := .cells #[.int .i64 a0_0, .int .i64 a0_1, .int .i64 a0_2] 69 (0, 0)) (by (with_reducible repeat (first | refine za5 ?_ _ | refine za6 ?_ | refine za4 ?_ _)); exact BK170.out) hb)
            have n2_ := Aside0.mk (zac (by repeat (first | (with_reducible first | exact HB.out | apply za2 | apply za0 | apply za1 | refine za3 ?_ GE170.out) | exact HB.out)) hb)
            clear BK170
            clear HB
            have HO189 := n0_
            have BK170 := n1_
            have HB := n2_
            clear n0_ n1_ n2_
            clear hb ho53
            obtain ⟨Ao54, co54, eo54⟩ := Kd.zas HO189.out
            (first | subst eo54 | (injection eo54 with f1_ f2_ f3_; have f4_ := f1_.symm; have f5_ := f3_.symm; clear f1_ f2_ f3_; subst f4_; subst f5_))
            refine hK.out _ _ ⟨(za8 BK170.out 0).trans rfl, (za8 BK170.out 1).trans rfl, (za8 BK170.out 2).trans rfl, ((HB.out.cell (World.block_lt_of_cell? w _ hw186_0)).trans hw186_0)⟩ (fun hHeld => ?_)
            clear hK K
            refine norm_ (a' := ?_) ?_ ?_
            rotate_left
            ·show Act.put _ (some 76) _ = _
             simp only [Act.put, List.setIfInBounds_toArray, List.set_cons_zero, List.set_cons_succ, i64_w, i32_w]
             rfl
            refine one_ (i := 8) (N := some 77) #[true, true, true, true, true, true, true, true, true, false, false, false] rfl rfl (one_of HT_.out (by kernel_rfl)) (by decide) (fun K hK => ?_)
            refine goes_ Try.func109 (by kernel_rfl) rfl #[.slice Ao54 y187.length co54] (by rfl) rfl rfl (by (try simp only [List.map_toArray, List.map_cons, List.map_nil]); first | done | rfl | (simp only [List.length_drop, List.length_take]; rfl)) ?_
            with_reducible refine (spec_poTrim.calls kj38 _ _ y187 t190 _ ?side1 ?side2 A49.out).mono ?_
            (case side1 => repeat (first | exact (Kd.R_reads' HO189.out).2.2 | (with_reducible refine Kd.zav ?_ _) | (with_reducible refine Kd.zau ?_ _) | (with_reducible refine Kd.zaz ?_)))
            (case side2 => exact (Kd.R_reads' HO189.out).2.1)
            rintro e w55 ⟨v191, rfl, ho0, hb⟩
            refine ⟨_, rfl, ?_⟩
            have n0_ := Aside0.mk (Kd.R_elder' (by (with_reducible repeat (first | apply Kd.zak | apply Kd.zaj | apply Kd.zam)); exact HO189.out) (Kd.R_base ho0) hb)
            have n1_ := Aside0.mk (Kd.R_lower (Kd.R_new' ho0 (Kd.R_lt (by (with_reducible repeat (first | apply Kd.zak | apply Kd.zaj | apply Kd.zam)); exact HO189.out))) (zaa (by repeat (first | (with_reducible first | exact HB.out | apply za2 | apply za0 | apply za1 | refine za3 ?_ GE170.out) | exact HB.out))))
            have n2_ := Aside0.mk (zad (g := gb170) (o := .cells #[.int .i64 a0_0, .int .i64 a0_1, .int .i64 a0_2] 69 (0, 0)) (by (with_reducible repeat (first | refine za5 ?_ _ | refine za6 ?_ | refine za4 ?_ _)); exact BK170.out) hb)
            have n3_ := Aside0.mk (zac (by repeat (first | (with_reducible first | exact HB.out | apply za2 | apply za0 | apply za1 | refine za3 ?_ GE170.out) | exact HB.out)) hb)
            clear HO189
            clear BK170
            clear HB
            have HO189 := n0_
            have HO192 := n1_
            have BK170 := n2_
            have HB := n3_
            clear n0_ n1_ n2_ n3_
            (try clear hb)
            (try clear hb2)
            (try clear hk)
            (try clear hi)
            (try clear ho0)
            obtain ⟨Ao56, co56, eo56⟩ := Kd.zas HO192.out
            (first | subst eo56 | (injection eo56 with f1_ f2_ f3_; have f4_ := f1_.symm; have f5_ := f3_.symm; clear f1_ f2_ f3_; subst f4_; subst f5_))
            refine hK.out _ _ ⟨(za8 BK170.out 0).trans rfl, (za8 BK170.out 1).trans rfl, (za8 BK170.out 2).trans rfl, ((HB.out.cell (World.block_lt_of_cell? w _ hw186_0)).trans hw186_0)⟩ (fun hHeld => ?_)
            clear hK K
            refine norm_ (a' := ?_) ?_ ?_
            rotate_left
            ·show Act.put _ (some 77) _ = _
             simp only [Act.put, List.setIfInBounds_toArray, List.set_cons_zero, List.set_cons_succ, i64_w, i32_w]
             rfl
            refine one_ (i := 9) (N := some 78) #[true, true, true, true, true, true, true, true, true, true, false, false] rfl rfl (one_of HT_.out (by kernel_rfl)) (by decide) (fun K hK => ?_)
            refine goes_ Try.func111 (by kernel_rfl) rfl #[.slice A186_0 (rd_L2 l1 a0_1).length c186_0, .slice Ao56 t190.length co56] (by rfl) rfl rfl (by (try simp only [List.map_toArray, List.map_cons, List.map_nil]); first | done | rfl | (simp only [List.length_drop, List.length_take]; rfl)) ?_
            with_reducible refine (spec_poProduct.calls kj38 _ _ (rd_L2 l1 a0_1) _ _ t190 t193 _ ?side1 ?side2 ?side3 ?side4 A50.out).mono ?_
            (case side1 => repeat (first | exact (Kd.zar HR186_0.out HB.out) | (with_reducible refine Kd.zav ?_ _) | (with_reducible refine Kd.zau ?_ _) | (with_reducible refine Kd.zaz ?_)))
            (case side2 => exact HC186_0.out)
            (case side3 => repeat (first | exact (Kd.R_reads' HO192.out).2.2 | (with_reducible refine Kd.zav ?_ _) | (with_reducible refine Kd.zau ?_ _) | (with_reducible refine Kd.zaz ?_)))
            (case side4 => exact (Kd.R_reads' HO192.out).2.1)
            rintro e w57 ⟨v194, rfl, ho0, hb⟩
            refine ⟨_, rfl, ?_⟩
            have n0_ := Aside0.mk (Kd.R_elder' (by (with_reducible repeat (first | apply Kd.zak | apply Kd.zaj | apply Kd.zam)); exact HO189.out) (Kd.R_base ho0) hb)
            have n1_ := Aside0.mk (Kd.R_elder' (by (with_reducible repeat (first | apply Kd.zak | apply Kd.zaj | apply Kd.zam)); exact HO192.out) (Kd.R_base ho0) hb)
            have n2_ := Aside0.mk (Kd.R_lower (Kd.R_new' (Kd.R_new' ho0 (Kd.R_lt (by (with_reducible repeat (first | apply Kd.zak | apply Kd.zaj | apply Kd.zam)); exact HO189.out))) (Kd.R_lt (by (with_reducible repeat (first | apply Kd.zak | apply Kd.zaj | apply Kd.zam)); exact HO192.out))) (zaa (by repeat (first | (with_reducible first | exact HB.out | apply za2 | apply za0 | apply za1 | refine za3 ?_ GE170.out) | exact HB.out))))
            have n3_ := Aside0.mk (zad (g := gb170) (o := .cells #[.int .i64 a0_0, .int .i64 a0_1, .int .i64 a0_2] 69 (0, 0)) (by (with_reducible repeat (first | refine za5 ?_ _ | refine za6 ?_ | refine za4 ?_ _)); exact BK170.out) hb)
            have n4_ := Aside0.mk (zac (by repeat (first | (with_reducible first | exact HB.out | apply za2 | apply za0 | apply za1 | refine za3 ?_ GE170.out) | exact HB.out)) hb)
            clear HO189
            clear HO192
            clear BK170
            clear HB
            have HO189 := n0_
            have HO192 := n1_
            have HO195 := n2_
            have BK170 := n3_
            have HB := n4_
            clear n0_ n1_ n2_ n3_ n4_
            (try clear hb)
            (try clear hb2)
            (try clear hk)
            (try clear hi)
            (try clear ho0)
            refine hK.out _ _ ⟨(za8 BK170.out 0).trans rfl, (za8 BK170.out 1).trans rfl, (za8 BK170.out 2).trans rfl, ((HB.out.cell (World.block_lt_of_cell? w _ hw186_0)).trans hw186_0)⟩ (fun hHeld => ?_)
            clear hK K
            refine norm_ (a' := ?_) ?_ ?_
            rotate_left
            ·show Act.put _ (some 78) _ = _
             simp only [Act.put, List.setIfInBounds_toArray, List.set_cons_zero, List.set_cons_succ, i64_w, i32_w]
             rfl
            refine pure_ (i := 10) (N := some 4) (v := ?_) (a' := ?_) #[true, true, true, true, true, true, true, true, true, true, true, false] rfl rfl (zan HT_.out (by kernel_rfl)) (fun _ _ _ h => h) (Or.inl ⟨by rfl, ?_⟩) ?_ ?_
            rotate_left
            ·intro w'
             go_simp
             with_reducible rfl
            rotate_left
            ·simp only [Act.put, List.setIfInBounds_toArray, List.set_cons_zero, List.set_cons_succ, i64_w, i32_w]
             rfl
            refine pure_ (i := 11) (N := some 5) (v := ?_) (a' := ?_) #[true, true, true, true, true, true, true, true, true, true, true, true] rfl rfl (zan HT_.out (by kernel_rfl)) (fun _ _ _ h => h) (Or.inl ⟨by rfl, ?_⟩) ?_ ?_
            rotate_left
            ·intro w'
             go_simp
             with_reducible rfl
            rotate_left
            ·simp only [Act.put, List.setIfInBounds_toArray, List.set_cons_zero, List.set_cons_succ, i64_w, i32_w]
             rfl
            refine done_ (done_of HT_.out (by kernel_rfl)) ?_
            try go_wp2
            go_ret2
            exact ⟨_, by first | rfl | (simp [zaf, zae] <;> rfl) | (simp [*, zaf, zae] <;> rfl), by (with_reducible repeat (first | apply Kd.zak | apply Kd.zaj | apply Kd.zam)); exact Kd.R_mono HO195.out (fun _ hk => trivial), by repeat (first | (with_reducible first | exact HB.out | apply za2 | apply za0 | apply za1 | refine za3 ?_ GE170.out) | exact HB.out)⟩
           ·rw [if_neg c48] at H
            exact absurd H (by simp)
          ·rw [if_neg c47] at H
           exact absurd H (by simp)
         ·replace c46 := Bool.eq_false_iff.mpr c46
          subst c46
          have H1 : (if a0_0 = 3 then (if x7_3 = true then (if 0 ≤ a0_1 then (if a0_1 < (l1.length : Int) then (if 0 ≤ a0_2 then (if a0_2 < (l1.length : Int) then ((spec_poProduct.f kj38 (rd_L2 l1 a0_1) (rd_L2 l1 a0_2)).bind fun t198 => (some (t198, true))) else (none)) else (none)) else (none)) else (none)) else (some (([] : List Int), false))) else (some (([] : List Int), false))) = some (r1, r2) := by rw [if_neg (show ¬ (false = true) by decide)] at H; exact H
          clear H
          have H := H1
          clear H1
          by_cases c58 : a0_0 = 3
          ·rw [if_pos c58] at H
           have c58b0 : (a0_0 == 3) = true := beq_iff_eq.mpr c58
           have c58b1 : (a0_0 != 3) = false := bne_eq_false_iff_eq.mpr c58
           clear c58
           by_cases c59 : x7_3 = true
           ·subst c59
            have H1 : (if 0 ≤ a0_1 then (if a0_1 < (l1.length : Int) then (if 0 ≤ a0_2 then (if a0_2 < (l1.length : Int) then ((spec_poProduct.f kj38 (rd_L2 l1 a0_1) (rd_L2 l1 a0_2)).bind fun t198 => (some (t198, true))) else (none)) else (none)) else (none)) else (none)) = some (r1, r2) := by rw [if_pos rfl] at H; exact H
            clear H
            have H := H1
            clear H1
            by_cases c60 : 0 ≤ a0_1
            ·rw [if_pos c60] at H
             have c60b0 : decide (0 ≤ a0_1) = true := decide_eq_true c60
             clear c60
             by_cases c61 : a0_1 < (l1.length : Int)
             ·rw [if_pos c61] at H
              have c61b0 : decide (a0_1 < (l1.length : Int)) = true := decide_eq_true c61
              clear c61
              by_cases c62 : 0 ≤ a0_2
              ·rw [if_pos c62] at H
               have c62b0 : decide (0 ≤ a0_2) = true := decide_eq_true c62
               clear c62
               by_cases c63 : a0_2 < (l1.length : Int)
               ·rw [if_pos c63] at H
                have c63b0 : decide (a0_2 < (l1.length : Int)) = true := decide_eq_true c63
                clear c63
                replace H := Option.bind_eq_some_iff.mp H
                obtain ⟨t198, A640, H⟩ := H
                replace H : (some (t198, true)) = some (r1, r2) := H
                have A64 := Aside0.mk A640
                clear A640
                simp only [Option.some.injEq, Prod.mk.injEq] at H
                obtain ⟨rfl, rfl⟩ := H
                have hcz65_0 : wc.cell? ⟨gb170, 0, none⟩ = some (.int .i64 a0_0) := (za8 BK170.out 0).trans rfl
                have hcz65_1 : wc.cell? ⟨gb170, 1, none⟩ = some (.int .i64 a0_1) := (za8 BK170.out 1).trans rfl
                have hcz65_2 : wc.cell? ⟨gb170, 2, none⟩ = some (.int .i64 a0_2) := (za8 BK170.out 2).trans rfl
                have hfz65_0 := za7 BK170.out 0
                have hfz65_1 := za7 BK170.out 1
                have hfz65_2 := za7 BK170.out 2
                try go_wp2
                have n0_ := Aside0.mk (za6 BK170.out)
                have n1_ := Aside0.mk (za1 HB.out)
                clear BK170
                clear HB
                have BK170 := n0_
                have HB := n1_
                clear n0_ n1_
                have p196 : 0 ≤ (a0_1 : Int) := of_decide_eq_true (by first | (with_reducible assumption) | assumption)
                have q196 : a0_1 < (l1.length : Int) := of_decide_eq_true (by first | (with_reducible assumption) | assumption)
                obtain ⟨ad196, A196_0, c196_0, e196, hx196_0, hl196_0, hi196_0⟩ := at_L2 HR1.out a0_1 p196 q196
                have hw196_0 := hx196_0
                cases e196
                replace hx196_0 := (HB.out.cell (World.block_lt_of_cell? w _ hx196_0)).trans hx196_0
                have HR196_0 := Aside0.mk hi196_0
                have HC196_0 := Aside0.mk hl196_0
                clear hi196_0 hl196_0
                replace p196 := eq_true p196
                replace q196 := eq_true q196
                have p197 : 0 ≤ (a0_2 : Int) := of_decide_eq_true (by first | (with_reducible assumption) | assumption)
                have q197 : a0_2 < (l1.length : Int) := of_decide_eq_true (by first | (with_reducible assumption) | assumption)
                obtain ⟨ad197, A197_0, c197_0, e197, hx197_0, hl197_0, hi197_0⟩ := at_L2 HR1.out a0_2 p197 q197
                have hw197_0 := hx197_0
                obtain rfl : ad196 = ad197 := (by injection e197)
                replace hx197_0 := (HB.out.cell (World.block_lt_of_cell? w _ hx197_0)).trans hx197_0
                have HR197_0 := Aside0.mk hi197_0
                have HC197_0 := Aside0.mk hl197_0
                clear hi197_0 hl197_0
                replace p197 := eq_true p197
                replace q197 := eq_true q197
                refine start_ (n := 13) (S := fun w' => w'.cell? ⟨gb170, 0, none⟩ = some (.int .i64 a0_0) ∧ w'.cell? ⟨gb170, 1, none⟩ = some (.int .i64 a0_1) ∧ w'.cell? ⟨gb170, 2, none⟩ = some (.int .i64 a0_2) ∧ w'.cell? (ad196.add (a0_1).toNat) = some (.slice A196_0 (rd_L2 l1 a0_1).length c196_0) ∧ w'.cell? (ad196.add (a0_2).toNat) = some (.slice A197_0 (rd_L2 l1 a0_2).length c197_0)) (ds := []) #[false, false, false, false, false, false, false, false, false, false, false, false, false] (by kernel_rfl) rfl rfl ⟨(za8 BK170.out 0).trans rfl, (za8 BK170.out 1).trans rfl, (za8 BK170.out 2).trans rfl, ((HB.out.cell (World.block_lt_of_cell? w _ hw196_0)).trans hw196_0), ((HB.out.cell (World.block_lt_of_cell? w _ hw197_0)).trans hw197_0)⟩ (fun hHeld => ?_); refine with_tabW spec_poOp.tab10 spec_poOp.bits10 (fun HT_ HW_ => ?_)
                generalize wc.drew = w66 at BK170 HB HR196_0 HR197_0 hx196_0 hx197_0 hHeld ⊢
                refine pure_ (i := 0) (N := some 86) (v := ?_) (a' := ?_) #[true, false, false, false, false, false, false, false, false, false, false, false, false] rfl rfl (zan HT_.out (by kernel_rfl)) (fun _ _ _ h => h) (Or.inl ⟨by rfl, ?_⟩) ?_ ?_
                rotate_left
                ·intro w'
                 go_simp
                 with_reducible rfl
                rotate_left
                ·simp only [Act.put, List.setIfInBounds_toArray, List.set_cons_zero, List.set_cons_succ, i64_w, i32_w]
                 rfl
                refine pure_ (i := 1) (N := some 87) (v := ?_) (a' := ?_) #[true, true, false, false, false, false, false, false, false, false, false, false, false] rfl rfl (zan HT_.out (by kernel_rfl)) (fun _ _ _ h => h) (Or.inl ⟨by rfl, ?_⟩) ?_ ?_
                rotate_left
                ·intro w'
                 go_simp
                 with_reducible rfl
                rotate_left
                ·simp only [Act.put, List.setIfInBounds_toArray, List.set_cons_zero, List.set_cons_succ, i64_w, i32_w]
                 rfl
                refine pure_ (i := 5) (N := some 91) (v := ?_) (a' := ?_) #[true, true, false, false, false, true, false, false, false, false, false, false, false] rfl rfl (zan HT_.out (by kernel_rfl)) (fun _ _ _ h => h) (Or.inl ⟨by rfl, ?_⟩) ?_ ?_
                rotate_left
                ·intro w'
                 go_simp
                 with_reducible rfl
                rotate_left
                ·simp only [Act.put, List.setIfInBounds_toArray, List.set_cons_zero, List.set_cons_succ, i64_w, i32_w]
                 rfl
                refine pure_ (i := 6) (N := some 92) (v := ?_) (a' := ?_) #[true, true, false, false, false, true, true, false, false, false, false, false, false] rfl rfl (zan HT_.out (by kernel_rfl)) (fun _ _ _ h => h) (Or.inl ⟨by rfl, ?_⟩) ?_ ?_
                rotate_left
                ·intro w'
                 go_simp
                 with_reducible rfl
                rotate_left
                ·simp only [Act.put, List.setIfInBounds_toArray, List.set_cons_zero, List.set_cons_succ, i64_w, i32_w]
                 rfl
                refine take_ (i := 2) (N := some 88) (v := ?_) (a' := ?_) #[true, true, true, false, false, true, true, false, false, false, false, false, false] rfl rfl (zax HT_.out HW_.out (by kernel_rfl)) (fun _ _ _ h => h) (Or.inl ⟨by rfl, ?_⟩) hHeld ?_ ?_
                rotate_left
                ·rintro w' ⟨s0, s1, s2, s3, s4⟩
                 go_simp
                 with_reducible rfl
                rotate_left
                ·simp only [Act.put, List.setIfInBounds_toArray, List.set_cons_zero, List.set_cons_succ, i64_w, i32_w]
                 rfl
                refine pure_ (i := 3) (N := some 89) (v := ?_) (a' := ?_) #[true, true, true, true, false, true, true, false, false, false, false, false, false] rfl rfl (zan HT_.out (by kernel_rfl)) (fun _ _ _ h => h) (Or.inl ⟨by rfl, ?_⟩) ?_ ?_
                rotate_left
                ·intro w'
                 go_simp
                 with_reducible rfl
                rotate_left
                ·simp only [Act.put, List.setIfInBounds_toArray, List.set_cons_zero, List.set_cons_succ, i64_w, i32_w]
                 rfl
                refine take_ (i := 4) (N := some 90) (v := ?_) (a' := ?_) #[true, true, true, true, true, true, true, false, false, false, false, false, false] rfl rfl (zax HT_.out HW_.out (by kernel_rfl)) (fun _ _ _ h => h) (Or.inl ⟨by rfl, ?_⟩) hHeld ?_ ?_
                rotate_left
                ·rintro w' ⟨s0, s1, s2, s3, s4⟩
                 go_simp
                 with_reducible rfl
                rotate_left
                ·simp only [Act.put, List.setIfInBounds_toArray, List.set_cons_zero, List.set_cons_succ, i64_w, i32_w]
                 rfl
                refine take_ (i := 7) (N := some 93) (v := ?_) (a' := ?_) #[true, true, true, true, true, true, true, true, false, false, false, false, false] rfl rfl (zax HT_.out HW_.out (by kernel_rfl)) (fun _ _ _ h => h) (Or.inl ⟨by rfl, ?_⟩) hHeld ?_ ?_
                rotate_left
                ·rintro w' ⟨s0, s1, s2, s3, s4⟩
                 go_simp
                 with_reducible rfl
                rotate_left
                ·simp only [Act.put, List.setIfInBounds_toArray, List.set_cons_zero, List.set_cons_succ, i64_w, i32_w]
                 rfl
                refine pure_ (i := 8) (N := some 94) (v := ?_) (a' := ?_) #[true, true, true, true, true, true, true, true, true, false, false, false, false] rfl rfl (zan HT_.out (by kernel_rfl)) (fun _ _ _ h => h) (Or.inl ⟨by rfl, ?_⟩) ?_ ?_
                rotate_left
                ·intro w'
                 go_simp
                 with_reducible rfl
                rotate_left
                ·simp only [Act.put, List.setIfInBounds_toArray, List.set_cons_zero, List.set_cons_succ, i64_w, i32_w]
                 rfl
                refine take_ (i := 9) (N := some 95) (v := ?_) (a' := ?_) #[true, true, true, true, true, true, true, true, true, true, false, false, false] rfl rfl (zax HT_.out HW_.out (by kernel_rfl)) (fun _ _ _ h => h) (Or.inl ⟨by rfl, ?_⟩) hHeld ?_ ?_
                rotate_left
                ·rintro w' ⟨s0, s1, s2, s3, s4⟩
                 go_simp
                 with_reducible rfl
                rotate_left
                ·simp only [Act.put, List.setIfInBounds_toArray, List.set_cons_zero, List.set_cons_succ, i64_w, i32_w]
                 rfl
                refine one_ (i := 10) (N := some 96) #[true, true, true, true, true, true, true, true, true, true, true, false, false] rfl rfl (one_of HT_.out (by kernel_rfl)) (by decide) (fun K hK => ?_)
                refine goes_ Try.func111 (by kernel_rfl) rfl #[.slice A196_0 (rd_L2 l1 a0_1).length c196_0, .slice A197_0 (rd_L2 l1 a0_2).length c197_0] (by rfl) rfl rfl (by (try simp only [List.map_toArray, List.map_cons, List.map_nil]); first | done | rfl | (simp only [List.length_drop, List.length_take]; rfl)) ?_
                with_reducible refine (spec_poProduct.calls kj38 _ _ (rd_L2 l1 a0_1) _ _ (rd_L2 l1 a0_2) t198 _ ?side1 ?side2 ?side3 ?side4 A64.out).mono ?_
                (case side1 => repeat (first | exact (Kd.zar HR196_0.out HB.out) | (with_reducible refine Kd.zav ?_ _) | (with_reducible refine Kd.zau ?_ _) | (with_reducible refine Kd.zaz ?_)))
                (case side2 => exact HC196_0.out)
                (case side3 => repeat (first | exact (Kd.zar HR197_0.out HB.out) | (with_reducible refine Kd.zav ?_ _) | (with_reducible refine Kd.zau ?_ _) | (with_reducible refine Kd.zaz ?_)))
                (case side4 => exact HC197_0.out)
                rintro e w67 ⟨v199, rfl, ho0, hb⟩
                refine ⟨_, rfl, ?_⟩
                have n0_ := Aside0.mk (Kd.R_lower ho0 (zaa (by repeat (first | (with_reducible first | exact HB.out | apply za2 | apply za0 | apply za1 | refine za3 ?_ GE170.out) | exact HB.out))))
                have n1_ := Aside0.mk (zad (g := gb170) (o := .cells #[.int .i64 a0_0, .int .i64 a0_1, .int .i64 a0_2] 69 (0, 0)) (by (with_reducible repeat (first | refine za5 ?_ _ | refine za6 ?_ | refine za4 ?_ _)); exact BK170.out) hb)
                have n2_ := Aside0.mk (zac (by repeat (first | (with_reducible first | exact HB.out | apply za2 | apply za0 | apply za1 | refine za3 ?_ GE170.out) | exact HB.out)) hb)
                clear BK170
                clear HB
                have HO200 := n0_
                have BK170 := n1_
                have HB := n2_
                clear n0_ n1_ n2_
                (try clear hb)
                (try clear hb2)
                (try clear hk)
                (try clear hi)
                (try clear ho0)
                refine hK.out _ _ ⟨(za8 BK170.out 0).trans rfl, (za8 BK170.out 1).trans rfl, (za8 BK170.out 2).trans rfl, ((HB.out.cell (World.block_lt_of_cell? w _ hw196_0)).trans hw196_0), ((HB.out.cell (World.block_lt_of_cell? w _ hw197_0)).trans hw197_0)⟩ (fun hHeld => ?_)
                clear hK K
                refine norm_ (a' := ?_) ?_ ?_
                rotate_left
                ·show Act.put _ (some 96) _ = _
                 simp only [Act.put, List.setIfInBounds_toArray, List.set_cons_zero, List.set_cons_succ, i64_w, i32_w]
                 rfl
                refine pure_ (i := 11) (N := some 4) (v := ?_) (a' := ?_) #[true, true, true, true, true, true, true, true, true, true, true, true, false] rfl rfl (zan HT_.out (by kernel_rfl)) (fun _ _ _ h => h) (Or.inl ⟨by rfl, ?_⟩) ?_ ?_
                rotate_left
                ·intro w'
                 go_simp
                 with_reducible rfl
                rotate_left
                ·simp only [Act.put, List.setIfInBounds_toArray, List.set_cons_zero, List.set_cons_succ, i64_w, i32_w]
                 rfl
                refine pure_ (i := 12) (N := some 5) (v := ?_) (a' := ?_) #[true, true, true, true, true, true, true, true, true, true, true, true, true] rfl rfl (zan HT_.out (by kernel_rfl)) (fun _ _ _ h => h) (Or.inl ⟨by rfl, ?_⟩) ?_ ?_
                rotate_left
                ·intro w'
                 go_simp
                 with_reducible rfl
                rotate_left
                ·simp only [Act.put, List.setIfInBounds_toArray, List.set_cons_zero, List.set_cons_succ, i64_w, i32_w]
                 rfl
                refine done_ (done_of HT_.out (by kernel_rfl)) ?_
                try go_wp2
                go_ret2
                exact ⟨_, by first | rfl | (simp [zaf, zae] <;> rfl) | (simp [*, zaf, zae] <;> rfl), by (with_reducible repeat (first | apply Kd.zak | apply Kd.zaj | apply Kd.zam)); exact HO200.out, by repeat (first | (with_reducible first | exact HB.out | apply za2 | apply za0 | apply za1 | refine za3 ?_ GE170.out) | exact HB.out)⟩
               ·rw [if_neg c63] at H
                exact absurd H (by simp)
              ·rw [if_neg c62] at H
               exact absurd H (by simp)
             ·rw [if_neg c61] at H
              exact absurd H (by simp)
            ·rw [if_neg c60] at H
             exact absurd H (by simp)
           ·replace c59 := Bool.eq_false_iff.mpr c59
            subst c59
            have H1 : (some (([] : List Int), false)) = some (r1, r2) := by rw [if_neg (show ¬ (false = true) by decide)] at H; exact H
            clear H
            have H := H1
            clear H1
            simp only [Option.some.injEq, Prod.mk.injEq] at H
            obtain ⟨rfl, rfl⟩ := H
            have hcz68_0 : wc.cell? ⟨gb170, 0, none⟩ = some (.int .i64 a0_0) := (za8 BK170.out 0).trans rfl
            have hcz68_1 : wc.cell? ⟨gb170, 1, none⟩ = some (.int .i64 a0_1) := (za8 BK170.out 1).trans rfl
            have hcz68_2 : wc.cell? ⟨gb170, 2, none⟩ = some (.int .i64 a0_2) := (za8 BK170.out 2).trans rfl
            have hfz68_0 := za7 BK170.out 0
            have hfz68_1 := za7 BK170.out 1
            have hfz68_2 := za7 BK170.out 2
            go_wp2
            go_ret2
            exact ⟨_, by first | rfl | (simp [zaf, zae] <;> rfl) | (simp [*, zaf, zae] <;> rfl), by first | exact Kd.R_nil _ _ _ _ _ | exact Kd.N_nil _ _ _ _ _ | exact Kd.V_nil _ _ _ _ _ | exact Kd.Q_nil _ _ _ _ _ | exact Kd.S_nil _ _ _ _ _, by repeat (first | (with_reducible first | exact HB.out | apply za2 | apply za0 | apply za1 | refine za3 ?_ GE170.out) | exact HB.out)⟩
          ·rw [if_neg c58] at H
           have c58b0 : (a0_0 == 3) = false := beq_eq_false_iff_ne.mpr c58
           have c58b1 : (a0_0 != 3) = true := bne_iff_ne.mpr c58
           simp only [Option.some.injEq, Prod.mk.injEq] at H
           obtain ⟨rfl, rfl⟩ := H
           have hcz69_0 : wc.cell? ⟨gb170, 0, none⟩ = some (.int .i64 a0_0) := (za8 BK170.out 0).trans rfl
           have hcz69_1 : wc.cell? ⟨gb170, 1, none⟩ = some (.int .i64 a0_1) := (za8 BK170.out 1).trans rfl
           have hcz69_2 : wc.cell? ⟨gb170, 2, none⟩ = some (.int .i64 a0_2) := (za8 BK170.out 2).trans rfl
           have hfz69_0 := za7 BK170.out 0
           have hfz69_1 := za7 BK170.out 1
           have hfz69_2 := za7 BK170.out 2
           go_wp2
           go_ret2
           exact ⟨_, by first | rfl | (simp [zaf, zae] <;> rfl) | (simp [*, zaf, zae] <;> rfl), by first | exact Kd.R_nil _ _ _ _ _ | exact Kd.N_nil _ _ _ _ _ | exact Kd.V_nil _ _ _ _ _ | exact Kd.Q_nil _ _ _ _ _ | exact Kd.S_nil _ _ _ _ _, by repeat (first | (with_reducible first | exact HB.out | apply za2 | apply za0 | apply za1 | refine za3 ?_ GE170.out) | exact HB.out)⟩

/-! ### spec_poValues: function 73 -/
def spec_poValues.l0 : Nat → List (List Int) → List (S69) → Int → Int → List (S69) → Int → Option ((List (List Int)) × Bool)
 | 0, _, _, _, _, _, _ => none
 | k + 1, x4, x16, x17, x18, x202000, x202001 => if x18 < x17 then (if 0 ≤ x18 then (if x18 < (x16.length : Int) then ((spec_poOp.f k ((za9 x16 x18).f0) ((za9 x16 x18).f1) ((za9 x16 x18).f2) x4).bind fun bt211 => (if bt211.2 = true then ((spec_poSmall.f k bt211.1).bind fun t215 => (if t215 = true then (if x4.length < 5864062014805 then (spec_poValues.l0 k (x4 ++ [bt211.1]) x16 x17 (wrap64 (x18 + 1)) x202000 x202001) else (none)) else (some (([] : List (List Int)), false)))) else (some (([] : List (List Int)), false)))) else (none)) else (none)) else ((spec_l1In.f x202001 0 (x202000.length : Int)).bind fun t208 => (some (x4, t208)))
def spec_poValues.f (k : Nat) (l0_0 : List (S69)) (a0_1 : Int) : Option ((List (List Int)) × Bool) := if (l0_0.length : Int) > 120 then (some (([] : List (List Int)), false)) else (spec_poValues.l0 k (([(([0, 1] : List Int))] : List (List Int))) l0_0 (l0_0.length : Int) 0 l0_0 a0_1)
theorem spec_poValues.mono_l : ∀ k, (∀ y0 y1 y2 y3 y4 y5, LeO (spec_poValues.l0 k y0 y1 y2 y3 y4 y5) (spec_poValues.l0 (k + 1) y0 y1 y2 y3 y4 y5))
 | 0 => fun _ _ _ _ _ _ r h => by simp [spec_poValues.l0] at h
 | k + 1 => by
  have ih0 := spec_poValues.mono_l k
  ·intro y0 y1 y2 y3 y4 y5
   unfold spec_poValues.l0
   repeat' first
   | (with_reducible exact ih0 _ _ _ _ _ _)
   | (with_reducible exact spec_poOp.mono _ _ _ _ _)
   | (with_reducible exact spec_poSmall.mono _ _)
   | (with_reducible exact LeO.refl _)
   | (with_reducible exact LeO.none _)
   | (with_reducible refine LeO.ite ?_ ?_)
   | (with_reducible refine LeO.bind ?_ (fun _ => ?_))
   | exact ih0 _ _ _ _ _ _
   | exact spec_poOp.mono _ _ _ _ _
   | exact spec_poSmall.mono _ _
   | exact LeO.none _
   | refine LeO.ite ?_ ?_
   | refine LeO.bind ?_ (fun _ => ?_)
theorem spec_poValues.mono : ∀ a0 a1 k, LeO (spec_poValues.f k a0 a1) (spec_poValues.f (k + 1) a0 a1) := by
 intro a0 a1 k
 have ih0 := spec_poValues.mono_l k
 unfold spec_poValues.f
 repeat' first
   | (with_reducible exact ih0 _ _ _ _ _ _)
   | (with_reducible exact spec_poOp.mono _ _ _ _ _)
   | (with_reducible exact spec_poSmall.mono _ _)
   | (with_reducible exact LeO.refl _)
   | (with_reducible exact LeO.none _)
   | (with_reducible refine LeO.ite ?_ ?_)
   | (with_reducible refine LeO.bind ?_ (fun _ => ?_))
   | exact ih0 _ _ _ _ _ _
   | exact spec_poOp.mono _ _ _ _ _
   | exact spec_poSmall.mono _ _
   | exact LeO.none _
   | refine LeO.ite ?_ ?_
   | refine LeO.bind ?_ (fun _ => ?_)
set_option maxHeartbeats 8000000 in
set_option maxRecDepth 100000 in
theorem spec_poValues.calls (k : Nat) (A0_0 : Option Addr) (c0_0 : Nat) (l0_0 : List (S69)) (a0_1 : Int) (r1 : List (List Int)) (r2 : Bool) (w : World) (hr0_0 : Kd.C k69 w A0_0 l0_0.length l0_0) (hc0_0 : l0_0.length ≤ c0_0) (h : spec_poValues.f k l0_0 a0_1 = some (r1, r2)) :
  Calls Try.prog 73 #[.agg #[.slice A0_0 l0_0.length c0_0, .int .i64 a0_1]] w fun e w' => ∃ v0_ : Value, e = .returned (.tuple #[v0_, .bool r2]) ∧ Kd.N (Kd.slice 3 (Kd.int .i64)) 22 w' w.heap.size (fun k_ => (w.heap.size ≤ k_)) v0_ r1 ∧ Below w.heap.size w w' := by
 have hu39 := Try.underlying39
 have hu69 := Try.underlying69
 have HR0_0 := Aside0.mk hr0_0
 have HC0_0 := Aside0.mk hc0_0
 clear hr0_0 hc0_0
 have HB := Aside0.mk (Below.refl w.heap.size w)
 have H : (if (l0_0.length : Int) > 120 then (some (([] : List (List Int)), false)) else (spec_poValues.l0 k (([(([0, 1] : List Int))] : List (List Int))) l0_0 (l0_0.length : Int) 0 l0_0 a0_1)) = some (r1, r2) := h
 clear h
 obtain ⟨y202, hy202⟩ : ∃ y_ : List Int, y_ = (([0, 1] : List Int)) := ⟨_, rfl⟩
 replace H : (if (l0_0.length : Int) > 120 then (some (([] : List (List Int)), false)) else (spec_poValues.l0 k (([y202] : List (List Int))) l0_0 (l0_0.length : Int) 0 l0_0 a0_1)) = some (r1, r2) := by first | (rw [hy202]; with_reducible exact H) | (have H2_ := (Option.bind_some _ _).symm.trans H; rw [hy202]; with_reducible exact H2_) | (have H2_ := (Option.bind_some _ _).symm.trans H; with_reducible exact H2_) | with_reducible exact H | (rw [hy202]; exact H) | exact H
 have Ny202 := Aside0.mk hy202
 clear hy202
 obtain ⟨y205, hy205⟩ : ∃ y_ : List (List Int), y_ = (([y202] : List (List Int))) := ⟨_, rfl⟩
 replace H : (if (l0_0.length : Int) > 120 then (some (([] : List (List Int)), false)) else (spec_poValues.l0 k y205 l0_0 (l0_0.length : Int) 0 l0_0 a0_1)) = some (r1, r2) := by first | (rw [hy205]; with_reducible exact H) | (have H2_ := (Option.bind_some _ _).symm.trans H; rw [hy205]; with_reducible exact H2_) | (have H2_ := (Option.bind_some _ _).symm.trans H; with_reducible exact H2_) | with_reducible exact H | (rw [hy205]; exact H) | exact H
 have Ny205 := Aside0.mk hy205
 clear hy205
 by_cases c2 : (l0_0.length : Int) > 120
 ·rw [if_pos c2] at H
  have c2b0 : decide (120 < (l0_0.length : Int)) = true := decide_eq_true c2
  have c2b1 : decide (120 < l0_0.length) = true := decide_eq_true (by omega)
  clear c2
  simp only [Option.some.injEq, Prod.mk.injEq] at H
  obtain ⟨rfl, rfl⟩ := H
  go_enter Try.func73, Try.ntmps73
  go_wp2_with (first | ((with_reducible refine zai (N := 1) rfl ?_); refine zah ?hg (N := 1) ?hd (cs := #[.slice A0_0 l0_0.length c0_0, .int .i64 a0_1]) (t := 39) ?hr ?_; (case hd => rfl); (case hg => rfl); (case hr => first | (go_simp; done) | (go_simp; rfl)); intro gb201 hg w3 hbox hb; have n0_ := Aside0.mk (zac (by repeat (first | (with_reducible first | exact HB.out | apply za2 | apply za0 | apply za1) | exact HB.out)) hb); have n1_ := Aside0.mk (hbox); have n2_ := Aside0.mk ((by rw [hg]; exact (zaa (by repeat (first | (with_reducible first | exact HB.out | apply za2 | apply za0 | apply za1) | exact HB.out))) : w.heap.size ≤ gb201)); have n3_ := Aside0.mk ((by rw [hg]; exact (zaa (by repeat (first | (with_reducible first | exact HB.out | apply za2 | apply za0 | apply za1) | exact HB.out))) : w.heap.size ≤ gb201)); clear HB; have HB := n0_; have BK201 := n1_; have GW201 := n2_; have GE201 := n3_; clear n0_ n1_ n2_ n3_; clear hb hbox hg) | ((with_reducible refine zai (N := 9) rfl ?_); refine Kd.R_lit (Kd.int .i64) _ 3 ?hg (N := 9) ?hd (xs := ([0, 1] : List Int)) (inner := [.int .i64 0, .int .i64 1]) (ok := fun _ => True) (okp := fun _ => True) ?hr ?hp (fun _ hk => hk) trivial (Below.refl _ _) (Nat.le_refl _) (by simp) ?_; (case hd => rfl); (case hg => rfl); (case hr => first | (go_simp; done) | (go_simp; rfl)); (case hp => exact (Reps.one (show Kd.M (Kd.int .i64) _ _ _ 0 [.int .i64 0] from rfl) (Reps.one (show Kd.M (Kd.int .i64) _ _ _ 1 [.int .i64 1] from rfl) (Reps.none _ _)))); intro v203 w4 ho5 hb hg_ hnew_; clear hg_ hnew_; (first | rw [← Ny202.out] at ho5 | (simp only [Int.reduceToNat] at ho5; rw [← Ny202.out] at ho5)); have n0_ := Aside0.mk (Kd.R_lower (Kd.R_newM (M := fun k_ => (w.heap.size ≤ k_)) ho5 (zaa (by repeat (first | (with_reducible first | exact HB.out | apply za2 | apply za0 | apply za1 | refine za3 ?_ GE201.out) | exact HB.out))) (fun k_ h_ => h_)) (zaa (by repeat (first | (with_reducible first | exact HB.out | apply za2 | apply za0 | apply za1 | refine za3 ?_ GE201.out) | exact HB.out)))); have n1_ := Aside0.mk (zad (g := gb201) (o := .cells #[.slice A0_0 l0_0.length c0_0, .int .i64 a0_1] 39 (0, 0)) (by (with_reducible repeat (first | refine za5 ?_ _ | refine za6 ?_ | refine za4 ?_ _)); exact BK201.out) hb); have n2_ := Aside0.mk (zac (by repeat (first | (with_reducible first | exact HB.out | apply za2 | apply za0 | apply za1 | refine za3 ?_ GE201.out) | exact HB.out)) hb); clear BK201; clear HB; have HO204 := n0_; have BK201 := n1_; have HB := n2_; clear n0_ n1_ n2_; clear hb ho5; obtain ⟨Ao6, co6, eo6⟩ := Kd.zas HO204.out; subst eo6) | ((with_reducible refine zai (N := 10) rfl ?_); refine Kd.N_lit (Kd.slice 3 (Kd.int .i64)) _ 22 ?hg (N' := 10) ?hd (xs := ([y202] : List (List Int))) (inner := [.slice Ao6 y202.length co6]) (ok := (fun k_ => (w.heap.size ≤ k_) ∧ k_ ≠ gb201)) (okp := (fun k_ => (w.heap.size ≤ k_) ∧ k_ ≠ gb201)) ?hr ?hp (fun _ hk => hk) ((show ∀ k_, w4.heap.size ≤ k_ → (fun k_ => (w.heap.size ≤ k_) ∧ k_ ≠ gb201) k_ from fun k_ hk => ⟨(Nat.le_trans (zaa (by repeat (first | (with_reducible first | exact HB.out | apply za2 | apply za0 | apply za1 | refine za3 ?_ GE201.out) | exact HB.out))) hk), Kd.freshB (g := gb201) (o := .cells #[.slice A0_0 l0_0.length c0_0, .int .i64 a0_1] 39 (0, 0)) (by (with_reducible repeat (first | refine za5 ?_ _ | refine za6 ?_ | refine za4 ?_ _)); exact BK201.out) k_ hk⟩) _ (Nat.le_refl _)) (Below.refl _ _) (Nat.le_refl _) (by simp) ?_; (case hd => rfl); (case hg => rfl); (case hr => first | (go_simp; done) | (go_simp; rfl)); (case hp => exact (Reps.one (show Kd.FK (Kd.slice 3 (Kd.int .i64)) _ _ y202 [.slice Ao6 y202.length co6] from (Kd.FK_slice_mk (Kd.R_reads' (Kd.R_mono (ok' := (fun k_ => (w.heap.size ≤ k_) ∧ k_ ≠ gb201)) (Kd.R_types (HO204.out) BK201.out (by decide)) (fun k_ hk => ⟨hk.1.1, hk.2⟩))).2.1 (Kd.R_F (Kd.R_mono (ok' := (fun k_ => (w.heap.size ≤ k_) ∧ k_ ≠ gb201)) (Kd.R_types (HO204.out) BK201.out (by decide)) (fun k_ hk => ⟨hk.1.1, hk.2⟩))))) (Reps.none _ _))); intro v206 w7 ho8 hb hg_ hnew_; clear hg_ hnew_; (first | rw [← Ny205.out] at ho8 | (simp only [Int.reduceToNat] at ho8; rw [← Ny205.out] at ho8)); have n0_ := Aside0.mk (Kd.N_lower ho8 (zaa (by repeat (first | (with_reducible first | exact HB.out | apply za2 | apply za0 | apply za1 | refine za3 ?_ GE201.out) | exact HB.out)))); have n1_ := Aside0.mk (zad (g := gb201) (o := .cells #[.slice A0_0 l0_0.length c0_0, .int .i64 a0_1] 39 (0, 0)) (by (with_reducible repeat (first | refine za5 ?_ _ | refine za6 ?_ | refine za4 ?_ _)); exact BK201.out) hb); have n2_ := Aside0.mk (zac (by repeat (first | (with_reducible first | exact HB.out | apply za2 | apply za0 | apply za1 | refine za3 ?_ GE201.out) | exact HB.out)) hb); clear BK201; clear HB; clear HO204; have HO207 := n0_; have BK201 := n1_; have HB := n2_; clear n0_ n1_ n2_; clear hb ho8; have hcz9_0 : w7.cell? ⟨gb201, 0, none⟩ = some (.slice A0_0 l0_0.length c0_0) := (za8 BK201.out 0).trans rfl; have hcz9_1 : w7.cell? ⟨gb201, 1, none⟩ = some (.int .i64 a0_1) := (za8 BK201.out 1).trans rfl; have hfz9_0 := za7 BK201.out 0; have hfz9_1 := za7 BK201.out 1))
  go_ret2
  exact ⟨_, by first | rfl | (simp [zaf, zae] <;> rfl) | (simp [*, zaf, zae] <;> rfl), by first | exact Kd.S_nil _ _ _ _ _ | exact Kd.N_nil _ _ _ _ _ | exact Kd.V_nil _ _ _ _ _ | exact Kd.Q_nil _ _ _ _ _ | exact Kd.R_nil _ _ _ _ _, by repeat (first | (with_reducible first | exact HB.out | apply za2 | apply za0 | apply za1 | refine za3 ?_ GE201.out) | exact HB.out)⟩
 ·rw [if_neg c2] at H
  have c2b0 : decide (120 < (l0_0.length : Int)) = false := decide_eq_false c2
  have c2b1 : decide (120 < l0_0.length) = false := decide_eq_false (by omega)
  clear c2
  have H' := Aside0.mk H
  clear H
  go_enter Try.func73, Try.ntmps73
  go_wp2_with (first | ((with_reducible refine zai (N := 1) rfl ?_); refine zah ?hg (N := 1) ?hd (cs := #[.slice A0_0 l0_0.length c0_0, .int .i64 a0_1]) (t := 39) ?hr ?_; (case hd => rfl); (case hg => rfl); (case hr => first | (go_simp; done) | (go_simp; rfl)); intro gb201 hg w10 hbox hb; have n0_ := Aside0.mk (zac (by repeat (first | (with_reducible first | exact HB.out | apply za2 | apply za0 | apply za1) | exact HB.out)) hb); have n1_ := Aside0.mk (hbox); have n2_ := Aside0.mk ((by rw [hg]; exact (zaa (by repeat (first | (with_reducible first | exact HB.out | apply za2 | apply za0 | apply za1) | exact HB.out))) : w.heap.size ≤ gb201)); have n3_ := Aside0.mk ((by rw [hg]; exact (zaa (by repeat (first | (with_reducible first | exact HB.out | apply za2 | apply za0 | apply za1) | exact HB.out))) : w.heap.size ≤ gb201)); clear HB; have HB := n0_; have BK201 := n1_; have GW201 := n2_; have GE201 := n3_; clear n0_ n1_ n2_ n3_; clear hb hbox hg) | ((with_reducible refine zai (N := 9) rfl ?_); refine Kd.R_lit (Kd.int .i64) _ 3 ?hg (N := 9) ?hd (xs := ([0, 1] : List Int)) (inner := [.int .i64 0, .int .i64 1]) (ok := fun _ => True) (okp := fun _ => True) ?hr ?hp (fun _ hk => hk) trivial (Below.refl _ _) (Nat.le_refl _) (by simp) ?_; (case hd => rfl); (case hg => rfl); (case hr => first | (go_simp; done) | (go_simp; rfl)); (case hp => exact (Reps.one (show Kd.M (Kd.int .i64) _ _ _ 0 [.int .i64 0] from rfl) (Reps.one (show Kd.M (Kd.int .i64) _ _ _ 1 [.int .i64 1] from rfl) (Reps.none _ _)))); intro v203 w11 ho12 hb hg_ hnew_; clear hg_ hnew_; (first | rw [← Ny202.out] at ho12 | (simp only [Int.reduceToNat] at ho12; rw [← Ny202.out] at ho12)); have n0_ := Aside0.mk (Kd.R_lower (Kd.R_newM (M := fun k_ => (w.heap.size ≤ k_)) ho12 (zaa (by repeat (first | (with_reducible first | exact HB.out | apply za2 | apply za0 | apply za1 | refine za3 ?_ GE201.out) | exact HB.out))) (fun k_ h_ => h_)) (zaa (by repeat (first | (with_reducible first | exact HB.out | apply za2 | apply za0 | apply za1 | refine za3 ?_ GE201.out) | exact HB.out)))); have n1_ := Aside0.mk (zad (g := gb201) (o := .cells #[.slice A0_0 l0_0.length c0_0, .int .i64 a0_1] 39 (0, 0)) (by (with_reducible repeat (first | refine za5 ?_ _ | refine za6 ?_ | refine za4 ?_ _)); exact BK201.out) hb); have n2_ := Aside0.mk (zac (by repeat (first | (with_reducible first | exact HB.out | apply za2 | apply za0 | apply za1 | refine za3 ?_ GE201.out) | exact HB.out)) hb); clear BK201; clear HB; have HO204 := n0_; have BK201 := n1_; have HB := n2_; clear n0_ n1_ n2_; clear hb ho12; obtain ⟨Ao13, co13, eo13⟩ := Kd.zas HO204.out; subst eo13) | ((with_reducible refine zai (N := 10) rfl ?_); refine Kd.N_lit (Kd.slice 3 (Kd.int .i64)) _ 22 ?hg (N' := 10) ?hd (xs := ([y202] : List (List Int))) (inner := [.slice Ao13 y202.length co13]) (ok := (fun k_ => (w.heap.size ≤ k_) ∧ k_ ≠ gb201)) (okp := (fun k_ => (w.heap.size ≤ k_) ∧ k_ ≠ gb201)) ?hr ?hp (fun _ hk => hk) ((show ∀ k_, w11.heap.size ≤ k_ → (fun k_ => (w.heap.size ≤ k_) ∧ k_ ≠ gb201) k_ from fun k_ hk => ⟨(Nat.le_trans (zaa (by repeat (first | (with_reducible first | exact HB.out | apply za2 | apply za0 | apply za1 | refine za3 ?_ GE201.out) | exact HB.out))) hk), Kd.freshB (g := gb201) (o := .cells #[.slice A0_0 l0_0.length c0_0, .int .i64 a0_1] 39 (0, 0)) (by (with_reducible repeat (first | refine za5 ?_ _ | refine za6 ?_ | refine za4 ?_ _)); exact BK201.out) k_ hk⟩) _ (Nat.le_refl _)) (Below.refl _ _) (Nat.le_refl _) (by simp) ?_; (case hd => rfl); (case hg => rfl); (case hr => first | (go_simp; done) | (go_simp; rfl)); (case hp => exact (Reps.one (show Kd.FK (Kd.slice 3 (Kd.int .i64)) _ _ y202 [.slice Ao13 y202.length co13] from (Kd.FK_slice_mk (Kd.R_reads' (Kd.R_mono (ok' := (fun k_ => (w.heap.size ≤ k_) ∧ k_ ≠ gb201)) (Kd.R_types (HO204.out) BK201.out (by decide)) (fun k_ hk => ⟨hk.1.1, hk.2⟩))).2.1 (Kd.R_F (Kd.R_mono (ok' := (fun k_ => (w.heap.size ≤ k_) ∧ k_ ≠ gb201)) (Kd.R_types (HO204.out) BK201.out (by decide)) (fun k_ hk => ⟨hk.1.1, hk.2⟩))))) (Reps.none _ _))); intro v206 w14 ho15 hb hg_ hnew_; clear hg_ hnew_; (first | rw [← Ny205.out] at ho15 | (simp only [Int.reduceToNat] at ho15; rw [← Ny205.out] at ho15)); have n0_ := Aside0.mk (Kd.N_lower ho15 (zaa (by repeat (first | (with_reducible first | exact HB.out | apply za2 | apply za0 | apply za1 | refine za3 ?_ GE201.out) | exact HB.out)))); have n1_ := Aside0.mk (zad (g := gb201) (o := .cells #[.slice A0_0 l0_0.length c0_0, .int .i64 a0_1] 39 (0, 0)) (by (with_reducible repeat (first | refine za5 ?_ _ | refine za6 ?_ | refine za4 ?_ _)); exact BK201.out) hb); have n2_ := Aside0.mk (zac (by repeat (first | (with_reducible first | exact HB.out | apply za2 | apply za0 | apply za1 | refine za3 ?_ GE201.out) | exact HB.out)) hb); clear BK201; clear HB; clear HO204; have HO207 := n0_; have BK201 := n1_; have HB := n2_; clear n0_ n1_ n2_; clear hb ho15; have hcz16_0 : w14.cell? ⟨gb201, 0, none⟩ = some (.slice A0_0 l0_0.length c0_0) := (za8 BK201.out 0).trans rfl; have hcz16_1 : w14.cell? ⟨gb201, 1, none⟩ = some (.int .i64 a0_1) := (za8 BK201.out 1).trans rfl; have hfz16_0 := za7 BK201.out 0; have hfz16_1 := za7 BK201.out 1))
  go_loopg [4, 18] k (fun kq v4 v18 w' => ∃ (x4_1 : List (List Int)) (x18_1 : Int), v18 = .int .i64 x18_1 ∧ Aside0 (spec_poValues.l0 kq x4_1 l0_0 (l0_0.length : Int) x18_1 l0_0 a0_1 = some (r1, r2)) ∧ Aside0 (kq ≤ k) ∧ Aside0 (Kd.N (Kd.slice 3 (Kd.int .i64)) 22 w' w.heap.size (fun k_ => (w.heap.size ≤ k_) ∧ k_ ≠ gb201) v4 x4_1) ∧ Aside0 (w'.heap[gb201]? = some (.cells #[(.slice A0_0 l0_0.length c0_0), .int .i64 a0_1] 39 (0, 0))) ∧ Aside0 (Below w.heap.size w w'))
  case atStart => exact ⟨(y205), (0), (by first | rfl | (simp; done) | (simp [*]; done)), H', ⟨Nat.le_refl _⟩, ⟨by (with_reducible repeat (first | apply Kd.zb0 | apply Kd.zb1 | apply Kd.N_drew)); exact HO207.out⟩, ⟨by (with_reducible repeat (first | refine za5 ?_ _ | refine za6 ?_ | refine za4 ?_ _)); exact BK201.out⟩, ⟨by repeat (first | (with_reducible first | exact HB.out | apply za2 | apply za0 | apply za1 | refine za3 ?_ GE201.out) | exact HB.out)⟩⟩
  case round =>
   clear H'
   try clear c2
   try clear c2b0
   try clear c2b1
   try clear p2
   try clear c7
   try clear hcz16_0
   try clear hcz16_1
   try clear hcz9_0
   try clear hcz9_1
   try clear hfz16_0
   try clear hfz16_1
   try clear hfz9_0
   try clear hfz9_1
   obtain ⟨x4_1, x18_1, rfl, HA, HK1, HO_4, BK201, HB⟩ := hrel
   cases gk with
   | zero => exact absurd HA.out (by simp [spec_poValues.l0])
   | succ k1 =>
    have H := HA.out
    clear HA
    simp only [spec_poValues.l0] at H
    by_cases c17 : x18_1 < (l0_0.length : Int)
    ·rw [if_pos c17] at H
     have c17b0 : decide (x18_1 < (l0_0.length : Int)) = true := decide_eq_true c17
     clear c17
     by_cases c18 : 0 ≤ x18_1
     ·rw [if_pos c18] at H
      have c18b0 : decide (0 ≤ x18_1) = true := decide_eq_true c18
      clear c18
      by_cases c19 : x18_1 < (l0_0.length : Int)
      ·rw [if_pos c19] at H
       have c19b0 : decide (x18_1 < (l0_0.length : Int)) = true := decide_eq_true c19
       clear c19
       replace H := Option.bind_eq_some_iff.mp H
       obtain ⟨⟨t211, t214⟩, A200, H⟩ := H
       replace H : (if t214 = true then ((spec_poSmall.f k1 t211).bind fun t215 => (if t215 = true then (if x4_1.length < 5864062014805 then (spec_poValues.l0 k1 (x4_1 ++ [t211]) l0_0 (l0_0.length : Int) (wrap64 (x18_1 + 1)) l0_0 a0_1) else (none)) else (some (([] : List (List Int)), false)))) else (some (([] : List (List Int)), false))) = some (r1, r2) := H
       have A20 := Aside0.mk A200
       clear A200
       by_cases c21 : t214 = true
       ·subst c21
        have H1 : ((spec_poSmall.f k1 t211).bind fun t215 => (if t215 = true then (if x4_1.length < 5864062014805 then (spec_poValues.l0 k1 (x4_1 ++ [t211]) l0_0 (l0_0.length : Int) (wrap64 (x18_1 + 1)) l0_0 a0_1) else (none)) else (some (([] : List (List Int)), false)))) = some (r1, r2) := by rw [if_pos rfl] at H; exact H
        clear H
        have H := H1
        clear H1
        replace H := Option.bind_eq_some_iff.mp H
        obtain ⟨t215, A220, H⟩ := H
        replace H : (if t215 = true then (if x4_1.length < 5864062014805 then (spec_poValues.l0 k1 (x4_1 ++ [t211]) l0_0 (l0_0.length : Int) (wrap64 (x18_1 + 1)) l0_0 a0_1) else (none)) else (some (([] : List (List Int)), false))) = some (r1, r2) := H
        have A22 := Aside0.mk A220
        clear A220
        by_cases c23 : t215 = true
        ·subst c23
         have H1 : (if x4_1.length < 5864062014805 then (spec_poValues.l0 k1 (x4_1 ++ [t211]) l0_0 (l0_0.length : Int) (wrap64 (x18_1 + 1)) l0_0 a0_1) else (none)) = some (r1, r2) := by rw [if_pos rfl] at H; exact H
         clear H
         have H := H1
         clear H1
         by_cases c24 : x4_1.length < 5864062014805
         ·rw [if_pos c24] at H
          have LMc24 := Aside0.mk c24
          clear c24
          obtain ⟨y216, hy216⟩ : ∃ y_ : List (List Int), y_ = (x4_1 ++ [t211]) := ⟨_, rfl⟩
          replace H : (spec_poValues.l0 k1 y216 l0_0 (l0_0.length : Int) (wrap64 (x18_1 + 1)) l0_0 a0_1) = some (r1, r2) := by first | (rw [hy216]; with_reducible exact H) | (have H2_ := (Option.bind_some _ _).symm.trans H; rw [hy216]; with_reducible exact H2_) | (have H2_ := (Option.bind_some _ _).symm.trans H; with_reducible exact H2_) | with_reducible exact H | (rw [hy216]; exact H) | exact H
          have Ny216 := Aside0.mk hy216
          clear hy216
          have H' := Aside0.mk H
          clear H
          have p209 : 0 ≤ (x18_1 : Int) := of_decide_eq_true (by first | (with_reducible assumption) | assumption)
          have q209 : x18_1 < (l0_0.length : Int) := of_decide_eq_true (by first | (with_reducible assumption) | assumption)
          obtain ⟨ad209, e209, hx209_0, hx209_1, hx209_2⟩ := at_T69 HR0_0.out x18_1 p209 q209
          cases e209
          replace hx209_0 := (HB.out.cell (World.block_lt_of_cell? w _ hx209_0)).trans hx209_0
          replace hx209_1 := (HB.out.cell (World.block_lt_of_cell? w _ hx209_1)).trans hx209_1
          replace hx209_2 := (HB.out.cell (World.block_lt_of_cell? w _ hx209_2)).trans hx209_2
          replace p209 := eq_true p209
          replace q209 := eq_true q209
          go_wp2_with (first | ((with_reducible refine zai (N := 6) rfl ?_); refine zah ?hg (N := 6) ?hd (cs := #[.int .i64 0, .int .i64 0, .int .i64 0]) (t := 69) ?hr ?_; (case hd => rfl); (case hg => rfl); (case hr => first | (go_simp; done) | (go_simp; rfl)); intro gb210 hg w25 hbox hb; have n0_ := Aside0.mk (Kd.N_below (Kd.N_elderB (by (with_reducible repeat (first | apply Kd.zb0 | apply Kd.zb1 | apply Kd.N_drew)); exact HO_4.out) gb210 (Nat.le_of_eq hg.symm)) hb); have n1_ := Aside0.mk (zad (g := gb201) (o := .cells #[.slice (some ad209) l0_0.length c0_0, .int .i64 a0_1] 39 (0, 0)) (by (with_reducible repeat (first | refine za5 ?_ _ | refine za6 ?_ | refine za4 ?_ _)); exact BK201.out) hb); have n2_ := Aside0.mk (zac (by repeat (first | (with_reducible first | exact HB.out | apply za2 | apply za0 | apply za1 | refine za3 ?_ GE201.out) | exact HB.out)) hb); have n3_ := Aside0.mk (hbox); have n4_ := Aside0.mk ((by rw [hg]; exact (zaa (by repeat (first | (with_reducible first | exact HB.out | apply za2 | apply za0 | apply za1 | refine za3 ?_ GE201.out) | exact HB.out))) : w.heap.size ≤ gb210)); have n5_ := Aside0.mk ((by rw [hg]; exact (zaa (by repeat (first | (with_reducible first | exact HB.out | apply za2 | apply za0 | apply za1 | refine za3 ?_ GE201.out) | exact HB.out))) : w.heap.size ≤ gb210)); have n6_ := Aside0.mk ((by rw [hg]; exact Nat.ne_of_lt (zao (g := gb201) (o := .cells #[.slice (some ad209) l0_0.length c0_0, .int .i64 a0_1] 39 (0, 0)) (by (with_reducible repeat (first | refine za5 ?_ _ | refine za6 ?_ | refine za4 ?_ _)); exact BK201.out)) : gb201 ≠ gb210)); have n7_ := Aside0.mk ((by rw [hg]; exact Nat.ne_of_gt (zao (g := gb201) (o := .cells #[.slice (some ad209) l0_0.length c0_0, .int .i64 a0_1] 39 (0, 0)) (by (with_reducible repeat (first | refine za5 ?_ _ | refine za6 ?_ | refine za4 ?_ _)); exact BK201.out)) : gb210 ≠ gb201)); clear HO_4; clear BK201; clear HB; have HO_4 := n0_; have BK201 := n1_; have HB := n2_; have BK210 := n3_; have GW210 := n4_; have GE210 := n5_; have NB201_210 := n6_; have NB210_201 := n7_; clear n0_ n1_ n2_ n3_ n4_ n5_ n6_ n7_; clear hb hbox hg; have hnb26 := NB210_201.out; have hnc26 := NB201_210.out; have hcz27_0 : w25.cell? ⟨gb210, 0, none⟩ = some (.int .i64 0) := (za8 BK210.out 0).trans rfl; have hcz27_1 : w25.cell? ⟨gb210, 1, none⟩ = some (.int .i64 0) := (za8 BK210.out 1).trans rfl; have hcz27_2 : w25.cell? ⟨gb210, 2, none⟩ = some (.int .i64 0) := (za8 BK210.out 2).trans rfl; have hfz27_0 := za7 BK210.out 0; have hfz27_1 := za7 BK210.out 1; have hfz27_2 := za7 BK210.out 2; obtain ⟨Ao28, co28, eo28⟩ := Kd.N_slice HO_4.out; subst eo28) | ((with_reducible refine zal (f := 103) rfl ?_); refine goesL_ (some 25) rfl rfl Try.func103 (by kernel_rfl) rfl #[.agg #[.int .i64 ((za9 l0_0 x18_1).f0), .int .i64 ((za9 l0_0 x18_1).f1), .int .i64 ((za9 l0_0 x18_1).f2)], .slice Ao28 x4_1.length co28] rfl (by (try simp only [List.map_toArray, List.map_cons, List.map_nil]); first | done | rfl | (simp only [List.length_drop, List.length_take]; rfl)) ?_; (with_reducible refine (spec_poOp.calls k1 ((za9 l0_0 x18_1).f0) ((za9 l0_0 x18_1).f1) ((za9 l0_0 x18_1).f2) _ _ x4_1 t211 true _ ?side1 ?side2 A20.out).mono ?_); (case side1 => refine (Kd.N_reads' (e := 22) (base := w.heap.size) (ok := fun k_ => (((w.heap.size ≤ k_) ∧ k_ ≠ gb201) ∧ k_ ≠ gb210)) (n := x4_1.length) (c := co28) ?_).2.2; exact (by (with_reducible repeat (first | apply Kd.zb0 | apply Kd.zb1 | apply Kd.N_drew)); exact (Kd.N_mono (Kd.N_far (p := ⟨gb210, 2, none⟩) (Kd.N_far (p := ⟨gb210, 1, none⟩) (Kd.N_far (p := ⟨gb210, 0, none⟩) (Kd.N_mono HO_4.out (fun k_ hk => (⟨hk, hk.2⟩ : _ ∧ k_ ≠ gb210))) (fun _ hk => hk.2) (.int .i64 ((za9 l0_0 x18_1).f0))) (fun _ hk => hk.2) (.int .i64 ((za9 l0_0 x18_1).f1))) (fun _ hk => hk.2) (.int .i64 ((za9 l0_0 x18_1).f2))) (fun _ h_ => h_.1)))); (case side2 => exact (Kd.N_reads' HO_4.out).2.1); rintro e w29 ⟨v212, rfl, ho0, hb⟩; refine ⟨_, rfl, ?_⟩; have n0_ := Aside0.mk (Kd.N_elder' (by (with_reducible repeat (first | apply Kd.zb0 | apply Kd.zb1 | apply Kd.N_drew)); exact (Kd.N_mono (Kd.N_far (p := ⟨gb210, 2, none⟩) (Kd.N_far (p := ⟨gb210, 1, none⟩) (Kd.N_far (p := ⟨gb210, 0, none⟩) (Kd.N_mono HO_4.out (fun k_ hk => (⟨hk, hk.2⟩ : _ ∧ k_ ≠ gb210))) (fun _ hk => hk.2) (.int .i64 ((za9 l0_0 x18_1).f0))) (fun _ hk => hk.2) (.int .i64 ((za9 l0_0 x18_1).f1))) (fun _ hk => hk.2) (.int .i64 ((za9 l0_0 x18_1).f2))) (fun _ h_ => h_.1))) (Kd.R_base ho0) hb); have n1_ := Aside0.mk (Kd.R_lower (Kd.R_newM (M := fun k_ => (w.heap.size ≤ k_)) ho0 (zaa (by repeat (first | (with_reducible first | exact HB.out | apply za2 | apply za0 | apply za1 | refine za3 ?_ GE201.out | refine za3 ?_ GE210.out) | exact HB.out))) (fun k_ h_ => h_)) (zaa (by repeat (first | (with_reducible first | exact HB.out | apply za2 | apply za0 | apply za1 | refine za3 ?_ GE201.out | refine za3 ?_ GE210.out) | exact HB.out)))); have n2_ := Aside0.mk (zad (g := gb201) (o := .cells #[.slice (some ad209) l0_0.length c0_0, .int .i64 a0_1] 39 (0, 0)) (by (with_reducible repeat (first | refine za5 ?_ _ | refine za6 ?_ | refine za4 ?_ _)); refine zay ?_ NB201_210.out _; (with_reducible repeat (first | refine za5 ?_ _ | refine za6 ?_ | refine za4 ?_ _)); refine zay ?_ NB201_210.out _; (with_reducible repeat (first | refine za5 ?_ _ | refine za6 ?_ | refine za4 ?_ _)); refine zay ?_ NB201_210.out _; (with_reducible repeat (first | refine za5 ?_ _ | refine za6 ?_ | refine za4 ?_ _)); exact BK201.out) hb); have n3_ := Aside0.mk (zad (g := gb210) (o := .cells #[.int .i64 ((za9 l0_0 x18_1).f0), .int .i64 ((za9 l0_0 x18_1).f1), .int .i64 ((za9 l0_0 x18_1).f2)] 69 (0, 0)) (by (with_reducible repeat (first | refine za5 ?_ _ | refine za6 ?_ | refine za4 ?_ _)); refine zat (cs := #[.int .i64 ((za9 l0_0 x18_1).f0), .int .i64 ((za9 l0_0 x18_1).f1), .int .i64 0]) ?_ 2 _ rfl; (with_reducible repeat (first | refine za5 ?_ _ | refine za6 ?_ | refine za4 ?_ _)); refine zat (cs := #[.int .i64 ((za9 l0_0 x18_1).f0), .int .i64 0, .int .i64 0]) ?_ 1 _ rfl; (with_reducible repeat (first | refine za5 ?_ _ | refine za6 ?_ | refine za4 ?_ _)); refine zat (cs := #[.int .i64 0, .int .i64 0, .int .i64 0]) ?_ 0 _ rfl; (with_reducible repeat (first | refine za5 ?_ _ | refine za6 ?_ | refine za4 ?_ _)); exact BK210.out) hb); have n4_ := Aside0.mk (zac (by repeat (first | (with_reducible first | exact HB.out | apply za2 | apply za0 | apply za1 | refine za3 ?_ GE201.out | refine za3 ?_ GE210.out) | exact HB.out)) hb); clear HO_4; clear BK201; clear BK210; clear HB; have HO_4 := n0_; have HO213 := n1_; have BK201 := n2_; have BK210 := n3_; have HB := n4_; clear n0_ n1_ n2_ n3_ n4_; (try clear hb); (try clear hb2); (try clear hk); (try clear hi); (try clear ho0); obtain ⟨Ao30, co30, eo30⟩ := Kd.zas HO213.out; subst eo30) | (go_at_call 91; (with_reducible refine (spec_poSmall.calls k1 _ _ t211 true _ ?side1 ?side2 A22.out).mono ?_); (case side1 => repeat (first | exact (Kd.R_reads' HO213.out).2.2 | (with_reducible refine Kd.zav ?_ _) | (with_reducible refine Kd.zau ?_ _) | (with_reducible refine Kd.zaz ?_))); (case side2 => exact (Kd.R_reads' HO213.out).2.1); rintro e w' ⟨rfl, ⟨nd, rfl⟩⟩) | ((with_reducible refine gate_builtin (b := .append) (xs := #[.tmp 35, .tmp 37]) rfl ?_); at_builtin; refine Kd.N_append (Kd.slice 3 (Kd.int .i64)) (w0 := w) w.heap.size rfl (.tmp 35) (.tmp 37) 64 22 (.slice none 0 0) 24 rfl Try.underlying64 info22 rfl (by decide) (by omega) (.slice Ao28 x4_1.length co28) x4_1 t211 [.slice Ao30 t211.length co30] (fun k_ => (w.heap.size ≤ k_) ∧ k_ ≠ gb201 ∧ k_ ≠ gb210) (fun k_ => ((fun k_ => (w.heap.size ≤ k_) ∧ k_ ≠ gb201 ∧ k_ ≠ gb210)) k_ ∧ some k_ ≠ (.slice Ao28 x4_1.length co28 : Value).ownBlock) rfl rfl ?aP (fun _ hk => hk) ?aF ?aO ?aB ?aS ?aL ?_; (case aP => exact (Kd.FK_slice_mk (Kd.R_reads' (Kd.R_mono (ok' := (fun k_ => ((fun k_ => (w.heap.size ≤ k_) ∧ k_ ≠ gb201 ∧ k_ ≠ gb210)) k_ ∧ some k_ ≠ (.slice Ao28 x4_1.length co28 : Value).ownBlock)) (Kd.R_types (Kd.R_types (Kd.R_apart' (HO213.out) (Kd.N_typed HO_4.out) (by decide)) BK201.out (by decide)) BK210.out (by decide)) (fun k_ hk => ⟨⟨hk.1.1.1.1, ⟨hk.1.2, hk.2⟩⟩, hk.1.1.2⟩))).2.1 (Kd.R_F (Kd.R_mono (ok' := (fun k_ => ((fun k_ => (w.heap.size ≤ k_) ∧ k_ ≠ gb201 ∧ k_ ≠ gb210)) k_ ∧ some k_ ≠ (.slice Ao28 x4_1.length co28 : Value).ownBlock)) (Kd.R_types (Kd.R_types (Kd.R_apart' (HO213.out) (Kd.N_typed HO_4.out) (by decide)) BK201.out (by decide)) BK210.out (by decide)) (fun k_ hk => ⟨⟨hk.1.1.1.1, ⟨hk.1.2, hk.2⟩⟩, hk.1.1.2⟩))))); (case aB => exact (by repeat (first | (with_reducible first | exact HB.out | apply za2 | apply za0 | apply za1 | refine za3 ?_ GE201.out | refine za3 ?_ GE210.out) | exact HB.out))); (case aF => exact (fun k_ hk => ⟨(Nat.le_trans (zaa (by repeat (first | (with_reducible first | exact HB.out | apply za2 | apply za0 | apply za1 | refine za3 ?_ GE201.out | refine za3 ?_ GE210.out) | exact HB.out))) hk), Kd.freshB (g := gb201) (o := .cells #[.slice (some ad209) l0_0.length c0_0, .int .i64 a0_1] 39 (0, 0)) (by (with_reducible repeat (first | refine za5 ?_ _ | refine za6 ?_ | refine za4 ?_ _)); exact BK201.out) k_ hk, Kd.freshB (g := gb210) (o := .cells #[.int .i64 ((za9 l0_0 x18_1).f0), .int .i64 ((za9 l0_0 x18_1).f1), .int .i64 ((za9 l0_0 x18_1).f2)] 69 (0, 0)) (by (with_reducible repeat (first | refine za5 ?_ _ | refine za6 ?_ | refine za4 ?_ _)); exact BK210.out) k_ hk⟩)); (case aO => exact (by (with_reducible repeat (first | apply Kd.zb0 | apply Kd.zb1 | apply Kd.N_drew)); exact Kd.N_mono HO_4.out (fun _ hk => ⟨hk.1.1.1, ⟨hk.1.1.2, hk.1.2⟩⟩))); (case aS => exact (zaa (by repeat (first | (with_reducible first | exact HB.out | apply za2 | apply za0 | apply za1 | refine za3 ?_ GE201.out | refine za3 ?_ GE210.out) | exact HB.out)))); (case aL => have := LMc24.out; omega); intro v217 w31 ho hb hg hat; rw [← Ny216.out] at ho; have n0_ := Aside0.mk (blk_grown (g := gb201) (o := .cells #[.slice (some ad209) l0_0.length c0_0, .int .i64 a0_1] 39 (0, 0)) (by (with_reducible repeat (first | refine za5 ?_ _ | refine za6 ?_ | refine za4 ?_ _)); exact BK201.out) hg (Kd.N_ne HO_4.out BK201.out (by decide))); have n1_ := Aside0.mk (blk_grown (g := gb210) (o := .cells #[.int .i64 ((za9 l0_0 x18_1).f0), .int .i64 ((za9 l0_0 x18_1).f1), .int .i64 ((za9 l0_0 x18_1).f2)] 69 (0, 0)) (by (with_reducible repeat (first | refine za5 ?_ _ | refine za6 ?_ | refine za4 ?_ _)); exact BK210.out) hg (Kd.N_ne HO_4.out BK210.out (by decide))); have n2_ := Aside0.mk (hb); have n3_ := Aside0.mk (ho); clear BK201; clear BK210; clear HB; clear HO_4; clear HO213; have BK201 := n0_; have BK210 := n1_; have HB := n2_; have HO218 := n3_; clear n0_ n1_ n2_ n3_; clear ho hb hg hat))
          go_roundg k1
          case measure => have := HK1.out; omega
          case rel => exact ⟨(y216), (wrap64 (x18_1 + 1)), (by first | rfl | (simp; done) | (simp [*]; done)), H', ⟨by have := HK1.out; omega⟩, ⟨by (with_reducible repeat (first | apply Kd.zb0 | apply Kd.zb1 | apply Kd.N_drew)); exact Kd.N_mono HO218.out (fun _ hk => ⟨hk.1, hk.2.1⟩)⟩, ⟨by (with_reducible repeat (first | refine za5 ?_ _ | refine za6 ?_ | refine za4 ?_ _)); exact BK201.out⟩, ⟨by repeat (first | (with_reducible first | exact HB.out | apply za2 | apply za0 | apply za1 | refine za3 ?_ GE201.out | refine za3 ?_ GE210.out) | exact HB.out)⟩⟩
         ·rw [if_neg c24] at H
          exact absurd H (by simp)
        ·replace c23 := Bool.eq_false_iff.mpr c23
         subst c23
         have H1 : (some (([] : List (List Int)), false)) = some (r1, r2) := by rw [if_neg (show ¬ (false = true) by decide)] at H; exact H
         clear H
         have H := H1
         clear H1
         simp only [Option.some.injEq, Prod.mk.injEq] at H
         obtain ⟨rfl, rfl⟩ := H
         have p209 : 0 ≤ (x18_1 : Int) := of_decide_eq_true (by first | (with_reducible assumption) | assumption)
         have q209 : x18_1 < (l0_0.length : Int) := of_decide_eq_true (by first | (with_reducible assumption) | assumption)
         obtain ⟨ad209, e209, hx209_0, hx209_1, hx209_2⟩ := at_T69 HR0_0.out x18_1 p209 q209
         cases e209
         replace hx209_0 := (HB.out.cell (World.block_lt_of_cell? w _ hx209_0)).trans hx209_0
         replace hx209_1 := (HB.out.cell (World.block_lt_of_cell? w _ hx209_1)).trans hx209_1
         replace hx209_2 := (HB.out.cell (World.block_lt_of_cell? w _ hx209_2)).trans hx209_2
         replace p209 := eq_true p209
         replace q209 := eq_true q209
         go_wp2_with (first | ((with_reducible refine zai (N := 6) rfl ?_); refine zah ?hg (N := 6) ?hd (cs := #[.int .i64 0, .int .i64 0, .int .i64 0]) (t := 69) ?hr ?_; (case hd => rfl); (case hg => rfl); (case hr => first | (go_simp; done) | (go_simp; rfl)); intro gb210 hg w32 hbox hb; have n0_ := Aside0.mk (Kd.N_below (Kd.N_elderB (by (with_reducible repeat (first | apply Kd.zb0 | apply Kd.zb1 | apply Kd.N_drew)); exact HO_4.out) gb210 (Nat.le_of_eq hg.symm)) hb); have n1_ := Aside0.mk (zad (g := gb201) (o := .cells #[.slice (some ad209) l0_0.length c0_0, .int .i64 a0_1] 39 (0, 0)) (by (with_reducible repeat (first | refine za5 ?_ _ | refine za6 ?_ | refine za4 ?_ _)); exact BK201.out) hb); have n2_ := Aside0.mk (zac (by repeat (first | (with_reducible first | exact HB.out | apply za2 | apply za0 | apply za1 | refine za3 ?_ GE201.out) | exact HB.out)) hb); have n3_ := Aside0.mk (hbox); have n4_ := Aside0.mk ((by rw [hg]; exact (zaa (by repeat (first | (with_reducible first | exact HB.out | apply za2 | apply za0 | apply za1 | refine za3 ?_ GE201.out) | exact HB.out))) : w.heap.size ≤ gb210)); have n5_ := Aside0.mk ((by rw [hg]; exact (zaa (by repeat (first | (with_reducible first | exact HB.out | apply za2 | apply za0 | apply za1 | refine za3 ?_ GE201.out) | exact HB.out))) : w.heap.size ≤ gb210)); have n6_ := Aside0.mk ((by rw [hg]; exact Nat.ne_of_lt (zao (g := gb201) (o := .cells #[.slice (some ad209) l0_0.length c0_0, .int .i64 a0_1] 39 (0, 0)) (by (with_reducible repeat (first | refine za5 ?_ _ | refine za6 ?_ | refine za4 ?_ _)); exact BK201.out)) : gb201 ≠ gb210)); have n7_ := Aside0.mk ((by rw [hg]; exact Nat.ne_of_gt (zao (g := gb201) (o := .cells #[.slice (some ad209) l0_0.length c0_0, .int .i64 a0_1] 39 (0, 0)) (by (with_reducible repeat (first | refine za5 ?_ _ | refine za6 ?_ | refine za4 ?_ _)); exact BK201.out)) : gb210 ≠ gb201)); clear HO_4; clear BK201; clear HB; have HO_4 := n0_; have BK201 := n1_; have HB := n2_; have BK210 := n3_; have GW210 := n4_; have GE210 := n5_; have NB201_210 := n6_; have NB210_201 := n7_; clear n0_ n1_ n2_ n3_ n4_ n5_ n6_ n7_; clear hb hbox hg; have hnb33 := NB210_201.out; have hnc33 := NB201_210.out; have hcz34_0 : w32.cell? ⟨gb210, 0, none⟩ = some (.int .i64 0) := (za8 BK210.out 0).trans rfl; have hcz34_1 : w32.cell? ⟨gb210, 1, none⟩ = some (.int .i64 0) := (za8 BK210.out 1).trans rfl; have hcz34_2 : w32.cell? ⟨gb210, 2, none⟩ = some (.int .i64 0) := (za8 BK210.out 2).trans rfl; have hfz34_0 := za7 BK210.out 0; have hfz34_1 := za7 BK210.out 1; have hfz34_2 := za7 BK210.out 2; obtain ⟨Ao35, co35, eo35⟩ := Kd.N_slice HO_4.out; subst eo35) | ((with_reducible refine zal (f := 103) rfl ?_); refine goesL_ (some 25) rfl rfl Try.func103 (by kernel_rfl) rfl #[.agg #[.int .i64 ((za9 l0_0 x18_1).f0), .int .i64 ((za9 l0_0 x18_1).f1), .int .i64 ((za9 l0_0 x18_1).f2)], .slice Ao35 x4_1.length co35] rfl (by (try simp only [List.map_toArray, List.map_cons, List.map_nil]); first | done | rfl | (simp only [List.length_drop, List.length_take]; rfl)) ?_; (with_reducible refine (spec_poOp.calls k1 ((za9 l0_0 x18_1).f0) ((za9 l0_0 x18_1).f1) ((za9 l0_0 x18_1).f2) _ _ x4_1 t211 true _ ?side1 ?side2 A20.out).mono ?_); (case side1 => refine (Kd.N_reads' (e := 22) (base := w.heap.size) (ok := fun k_ => (((w.heap.size ≤ k_) ∧ k_ ≠ gb201) ∧ k_ ≠ gb210)) (n := x4_1.length) (c := co35) ?_).2.2; exact (by (with_reducible repeat (first | apply Kd.zb0 | apply Kd.zb1 | apply Kd.N_drew)); exact (Kd.N_mono (Kd.N_far (p := ⟨gb210, 2, none⟩) (Kd.N_far (p := ⟨gb210, 1, none⟩) (Kd.N_far (p := ⟨gb210, 0, none⟩) (Kd.N_mono HO_4.out (fun k_ hk => (⟨hk, hk.2⟩ : _ ∧ k_ ≠ gb210))) (fun _ hk => hk.2) (.int .i64 ((za9 l0_0 x18_1).f0))) (fun _ hk => hk.2) (.int .i64 ((za9 l0_0 x18_1).f1))) (fun _ hk => hk.2) (.int .i64 ((za9 l0_0 x18_1).f2))) (fun _ h_ => h_.1)))); (case side2 => exact (Kd.N_reads' HO_4.out).2.1); rintro e w36 ⟨v212, rfl, ho0, hb⟩; refine ⟨_, rfl, ?_⟩; have n0_ := Aside0.mk (Kd.N_elder' (by (with_reducible repeat (first | apply Kd.zb0 | apply Kd.zb1 | apply Kd.N_drew)); exact (Kd.N_mono (Kd.N_far (p := ⟨gb210, 2, none⟩) (Kd.N_far (p := ⟨gb210, 1, none⟩) (Kd.N_far (p := ⟨gb210, 0, none⟩) (Kd.N_mono HO_4.out (fun k_ hk => (⟨hk, hk.2⟩ : _ ∧ k_ ≠ gb210))) (fun _ hk => hk.2) (.int .i64 ((za9 l0_0 x18_1).f0))) (fun _ hk => hk.2) (.int .i64 ((za9 l0_0 x18_1).f1))) (fun _ hk => hk.2) (.int .i64 ((za9 l0_0 x18_1).f2))) (fun _ h_ => h_.1))) (Kd.R_base ho0) hb); have n1_ := Aside0.mk (Kd.R_lower (Kd.R_newM (M := fun k_ => (w.heap.size ≤ k_)) ho0 (zaa (by repeat (first | (with_reducible first | exact HB.out | apply za2 | apply za0 | apply za1 | refine za3 ?_ GE201.out | refine za3 ?_ GE210.out) | exact HB.out))) (fun k_ h_ => h_)) (zaa (by repeat (first | (with_reducible first | exact HB.out | apply za2 | apply za0 | apply za1 | refine za3 ?_ GE201.out | refine za3 ?_ GE210.out) | exact HB.out)))); have n2_ := Aside0.mk (zad (g := gb201) (o := .cells #[.slice (some ad209) l0_0.length c0_0, .int .i64 a0_1] 39 (0, 0)) (by (with_reducible repeat (first | refine za5 ?_ _ | refine za6 ?_ | refine za4 ?_ _)); refine zay ?_ NB201_210.out _; (with_reducible repeat (first | refine za5 ?_ _ | refine za6 ?_ | refine za4 ?_ _)); refine zay ?_ NB201_210.out _; (with_reducible repeat (first | refine za5 ?_ _ | refine za6 ?_ | refine za4 ?_ _)); refine zay ?_ NB201_210.out _; (with_reducible repeat (first | refine za5 ?_ _ | refine za6 ?_ | refine za4 ?_ _)); exact BK201.out) hb); have n3_ := Aside0.mk (zad (g := gb210) (o := .cells #[.int .i64 ((za9 l0_0 x18_1).f0), .int .i64 ((za9 l0_0 x18_1).f1), .int .i64 ((za9 l0_0 x18_1).f2)] 69 (0, 0)) (by (with_reducible repeat (first | refine za5 ?_ _ | refine za6 ?_ | refine za4 ?_ _)); refine zat (cs := #[.int .i64 ((za9 l0_0 x18_1).f0), .int .i64 ((za9 l0_0 x18_1).f1), .int .i64 0]) ?_ 2 _ rfl; (with_reducible repeat (first | refine za5 ?_ _ | refine za6 ?_ | refine za4 ?_ _)); refine zat (cs := #[.int .i64 ((za9 l0_0 x18_1).f0), .int .i64 0, .int .i64 0]) ?_ 1 _ rfl; (with_reducible repeat (first | refine za5 ?_ _ | refine za6 ?_ | refine za4 ?_ _)); refine zat (cs := #[.int .i64 0, .int .i64 0, .int .i64 0]) ?_ 0 _ rfl; (with_reducible repeat (first | refine za5 ?_ _ | refine za6 ?_ | refine za4 ?_ _)); exact BK210.out) hb); have n4_ := Aside0.mk (zac (by repeat (first | (with_reducible first | exact HB.out | apply za2 | apply za0 | apply za1 | refine za3 ?_ GE201.out | refine za3 ?_ GE210.out) | exact HB.out)) hb); clear HO_4; clear BK201; clear BK210; clear HB; have HO_4 := n0_; have HO213 := n1_; have BK201 := n2_; have BK210 := n3_; have HB := n4_; clear n0_ n1_ n2_ n3_ n4_; (try clear hb); (try clear hb2); (try clear hk); (try clear hi); (try clear ho0); obtain ⟨Ao37, co37, eo37⟩ := Kd.zas HO213.out; subst eo37) | (go_at_call 91; (with_reducible refine (spec_poSmall.calls k1 _ _ t211 false _ ?side1 ?side2 A22.out).mono ?_); (case side1 => repeat (first | exact (Kd.R_reads' HO213.out).2.2 | (with_reducible refine Kd.zav ?_ _) | (with_reducible refine Kd.zau ?_ _) | (with_reducible refine Kd.zaz ?_))); (case side2 => exact (Kd.R_reads' HO213.out).2.1); rintro e w' ⟨rfl, ⟨nd, rfl⟩⟩))
         go_ret2
         exact ⟨_, by first | rfl | (simp [zaf, zae] <;> rfl) | (simp [*, zaf, zae] <;> rfl), by first | exact Kd.S_nil _ _ _ _ _ | exact Kd.N_nil _ _ _ _ _ | exact Kd.V_nil _ _ _ _ _ | exact Kd.Q_nil _ _ _ _ _ | exact Kd.R_nil _ _ _ _ _, by repeat (first | (with_reducible first | exact HB.out | apply za2 | apply za0 | apply za1 | refine za3 ?_ GE201.out | refine za3 ?_ GE210.out) | exact HB.out)⟩
       ·replace c21 := Bool.eq_false_iff.mpr c21
        subst c21
        have H1 : (some (([] : List (List Int)), false)) = some (r1, r2) := by rw [if_neg (show ¬ (false = true) by decide)] at H; exact H
        clear H
        have H := H1
        clear H1
        simp only [Option.some.injEq, Prod.mk.injEq] at H
        obtain ⟨rfl, rfl⟩ := H
        have p209 : 0 ≤ (x18_1 : Int) := of_decide_eq_true (by first | (with_reducible assumption) | assumption)
        have q209 : x18_1 < (l0_0.length : Int) := of_decide_eq_true (by first | (with_reducible assumption) | assumption)
        obtain ⟨ad209, e209, hx209_0, hx209_1, hx209_2⟩ := at_T69 HR0_0.out x18_1 p209 q209
        cases e209
        replace hx209_0 := (HB.out.cell (World.block_lt_of_cell? w _ hx209_0)).trans hx209_0
        replace hx209_1 := (HB.out.cell (World.block_lt_of_cell? w _ hx209_1)).trans hx209_1
        replace hx209_2 := (HB.out.cell (World.block_lt_of_cell? w _ hx209_2)).trans hx209_2
        replace p209 := eq_true p209
        replace q209 := eq_true q209
        go_wp2_with (first | ((with_reducible refine zai (N := 6) rfl ?_); refine zah ?hg (N := 6) ?hd (cs := #[.int .i64 0, .int .i64 0, .int .i64 0]) (t := 69) ?hr ?_; (case hd => rfl); (case hg => rfl); (case hr => first | (go_simp; done) | (go_simp; rfl)); intro gb210 hg w38 hbox hb; have n0_ := Aside0.mk (Kd.N_below (Kd.N_elderB (by (with_reducible repeat (first | apply Kd.zb0 | apply Kd.zb1 | apply Kd.N_drew)); exact HO_4.out) gb210 (Nat.le_of_eq hg.symm)) hb); have n1_ := Aside0.mk (zad (g := gb201) (o := .cells #[.slice (some ad209) l0_0.length c0_0, .int .i64 a0_1] 39 (0, 0)) (by (with_reducible repeat (first | refine za5 ?_ _ | refine za6 ?_ | refine za4 ?_ _)); exact BK201.out) hb); have n2_ := Aside0.mk (zac (by repeat (first | (with_reducible first | exact HB.out | apply za2 | apply za0 | apply za1 | refine za3 ?_ GE201.out) | exact HB.out)) hb); have n3_ := Aside0.mk (hbox); have n4_ := Aside0.mk ((by rw [hg]; exact (zaa (by repeat (first | (with_reducible first | exact HB.out | apply za2 | apply za0 | apply za1 | refine za3 ?_ GE201.out) | exact HB.out))) : w.heap.size ≤ gb210)); have n5_ := Aside0.mk ((by rw [hg]; exact (zaa (by repeat (first | (with_reducible first | exact HB.out | apply za2 | apply za0 | apply za1 | refine za3 ?_ GE201.out) | exact HB.out))) : w.heap.size ≤ gb210)); have n6_ := Aside0.mk ((by rw [hg]; exact Nat.ne_of_lt (zao (g := gb201) (o := .cells #[.slice (some ad209) l0_0.length c0_0, .int .i64 a0_1] 39 (0, 0)) (by (with_reducible repeat (first | refine za5 ?_ _ | refine za6 ?_ | refine za4 ?_ _)); exact BK201.out)) : gb201 ≠ gb210)); have n7_ := Aside0.mk ((by rw [hg]; exact Nat.ne_of_gt (zao (g := gb201) (o := .cells #[.slice (some ad209) l0_0.length c0_0, .int .i64 a0_1] 39 (0, 0)) (by (with_reducible repeat (first | refine za5 ?_ _ | refine za6 ?_ | refine za4 ?_ _)); exact BK201.out)) : gb210 ≠ gb201)); clear HO_4; clear BK201; clear HB; have HO_4 := n0_; have BK201 := n1_; have HB := n2_; have BK210 := n3_; have GW210 := n4_; have GE210 := n5_; have NB201_210 := n6_; have NB210_201 := n7_; clear n0_ n1_ n2_ n3_ n4_ n5_ n6_ n7_; clear hb hbox hg; have hnb39 := NB210_201.out; have hnc39 := NB201_210.out; have hcz40_0 : w38.cell? ⟨gb210, 0, none⟩ = some (.int .i64 0) := (za8 BK210.out 0).trans rfl; have hcz40_1 : w38.cell? ⟨gb210, 1, none⟩ = some (.int .i64 0) := (za8 BK210.out 1).trans rfl; have hcz40_2 : w38.cell? ⟨gb210, 2, none⟩ = some (.int .i64 0) := (za8 BK210.out 2).trans rfl; have hfz40_0 := za7 BK210.out 0; have hfz40_1 := za7 BK210.out 1; have hfz40_2 := za7 BK210.out 2; obtain ⟨Ao41, co41, eo41⟩ := Kd.N_slice HO_4.out; subst eo41) | ((with_reducible refine zal (f := 103) rfl ?_); refine goesL_ (some 25) rfl rfl Try.func103 (by kernel_rfl) rfl #[.agg #[.int .i64 ((za9 l0_0 x18_1).f0), .int .i64 ((za9 l0_0 x18_1).f1), .int .i64 ((za9 l0_0 x18_1).f2)], .slice Ao41 x4_1.length co41] rfl (by (try simp only [List.map_toArray, List.map_cons, List.map_nil]); first | done | rfl | (simp only [List.length_drop, List.length_take]; rfl)) ?_; (with_reducible refine (spec_poOp.calls k1 ((za9 l0_0 x18_1).f0) ((za9 l0_0 x18_1).f1) ((za9 l0_0 x18_1).f2) _ _ x4_1 t211 false _ ?side1 ?side2 A20.out).mono ?_); (case side1 => refine (Kd.N_reads' (e := 22) (base := w.heap.size) (ok := fun k_ => (((w.heap.size ≤ k_) ∧ k_ ≠ gb201) ∧ k_ ≠ gb210)) (n := x4_1.length) (c := co41) ?_).2.2; exact (by (with_reducible repeat (first | apply Kd.zb0 | apply Kd.zb1 | apply Kd.N_drew)); exact (Kd.N_mono (Kd.N_far (p := ⟨gb210, 2, none⟩) (Kd.N_far (p := ⟨gb210, 1, none⟩) (Kd.N_far (p := ⟨gb210, 0, none⟩) (Kd.N_mono HO_4.out (fun k_ hk => (⟨hk, hk.2⟩ : _ ∧ k_ ≠ gb210))) (fun _ hk => hk.2) (.int .i64 ((za9 l0_0 x18_1).f0))) (fun _ hk => hk.2) (.int .i64 ((za9 l0_0 x18_1).f1))) (fun _ hk => hk.2) (.int .i64 ((za9 l0_0 x18_1).f2))) (fun _ h_ => h_.1)))); (case side2 => exact (Kd.N_reads' HO_4.out).2.1); rintro e w42 ⟨v212, rfl, ho0, hb⟩; refine ⟨_, rfl, ?_⟩; have n0_ := Aside0.mk (Kd.N_elder' (by (with_reducible repeat (first | apply Kd.zb0 | apply Kd.zb1 | apply Kd.N_drew)); exact (Kd.N_mono (Kd.N_far (p := ⟨gb210, 2, none⟩) (Kd.N_far (p := ⟨gb210, 1, none⟩) (Kd.N_far (p := ⟨gb210, 0, none⟩) (Kd.N_mono HO_4.out (fun k_ hk => (⟨hk, hk.2⟩ : _ ∧ k_ ≠ gb210))) (fun _ hk => hk.2) (.int .i64 ((za9 l0_0 x18_1).f0))) (fun _ hk => hk.2) (.int .i64 ((za9 l0_0 x18_1).f1))) (fun _ hk => hk.2) (.int .i64 ((za9 l0_0 x18_1).f2))) (fun _ h_ => h_.1))) (Kd.R_base ho0) hb); have n1_ := Aside0.mk (Kd.R_lower (Kd.R_newM (M := fun k_ => (w.heap.size ≤ k_)) ho0 (zaa (by repeat (first | (with_reducible first | exact HB.out | apply za2 | apply za0 | apply za1 | refine za3 ?_ GE201.out | refine za3 ?_ GE210.out) | exact HB.out))) (fun k_ h_ => h_)) (zaa (by repeat (first | (with_reducible first | exact HB.out | apply za2 | apply za0 | apply za1 | refine za3 ?_ GE201.out | refine za3 ?_ GE210.out) | exact HB.out)))); have n2_ := Aside0.mk (zad (g := gb201) (o := .cells #[.slice (some ad209) l0_0.length c0_0, .int .i64 a0_1] 39 (0, 0)) (by (with_reducible repeat (first | refine za5 ?_ _ | refine za6 ?_ | refine za4 ?_ _)); refine zay ?_ NB201_210.out _; (with_reducible repeat (first | refine za5 ?_ _ | refine za6 ?_ | refine za4 ?_ _)); refine zay ?_ NB201_210.out _; (with_reducible repeat (first | refine za5 ?_ _ | refine za6 ?_ | refine za4 ?_ _)); refine zay ?_ NB201_210.out _; (with_reducible repeat (first | refine za5 ?_ _ | refine za6 ?_ | refine za4 ?_ _)); exact BK201.out) hb); have n3_ := Aside0.mk (zad (g := gb210) (o := .cells #[.int .i64 ((za9 l0_0 x18_1).f0), .int .i64 ((za9 l0_0 x18_1).f1), .int .i64 ((za9 l0_0 x18_1).f2)] 69 (0, 0)) (by (with_reducible repeat (first | refine za5 ?_ _ | refine za6 ?_ | refine za4 ?_ _)); refine zat (cs := #[.int .i64 ((za9 l0_0 x18_1).f0), .int .i64 ((za9 l0_0 x18_1).f1), .int .i64 0]) ?_ 2 _ rfl; (with_reducible repeat (first | refine za5 ?_ _ | refine za6 ?_ | refine za4 ?_ _)); refine zat (cs := #[.int .i64 ((za9 l0_0 x18_1).f0), .int .i64 0, .int .i64 0]) ?_ 1 _ rfl; (with_reducible repeat (first | refine za5 ?_ _ | refine za6 ?_ | refine za4 ?_ _)); refine zat (cs := #[.int .i64 0, .int .i64 0, .int .i64 0]) ?_ 0 _ rfl; (with_reducible repeat (first | refine za5 ?_ _ | refine za6 ?_ | refine za4 ?_ _)); exact BK210.out) hb); have n4_ := Aside0.mk (zac (by repeat (first | (with_reducible first | exact HB.out | apply za2 | apply za0 | apply za1 | refine za3 ?_ GE201.out | refine za3 ?_ GE210.out) | exact HB.out)) hb); clear HO_4; clear BK201; clear BK210; clear HB; have HO_4 := n0_; have HO213 := n1_; have BK201 := n2_; have BK210 := n3_; have HB := n4_; clear n0_ n1_ n2_ n3_ n4_; (try clear hb); (try clear hb2); (try clear hk); (try clear hi); (try clear ho0)))
        go_ret2
        exact ⟨_, by first | rfl | (simp [zaf, zae] <;> rfl) | (simp [*, zaf, zae] <;> rfl), by first | exact Kd.S_nil _ _ _ _ _ | exact Kd.N_nil _ _ _ _ _ | exact Kd.V_nil _ _ _ _ _ | exact Kd.Q_nil _ _ _ _ _ | exact Kd.R_nil _ _ _ _ _, by repeat (first | (with_reducible first | exact HB.out | apply za2 | apply za0 | apply za1 | refine za3 ?_ GE201.out | refine za3 ?_ GE210.out) | exact HB.out)⟩
      ·rw [if_neg c19] at H
       exact absurd H (by simp)
     ·rw [if_neg c18] at H
      exact absurd H (by simp)
    ·rw [if_neg c17] at H
     have c17b0 : decide (x18_1 < (l0_0.length : Int)) = false := decide_eq_false c17
     clear c17
     replace H := Option.bind_eq_some_iff.mp H
     obtain ⟨t208, A430, H⟩ := H
     replace H : (some (x4_1, t208)) = some (r1, r2) := H
     have A43 := Aside0.mk A430
     clear A430
     simp only [Option.some.injEq, Prod.mk.injEq] at H
     obtain ⟨rfl, rfl⟩ := H
     have hcz44_0 : wr.cell? ⟨gb201, 0, none⟩ = some (.slice A0_0 l0_0.length c0_0) := (za8 BK201.out 0).trans rfl
     have hcz44_1 : wr.cell? ⟨gb201, 1, none⟩ = some (.int .i64 a0_1) := (za8 BK201.out 1).trans rfl
     have hfz44_0 := za7 BK201.out 0
     have hfz44_1 := za7 BK201.out 1
     go_wp2_with (first | ((with_reducible refine zal (f := 59) rfl ?_); refine goesL_ (some 46) rfl rfl Try.func59 (by kernel_rfl) rfl #[.int .i64 a0_1, .int .i64 0, .int .i64 (l0_0.length : Int)] rfl (by (try simp only [List.map_toArray, List.map_cons, List.map_nil]); first | done | rfl | (simp only [List.length_drop, List.length_take]; rfl)) ?_; (with_reducible refine (spec_l1In.calls a0_1 0 (l0_0.length : Int) t208 _ A43.out).mono ?_); rintro e w' ⟨rfl, ⟨nd, rfl⟩⟩; refine ⟨_, rfl, ?_⟩))
     go_ret2
     exact ⟨_, by first | rfl | (simp [zaf, zae] <;> rfl) | (simp [*, zaf, zae] <;> rfl), by (with_reducible repeat (first | apply Kd.zb0 | apply Kd.zb1 | apply Kd.N_drew)); exact Kd.N_mono HO_4.out (fun _ hk => hk.1), by repeat (first | (with_reducible first | exact HB.out | apply za2 | apply za0 | apply za1 | refine za3 ?_ GE201.out) | exact HB.out)⟩

/-! ### spec_poGood: function 65 -/
def spec_poGood.f (k : Nat) (l0_0 : List (S69)) (a0_1 : Int) : Option (Bool) := (spec_poValues.f k l0_0 a0_1).bind fun bt220 => (some bt220.2)
theorem spec_poGood.mono : ∀ a0 a1 k, LeO (spec_poGood.f k a0 a1) (spec_poGood.f (k + 1) a0 a1) := by
 intro a0 a1 k
 unfold spec_poGood.f
 repeat' first
   | (with_reducible exact spec_poValues.mono _ _ _)
   | (with_reducible exact LeO.refl _)
   | (with_reducible exact LeO.none _)
   | (with_reducible refine LeO.ite ?_ ?_)
   | (with_reducible refine LeO.bind ?_ (fun _ => ?_))
   | exact spec_poValues.mono _ _ _
   | exact LeO.none _
   | refine LeO.ite ?_ ?_
   | refine LeO.bind ?_ (fun _ => ?_)
set_option maxHeartbeats 8000000 in
set_option maxRecDepth 100000 in
theorem spec_poGood.calls (k : Nat) (A0_0 : Option Addr) (c0_0 : Nat) (l0_0 : List (S69)) (a0_1 : Int) (r : Bool) (w : World) (hr0_0 : Kd.C k69 w A0_0 l0_0.length l0_0) (hc0_0 : l0_0.length ≤ c0_0) (h : spec_poGood.f k l0_0 a0_1 = some r) :
  Calls Try.prog 65 #[.agg #[.slice A0_0 l0_0.length c0_0, .int .i64 a0_1]] w fun e w' => e = .returned (.bool r) ∧ Below w.heap.size w w' := by
 have hu39 := Try.underlying39
 have HR0_0 := Aside0.mk hr0_0
 have HC0_0 := Aside0.mk hc0_0
 clear hr0_0 hc0_0
 have HB := Aside0.mk (Below.refl w.heap.size w)
 have H : ((spec_poValues.f k l0_0 a0_1).bind fun bt220 => (some bt220.2)) = some r := h
 clear h
 replace H := Option.bind_eq_some_iff.mp H
 obtain ⟨⟨t220, t223⟩, A20, H⟩ := H
 replace H : (some t223) = some r := H
 have A2 := Aside0.mk A20
 clear A20
 obtain rfl := Option.some.inj H
 go_enter Try.func65, Try.ntmps65
 go_wp2_with (first | ((with_reducible refine zai (N := 1) rfl ?_); refine zah ?hg (N := 1) ?hd (cs := #[.slice A0_0 l0_0.length c0_0, .int .i64 a0_1]) (t := 39) ?hr ?_; (case hd => rfl); (case hg => rfl); (case hr => first | (go_simp; done) | (go_simp; rfl)); intro gb219 hg w3 hbox hb; have n0_ := Aside0.mk (zac (by repeat (first | (with_reducible first | exact HB.out | apply za2 | apply za0 | apply za1) | exact HB.out)) hb); have n1_ := Aside0.mk (hbox); have n2_ := Aside0.mk ((by rw [hg]; exact (zaa (by repeat (first | (with_reducible first | exact HB.out | apply za2 | apply za0 | apply za1) | exact HB.out))) : w.heap.size ≤ gb219)); have n3_ := Aside0.mk ((by rw [hg]; exact (zaa (by repeat (first | (with_reducible first | exact HB.out | apply za2 | apply za0 | apply za1) | exact HB.out))) : w.heap.size ≤ gb219)); clear HB; have HB := n0_; have BK219 := n1_; have GW219 := n2_; have GE219 := n3_; clear n0_ n1_ n2_ n3_; clear hb hbox hg; have hcz4_0 : w3.cell? ⟨gb219, 0, none⟩ = some (.slice A0_0 l0_0.length c0_0) := (za8 BK219.out 0).trans rfl; have hcz4_1 : w3.cell? ⟨gb219, 1, none⟩ = some (.int .i64 a0_1) := (za8 BK219.out 1).trans rfl; have hfz4_0 := za7 BK219.out 0; have hfz4_1 := za7 BK219.out 1) | ((with_reducible refine zal (f := 73) rfl ?_); refine goesL_ (some 7) rfl rfl Try.func73 (by kernel_rfl) rfl #[.agg #[.slice A0_0 l0_0.length c0_0, .int .i64 a0_1]] rfl (by (try simp only [List.map_toArray, List.map_cons, List.map_nil]); first | done | rfl | (simp only [List.length_drop, List.length_take]; rfl)) ?_; (with_reducible refine (spec_poValues.calls k _ _ l0_0 a0_1 t220 t223 _ ?side1 ?side2 A2.out).mono ?_); (case side1 => repeat (first | exact (Kd.zar HR0_0.out HB.out) | (with_reducible refine Kd.zav ?_ _) | (with_reducible refine Kd.zau ?_ _) | (with_reducible refine Kd.zaz ?_))); (case side2 => exact HC0_0.out); rintro e w5 ⟨v221, rfl, ho0, hb⟩; refine ⟨_, rfl, ?_⟩; have n0_ := Aside0.mk (Kd.N_lower (Kd.N_mono (ok' := fun k_ => k_ ≠ gb219) ho0 (fun k_ hk_ => (Kd.freshB (g := gb219) (o := .cells #[.slice A0_0 l0_0.length c0_0, .int .i64 a0_1] 39 (0, 0)) (by (with_reducible repeat (first | refine za5 ?_ _ | refine za6 ?_ | refine za4 ?_ _)); exact BK219.out) k_ hk_))) (zaa (by repeat (first | (with_reducible first | exact HB.out | apply za2 | apply za0 | apply za1 | refine za3 ?_ GE219.out) | exact HB.out)))); have n1_ := Aside0.mk (zad (g := gb219) (o := .cells #[.slice A0_0 l0_0.length c0_0, .int .i64 a0_1] 39 (0, 0)) (by (with_reducible repeat (first | refine za5 ?_ _ | refine za6 ?_ | refine za4 ?_ _)); exact BK219.out) hb); have n2_ := Aside0.mk (zac (by repeat (first | (with_reducible first | exact HB.out | apply za2 | apply za0 | apply za1 | refine za3 ?_ GE219.out) | exact HB.out)) hb); clear BK219; clear HB; have HO222 := n0_; have BK219 := n1_; have HB := n2_; clear n0_ n1_ n2_; (try clear hb); (try clear hb2); (try clear hk); (try clear hi); (try clear ho0)))
 go_ret
 exact ⟨by first | rfl | (simp [zaf, zae] <;> rfl) | (simp [*, zaf, zae] <;> rfl), by repeat (first | (with_reducible first | exact HB.out | apply za2 | apply za0 | apply za1 | refine za3 ?_ GE219.out) | exact HB.out)⟩

/-! ### spec_poIf: function 78 -/
def spec_poIf.f (k : Nat) (l0_0 : List (S69)) (a0_1 : Int) : Option ((List (S69)) × Int × Bool) := (spec_poGood.f k l0_0 a0_1).bind fun t226 => (if t226 = true then (some (l0_0, a0_1, true)) else (some (([] : List (S69)), 0, false)))
theorem spec_poIf.mono : ∀ a0 a1 k, LeO (spec_poIf.f k a0 a1) (spec_poIf.f (k + 1) a0 a1) := by
 intro a0 a1 k
 unfold spec_poIf.f
 repeat' first
   | (with_reducible exact spec_poGood.mono _ _ _)
   | (with_reducible exact LeO.refl _)
   | (with_reducible exact LeO.none _)
   | (with_reducible refine LeO.ite ?_ ?_)
   | (with_reducible refine LeO.bind ?_ (fun _ => ?_))
   | exact spec_poGood.mono _ _ _
   | exact LeO.none _
   | refine LeO.ite ?_ ?_
   | refine LeO.bind ?_ (fun _ => ?_)
set_option maxHeartbeats 8000000 in
set_option maxRecDepth 100000 in
theorem spec_poIf.calls (k : Nat) (P0_0_ : Nat → Prop) (u9000_ : Value) (l0_0 : List (S69)) (a0_1 : Int) (r1 : List (S69)) (r2 : Int) (r3 : Bool) (w0 w : World) (hB : Below w0.heap.size w0 w) (ho0_0 : Kd.R k69 69 w w0.heap.size P0_0_ u9000_ l0_0) (h : spec_poIf.f k l0_0 a0_1 = some (r1, r2, r3)) :
  Calls Try.prog 78 #[.agg #[u9000_, .int .i64 a0_1]] w fun e w' => ∃ v0_ : Value, e = .returned (.tuple #[.agg #[v0_, .int .i64 r2], .bool r3]) ∧ Kd.R k69 69 w' w0.heap.size (fun k_ => (P0_0_ k_ ∨ w.heap.size ≤ k_)) v0_ r1 ∧ Below w0.heap.size w0 w' ∧ Kept w w' (fun k_ => P0_0_ k_) := by
 have hu39 := Try.underlying39
 have HO0_0 := Aside0.mk (show Kd.R k69 69 w w0.heap.size (fun k_ => (P0_0_ k_ ∨ w.heap.size ≤ k_)) u9000_ l0_0 from Kd.R_mono ho0_0 (fun k_ hk => (.inl hk)))
 have HK := Aside0.mk (Kept.refl w (fun k_ => P0_0_ k_))
 have HW0 := Aside0.mk hB.size
 have HB := Aside0.mk hB
 clear hB
 have H : ((spec_poGood.f k l0_0 a0_1).bind fun t226 => (if t226 = true then (some (l0_0, a0_1, true)) else (some (([] : List (S69)), 0, false)))) = some (r1, r2, r3) := h
 clear h
 replace H := Option.bind_eq_some_iff.mp H
 obtain ⟨t226, A20, H⟩ := H
 replace H : (if t226 = true then (some (l0_0, a0_1, true)) else (some (([] : List (S69)), 0, false))) = some (r1, r2, r3) := H
 have A2 := Aside0.mk A20
 clear A20
 by_cases c3 : t226 = true
 ·subst c3
  have H1 : (some (l0_0, a0_1, true)) = some (r1, r2, r3) := by rw [if_pos rfl] at H; exact H
  clear H
  have H := H1
  clear H1
  simp only [Option.some.injEq, Prod.mk.injEq] at H
  obtain ⟨rfl, rfl, rfl⟩ := H
  obtain ⟨Ao4, co4, eo4⟩ := Kd.zas HO0_0.out
  subst eo4
  go_enter Try.func78, Try.ntmps78
  go_wp2_with (first | ((with_reducible refine zai (N := 1) rfl ?_); refine zah ?hg (N := 1) ?hd (cs := #[.slice Ao4 l0_0.length co4, .int .i64 a0_1]) (t := 39) ?hr ?_; (case hd => rfl); (case hg => rfl); (case hr => first | (go_simp; done) | (go_simp; rfl)); intro gb224 hg w5 hbox hb; have n0_ := Aside0.mk (Kd.zb2 (by (with_reducible repeat (first | apply Kd.zak | apply Kd.zaj | apply Kd.zam)); exact HO0_0.out) hb); have n1_ := Aside0.mk (Kept.below (S := (fun k_ => P0_0_ k_)) (by repeat (first | (with_reducible first | exact HK.out | apply Kept.alloc | apply Kept.drewN | apply Kept.drew) | exact HK.out)) hb); have n2_ := Aside0.mk (zac (by repeat (first | (with_reducible first | exact HB.out | apply za2 | apply za0 | apply za1) | exact HB.out)) hb); have n3_ := Aside0.mk (hbox); have n4_ := Aside0.mk ((by rw [hg]; exact (by first | exact HK.out.1 | exact (show Kept w _ (fun k_ => P0_0_ k_) from by repeat (first | (with_reducible first | exact HK.out | apply Kept.alloc | apply Kept.drewN | apply Kept.drew) | exact HK.out)).1) : w.heap.size ≤ gb224)); have n5_ := Aside0.mk ((by rw [hg]; exact (zaa (by repeat (first | (with_reducible first | exact HB.out | apply za2 | apply za0 | apply za1) | exact HB.out))) : w0.heap.size ≤ gb224)); clear HO0_0; clear HK; clear HB; have HO0_0 := n0_; have HK := n1_; have HB := n2_; have BK224 := n3_; have GW224 := n4_; have GE224 := n5_; clear n0_ n1_ n2_ n3_ n4_ n5_; clear hb hbox hg) | ((with_reducible refine zai (N := 2) rfl ?_); refine zah ?hg (N := 2) ?hd (cs := #[.slice none 0 0, .int .i64 0]) (t := 39) ?hr ?_; (case hd => rfl); (case hg => rfl); (case hr => first | (go_simp; done) | (go_simp; rfl)); intro gb225 hg w6 hbox hb; have n0_ := Aside0.mk (Kd.zb2 (by (with_reducible repeat (first | apply Kd.zak | apply Kd.zaj | apply Kd.zam)); exact HO0_0.out) hb); have n1_ := Aside0.mk (zad (g := gb224) (o := .cells #[.slice Ao4 l0_0.length co4, .int .i64 a0_1] 39 (0, 0)) (by (with_reducible repeat (first | refine za5 ?_ _ | refine za6 ?_ | refine za4 ?_ _)); exact BK224.out) hb); have n2_ := Aside0.mk (Kept.below (S := (fun k_ => P0_0_ k_)) (by repeat (first | (with_reducible first | exact HK.out | apply Kept.alloc | apply Kept.drewN | apply Kept.drew | refine Kept.setCell ?_ (.inr GW224.out) _) | exact HK.out)) hb); have n3_ := Aside0.mk (zac (by repeat (first | (with_reducible first | exact HB.out | apply za2 | apply za0 | apply za1 | refine za3 ?_ GE224.out) | exact HB.out)) hb); have n4_ := Aside0.mk (hbox); have n5_ := Aside0.mk ((by rw [hg]; exact (by first | exact HK.out.1 | exact (show Kept w _ (fun k_ => P0_0_ k_) from by repeat (first | (with_reducible first | exact HK.out | apply Kept.alloc | apply Kept.drewN | apply Kept.drew | refine Kept.setCell ?_ (.inr GW224.out) _) | exact HK.out)).1) : w.heap.size ≤ gb225)); have n6_ := Aside0.mk ((by rw [hg]; exact (zaa (by repeat (first | (with_reducible first | exact HB.out | apply za2 | apply za0 | apply za1 | refine za3 ?_ GE224.out) | exact HB.out))) : w0.heap.size ≤ gb225)); have n7_ := Aside0.mk ((by rw [hg]; exact Nat.ne_of_lt (zao (g := gb224) (o := .cells #[.slice Ao4 l0_0.length co4, .int .i64 a0_1] 39 (0, 0)) (by (with_reducible repeat (first | refine za5 ?_ _ | refine za6 ?_ | refine za4 ?_ _)); exact BK224.out)) : gb224 ≠ gb225)); have n8_ := Aside0.mk ((by rw [hg]; exact Nat.ne_of_gt (zao (g := gb224) (o := .cells #[.slice Ao4 l0_0.length co4, .int .i64 a0_1] 39 (0, 0)) (by (with_reducible repeat (first | refine za5 ?_ _ | refine za6 ?_ | refine za4 ?_ _)); exact BK224.out)) : gb225 ≠ gb224)); clear HO0_0; clear BK224; clear HK; clear HB; have HO0_0 := n0_; have BK224 := n1_; have HK := n2_; have HB := n3_; have BK225 := n4_; have GW225 := n5_; have GE225 := n6_; have NB224_225 := n7_; have NB225_224 := n8_; clear n0_ n1_ n2_ n3_ n4_ n5_ n6_ n7_ n8_; clear hb hbox hg; have hnb7 := NB224_225.out; have hnc7 := NB225_224.out; have hcz8_0 : w6.cell? ⟨gb224, 0, none⟩ = some (.slice Ao4 l0_0.length co4) := (za8 BK224.out 0).trans rfl; have hcz8_1 : w6.cell? ⟨gb224, 1, none⟩ = some (.int .i64 a0_1) := (za8 BK224.out 1).trans rfl; have hfz8_0 := za7 BK224.out 0; have hfz8_1 := za7 BK224.out 1) | ((with_reducible refine zal (f := 65) rfl ?_); refine goesL_ (some 5) rfl rfl Try.func65 (by kernel_rfl) rfl #[.agg #[.slice Ao4 l0_0.length co4, .int .i64 a0_1]] rfl (by (try simp only [List.map_toArray, List.map_cons, List.map_nil]); first | done | rfl | (simp only [List.length_drop, List.length_take]; rfl)) ?_; (with_reducible refine (spec_poGood.calls k _ _ l0_0 a0_1 true _ ?side1 ?side2 A2.out).mono ?_); (case side1 => repeat (first | exact (Kd.R_reads' HO0_0.out).2.2 | (with_reducible refine Kd.zav ?_ _) | (with_reducible refine Kd.zau ?_ _) | (with_reducible refine Kd.zaz ?_))); (case side2 => exact (Kd.R_reads' HO0_0.out).2.1); rintro e w9 ⟨rfl, hb⟩; refine ⟨_, rfl, ?_⟩; have n0_ := Aside0.mk (Kd.zb2 (by (with_reducible repeat (first | apply Kd.zak | apply Kd.zaj | apply Kd.zam)); exact HO0_0.out) hb); have n1_ := Aside0.mk (zad (g := gb224) (o := .cells #[.slice Ao4 l0_0.length co4, .int .i64 a0_1] 39 (0, 0)) (by (with_reducible repeat (first | refine za5 ?_ _ | refine za6 ?_ | refine za4 ?_ _)); exact BK224.out) hb); have n2_ := Aside0.mk (zad (g := gb225) (o := .cells #[.slice none 0 0, .int .i64 0] 39 (0, 0)) (by (with_reducible repeat (first | refine za5 ?_ _ | refine za6 ?_ | refine za4 ?_ _)); exact BK225.out) hb); have n3_ := Aside0.mk (Kept.below (S := (fun k_ => P0_0_ k_)) (by repeat (first | (with_reducible first | exact HK.out | apply Kept.alloc | apply Kept.drewN | apply Kept.drew | refine Kept.setCell ?_ (.inr GW224.out) _ | refine Kept.setCell ?_ (.inr GW225.out) _) | exact HK.out)) hb); have n4_ := Aside0.mk (zac (by repeat (first | (with_reducible first | exact HB.out | apply za2 | apply za0 | apply za1 | refine za3 ?_ GE224.out | refine za3 ?_ GE225.out) | exact HB.out)) hb); clear HO0_0; clear BK224; clear BK225; clear HK; clear HB; have HO0_0 := n0_; have BK224 := n1_; have BK225 := n2_; have HK := n3_; have HB := n4_; clear n0_ n1_ n2_ n3_ n4_; (try clear hb); (try clear hb2); (try clear hk); (try clear hi); have hcz10_0 : w9.cell? ⟨gb224, 0, none⟩ = some (.slice Ao4 l0_0.length co4) := (za8 BK224.out 0).trans rfl; have hcz10_1 : w9.cell? ⟨gb224, 1, none⟩ = some (.int .i64 a0_1) := (za8 BK224.out 1).trans rfl; have hfz10_0 := za7 BK224.out 0; have hfz10_1 := za7 BK224.out 1; have hcz11_0 : w9.cell? ⟨gb225, 0, none⟩ = some (.slice none 0 0) := (za8 BK225.out 0).trans rfl; have hcz11_1 : w9.cell? ⟨gb225, 1, none⟩ = some (.int .i64 0) := (za8 BK225.out 1).trans rfl; have hfz11_0 := za7 BK225.out 0; have hfz11_1 := za7 BK225.out 1))
  refine bodyPost_ret (results_ct rfl _ _ gb225 39 #[.slice Ao4 l0_0.length co4, .int .i64 a0_1] (0, 0) _ rfl (by (with_reducible repeat (first | refine za5 ?_ _ | refine za6 ?_ | refine za4 ?_ _)); refine zat (cs := #[.slice Ao4 l0_0.length co4, .int .i64 0]) ?_ 1 _ rfl; (with_reducible repeat (first | refine za5 ?_ _ | refine za6 ?_ | refine za4 ?_ _)); refine zat (cs := #[.slice none 0 0, .int .i64 0]) ?_ 0 _ rfl; (with_reducible repeat (first | refine za5 ?_ _ | refine za6 ?_ | refine za4 ?_ _)); exact BK225.out) Try.underlying39 rfl (by kernel_rfl)) rfl ?_
  exact ⟨_, by first | rfl | (simp [zaf, zae] <;> rfl) | (simp [*, zaf, zae] <;> rfl), by (with_reducible repeat (first | apply Kd.zak | apply Kd.zaj | apply Kd.zam)); exact Kd.R_mono (Kd.R_far (p := ⟨gb225, 1, none⟩) (Kd.R_far (p := ⟨gb225, 0, none⟩) (Kd.R_types HO0_0.out BK225.out (by decide)) (fun _ hk => hk.2) (.slice Ao4 l0_0.length co4)) (fun _ hk => hk.2) (.int .i64 a0_1)) (fun _ hk => hk.1), by repeat (first | (with_reducible first | exact HB.out | apply za2 | apply za0 | apply za1 | refine za3 ?_ GE224.out | refine za3 ?_ GE225.out) | exact HB.out), by repeat (first | (with_reducible first | exact HK.out | apply Kept.alloc | apply Kept.drewN | apply Kept.drew | refine Kept.setCell ?_ (.inr GW224.out) _ | refine Kept.setCell ?_ (.inr GW225.out) _) | exact HK.out)⟩
 ·replace c3 := Bool.eq_false_iff.mpr c3
  subst c3
  have H1 : (some (([] : List (S69)), 0, false)) = some (r1, r2, r3) := by rw [if_neg (show ¬ (false = true) by decide)] at H; exact H
  clear H
  have H := H1
  clear H1
  simp only [Option.some.injEq, Prod.mk.injEq] at H
  obtain ⟨rfl, rfl, rfl⟩ := H
  obtain ⟨Ao12, co12, eo12⟩ := Kd.zas HO0_0.out
  subst eo12
  go_enter Try.func78, Try.ntmps78
  go_wp2_with (first | ((with_reducible refine zai (N := 1) rfl ?_); refine zah ?hg (N := 1) ?hd (cs := #[.slice Ao12 l0_0.length co12, .int .i64 a0_1]) (t := 39) ?hr ?_; (case hd => rfl); (case hg => rfl); (case hr => first | (go_simp; done) | (go_simp; rfl)); intro gb224 hg w13 hbox hb; have n0_ := Aside0.mk (Kd.zb2 (by (with_reducible repeat (first | apply Kd.zak | apply Kd.zaj | apply Kd.zam)); exact HO0_0.out) hb); have n1_ := Aside0.mk (Kept.below (S := (fun k_ => P0_0_ k_)) (by repeat (first | (with_reducible first | exact HK.out | apply Kept.alloc | apply Kept.drewN | apply Kept.drew) | exact HK.out)) hb); have n2_ := Aside0.mk (zac (by repeat (first | (with_reducible first | exact HB.out | apply za2 | apply za0 | apply za1) | exact HB.out)) hb); have n3_ := Aside0.mk (hbox); have n4_ := Aside0.mk ((by rw [hg]; exact (by first | exact HK.out.1 | exact (show Kept w _ (fun k_ => P0_0_ k_) from by repeat (first | (with_reducible first | exact HK.out | apply Kept.alloc | apply Kept.drewN | apply Kept.drew) | exact HK.out)).1) : w.heap.size ≤ gb224)); have n5_ := Aside0.mk ((by rw [hg]; exact (zaa (by repeat (first | (with_reducible first | exact HB.out | apply za2 | apply za0 | apply za1) | exact HB.out))) : w0.heap.size ≤ gb224)); clear HO0_0; clear HK; clear HB; have HO0_0 := n0_; have HK := n1_; have HB := n2_; have BK224 := n3_; have GW224 := n4_; have GE224 := n5_; clear n0_ n1_ n2_ n3_ n4_ n5_; clear hb hbox hg) | ((with_reducible refine zai (N := 2) rfl ?_); refine zah ?hg (N := 2) ?hd (cs := #[.slice none 0 0, .int .i64 0]) (t := 39) ?hr ?_; (case hd => rfl); (case hg => rfl); (case hr => first | (go_simp; done) | (go_simp; rfl)); intro gb225 hg w14 hbox hb; have n0_ := Aside0.mk (Kd.zb2 (by (with_reducible repeat (first | apply Kd.zak | apply Kd.zaj | apply Kd.zam)); exact HO0_0.out) hb); have n1_ := Aside0.mk (zad (g := gb224) (o := .cells #[.slice Ao12 l0_0.length co12, .int .i64 a0_1] 39 (0, 0)) (by (with_reducible repeat (first | refine za5 ?_ _ | refine za6 ?_ | refine za4 ?_ _)); exact BK224.out) hb); have n2_ := Aside0.mk (Kept.below (S := (fun k_ => P0_0_ k_)) (by repeat (first | (with_reducible first | exact HK.out | apply Kept.alloc | apply Kept.drewN | apply Kept.drew | refine Kept.setCell ?_ (.inr GW224.out) _) | exact HK.out)) hb); have n3_ := Aside0.mk (zac (by repeat (first | (with_reducible first | exact HB.out | apply za2 | apply za0 | apply za1 | refine za3 ?_ GE224.out) | exact HB.out)) hb); have n4_ := Aside0.mk (hbox); have n5_ := Aside0.mk ((by rw [hg]; exact (by first | exact HK.out.1 | exact (show Kept w _ (fun k_ => P0_0_ k_) from by repeat (first | (with_reducible first | exact HK.out | apply Kept.alloc | apply Kept.drewN | apply Kept.drew | refine Kept.setCell ?_ (.inr GW224.out) _) | exact HK.out)).1) : w.heap.size ≤ gb225)); have n6_ := Aside0.mk ((by rw [hg]; exact (zaa (by repeat (first | (with_reducible first | exact HB.out | apply za2 | apply za0 | apply za1 | refine za3 ?_ GE224.out) | exact HB.out))) : w0.heap.size ≤ gb225)); have n7_ := Aside0.mk ((by rw [hg]; exact Nat.ne_of_lt (zao (g := gb224) (o := .cells #[.slice Ao12 l0_0.length co12, .int .i64 a0_1] 39 (0, 0)) (by (with_reducible repeat (first | refine za5 ?_ _ | refine za6 ?_ | refine za4 ?_ _)); exact BK224.out)) : gb224 ≠ gb225)); have n8_ := Aside0.mk ((by rw [hg]; exact Nat.ne_of_gt (zao (g := gb224) (o := .cells #[.slice Ao12 l0_0.length co12, .int .i64 a0_1] 39 (0, 0)) (by (with_reducible repeat (first | refine za5 ?_ _ | refine za6 ?_ | refine za4 ?_ _)); exact BK224.out)) : gb225 ≠ gb224)); clear HO0_0; clear BK224; clear HK; clear HB; have HO0_0 := n0_; have BK224 := n1_; have HK := n2_; have HB := n3_; have BK225 := n4_; have GW225 := n5_; have GE225 := n6_; have NB224_225 := n7_; have NB225_224 := n8_; clear n0_ n1_ n2_ n3_ n4_ n5_ n6_ n7_ n8_; clear hb hbox hg; have hnb15 := NB224_225.out; have hnc15 := NB225_224.out; have hcz16_0 : w14.cell? ⟨gb224, 0, none⟩ = some (.slice Ao12 l0_0.length co12) := (za8 BK224.out 0).trans rfl; have hcz16_1 : w14.cell? ⟨gb224, 1, none⟩ = some (.int .i64 a0_1) := (za8 BK224.out 1).trans rfl; have hfz16_0 := za7 BK224.out 0; have hfz16_1 := za7 BK224.out 1) | ((with_reducible refine zal (f := 65) rfl ?_); refine goesL_ (some 5) rfl rfl Try.func65 (by kernel_rfl) rfl #[.agg #[.slice Ao12 l0_0.length co12, .int .i64 a0_1]] rfl (by (try simp only [List.map_toArray, List.map_cons, List.map_nil]); first | done | rfl | (simp only [List.length_drop, List.length_take]; rfl)) ?_; (with_reducible refine (spec_poGood.calls k _ _ l0_0 a0_1 false _ ?side1 ?side2 A2.out).mono ?_); (case side1 => repeat (first | exact (Kd.R_reads' HO0_0.out).2.2 | (with_reducible refine Kd.zav ?_ _) | (with_reducible refine Kd.zau ?_ _) | (with_reducible refine Kd.zaz ?_))); (case side2 => exact (Kd.R_reads' HO0_0.out).2.1); rintro e w17 ⟨rfl, hb⟩; refine ⟨_, rfl, ?_⟩; have n0_ := Aside0.mk (Kd.zb2 (by (with_reducible repeat (first | apply Kd.zak | apply Kd.zaj | apply Kd.zam)); exact HO0_0.out) hb); have n1_ := Aside0.mk (zad (g := gb224) (o := .cells #[.slice Ao12 l0_0.length co12, .int .i64 a0_1] 39 (0, 0)) (by (with_reducible repeat (first | refine za5 ?_ _ | refine za6 ?_ | refine za4 ?_ _)); exact BK224.out) hb); have n2_ := Aside0.mk (zad (g := gb225) (o := .cells #[.slice none 0 0, .int .i64 0] 39 (0, 0)) (by (with_reducible repeat (first | refine za5 ?_ _ | refine za6 ?_ | refine za4 ?_ _)); exact BK225.out) hb); have n3_ := Aside0.mk (Kept.below (S := (fun k_ => P0_0_ k_)) (by repeat (first | (with_reducible first | exact HK.out | apply Kept.alloc | apply Kept.drewN | apply Kept.drew | refine Kept.setCell ?_ (.inr GW224.out) _ | refine Kept.setCell ?_ (.inr GW225.out) _) | exact HK.out)) hb); have n4_ := Aside0.mk (zac (by repeat (first | (with_reducible first | exact HB.out | apply za2 | apply za0 | apply za1 | refine za3 ?_ GE224.out | refine za3 ?_ GE225.out) | exact HB.out)) hb); clear HO0_0; clear BK224; clear BK225; clear HK; clear HB; have HO0_0 := n0_; have BK224 := n1_; have BK225 := n2_; have HK := n3_; have HB := n4_; clear n0_ n1_ n2_ n3_ n4_; (try clear hb); (try clear hb2); (try clear hk); (try clear hi); have hcz18_0 : w17.cell? ⟨gb225, 0, none⟩ = some (.slice none 0 0) := (za8 BK225.out 0).trans rfl; have hcz18_1 : w17.cell? ⟨gb225, 1, none⟩ = some (.int .i64 0) := (za8 BK225.out 1).trans rfl; have hfz18_0 := za7 BK225.out 0; have hfz18_1 := za7 BK225.out 1))
  refine bodyPost_ret (results_ct rfl _ _ gb225 39 #[.slice none 0 0, .int .i64 0] (0, 0) _ rfl (by (with_reducible repeat (first | refine za5 ?_ _ | refine za6 ?_ | refine za4 ?_ _)); refine zat (cs := #[.slice none 0 0, .int .i64 0]) ?_ 1 _ rfl; (with_reducible repeat (first | refine za5 ?_ _ | refine za6 ?_ | refine za4 ?_ _)); refine zat (cs := #[.slice none 0 0, .int .i64 0]) ?_ 0 _ rfl; (with_reducible repeat (first | refine za5 ?_ _ | refine za6 ?_ | refine za4 ?_ _)); exact BK225.out) Try.underlying39 rfl (by kernel_rfl)) rfl ?_
  exact ⟨_, by first | rfl | (simp [zaf, zae] <;> rfl) | (simp [*, zaf, zae] <;> rfl), by first | exact Kd.R_nil _ _ _ _ _ | exact Kd.N_nil _ _ _ _ _ | exact Kd.V_nil _ _ _ _ _ | exact Kd.Q_nil _ _ _ _ _ | exact Kd.S_nil _ _ _ _ _, by repeat (first | (with_reducible first | exact HB.out | apply za2 | apply za0 | apply za1 | refine za3 ?_ GE224.out | refine za3 ?_ GE225.out) | exact HB.out), by repeat (first | (with_reducible first | exact HK.out | apply Kept.alloc | apply Kept.drewN | apply Kept.drew | refine Kept.setCell ?_ (.inr GW224.out) _ | refine Kept.setCell ?_ (.inr GW225.out) _) | exact HK.out)⟩

/-! ### spec_poAdd: function 77 -/
def spec_poAdd.f (l0_0 : List (S69)) (a0_1 : Int) (a1 : Int) (a2 : Int) (a3 : Int) : Option ((List (S69)) × Int × Int) := (some (([] : List (S69)) : List (S69))).bind fun y229 => (if y229.length + l0_0.length < 5864062014805 then ((some (y229 ++ l0_0 : List (S69))).bind fun y232 => (if y232.length < 5864062014805 then ((some (y232 ++ [(⟨a1, a2, a3⟩ : S69)] : List (S69))).bind fun y235 => (some (y235, 0, (y235.length : Int)))) else (none))) else (none))
set_option maxHeartbeats 8000000 in
set_option maxRecDepth 100000 in
theorem spec_poAdd.calls (A0_0 : Option Addr) (c0_0 : Nat) (l0_0 : List (S69)) (a0_1 : Int) (a1 : Int) (a2 : Int) (a3 : Int) (r1 : List (S69)) (r2 : Int) (r3 : Int) (w : World) (hr0_0 : Kd.C k69 w A0_0 l0_0.length l0_0) (hc0_0 : l0_0.length ≤ c0_0) (h : spec_poAdd.f l0_0 a0_1 a1 a2 a3 = some (r1, r2, r3)) :
  Calls Try.prog 77 #[.agg #[.slice A0_0 l0_0.length c0_0, .int .i64 a0_1], .int .i64 a1, .int .i64 a2, .int .i64 a3] w fun e w' => ∃ v0_ : Value, e = .returned (.tuple #[.agg #[v0_, .int .i64 r2], .int .i64 r3]) ∧ Kd.R k69 69 w' w.heap.size (fun _ => True) v0_ r1 ∧ Below w.heap.size w w' := by
 have hu39 := Try.underlying39
 have hu69 := Try.underlying69
 have HR0_0 := Aside0.mk hr0_0
 have HC0_0 := Aside0.mk hc0_0
 clear hr0_0 hc0_0
 have HB := Aside0.mk (Below.refl w.heap.size w)
 have H : ((some (([] : List (S69)) : List (S69))).bind fun y229 => (if y229.length + l0_0.length < 5864062014805 then ((some (y229 ++ l0_0 : List (S69))).bind fun y232 => (if y232.length < 5864062014805 then ((some (y232 ++ [(⟨a1, a2, a3⟩ : S69)] : List (S69))).bind fun y235 => (some (y235, 0, (y235.length : Int)))) else (none))) else (none))) = some (r1, r2, r3) := h
 clear h
 obtain ⟨y229, hy229⟩ : ∃ y_ : List (S69), y_ = (([] : List (S69))) := ⟨_, rfl⟩
 replace H : (if y229.length + l0_0.length < 5864062014805 then ((some (y229 ++ l0_0 : List (S69))).bind fun y232 => (if y232.length < 5864062014805 then ((some (y232 ++ [(⟨a1, a2, a3⟩ : S69)] : List (S69))).bind fun y235 => (some (y235, 0, (y235.length : Int)))) else (none))) else (none)) = some (r1, r2, r3) := by first | (rw [hy229]; with_reducible exact H) | (have H2_ := (Option.bind_some _ _).symm.trans H; rw [hy229]; with_reducible exact H2_) | (have H2_ := (Option.bind_some _ _).symm.trans H; with_reducible exact H2_) | with_reducible exact H | (rw [hy229]; exact H) | exact H
 have Ny229 := Aside0.mk hy229
 clear hy229
 by_cases c5 : y229.length + l0_0.length < 5864062014805
 ·rw [if_pos c5] at H
  have LMc5 := Aside0.mk c5
  clear c5
  obtain ⟨y232, hy232⟩ : ∃ y_ : List (S69), y_ = (y229 ++ l0_0) := ⟨_, rfl⟩
  replace H : (if y232.length < 5864062014805 then ((some (y232 ++ [(⟨a1, a2, a3⟩ : S69)] : List (S69))).bind fun y235 => (some (y235, 0, (y235.length : Int)))) else (none)) = some (r1, r2, r3) := by first | (rw [hy232]; with_reducible exact H) | (have H2_ := (Option.bind_some _ _).symm.trans H; rw [hy232]; with_reducible exact H2_) | (have H2_ := (Option.bind_some _ _).symm.trans H; with_reducible exact H2_) | with_reducible exact H | (rw [hy232]; exact H) | exact H
  have Ny232 := Aside0.mk hy232
  clear hy232
  by_cases c6 : y232.length < 5864062014805
  ·rw [if_pos c6] at H
   have LMc6 := Aside0.mk c6
   clear c6
   obtain ⟨y235, hy235⟩ : ∃ y_ : List (S69), y_ = (y232 ++ [(⟨a1, a2, a3⟩ : S69)]) := ⟨_, rfl⟩
   replace H : (some (y235, 0, (y235.length : Int))) = some (r1, r2, r3) := by first | (rw [hy235]; with_reducible exact H) | (have H2_ := (Option.bind_some _ _).symm.trans H; rw [hy235]; with_reducible exact H2_) | (have H2_ := (Option.bind_some _ _).symm.trans H; with_reducible exact H2_) | with_reducible exact H | (rw [hy235]; exact H) | exact H
   have Ny235 := Aside0.mk hy235
   clear hy235
   simp only [Option.some.injEq, Prod.mk.injEq] at H
   obtain ⟨rfl, rfl, rfl⟩ := H
   go_enter Try.func77, Try.ntmps77
   try go_wp2_with (first | ((with_reducible refine zai (N := 4) rfl ?_); refine zah ?hg (N := 4) ?hd (cs := #[.slice A0_0 l0_0.length c0_0, .int .i64 a0_1]) (t := 39) ?hr ?_; (case hd => rfl); (case hg => rfl); (case hr => first | (go_simp; done) | (go_simp; rfl)); intro gb227 hg w7 hbox hb; have n0_ := Aside0.mk (zac (by repeat (first | (with_reducible first | exact HB.out | apply za2 | apply za0 | apply za1) | exact HB.out)) hb); have n1_ := Aside0.mk (hbox); have n2_ := Aside0.mk ((by rw [hg]; exact (zaa (by repeat (first | (with_reducible first | exact HB.out | apply za2 | apply za0 | apply za1) | exact HB.out))) : w.heap.size ≤ gb227)); have n3_ := Aside0.mk ((by rw [hg]; exact (zaa (by repeat (first | (with_reducible first | exact HB.out | apply za2 | apply za0 | apply za1) | exact HB.out))) : w.heap.size ≤ gb227)); clear HB; have HB := n0_; have BK227 := n1_; have GW227 := n2_; have GE227 := n3_; clear n0_ n1_ n2_ n3_; clear hb hbox hg) | ((with_reducible refine zai (N := 8) rfl ?_); refine zah ?hg (N := 8) ?hd (cs := #[.slice none 0 0, .int .i64 0]) (t := 39) ?hr ?_; (case hd => rfl); (case hg => rfl); (case hr => first | (go_simp; done) | (go_simp; rfl)); intro gb228 hg w8 hbox hb; have n0_ := Aside0.mk (zad (g := gb227) (o := .cells #[.slice A0_0 l0_0.length c0_0, .int .i64 a0_1] 39 (0, 0)) (by (with_reducible repeat (first | refine za5 ?_ _ | refine za6 ?_ | refine za4 ?_ _)); exact BK227.out) hb); have n1_ := Aside0.mk (zac (by repeat (first | (with_reducible first | exact HB.out | apply za2 | apply za0 | apply za1 | refine za3 ?_ GE227.out) | exact HB.out)) hb); have n2_ := Aside0.mk (hbox); have n3_ := Aside0.mk ((by rw [hg]; exact (zaa (by repeat (first | (with_reducible first | exact HB.out | apply za2 | apply za0 | apply za1 | refine za3 ?_ GE227.out) | exact HB.out))) : w.heap.size ≤ gb228)); have n4_ := Aside0.mk ((by rw [hg]; exact (zaa (by repeat (first | (with_reducible first | exact HB.out | apply za2 | apply za0 | apply za1 | refine za3 ?_ GE227.out) | exact HB.out))) : w.heap.size ≤ gb228)); have n5_ := Aside0.mk ((by rw [hg]; exact Nat.ne_of_lt (zao (g := gb227) (o := .cells #[.slice A0_0 l0_0.length c0_0, .int .i64 a0_1] 39 (0, 0)) (by (with_reducible repeat (first | refine za5 ?_ _ | refine za6 ?_ | refine za4 ?_ _)); exact BK227.out)) : gb227 ≠ gb228)); have n6_ := Aside0.mk ((by rw [hg]; exact Nat.ne_of_gt (zao (g := gb227) (o := .cells #[.slice A0_0 l0_0.length c0_0, .int .i64 a0_1] 39 (0, 0)) (by (with_reducible repeat (first | refine za5 ?_ _ | refine za6 ?_ | refine za4 ?_ _)); exact BK227.out)) : gb228 ≠ gb227)); clear BK227; clear HB; have BK227 := n0_; have HB := n1_; have BK228 := n2_; have GW228 := n3_; have GE228 := n4_; have NB227_228 := n5_; have NB228_227 := n6_; clear n0_ n1_ n2_ n3_ n4_ n5_ n6_; clear hb hbox hg) | ((with_reducible refine zai (N := 11) rfl ?_); refine Kd.R_lit k69 _ 69 ?hg (N := 11) ?hd (xs := ([] : List (S69))) (inner := []) (ok := fun _ => True) (okp := fun _ => True) ?hr ?hp (fun _ hk => hk) trivial (Below.refl _ _) (Nat.le_refl _) (by simp) ?_; (case hd => rfl); (case hg => rfl); (case hr => first | (go_simp; done) | (go_simp; rfl)); (case hp => exact (Reps.none _ _)); intro v230 w9 ho10 hb hg_ hnew_; clear hg_ hnew_; (first | rw [← Ny229.out] at ho10 | (simp only [Int.reduceToNat] at ho10; rw [← Ny229.out] at ho10)); have n0_ := Aside0.mk (Kd.R_lower ho10 (zaa (by repeat (first | (with_reducible first | exact HB.out | apply za2 | apply za0 | apply za1 | refine za3 ?_ GE227.out | refine za3 ?_ GE228.out) | exact HB.out)))); have n1_ := Aside0.mk (zad (g := gb227) (o := .cells #[.slice A0_0 l0_0.length c0_0, .int .i64 a0_1] 39 (0, 0)) (by (with_reducible repeat (first | refine za5 ?_ _ | refine za6 ?_ | refine za4 ?_ _)); exact BK227.out) hb); have n2_ := Aside0.mk (zad (g := gb228) (o := .cells #[.slice none 0 0, .int .i64 0] 39 (0, 0)) (by (with_reducible repeat (first | refine za5 ?_ _ | refine za6 ?_ | refine za4 ?_ _)); exact BK228.out) hb); have n3_ := Aside0.mk (zac (by repeat (first | (with_reducible first | exact HB.out | apply za2 | apply za0 | apply za1 | refine za3 ?_ GE227.out | refine za3 ?_ GE228.out) | exact HB.out)) hb); clear BK227; clear BK228; clear HB; have HO231 := n0_; have BK227 := n1_; have BK228 := n2_; have HB := n3_; clear n0_ n1_ n2_ n3_; clear hb ho10; have hnb11 := NB227_228.out; have hnc11 := NB228_227.out; have hcz12_0 : w9.cell? ⟨gb227, 0, none⟩ = some (.slice A0_0 l0_0.length c0_0) := (za8 BK227.out 0).trans rfl; have hcz12_1 : w9.cell? ⟨gb227, 1, none⟩ = some (.int .i64 a0_1) := (za8 BK227.out 1).trans rfl; have hfz12_0 := za7 BK227.out 0; have hfz12_1 := za7 BK227.out 1) | ((with_reducible refine gate_builtin (b := .append) (xs := #[.tmp 11, .tmp 13]) rfl ?_); at_builtin; refine Kd.R_append_rows k69 (w0 := w) w.heap.size rfl (.tmp 11) (.tmp 13) 37 69 (.agg #[(.int .i64 0), (.int .i64 0), (.int .i64 0)]) 24 rfl Try.underlying37 info69 rfl (by decide) (by omega) v230 y229 l0_0 _ _ _ (fun _ => True) (fun _ => False) rfl rfl ?aO ?aR (fun _ _ h => h) (fun _ h => h.elim) ?aF ?aB ?aS ?aL ?_; (case aR => repeat (first | exact (Kd.zar HR0_0.out HB.out) | (with_reducible refine Kd.zav ?_ _) | (with_reducible refine Kd.zau ?_ _) | (with_reducible refine Kd.zaz ?_))); (case aB => exact (by repeat (first | (with_reducible first | exact HB.out | apply za2 | apply za0 | apply za1 | refine za3 ?_ GE227.out | refine za3 ?_ GE228.out) | exact HB.out))); (case aF => exact (fun _ _ => trivial)); (case aO => exact (by (with_reducible repeat (first | apply Kd.zak | apply Kd.zaj | apply Kd.zam)); exact HO231.out)); (case aS => exact (zaa (by repeat (first | (with_reducible first | exact HB.out | apply za2 | apply za0 | apply za1 | refine za3 ?_ GE227.out | refine za3 ?_ GE228.out) | exact HB.out)))); (case aL => have := LMc5.out; omega); intro v233 w13 ho hb hg hat; rw [← Ny232.out] at ho; have n0_ := Aside0.mk (blk_grown (g := gb227) (o := .cells #[.slice A0_0 l0_0.length c0_0, .int .i64 a0_1] 39 (0, 0)) (by (with_reducible repeat (first | refine za5 ?_ _ | refine za6 ?_ | refine za4 ?_ _)); exact BK227.out) hg (Kd.R_ne HO231.out BK227.out (by decide))); have n1_ := Aside0.mk (blk_grown (g := gb228) (o := .cells #[.slice none 0 0, .int .i64 0] 39 (0, 0)) (by (with_reducible repeat (first | refine za5 ?_ _ | refine za6 ?_ | refine za4 ?_ _)); exact BK228.out) hg (Kd.R_ne HO231.out BK228.out (by decide))); have n2_ := Aside0.mk (hb); have n3_ := Aside0.mk (ho); clear BK227; clear BK228; clear HB; clear HO231; have BK227 := n0_; have BK228 := n1_; have HB := n2_; have HO234 := n3_; clear n0_ n1_ n2_ n3_; clear ho hb hg hat) | ((with_reducible refine gate_builtin (b := .append) (xs := #[.tmp 14, .tmp 19]) rfl ?_); at_builtin; refine Kd.R_append k69 (w0 := w) w.heap.size rfl (.tmp 14) (.tmp 19) 37 69 (.agg #[(.int .i64 0), (.int .i64 0), (.int .i64 0)]) 24 rfl Try.underlying37 info69 rfl (by decide) (by omega) v233 y232 (⟨a1, a2, a3⟩ : S69) [.int .i64 a1, .int .i64 a2, .int .i64 a3] (fun _ => True) (fun _ => False) rfl rfl ?aP (fun _ hk => hk.elim) ?aF ?aO ?aB ?aS ?aL ?_; (case aP => exact k69_mkM _ _ _ (⟨a1, a2, a3⟩ : S69)); (case aB => exact (by repeat (first | (with_reducible first | exact HB.out | apply za2 | apply za0 | apply za1 | refine za3 ?_ GE227.out | refine za3 ?_ GE228.out) | exact HB.out))); (case aF => exact (fun _ _ => trivial)); (case aO => exact (by (with_reducible repeat (first | apply Kd.zak | apply Kd.zaj | apply Kd.zam)); exact HO234.out)); (case aS => exact (zaa (by repeat (first | (with_reducible first | exact HB.out | apply za2 | apply za0 | apply za1 | refine za3 ?_ GE227.out | refine za3 ?_ GE228.out) | exact HB.out)))); (case aL => have := LMc6.out; omega); intro v236 w14 ho hb hg hat; rw [← Ny235.out] at ho; have n0_ := Aside0.mk (blk_grown (g := gb227) (o := .cells #[.slice A0_0 l0_0.length c0_0, .int .i64 a0_1] 39 (0, 0)) (by (with_reducible repeat (first | refine za5 ?_ _ | refine za6 ?_ | refine za4 ?_ _)); exact BK227.out) hg (Kd.R_ne HO234.out BK227.out (by decide))); have n1_ := Aside0.mk (blk_grown (g := gb228) (o := .cells #[.slice none 0 0, .int .i64 0] 39 (0, 0)) (by (with_reducible repeat (first | refine za5 ?_ _ | refine za6 ?_ | refine za4 ?_ _)); exact BK228.out) hg (Kd.R_ne HO234.out BK228.out (by decide))); have n2_ := Aside0.mk (hb); have n3_ := Aside0.mk (ho); clear BK227; clear BK228; clear HB; clear HO234; have BK227 := n0_; have BK228 := n1_; have HB := n2_; have HO237 := n3_; clear n0_ n1_ n2_ n3_; clear ho hb hg hat; obtain ⟨Ao15, co15, eo15⟩ := Kd.zas HO237.out; subst eo15) | ((with_reducible refine zai (N := 10) rfl ?_); refine zah ?hg (N := 10) ?hd (cs := #[.slice none 0 0, .int .i64 0]) (t := 39) ?hr ?_; (case hd => rfl); (case hg => rfl); (case hr => first | (go_simp; done) | (go_simp; rfl)); intro gb238 hg w16 hbox hb; have n0_ := Aside0.mk (Kd.zb2 (by (with_reducible repeat (first | apply Kd.zak | apply Kd.zaj | apply Kd.zam)); exact HO237.out) hb); have n1_ := Aside0.mk (zad (g := gb227) (o := .cells #[.slice A0_0 l0_0.length c0_0, .int .i64 a0_1] 39 (0, 0)) (by (with_reducible repeat (first | refine za5 ?_ _ | refine za6 ?_ | refine za4 ?_ _)); exact BK227.out) hb); have n2_ := Aside0.mk (zad (g := gb228) (o := .cells #[.slice none 0 0, .int .i64 0] 39 (0, 0)) (by (with_reducible repeat (first | refine za5 ?_ _ | refine za6 ?_ | refine za4 ?_ _)); exact BK228.out) hb); have n3_ := Aside0.mk (zac (by repeat (first | (with_reducible first | exact HB.out | apply za2 | apply za0 | apply za1 | refine za3 ?_ GE227.out | refine za3 ?_ GE228.out) | exact HB.out)) hb); have n4_ := Aside0.mk (hbox); have n5_ := Aside0.mk ((by rw [hg]; exact (zaa (by repeat (first | (with_reducible first | exact HB.out | apply za2 | apply za0 | apply za1 | refine za3 ?_ GE227.out | refine za3 ?_ GE228.out) | exact HB.out))) : w.heap.size ≤ gb238)); have n6_ := Aside0.mk ((by rw [hg]; exact (zaa (by repeat (first | (with_reducible first | exact HB.out | apply za2 | apply za0 | apply za1 | refine za3 ?_ GE227.out | refine za3 ?_ GE228.out) | exact HB.out))) : w.heap.size ≤ gb238)); have n7_ := Aside0.mk ((by rw [hg]; exact Nat.ne_of_lt (zao (g := gb227) (o := .cells #[.slice A0_0 l0_0.length c0_0, .int .i64 a0_1] 39 (0, 0)) (by (with_reducible repeat (first | refine za5 ?_ _ | refine za6 ?_ | refine za4 ?_ _)); exact BK227.out)) : gb227 ≠ gb238)); have n8_ := Aside0.mk ((by rw [hg]; exact Nat.ne_of_gt (zao (g := gb227) (o := .cells #[.slice A0_0 l0_0.length c0_0, .int .i64 a0_1] 39 (0, 0)) (by (with_reducible repeat (first | refine za5 ?_ _ | refine za6 ?_ | refine za4 ?_ _)); exact BK227.out)) : gb238 ≠ gb227)); have n9_ := Aside0.mk ((by rw [hg]; exact Nat.ne_of_lt (zao (g := gb228) (o := .cells #[.slice none 0 0, .int .i64 0] 39 (0, 0)) (by (with_reducible repeat (first | refine za5 ?_ _ | refine za6 ?_ | refine za4 ?_ _)); exact BK228.out)) : gb228 ≠ gb238)); have n10_ := Aside0.mk ((by rw [hg]; exact Nat.ne_of_gt (zao (g := gb228) (o := .cells #[.slice none 0 0, .int .i64 0] 39 (0, 0)) (by (with_reducible repeat (first | refine za5 ?_ _ | refine za6 ?_ | refine za4 ?_ _)); exact BK228.out)) : gb238 ≠ gb228)); clear HO237; clear BK227; clear BK228; clear HB; have HO237 := n0_; have BK227 := n1_; have BK228 := n2_; have HB := n3_; have BK238 := n4_; have GW238 := n5_; have GE238 := n6_; have NB227_238 := n7_; have NB238_227 := n8_; have NB228_238 := n9_; have NB238_228 := n10_; clear n0_ n1_ n2_ n3_ n4_ n5_ n6_ n7_ n8_ n9_ n10_; clear hb hbox hg; have hnb17 := NB238_227.out; have hnc17 := NB227_238.out; have hnb18 := NB238_228.out; have hnc18 := NB228_238.out; have hcz19_0 : w16.cell? ⟨gb238, 0, none⟩ = some (.slice none 0 0) := (za8 BK238.out 0).trans rfl; have hcz19_1 : w16.cell? ⟨gb238, 1, none⟩ = some (.int .i64 0) := (za8 BK238.out 1).trans rfl; have hfz19_0 := za7 BK238.out 0; have hfz19_1 := za7 BK238.out 1))
   have n0_ : Aside0 (Kd.R k69 69 ((w16.setCell ⟨gb238, 0, none⟩ (.slice Ao15 y235.length co15)).setCell ⟨gb238, 1, none⟩ (.int .i64 0)) w.heap.size (fun _ => True) (.slice Ao15 y235.length co15) y235) := ⟨by (with_reducible repeat (first | apply Kd.zak | apply Kd.zaj | apply Kd.zam)); exact Kd.R_mono (Kd.R_far (p := ⟨gb238, 1, none⟩) (Kd.R_far (p := ⟨gb238, 0, none⟩) (Kd.R_types HO237.out BK238.out (by decide)) (fun _ hk => hk.2) (.slice Ao15 y235.length co15)) (fun _ hk => hk.2) (.int .i64 0)) (fun _ hk => trivial)⟩
   have n1_ : Aside0 (((w16.setCell ⟨gb238, 0, none⟩ (.slice Ao15 y235.length co15)).setCell ⟨gb238, 1, none⟩ (.int .i64 0)).heap[gb227]? = some (.cells #[.slice A0_0 l0_0.length c0_0, .int .i64 a0_1] 39 (0, 0))) := ⟨by (with_reducible repeat (first | refine za5 ?_ _ | refine za6 ?_ | refine za4 ?_ _)); refine zay ?_ NB227_238.out _; (with_reducible repeat (first | refine za5 ?_ _ | refine za6 ?_ | refine za4 ?_ _)); refine zay ?_ NB227_238.out _; (with_reducible repeat (first | refine za5 ?_ _ | refine za6 ?_ | refine za4 ?_ _)); exact BK227.out⟩
   have n2_ : Aside0 (((w16.setCell ⟨gb238, 0, none⟩ (.slice Ao15 y235.length co15)).setCell ⟨gb238, 1, none⟩ (.int .i64 0)).heap[gb228]? = some (.cells #[.slice none 0 0, .int .i64 0] 39 (0, 0))) := ⟨by (with_reducible repeat (first | refine za5 ?_ _ | refine za6 ?_ | refine za4 ?_ _)); refine zay ?_ NB228_238.out _; (with_reducible repeat (first | refine za5 ?_ _ | refine za6 ?_ | refine za4 ?_ _)); refine zay ?_ NB228_238.out _; (with_reducible repeat (first | refine za5 ?_ _ | refine za6 ?_ | refine za4 ?_ _)); exact BK228.out⟩
   have n3_ : Aside0 (((w16.setCell ⟨gb238, 0, none⟩ (.slice Ao15 y235.length co15)).setCell ⟨gb238, 1, none⟩ (.int .i64 0)).heap[gb238]? = some (.cells #[.slice Ao15 y235.length co15, .int .i64 0] 39 (0, 0))) := ⟨by (with_reducible repeat (first | refine za5 ?_ _ | refine za6 ?_ | refine za4 ?_ _)); refine zat (cs := #[.slice Ao15 y235.length co15, .int .i64 0]) ?_ 1 _ rfl; (with_reducible repeat (first | refine za5 ?_ _ | refine za6 ?_ | refine za4 ?_ _)); refine zat (cs := #[.slice none 0 0, .int .i64 0]) ?_ 0 _ rfl; (with_reducible repeat (first | refine za5 ?_ _ | refine za6 ?_ | refine za4 ?_ _)); exact BK238.out⟩
   have n4_ : Aside0 (Below w.heap.size w ((w16.setCell ⟨gb238, 0, none⟩ (.slice Ao15 y235.length co15)).setCell ⟨gb238, 1, none⟩ (.int .i64 0))) := ⟨by repeat (first | (with_reducible first | exact HB.out | apply za2 | apply za0 | apply za1 | refine za3 ?_ GE227.out | refine za3 ?_ GE228.out | refine za3 ?_ GE238.out) | exact HB.out)⟩
   (try clear HO237)
   (try clear BK227)
   (try clear BK228)
   (try clear BK238)
   (try clear HB)
   generalize ((w16.setCell ⟨gb238, 0, none⟩ (.slice Ao15 y235.length co15)).setCell ⟨gb238, 1, none⟩ (.int .i64 0)) = w20 at n0_ n1_ n2_ n3_ n4_ ⊢
   have HO237 := n0_
   have BK227 := n1_
   have BK228 := n2_
   have BK238 := n3_
   have HB := n4_
   clear n0_ n1_ n2_ n3_ n4_
   have n0_ := Aside0.mk (Kd.zam HO237.out)
   have n1_ := Aside0.mk (za6 BK227.out)
   have n2_ := Aside0.mk (za6 BK228.out)
   have n3_ := Aside0.mk (za6 BK238.out)
   have n4_ := Aside0.mk (za1 HB.out)
   clear HO237
   clear BK227
   clear BK228
   clear BK238
   clear HB
   have HO237 := n0_
   have BK227 := n1_
   have BK228 := n2_
   have BK238 := n3_
   have HB := n4_
   clear n0_ n1_ n2_ n3_ n4_
   refine start_ (n := 6) (S := fun w' => w'.cell? ⟨gb238, 0, none⟩ = some (.slice Ao15 y235.length co15) ∧ w'.cell? ⟨gb238, 1, none⟩ = some (.int .i64 0)) (ds := []) #[false, false, false, false, false, false] (by kernel_rfl) rfl rfl ⟨(za8 BK238.out 0).trans rfl, (za8 BK238.out 1).trans rfl⟩ (fun hHeld => ?_)
   generalize w20.drew = w21 at HO237 BK227 BK228 BK238 HB hHeld ⊢
   refine pure_ (i := 1) (N := some 23) (v := ?_) (a' := ?_) #[false, true, false, false, false, false] rfl rfl (by kernel_rfl) (fun _ _ _ h => h) (Or.inl ⟨by rfl, ?_⟩) ?_ ?_
   rotate_left
   ·intro w'
    go_simp
    with_reducible rfl
   rotate_left
   ·simp only [Act.put, List.setIfInBounds_toArray, List.set_cons_zero, List.set_cons_succ, i64_w, i32_w]
    rfl
   refine take_ (i := 0) (N := some 22) (v := ?_) (a' := ?_) #[true, true, false, false, false, false] rfl rfl (by kernel_rfl) (fun _ _ _ h => h) (Or.inl ⟨by rfl, ?_⟩) hHeld ?_ ?_
   rotate_left
   ·rintro w' ⟨s0, s1⟩
    go_simp
    with_reducible rfl
   rotate_left
   ·simp only [Act.put, List.setIfInBounds_toArray, List.set_cons_zero, List.set_cons_succ, i64_w, i32_w]
    rfl
   refine take_ (i := 2) (N := some 24) (v := ?_) (a' := ?_) #[true, true, true, false, false, false] rfl rfl (by kernel_rfl) (fun _ _ _ h => h) (Or.inl ⟨by rfl, ?_⟩) hHeld ?_ ?_
   rotate_left
   ·rintro w' ⟨s0, s1⟩
    go_simp
    with_reducible rfl
   rotate_left
   ·simp only [Act.put, List.setIfInBounds_toArray, List.set_cons_zero, List.set_cons_succ, i64_w, i32_w]
    rfl
   refine pure_ (i := 3) (N := some 25) (v := ?_) (a' := ?_) #[true, true, true, true, false, false] rfl rfl (by kernel_rfl) (fun _ _ _ h => h) (Or.inl ⟨by rfl, ?_⟩) ?_ ?_
   rotate_left
   ·intro w'
    go_simp
    with_reducible rfl
   rotate_left
   ·simp only [Act.put, List.setIfInBounds_toArray, List.set_cons_zero, List.set_cons_succ, i64_w, i32_w]
    rfl
   refine one_ (i := 4) (N := none) #[true, true, true, true, true, false] rfl rfl (by kernel_rfl) (by decide) (fun K hK => ?_)
   have hs22 : w21.cell? ⟨gb228, 0, none⟩ = some (.slice none 0 0) := (za8 BK228.out 0).trans rfl
   have hfs22 := za7 BK228.out 0
   have hns22_0 := NB227_228.out
   have hns22_2 := NB238_228.out
   have hms22_0 := NB228_227.out
   have hms22_2 := NB228_238.out
   have hs23 : w21.cell? ⟨gb228, 1, none⟩ = some (.int .i64 0) := (za8 BK228.out 1).trans rfl
   have hfs23 := za7 BK228.out 1
   have hns23_0 := NB227_228.out
   have hns23_2 := NB238_228.out
   have hms23_0 := NB228_227.out
   have hms23_2 := NB228_238.out
   refine skip_ (w1 := ?_) (by rfl) rfl ?_ ?_
   rotate_left
   ·go_simp
    rfl
   refine hK.out _ _ ⟨((cell_far (p := ⟨gb228, _, none⟩) NB238_228.out _).trans (((cell_far (p := ⟨gb228, _, none⟩) NB238_228.out _).trans (hHeld.1)))), ((cell_far (p := ⟨gb228, _, none⟩) NB238_228.out _).trans (((cell_far (p := ⟨gb228, _, none⟩) NB238_228.out _).trans (hHeld.2))))⟩ (fun hHeld => ?_)
   clear hK K
   refine pure_ (i := 5) (N := some 9) (v := ?_) (a' := ?_) #[true, true, true, true, true, true] rfl rfl (by kernel_rfl) (fun _ _ _ h => h) (Or.inl ⟨by rfl, ?_⟩) ?_ ?_
   rotate_left
   ·intro w'
    go_simp
    with_reducible rfl
   rotate_left
   ·simp only [Act.put, List.setIfInBounds_toArray, List.set_cons_zero, List.set_cons_succ, i64_w, i32_w]
    rfl
   refine done_ (by kernel_rfl) ?_
   try go_wp2
   refine bodyPost_ret (results_ct rfl _ _ gb228 39 #[.slice Ao15 y235.length co15, .int .i64 0] (0, 0) _ rfl (by (with_reducible repeat (first | refine za5 ?_ _ | refine za6 ?_ | refine za4 ?_ _)); refine zat (cs := #[.slice Ao15 y235.length co15, .int .i64 0]) ?_ 1 _ rfl; (with_reducible repeat (first | refine za5 ?_ _ | refine za6 ?_ | refine za4 ?_ _)); refine zat (cs := #[.slice none 0 0, .int .i64 0]) ?_ 0 _ rfl; (with_reducible repeat (first | refine za5 ?_ _ | refine za6 ?_ | refine za4 ?_ _)); exact BK228.out) Try.underlying39 rfl (by kernel_rfl)) rfl ?_
   exact ⟨_, by first | rfl | (simp [zaf, zae] <;> rfl) | (simp [*, zaf, zae] <;> rfl), by (with_reducible repeat (first | apply Kd.zak | apply Kd.zaj | apply Kd.zam)); exact Kd.R_mono (Kd.R_far (p := ⟨gb228, 1, none⟩) (Kd.R_far (p := ⟨gb228, 0, none⟩) (Kd.R_types HO237.out BK228.out (by decide)) (fun _ hk => hk.2) (.slice Ao15 y235.length co15)) (fun _ hk => hk.2) (.int .i64 0)) (fun _ hk => trivial), by repeat (first | (with_reducible first | exact HB.out | apply za2 | apply za0 | apply za1 | refine za3 ?_ GE227.out | refine za3 ?_ GE228.out | refine za3 ?_ GE238.out) | exact HB.out)⟩
  ·rw [if_neg c6] at H
   exact absurd H (by simp)
 ·rw [if_neg c5] at H
  exact absurd H (by simp)

/-! ### slices_IndexFunc_int_int: function 112 -/
/-- A function value that tells of each number whether p holds; it only draws. -/
def PredI (g : Nat) (lb : Array Value) (p : Int → Bool) (w : World) : Prop :=
 ∀ n x, Calls Try.prog g (#[.int .i64 x] ++ lb) (w.drewN n) fun e w' => e = .returned (.bool (p x)) ∧ Drawn0 (w.drewN n) w'

def idxFrom (p : Int → Bool) (l : List Int) : Nat → Nat → Int
 | 0, _ => -1
 | d + 1, j => if p (rd l j) = true then j else idxFrom p l d (j + 1)

set_option maxHeartbeats 1000000 in
theorem idxFunc_calls (g : Nat) (lb : Array Value) (p : Int → Bool) (eg : ∀ args w, (callFunc g args).run Try.prog w = .ok (.enter g args) w) (A0 : Option Addr) (c0 : Nat) (l0 : List Int) (w : World) (hr0 : Kd.C (Kd.int .i64) w A0 l0.length l0) (hp : PredI g lb p w) :
  Calls Try.prog 112 #[.slice A0 l0.length c0, .func (.func g) #[] lb] w fun e w' => e = .returned (.int .i64 (idxFrom p l0 l0.length 0)) ∧ Drawn0 w w' := by
 have HP := Aside0.mk hp
 have HR0 := Aside0.mk hr0
 have hm : l0.length ≤ 9223372036854775807 := hr0.2.1
 clear hp hr0
 go_enter Try.func112, Try.ntmps112
 go_wp2
 go_loopg [8] l0.length (fun d v8 w' => ∃ j : Nat, v8 = .int .i64 j ∧ Aside0 (j + d = l0.length) ∧ Aside0 (idxFrom p l0 d j = idxFrom p l0 l0.length 0) ∧ Drawn0 w w')
 case atStart => exact ⟨0, rfl, ⟨by omega⟩, ⟨rfl⟩, Drawn0.refl _⟩
 case round =>
  obtain ⟨j, rfl, HJ, HI, ⟨m, rfl⟩⟩ := hrel
  cases gk with
  | zero =>
   have hj := HJ.out
   have c1 : decide (j < l0.length) = false := decide_eq_false (by omega)
   have H2 := HI.out
   simp only [idxFrom] at H2
   have HF := Aside0.mk H2.symm
   clear H2 hj
   go_wp2
   go_ret
   exact ⟨by rw [HF.out]; rfl, Drawn0.mk ⟨_, rfl⟩⟩
  | succ d =>
   have hj := HJ.out
   have hlt : j < l0.length := by omega
   have c1 : decide (j < l0.length) = true := decide_eq_true hlt
   obtain ⟨ad, e1, hx⟩ := Kd.at_int HR0.out (j : Int) (by omega) (by omega)
   cases e1
   have hxx := hx
   rw [Int.toNat_natCast] at hx
   have H2 := HI.out
   clear hj
   cases hq : p (rd l0 j) with
   | true =>
    simp only [idxFrom, hq, if_true] at H2
    have HF := Aside0.mk H2.symm
    have HQ := Aside0.mk hq
    clear H2 hq
    go_wp2_with fail
    refine (HP.out m _).mono ?_
    rintro e w' ⟨rfl, ⟨nd, rfl⟩⟩
    rw [HQ.out]
    go_wp2
    go_ret
    exact ⟨by rw [HF.out]; rfl, by repeat (first | exact Drawn0.refl _ | apply Drawn0.step)⟩
   | false =>
    have H3 : idxFrom p l0 d (j + 1) = idxFrom p l0 l0.length 0 := by simpa [idxFrom, hq] using H2
    have HF := Aside0.mk H3
    have HQ := Aside0.mk hq
    clear H2 hq H3
    go_wp2_with fail
    refine (HP.out m _).mono ?_
    rintro e w' ⟨rfl, ⟨nd, rfl⟩⟩
    rw [HQ.out]
    go_wp2
    go_roundg d
    case measure => omega
    case rel => exact ⟨j + 1, by go_num, ⟨by have := HJ.out; omega⟩, HF, by repeat (first | exact Drawn0.refl _ | apply Drawn0.step)⟩


/-! ### slices_ContainsFunc_int_int: function 106 -/
theorem idxFrom_any (p : Int → Bool) (l : List Int) (d : Nat) : ∀ j, j + d = l.length → decide (0 ≤ idxFrom p l d j) = (l.drop j).any p := by
 induction d with
 | zero =>
  intro j hj
  rw [List.drop_eq_nil_of_le (by omega)]
  rfl
 | succ d ih =>
  intro j hj
  have hlt : j < l.length := by omega
  rw [List.drop_eq_getElem_cons hlt, List.any_cons]
  have e : rd l j = l[j] := by simp [rd, List.getD_eq_getElem?_getD, hlt]
  simp only [idxFrom, e]
  cases h : p l[j] with
  | true => simp
  | false => simpa [h] using ih (j + 1) (by omega)

set_option maxHeartbeats 1000000 in
theorem containsFunc_calls (g : Nat) (lb : Array Value) (p : Int → Bool) (eg : ∀ args w, (callFunc g args).run Try.prog w = .ok (.enter g args) w) (A0 : Option Addr) (c0 : Nat) (l0 : List Int) (w : World) (hr0 : Kd.C (Kd.int .i64) w A0 l0.length l0) (hp : PredI g lb p w) :
  Calls Try.prog 106 #[.slice A0 l0.length c0, .func (.func g) #[] lb] w fun e w' => e = .returned (.bool (l0.any p)) ∧ Drawn0 w w' := by
 have HC := Aside0.mk (idxFunc_calls g lb p eg A0 c0 l0 w hr0 hp)
 have HE := Aside0.mk (idxFrom_any p l0 l0.length 0 (by omega))
 rw [List.drop_zero] at HE
 clear hp hr0 eg
 go_enter Try.func106, Try.ntmps106
 go_wp2_with fail
 refine HC.out.mono ?_
 rintro e w' ⟨rfl, ⟨nd, rfl⟩⟩
 go_wp2
 go_ret
 exact ⟨by rw [← HE.out]; rfl, Drawn0.mk ⟨_, rfl⟩⟩

/-! ### impl_in: function 93 -/
def impl_in.f (a0 : Int) (a1 : Int) (a2 : Int) : Option (Bool) := if a0 ≥ a1 then (some (decide (a0 ≤ a2))) else (some false)
set_option maxHeartbeats 8000000 in
set_option maxRecDepth 100000 in
theorem impl_in.calls (a0 : Int) (a1 : Int) (a2 : Int) (r : Bool) (w : World) (h : impl_in.f a0 a1 a2 = some r) :
  Calls Try.prog 93 #[.int .i64 a0, .int .i64 a1, .int .i64 a2] w fun e w' => e = .returned (.bool r) ∧ Drawn0 w w' := by
 have H : (if a0 ≥ a1 then (some (decide (a0 ≤ a2))) else (some false)) = some r := h
 clear h
 by_cases c4 : a0 ≥ a1
 ·rw [if_pos c4] at H
  have c4b0 : decide (a1 ≤ a0) = true := decide_eq_true c4
  clear c4
  obtain rfl := Option.some.inj H
  go_enter Try.func93, Try.ntmps93
  go_wp2
  go_ret
  exact ⟨by first | rfl | (simp; done) | (simp [*]; done), by repeat (first | exact Drawn0.refl _ | apply Drawn0.step)⟩
 ·rw [if_neg c4] at H
  have c4b0 : decide (a1 ≤ a0) = false := decide_eq_false c4
  clear c4
  obtain rfl := Option.some.inj H
  go_enter Try.func93, Try.ntmps93
  go_wp2
  go_ret
  exact ⟨by first | rfl | (simp; done) | (simp [*]; done), by repeat (first | exact Drawn0.refl _ | apply Drawn0.step)⟩

/-! ### impl_coefOk: function 55 -/
def impl_coefOk.f (a0 : Int) : Option (Bool) := (impl_in.f a0 (-1000000) 1000000).bind fun t293 => (some t293)
set_option maxHeartbeats 8000000 in
set_option maxRecDepth 100000 in
theorem impl_coefOk.calls (a0 : Int) (r : Bool) (w : World) (h : impl_coefOk.f a0 = some r) :
  Calls Try.prog 55 #[.int .i64 a0] w fun e w' => e = .returned (.bool r) ∧ Drawn0 w w' := by
 have H : ((impl_in.f a0 (-1000000) 1000000).bind fun t293 => (some t293)) = some r := h
 clear h
 replace H := Option.bind_eq_some_iff.mp H
 obtain ⟨t293, A20, H⟩ := H
 replace H : (some t293) = some r := H
 have A2 := Aside0.mk A20
 clear A20
 obtain rfl := Option.some.inj H
 go_enter Try.func55, Try.ntmps55
 go_wp2_with (first | ((with_reducible refine zal (f := 93) rfl ?_); refine goesL_ (some 4) rfl rfl Try.func93 (by kernel_rfl) rfl #[.int .i64 a0, .int .i64 (-1000000), .int .i64 1000000] rfl (by (try simp only [List.map_toArray, List.map_cons, List.map_nil]); first | done | rfl | (simp only [List.length_drop, List.length_take]; rfl)) ?_; (with_reducible refine (impl_in.calls a0 (-1000000) 1000000 t293 _ A2.out).mono ?_); rintro e w' ⟨rfl, ⟨nd, rfl⟩⟩; refine ⟨_, rfl, ?_⟩))
 go_ret
 exact ⟨by first | rfl | (simp; done) | (simp [*]; done), by repeat (first | exact Drawn0.refl _ | apply Drawn0.step)⟩

/-! ### impl_polynomialOk_1: function 107 -/
def impl_polynomialOk_1.f (a0 : Int) : Option (Bool) := (impl_coefOk.f a0).bind fun t294 => (some (!t294))
set_option maxHeartbeats 8000000 in
set_option maxRecDepth 100000 in
theorem impl_polynomialOk_1.calls (a0 : Int) (r : Bool) (w : World) (h : impl_polynomialOk_1.f a0 = some r) :
  Calls Try.prog 107 #[.int .i64 a0] w fun e w' => e = .returned (.bool r) ∧ Drawn0 w w' := by
 have H : ((impl_coefOk.f a0).bind fun t294 => (some (!t294))) = some r := h
 clear h
 replace H := Option.bind_eq_some_iff.mp H
 obtain ⟨t294, A20, H⟩ := H
 replace H : (some (!t294)) = some r := H
 have A2 := Aside0.mk A20
 clear A20
 obtain rfl := Option.some.inj H
 go_enter Try.func107, Try.ntmps107
 go_wp2_with (first | ((with_reducible refine zal (f := 55) rfl ?_); refine goesL_ (some 4) rfl rfl Try.func55 (by kernel_rfl) rfl #[.int .i64 a0] rfl (by (try simp only [List.map_toArray, List.map_cons, List.map_nil]); first | done | rfl | (simp only [List.length_drop, List.length_take]; rfl)) ?_; (with_reducible refine (impl_coefOk.calls a0 t294 _ A2.out).mono ?_); rintro e w' ⟨rfl, ⟨nd, rfl⟩⟩; refine ⟨_, rfl, ?_⟩))
 go_ret
 exact ⟨by first | rfl | (simp; done) | (simp [*]; done), by repeat (first | exact Drawn0.refl _ | apply Drawn0.step)⟩

/-! ### impl_polynomialOk: function 92 -/
def polyOkB (n : Int) : Bool := !(decide (-1000000 ≤ n) && decide (n ≤ 1000000))
theorem polyOkB_pred (w : World) : PredI 107 #[] polyOkB w := fun n x => by
 have h : impl_polynomialOk_1.f x = some (polyOkB x) := by
  unfold impl_polynomialOk_1.f impl_coefOk.f impl_in.f polyOkB
  by_cases h1 : -1000000 ≤ x <;> simp [h1]
 exact impl_polynomialOk_1.calls x _ _ h
def impl_polynomialOk.f (l0 : List Int) : Option Bool := some (decide (l0.length ≤ 17) && !(l0.any polyOkB))
set_option maxHeartbeats 1000000 in
theorem impl_polynomialOk.calls0 (A0 : Option Addr) (c0 : Nat) (l0 : List Int) (r : Bool) (w : World) (hr0 : Kd.C (Kd.int .i64) w A0 l0.length l0) (hc0 : l0.length ≤ c0) (h : impl_polynomialOk.f l0 = some r) :
  Calls Try.prog 92 #[.slice A0 l0.length c0] w fun e w' => e = .returned (.bool r) ∧ Drawn0 w w' := by
 have HC := Aside0.mk (containsFunc_calls 107 #[] polyOkB (entersAt Try.func107 (by kernel_rfl) rfl) A0 c0 l0 w hr0 (polyOkB_pred w))
 obtain rfl := Option.some.inj h
 clear hr0 hc0 h
 by_cases hl : l0.length ≤ 17
 ·have h1 : decide ((l0.length : Int) ≤ 17) = true := decide_eq_true (by omega)
  have h2 : decide (l0.length ≤ 17) = true := decide_eq_true hl
  have HF := Aside0.mk h2
  cases hq : l0.any polyOkB with
  | true =>
   rw [hq] at HC
   go_enter Try.func92, Try.ntmps92
   go_wp2_with fail
   refine HC.out.mono ?_
   rintro e w' ⟨rfl, ⟨nd, rfl⟩⟩
   go_wp2
   go_ret
   exact ⟨by simp, Drawn0.mk ⟨_, rfl⟩⟩
  | false =>
   rw [hq] at HC
   go_enter Try.func92, Try.ntmps92
   go_wp2_with fail
   refine HC.out.mono ?_
   rintro e w' ⟨rfl, ⟨nd, rfl⟩⟩
   go_wp2
   go_ret
   exact ⟨by rw [HF.out]; rfl, Drawn0.mk ⟨_, rfl⟩⟩
 ·have h1 : decide ((l0.length : Int) ≤ 17) = false := decide_eq_false (by omega)
  have h2 : decide (l0.length ≤ 17) = false := decide_eq_false hl
  clear HC
  go_enter Try.func92, Try.ntmps92
  go_wp2
  go_ret
  exact ⟨by rw [h2]; rfl, Drawn0.refl _⟩

theorem impl_polynomialOk.calls (A0 : Option Addr) (c0 : Nat) (l0 : List Int) (r : Bool) (w : World) (hr0 : Kd.C (Kd.int .i64) w A0 l0.length l0) (hc0 : l0.length ≤ c0) (h : impl_polynomialOk.f l0 = some r) :
  Calls Try.prog 92 #[.slice A0 l0.length c0] w fun e w' => e = .returned (.bool r) ∧ Below w.heap.size w w' :=
 (impl_polynomialOk.calls0 A0 c0 l0 r w hr0 hc0 h).mono fun _ _ ⟨he, hd⟩ => ⟨he, hd.below⟩

end Go.Proofs.Ytgglemlhombgkaa.T
