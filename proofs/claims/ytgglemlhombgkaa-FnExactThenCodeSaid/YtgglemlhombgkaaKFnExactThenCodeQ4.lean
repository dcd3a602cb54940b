-- Written by a program of this session (wip/tools/stubprint.py): contracts by hand where the kit's print has none.
import Derived.Test.YtgglemlhombgkaaKFnExactThenCodeQ0
import Derived.Test.YtgglemlhombgkaaKFnExactThenCodeQ2
import Derived.Test.YtgglemlhombgkaaKFnExactThenCodeQ3
namespace Go.Proofs.Ytgglemlhombgkaa.T
open Go.RowKit Go.Proofs.YtgglemlhombgkaaW.PrintWords Go.Proofs.YtgglemlhombgkaaW.PrintLast Go.Proofs.YtgglemlhombgkaaW.PrintMore
attribute [local go_sem] max2_int min2_int max_two min_two max_three min_three max_four min_four   -- for this text's walks alone
set_option linter.unusedVariables false
set_option linter.unusedSimpArgs false

/-! ### impl_Code_polynomials: function 67 -/
mutual
def impl_Code_polynomials.j0 : Nat → Bool → List (S69) → Int → Option ((List (List Int)) × Bool)
 | 0, _, _, _ => none
 | k + 1, x26, x1000, x1001 => if x26 = true then (some (([] : List (List Int)), false)) else (impl_Code_polynomials.l0 k (([(([0, 1] : List Int))] : List (List Int))) x1000 (x1000.length : Int) 0)
def impl_Code_polynomials.l0 : Nat → List (List Int) → List (S69) → Int → Int → Option ((List (List Int)) × Bool)
 | 0, _, _, _, _ => none
 | k + 1, x4, x32, x33, x34 => if x34 < x33 then (if 0 ≤ x34 then (if x34 < (x32.length : Int) then ((impl_Op_ok.f k ((za9 x32 x34).f0) ((za9 x32 x34).f1) ((za9 x32 x34).f2) x34).bind fun t339 => (if t339 = true then (if ((za9 x32 x34).f0) = 0 then ((impl_cut.f k (([(za9 x32 x34).f1] : List Int))).bind fun t346 => (impl_Code_polynomials.j2 k x4 t346 x32 x33 x34)) else (if ((za9 x32 x34).f0) = 1 then (if 0 ≤ ((za9 x32 x34).f1) then (if ((za9 x32 x34).f1) < (x4.length : Int) then (if 0 ≤ ((za9 x32 x34).f2) then (if ((za9 x32 x34).f2) < (x4.length : Int) then ((impl_sumOf.f k (rd_L2 x4 ((za9 x32 x34).f1)) (rd_L2 x4 ((za9 x32 x34).f2))).bind fun t351 => (impl_Code_polynomials.j2 k x4 t351 x32 x33 x34)) else (none)) else (none)) else (none)) else (none)) else (if ((za9 x32 x34).f0) = 2 then (if 0 ≤ ((za9 x32 x34).f1) then (if ((za9 x32 x34).f1) < (x4.length : Int) then ((impl_productOf.f k (rd_L2 x4 ((za9 x32 x34).f1)) (([(za9 x32 x34).f2] : List Int))).bind fun t358 => (impl_Code_polynomials.j2 k x4 t358 x32 x33 x34)) else (none)) else (none)) else (if ((za9 x32 x34).f0) = 3 then (if 0 ≤ ((za9 x32 x34).f1) then (if ((za9 x32 x34).f1) < (x4.length : Int) then (if 0 ≤ ((za9 x32 x34).f2) then (if ((za9 x32 x34).f2) < (x4.length : Int) then ((impl_productOf.f k (rd_L2 x4 ((za9 x32 x34).f1)) (rd_L2 x4 ((za9 x32 x34).f2))).bind fun t363 => (impl_Code_polynomials.j2 k x4 t363 x32 x33 x34)) else (none)) else (none)) else (none)) else (none)) else (impl_Code_polynomials.j2 k x4 (([] : List Int)) x32 x33 x34))))) else (some (([] : List (List Int)), false)))) else (none)) else (none)) else (some (x4, true))
def impl_Code_polynomials.j2 : Nat → List (List Int) → List Int → List (S69) → Int → Int → Option ((List (List Int)) × Bool)
 | 0, _, _, _, _, _ => none
 | k + 1, x4, x7, x32, x33, x34 => (impl_polynomialOk.f x7).bind fun t366 => (if t366 = true then (if x4.length < 5864062014805 then (impl_Code_polynomials.l0 k (x4 ++ [x7]) x32 x33 (wrap64 (x34 + 1))) else (none)) else (some (([] : List (List Int)), false)))
end
def impl_Code_polynomials.f (k : Nat) (l0_0 : List (S69)) (a0_1 : Int) : Option ((List (List Int)) × Bool) := if (l0_0.length : Int) > 120 then (impl_Code_polynomials.j0 k true l0_0 a0_1) else ((impl_in.f a0_1 0 (l0_0.length : Int)).bind fun t330 => (impl_Code_polynomials.j0 k (!t330) l0_0 a0_1))
theorem impl_Code_polynomials.mono_l : ∀ k, (∀ y0 y1 y2, LeO (impl_Code_polynomials.j0 k y0 y1 y2) (impl_Code_polynomials.j0 (k + 1) y0 y1 y2)) ∧ (∀ y0 y1 y2 y3, LeO (impl_Code_polynomials.l0 k y0 y1 y2 y3) (impl_Code_polynomials.l0 (k + 1) y0 y1 y2 y3)) ∧ (∀ y0 y1 y2 y3 y4, LeO (impl_Code_polynomials.j2 k y0 y1 y2 y3 y4) (impl_Code_polynomials.j2 (k + 1) y0 y1 y2 y3 y4))
 | 0 => ⟨fun _ _ _ r h => by simp [impl_Code_polynomials.j0] at h, fun _ _ _ _ r h => by simp [impl_Code_polynomials.l0] at h, fun _ _ _ _ _ r h => by simp [impl_Code_polynomials.j2] at h⟩
 | k + 1 => by
  obtain ⟨ih0, ih1, ih2⟩ := impl_Code_polynomials.mono_l k
  refine ⟨?_, ?_, ?_⟩
  ·intro y0 y1 y2
   unfold impl_Code_polynomials.j0
   repeat' first
   | (with_reducible exact ih0 _ _ _)
   | (with_reducible exact ih1 _ _ _ _)
   | (with_reducible exact ih2 _ _ _ _ _)
   | (with_reducible exact impl_Op_ok.mono _ _ _ _ _)
   | (with_reducible exact impl_cut.mono _ _)
   | (with_reducible exact impl_productOf.mono _ _ _)
   | (with_reducible exact impl_sumOf.mono _ _ _)
   | (with_reducible exact LeO.refl _)
   | (with_reducible exact LeO.none _)
   | (with_reducible refine LeO.ite ?_ ?_)
   | (with_reducible refine LeO.bind ?_ (fun _ => ?_))
   | exact ih0 _ _ _
   | exact ih1 _ _ _ _
   | exact ih2 _ _ _ _ _
   | exact impl_Op_ok.mono _ _ _ _ _
   | exact impl_cut.mono _ _
   | exact impl_productOf.mono _ _ _
   | exact impl_sumOf.mono _ _ _
   | exact LeO.none _
   | refine LeO.ite ?_ ?_
   | refine LeO.bind ?_ (fun _ => ?_)
  ·intro y0 y1 y2 y3
   unfold impl_Code_polynomials.l0
   repeat' first
   | (with_reducible exact ih0 _ _ _)
   | (with_reducible exact ih1 _ _ _ _)
   | (with_reducible exact ih2 _ _ _ _ _)
   | (with_reducible exact impl_Op_ok.mono _ _ _ _ _)
   | (with_reducible exact impl_cut.mono _ _)
   | (with_reducible exact impl_productOf.mono _ _ _)
   | (with_reducible exact impl_sumOf.mono _ _ _)
   | (with_reducible exact LeO.refl _)
   | (with_reducible exact LeO.none _)
   | (with_reducible refine LeO.ite ?_ ?_)
   | (with_reducible refine LeO.bind ?_ (fun _ => ?_))
   | exact ih0 _ _ _
   | exact ih1 _ _ _ _
   | exact ih2 _ _ _ _ _
   | exact impl_Op_ok.mono _ _ _ _ _
   | exact impl_cut.mono _ _
   | exact impl_productOf.mono _ _ _
   | exact impl_sumOf.mono _ _ _
   | exact LeO.none _
   | refine LeO.ite ?_ ?_
   | refine LeO.bind ?_ (fun _ => ?_)
  ·intro y0 y1 y2 y3 y4
   unfold impl_Code_polynomials.j2
   repeat' first
   | (with_reducible exact ih0 _ _ _)
   | (with_reducible exact ih1 _ _ _ _)
   | (with_reducible exact ih2 _ _ _ _ _)
   | (with_reducible exact impl_Op_ok.mono _ _ _ _ _)
   | (with_reducible exact impl_cut.mono _ _)
   | (with_reducible exact impl_productOf.mono _ _ _)
   | (with_reducible exact impl_sumOf.mono _ _ _)
   | (with_reducible exact LeO.refl _)
   | (with_reducible exact LeO.none _)
   | (with_reducible refine LeO.ite ?_ ?_)
   | (with_reducible refine LeO.bind ?_ (fun _ => ?_))
   | exact ih0 _ _ _
   | exact ih1 _ _ _ _
   | exact ih2 _ _ _ _ _
   | exact impl_Op_ok.mono _ _ _ _ _
   | exact impl_cut.mono _ _
   | exact impl_productOf.mono _ _ _
   | exact impl_sumOf.mono _ _ _
   | exact LeO.none _
   | refine LeO.ite ?_ ?_
   | refine LeO.bind ?_ (fun _ => ?_)
theorem impl_Code_polynomials.mono : ∀ a0 a1 k, LeO (impl_Code_polynomials.f k a0 a1) (impl_Code_polynomials.f (k + 1) a0 a1) := by
 intro a0 a1 k
 obtain ⟨ih0, ih1, ih2⟩ := impl_Code_polynomials.mono_l k
 unfold impl_Code_polynomials.f
 repeat' first
   | (with_reducible exact ih0 _ _ _)
   | (with_reducible exact ih1 _ _ _ _)
   | (with_reducible exact ih2 _ _ _ _ _)
   | (with_reducible exact impl_Op_ok.mono _ _ _ _ _)
   | (with_reducible exact impl_cut.mono _ _)
   | (with_reducible exact impl_productOf.mono _ _ _)
   | (with_reducible exact impl_sumOf.mono _ _ _)
   | (with_reducible exact LeO.refl _)
   | (with_reducible exact LeO.none _)
   | (with_reducible refine LeO.ite ?_ ?_)
   | (with_reducible refine LeO.bind ?_ (fun _ => ?_))
   | exact ih0 _ _ _
   | exact ih1 _ _ _ _
   | exact ih2 _ _ _ _ _
   | exact impl_Op_ok.mono _ _ _ _ _
   | exact impl_cut.mono _ _
   | exact impl_productOf.mono _ _ _
   | exact impl_sumOf.mono _ _ _
   | exact LeO.none _
   | refine LeO.ite ?_ ?_
   | refine LeO.bind ?_ (fun _ => ?_)
def impl_Code_polynomials.T1 : Bool × List (List Nat × List Nat) := (true, [([], []), ([0], [0]), ([1], [1]), ([2], [2]), ([3], [3]), ([4], [4]), ([5], [5]), ([6], [6]), ([7, 6], [6, 7]), ([8, 6], [6, 8]), ([9, 6], [6, 9]), ([6], [6]), ([11, 6], [6, 11]), ([12, 6], [6, 12]), ([13, 6], [6, 13]), ([14, 6], [6, 14]), ([10, 15, 6, 6], [6, 10, 15]), ([16, 6], [6, 16]), ([6, 17], [6, 17])])
def impl_Code_polynomials.B1 : List Nat := [0, 1, 3, 7, 15, 31, 63, 127, 255, 511, 1023, 127, 2175, 6271, 14463, 30847, 65535, 131071, 262143]
theorem impl_Code_polynomials.tab1 : rtab .any (opsOf Try.f67 1) = impl_Code_polynomials.T1 := by kernel_rfl
theorem impl_Code_polynomials.bits1 : waitsOk impl_Code_polynomials.T1.2 impl_Code_polynomials.B1 = true := by kernel_rfl
def impl_Code_polynomials.T14 : Bool × List (List Nat × List Nat) := (true, [([], []), ([], []), ([1], [1]), ([0, 2], [0, 2]), ([3], [3]), ([], []), ([], []), ([6], [6]), ([5, 7], [5, 7]), ([8], [8]), ([4, 9], [4, 9]), ([10, 10, 0, 1, 2, 3, 4, 5, 6, 7, 8, 9, 10], [10])])
def impl_Code_polynomials.B14 : List Nat := [0, 0, 2, 7, 15, 0, 0, 64, 224, 480, 1023, 2047]
theorem impl_Code_polynomials.tab14 : rtab .any (opsOf Try.f67 14) = impl_Code_polynomials.T14 := by kernel_rfl
theorem impl_Code_polynomials.bits14 : waitsOk impl_Code_polynomials.T14.2 impl_Code_polynomials.B14 = true := by kernel_rfl
def impl_Code_polynomials.T16 : Bool × List (List Nat × List Nat) := (true, [([], []), ([], []), ([1], [1]), ([0, 2], [0, 2]), ([3], [3]), ([], []), ([5], [5]), ([6], [6]), ([4, 7], [4, 7]), ([8, 8, 0, 1, 2, 3, 4, 5, 6, 7, 8], [8])])
def impl_Code_polynomials.B16 : List Nat := [0, 0, 2, 7, 15, 0, 32, 96, 255, 511]
theorem impl_Code_polynomials.tab16 : rtab .any (opsOf Try.f67 16) = impl_Code_polynomials.T16 := by kernel_rfl
theorem impl_Code_polynomials.bits16 : waitsOk impl_Code_polynomials.T16.2 impl_Code_polynomials.B16 = true := by kernel_rfl
def impl_Code_polynomials.T18 : Bool × List (List Nat × List Nat) := (true, [([], []), ([], []), ([1], [1]), ([0, 2], [0, 2]), ([3], [3]), ([], []), ([], []), ([6], [6]), ([5, 7], [5, 7]), ([8], [8]), ([4, 9], [4, 9]), ([10, 10, 0, 1, 2, 3, 4, 5, 6, 7, 8, 9, 10], [10])])
def impl_Code_polynomials.B18 : List Nat := [0, 0, 2, 7, 15, 0, 0, 64, 224, 480, 1023, 2047]
theorem impl_Code_polynomials.tab18 : rtab .any (opsOf Try.f67 18) = impl_Code_polynomials.T18 := by kernel_rfl
theorem impl_Code_polynomials.bits18 : waitsOk impl_Code_polynomials.T18.2 impl_Code_polynomials.B18 = true := by kernel_rfl
set_option maxHeartbeats 8000000 in
set_option maxRecDepth 100000 in
theorem impl_Code_polynomials.calls (k : Nat) (g0 : Nat) (A0_0 : Option Addr) (c0_0 : Nat) (l0_0 : List (S69)) (a0_1 : Int) (r1 : List (List Int)) (r2 : Bool) (w : World) (hb0 : w.heap[g0]? = some (.cells #[.slice A0_0 l0_0.length c0_0, .int .i64 a0_1] 39 (0, 0))) (hr0_0 : Kd.C k69 w A0_0 l0_0.length l0_0) (hc0_0 : l0_0.length ≤ c0_0) (h : impl_Code_polynomials.f k l0_0 a0_1 = some (r1, r2)) :
  Calls Try.prog 67 #[.pointer (some ⟨g0, 0, none⟩)] w fun e w' => ∃ v0_ : Value, e = .returned (.tuple #[v0_, .bool r2]) ∧ Kd.N (Kd.slice 3 (Kd.int .i64)) 22 w' w.heap.size (fun k_ => (w.heap.size ≤ k_)) v0_ r1 ∧ Below w.heap.size w w' := by
 have hu69 := Try.underlying69
 have HR0_0 := Aside0.mk hr0_0
 have HC0_0 := Aside0.mk hc0_0
 clear hr0_0 hc0_0
 have BK0 := Aside0.mk hb0
 clear hb0
 have HB := Aside0.mk (Below.refl w.heap.size w)
 have H : (if (l0_0.length : Int) > 120 then (impl_Code_polynomials.j0 k true l0_0 a0_1) else ((impl_in.f a0_1 0 (l0_0.length : Int)).bind fun t330 => (impl_Code_polynomials.j0 k (!t330) l0_0 a0_1))) = some (r1, r2) := h
 clear h
 have HC2 := Aside0.mk H
 clear H
 go_enter Try.func67, Try.ntmps67
 go_upto_region 1 with (fail)
 go_cut [26] (fun v26 wc => ∃ (kq : Nat) (x26_1 : Bool), v26 = .bool x26_1 ∧ Aside0 (impl_Code_polynomials.j0 kq x26_1 l0_0 a0_1 = some (r1, r2)) ∧ Aside0 (kq ≤ k) ∧ Aside0 (wc.heap[g0]? = some (.cells #[(.slice A0_0 l0_0.length c0_0), .int .i64 a0_1] 39 (0, 0))) ∧ Aside0 (Below w.heap.size w wc))
 case first =>
  have H := HC2.out
  clear HC2
  by_cases c3 : (l0_0.length : Int) > 120
  ·rw [if_pos c3] at H
   have c3b0 : decide (120 < (l0_0.length : Int)) = true := decide_eq_true c3
   have c3b1 : decide (120 < l0_0.length) = true := decide_eq_true (by omega)
   clear c3
   (first | rw [c3b0] | (simp only [i64_w, i32_w]; rw [c3b0]) | skip)
   have H' := Aside0.mk H
   clear H
   try go_wp2
   have n0_ := Aside0.mk (za6 BK0.out)
   have n1_ := Aside0.mk (za1 HB.out)
   clear BK0
   clear HB
   have BK0 := n0_
   have HB := n1_
   clear n0_ n1_
   refine start_ (n := 19) (S := fun w' => w'.cell? ⟨g0, 0, none⟩ = some (.slice A0_0 l0_0.length c0_0) ∧ w'.cell? ⟨g0, 1, none⟩ = some (.int .i64 a0_1)) (ds := []) #[false, false, false, false, false, false, false, false, false, false, false, false, false, false, false, false, false, false, false] (by kernel_rfl) rfl rfl ⟨(za8 BK0.out 0).trans rfl, (za8 BK0.out 1).trans rfl⟩ (fun hHeld => ?_); refine with_tabW impl_Code_polynomials.tab1 impl_Code_polynomials.bits1 (fun HT_ HW_ => ?_)
   generalize w.drew = w4 at BK0 HB hHeld ⊢
   refine pure_ (i := 0) (N := some 8) (v := ?_) (a' := ?_) #[true, false, false, false, false, false, false, false, false, false, false, false, false, false, false, false, false, false, false] rfl rfl (zan HT_.out (by kernel_rfl)) (fun _ _ _ h => h) (Or.inl ⟨by rfl, ?_⟩) ?_ ?_
   rotate_left
   ·intro w'
    go_simp
    with_reducible rfl
   rotate_left
   ·simp only [Act.put, List.setIfInBounds_toArray, List.set_cons_zero, List.set_cons_succ, i64_w, i32_w]
    rfl
   refine pure_ (i := 1) (N := some 9) (v := ?_) (a' := ?_) #[true, true, false, false, false, false, false, false, false, false, false, false, false, false, false, false, false, false, false] rfl rfl (zan HT_.out (by kernel_rfl)) (fun _ _ _ h => h) (Or.inl ⟨by rfl, ?_⟩) ?_ ?_
   rotate_left
   ·intro w'
    go_simp
    with_reducible rfl
   rotate_left
   ·simp only [Act.put, List.setIfInBounds_toArray, List.set_cons_zero, List.set_cons_succ, i64_w, i32_w]
    rfl
   refine pure_ (i := 2) (N := some 10) (v := ?_) (a' := ?_) #[true, true, true, false, false, false, false, false, false, false, false, false, false, false, false, false, false, false, false] rfl rfl (zan HT_.out (by kernel_rfl)) (fun _ _ _ h => h) (Or.inl ⟨by rfl, ?_⟩) ?_ ?_
   rotate_left
   ·intro w'
    go_simp
    with_reducible rfl
   rotate_left
   ·simp only [Act.put, List.setIfInBounds_toArray, List.set_cons_zero, List.set_cons_succ, i64_w, i32_w]
    rfl
   refine take_ (i := 3) (N := some 11) (v := ?_) (a' := ?_) #[true, true, true, true, false, false, false, false, false, false, false, false, false, false, false, false, false, false, false] rfl rfl (zax HT_.out HW_.out (by kernel_rfl)) (fun _ _ _ h => h) (Or.inl ⟨by rfl, ?_⟩) hHeld ?_ ?_
   rotate_left
   ·rintro w' ⟨s0, s1⟩
    go_simp
    with_reducible rfl
   rotate_left
   ·simp only [Act.put, List.setIfInBounds_toArray, List.set_cons_zero, List.set_cons_succ, i64_w, i32_w]
    rfl
   refine pure_ (i := 4) (N := some 12) (v := ?_) (a' := ?_) #[true, true, true, true, true, false, false, false, false, false, false, false, false, false, false, false, false, false, false] rfl rfl (zan HT_.out (by kernel_rfl)) (fun _ _ _ h => h) (Or.inl ⟨by rfl, ?_⟩) ?_ ?_
   rotate_left
   ·intro w'
    go_simp
    with_reducible rfl
   rotate_left
   ·simp only [Act.put, List.setIfInBounds_toArray, List.set_cons_zero, List.set_cons_succ, i64_w, i32_w]
    rfl
   refine pure_ (i := 5) (N := some 13) (v := ?_) (a' := ?_) #[true, true, true, true, true, true, false, false, false, false, false, false, false, false, false, false, false, false, false] rfl rfl (zan HT_.out (by kernel_rfl)) (fun _ _ _ h => h) (Or.inl ⟨by rfl, ?_⟩) ?_ ?_
   rotate_left
   ·intro w'
    go_simp
    with_reducible rfl
   rotate_left
   ·simp only [Act.put, List.setIfInBounds_toArray, List.set_cons_zero, List.set_cons_succ, i64_w, i32_w]
    rfl
   refine pure_ (i := 6) (N := some 14) (v := ?_) (a' := ?_) #[true, true, true, true, true, true, true, false, false, false, false, false, false, false, false, false, false, false, false] rfl rfl (zan HT_.out (by kernel_rfl)) (fun _ _ _ h => h) (Or.inl ⟨by rfl, ?_⟩) ?_ ?_
   rotate_left
   ·intro w'
    go_simp
    with_reducible rfl
   rotate_left
   ·simp only [Act.put, List.setIfInBounds_toArray, List.set_cons_zero, List.set_cons_succ, i64_w, i32_w]
    rfl
   refine pure_ (i := 7) (N := some 15) (v := undef) (a' := ?_) #[true, true, true, true, true, true, true, true, false, false, false, false, false, false, false, false, false, false, false] rfl rfl (zan HT_.out (by kernel_rfl)) (fun _ _ _ h => h) (Or.inr ⟨by rfl, rfl⟩) ?_ ?_
   rotate_left
   ·simp only [Act.put, List.setIfInBounds_toArray, List.set_cons_zero, List.set_cons_succ, i64_w, i32_w]
    rfl
   refine pure_ (i := 8) (N := some 16) (v := undef) (a' := ?_) #[true, true, true, true, true, true, true, true, true, false, false, false, false, false, false, false, false, false, false] rfl rfl (zan HT_.out (by kernel_rfl)) (fun _ _ _ h => h) (Or.inr ⟨by rfl, rfl⟩) ?_ ?_
   rotate_left
   ·simp only [Act.put, List.setIfInBounds_toArray, List.set_cons_zero, List.set_cons_succ, i64_w, i32_w]
    rfl
   refine pure_ (i := 9) (N := some 17) (v := undef) (a' := ?_) #[true, true, true, true, true, true, true, true, true, true, false, false, false, false, false, false, false, false, false] rfl rfl (zan HT_.out (by kernel_rfl)) (fun _ _ _ h => h) (Or.inr ⟨by rfl, rfl⟩) ?_ ?_
   rotate_left
   ·simp only [Act.put, List.setIfInBounds_toArray, List.set_cons_zero, List.set_cons_succ, i64_w, i32_w]
    rfl
   refine pure_ (i := 10) (N := some 18) (v := undef) (a' := ?_) #[true, true, true, true, true, true, true, true, true, true, true, false, false, false, false, false, false, false, false] rfl rfl (zan HT_.out (by kernel_rfl)) (fun _ _ _ h => h) (Or.inr ⟨by rfl, rfl⟩) ?_ ?_
   rotate_left
   ·simp only [Act.put, List.setIfInBounds_toArray, List.set_cons_zero, List.set_cons_succ, i64_w, i32_w]
    rfl
   refine pure_ (i := 11) (N := some 19) (v := undef) (a' := ?_) #[true, true, true, true, true, true, true, true, true, true, true, true, false, false, false, false, false, false, false] rfl rfl (zan HT_.out (by kernel_rfl)) (fun _ _ _ h => h) (Or.inr ⟨by rfl, rfl⟩) ?_ ?_
   rotate_left
   ·simp only [Act.put, List.setIfInBounds_toArray, List.set_cons_zero, List.set_cons_succ, i64_w, i32_w]
    rfl
   refine pure_ (i := 12) (N := some 20) (v := undef) (a' := ?_) #[true, true, true, true, true, true, true, true, true, true, true, true, true, false, false, false, false, false, false] rfl rfl (zan HT_.out (by kernel_rfl)) (fun _ _ _ h => h) (Or.inr ⟨by rfl, rfl⟩) ?_ ?_
   rotate_left
   ·simp only [Act.put, List.setIfInBounds_toArray, List.set_cons_zero, List.set_cons_succ, i64_w, i32_w]
    rfl
   refine pure_ (i := 13) (N := some 21) (v := undef) (a' := ?_) #[true, true, true, true, true, true, true, true, true, true, true, true, true, true, false, false, false, false, false] rfl rfl (zan HT_.out (by kernel_rfl)) (fun _ _ _ h => h) (Or.inr ⟨by rfl, rfl⟩) ?_ ?_
   rotate_left
   ·simp only [Act.put, List.setIfInBounds_toArray, List.set_cons_zero, List.set_cons_succ, i64_w, i32_w]
    rfl
   refine pure_ (i := 14) (N := some 22) (v := undef) (a' := ?_) #[true, true, true, true, true, true, true, true, true, true, true, true, true, true, true, false, false, false, false] rfl rfl (zan HT_.out (by kernel_rfl)) (fun _ _ _ h => h) (Or.inr ⟨by rfl, rfl⟩) ?_ ?_
   rotate_left
   ·simp only [Act.put, List.setIfInBounds_toArray, List.set_cons_zero, List.set_cons_succ, i64_w, i32_w]
    rfl
   refine pure_ (i := 15) (N := some 23) (v := undef) (a' := ?_) #[true, true, true, true, true, true, true, true, true, true, true, true, true, true, true, true, false, false, false] rfl rfl (zan HT_.out (by kernel_rfl)) (fun _ _ _ h => h) (Or.inr ⟨by rfl, rfl⟩) ?_ ?_
   rotate_left
   ·simp only [Act.put, List.setIfInBounds_toArray, List.set_cons_zero, List.set_cons_succ, i64_w, i32_w]
    rfl
   refine pure_ (i := 16) (N := some 24) (v := undef) (a' := ?_) #[true, true, true, true, true, true, true, true, true, true, true, true, true, true, true, true, true, false, false] rfl rfl (zan HT_.out (by kernel_rfl)) (fun _ _ _ h => h) (Or.inr ⟨by rfl, rfl⟩) ?_ ?_
   rotate_left
   ·simp only [Act.put, List.setIfInBounds_toArray, List.set_cons_zero, List.set_cons_succ, i64_w, i32_w]
    rfl
   refine pure_ (i := 17) (N := some 25) (v := undef) (a' := ?_) #[true, true, true, true, true, true, true, true, true, true, true, true, true, true, true, true, true, true, false] rfl rfl (zan HT_.out (by kernel_rfl)) (fun _ _ _ h => h) (Or.inr ⟨by rfl, rfl⟩) ?_ ?_
   rotate_left
   ·simp only [Act.put, List.setIfInBounds_toArray, List.set_cons_zero, List.set_cons_succ, i64_w, i32_w]
    rfl
   refine pure_ (i := 18) (N := some 26) (v := ?_) (a' := ?_) #[true, true, true, true, true, true, true, true, true, true, true, true, true, true, true, true, true, true, true] rfl rfl (zan HT_.out (by kernel_rfl)) (fun _ _ _ h => h) (Or.inl ⟨by rfl, ?_⟩) ?_ ?_
   rotate_left
   ·intro w'
    go_simp
    with_reducible rfl
   rotate_left
   ·simp only [Act.put, List.setIfInBounds_toArray, List.set_cons_zero, List.set_cons_succ, i64_w, i32_w]
    rfl
   refine done_ (done_of HT_.out (by kernel_rfl)) ?_
   try go_wp2
   go_meet
   case rel => exact ⟨_, (true), (by first | rfl | (simp; done) | (simp [*]; done)), H', ⟨by first | omega | exact Nat.le_refl _⟩, ⟨by (with_reducible repeat (first | refine za5 ?_ _ | refine za6 ?_ | refine za4 ?_ _)); exact BK0.out⟩, ⟨by repeat (first | (with_reducible first | exact HB.out | apply za2 | apply za0 | apply za1 | refine za3 ?_ GE0.out) | exact HB.out)⟩⟩
  ·rw [if_neg c3] at H
   have c3b0 : decide (120 < (l0_0.length : Int)) = false := decide_eq_false c3
   have c3b1 : decide (120 < l0_0.length) = false := decide_eq_false (by omega)
   clear c3
   (first | rw [c3b0] | (simp only [i64_w, i32_w]; rw [c3b0]) | skip)
   replace H := Option.bind_eq_some_iff.mp H
   obtain ⟨t330, A50, H⟩ := H
   replace H : (impl_Code_polynomials.j0 k (!t330) l0_0 a0_1) = some (r1, r2) := H
   have A5 := Aside0.mk A50
   clear A50
   have H' := Aside0.mk H
   clear H
   try go_wp2
   have n0_ := Aside0.mk (za6 BK0.out)
   have n1_ := Aside0.mk (za1 HB.out)
   clear BK0
   clear HB
   have BK0 := n0_
   have HB := n1_
   clear n0_ n1_
   refine start_ (n := 19) (S := fun w' => w'.cell? ⟨g0, 0, none⟩ = some (.slice A0_0 l0_0.length c0_0) ∧ w'.cell? ⟨g0, 1, none⟩ = some (.int .i64 a0_1)) (ds := []) #[false, false, false, false, false, false, false, false, false, false, false, false, false, false, false, false, false, false, false] (by kernel_rfl) rfl rfl ⟨(za8 BK0.out 0).trans rfl, (za8 BK0.out 1).trans rfl⟩ (fun hHeld => ?_); refine with_tabW impl_Code_polynomials.tab1 impl_Code_polynomials.bits1 (fun HT_ HW_ => ?_)
   generalize w.drew = w6 at BK0 HB hHeld ⊢
   refine pure_ (i := 0) (N := some 8) (v := ?_) (a' := ?_) #[true, false, false, false, false, false, false, false, false, false, false, false, false, false, false, false, false, false, false] rfl rfl (zan HT_.out (by kernel_rfl)) (fun _ _ _ h => h) (Or.inl ⟨by rfl, ?_⟩) ?_ ?_
   rotate_left
   ·intro w'
    go_simp
    with_reducible rfl
   rotate_left
   ·simp only [Act.put, List.setIfInBounds_toArray, List.set_cons_zero, List.set_cons_succ, i64_w, i32_w]
    rfl
   refine pure_ (i := 1) (N := some 9) (v := ?_) (a' := ?_) #[true, true, false, false, false, false, false, false, false, false, false, false, false, false, false, false, false, false, false] rfl rfl (zan HT_.out (by kernel_rfl)) (fun _ _ _ h => h) (Or.inl ⟨by rfl, ?_⟩) ?_ ?_
   rotate_left
   ·intro w'
    go_simp
    with_reducible rfl
   rotate_left
   ·simp only [Act.put, List.setIfInBounds_toArray, List.set_cons_zero, List.set_cons_succ, i64_w, i32_w]
    rfl
   refine pure_ (i := 2) (N := some 10) (v := ?_) (a' := ?_) #[true, true, true, false, false, false, false, false, false, false, false, false, false, false, false, false, false, false, false] rfl rfl (zan HT_.out (by kernel_rfl)) (fun _ _ _ h => h) (Or.inl ⟨by rfl, ?_⟩) ?_ ?_
   rotate_left
   ·intro w'
    go_simp
    with_reducible rfl
   rotate_left
   ·simp only [Act.put, List.setIfInBounds_toArray, List.set_cons_zero, List.set_cons_succ, i64_w, i32_w]
    rfl
   refine take_ (i := 3) (N := some 11) (v := ?_) (a' := ?_) #[true, true, true, true, false, false, false, false, false, false, false, false, false, false, false, false, false, false, false] rfl rfl (zax HT_.out HW_.out (by kernel_rfl)) (fun _ _ _ h => h) (Or.inl ⟨by rfl, ?_⟩) hHeld ?_ ?_
   rotate_left
   ·rintro w' ⟨s0, s1⟩
    go_simp
    with_reducible rfl
   rotate_left
   ·simp only [Act.put, List.setIfInBounds_toArray, List.set_cons_zero, List.set_cons_succ, i64_w, i32_w]
    rfl
   refine pure_ (i := 4) (N := some 12) (v := ?_) (a' := ?_) #[true, true, true, true, true, false, false, false, false, false, false, false, false, false, false, false, false, false, false] rfl rfl (zan HT_.out (by kernel_rfl)) (fun _ _ _ h => h) (Or.inl ⟨by rfl, ?_⟩) ?_ ?_
   rotate_left
   ·intro w'
    go_simp
    with_reducible rfl
   rotate_left
   ·simp only [Act.put, List.setIfInBounds_toArray, List.set_cons_zero, List.set_cons_succ, i64_w, i32_w]
    rfl
   refine pure_ (i := 5) (N := some 13) (v := ?_) (a' := ?_) #[true, true, true, true, true, true, false, false, false, false, false, false, false, false, false, false, false, false, false] rfl rfl (zan HT_.out (by kernel_rfl)) (fun _ _ _ h => h) (Or.inl ⟨by rfl, ?_⟩) ?_ ?_
   rotate_left
   ·intro w'
    go_simp
    with_reducible rfl
   rotate_left
   ·simp only [Act.put, List.setIfInBounds_toArray, List.set_cons_zero, List.set_cons_succ, i64_w, i32_w]
    rfl
   refine pure_ (i := 6) (N := some 14) (v := ?_) (a' := ?_) #[true, true, true, true, true, true, true, false, false, false, false, false, false, false, false, false, false, false, false] rfl rfl (zan HT_.out (by kernel_rfl)) (fun _ _ _ h => h) (Or.inl ⟨by rfl, ?_⟩) ?_ ?_
   rotate_left
   ·intro w'
    go_simp
    with_reducible rfl
   rotate_left
   ·simp only [Act.put, List.setIfInBounds_toArray, List.set_cons_zero, List.set_cons_succ, i64_w, i32_w]
    rfl
   refine pure_ (i := 7) (N := some 15) (v := ?_) (a' := ?_) #[true, true, true, true, true, true, true, true, false, false, false, false, false, false, false, false, false, false, false] rfl rfl (zan HT_.out (by kernel_rfl)) (fun _ _ _ h => h) (Or.inl ⟨by rfl, ?_⟩) ?_ ?_
   rotate_left
   ·intro w'
    go_simp
    with_reducible rfl
   rotate_left
   ·simp only [Act.put, List.setIfInBounds_toArray, List.set_cons_zero, List.set_cons_succ, i64_w, i32_w]
    rfl
   refine pure_ (i := 8) (N := some 16) (v := ?_) (a' := ?_) #[true, true, true, true, true, true, true, true, true, false, false, false, false, false, false, false, false, false, false] rfl rfl (zan HT_.out (by kernel_rfl)) (fun _ _ _ h => h) (Or.inl ⟨by rfl, ?_⟩) ?_ ?_
   rotate_left
   ·intro w'
    go_simp
    with_reducible rfl
   rotate_left
   ·simp only [Act.put, List.setIfInBounds_toArray, List.set_cons_zero, List.set_cons_succ, i64_w, i32_w]
    rfl
   refine pure_ (i := 9) (N := some 17) (v := ?_) (a' := ?_) #[true, true, true, true, true, true, true, true, true, true, false, false, false, false, false, false, false, false, false] rfl rfl (zan HT_.out (by kernel_rfl)) (fun _ _ _ h => h) (Or.inl ⟨by rfl, ?_⟩) ?_ ?_
   rotate_left
   ·intro w'
    go_simp
    with_reducible rfl
   rotate_left
   ·simp only [Act.put, List.setIfInBounds_toArray, List.set_cons_zero, List.set_cons_succ, i64_w, i32_w]
    rfl
   refine pure_ (i := 11) (N := some 19) (v := ?_) (a' := ?_) #[true, true, true, true, true, true, true, true, true, true, false, true, false, false, false, false, false, false, false] rfl rfl (zan HT_.out (by kernel_rfl)) (fun _ _ _ h => h) (Or.inl ⟨by rfl, ?_⟩) ?_ ?_
   rotate_left
   ·intro w'
    go_simp
    with_reducible rfl
   rotate_left
   ·simp only [Act.put, List.setIfInBounds_toArray, List.set_cons_zero, List.set_cons_succ, i64_w, i32_w]
    rfl
   refine pure_ (i := 12) (N := some 20) (v := ?_) (a' := ?_) #[true, true, true, true, true, true, true, true, true, true, false, true, true, false, false, false, false, false, false] rfl rfl (zan HT_.out (by kernel_rfl)) (fun _ _ _ h => h) (Or.inl ⟨by rfl, ?_⟩) ?_ ?_
   rotate_left
   ·intro w'
    go_simp
    with_reducible rfl
   rotate_left
   ·simp only [Act.put, List.setIfInBounds_toArray, List.set_cons_zero, List.set_cons_succ, i64_w, i32_w]
    rfl
   refine pure_ (i := 13) (N := some 21) (v := ?_) (a' := ?_) #[true, true, true, true, true, true, true, true, true, true, false, true, true, true, false, false, false, false, false] rfl rfl (zan HT_.out (by kernel_rfl)) (fun _ _ _ h => h) (Or.inl ⟨by rfl, ?_⟩) ?_ ?_
   rotate_left
   ·intro w'
    go_simp
    with_reducible rfl
   rotate_left
   ·simp only [Act.put, List.setIfInBounds_toArray, List.set_cons_zero, List.set_cons_succ, i64_w, i32_w]
    rfl
   refine take_ (i := 10) (N := some 18) (v := ?_) (a' := ?_) #[true, true, true, true, true, true, true, true, true, true, true, true, true, true, false, false, false, false, false] rfl rfl (zax HT_.out HW_.out (by kernel_rfl)) (fun _ _ _ h => h) (Or.inl ⟨by rfl, ?_⟩) hHeld ?_ ?_
   rotate_left
   ·rintro w' ⟨s0, s1⟩
    go_simp
    with_reducible rfl
   rotate_left
   ·simp only [Act.put, List.setIfInBounds_toArray, List.set_cons_zero, List.set_cons_succ, i64_w, i32_w]
    rfl
   refine take_ (i := 14) (N := some 22) (v := ?_) (a' := ?_) #[true, true, true, true, true, true, true, true, true, true, true, true, true, true, true, false, false, false, false] rfl rfl (zax HT_.out HW_.out (by kernel_rfl)) (fun _ _ _ h => h) (Or.inl ⟨by rfl, ?_⟩) hHeld ?_ ?_
   rotate_left
   ·rintro w' ⟨s0, s1⟩
    go_simp
    with_reducible rfl
   rotate_left
   ·simp only [Act.put, List.setIfInBounds_toArray, List.set_cons_zero, List.set_cons_succ, i64_w, i32_w]
    rfl
   refine pure_ (i := 15) (N := some 23) (v := ?_) (a' := ?_) #[true, true, true, true, true, true, true, true, true, true, true, true, true, true, true, true, false, false, false] rfl rfl (zan HT_.out (by kernel_rfl)) (fun _ _ _ h => h) (Or.inl ⟨by rfl, ?_⟩) ?_ ?_
   rotate_left
   ·intro w'
    go_simp
    with_reducible rfl
   rotate_left
   ·simp only [Act.put, List.setIfInBounds_toArray, List.set_cons_zero, List.set_cons_succ, i64_w, i32_w]
    rfl
   refine one_ (i := 16) (N := some 24) #[true, true, true, true, true, true, true, true, true, true, true, true, true, true, true, true, true, false, false] rfl rfl (one_of HT_.out (by kernel_rfl)) (by decide) (fun K hK => ?_)
   refine goes_ Try.func93 (by kernel_rfl) rfl #[.int .i64 a0_1, .int .i64 0, .int .i64 (l0_0.length : Int)] (by rfl) rfl rfl (by (try simp only [List.map_toArray, List.map_cons, List.map_nil]); first | done | rfl | (simp only [List.length_drop, List.length_take]; rfl)) ?_
   with_reducible refine (impl_in.calls a0_1 0 (l0_0.length : Int) t330 _ A5.out).mono ?_
   rintro e w' ⟨rfl, ⟨nd, rfl⟩⟩
   refine ⟨_, rfl, ?_⟩
   refine hK.out _ _ ⟨(za8 BK0.out 0).trans rfl, (za8 BK0.out 1).trans rfl⟩ (fun hHeld => ?_)
   clear hK K
   refine norm_ (a' := ?_) ?_ ?_
   rotate_left
   ·show Act.put _ (some 24) _ = _
    simp only [Act.put, List.setIfInBounds_toArray, List.set_cons_zero, List.set_cons_succ, i64_w, i32_w]
    rfl
   refine pure_ (i := 17) (N := some 25) (v := ?_) (a' := ?_) #[true, true, true, true, true, true, true, true, true, true, true, true, true, true, true, true, true, true, false] rfl rfl (zan HT_.out (by kernel_rfl)) (fun _ _ _ h => h) (Or.inl ⟨by rfl, ?_⟩) ?_ ?_
   rotate_left
   ·intro w'
    go_simp
    with_reducible rfl
   rotate_left
   ·simp only [Act.put, List.setIfInBounds_toArray, List.set_cons_zero, List.set_cons_succ, i64_w, i32_w]
    rfl
   refine pure_ (i := 18) (N := some 26) (v := ?_) (a' := ?_) #[true, true, true, true, true, true, true, true, true, true, true, true, true, true, true, true, true, true, true] rfl rfl (zan HT_.out (by kernel_rfl)) (fun _ _ _ h => h) (Or.inl ⟨by rfl, ?_⟩) ?_ ?_
   rotate_left
   ·intro w'
    go_simp
    with_reducible rfl
   rotate_left
   ·simp only [Act.put, List.setIfInBounds_toArray, List.set_cons_zero, List.set_cons_succ, i64_w, i32_w]
    rfl
   refine done_ (done_of HT_.out (by kernel_rfl)) ?_
   try go_wp2
   go_meet
   case rel => exact ⟨_, (!t330), (by first | rfl | (simp; done) | (simp [*]; done)), H', ⟨by first | omega | exact Nat.le_refl _⟩, ⟨by (with_reducible repeat (first | refine za5 ?_ _ | refine za6 ?_ | refine za4 ?_ _)); exact BK0.out⟩, ⟨by repeat (first | (with_reducible first | exact HB.out | apply za2 | apply za0 | apply za1 | refine za3 ?_ GE0.out) | exact HB.out)⟩⟩
 case rest =>
  clear HC2
  try clear p2
  try clear c3
  try clear c3b0
  try clear c3b1
  try clear c6
  obtain ⟨kq, x26_1, rfl, HA, HJ1, BK0, HB⟩ := hcut
  cases kq with
  | zero => exact absurd HA.out (by simp [impl_Code_polynomials.j0])
  | succ kj1 =>
   have H := HA.out
   clear HA
   simp only [impl_Code_polynomials.j0] at H
   by_cases c7 : x26_1 = true
   ·subst c7
    have H1 : (some (([] : List (List Int)), false)) = some (r1, r2) := by rw [if_pos rfl] at H; exact H
    clear H
    have H := H1
    clear H1
    simp only [Option.some.injEq, Prod.mk.injEq] at H
    obtain ⟨rfl, rfl⟩ := H
    go_wp2
    go_ret2
    exact ⟨_, by first | rfl | (simp [zaf, zae] <;> rfl) | (simp [*, zaf, zae] <;> rfl), by first | exact Kd.S_nil _ _ _ _ _ | exact Kd.N_nil _ _ _ _ _ | exact Kd.V_nil _ _ _ _ _ | exact Kd.Q_nil _ _ _ _ _ | exact Kd.R_nil _ _ _ _ _, by repeat (first | (with_reducible first | exact HB.out | apply za2 | apply za0 | apply za1 | refine za3 ?_ GE0.out) | exact HB.out)⟩
   ·replace c7 := Bool.eq_false_iff.mpr c7
    subst c7
    have H1 : (impl_Code_polynomials.l0 kj1 (([(([0, 1] : List Int))] : List (List Int))) l0_0 (l0_0.length : Int) 0) = some (r1, r2) := by rw [if_neg (show ¬ (false = true) by decide)] at H; exact H
    clear H
    have H := H1
    clear H1
    obtain ⟨y331, hy331⟩ : ∃ y_ : List Int, y_ = (([0, 1] : List Int)) := ⟨_, rfl⟩
    replace H : (impl_Code_polynomials.l0 kj1 (([y331] : List (List Int))) l0_0 (l0_0.length : Int) 0) = some (r1, r2) := by first | (rw [hy331]; with_reducible exact H) | (have H2_ := (Option.bind_some _ _).symm.trans H; rw [hy331]; with_reducible exact H2_) | (have H2_ := (Option.bind_some _ _).symm.trans H; with_reducible exact H2_) | with_reducible exact H | (rw [hy331]; exact H) | exact H
    have Ny331 := Aside0.mk hy331
    clear hy331
    obtain ⟨y334, hy334⟩ : ∃ y_ : List (List Int), y_ = (([y331] : List (List Int))) := ⟨_, rfl⟩
    replace H : (impl_Code_polynomials.l0 kj1 y334 l0_0 (l0_0.length : Int) 0) = some (r1, r2) := by first | (rw [hy334]; with_reducible exact H) | (have H2_ := (Option.bind_some _ _).symm.trans H; rw [hy334]; with_reducible exact H2_) | (have H2_ := (Option.bind_some _ _).symm.trans H; with_reducible exact H2_) | with_reducible exact H | (rw [hy334]; exact H) | exact H
    have Ny334 := Aside0.mk hy334
    clear hy334
    have H' := Aside0.mk H
    clear H
    go_wp2_with (first | ((with_reducible refine zai (N := 27) rfl ?_); (try (refine gate_guard (by rfl) ?_; dsimp only)); refine Kd.R_lit (Kd.int .i64) _ 3 ?hg (N := 27) ?hd (xs := ([0, 1] : List Int)) (inner := [.int .i64 0, .int .i64 1]) (ok := fun _ => True) (okp := fun _ => True) ?hr ?hp (fun _ hk => hk) trivial (Below.refl _ _) (Nat.le_refl _) (by simp) ?_; (case hd => rfl); (case hg => rfl); (case hr => first | (go_simp; done) | (go_simp; rfl)); (case hp => exact (Reps.one (show Kd.M (Kd.int .i64) _ _ _ 0 [.int .i64 0] from rfl) (Reps.one (show Kd.M (Kd.int .i64) _ _ _ 1 [.int .i64 1] from rfl) (Reps.none _ _)))); intro v332 w8 ho9 hb hg_ hnew_; clear hg_ hnew_; (first | rw [← Ny331.out] at ho9 | (simp only [Int.reduceToNat] at ho9; rw [← Ny331.out] at ho9)); have n0_ := Aside0.mk (Kd.R_lower (Kd.R_newM (M := fun k_ => (w.heap.size ≤ k_)) ho9 (zaa (by repeat (first | (with_reducible first | exact HB.out | apply za2 | apply za0 | apply za1 | refine za3 ?_ GE0.out) | exact HB.out))) (fun k_ h_ => h_)) (zaa (by repeat (first | (with_reducible first | exact HB.out | apply za2 | apply za0 | apply za1 | refine za3 ?_ GE0.out) | exact HB.out)))); have n1_ := Aside0.mk (zad (g := g0) (o := .cells #[.slice A0_0 l0_0.length c0_0, .int .i64 a0_1] 39 (0, 0)) (by (with_reducible repeat (first | refine za5 ?_ _ | refine za6 ?_ | refine za4 ?_ _)); exact BK0.out) hb); have n2_ := Aside0.mk (zac (by repeat (first | (with_reducible first | exact HB.out | apply za2 | apply za0 | apply za1 | refine za3 ?_ GE0.out) | exact HB.out)) hb); clear BK0; clear HB; have HO333 := n0_; have BK0 := n1_; have HB := n2_; clear n0_ n1_ n2_; clear hb ho9; obtain ⟨Ao10, co10, eo10⟩ := Kd.zas HO333.out; subst eo10) | ((with_reducible refine zai (N := 28) rfl ?_); (try (refine gate_guard (by rfl) ?_; dsimp only)); refine Kd.N_lit (Kd.slice 3 (Kd.int .i64)) _ 22 ?hg (N' := 28) ?hd (xs := ([y331] : List (List Int))) (inner := [.slice Ao10 y331.length co10]) (ok := (fun k_ => (w.heap.size ≤ k_) ∧ k_ ≠ g0)) (okp := (fun k_ => (w.heap.size ≤ k_) ∧ k_ ≠ g0)) ?hr ?hp (fun _ hk => hk) ((show ∀ k_, w8.heap.size ≤ k_ → (fun k_ => (w.heap.size ≤ k_) ∧ k_ ≠ g0) k_ from fun k_ hk => ⟨(Nat.le_trans (zaa (by repeat (first | (with_reducible first | exact HB.out | apply za2 | apply za0 | apply za1 | refine za3 ?_ GE0.out) | exact HB.out))) hk), Kd.freshB (g := g0) (o := .cells #[.slice A0_0 l0_0.length c0_0, .int .i64 a0_1] 39 (0, 0)) (by (with_reducible repeat (first | refine za5 ?_ _ | refine za6 ?_ | refine za4 ?_ _)); exact BK0.out) k_ hk⟩) _ (Nat.le_refl _)) (Below.refl _ _) (Nat.le_refl _) (by simp) ?_; (case hd => rfl); (case hg => rfl); (case hr => first | (go_simp; done) | (go_simp; rfl)); (case hp => exact (Reps.one (show Kd.FK (Kd.slice 3 (Kd.int .i64)) _ _ y331 [.slice Ao10 y331.length co10] from (Kd.FK_slice_mk (Kd.R_reads' (Kd.R_mono (ok' := (fun k_ => (w.heap.size ≤ k_) ∧ k_ ≠ g0)) (Kd.R_types (HO333.out) BK0.out (by decide)) (fun k_ hk => ⟨hk.1.1, hk.2⟩))).2.1 (Kd.R_F (Kd.R_mono (ok' := (fun k_ => (w.heap.size ≤ k_) ∧ k_ ≠ g0)) (Kd.R_types (HO333.out) BK0.out (by decide)) (fun k_ hk => ⟨hk.1.1, hk.2⟩))))) (Reps.none _ _))); intro v335 w11 ho12 hb hg_ hnew_; clear hg_ hnew_; (first | rw [← Ny334.out] at ho12 | (simp only [Int.reduceToNat] at ho12; rw [← Ny334.out] at ho12)); have n0_ := Aside0.mk (Kd.N_lower ho12 (zaa (by repeat (first | (with_reducible first | exact HB.out | apply za2 | apply za0 | apply za1 | refine za3 ?_ GE0.out) | exact HB.out)))); have n1_ := Aside0.mk (zad (g := g0) (o := .cells #[.slice A0_0 l0_0.length c0_0, .int .i64 a0_1] 39 (0, 0)) (by (with_reducible repeat (first | refine za5 ?_ _ | refine za6 ?_ | refine za4 ?_ _)); exact BK0.out) hb); have n2_ := Aside0.mk (zac (by repeat (first | (with_reducible first | exact HB.out | apply za2 | apply za0 | apply za1 | refine za3 ?_ GE0.out) | exact HB.out)) hb); clear BK0; clear HB; clear HO333; have HO336 := n0_; have BK0 := n1_; have HB := n2_; clear n0_ n1_ n2_; clear hb ho12; have hcz13_0 : w11.cell? ⟨g0, 0, none⟩ = some (.slice A0_0 l0_0.length c0_0) := (za8 BK0.out 0).trans rfl; have hcz13_1 : w11.cell? ⟨g0, 1, none⟩ = some (.int .i64 a0_1) := (za8 BK0.out 1).trans rfl; have hfz13_0 := za7 BK0.out 0; have hfz13_1 := za7 BK0.out 1))
    go_loopg [4, 34] kj1 (fun kq v4 v34 w' => ∃ (x4_2 : List (List Int)) (x34_2 : Int), v34 = .int .i64 x34_2 ∧ Aside0 (impl_Code_polynomials.l0 kq x4_2 l0_0 (l0_0.length : Int) x34_2 = some (r1, r2)) ∧ Aside0 (kq ≤ kj1) ∧ Aside0 (Kd.N (Kd.slice 3 (Kd.int .i64)) 22 w' w.heap.size (fun k_ => (w.heap.size ≤ k_) ∧ k_ ≠ g0) v4 x4_2) ∧ Aside0 (w'.heap[g0]? = some (.cells #[(.slice A0_0 l0_0.length c0_0), .int .i64 a0_1] 39 (0, 0))) ∧ Aside0 (Below w.heap.size w w'))
    case atStart => exact ⟨(y334), (0), (by first | rfl | (simp; done) | (simp [*]; done)), H', ⟨Nat.le_refl _⟩, ⟨by (with_reducible repeat (first | apply Kd.zb0 | apply Kd.zb1 | apply Kd.N_drew)); exact HO336.out⟩, ⟨by (with_reducible repeat (first | refine za5 ?_ _ | refine za6 ?_ | refine za4 ?_ _)); exact BK0.out⟩, ⟨by repeat (first | (with_reducible first | exact HB.out | apply za2 | apply za0 | apply za1 | refine za3 ?_ GE0.out) | exact HB.out)⟩⟩
    case round =>
     clear H'
     try clear p2
     try clear c3
     try clear c3b0
     try clear c3b1
     try clear c6
     try clear c7
     try clear c9
     try clear hcz13_0
     try clear hcz13_1
     try clear hfz13_0
     try clear hfz13_1
     try clear p2
     obtain ⟨x4_2, x34_2, rfl, HA, HK2, HO_4, BK0, HB⟩ := hrel
     cases gk with
     | zero => exact absurd HA.out (by simp [impl_Code_polynomials.l0])
     | succ k2 =>
      have H := HA.out
      clear HA
      simp only [impl_Code_polynomials.l0] at H
      by_cases c14 : x34_2 < (l0_0.length : Int)
      ·rw [if_pos c14] at H
       have c14b0 : decide (x34_2 < (l0_0.length : Int)) = true := decide_eq_true c14
       clear c14
       by_cases c15 : 0 ≤ x34_2
       ·rw [if_pos c15] at H
        have c15b0 : decide (0 ≤ x34_2) = true := decide_eq_true c15
        clear c15
        by_cases c16 : x34_2 < (l0_0.length : Int)
        ·rw [if_pos c16] at H
         have c16b0 : decide (x34_2 < (l0_0.length : Int)) = true := decide_eq_true c16
         clear c16
         replace H := Option.bind_eq_some_iff.mp H
         obtain ⟨t339, A170, H⟩ := H
         replace H : (if t339 = true then (if ((za9 l0_0 x34_2).f0) = 0 then ((impl_cut.f k2 (([(za9 l0_0 x34_2).f1] : List Int))).bind fun t346 => (impl_Code_polynomials.j2 k2 x4_2 t346 l0_0 (l0_0.length : Int) x34_2)) else (if ((za9 l0_0 x34_2).f0) = 1 then (if 0 ≤ ((za9 l0_0 x34_2).f1) then (if ((za9 l0_0 x34_2).f1) < (x4_2.length : Int) then (if 0 ≤ ((za9 l0_0 x34_2).f2) then (if ((za9 l0_0 x34_2).f2) < (x4_2.length : Int) then ((impl_sumOf.f k2 (rd_L2 x4_2 ((za9 l0_0 x34_2).f1)) (rd_L2 x4_2 ((za9 l0_0 x34_2).f2))).bind fun t351 => (impl_Code_polynomials.j2 k2 x4_2 t351 l0_0 (l0_0.length : Int) x34_2)) else (none)) else (none)) else (none)) else (none)) else (if ((za9 l0_0 x34_2).f0) = 2 then (if 0 ≤ ((za9 l0_0 x34_2).f1) then (if ((za9 l0_0 x34_2).f1) < (x4_2.length : Int) then ((impl_productOf.f k2 (rd_L2 x4_2 ((za9 l0_0 x34_2).f1)) (([(za9 l0_0 x34_2).f2] : List Int))).bind fun t358 => (impl_Code_polynomials.j2 k2 x4_2 t358 l0_0 (l0_0.length : Int) x34_2)) else (none)) else (none)) else (if ((za9 l0_0 x34_2).f0) = 3 then (if 0 ≤ ((za9 l0_0 x34_2).f1) then (if ((za9 l0_0 x34_2).f1) < (x4_2.length : Int) then (if 0 ≤ ((za9 l0_0 x34_2).f2) then (if ((za9 l0_0 x34_2).f2) < (x4_2.length : Int) then ((impl_productOf.f k2 (rd_L2 x4_2 ((za9 l0_0 x34_2).f1)) (rd_L2 x4_2 ((za9 l0_0 x34_2).f2))).bind fun t363 => (impl_Code_polynomials.j2 k2 x4_2 t363 l0_0 (l0_0.length : Int) x34_2)) else (none)) else (none)) else (none)) else (none)) else (impl_Code_polynomials.j2 k2 x4_2 (([] : List Int)) l0_0 (l0_0.length : Int) x34_2))))) else (some (([] : List (List Int)), false))) = some (r1, r2) := H
         have A17 := Aside0.mk A170
         clear A170
         by_cases c18 : t339 = true
         ·subst c18
          have H1 : (if ((za9 l0_0 x34_2).f0) = 0 then ((impl_cut.f k2 (([(za9 l0_0 x34_2).f1] : List Int))).bind fun t346 => (impl_Code_polynomials.j2 k2 x4_2 t346 l0_0 (l0_0.length : Int) x34_2)) else (if ((za9 l0_0 x34_2).f0) = 1 then (if 0 ≤ ((za9 l0_0 x34_2).f1) then (if ((za9 l0_0 x34_2).f1) < (x4_2.length : Int) then (if 0 ≤ ((za9 l0_0 x34_2).f2) then (if ((za9 l0_0 x34_2).f2) < (x4_2.length : Int) then ((impl_sumOf.f k2 (rd_L2 x4_2 ((za9 l0_0 x34_2).f1)) (rd_L2 x4_2 ((za9 l0_0 x34_2).f2))).bind fun t351 => (impl_Code_polynomials.j2 k2 x4_2 t351 l0_0 (l0_0.length : Int) x34_2)) else (none)) else (none)) else (none)) else (none)) else (if ((za9 l0_0 x34_2).f0) = 2 then (if 0 ≤ ((za9 l0_0 x34_2).f1) then (if ((za9 l0_0 x34_2).f1) < (x4_2.length : Int) then ((impl_productOf.f k2 (rd_L2 x4_2 ((za9 l0_0 x34_2).f1)) (([(za9 l0_0 x34_2).f2] : List Int))).bind fun t358 => (impl_Code_polynomials.j2 k2 x4_2 t358 l0_0 (l0_0.length : Int) x34_2)) else (none)) else (none)) else (if ((za9 l0_0 x34_2).f0) = 3 then (if 0 ≤ ((za9 l0_0 x34_2).f1) then (if ((za9 l0_0 x34_2).f1) < (x4_2.length : Int) then (if 0 ≤ ((za9 l0_0 x34_2).f2) then (if ((za9 l0_0 x34_2).f2) < (x4_2.length : Int) then ((impl_productOf.f k2 (rd_L2 x4_2 ((za9 l0_0 x34_2).f1)) (rd_L2 x4_2 ((za9 l0_0 x34_2).f2))).bind fun t363 => (impl_Code_polynomials.j2 k2 x4_2 t363 l0_0 (l0_0.length : Int) x34_2)) else (none)) else (none)) else (none)) else (none)) else (impl_Code_polynomials.j2 k2 x4_2 (([] : List Int)) l0_0 (l0_0.length : Int) x34_2))))) = some (r1, r2) := by rw [if_pos rfl] at H; exact H
          clear H
          have H := H1
          clear H1
          obtain ⟨y340, hy340⟩ : ∃ y_ : List Int, y_ = (([] : List Int)) := ⟨_, rfl⟩
          replace H : (if ((za9 l0_0 x34_2).f0) = 0 then ((impl_cut.f k2 (([(za9 l0_0 x34_2).f1] : List Int))).bind fun t346 => (impl_Code_polynomials.j2 k2 x4_2 t346 l0_0 (l0_0.length : Int) x34_2)) else (if ((za9 l0_0 x34_2).f0) = 1 then (if 0 ≤ ((za9 l0_0 x34_2).f1) then (if ((za9 l0_0 x34_2).f1) < (x4_2.length : Int) then (if 0 ≤ ((za9 l0_0 x34_2).f2) then (if ((za9 l0_0 x34_2).f2) < (x4_2.length : Int) then ((impl_sumOf.f k2 (rd_L2 x4_2 ((za9 l0_0 x34_2).f1)) (rd_L2 x4_2 ((za9 l0_0 x34_2).f2))).bind fun t351 => (impl_Code_polynomials.j2 k2 x4_2 t351 l0_0 (l0_0.length : Int) x34_2)) else (none)) else (none)) else (none)) else (none)) else (if ((za9 l0_0 x34_2).f0) = 2 then (if 0 ≤ ((za9 l0_0 x34_2).f1) then (if ((za9 l0_0 x34_2).f1) < (x4_2.length : Int) then ((impl_productOf.f k2 (rd_L2 x4_2 ((za9 l0_0 x34_2).f1)) (([(za9 l0_0 x34_2).f2] : List Int))).bind fun t358 => (impl_Code_polynomials.j2 k2 x4_2 t358 l0_0 (l0_0.length : Int) x34_2)) else (none)) else (none)) else (if ((za9 l0_0 x34_2).f0) = 3 then (if 0 ≤ ((za9 l0_0 x34_2).f1) then (if ((za9 l0_0 x34_2).f1) < (x4_2.length : Int) then (if 0 ≤ ((za9 l0_0 x34_2).f2) then (if ((za9 l0_0 x34_2).f2) < (x4_2.length : Int) then ((impl_productOf.f k2 (rd_L2 x4_2 ((za9 l0_0 x34_2).f1)) (rd_L2 x4_2 ((za9 l0_0 x34_2).f2))).bind fun t363 => (impl_Code_polynomials.j2 k2 x4_2 t363 l0_0 (l0_0.length : Int) x34_2)) else (none)) else (none)) else (none)) else (none)) else (impl_Code_polynomials.j2 k2 x4_2 y340 l0_0 (l0_0.length : Int) x34_2))))) = some (r1, r2) := by first | (rw [hy340]; with_reducible exact H) | (have H2_ := (Option.bind_some _ _).symm.trans H; rw [hy340]; with_reducible exact H2_) | (have H2_ := (Option.bind_some _ _).symm.trans H; with_reducible exact H2_) | with_reducible exact H | (rw [hy340]; exact H) | exact H
          have Ny340 := Aside0.mk hy340
          clear hy340
          have HC19 := Aside0.mk H
          clear H
          have p337 : 0 ≤ (x34_2 : Int) := of_decide_eq_true (by first | (with_reducible assumption) | assumption)
          have q337 : x34_2 < (l0_0.length : Int) := of_decide_eq_true (by first | (with_reducible assumption) | assumption)
          obtain ⟨ad337, e337, hx337_0, hx337_1, hx337_2⟩ := at_T69 HR0_0.out x34_2 p337 q337
          cases e337
          replace hx337_0 := (HB.out.cell (World.block_lt_of_cell? w _ hx337_0)).trans hx337_0
          replace hx337_1 := (HB.out.cell (World.block_lt_of_cell? w _ hx337_1)).trans hx337_1
          replace hx337_2 := (HB.out.cell (World.block_lt_of_cell? w _ hx337_2)).trans hx337_2
          replace p337 := eq_true p337
          replace q337 := eq_true q337
          go_upto_block 2 with (first | ((with_reducible refine zai (N := 6) rfl ?_); (try (refine gate_guard (by rfl) ?_; dsimp only)); refine zah ?hg (N := 6) ?hd (cs := #[.int .i64 0, .int .i64 0, .int .i64 0]) (t := 69) ?hr ?_; (case hd => rfl); (case hg => rfl); (case hr => first | (go_simp; done) | (go_simp; rfl)); intro gb338 hg w20 hbox hb; have n0_ := Aside0.mk (Kd.N_below (Kd.N_elderB (by (with_reducible repeat (first | apply Kd.zb0 | apply Kd.zb1 | apply Kd.N_drew)); exact HO_4.out) gb338 (Nat.le_of_eq hg.symm)) hb); have n1_ := Aside0.mk (zad (g := g0) (o := .cells #[.slice (some ad337) l0_0.length c0_0, .int .i64 a0_1] 39 (0, 0)) (by (with_reducible repeat (first | refine za5 ?_ _ | refine za6 ?_ | refine za4 ?_ _)); exact BK0.out) hb); have n2_ := Aside0.mk (zac (by repeat (first | (with_reducible first | exact HB.out | apply za2 | apply za0 | apply za1 | refine za3 ?_ GE0.out) | exact HB.out)) hb); have n3_ := Aside0.mk (hbox); have n4_ := Aside0.mk ((by rw [hg]; exact (zaa (by repeat (first | (with_reducible first | exact HB.out | apply za2 | apply za0 | apply za1 | refine za3 ?_ GE0.out) | exact HB.out))) : w.heap.size ≤ gb338)); have n5_ := Aside0.mk ((by rw [hg]; exact (zaa (by repeat (first | (with_reducible first | exact HB.out | apply za2 | apply za0 | apply za1 | refine za3 ?_ GE0.out) | exact HB.out))) : w.heap.size ≤ gb338)); have n6_ := Aside0.mk ((by rw [hg]; exact Nat.ne_of_lt (zao (g := g0) (o := .cells #[.slice (some ad337) l0_0.length c0_0, .int .i64 a0_1] 39 (0, 0)) (by (with_reducible repeat (first | refine za5 ?_ _ | refine za6 ?_ | refine za4 ?_ _)); exact BK0.out)) : g0 ≠ gb338)); have n7_ := Aside0.mk ((by rw [hg]; exact Nat.ne_of_gt (zao (g := g0) (o := .cells #[.slice (some ad337) l0_0.length c0_0, .int .i64 a0_1] 39 (0, 0)) (by (with_reducible repeat (first | refine za5 ?_ _ | refine za6 ?_ | refine za4 ?_ _)); exact BK0.out)) : gb338 ≠ g0)); clear HO_4; clear BK0; clear HB; have HO_4 := n0_; have BK0 := n1_; have HB := n2_; have BK338 := n3_; have GW338 := n4_; have GE338 := n5_; have NB0_338 := n6_; have NB338_0 := n7_; clear n0_ n1_ n2_ n3_ n4_ n5_ n6_ n7_; clear hb hbox hg; have hnb21 := NB338_0.out; have hnc21 := NB0_338.out; have hcz22_0 : w20.cell? ⟨gb338, 0, none⟩ = some (.int .i64 0) := (za8 BK338.out 0).trans rfl; have hcz22_1 : w20.cell? ⟨gb338, 1, none⟩ = some (.int .i64 0) := (za8 BK338.out 1).trans rfl; have hcz22_2 : w20.cell? ⟨gb338, 2, none⟩ = some (.int .i64 0) := (za8 BK338.out 2).trans rfl; have hfz22_0 := za7 BK338.out 0; have hfz22_1 := za7 BK338.out 1; have hfz22_2 := za7 BK338.out 2) | ((with_reducible refine zal (f := 98) rfl ?_); refine goesL_ (some 41) rfl rfl Try.func98 (by kernel_rfl) rfl #[.agg #[.int .i64 ((za9 l0_0 x34_2).f0), .int .i64 ((za9 l0_0 x34_2).f1), .int .i64 ((za9 l0_0 x34_2).f2)], .int .i64 x34_2] rfl (by (try simp only [List.map_toArray, List.map_cons, List.map_nil]); first | done | rfl | (simp only [List.length_drop, List.length_take]; rfl)) ?_; (with_reducible refine (impl_Op_ok.calls k2 ((za9 l0_0 x34_2).f0) ((za9 l0_0 x34_2).f1) ((za9 l0_0 x34_2).f2) x34_2 true _ A17.out).mono ?_); rintro e w23 ⟨rfl, hb⟩; refine ⟨_, rfl, ?_⟩; have n0_ := Aside0.mk (Kd.N_below (by (with_reducible repeat (first | apply Kd.zb0 | apply Kd.zb1 | apply Kd.N_drew)); exact (Kd.N_mono (Kd.N_far (p := ⟨gb338, 2, none⟩) (Kd.N_far (p := ⟨gb338, 1, none⟩) (Kd.N_far (p := ⟨gb338, 0, none⟩) (Kd.N_mono HO_4.out (fun k_ hk => (⟨hk, hk.2⟩ : _ ∧ k_ ≠ gb338))) (fun _ hk => hk.2) (.int .i64 ((za9 l0_0 x34_2).f0))) (fun _ hk => hk.2) (.int .i64 ((za9 l0_0 x34_2).f1))) (fun _ hk => hk.2) (.int .i64 ((za9 l0_0 x34_2).f2))) (fun _ h_ => h_.1))) hb); have n1_ := Aside0.mk (zad (g := g0) (o := .cells #[.slice (some ad337) l0_0.length c0_0, .int .i64 a0_1] 39 (0, 0)) (by (with_reducible repeat (first | refine za5 ?_ _ | refine za6 ?_ | refine za4 ?_ _)); refine zay ?_ NB0_338.out _; (with_reducible repeat (first | refine za5 ?_ _ | refine za6 ?_ | refine za4 ?_ _)); refine zay ?_ NB0_338.out _; (with_reducible repeat (first | refine za5 ?_ _ | refine za6 ?_ | refine za4 ?_ _)); refine zay ?_ NB0_338.out _; (with_reducible repeat (first | refine za5 ?_ _ | refine za6 ?_ | refine za4 ?_ _)); exact BK0.out) hb); have n2_ := Aside0.mk (zad (g := gb338) (o := .cells #[.int .i64 ((za9 l0_0 x34_2).f0), .int .i64 ((za9 l0_0 x34_2).f1), .int .i64 ((za9 l0_0 x34_2).f2)] 69 (0, 0)) (by (with_reducible repeat (first | refine za5 ?_ _ | refine za6 ?_ | refine za4 ?_ _)); refine zat (cs := #[.int .i64 ((za9 l0_0 x34_2).f0), .int .i64 ((za9 l0_0 x34_2).f1), .int .i64 0]) ?_ 2 _ rfl; (with_reducible repeat (first | refine za5 ?_ _ | refine za6 ?_ | refine za4 ?_ _)); refine zat (cs := #[.int .i64 ((za9 l0_0 x34_2).f0), .int .i64 0, .int .i64 0]) ?_ 1 _ rfl; (with_reducible repeat (first | refine za5 ?_ _ | refine za6 ?_ | refine za4 ?_ _)); refine zat (cs := #[.int .i64 0, .int .i64 0, .int .i64 0]) ?_ 0 _ rfl; (with_reducible repeat (first | refine za5 ?_ _ | refine za6 ?_ | refine za4 ?_ _)); exact BK338.out) hb); have n3_ := Aside0.mk (zac (by repeat (first | (with_reducible first | exact HB.out | apply za2 | apply za0 | apply za1 | refine za3 ?_ GE0.out | refine za3 ?_ GE338.out) | exact HB.out)) hb); clear HO_4; clear BK0; clear BK338; clear HB; have HO_4 := n0_; have BK0 := n1_; have BK338 := n2_; have HB := n3_; clear n0_ n1_ n2_ n3_; (try clear hb); (try clear hb2); (try clear hk); (try clear hi)) | ((with_reducible refine zai (N := 43) rfl ?_); (try (refine gate_guard (by rfl) ?_; dsimp only)); refine Kd.R_lit (Kd.int .i64) _ 3 ?hg (N := 43) ?hd (xs := ([] : List Int)) (inner := []) (ok := fun _ => True) (okp := fun _ => True) ?hr ?hp (fun _ hk => hk) trivial (Below.refl _ _) (Nat.le_refl _) (by simp) ?_; (case hd => rfl); (case hg => rfl); (case hr => first | (go_simp; done) | (go_simp; rfl)); (case hp => exact (Reps.none _ _)); intro v341 w24 ho25 hb hg_ hnew_; clear hg_ hnew_; (first | rw [← Ny340.out] at ho25 | (simp only [Int.reduceToNat] at ho25; rw [← Ny340.out] at ho25)); have n0_ := Aside0.mk (Kd.N_elder' (by (with_reducible repeat (first | apply Kd.zb0 | apply Kd.zb1 | apply Kd.N_drew)); exact HO_4.out) (Kd.R_base ho25) hb); have n1_ := Aside0.mk (Kd.R_lower (Kd.R_newM (M := fun k_ => (w.heap.size ≤ k_)) ho25 (zaa (by repeat (first | (with_reducible first | exact HB.out | apply za2 | apply za0 | apply za1 | refine za3 ?_ GE0.out | refine za3 ?_ GE338.out) | exact HB.out))) (fun k_ h_ => h_)) (zaa (by repeat (first | (with_reducible first | exact HB.out | apply za2 | apply za0 | apply za1 | refine za3 ?_ GE0.out | refine za3 ?_ GE338.out) | exact HB.out)))); have n2_ := Aside0.mk (zad (g := g0) (o := .cells #[.slice (some ad337) l0_0.length c0_0, .int .i64 a0_1] 39 (0, 0)) (by (with_reducible repeat (first | refine za5 ?_ _ | refine za6 ?_ | refine za4 ?_ _)); exact BK0.out) hb); have n3_ := Aside0.mk (zad (g := gb338) (o := .cells #[.int .i64 ((za9 l0_0 x34_2).f0), .int .i64 ((za9 l0_0 x34_2).f1), .int .i64 ((za9 l0_0 x34_2).f2)] 69 (0, 0)) (by (with_reducible repeat (first | refine za5 ?_ _ | refine za6 ?_ | refine za4 ?_ _)); exact BK338.out) hb); have n4_ := Aside0.mk (zac (by repeat (first | (with_reducible first | exact HB.out | apply za2 | apply za0 | apply za1 | refine za3 ?_ GE0.out | refine za3 ?_ GE338.out) | exact HB.out)) hb); clear HO_4; clear BK0; clear BK338; clear HB; have HO_4 := n0_; have HO342 := n1_; have BK0 := n2_; have BK338 := n3_; have HB := n4_; clear n0_ n1_ n2_ n3_ n4_; clear hb ho25; have hcz26_0 : w24.cell? ⟨gb338, 0, none⟩ = some (.int .i64 ((za9 l0_0 x34_2).f0)) := (za8 BK338.out 0).trans rfl; have hcz26_1 : w24.cell? ⟨gb338, 1, none⟩ = some (.int .i64 ((za9 l0_0 x34_2).f1)) := (za8 BK338.out 1).trans rfl; have hcz26_2 : w24.cell? ⟨gb338, 2, none⟩ = some (.int .i64 ((za9 l0_0 x34_2).f2)) := (za8 BK338.out 2).trans rfl; have hfz26_0 := za7 BK338.out 0; have hfz26_1 := za7 BK338.out 1; have hfz26_2 := za7 BK338.out 2))
          (try simp only [Act.put, List.setIfInBounds_toArray, List.set_cons_zero, List.set_cons_succ])
          go_cut [7] (fun v7 wc => ∃ (kq : Nat) (x7_18 : List Int), Aside0 (impl_Code_polynomials.j2 kq x4_2 x7_18 l0_0 (l0_0.length : Int) x34_2 = some (r1, r2)) ∧ Aside0 (kq ≤ k2) ∧ Aside0 (Kd.N (Kd.slice 3 (Kd.int .i64)) 22 wc w.heap.size (fun k_ => (w.heap.size ≤ k_) ∧ k_ ≠ g0 ∧ k_ ≠ gb338) u4 x4_2) ∧ Aside0 (Kd.V (Kd.int .i64) 3 wc w.heap.size (fun k_ => (w.heap.size ≤ k_) ∧ some k_ ≠ (u4 : Value).ownBlock ∧ k_ ≠ g0 ∧ k_ ≠ gb338) v7 x7_18) ∧ Aside0 (wc.heap[g0]? = some (.cells #[(.slice (some ad337) l0_0.length c0_0), .int .i64 a0_1] 39 (0, 0))) ∧ Aside0 (wc.heap[gb338]? = some (.cells #[.int .i64 ((za9 l0_0 x34_2).f0), .int .i64 ((za9 l0_0 x34_2).f1), .int .i64 ((za9 l0_0 x34_2).f2)] 69 (0, 0))) ∧ Aside0 (Below w.heap.size w wc))
          case first =>
           have H := HC19.out
           clear HC19
           by_cases c27 : ((za9 l0_0 x34_2).f0) = 0
           ·rw [if_pos c27] at H
            have c27b0 : (((za9 l0_0 x34_2).f0) == 0) = true := beq_iff_eq.mpr c27
            have c27b1 : (((za9 l0_0 x34_2).f0) != 0) = false := bne_eq_false_iff_eq.mpr c27
            clear c27
            (first | rw [c27b0] | (simp only [i64_w, i32_w]; rw [c27b0]) | skip)
            obtain ⟨y343, hy343⟩ : ∃ y_ : List Int, y_ = (([(za9 l0_0 x34_2).f1] : List Int)) := ⟨_, rfl⟩
            replace H : ((impl_cut.f k2 y343).bind fun t346 => (impl_Code_polynomials.j2 k2 x4_2 t346 l0_0 (l0_0.length : Int) x34_2)) = some (r1, r2) := by first | (rw [hy343]; with_reducible exact H) | (have H2_ := (Option.bind_some _ _).symm.trans H; rw [hy343]; with_reducible exact H2_) | (have H2_ := (Option.bind_some _ _).symm.trans H; with_reducible exact H2_) | with_reducible exact H | (rw [hy343]; exact H) | exact H
            have Ny343 := Aside0.mk hy343
            clear hy343
            replace H := Option.bind_eq_some_iff.mp H
            obtain ⟨t346, A280, H⟩ := H
            replace H : (impl_Code_polynomials.j2 k2 x4_2 t346 l0_0 (l0_0.length : Int) x34_2) = some (r1, r2) := H
            have A28 := Aside0.mk A280
            clear A280
            have H' := Aside0.mk H
            clear H
            have hnb29 := NB338_0.out
            have hnc29 := NB0_338.out
            have hcz30_0 : w24.cell? ⟨gb338, 0, none⟩ = some (.int .i64 ((za9 l0_0 x34_2).f0)) := (za8 BK338.out 0).trans rfl
            have hcz30_1 : w24.cell? ⟨gb338, 1, none⟩ = some (.int .i64 ((za9 l0_0 x34_2).f1)) := (za8 BK338.out 1).trans rfl
            have hcz30_2 : w24.cell? ⟨gb338, 2, none⟩ = some (.int .i64 ((za9 l0_0 x34_2).f2)) := (za8 BK338.out 2).trans rfl
            have hfz30_0 := za7 BK338.out 0
            have hfz30_1 := za7 BK338.out 1
            have hfz30_2 := za7 BK338.out 2
            go_wp2_with (first | ((with_reducible refine zai (N := 50) rfl ?_); (try (refine gate_guard (by rfl) ?_; dsimp only)); refine Kd.R_lit (Kd.int .i64) _ 3 ?hg (N := 50) ?hd (xs := ([(za9 l0_0 x34_2).f1] : List Int)) (inner := [.int .i64 ((za9 l0_0 x34_2).f1)]) (ok := fun _ => True) (okp := fun _ => True) ?hr ?hp (fun _ hk => hk) trivial (Below.refl _ _) (Nat.le_refl _) (by simp) ?_; (case hd => rfl); (case hg => rfl); (case hr => first | (go_simp; done) | (go_simp; rfl)); (case hp => exact (Reps.one (show Kd.M (Kd.int .i64) _ _ _ ((za9 l0_0 x34_2).f1) [.int .i64 ((za9 l0_0 x34_2).f1)] from rfl) (Reps.none _ _))); intro v344 w31 ho32 hb hg_ hnew_; clear hg_ hnew_; (first | rw [← Ny343.out] at ho32 | (simp only [Int.reduceToNat] at ho32; rw [← Ny343.out] at ho32)); have n0_ := Aside0.mk (Kd.N_elder' (by (with_reducible repeat (first | apply Kd.zb0 | apply Kd.zb1 | apply Kd.N_drew)); exact HO_4.out) (Kd.R_base ho32) hb); have n1_ := Aside0.mk (Kd.R_elder' (by (with_reducible repeat (first | apply Kd.zak | apply Kd.zaj | apply Kd.zam)); exact HO342.out) (Kd.R_base ho32) hb); have n2_ := Aside0.mk (Kd.R_lower (Kd.R_new' (Kd.R_newM (M := fun k_ => (w.heap.size ≤ k_)) ho32 (zaa (by repeat (first | (with_reducible first | exact HB.out | apply za2 | apply za0 | apply za1 | refine za3 ?_ GE0.out | refine za3 ?_ GE338.out) | exact HB.out))) (fun k_ h_ => h_)) (Kd.R_lt (by (with_reducible repeat (first | apply Kd.zak | apply Kd.zaj | apply Kd.zam)); exact HO342.out))) (zaa (by repeat (first | (with_reducible first | exact HB.out | apply za2 | apply za0 | apply za1 | refine za3 ?_ GE0.out | refine za3 ?_ GE338.out) | exact HB.out)))); have n3_ := Aside0.mk (zad (g := g0) (o := .cells #[.slice (some ad337) l0_0.length c0_0, .int .i64 a0_1] 39 (0, 0)) (by (with_reducible repeat (first | refine za5 ?_ _ | refine za6 ?_ | refine za4 ?_ _)); exact BK0.out) hb); have n4_ := Aside0.mk (zad (g := gb338) (o := .cells #[.int .i64 ((za9 l0_0 x34_2).f0), .int .i64 ((za9 l0_0 x34_2).f1), .int .i64 ((za9 l0_0 x34_2).f2)] 69 (0, 0)) (by (with_reducible repeat (first | refine za5 ?_ _ | refine za6 ?_ | refine za4 ?_ _)); exact BK338.out) hb); have n5_ := Aside0.mk (zac (by repeat (first | (with_reducible first | exact HB.out | apply za2 | apply za0 | apply za1 | refine za3 ?_ GE0.out | refine za3 ?_ GE338.out) | exact HB.out)) hb); clear HO_4; clear HO342; clear BK0; clear BK338; clear HB; have HO_4 := n0_; have HO342 := n1_; have HO345 := n2_; have BK0 := n3_; have BK338 := n4_; have HB := n5_; clear n0_ n1_ n2_ n3_ n4_ n5_; clear hb ho32; obtain ⟨Ao33, co33, eo33⟩ := Kd.zas HO345.out; subst eo33) | ((with_reducible refine zal (f := 99) rfl ?_); refine goesL_ (some 51) rfl rfl Try.func99 (by kernel_rfl) rfl #[.slice Ao33 y343.length co33] rfl (by (try simp only [List.map_toArray, List.map_cons, List.map_nil]); first | done | rfl | (simp only [List.length_drop, List.length_take]; rfl)) ?_; (with_reducible refine (impl_cut.calls k2 (fun k_ => some k_ = (.slice Ao33 y343.length co33 : Value).ownBlock) _ _ y343 t346 _ ?side1 A28.out).mono ?_); (case side1 => exact Kd.R_V (Kd.R_tight rfl (Kd.R_types (Kd.R_types (Kd.R_apart' (HO345.out) (Kd.N_typed HO_4.out) (by decide)) BK0.out (by decide)) BK338.out (by decide)))); rintro e w34 ⟨v347, rfl, ho0, hb⟩; refine ⟨_, rfl, ?_⟩; have n0_ := Aside0.mk (Kd.N_below (by (with_reducible repeat (first | apply Kd.zb0 | apply Kd.zb1 | apply Kd.N_drew)); exact HO_4.out) hb); have n1_ := Aside0.mk (Kd.zb2 (by (with_reducible repeat (first | apply Kd.zak | apply Kd.zaj | apply Kd.zam)); exact HO342.out) hb); have n2_ := Aside0.mk (Kd.zb2 (by (with_reducible repeat (first | apply Kd.zak | apply Kd.zaj | apply Kd.zam)); exact HO345.out) hb); have n3_ := Aside0.mk (Kd.V_lower (Kd.V_mono (ok' := fun k_ => (w.heap.size ≤ k_) ∧ some k_ ≠ (u4 : Value).ownBlock ∧ some k_ ≠ (v341 : Value).ownBlock ∧ k_ ≠ g0 ∧ k_ ≠ gb338) ho0 (fun k_ hk_ => ⟨Or.elim hk_ (fun hs_ => ((Kd.R_types (Kd.R_types (Kd.R_apart' (HO345.out) (Kd.N_typed HO_4.out) (by decide)) BK0.out (by decide)) BK338.out (by decide)).1 k_ hs_.symm).1.1.1.1.1) (fun hn_ => (Nat.le_trans (zaa (by repeat (first | (with_reducible first | exact HB.out | apply za2 | apply za0 | apply za1 | refine za3 ?_ GE0.out | refine za3 ?_ GE338.out) | exact HB.out))) hn_)), Or.elim hk_ (fun hs_ => ((Kd.R_types (Kd.R_types (Kd.R_apart' (HO345.out) (Kd.N_typed HO_4.out) (by decide)) BK0.out (by decide)) BK338.out (by decide)).1 k_ hs_.symm).1.1.2) (fun hn_ => (Kd.fresh' (Kd.N_lt (by (with_reducible repeat (first | apply Kd.zb0 | apply Kd.zb1 | apply Kd.N_drew)); exact HO_4.out)) k_ hn_)), Or.elim hk_ (fun hs_ => ((Kd.R_types (Kd.R_types (Kd.R_apart' (HO345.out) (Kd.N_typed HO_4.out) (by decide)) BK0.out (by decide)) BK338.out (by decide)).1 k_ hs_.symm).1.1.1.2) (fun hn_ => (Kd.fresh' (Kd.R_lt (by (with_reducible repeat (first | apply Kd.zak | apply Kd.zaj | apply Kd.zam)); exact HO342.out)) k_ hn_)), Or.elim hk_ (fun hs_ => ((Kd.R_types (Kd.R_types (Kd.R_apart' (HO345.out) (Kd.N_typed HO_4.out) (by decide)) BK0.out (by decide)) BK338.out (by decide)).1 k_ hs_.symm).1.2) (fun hn_ => (Kd.freshB (g := g0) (o := .cells #[.slice (some ad337) l0_0.length c0_0, .int .i64 a0_1] 39 (0, 0)) (by (with_reducible repeat (first | refine za5 ?_ _ | refine za6 ?_ | refine za4 ?_ _)); exact BK0.out) k_ hn_)), Or.elim hk_ (fun hs_ => ((Kd.R_types (Kd.R_types (Kd.R_apart' (HO345.out) (Kd.N_typed HO_4.out) (by decide)) BK0.out (by decide)) BK338.out (by decide)).1 k_ hs_.symm).2) (fun hn_ => (Kd.freshB (g := gb338) (o := .cells #[.int .i64 ((za9 l0_0 x34_2).f0), .int .i64 ((za9 l0_0 x34_2).f1), .int .i64 ((za9 l0_0 x34_2).f2)] 69 (0, 0)) (by (with_reducible repeat (first | refine za5 ?_ _ | refine za6 ?_ | refine za4 ?_ _)); exact BK338.out) k_ hn_))⟩)) (zaa (by repeat (first | (with_reducible first | exact HB.out | apply za2 | apply za0 | apply za1 | refine za3 ?_ GE0.out | refine za3 ?_ GE338.out) | exact HB.out)))); have n4_ := Aside0.mk (zad (g := g0) (o := .cells #[.slice (some ad337) l0_0.length c0_0, .int .i64 a0_1] 39 (0, 0)) (by (with_reducible repeat (first | refine za5 ?_ _ | refine za6 ?_ | refine za4 ?_ _)); exact BK0.out) hb); have n5_ := Aside0.mk (zad (g := gb338) (o := .cells #[.int .i64 ((za9 l0_0 x34_2).f0), .int .i64 ((za9 l0_0 x34_2).f1), .int .i64 ((za9 l0_0 x34_2).f2)] 69 (0, 0)) (by (with_reducible repeat (first | refine za5 ?_ _ | refine za6 ?_ | refine za4 ?_ _)); exact BK338.out) hb); have n6_ := Aside0.mk (zac (by repeat (first | (with_reducible first | exact HB.out | apply za2 | apply za0 | apply za1 | refine za3 ?_ GE0.out | refine za3 ?_ GE338.out) | exact HB.out)) hb); clear HO_4; clear HO342; clear HO345; clear BK0; clear BK338; clear HB; have HO_4 := n0_; have HO342 := n1_; have HO345 := n2_; have HO348 := n3_; have BK0 := n4_; have BK338 := n5_; have HB := n6_; clear n0_ n1_ n2_ n3_ n4_ n5_ n6_; (try clear hb); (try clear hb2); (try clear hk); (try clear hi); (try clear ho0)))
            go_meet
            case rel => exact ⟨_, (t346), H', ⟨by have := HJ1.out; have := HK2.out; first | omega | exact Nat.le_refl _⟩, ⟨by (with_reducible repeat (first | apply Kd.zb0 | apply Kd.zb1 | apply Kd.N_drew)); exact Kd.N_mono HO_4.out (fun _ hk => ⟨hk.1.1.1.1, ⟨hk.1.1.1.2, hk.1.1.2⟩⟩)⟩, ⟨by (with_reducible repeat (first | apply Kd.V_alloc | apply Kd.V_drewN | apply Kd.V_drew)); exact Kd.V_mono HO348.out (fun _ hk => ⟨hk.1, ⟨hk.2.1, ⟨hk.2.2.2.1, hk.2.2.2.2⟩⟩⟩)⟩, ⟨by (with_reducible repeat (first | refine za5 ?_ _ | refine za6 ?_ | refine za4 ?_ _)); exact BK0.out⟩, ⟨by (with_reducible repeat (first | refine za5 ?_ _ | refine za6 ?_ | refine za4 ?_ _)); exact BK338.out⟩, ⟨by repeat (first | (with_reducible first | exact HB.out | apply za2 | apply za0 | apply za1 | refine za3 ?_ GE0.out | refine za3 ?_ GE338.out) | exact HB.out)⟩⟩
           ·rw [if_neg c27] at H
            have c27b0 : (((za9 l0_0 x34_2).f0) == 0) = false := beq_eq_false_iff_ne.mpr c27
            have c27b1 : (((za9 l0_0 x34_2).f0) != 0) = true := bne_iff_ne.mpr c27
            (first | rw [c27b0] | (simp only [i64_w, i32_w]; rw [c27b0]) | skip)
            by_cases c35 : ((za9 l0_0 x34_2).f0) = 1
            ·rw [if_pos c35] at H
             have c35b0 : (((za9 l0_0 x34_2).f0) == 1) = true := beq_iff_eq.mpr c35
             have c35b1 : (((za9 l0_0 x34_2).f0) != 1) = false := bne_eq_false_iff_eq.mpr c35
             clear c35
             by_cases c36 : 0 ≤ ((za9 l0_0 x34_2).f1)
             ·rw [if_pos c36] at H
              have c36b0 : decide (0 ≤ ((za9 l0_0 x34_2).f1)) = true := decide_eq_true c36
              clear c36
              by_cases c37 : ((za9 l0_0 x34_2).f1) < (x4_2.length : Int)
              ·rw [if_pos c37] at H
               have c37b0 : decide (((za9 l0_0 x34_2).f1) < (x4_2.length : Int)) = true := decide_eq_true c37
               clear c37
               by_cases c38 : 0 ≤ ((za9 l0_0 x34_2).f2)
               ·rw [if_pos c38] at H
                have c38b0 : decide (0 ≤ ((za9 l0_0 x34_2).f2)) = true := decide_eq_true c38
                clear c38
                by_cases c39 : ((za9 l0_0 x34_2).f2) < (x4_2.length : Int)
                ·rw [if_pos c39] at H
                 have c39b0 : decide (((za9 l0_0 x34_2).f2) < (x4_2.length : Int)) = true := decide_eq_true c39
                 clear c39
                 replace H := Option.bind_eq_some_iff.mp H
                 obtain ⟨t351, A400, H⟩ := H
                 replace H : (impl_Code_polynomials.j2 k2 x4_2 t351 l0_0 (l0_0.length : Int) x34_2) = some (r1, r2) := H
                 have A40 := Aside0.mk A400
                 clear A400
                 have H' := Aside0.mk H
                 clear H
                 try go_wp2
                 have n0_ := Aside0.mk (Kd.N_drew HO_4.out)
                 have n1_ := Aside0.mk (Kd.zam HO342.out)
                 have n2_ := Aside0.mk (za6 BK0.out)
                 have n3_ := Aside0.mk (za6 BK338.out)
                 have n4_ := Aside0.mk (za1 HB.out)
                 clear HO_4
                 clear HO342
                 clear BK0
                 clear BK338
                 clear HB
                 have HO_4 := n0_
                 have HO342 := n1_
                 have BK0 := n2_
                 have BK338 := n3_
                 have HB := n4_
                 clear n0_ n1_ n2_ n3_ n4_
                 obtain ⟨Ao42, co42, eo42⟩ := Kd.N_slice HO_4.out
                 (first | subst eo42 | (injection eo42 with f1_ f2_ f3_; have f4_ := f1_.symm; have f5_ := f3_.symm; clear f1_ f2_ f3_; subst f4_; subst f5_))
                 have p349 : 0 ≤ (((za9 l0_0 x34_2).f1) : Int) := of_decide_eq_true (by first | (with_reducible assumption) | assumption)
                 have q349 : ((za9 l0_0 x34_2).f1) < (x4_2.length : Int) := of_decide_eq_true (by first | (with_reducible assumption) | assumption)
                 obtain ⟨ad349, A349_0, c349_0, e349, hx349_0, hl349_0, hi349_0⟩ := at_L2 (Kd.N_reads' HO_4.out).2.2 ((za9 l0_0 x34_2).f1) p349 q349
                 cases e349
                 obtain ⟨ce349, hce349, hMe349, hcc349⟩ := Kd.N_get HO_4.out [] ((za9 l0_0 x34_2).f1) p349 (by first | exact q349 | exact of_decide_eq_true (by first | (with_reducible assumption) | assumption) | (have e_ := (Kd.N_reads' HO_4.out).1; omega))
                 obtain ⟨ua349_0, uc349_0, rfl, ul349_0, ge349_0⟩ := Kd.FK_slice_open hMe349
                 have hv349_0 := hcc349 0 _ rfl
                 rw [Nat.add_zero, show ((Kd.slice 3 (Kd.int .i64))).sz = 1 from rfl, Nat.mul_one] at hv349_0
                 replace hv349_0 := Option.some.inj (hv349_0.symm.trans hx349_0)
                 injection hv349_0 with hva_ hvn_ hvc_
                 rw [hva_] at ge349_0
                 rw [hvc_] at ul349_0
                 have HL349_0 := Aside0.mk (show Kd.V (Kd.int .i64) 3 _ w.heap.size _ _ (rd_L2 x4_2 ((za9 l0_0 x34_2).f1)) from Kd.V_mk ul349_0 ge349_0)
                 clear hva_ hvn_ hvc_ ge349_0 ul349_0
                 clear hcc349 hce349
                 have HR349_0 := Aside0.mk hi349_0
                 have HC349_0 := Aside0.mk hl349_0
                 clear hi349_0 hl349_0
                 replace p349 := eq_true p349
                 replace q349 := eq_true q349
                 have p350 : 0 ≤ (((za9 l0_0 x34_2).f2) : Int) := of_decide_eq_true (by first | (with_reducible assumption) | assumption)
                 have q350 : ((za9 l0_0 x34_2).f2) < (x4_2.length : Int) := of_decide_eq_true (by first | (with_reducible assumption) | assumption)
                 obtain ⟨ad350, A350_0, c350_0, e350, hx350_0, hl350_0, hi350_0⟩ := at_L2 (Kd.N_reads' HO_4.out).2.2 ((za9 l0_0 x34_2).f2) p350 q350
                 obtain rfl : ad349 = ad350 := (by injection e350)
                 obtain ⟨ce350, hce350, hMe350, hcc350⟩ := Kd.N_get HO_4.out [] ((za9 l0_0 x34_2).f2) p350 (by first | exact q350 | exact of_decide_eq_true (by first | (with_reducible assumption) | assumption) | (have e_ := (Kd.N_reads' HO_4.out).1; omega))
                 obtain ⟨ua350_0, uc350_0, rfl, ul350_0, ge350_0⟩ := Kd.FK_slice_open hMe350
                 have hv350_0 := hcc350 0 _ rfl
                 rw [Nat.add_zero, show ((Kd.slice 3 (Kd.int .i64))).sz = 1 from rfl, Nat.mul_one] at hv350_0
                 replace hv350_0 := Option.some.inj (hv350_0.symm.trans hx350_0)
                 injection hv350_0 with hva_ hvn_ hvc_
                 rw [hva_] at ge350_0
                 rw [hvc_] at ul350_0
                 have HL350_0 := Aside0.mk (show Kd.V (Kd.int .i64) 3 _ w.heap.size _ _ (rd_L2 x4_2 ((za9 l0_0 x34_2).f2)) from Kd.V_mk ul350_0 ge350_0)
                 clear hva_ hvn_ hvc_ ge350_0 ul350_0
                 clear hcc350 hce350
                 have HR350_0 := Aside0.mk hi350_0
                 have HC350_0 := Aside0.mk hl350_0
                 clear hi350_0 hl350_0
                 replace p350 := eq_true p350
                 replace q350 := eq_true q350
                 refine start_ (n := 12) (S := fun w' => w'.cell? ⟨gb338, 0, none⟩ = some (.int .i64 ((za9 l0_0 x34_2).f0)) ∧ w'.cell? ⟨gb338, 1, none⟩ = some (.int .i64 ((za9 l0_0 x34_2).f1)) ∧ w'.cell? ⟨gb338, 2, none⟩ = some (.int .i64 ((za9 l0_0 x34_2).f2)) ∧ w'.cell? (ad349.add (((za9 l0_0 x34_2).f1)).toNat) = some (.slice A349_0 (rd_L2 x4_2 ((za9 l0_0 x34_2).f1)).length c349_0) ∧ w'.cell? (ad349.add (((za9 l0_0 x34_2).f2)).toNat) = some (.slice A350_0 (rd_L2 x4_2 ((za9 l0_0 x34_2).f2)).length c350_0)) (ds := []) #[false, false, false, false, false, false, false, false, false, false, false, false] (by kernel_rfl) rfl rfl ⟨(za8 BK338.out 0).trans rfl, (za8 BK338.out 1).trans rfl, (za8 BK338.out 2).trans rfl, hx349_0, hx350_0⟩ (fun hHeld => ?_); refine with_tabW impl_Code_polynomials.tab14 impl_Code_polynomials.bits14 (fun HT_ HW_ => ?_)
                 generalize w24.drew = w41 at HO_4 HO342 BK0 BK338 HB HL349_0 HL350_0 HR349_0 HR350_0 hx349_0 hx350_0 hHeld ⊢
                 refine pure_ (i := 0) (N := some 54) (v := ?_) (a' := ?_) #[true, false, false, false, false, false, false, false, false, false, false, false] rfl rfl (zan HT_.out (by kernel_rfl)) (fun _ _ _ h => h) (Or.inl ⟨by rfl, ?_⟩) ?_ ?_
                 rotate_left
                 ·intro w'
                  go_simp
                  with_reducible rfl
                 rotate_left
                 ·simp only [Act.put, List.setIfInBounds_toArray, List.set_cons_zero, List.set_cons_succ, i64_w, i32_w]
                  rfl
                 refine pure_ (i := 1) (N := some 55) (v := ?_) (a' := ?_) #[true, true, false, false, false, false, false, false, false, false, false, false] rfl rfl (zan HT_.out (by kernel_rfl)) (fun _ _ _ h => h) (Or.inl ⟨by rfl, ?_⟩) ?_ ?_
                 rotate_left
                 ·intro w'
                  go_simp
                  with_reducible rfl
                 rotate_left
                 ·simp only [Act.put, List.setIfInBounds_toArray, List.set_cons_zero, List.set_cons_succ, i64_w, i32_w]
                  rfl
                 refine pure_ (i := 5) (N := some 59) (v := ?_) (a' := ?_) #[true, true, false, false, false, true, false, false, false, false, false, false] rfl rfl (zan HT_.out (by kernel_rfl)) (fun _ _ _ h => h) (Or.inl ⟨by rfl, ?_⟩) ?_ ?_
                 rotate_left
                 ·intro w'
                  go_simp
                  with_reducible rfl
                 rotate_left
                 ·simp only [Act.put, List.setIfInBounds_toArray, List.set_cons_zero, List.set_cons_succ, i64_w, i32_w]
                  rfl
                 refine pure_ (i := 6) (N := some 60) (v := ?_) (a' := ?_) #[true, true, false, false, false, true, true, false, false, false, false, false] rfl rfl (zan HT_.out (by kernel_rfl)) (fun _ _ _ h => h) (Or.inl ⟨by rfl, ?_⟩) ?_ ?_
                 rotate_left
                 ·intro w'
                  go_simp
                  with_reducible rfl
                 rotate_left
                 ·simp only [Act.put, List.setIfInBounds_toArray, List.set_cons_zero, List.set_cons_succ, i64_w, i32_w]
                  rfl
                 refine take_ (i := 2) (N := some 56) (v := ?_) (a' := ?_) #[true, true, true, false, false, true, true, false, false, false, false, false] rfl rfl (zax HT_.out HW_.out (by kernel_rfl)) (fun _ _ _ h => h) (Or.inl ⟨by rfl, ?_⟩) hHeld ?_ ?_
                 rotate_left
                 ·rintro w' ⟨s0, s1, s2, s3, s4⟩
                  go_simp
                  with_reducible rfl
                 rotate_left
                 ·simp only [Act.put, List.setIfInBounds_toArray, List.set_cons_zero, List.set_cons_succ, i64_w, i32_w]
                  rfl
                 refine pure_ (i := 3) (N := some 57) (v := ?_) (a' := ?_) #[true, true, true, true, false, true, true, false, false, false, false, false] rfl rfl (zan HT_.out (by kernel_rfl)) (fun _ _ _ h => h) (Or.inl ⟨by rfl, ?_⟩) ?_ ?_
                 rotate_left
                 ·intro w'
                  go_simp
                  with_reducible rfl
                 rotate_left
                 ·simp only [Act.put, List.setIfInBounds_toArray, List.set_cons_zero, List.set_cons_succ, i64_w, i32_w]
                  rfl
                 refine take_ (i := 4) (N := some 58) (v := ?_) (a' := ?_) #[true, true, true, true, true, true, true, false, false, false, false, false] rfl rfl (zax HT_.out HW_.out (by kernel_rfl)) (fun _ _ _ h => h) (Or.inl ⟨by rfl, ?_⟩) hHeld ?_ ?_
                 rotate_left
                 ·rintro w' ⟨s0, s1, s2, s3, s4⟩
                  go_simp
                  with_reducible rfl
                 rotate_left
                 ·simp only [Act.put, List.setIfInBounds_toArray, List.set_cons_zero, List.set_cons_succ, i64_w, i32_w]
                  rfl
                 refine take_ (i := 7) (N := some 61) (v := ?_) (a' := ?_) #[true, true, true, true, true, true, true, true, false, false, false, false] rfl rfl (zax HT_.out HW_.out (by kernel_rfl)) (fun _ _ _ h => h) (Or.inl ⟨by rfl, ?_⟩) hHeld ?_ ?_
                 rotate_left
                 ·rintro w' ⟨s0, s1, s2, s3, s4⟩
                  go_simp
                  with_reducible rfl
                 rotate_left
                 ·simp only [Act.put, List.setIfInBounds_toArray, List.set_cons_zero, List.set_cons_succ, i64_w, i32_w]
                  rfl
                 refine pure_ (i := 8) (N := some 62) (v := ?_) (a' := ?_) #[true, true, true, true, true, true, true, true, true, false, false, false] rfl rfl (zan HT_.out (by kernel_rfl)) (fun _ _ _ h => h) (Or.inl ⟨by rfl, ?_⟩) ?_ ?_
                 rotate_left
                 ·intro w'
                  go_simp
                  with_reducible rfl
                 rotate_left
                 ·simp only [Act.put, List.setIfInBounds_toArray, List.set_cons_zero, List.set_cons_succ, i64_w, i32_w]
                  rfl
                 refine take_ (i := 9) (N := some 63) (v := ?_) (a' := ?_) #[true, true, true, true, true, true, true, true, true, true, false, false] rfl rfl (zax HT_.out HW_.out (by kernel_rfl)) (fun _ _ _ h => h) (Or.inl ⟨by rfl, ?_⟩) hHeld ?_ ?_
                 rotate_left
                 ·rintro w' ⟨s0, s1, s2, s3, s4⟩
                  go_simp
                  with_reducible rfl
                 rotate_left
                 ·simp only [Act.put, List.setIfInBounds_toArray, List.set_cons_zero, List.set_cons_succ, i64_w, i32_w]
                  rfl
                 refine one_ (i := 10) (N := some 64) #[true, true, true, true, true, true, true, true, true, true, true, false] rfl rfl (one_of HT_.out (by kernel_rfl)) (by decide) (fun K hK => ?_)
                 refine goes_ Try.func100 (by kernel_rfl) rfl #[.slice A349_0 (rd_L2 x4_2 ((za9 l0_0 x34_2).f1)).length c349_0, .slice A350_0 (rd_L2 x4_2 ((za9 l0_0 x34_2).f2)).length c350_0] (by rfl) rfl rfl (by (try simp only [List.map_toArray, List.map_cons, List.map_nil]); first | done | rfl | (simp only [List.length_drop, List.length_take]; rfl)) ?_
                 with_reducible refine (impl_sumOf.calls k2 _ _ (rd_L2 x4_2 ((za9 l0_0 x34_2).f1)) _ _ (rd_L2 x4_2 ((za9 l0_0 x34_2).f2)) t351 _ ?side1 ?side2 ?side3 ?side4 A40.out).mono ?_
                 (case side1 => repeat (first | exact (by repeat (first | (with_reducible exact HR349_0.out) | (with_reducible refine Kd.zav ?_ _) | (with_reducible refine Kd.zau ?_ _) | (with_reducible refine Kd.zaz ?_) | exact HR349_0.out)) | (with_reducible refine Kd.zav ?_ _) | (with_reducible refine Kd.zau ?_ _) | (with_reducible refine Kd.zaz ?_)))
                 (case side2 => exact HC349_0.out)
                 (case side3 => repeat (first | exact (by repeat (first | (with_reducible exact HR350_0.out) | (with_reducible refine Kd.zav ?_ _) | (with_reducible refine Kd.zau ?_ _) | (with_reducible refine Kd.zaz ?_) | exact HR350_0.out)) | (with_reducible refine Kd.zav ?_ _) | (with_reducible refine Kd.zau ?_ _) | (with_reducible refine Kd.zaz ?_)))
                 (case side4 => exact HC350_0.out)
                 rintro e w43 ⟨v352, rfl, ho0, hb⟩
                 have HS3_ := (hb.cell (World.block_lt_of_cell? _ _ (hHeld.2.2.2.1))).trans (hHeld.2.2.2.1)
                 have HS4_ := (hb.cell (World.block_lt_of_cell? _ _ (hHeld.2.2.2.2))).trans (hHeld.2.2.2.2)
                 refine ⟨_, rfl, ?_⟩
                 have n0_ := Aside0.mk (Kd.N_below (by (with_reducible repeat (first | apply Kd.zb0 | apply Kd.zb1 | apply Kd.N_drew)); exact HO_4.out) hb)
                 have n1_ := Aside0.mk (Kd.zb2 (by (with_reducible repeat (first | apply Kd.zak | apply Kd.zaj | apply Kd.zam)); exact HO342.out) hb)
                 have n2_ := Aside0.mk (Kd.V_below (by (with_reducible repeat (first | apply Kd.V_alloc | apply Kd.V_drewN | apply Kd.V_drew)); exact HL349_0.out) hb)
                 have n3_ := Aside0.mk (Kd.V_below (by (with_reducible repeat (first | apply Kd.V_alloc | apply Kd.V_drewN | apply Kd.V_drew)); exact HL350_0.out) hb)
                 have n4_ := Aside0.mk (Kd.V_lower (Kd.V_mono (ok' := fun k_ => (w.heap.size ≤ k_) ∧ some k_ ≠ (.slice (some ad349) x4_2.length co42 : Value).ownBlock ∧ some k_ ≠ (v341 : Value).ownBlock ∧ k_ ≠ g0 ∧ k_ ≠ gb338) ho0 (fun k_ hk_ => ⟨(Nat.le_trans (zaa (by repeat (first | (with_reducible first | exact HB.out | apply za2 | apply za0 | apply za1 | refine za3 ?_ GE0.out | refine za3 ?_ GE338.out) | exact HB.out))) hk_), (Kd.fresh' (Kd.N_lt (by (with_reducible repeat (first | apply Kd.zb0 | apply Kd.zb1 | apply Kd.N_drew)); exact HO_4.out)) k_ hk_), (Kd.fresh' (Kd.R_lt (by (with_reducible repeat (first | apply Kd.zak | apply Kd.zaj | apply Kd.zam)); exact HO342.out)) k_ hk_), (Kd.freshB (g := g0) (o := .cells #[.slice (some ad337) l0_0.length c0_0, .int .i64 a0_1] 39 (0, 0)) (by (with_reducible repeat (first | refine za5 ?_ _ | refine za6 ?_ | refine za4 ?_ _)); exact BK0.out) k_ hk_), (Kd.freshB (g := gb338) (o := .cells #[.int .i64 ((za9 l0_0 x34_2).f0), .int .i64 ((za9 l0_0 x34_2).f1), .int .i64 ((za9 l0_0 x34_2).f2)] 69 (0, 0)) (by (with_reducible repeat (first | refine za5 ?_ _ | refine za6 ?_ | refine za4 ?_ _)); exact BK338.out) k_ hk_)⟩)) (zaa (by repeat (first | (with_reducible first | exact HB.out | apply za2 | apply za0 | apply za1 | refine za3 ?_ GE0.out | refine za3 ?_ GE338.out) | exact HB.out))))
                 have n5_ := Aside0.mk (zad (g := g0) (o := .cells #[.slice (some ad337) l0_0.length c0_0, .int .i64 a0_1] 39 (0, 0)) (by (with_reducible repeat (first | refine za5 ?_ _ | refine za6 ?_ | refine za4 ?_ _)); exact BK0.out) hb)
                 have n6_ := Aside0.mk (zad (g := gb338) (o := .cells #[.int .i64 ((za9 l0_0 x34_2).f0), .int .i64 ((za9 l0_0 x34_2).f1), .int .i64 ((za9 l0_0 x34_2).f2)] 69 (0, 0)) (by (with_reducible repeat (first | refine za5 ?_ _ | refine za6 ?_ | refine za4 ?_ _)); exact BK338.out) hb)
                 have n7_ := Aside0.mk (Kd.zar (by repeat (first | (with_reducible exact HR349_0.out) | (with_reducible refine Kd.zav ?_ _) | (with_reducible refine Kd.zau ?_ _) | (with_reducible refine Kd.zaz ?_) | exact HR349_0.out)) hb)
                 have n8_ := Aside0.mk (Kd.zar (by repeat (first | (with_reducible exact HR350_0.out) | (with_reducible refine Kd.zav ?_ _) | (with_reducible refine Kd.zau ?_ _) | (with_reducible refine Kd.zaz ?_) | exact HR350_0.out)) hb)
                 have n9_ := Aside0.mk (zac (by repeat (first | (with_reducible first | exact HB.out | apply za2 | apply za0 | apply za1 | refine za3 ?_ GE0.out | refine za3 ?_ GE338.out) | exact HB.out)) hb)
                 clear HO_4
                 clear HO342
                 clear HL349_0
                 clear HL350_0
                 clear BK0
                 clear BK338
                 clear HR349_0
                 clear HR350_0
                 clear HB
                 have HO_4 := n0_
                 have HO342 := n1_
                 have HL349_0 := n2_
                 have HL350_0 := n3_
                 have HO353 := n4_
                 have BK0 := n5_
                 have BK338 := n6_
                 have HR349_0 := n7_
                 have HR350_0 := n8_
                 have HB := n9_
                 clear n0_ n1_ n2_ n3_ n4_ n5_ n6_ n7_ n8_ n9_
                 (try clear hb)
                 (try clear hb2)
                 (try clear hk)
                 (try clear hi)
                 (try clear ho0)
                 refine hK.out _ _ ⟨(za8 BK338.out 0).trans rfl, (za8 BK338.out 1).trans rfl, (za8 BK338.out 2).trans rfl, HS3_, HS4_⟩ (fun hHeld => ?_)
                 clear hK K
                 refine norm_ (a' := ?_) ?_ ?_
                 rotate_left
                 ·show Act.put _ (some 64) _ = _
                  simp only [Act.put, List.setIfInBounds_toArray, List.set_cons_zero, List.set_cons_succ, i64_w, i32_w]
                  rfl
                 refine pure_ (i := 11) (N := some 7) (v := ?_) (a' := ?_) #[true, true, true, true, true, true, true, true, true, true, true, true] rfl rfl (zan HT_.out (by kernel_rfl)) (fun _ _ _ h => h) (Or.inl ⟨by rfl, ?_⟩) ?_ ?_
                 rotate_left
                 ·intro w'
                  go_simp
                  with_reducible rfl
                 rotate_left
                 ·simp only [Act.put, List.setIfInBounds_toArray, List.set_cons_zero, List.set_cons_succ, i64_w, i32_w]
                  rfl
                 refine done_ (done_of HT_.out (by kernel_rfl)) ?_
                 try go_wp2
                 go_meet
                 case rel => exact ⟨_, (t351), H', ⟨by have := HJ1.out; have := HK2.out; first | omega | exact Nat.le_refl _⟩, ⟨by (with_reducible repeat (first | apply Kd.zb0 | apply Kd.zb1 | apply Kd.N_drew)); exact Kd.N_mono HO_4.out (fun _ hk => ⟨hk.1.1.1, ⟨hk.1.1.2, hk.1.2⟩⟩)⟩, ⟨by (with_reducible repeat (first | apply Kd.V_alloc | apply Kd.V_drewN | apply Kd.V_drew)); exact Kd.V_mono HO353.out (fun _ hk => ⟨hk.1, ⟨hk.2.1, ⟨hk.2.2.2.1, hk.2.2.2.2⟩⟩⟩)⟩, ⟨by (with_reducible repeat (first | refine za5 ?_ _ | refine za6 ?_ | refine za4 ?_ _)); exact BK0.out⟩, ⟨by (with_reducible repeat (first | refine za5 ?_ _ | refine za6 ?_ | refine za4 ?_ _)); exact BK338.out⟩, ⟨by repeat (first | (with_reducible first | exact HB.out | apply za2 | apply za0 | apply za1 | refine za3 ?_ GE0.out | refine za3 ?_ GE338.out) | exact HB.out)⟩⟩
                ·rw [if_neg c39] at H
                 exact absurd H (by simp)
               ·rw [if_neg c38] at H
                exact absurd H (by simp)
              ·rw [if_neg c37] at H
               exact absurd H (by simp)
             ·rw [if_neg c36] at H
              exact absurd H (by simp)
            ·rw [if_neg c35] at H
             have c35b0 : (((za9 l0_0 x34_2).f0) == 1) = false := beq_eq_false_iff_ne.mpr c35
             have c35b1 : (((za9 l0_0 x34_2).f0) != 1) = true := bne_iff_ne.mpr c35
             by_cases c44 : ((za9 l0_0 x34_2).f0) = 2
             ·rw [if_pos c44] at H
              have c44b0 : (((za9 l0_0 x34_2).f0) == 2) = true := beq_iff_eq.mpr c44
              have c44b1 : (((za9 l0_0 x34_2).f0) != 2) = false := bne_eq_false_iff_eq.mpr c44
              clear c44
              by_cases c45 : 0 ≤ ((za9 l0_0 x34_2).f1)
              ·rw [if_pos c45] at H
               have c45b0 : decide (0 ≤ ((za9 l0_0 x34_2).f1)) = true := decide_eq_true c45
               clear c45
               by_cases c46 : ((za9 l0_0 x34_2).f1) < (x4_2.length : Int)
               ·rw [if_pos c46] at H
                have c46b0 : decide (((za9 l0_0 x34_2).f1) < (x4_2.length : Int)) = true := decide_eq_true c46
                clear c46
                obtain ⟨y355, hy355⟩ : ∃ y_ : List Int, y_ = (([(za9 l0_0 x34_2).f2] : List Int)) := ⟨_, rfl⟩
                replace H : ((impl_productOf.f k2 (rd_L2 x4_2 ((za9 l0_0 x34_2).f1)) y355).bind fun t358 => (impl_Code_polynomials.j2 k2 x4_2 t358 l0_0 (l0_0.length : Int) x34_2)) = some (r1, r2) := by first | (rw [hy355]; with_reducible exact H) | (have H2_ := (Option.bind_some _ _).symm.trans H; rw [hy355]; with_reducible exact H2_) | (have H2_ := (Option.bind_some _ _).symm.trans H; with_reducible exact H2_) | with_reducible exact H | (rw [hy355]; exact H) | exact H
                have Ny355 := Aside0.mk hy355
                clear hy355
                replace H := Option.bind_eq_some_iff.mp H
                obtain ⟨t358, A470, H⟩ := H
                replace H : (impl_Code_polynomials.j2 k2 x4_2 t358 l0_0 (l0_0.length : Int) x34_2) = some (r1, r2) := H
                have A47 := Aside0.mk A470
                clear A470
                have H' := Aside0.mk H
                clear H
                try go_wp2
                have n0_ := Aside0.mk (Kd.N_drew HO_4.out)
                have n1_ := Aside0.mk (Kd.zam HO342.out)
                have n2_ := Aside0.mk (za6 BK0.out)
                have n3_ := Aside0.mk (za6 BK338.out)
                have n4_ := Aside0.mk (za1 HB.out)
                clear HO_4
                clear HO342
                clear BK0
                clear BK338
                clear HB
                have HO_4 := n0_
                have HO342 := n1_
                have BK0 := n2_
                have BK338 := n3_
                have HB := n4_
                clear n0_ n1_ n2_ n3_ n4_
                obtain ⟨Ao49, co49, eo49⟩ := Kd.N_slice HO_4.out
                (first | subst eo49 | (injection eo49 with f1_ f2_ f3_; have f4_ := f1_.symm; have f5_ := f3_.symm; clear f1_ f2_ f3_; subst f4_; subst f5_))
                have p354 : 0 ≤ (((za9 l0_0 x34_2).f1) : Int) := of_decide_eq_true (by first | (with_reducible assumption) | assumption)
                have q354 : ((za9 l0_0 x34_2).f1) < (x4_2.length : Int) := of_decide_eq_true (by first | (with_reducible assumption) | assumption)
                obtain ⟨ad354, A354_0, c354_0, e354, hx354_0, hl354_0, hi354_0⟩ := at_L2 (Kd.N_reads' HO_4.out).2.2 ((za9 l0_0 x34_2).f1) p354 q354
                cases e354
                obtain ⟨ce354, hce354, hMe354, hcc354⟩ := Kd.N_get HO_4.out [] ((za9 l0_0 x34_2).f1) p354 (by first | exact q354 | exact of_decide_eq_true (by first | (with_reducible assumption) | assumption) | (have e_ := (Kd.N_reads' HO_4.out).1; omega))
                obtain ⟨ua354_0, uc354_0, rfl, ul354_0, ge354_0⟩ := Kd.FK_slice_open hMe354
                have hv354_0 := hcc354 0 _ rfl
                rw [Nat.add_zero, show ((Kd.slice 3 (Kd.int .i64))).sz = 1 from rfl, Nat.mul_one] at hv354_0
                replace hv354_0 := Option.some.inj (hv354_0.symm.trans hx354_0)
                injection hv354_0 with hva_ hvn_ hvc_
                rw [hva_] at ge354_0
                rw [hvc_] at ul354_0
                have HL354_0 := Aside0.mk (show Kd.V (Kd.int .i64) 3 _ w.heap.size _ _ (rd_L2 x4_2 ((za9 l0_0 x34_2).f1)) from Kd.V_mk ul354_0 ge354_0)
                clear hva_ hvn_ hvc_ ge354_0 ul354_0
                clear hcc354 hce354
                have HR354_0 := Aside0.mk hi354_0
                have HC354_0 := Aside0.mk hl354_0
                clear hi354_0 hl354_0
                replace p354 := eq_true p354
                replace q354 := eq_true q354
                refine start_ (n := 10) (S := fun w' => w'.cell? ⟨gb338, 0, none⟩ = some (.int .i64 ((za9 l0_0 x34_2).f0)) ∧ w'.cell? ⟨gb338, 1, none⟩ = some (.int .i64 ((za9 l0_0 x34_2).f1)) ∧ w'.cell? ⟨gb338, 2, none⟩ = some (.int .i64 ((za9 l0_0 x34_2).f2)) ∧ w'.cell? (ad354.add (((za9 l0_0 x34_2).f1)).toNat) = some (.slice A354_0 (rd_L2 x4_2 ((za9 l0_0 x34_2).f1)).length c354_0)) (ds := []) #[false, false, false, false, false, false, false, false, false, false] (by kernel_rfl) rfl rfl ⟨(za8 BK338.out 0).trans rfl, (za8 BK338.out 1).trans rfl, (za8 BK338.out 2).trans rfl, hx354_0⟩ (fun hHeld => ?_); refine with_tabW impl_Code_polynomials.tab16 impl_Code_polynomials.bits16 (fun HT_ HW_ => ?_)
                generalize w24.drew = w48 at HO_4 HO342 BK0 BK338 HB HL354_0 HR354_0 hx354_0 hHeld ⊢
                refine pure_ (i := 0) (N := some 67) (v := ?_) (a' := ?_) #[true, false, false, false, false, false, false, false, false, false] rfl rfl (zan HT_.out (by kernel_rfl)) (fun _ _ _ h => h) (Or.inl ⟨by rfl, ?_⟩) ?_ ?_
                rotate_left
                ·intro w'
                 go_simp
                 with_reducible rfl
                rotate_left
                ·simp only [Act.put, List.setIfInBounds_toArray, List.set_cons_zero, List.set_cons_succ, i64_w, i32_w]
                 rfl
                refine pure_ (i := 1) (N := some 68) (v := ?_) (a' := ?_) #[true, true, false, false, false, false, false, false, false, false] rfl rfl (zan HT_.out (by kernel_rfl)) (fun _ _ _ h => h) (Or.inl ⟨by rfl, ?_⟩) ?_ ?_
                rotate_left
                ·intro w'
                 go_simp
                 with_reducible rfl
                rotate_left
                ·simp only [Act.put, List.setIfInBounds_toArray, List.set_cons_zero, List.set_cons_succ, i64_w, i32_w]
                 rfl
                refine pure_ (i := 5) (N := some 72) (v := ?_) (a' := ?_) #[true, true, false, false, false, true, false, false, false, false] rfl rfl (zan HT_.out (by kernel_rfl)) (fun _ _ _ h => h) (Or.inl ⟨by rfl, ?_⟩) ?_ ?_
                rotate_left
                ·intro w'
                 go_simp
                 with_reducible rfl
                rotate_left
                ·simp only [Act.put, List.setIfInBounds_toArray, List.set_cons_zero, List.set_cons_succ, i64_w, i32_w]
                 rfl
                refine take_ (i := 2) (N := some 69) (v := ?_) (a' := ?_) #[true, true, true, false, false, true, false, false, false, false] rfl rfl (zax HT_.out HW_.out (by kernel_rfl)) (fun _ _ _ h => h) (Or.inl ⟨by rfl, ?_⟩) hHeld ?_ ?_
                rotate_left
                ·rintro w' ⟨s0, s1, s2, s3⟩
                 go_simp
                 with_reducible rfl
                rotate_left
                ·simp only [Act.put, List.setIfInBounds_toArray, List.set_cons_zero, List.set_cons_succ, i64_w, i32_w]
                 rfl
                refine pure_ (i := 3) (N := some 70) (v := ?_) (a' := ?_) #[true, true, true, true, false, true, false, false, false, false] rfl rfl (zan HT_.out (by kernel_rfl)) (fun _ _ _ h => h) (Or.inl ⟨by rfl, ?_⟩) ?_ ?_
                rotate_left
                ·intro w'
                 go_simp
                 with_reducible rfl
                rotate_left
                ·simp only [Act.put, List.setIfInBounds_toArray, List.set_cons_zero, List.set_cons_succ, i64_w, i32_w]
                 rfl
                refine take_ (i := 4) (N := some 71) (v := ?_) (a' := ?_) #[true, true, true, true, true, true, false, false, false, false] rfl rfl (zax HT_.out HW_.out (by kernel_rfl)) (fun _ _ _ h => h) (Or.inl ⟨by rfl, ?_⟩) hHeld ?_ ?_
                rotate_left
                ·rintro w' ⟨s0, s1, s2, s3⟩
                 go_simp
                 with_reducible rfl
                rotate_left
                ·simp only [Act.put, List.setIfInBounds_toArray, List.set_cons_zero, List.set_cons_succ, i64_w, i32_w]
                 rfl
                refine take_ (i := 6) (N := some 73) (v := ?_) (a' := ?_) #[true, true, true, true, true, true, true, false, false, false] rfl rfl (zax HT_.out HW_.out (by kernel_rfl)) (fun _ _ _ h => h) (Or.inl ⟨by rfl, ?_⟩) hHeld ?_ ?_
                rotate_left
                ·rintro w' ⟨s0, s1, s2, s3⟩
                 go_simp
                 with_reducible rfl
                rotate_left
                ·simp only [Act.put, List.setIfInBounds_toArray, List.set_cons_zero, List.set_cons_succ, i64_w, i32_w]
                 rfl
                refine one_ (i := 7) (N := some 74) #[true, true, true, true, true, true, true, true, false, false] rfl rfl (one_of HT_.out (by kernel_rfl)) (by decide) (fun K hK => ?_)
                refine Kd.R_lit_step (Kd.int .i64) _ 3 ?hg (N := 74) ?hd (xs := ([(za9 l0_0 x34_2).f2] : List Int)) (inner := [.int .i64 ((za9 l0_0 x34_2).f2)]) (ok := fun _ => True) (okp := fun _ => True) ?hr ?hp (fun _ hk => hk) trivial (Below.refl _ _) (Nat.le_refl _) (by simp) ?_; (case hd => rfl); (case hg => rfl); (case hr => first | (go_simp; done) | (go_simp; rfl)); (case hp => exact (Reps.one (show Kd.M (Kd.int .i64) _ _ _ ((za9 l0_0 x34_2).f2) [.int .i64 ((za9 l0_0 x34_2).f2)] from rfl) (Reps.none _ _)))
                intro v356 w50 ho51 hb hg_ hnew_
                have HS3_ := (hb.cell (World.block_lt_of_cell? _ _ (hHeld.2.2.2))).trans (hHeld.2.2.2)
                clear hg_ hnew_
                (first | rw [← Ny355.out] at ho51 | (simp only [Int.reduceToNat] at ho51; rw [← Ny355.out] at ho51))
                have n0_ := Aside0.mk (Kd.N_elder' (by (with_reducible repeat (first | apply Kd.zb0 | apply Kd.zb1 | apply Kd.N_drew)); exact HO_4.out) (Kd.R_base ho51) hb)
                have n1_ := Aside0.mk (Kd.R_elder' (by (with_reducible repeat (first | apply Kd.zak | apply Kd.zaj | apply Kd.zam)); exact HO342.out) (Kd.R_base ho51) hb)
                have n2_ := Aside0.mk (Kd.V_elder' (by (with_reducible repeat (first | apply Kd.V_alloc | apply Kd.V_drewN | apply Kd.V_drew)); exact HL354_0.out) (Kd.R_base ho51) hb)
                have n3_ := Aside0.mk (Kd.R_lower (Kd.R_new' (Kd.R_newM (M := fun k_ => (w.heap.size ≤ k_)) ho51 (zaa (by repeat (first | (with_reducible first | exact HB.out | apply za2 | apply za0 | apply za1 | refine za3 ?_ GE0.out | refine za3 ?_ GE338.out) | exact HB.out))) (fun k_ h_ => h_)) (Kd.R_lt (by (with_reducible repeat (first | apply Kd.zak | apply Kd.zaj | apply Kd.zam)); exact HO342.out))) (zaa (by repeat (first | (with_reducible first | exact HB.out | apply za2 | apply za0 | apply za1 | refine za3 ?_ GE0.out | refine za3 ?_ GE338.out) | exact HB.out))))
                have n4_ := Aside0.mk (zad (g := g0) (o := .cells #[.slice (some ad337) l0_0.length c0_0, .int .i64 a0_1] 39 (0, 0)) (by (with_reducible repeat (first | refine za5 ?_ _ | refine za6 ?_ | refine za4 ?_ _)); exact BK0.out) hb)
                have n5_ := Aside0.mk (zad (g := gb338) (o := .cells #[.int .i64 ((za9 l0_0 x34_2).f0), .int .i64 ((za9 l0_0 x34_2).f1), .int .i64 ((za9 l0_0 x34_2).f2)] 69 (0, 0)) (by (with_reducible repeat (first | refine za5 ?_ _ | refine za6 ?_ | refine za4 ?_ _)); exact BK338.out) hb)
                have n6_ := Aside0.mk (Kd.zar (by repeat (first | (with_reducible exact HR354_0.out) | (with_reducible refine Kd.zav ?_ _) | (with_reducible refine Kd.zau ?_ _) | (with_reducible refine Kd.zaz ?_) | exact HR354_0.out)) hb)
                have n7_ := Aside0.mk (zac (by repeat (first | (with_reducible first | exact HB.out | apply za2 | apply za0 | apply za1 | refine za3 ?_ GE0.out | refine za3 ?_ GE338.out) | exact HB.out)) hb)
                clear HO_4
                clear HO342
                clear HL354_0
                clear BK0
                clear BK338
                clear HR354_0
                clear HB
                have HO_4 := n0_
                have HO342 := n1_
                have HL354_0 := n2_
                have HO357 := n3_
                have BK0 := n4_
                have BK338 := n5_
                have HR354_0 := n6_
                have HB := n7_
                clear n0_ n1_ n2_ n3_ n4_ n5_ n6_ n7_
                clear hb ho51
                obtain ⟨Ao52, co52, eo52⟩ := Kd.zas HO357.out
                (first | subst eo52 | (injection eo52 with f1_ f2_ f3_; have f4_ := f1_.symm; have f5_ := f3_.symm; clear f1_ f2_ f3_; subst f4_; subst f5_))
                refine hK.out _ _ ⟨(za8 BK338.out 0).trans rfl, (za8 BK338.out 1).trans rfl, (za8 BK338.out 2).trans rfl, HS3_⟩ (fun hHeld => ?_)
                clear hK K
                refine norm_ (a' := ?_) ?_ ?_
                rotate_left
                ·show Act.put _ (some 74) _ = _
                 simp only [Act.put, List.setIfInBounds_toArray, List.set_cons_zero, List.set_cons_succ, i64_w, i32_w]
                 rfl
                refine one_ (i := 8) (N := some 75) #[true, true, true, true, true, true, true, true, true, false] rfl rfl (one_of HT_.out (by kernel_rfl)) (by decide) (fun K hK => ?_)
                refine goes_ Try.func101 (by kernel_rfl) rfl #[.slice A354_0 (rd_L2 x4_2 ((za9 l0_0 x34_2).f1)).length c354_0, .slice Ao52 y355.length co52] (by rfl) rfl rfl (by (try simp only [List.map_toArray, List.map_cons, List.map_nil]); first | done | rfl | (simp only [List.length_drop, List.length_take]; rfl)) ?_
                with_reducible refine (impl_productOf.calls k2 _ _ (rd_L2 x4_2 ((za9 l0_0 x34_2).f1)) _ _ y355 t358 _ ?side1 ?side2 ?side3 ?side4 A47.out).mono ?_
                (case side1 => repeat (first | exact (by repeat (first | (with_reducible exact HR354_0.out) | (with_reducible refine Kd.zav ?_ _) | (with_reducible refine Kd.zau ?_ _) | (with_reducible refine Kd.zaz ?_) | exact HR354_0.out)) | (with_reducible refine Kd.zav ?_ _) | (with_reducible refine Kd.zau ?_ _) | (with_reducible refine Kd.zaz ?_)))
                (case side2 => exact HC354_0.out)
                (case side3 => repeat (first | exact (Kd.R_reads' HO357.out).2.2 | (with_reducible refine Kd.zav ?_ _) | (with_reducible refine Kd.zau ?_ _) | (with_reducible refine Kd.zaz ?_)))
                (case side4 => exact (Kd.R_reads' HO357.out).2.1)
                rintro e w53 ⟨v359, rfl, ho0, hb⟩
                have HS3_ := (hb.cell (World.block_lt_of_cell? _ _ (hHeld.2.2.2))).trans (hHeld.2.2.2)
                refine ⟨_, rfl, ?_⟩
                have n0_ := Aside0.mk (Kd.N_below (by (with_reducible repeat (first | apply Kd.zb0 | apply Kd.zb1 | apply Kd.N_drew)); exact HO_4.out) hb)
                have n1_ := Aside0.mk (Kd.zb2 (by (with_reducible repeat (first | apply Kd.zak | apply Kd.zaj | apply Kd.zam)); exact HO342.out) hb)
                have n2_ := Aside0.mk (Kd.V_below (by (with_reducible repeat (first | apply Kd.V_alloc | apply Kd.V_drewN | apply Kd.V_drew)); exact HL354_0.out) hb)
                have n3_ := Aside0.mk (Kd.zb2 (by (with_reducible repeat (first | apply Kd.zak | apply Kd.zaj | apply Kd.zam)); exact HO357.out) hb)
                have n4_ := Aside0.mk (Kd.V_lower (Kd.V_mono (ok' := fun k_ => (w.heap.size ≤ k_) ∧ some k_ ≠ (.slice (some ad354) x4_2.length co49 : Value).ownBlock ∧ some k_ ≠ (v341 : Value).ownBlock ∧ some k_ ≠ (.slice Ao52 y355.length co52 : Value).ownBlock ∧ k_ ≠ g0 ∧ k_ ≠ gb338) ho0 (fun k_ hk_ => ⟨(Nat.le_trans (zaa (by repeat (first | (with_reducible first | exact HB.out | apply za2 | apply za0 | apply za1 | refine za3 ?_ GE0.out | refine za3 ?_ GE338.out) | exact HB.out))) hk_), (Kd.fresh' (Kd.N_lt (by (with_reducible repeat (first | apply Kd.zb0 | apply Kd.zb1 | apply Kd.N_drew)); exact HO_4.out)) k_ hk_), (Kd.fresh' (Kd.R_lt (by (with_reducible repeat (first | apply Kd.zak | apply Kd.zaj | apply Kd.zam)); exact HO342.out)) k_ hk_), (Kd.fresh' (Kd.R_lt (by (with_reducible repeat (first | apply Kd.zak | apply Kd.zaj | apply Kd.zam)); exact HO357.out)) k_ hk_), (Kd.freshB (g := g0) (o := .cells #[.slice (some ad337) l0_0.length c0_0, .int .i64 a0_1] 39 (0, 0)) (by (with_reducible repeat (first | refine za5 ?_ _ | refine za6 ?_ | refine za4 ?_ _)); exact BK0.out) k_ hk_), (Kd.freshB (g := gb338) (o := .cells #[.int .i64 ((za9 l0_0 x34_2).f0), .int .i64 ((za9 l0_0 x34_2).f1), .int .i64 ((za9 l0_0 x34_2).f2)] 69 (0, 0)) (by (with_reducible repeat (first | refine za5 ?_ _ | refine za6 ?_ | refine za4 ?_ _)); exact BK338.out) k_ hk_)⟩)) (zaa (by repeat (first | (with_reducible first | exact HB.out | apply za2 | apply za0 | apply za1 | refine za3 ?_ GE0.out | refine za3 ?_ GE338.out) | exact HB.out))))
                have n5_ := Aside0.mk (zad (g := g0) (o := .cells #[.slice (some ad337) l0_0.length c0_0, .int .i64 a0_1] 39 (0, 0)) (by (with_reducible repeat (first | refine za5 ?_ _ | refine za6 ?_ | refine za4 ?_ _)); exact BK0.out) hb)
                have n6_ := Aside0.mk (zad (g := gb338) (o := .cells #[.int .i64 ((za9 l0_0 x34_2).f0), .int .i64 ((za9 l0_0 x34_2).f1), .int .i64 ((za9 l0_0 x34_2).f2)] 69 (0, 0)) (by (with_reducible repeat (first | refine za5 ?_ _ | refine za6 ?_ | refine za4 ?_ _)); exact BK338.out) hb)
                have n7_ := Aside0.mk (Kd.zar (by repeat (first | (with_reducible exact HR354_0.out) | (with_reducible refine Kd.zav ?_ _) | (with_reducible refine Kd.zau ?_ _) | (with_reducible refine Kd.zaz ?_) | exact HR354_0.out)) hb)
                have n8_ := Aside0.mk (zac (by repeat (first | (with_reducible first | exact HB.out | apply za2 | apply za0 | apply za1 | refine za3 ?_ GE0.out | refine za3 ?_ GE338.out) | exact HB.out)) hb)
                clear HO_4
                clear HO342
                clear HL354_0
                clear HO357
                clear BK0
                clear BK338
                clear HR354_0
                clear HB
                have HO_4 := n0_
                have HO342 := n1_
                have HL354_0 := n2_
                have HO357 := n3_
                have HO360 := n4_
                have BK0 := n5_
                have BK338 := n6_
                have HR354_0 := n7_
                have HB := n8_
                clear n0_ n1_ n2_ n3_ n4_ n5_ n6_ n7_ n8_
                (try clear hb)
                (try clear hb2)
                (try clear hk)
                (try clear hi)
                (try clear ho0)
                refine hK.out _ _ ⟨(za8 BK338.out 0).trans rfl, (za8 BK338.out 1).trans rfl, (za8 BK338.out 2).trans rfl, HS3_⟩ (fun hHeld => ?_)
                clear hK K
                refine norm_ (a' := ?_) ?_ ?_
                rotate_left
                ·show Act.put _ (some 75) _ = _
                 simp only [Act.put, List.setIfInBounds_toArray, List.set_cons_zero, List.set_cons_succ, i64_w, i32_w]
                 rfl
                refine pure_ (i := 9) (N := some 7) (v := ?_) (a' := ?_) #[true, true, true, true, true, true, true, true, true, true] rfl rfl (zan HT_.out (by kernel_rfl)) (fun _ _ _ h => h) (Or.inl ⟨by rfl, ?_⟩) ?_ ?_
                rotate_left
                ·intro w'
                 go_simp
                 with_reducible rfl
                rotate_left
                ·simp only [Act.put, List.setIfInBounds_toArray, List.set_cons_zero, List.set_cons_succ, i64_w, i32_w]
                 rfl
                refine done_ (done_of HT_.out (by kernel_rfl)) ?_
                try go_wp2
                go_meet
                case rel => exact ⟨_, (t358), H', ⟨by have := HJ1.out; have := HK2.out; first | omega | exact Nat.le_refl _⟩, ⟨by (with_reducible repeat (first | apply Kd.zb0 | apply Kd.zb1 | apply Kd.N_drew)); exact Kd.N_mono HO_4.out (fun _ hk => ⟨hk.1.1.1.1, ⟨hk.1.1.1.2, hk.1.1.2⟩⟩)⟩, ⟨by (with_reducible repeat (first | apply Kd.V_alloc | apply Kd.V_drewN | apply Kd.V_drew)); exact Kd.V_mono HO360.out (fun _ hk => ⟨hk.1, ⟨hk.2.1, ⟨hk.2.2.2.2.1, hk.2.2.2.2.2⟩⟩⟩)⟩, ⟨by (with_reducible repeat (first | refine za5 ?_ _ | refine za6 ?_ | refine za4 ?_ _)); exact BK0.out⟩, ⟨by (with_reducible repeat (first | refine za5 ?_ _ | refine za6 ?_ | refine za4 ?_ _)); exact BK338.out⟩, ⟨by repeat (first | (with_reducible first | exact HB.out | apply za2 | apply za0 | apply za1 | refine za3 ?_ GE0.out | refine za3 ?_ GE338.out) | exact HB.out)⟩⟩
               ·rw [if_neg c46] at H
                exact absurd H (by simp)
              ·rw [if_neg c45] at H
               exact absurd H (by simp)
             ·rw [if_neg c44] at H
              have c44b0 : (((za9 l0_0 x34_2).f0) == 2) = false := beq_eq_false_iff_ne.mpr c44
              have c44b1 : (((za9 l0_0 x34_2).f0) != 2) = true := bne_iff_ne.mpr c44
              by_cases c54 : ((za9 l0_0 x34_2).f0) = 3
              ·rw [if_pos c54] at H
               have c54b0 : (((za9 l0_0 x34_2).f0) == 3) = true := beq_iff_eq.mpr c54
               have c54b1 : (((za9 l0_0 x34_2).f0) != 3) = false := bne_eq_false_iff_eq.mpr c54
               clear c54
               by_cases c55 : 0 ≤ ((za9 l0_0 x34_2).f1)
               ·rw [if_pos c55] at H
                have c55b0 : decide (0 ≤ ((za9 l0_0 x34_2).f1)) = true := decide_eq_true c55
                clear c55
                by_cases c56 : ((za9 l0_0 x34_2).f1) < (x4_2.length : Int)
                ·rw [if_pos c56] at H
                 have c56b0 : decide (((za9 l0_0 x34_2).f1) < (x4_2.length : Int)) = true := decide_eq_true c56
                 clear c56
                 by_cases c57 : 0 ≤ ((za9 l0_0 x34_2).f2)
                 ·rw [if_pos c57] at H
                  have c57b0 : decide (0 ≤ ((za9 l0_0 x34_2).f2)) = true := decide_eq_true c57
                  clear c57
                  by_cases c58 : ((za9 l0_0 x34_2).f2) < (x4_2.length : Int)
                  ·rw [if_pos c58] at H
                   have c58b0 : decide (((za9 l0_0 x34_2).f2) < (x4_2.length : Int)) = true := decide_eq_true c58
                   clear c58
                   replace H := Option.bind_eq_some_iff.mp H
                   obtain ⟨t363, A590, H⟩ := H
                   replace H : (impl_Code_polynomials.j2 k2 x4_2 t363 l0_0 (l0_0.length : Int) x34_2) = some (r1, r2) := H
                   have A59 := Aside0.mk A590
                   clear A590
                   have H' := Aside0.mk H
                   clear H
                   try go_wp2
                   have n0_ := Aside0.mk (Kd.N_drew HO_4.out)
                   have n1_ := Aside0.mk (Kd.zam HO342.out)
                   have n2_ := Aside0.mk (za6 BK0.out)
                   have n3_ := Aside0.mk (za6 BK338.out)
                   have n4_ := Aside0.mk (za1 HB.out)
                   clear HO_4
                   clear HO342
                   clear BK0
                   clear BK338
                   clear HB
                   have HO_4 := n0_
                   have HO342 := n1_
                   have BK0 := n2_
                   have BK338 := n3_
                   have HB := n4_
                   clear n0_ n1_ n2_ n3_ n4_
                   obtain ⟨Ao61, co61, eo61⟩ := Kd.N_slice HO_4.out
                   (first | subst eo61 | (injection eo61 with f1_ f2_ f3_; have f4_ := f1_.symm; have f5_ := f3_.symm; clear f1_ f2_ f3_; subst f4_; subst f5_))
                   have p361 : 0 ≤ (((za9 l0_0 x34_2).f1) : Int) := of_decide_eq_true (by first | (with_reducible assumption) | assumption)
                   have q361 : ((za9 l0_0 x34_2).f1) < (x4_2.length : Int) := of_decide_eq_true (by first | (with_reducible assumption) | assumption)
                   obtain ⟨ad361, A361_0, c361_0, e361, hx361_0, hl361_0, hi361_0⟩ := at_L2 (Kd.N_reads' HO_4.out).2.2 ((za9 l0_0 x34_2).f1) p361 q361
                   cases e361
                   obtain ⟨ce361, hce361, hMe361, hcc361⟩ := Kd.N_get HO_4.out [] ((za9 l0_0 x34_2).f1) p361 (by first | exact q361 | exact of_decide_eq_true (by first | (with_reducible assumption) | assumption) | (have e_ := (Kd.N_reads' HO_4.out).1; omega))
                   obtain ⟨ua361_0, uc361_0, rfl, ul361_0, ge361_0⟩ := Kd.FK_slice_open hMe361
                   have hv361_0 := hcc361 0 _ rfl
                   rw [Nat.add_zero, show ((Kd.slice 3 (Kd.int .i64))).sz = 1 from rfl, Nat.mul_one] at hv361_0
                   replace hv361_0 := Option.some.inj (hv361_0.symm.trans hx361_0)
                   injection hv361_0 with hva_ hvn_ hvc_
                   rw [hva_] at ge361_0
                   rw [hvc_] at ul361_0
                   have HL361_0 := Aside0.mk (show Kd.V (Kd.int .i64) 3 _ w.heap.size _ _ (rd_L2 x4_2 ((za9 l0_0 x34_2).f1)) from Kd.V_mk ul361_0 ge361_0)
                   clear hva_ hvn_ hvc_ ge361_0 ul361_0
                   clear hcc361 hce361
                   have HR361_0 := Aside0.mk hi361_0
                   have HC361_0 := Aside0.mk hl361_0
                   clear hi361_0 hl361_0
                   replace p361 := eq_true p361
                   replace q361 := eq_true q361
                   have p362 : 0 ≤ (((za9 l0_0 x34_2).f2) : Int) := of_decide_eq_true (by first | (with_reducible assumption) | assumption)
                   have q362 : ((za9 l0_0 x34_2).f2) < (x4_2.length : Int) := of_decide_eq_true (by first | (with_reducible assumption) | assumption)
                   obtain ⟨ad362, A362_0, c362_0, e362, hx362_0, hl362_0, hi362_0⟩ := at_L2 (Kd.N_reads' HO_4.out).2.2 ((za9 l0_0 x34_2).f2) p362 q362
                   obtain rfl : ad361 = ad362 := (by injection e362)
                   obtain ⟨ce362, hce362, hMe362, hcc362⟩ := Kd.N_get HO_4.out [] ((za9 l0_0 x34_2).f2) p362 (by first | exact q362 | exact of_decide_eq_true (by first | (with_reducible assumption) | assumption) | (have e_ := (Kd.N_reads' HO_4.out).1; omega))
                   obtain ⟨ua362_0, uc362_0, rfl, ul362_0, ge362_0⟩ := Kd.FK_slice_open hMe362
                   have hv362_0 := hcc362 0 _ rfl
                   rw [Nat.add_zero, show ((Kd.slice 3 (Kd.int .i64))).sz = 1 from rfl, Nat.mul_one] at hv362_0
                   replace hv362_0 := Option.some.inj (hv362_0.symm.trans hx362_0)
                   injection hv362_0 with hva_ hvn_ hvc_
                   rw [hva_] at ge362_0
                   rw [hvc_] at ul362_0
                   have HL362_0 := Aside0.mk (show Kd.V (Kd.int .i64) 3 _ w.heap.size _ _ (rd_L2 x4_2 ((za9 l0_0 x34_2).f2)) from Kd.V_mk ul362_0 ge362_0)
                   clear hva_ hvn_ hvc_ ge362_0 ul362_0
                   clear hcc362 hce362
                   have HR362_0 := Aside0.mk hi362_0
                   have HC362_0 := Aside0.mk hl362_0
                   clear hi362_0 hl362_0
                   replace p362 := eq_true p362
                   replace q362 := eq_true q362
                   refine start_ (n := 12) (S := fun w' => w'.cell? ⟨gb338, 0, none⟩ = some (.int .i64 ((za9 l0_0 x34_2).f0)) ∧ w'.cell? ⟨gb338, 1, none⟩ = some (.int .i64 ((za9 l0_0 x34_2).f1)) ∧ w'.cell? ⟨gb338, 2, none⟩ = some (.int .i64 ((za9 l0_0 x34_2).f2)) ∧ w'.cell? (ad361.add (((za9 l0_0 x34_2).f1)).toNat) = some (.slice A361_0 (rd_L2 x4_2 ((za9 l0_0 x34_2).f1)).length c361_0) ∧ w'.cell? (ad361.add (((za9 l0_0 x34_2).f2)).toNat) = some (.slice A362_0 (rd_L2 x4_2 ((za9 l0_0 x34_2).f2)).length c362_0)) (ds := []) #[false, false, false, false, false, false, false, false, false, false, false, false] (by kernel_rfl) rfl rfl ⟨(za8 BK338.out 0).trans rfl, (za8 BK338.out 1).trans rfl, (za8 BK338.out 2).trans rfl, hx361_0, hx362_0⟩ (fun hHeld => ?_); refine with_tabW impl_Code_polynomials.tab18 impl_Code_polynomials.bits18 (fun HT_ HW_ => ?_)
                   generalize w24.drew = w60 at HO_4 HO342 BK0 BK338 HB HL361_0 HL362_0 HR361_0 HR362_0 hx361_0 hx362_0 hHeld ⊢
                   refine pure_ (i := 0) (N := some 78) (v := ?_) (a' := ?_) #[true, false, false, false, false, false, false, false, false, false, false, false] rfl rfl (zan HT_.out (by kernel_rfl)) (fun _ _ _ h => h) (Or.inl ⟨by rfl, ?_⟩) ?_ ?_
                   rotate_left
                   ·intro w'
                    go_simp
                    with_reducible rfl
                   rotate_left
                   ·simp only [Act.put, List.setIfInBounds_toArray, List.set_cons_zero, List.set_cons_succ, i64_w, i32_w]
                    rfl
                   refine pure_ (i := 1) (N := some 79) (v := ?_) (a' := ?_) #[true, true, false, false, false, false, false, false, false, false, false, false] rfl rfl (zan HT_.out (by kernel_rfl)) (fun _ _ _ h => h) (Or.inl ⟨by rfl, ?_⟩) ?_ ?_
                   rotate_left
                   ·intro w'
                    go_simp
                    with_reducible rfl
                   rotate_left
                   ·simp only [Act.put, List.setIfInBounds_toArray, List.set_cons_zero, List.set_cons_succ, i64_w, i32_w]
                    rfl
                   refine pure_ (i := 5) (N := some 83) (v := ?_) (a' := ?_) #[true, true, false, false, false, true, false, false, false, false, false, false] rfl rfl (zan HT_.out (by kernel_rfl)) (fun _ _ _ h => h) (Or.inl ⟨by rfl, ?_⟩) ?_ ?_
                   rotate_left
                   ·intro w'
                    go_simp
                    with_reducible rfl
                   rotate_left
                   ·simp only [Act.put, List.setIfInBounds_toArray, List.set_cons_zero, List.set_cons_succ, i64_w, i32_w]
                    rfl
                   refine pure_ (i := 6) (N := some 84) (v := ?_) (a' := ?_) #[true, true, false, false, false, true, true, false, false, false, false, false] rfl rfl (zan HT_.out (by kernel_rfl)) (fun _ _ _ h => h) (Or.inl ⟨by rfl, ?_⟩) ?_ ?_
                   rotate_left
                   ·intro w'
                    go_simp
                    with_reducible rfl
                   rotate_left
                   ·simp only [Act.put, List.setIfInBounds_toArray, List.set_cons_zero, List.set_cons_succ, i64_w, i32_w]
                    rfl
                   refine take_ (i := 2) (N := some 80) (v := ?_) (a' := ?_) #[true, true, true, false, false, true, true, false, false, false, false, false] rfl rfl (zax HT_.out HW_.out (by kernel_rfl)) (fun _ _ _ h => h) (Or.inl ⟨by rfl, ?_⟩) hHeld ?_ ?_
                   rotate_left
                   ·rintro w' ⟨s0, s1, s2, s3, s4⟩
                    go_simp
                    with_reducible rfl
                   rotate_left
                   ·simp only [Act.put, List.setIfInBounds_toArray, List.set_cons_zero, List.set_cons_succ, i64_w, i32_w]
                    rfl
                   refine pure_ (i := 3) (N := some 81) (v := ?_) (a' := ?_) #[true, true, true, true, false, true, true, false, false, false, false, false] rfl rfl (zan HT_.out (by kernel_rfl)) (fun _ _ _ h => h) (Or.inl ⟨by rfl, ?_⟩) ?_ ?_
                   rotate_left
                   ·intro w'
                    go_simp
                    with_reducible rfl
                   rotate_left
                   ·simp only [Act.put, List.setIfInBounds_toArray, List.set_cons_zero, List.set_cons_succ, i64_w, i32_w]
                    rfl
                   refine take_ (i := 4) (N := some 82) (v := ?_) (a' := ?_) #[true, true, true, true, true, true, true, false, false, false, false, false] rfl rfl (zax HT_.out HW_.out (by kernel_rfl)) (fun _ _ _ h => h) (Or.inl ⟨by rfl, ?_⟩) hHeld ?_ ?_
                   rotate_left
                   ·rintro w' ⟨s0, s1, s2, s3, s4⟩
                    go_simp
                    with_reducible rfl
                   rotate_left
                   ·simp only [Act.put, List.setIfInBounds_toArray, List.set_cons_zero, List.set_cons_succ, i64_w, i32_w]
                    rfl
                   refine take_ (i := 7) (N := some 85) (v := ?_) (a' := ?_) #[true, true, true, true, true, true, true, true, false, false, false, false] rfl rfl (zax HT_.out HW_.out (by kernel_rfl)) (fun _ _ _ h => h) (Or.inl ⟨by rfl, ?_⟩) hHeld ?_ ?_
                   rotate_left
                   ·rintro w' ⟨s0, s1, s2, s3, s4⟩
                    go_simp
                    with_reducible rfl
                   rotate_left
                   ·simp only [Act.put, List.setIfInBounds_toArray, List.set_cons_zero, List.set_cons_succ, i64_w, i32_w]
                    rfl
                   refine pure_ (i := 8) (N := some 86) (v := ?_) (a' := ?_) #[true, true, true, true, true, true, true, true, true, false, false, false] rfl rfl (zan HT_.out (by kernel_rfl)) (fun _ _ _ h => h) (Or.inl ⟨by rfl, ?_⟩) ?_ ?_
                   rotate_left
                   ·intro w'
                    go_simp
                    with_reducible rfl
                   rotate_left
                   ·simp only [Act.put, List.setIfInBounds_toArray, List.set_cons_zero, List.set_cons_succ, i64_w, i32_w]
                    rfl
                   refine take_ (i := 9) (N := some 87) (v := ?_) (a' := ?_) #[true, true, true, true, true, true, true, true, true, true, false, false] rfl rfl (zax HT_.out HW_.out (by kernel_rfl)) (fun _ _ _ h => h) (Or.inl ⟨by rfl, ?_⟩) hHeld ?_ ?_
                   rotate_left
                   ·rintro w' ⟨s0, s1, s2, s3, s4⟩
                    go_simp
                    with_reducible rfl
                   rotate_left
                   ·simp only [Act.put, List.setIfInBounds_toArray, List.set_cons_zero, List.set_cons_succ, i64_w, i32_w]
                    rfl
                   refine one_ (i := 10) (N := some 88) #[true, true, true, true, true, true, true, true, true, true, true, false] rfl rfl (one_of HT_.out (by kernel_rfl)) (by decide) (fun K hK => ?_)
                   refine goes_ Try.func101 (by kernel_rfl) rfl #[.slice A361_0 (rd_L2 x4_2 ((za9 l0_0 x34_2).f1)).length c361_0, .slice A362_0 (rd_L2 x4_2 ((za9 l0_0 x34_2).f2)).length c362_0] (by rfl) rfl rfl (by (try simp only [List.map_toArray, List.map_cons, List.map_nil]); first | done | rfl | (simp only [List.length_drop, List.length_take]; rfl)) ?_
                   with_reducible refine (impl_productOf.calls k2 _ _ (rd_L2 x4_2 ((za9 l0_0 x34_2).f1)) _ _ (rd_L2 x4_2 ((za9 l0_0 x34_2).f2)) t363 _ ?side1 ?side2 ?side3 ?side4 A59.out).mono ?_
                   (case side1 => repeat (first | exact (by repeat (first | (with_reducible exact HR361_0.out) | (with_reducible refine Kd.zav ?_ _) | (with_reducible refine Kd.zau ?_ _) | (with_reducible refine Kd.zaz ?_) | exact HR361_0.out)) | (with_reducible refine Kd.zav ?_ _) | (with_reducible refine Kd.zau ?_ _) | (with_reducible refine Kd.zaz ?_)))
                   (case side2 => exact HC361_0.out)
                   (case side3 => repeat (first | exact (by repeat (first | (with_reducible exact HR362_0.out) | (with_reducible refine Kd.zav ?_ _) | (with_reducible refine Kd.zau ?_ _) | (with_reducible refine Kd.zaz ?_) | exact HR362_0.out)) | (with_reducible refine Kd.zav ?_ _) | (with_reducible refine Kd.zau ?_ _) | (with_reducible refine Kd.zaz ?_)))
                   (case side4 => exact HC362_0.out)
                   rintro e w62 ⟨v364, rfl, ho0, hb⟩
                   have HS3_ := (hb.cell (World.block_lt_of_cell? _ _ (hHeld.2.2.2.1))).trans (hHeld.2.2.2.1)
                   have HS4_ := (hb.cell (World.block_lt_of_cell? _ _ (hHeld.2.2.2.2))).trans (hHeld.2.2.2.2)
                   refine ⟨_, rfl, ?_⟩
                   have n0_ := Aside0.mk (Kd.N_below (by (with_reducible repeat (first | apply Kd.zb0 | apply Kd.zb1 | apply Kd.N_drew)); exact HO_4.out) hb)
                   have n1_ := Aside0.mk (Kd.zb2 (by (with_reducible repeat (first | apply Kd.zak | apply Kd.zaj | apply Kd.zam)); exact HO342.out) hb)
                   have n2_ := Aside0.mk (Kd.V_below (by (with_reducible repeat (first | apply Kd.V_alloc | apply Kd.V_drewN | apply Kd.V_drew)); exact HL361_0.out) hb)
                   have n3_ := Aside0.mk (Kd.V_below (by (with_reducible repeat (first | apply Kd.V_alloc | apply Kd.V_drewN | apply Kd.V_drew)); exact HL362_0.out) hb)
                   have n4_ := Aside0.mk (Kd.V_lower (Kd.V_mono (ok' := fun k_ => (w.heap.size ≤ k_) ∧ some k_ ≠ (.slice (some ad361) x4_2.length co61 : Value).ownBlock ∧ some k_ ≠ (v341 : Value).ownBlock ∧ k_ ≠ g0 ∧ k_ ≠ gb338) ho0 (fun k_ hk_ => ⟨(Nat.le_trans (zaa (by repeat (first | (with_reducible first | exact HB.out | apply za2 | apply za0 | apply za1 | refine za3 ?_ GE0.out | refine za3 ?_ GE338.out) | exact HB.out))) hk_), (Kd.fresh' (Kd.N_lt (by (with_reducible repeat (first | apply Kd.zb0 | apply Kd.zb1 | apply Kd.N_drew)); exact HO_4.out)) k_ hk_), (Kd.fresh' (Kd.R_lt (by (with_reducible repeat (first | apply Kd.zak | apply Kd.zaj | apply Kd.zam)); exact HO342.out)) k_ hk_), (Kd.freshB (g := g0) (o := .cells #[.slice (some ad337) l0_0.length c0_0, .int .i64 a0_1] 39 (0, 0)) (by (with_reducible repeat (first | refine za5 ?_ _ | refine za6 ?_ | refine za4 ?_ _)); exact BK0.out) k_ hk_), (Kd.freshB (g := gb338) (o := .cells #[.int .i64 ((za9 l0_0 x34_2).f0), .int .i64 ((za9 l0_0 x34_2).f1), .int .i64 ((za9 l0_0 x34_2).f2)] 69 (0, 0)) (by (with_reducible repeat (first | refine za5 ?_ _ | refine za6 ?_ | refine za4 ?_ _)); exact BK338.out) k_ hk_)⟩)) (zaa (by repeat (first | (with_reducible first | exact HB.out | apply za2 | apply za0 | apply za1 | refine za3 ?_ GE0.out | refine za3 ?_ GE338.out) | exact HB.out))))
                   have n5_ := Aside0.mk (zad (g := g0) (o := .cells #[.slice (some ad337) l0_0.length c0_0, .int .i64 a0_1] 39 (0, 0)) (by (with_reducible repeat (first | refine za5 ?_ _ | refine za6 ?_ | refine za4 ?_ _)); exact BK0.out) hb)
                   have n6_ := Aside0.mk (zad (g := gb338) (o := .cells #[.int .i64 ((za9 l0_0 x34_2).f0), .int .i64 ((za9 l0_0 x34_2).f1), .int .i64 ((za9 l0_0 x34_2).f2)] 69 (0, 0)) (by (with_reducible repeat (first | refine za5 ?_ _ | refine za6 ?_ | refine za4 ?_ _)); exact BK338.out) hb)
                   have n7_ := Aside0.mk (Kd.zar (by repeat (first | (with_reducible exact HR361_0.out) | (with_reducible refine Kd.zav ?_ _) | (with_reducible refine Kd.zau ?_ _) | (with_reducible refine Kd.zaz ?_) | exact HR361_0.out)) hb)
                   have n8_ := Aside0.mk (Kd.zar (by repeat (first | (with_reducible exact HR362_0.out) | (with_reducible refine Kd.zav ?_ _) | (with_reducible refine Kd.zau ?_ _) | (with_reducible refine Kd.zaz ?_) | exact HR362_0.out)) hb)
                   have n9_ := Aside0.mk (zac (by repeat (first | (with_reducible first | exact HB.out | apply za2 | apply za0 | apply za1 | refine za3 ?_ GE0.out | refine za3 ?_ GE338.out) | exact HB.out)) hb)
                   clear HO_4
                   clear HO342
                   clear HL361_0
                   clear HL362_0
                   clear BK0
                   clear BK338
                   clear HR361_0
                   clear HR362_0
                   clear HB
                   have HO_4 := n0_
                   have HO342 := n1_
                   have HL361_0 := n2_
                   have HL362_0 := n3_
                   have HO365 := n4_
                   have BK0 := n5_
                   have BK338 := n6_
                   have HR361_0 := n7_
                   have HR362_0 := n8_
                   have HB := n9_
                   clear n0_ n1_ n2_ n3_ n4_ n5_ n6_ n7_ n8_ n9_
                   (try clear hb)
                   (try clear hb2)
                   (try clear hk)
                   (try clear hi)
                   (try clear ho0)
                   refine hK.out _ _ ⟨(za8 BK338.out 0).trans rfl, (za8 BK338.out 1).trans rfl, (za8 BK338.out 2).trans rfl, HS3_, HS4_⟩ (fun hHeld => ?_)
                   clear hK K
                   refine norm_ (a' := ?_) ?_ ?_
                   rotate_left
                   ·show Act.put _ (some 88) _ = _
                    simp only [Act.put, List.setIfInBounds_toArray, List.set_cons_zero, List.set_cons_succ, i64_w, i32_w]
                    rfl
                   refine pure_ (i := 11) (N := some 7) (v := ?_) (a' := ?_) #[true, true, true, true, true, true, true, true, true, true, true, true] rfl rfl (zan HT_.out (by kernel_rfl)) (fun _ _ _ h => h) (Or.inl ⟨by rfl, ?_⟩) ?_ ?_
                   rotate_left
                   ·intro w'
                    go_simp
                    with_reducible rfl
                   rotate_left
                   ·simp only [Act.put, List.setIfInBounds_toArray, List.set_cons_zero, List.set_cons_succ, i64_w, i32_w]
                    rfl
                   refine done_ (done_of HT_.out (by kernel_rfl)) ?_
                   try go_wp2
                   go_meet
                   case rel => exact ⟨_, (t363), H', ⟨by have := HJ1.out; have := HK2.out; first | omega | exact Nat.le_refl _⟩, ⟨by (with_reducible repeat (first | apply Kd.zb0 | apply Kd.zb1 | apply Kd.N_drew)); exact Kd.N_mono HO_4.out (fun _ hk => ⟨hk.1.1.1, ⟨hk.1.1.2, hk.1.2⟩⟩)⟩, ⟨by (with_reducible repeat (first | apply Kd.V_alloc | apply Kd.V_drewN | apply Kd.V_drew)); exact Kd.V_mono HO365.out (fun _ hk => ⟨hk.1, ⟨hk.2.1, ⟨hk.2.2.2.1, hk.2.2.2.2⟩⟩⟩)⟩, ⟨by (with_reducible repeat (first | refine za5 ?_ _ | refine za6 ?_ | refine za4 ?_ _)); exact BK0.out⟩, ⟨by (with_reducible repeat (first | refine za5 ?_ _ | refine za6 ?_ | refine za4 ?_ _)); exact BK338.out⟩, ⟨by repeat (first | (with_reducible first | exact HB.out | apply za2 | apply za0 | apply za1 | refine za3 ?_ GE0.out | refine za3 ?_ GE338.out) | exact HB.out)⟩⟩
                  ·rw [if_neg c58] at H
                   exact absurd H (by simp)
                 ·rw [if_neg c57] at H
                  exact absurd H (by simp)
                ·rw [if_neg c56] at H
                 exact absurd H (by simp)
               ·rw [if_neg c55] at H
                exact absurd H (by simp)
              ·rw [if_neg c54] at H
               have c54b0 : (((za9 l0_0 x34_2).f0) == 3) = false := beq_eq_false_iff_ne.mpr c54
               have c54b1 : (((za9 l0_0 x34_2).f0) != 3) = true := bne_iff_ne.mpr c54
               have H' := Aside0.mk H
               clear H
               go_wp2
               go_meet
               case rel => exact ⟨_, (y340), H', ⟨by have := HJ1.out; have := HK2.out; first | omega | exact Nat.le_refl _⟩, ⟨by (with_reducible repeat (first | apply Kd.zb0 | apply Kd.zb1 | apply Kd.N_drew)); exact Kd.N_mono HO_4.out (fun _ hk => ⟨hk.1.1.1, ⟨hk.1.1.2, hk.1.2⟩⟩)⟩, ⟨Kd.R_V (by (with_reducible repeat (first | apply Kd.zak | apply Kd.zaj | apply Kd.zam)); exact Kd.R_mono (Kd.R_types (Kd.R_types (Kd.R_apart' HO342.out (Kd.N_typed HO_4.out) (by decide)) BK0.out (by decide)) BK338.out (by decide)) (fun _ hk => ⟨hk.1.1.1.1, ⟨hk.1.1.2, ⟨hk.1.2, hk.2⟩⟩⟩))⟩, ⟨by (with_reducible repeat (first | refine za5 ?_ _ | refine za6 ?_ | refine za4 ?_ _)); exact BK0.out⟩, ⟨by (with_reducible repeat (first | refine za5 ?_ _ | refine za6 ?_ | refine za4 ?_ _)); exact BK338.out⟩, ⟨by repeat (first | (with_reducible first | exact HB.out | apply za2 | apply za0 | apply za1 | refine za3 ?_ GE0.out | refine za3 ?_ GE338.out) | exact HB.out)⟩⟩
          case rest =>
           clear HC19
           try clear c1
           try clear p2
           try clear c3
           try clear p3
           try clear q3
           try clear hx3
           try clear c4
           try clear c5
           try clear c10
           try clear c34
           try clear c35
           try clear c35b0
           try clear c35b1
           try clear p35
           try clear q35
           try clear hx35
           try clear c36
           try clear p36
           try clear q36
           try clear hx36
           try clear c37
           try clear c38
           try clear c39
           try clear c44
           try clear c44b0
           try clear c44b1
           try clear c45
           try clear c45b0
           try clear c46
           try clear c46b0
           try clear c54
           try clear c54b0
           try clear c54b1
           try clear c55
           try clear c55b0
           try clear c56
           try clear c56b0
           try clear c57
           try clear c57b0
           try clear c58
           try clear c58b0
           try clear hx354_0
           try clear hx361_0
           try clear hx362_0
           try clear p354
           try clear p361
           try clear p362
           try clear q354
           try clear q361
           try clear q362
           obtain ⟨kq, x7_18, HA, HJ18, HO_4, HO_7, BK0, BK338, HB⟩ := hcut
           cases kq with
           | zero => exact absurd HA.out (by simp [impl_Code_polynomials.j2])
           | succ kj18 =>
            have H := HA.out
            clear HA
            simp only [impl_Code_polynomials.j2] at H
            replace H := Option.bind_eq_some_iff.mp H
            obtain ⟨t366, A630, H⟩ := H
            replace H : (if t366 = true then (if x4_2.length < 5864062014805 then (impl_Code_polynomials.l0 kj18 (x4_2 ++ [x7_18]) l0_0 (l0_0.length : Int) (wrap64 (x34_2 + 1))) else (none)) else (some (([] : List (List Int)), false))) = some (r1, r2) := H
            have A63 := Aside0.mk A630
            clear A630
            by_cases c64 : t366 = true
            ·subst c64
             have H1 : (if x4_2.length < 5864062014805 then (impl_Code_polynomials.l0 kj18 (x4_2 ++ [x7_18]) l0_0 (l0_0.length : Int) (wrap64 (x34_2 + 1))) else (none)) = some (r1, r2) := by rw [if_pos rfl] at H; exact H
             clear H
             have H := H1
             clear H1
             by_cases c65 : x4_2.length < 5864062014805
             ·rw [if_pos c65] at H
              have LMc65 := Aside0.mk c65
              clear c65
              obtain ⟨y367, hy367⟩ : ∃ y_ : List (List Int), y_ = (x4_2 ++ [x7_18]) := ⟨_, rfl⟩
              replace H : (impl_Code_polynomials.l0 kj18 y367 l0_0 (l0_0.length : Int) (wrap64 (x34_2 + 1))) = some (r1, r2) := by first | (rw [hy367]; with_reducible exact H) | (have H2_ := (Option.bind_some _ _).symm.trans H; rw [hy367]; with_reducible exact H2_) | (have H2_ := (Option.bind_some _ _).symm.trans H; with_reducible exact H2_) | with_reducible exact H | (rw [hy367]; exact H) | exact H
              have Ny367 := Aside0.mk hy367
              clear hy367
              have H' := Aside0.mk H
              clear H
              obtain ⟨Ao66, co66, eo66⟩ := Kd.V_slice HO_7.out
              subst eo66
              go_wp2_with (first | ((with_reducible refine zal (f := 92) rfl ?_); refine goesL_ (some 90) rfl rfl Try.func92 (by kernel_rfl) rfl #[.slice Ao66 x7_18.length co66] rfl (by (try simp only [List.map_toArray, List.map_cons, List.map_nil]); first | done | rfl | (simp only [List.length_drop, List.length_take]; rfl)) ?_; (with_reducible refine (impl_polynomialOk.calls _ _ x7_18 true _ ?side1 ?side2 A63.out).mono ?_); (case side1 => repeat (first | exact (Kd.V_reads' HO_7.out).2.2 | (with_reducible refine Kd.zav ?_ _) | (with_reducible refine Kd.zau ?_ _) | (with_reducible refine Kd.zaz ?_))); (case side2 => exact (Kd.V_reads' HO_7.out).2.1); rintro e w67 ⟨rfl, hb⟩; refine ⟨_, rfl, ?_⟩; have n0_ := Aside0.mk (Kd.N_below (by (with_reducible repeat (first | apply Kd.zb0 | apply Kd.zb1 | apply Kd.N_drew)); exact HO_4.out) hb); have n1_ := Aside0.mk (Kd.V_below (by (with_reducible repeat (first | apply Kd.V_alloc | apply Kd.V_drewN | apply Kd.V_drew)); exact HO_7.out) hb); have n2_ := Aside0.mk (zad (g := g0) (o := .cells #[.slice (some ad337) l0_0.length c0_0, .int .i64 a0_1] 39 (0, 0)) (by (with_reducible repeat (first | refine za5 ?_ _ | refine za6 ?_ | refine za4 ?_ _)); exact BK0.out) hb); have n3_ := Aside0.mk (zad (g := gb338) (o := .cells #[.int .i64 ((za9 l0_0 x34_2).f0), .int .i64 ((za9 l0_0 x34_2).f1), .int .i64 ((za9 l0_0 x34_2).f2)] 69 (0, 0)) (by (with_reducible repeat (first | refine za5 ?_ _ | refine za6 ?_ | refine za4 ?_ _)); exact BK338.out) hb); have n4_ := Aside0.mk (zac (by repeat (first | (with_reducible first | exact HB.out | apply za2 | apply za0 | apply za1 | refine za3 ?_ GE0.out | refine za3 ?_ GE338.out) | exact HB.out)) hb); clear HO_4; clear HO_7; clear BK0; clear BK338; clear HB; have HO_4 := n0_; have HO_7 := n1_; have BK0 := n2_; have BK338 := n3_; have HB := n4_; clear n0_ n1_ n2_ n3_ n4_; (try clear hb); (try clear hb2); (try clear hk); (try clear hi)) | ((with_reducible refine gate_builtin (b := .append) (xs := #[.tmp 92, .tmp 94]) rfl ?_); (try (refine gate_guard (by rfl) ?_; dsimp only)); at_builtin; refine Kd.N_append (Kd.slice 3 (Kd.int .i64)) (w0 := w) w.heap.size rfl (.tmp 92) (.tmp 94) 64 22 (.slice none 0 0) 24 rfl Try.underlying64 info22 rfl (by decide) (by omega) u4 x4_2 x7_18 [.slice Ao66 x7_18.length co66] (fun k_ => (w.heap.size ≤ k_) ∧ k_ ≠ g0 ∧ k_ ≠ gb338) (fun k_ => ((fun k_ => (w.heap.size ≤ k_) ∧ k_ ≠ g0 ∧ k_ ≠ gb338)) k_ ∧ some k_ ≠ (u4 : Value).ownBlock) rfl rfl ?aP (fun _ hk => hk) ?aF ?aO ?aB ?aS ?aL ?_; (case aP => exact (Kd.FK_slice_mk (Kd.V_reads' (Kd.V_mono (ok' := (fun k_ => ((fun k_ => (w.heap.size ≤ k_) ∧ k_ ≠ g0 ∧ k_ ≠ gb338)) k_ ∧ some k_ ≠ (u4 : Value).ownBlock)) (HO_7.out) (fun k_ hk => ⟨⟨hk.1, ⟨hk.2.2.1, hk.2.2.2⟩⟩, hk.2.1⟩))).2.1 (Kd.V_F (Kd.V_mono (ok' := (fun k_ => ((fun k_ => (w.heap.size ≤ k_) ∧ k_ ≠ g0 ∧ k_ ≠ gb338)) k_ ∧ some k_ ≠ (u4 : Value).ownBlock)) (HO_7.out) (fun k_ hk => ⟨⟨hk.1, ⟨hk.2.2.1, hk.2.2.2⟩⟩, hk.2.1⟩))))); (case aB => exact (by repeat (first | (with_reducible first | exact HB.out | apply za2 | apply za0 | apply za1 | refine za3 ?_ GE0.out | refine za3 ?_ GE338.out) | exact HB.out))); (case aF => exact (fun k_ hk => ⟨(Nat.le_trans (zaa (by repeat (first | (with_reducible first | exact HB.out | apply za2 | apply za0 | apply za1 | refine za3 ?_ GE0.out | refine za3 ?_ GE338.out) | exact HB.out))) hk), Kd.freshB (g := g0) (o := .cells #[.slice (some ad337) l0_0.length c0_0, .int .i64 a0_1] 39 (0, 0)) (by (with_reducible repeat (first | refine za5 ?_ _ | refine za6 ?_ | refine za4 ?_ _)); exact BK0.out) k_ hk, Kd.freshB (g := gb338) (o := .cells #[.int .i64 ((za9 l0_0 x34_2).f0), .int .i64 ((za9 l0_0 x34_2).f1), .int .i64 ((za9 l0_0 x34_2).f2)] 69 (0, 0)) (by (with_reducible repeat (first | refine za5 ?_ _ | refine za6 ?_ | refine za4 ?_ _)); exact BK338.out) k_ hk⟩)); (case aO => exact (by (with_reducible repeat (first | apply Kd.zb0 | apply Kd.zb1 | apply Kd.N_drew)); exact HO_4.out)); (case aS => exact (zaa (by repeat (first | (with_reducible first | exact HB.out | apply za2 | apply za0 | apply za1 | refine za3 ?_ GE0.out | refine za3 ?_ GE338.out) | exact HB.out)))); (case aL => have := LMc65.out; omega); intro v368 w68 ho hb hg hat; rw [← Ny367.out] at ho; have n0_ := Aside0.mk (Kd.V_afterv (ok := (fun k_ => (w.heap.size ≤ k_) ∧ k_ ≠ g0 ∧ k_ ≠ gb338)) (by (with_reducible repeat (first | apply Kd.V_alloc | apply Kd.V_drewN | apply Kd.V_drew)); exact Kd.V_mono HO_7.out (fun _ hk => ⟨⟨hk.1, ⟨hk.2.2.1, hk.2.2.2⟩⟩, hk.2.1⟩)) hg hat); have n1_ := Aside0.mk (blk_grown (g := g0) (o := .cells #[.slice (some ad337) l0_0.length c0_0, .int .i64 a0_1] 39 (0, 0)) (by (with_reducible repeat (first | refine za5 ?_ _ | refine za6 ?_ | refine za4 ?_ _)); exact BK0.out) hg (Kd.N_ne HO_4.out BK0.out (by decide))); have n2_ := Aside0.mk (blk_grown (g := gb338) (o := .cells #[.int .i64 ((za9 l0_0 x34_2).f0), .int .i64 ((za9 l0_0 x34_2).f1), .int .i64 ((za9 l0_0 x34_2).f2)] 69 (0, 0)) (by (with_reducible repeat (first | refine za5 ?_ _ | refine za6 ?_ | refine za4 ?_ _)); exact BK338.out) hg (Kd.N_ne HO_4.out BK338.out (by decide))); have n3_ := Aside0.mk (hb); have n4_ := Aside0.mk (ho); clear HO_7; clear BK0; clear BK338; clear HB; clear HO_4; have HO_7 := n0_; have BK0 := n1_; have BK338 := n2_; have HB := n3_; have HO369 := n4_; clear n0_ n1_ n2_ n3_ n4_; clear ho hb hg hat))
              go_roundg kj18
              case measure => have := HJ1.out; have := HK2.out; have := HJ18.out; omega
              case rel => exact ⟨(y367), (wrap64 (x34_2 + 1)), (by first | rfl | (simp; done) | (simp [*]; done)), H', ⟨by have := HJ1.out; have := HK2.out; have := HJ18.out; omega⟩, ⟨by (with_reducible repeat (first | apply Kd.zb0 | apply Kd.zb1 | apply Kd.N_drew)); exact Kd.N_mono HO369.out (fun _ hk => ⟨hk.1, hk.2.1⟩)⟩, ⟨by (with_reducible repeat (first | refine za5 ?_ _ | refine za6 ?_ | refine za4 ?_ _)); exact BK0.out⟩, ⟨by repeat (first | (with_reducible first | exact HB.out | apply za2 | apply za0 | apply za1 | refine za3 ?_ GE0.out | refine za3 ?_ GE338.out) | exact HB.out)⟩⟩
             ·rw [if_neg c65] at H
              exact absurd H (by simp)
            ·replace c64 := Bool.eq_false_iff.mpr c64
             subst c64
             have H1 : (some (([] : List (List Int)), false)) = some (r1, r2) := by rw [if_neg (show ¬ (false = true) by decide)] at H; exact H
             clear H
             have H := H1
             clear H1
             simp only [Option.some.injEq, Prod.mk.injEq] at H
             obtain ⟨rfl, rfl⟩ := H
             obtain ⟨Ao69, co69, eo69⟩ := Kd.V_slice HO_7.out
             subst eo69
             go_wp2_with (first | ((with_reducible refine zal (f := 92) rfl ?_); refine goesL_ (some 90) rfl rfl Try.func92 (by kernel_rfl) rfl #[.slice Ao69 x7_18.length co69] rfl (by (try simp only [List.map_toArray, List.map_cons, List.map_nil]); first | done | rfl | (simp only [List.length_drop, List.length_take]; rfl)) ?_; (with_reducible refine (impl_polynomialOk.calls _ _ x7_18 false _ ?side1 ?side2 A63.out).mono ?_); (case side1 => repeat (first | exact (Kd.V_reads' HO_7.out).2.2 | (with_reducible refine Kd.zav ?_ _) | (with_reducible refine Kd.zau ?_ _) | (with_reducible refine Kd.zaz ?_))); (case side2 => exact (Kd.V_reads' HO_7.out).2.1); rintro e w70 ⟨rfl, hb⟩; refine ⟨_, rfl, ?_⟩; have n0_ := Aside0.mk (Kd.N_below (by (with_reducible repeat (first | apply Kd.zb0 | apply Kd.zb1 | apply Kd.N_drew)); exact HO_4.out) hb); have n1_ := Aside0.mk (Kd.V_below (by (with_reducible repeat (first | apply Kd.V_alloc | apply Kd.V_drewN | apply Kd.V_drew)); exact HO_7.out) hb); have n2_ := Aside0.mk (zad (g := g0) (o := .cells #[.slice (some ad337) l0_0.length c0_0, .int .i64 a0_1] 39 (0, 0)) (by (with_reducible repeat (first | refine za5 ?_ _ | refine za6 ?_ | refine za4 ?_ _)); exact BK0.out) hb); have n3_ := Aside0.mk (zad (g := gb338) (o := .cells #[.int .i64 ((za9 l0_0 x34_2).f0), .int .i64 ((za9 l0_0 x34_2).f1), .int .i64 ((za9 l0_0 x34_2).f2)] 69 (0, 0)) (by (with_reducible repeat (first | refine za5 ?_ _ | refine za6 ?_ | refine za4 ?_ _)); exact BK338.out) hb); have n4_ := Aside0.mk (zac (by repeat (first | (with_reducible first | exact HB.out | apply za2 | apply za0 | apply za1 | refine za3 ?_ GE0.out | refine za3 ?_ GE338.out) | exact HB.out)) hb); clear HO_4; clear HO_7; clear BK0; clear BK338; clear HB; have HO_4 := n0_; have HO_7 := n1_; have BK0 := n2_; have BK338 := n3_; have HB := n4_; clear n0_ n1_ n2_ n3_ n4_; (try clear hb); (try clear hb2); (try clear hk); (try clear hi)))
             go_ret2
             exact ⟨_, by first | rfl | (simp [zaf, zae] <;> rfl) | (simp [*, zaf, zae] <;> rfl), by first | exact Kd.S_nil _ _ _ _ _ | exact Kd.N_nil _ _ _ _ _ | exact Kd.V_nil _ _ _ _ _ | exact Kd.Q_nil _ _ _ _ _ | exact Kd.R_nil _ _ _ _ _, by repeat (first | (with_reducible first | exact HB.out | apply za2 | apply za0 | apply za1 | refine za3 ?_ GE0.out | refine za3 ?_ GE338.out) | exact HB.out)⟩
         ·replace c18 := Bool.eq_false_iff.mpr c18
          subst c18
          have H1 : (some (([] : List (List Int)), false)) = some (r1, r2) := by rw [if_neg (show ¬ (false = true) by decide)] at H; exact H
          clear H
          have H := H1
          clear H1
          simp only [Option.some.injEq, Prod.mk.injEq] at H
          obtain ⟨rfl, rfl⟩ := H
          have p337 : 0 ≤ (x34_2 : Int) := of_decide_eq_true (by first | (with_reducible assumption) | assumption)
          have q337 : x34_2 < (l0_0.length : Int) := of_decide_eq_true (by first | (with_reducible assumption) | assumption)
          obtain ⟨ad337, e337, hx337_0, hx337_1, hx337_2⟩ := at_T69 HR0_0.out x34_2 p337 q337
          cases e337
          replace hx337_0 := (HB.out.cell (World.block_lt_of_cell? w _ hx337_0)).trans hx337_0
          replace hx337_1 := (HB.out.cell (World.block_lt_of_cell? w _ hx337_1)).trans hx337_1
          replace hx337_2 := (HB.out.cell (World.block_lt_of_cell? w _ hx337_2)).trans hx337_2
          replace p337 := eq_true p337
          replace q337 := eq_true q337
          go_wp2_with (first | ((with_reducible refine zai (N := 6) rfl ?_); (try (refine gate_guard (by rfl) ?_; dsimp only)); refine zah ?hg (N := 6) ?hd (cs := #[.int .i64 0, .int .i64 0, .int .i64 0]) (t := 69) ?hr ?_; (case hd => rfl); (case hg => rfl); (case hr => first | (go_simp; done) | (go_simp; rfl)); intro gb338 hg w71 hbox hb; have n0_ := Aside0.mk (Kd.N_below (Kd.N_elderB (by (with_reducible repeat (first | apply Kd.zb0 | apply Kd.zb1 | apply Kd.N_drew)); exact HO_4.out) gb338 (Nat.le_of_eq hg.symm)) hb); have n1_ := Aside0.mk (zad (g := g0) (o := .cells #[.slice (some ad337) l0_0.length c0_0, .int .i64 a0_1] 39 (0, 0)) (by (with_reducible repeat (first | refine za5 ?_ _ | refine za6 ?_ | refine za4 ?_ _)); exact BK0.out) hb); have n2_ := Aside0.mk (zac (by repeat (first | (with_reducible first | exact HB.out | apply za2 | apply za0 | apply za1 | refine za3 ?_ GE0.out) | exact HB.out)) hb); have n3_ := Aside0.mk (hbox); have n4_ := Aside0.mk ((by rw [hg]; exact (zaa (by repeat (first | (with_reducible first | exact HB.out | apply za2 | apply za0 | apply za1 | refine za3 ?_ GE0.out) | exact HB.out))) : w.heap.size ≤ gb338)); have n5_ := Aside0.mk ((by rw [hg]; exact (zaa (by repeat (first | (with_reducible first | exact HB.out | apply za2 | apply za0 | apply za1 | refine za3 ?_ GE0.out) | exact HB.out))) : w.heap.size ≤ gb338)); have n6_ := Aside0.mk ((by rw [hg]; exact Nat.ne_of_lt (zao (g := g0) (o := .cells #[.slice (some ad337) l0_0.length c0_0, .int .i64 a0_1] 39 (0, 0)) (by (with_reducible repeat (first | refine za5 ?_ _ | refine za6 ?_ | refine za4 ?_ _)); exact BK0.out)) : g0 ≠ gb338)); have n7_ := Aside0.mk ((by rw [hg]; exact Nat.ne_of_gt (zao (g := g0) (o := .cells #[.slice (some ad337) l0_0.length c0_0, .int .i64 a0_1] 39 (0, 0)) (by (with_reducible repeat (first | refine za5 ?_ _ | refine za6 ?_ | refine za4 ?_ _)); exact BK0.out)) : gb338 ≠ g0)); clear HO_4; clear BK0; clear HB; have HO_4 := n0_; have BK0 := n1_; have HB := n2_; have BK338 := n3_; have GW338 := n4_; have GE338 := n5_; have NB0_338 := n6_; have NB338_0 := n7_; clear n0_ n1_ n2_ n3_ n4_ n5_ n6_ n7_; clear hb hbox hg; have hnb72 := NB338_0.out; have hnc72 := NB0_338.out; have hcz73_0 : w71.cell? ⟨gb338, 0, none⟩ = some (.int .i64 0) := (za8 BK338.out 0).trans rfl; have hcz73_1 : w71.cell? ⟨gb338, 1, none⟩ = some (.int .i64 0) := (za8 BK338.out 1).trans rfl; have hcz73_2 : w71.cell? ⟨gb338, 2, none⟩ = some (.int .i64 0) := (za8 BK338.out 2).trans rfl; have hfz73_0 := za7 BK338.out 0; have hfz73_1 := za7 BK338.out 1; have hfz73_2 := za7 BK338.out 2) | ((with_reducible refine zal (f := 98) rfl ?_); refine goesL_ (some 41) rfl rfl Try.func98 (by kernel_rfl) rfl #[.agg #[.int .i64 ((za9 l0_0 x34_2).f0), .int .i64 ((za9 l0_0 x34_2).f1), .int .i64 ((za9 l0_0 x34_2).f2)], .int .i64 x34_2] rfl (by (try simp only [List.map_toArray, List.map_cons, List.map_nil]); first | done | rfl | (simp only [List.length_drop, List.length_take]; rfl)) ?_; (with_reducible refine (impl_Op_ok.calls k2 ((za9 l0_0 x34_2).f0) ((za9 l0_0 x34_2).f1) ((za9 l0_0 x34_2).f2) x34_2 false _ A17.out).mono ?_); rintro e w74 ⟨rfl, hb⟩; refine ⟨_, rfl, ?_⟩; have n0_ := Aside0.mk (Kd.N_below (by (with_reducible repeat (first | apply Kd.zb0 | apply Kd.zb1 | apply Kd.N_drew)); exact (Kd.N_mono (Kd.N_far (p := ⟨gb338, 2, none⟩) (Kd.N_far (p := ⟨gb338, 1, none⟩) (Kd.N_far (p := ⟨gb338, 0, none⟩) (Kd.N_mono HO_4.out (fun k_ hk => (⟨hk, hk.2⟩ : _ ∧ k_ ≠ gb338))) (fun _ hk => hk.2) (.int .i64 ((za9 l0_0 x34_2).f0))) (fun _ hk => hk.2) (.int .i64 ((za9 l0_0 x34_2).f1))) (fun _ hk => hk.2) (.int .i64 ((za9 l0_0 x34_2).f2))) (fun _ h_ => h_.1))) hb); have n1_ := Aside0.mk (zad (g := g0) (o := .cells #[.slice (some ad337) l0_0.length c0_0, .int .i64 a0_1] 39 (0, 0)) (by (with_reducible repeat (first | refine za5 ?_ _ | refine za6 ?_ | refine za4 ?_ _)); refine zay ?_ NB0_338.out _; (with_reducible repeat (first | refine za5 ?_ _ | refine za6 ?_ | refine za4 ?_ _)); refine zay ?_ NB0_338.out _; (with_reducible repeat (first | refine za5 ?_ _ | refine za6 ?_ | refine za4 ?_ _)); refine zay ?_ NB0_338.out _; (with_reducible repeat (first | refine za5 ?_ _ | refine za6 ?_ | refine za4 ?_ _)); exact BK0.out) hb); have n2_ := Aside0.mk (zad (g := gb338) (o := .cells #[.int .i64 ((za9 l0_0 x34_2).f0), .int .i64 ((za9 l0_0 x34_2).f1), .int .i64 ((za9 l0_0 x34_2).f2)] 69 (0, 0)) (by (with_reducible repeat (first | refine za5 ?_ _ | refine za6 ?_ | refine za4 ?_ _)); refine zat (cs := #[.int .i64 ((za9 l0_0 x34_2).f0), .int .i64 ((za9 l0_0 x34_2).f1), .int .i64 0]) ?_ 2 _ rfl; (with_reducible repeat (first | refine za5 ?_ _ | refine za6 ?_ | refine za4 ?_ _)); refine zat (cs := #[.int .i64 ((za9 l0_0 x34_2).f0), .int .i64 0, .int .i64 0]) ?_ 1 _ rfl; (with_reducible repeat (first | refine za5 ?_ _ | refine za6 ?_ | refine za4 ?_ _)); refine zat (cs := #[.int .i64 0, .int .i64 0, .int .i64 0]) ?_ 0 _ rfl; (with_reducible repeat (first | refine za5 ?_ _ | refine za6 ?_ | refine za4 ?_ _)); exact BK338.out) hb); have n3_ := Aside0.mk (zac (by repeat (first | (with_reducible first | exact HB.out | apply za2 | apply za0 | apply za1 | refine za3 ?_ GE0.out | refine za3 ?_ GE338.out) | exact HB.out)) hb); clear HO_4; clear BK0; clear BK338; clear HB; have HO_4 := n0_; have BK0 := n1_; have BK338 := n2_; have HB := n3_; clear n0_ n1_ n2_ n3_; (try clear hb); (try clear hb2); (try clear hk); (try clear hi)))
          go_ret2
          exact ⟨_, by first | rfl | (simp [zaf, zae] <;> rfl) | (simp [*, zaf, zae] <;> rfl), by first | exact Kd.S_nil _ _ _ _ _ | exact Kd.N_nil _ _ _ _ _ | exact Kd.V_nil _ _ _ _ _ | exact Kd.Q_nil _ _ _ _ _ | exact Kd.R_nil _ _ _ _ _, by repeat (first | (with_reducible first | exact HB.out | apply za2 | apply za0 | apply za1 | refine za3 ?_ GE0.out | refine za3 ?_ GE338.out) | exact HB.out)⟩
        ·rw [if_neg c16] at H
         exact absurd H (by simp)
       ·rw [if_neg c15] at H
        exact absurd H (by simp)
      ·rw [if_neg c14] at H
       have c14b0 : decide (x34_2 < (l0_0.length : Int)) = false := decide_eq_false c14
       clear c14
       simp only [Option.some.injEq, Prod.mk.injEq] at H
       obtain ⟨rfl, rfl⟩ := H
       go_wp2
       go_ret2
       exact ⟨_, by first | rfl | (simp [zaf, zae] <;> rfl) | (simp [*, zaf, zae] <;> rfl), by (with_reducible repeat (first | apply Kd.zb0 | apply Kd.zb1 | apply Kd.N_drew)); exact Kd.N_mono HO_4.out (fun _ hk => hk.1), by repeat (first | (with_reducible first | exact HB.out | apply za2 | apply za0 | apply za1 | refine za3 ?_ GE0.out) | exact HB.out)⟩

/-! ### impl_IsCode: function 27 -/
def impl_IsCode.f (k : Nat) (l0_0 : List (S69)) (a0_1 : Int) : Option (Bool) := (impl_Code_polynomials.f k l0_0 a0_1).bind fun bt371 => (some bt371.2)
theorem impl_IsCode.mono : ∀ a0 a1 k, LeO (impl_IsCode.f k a0 a1) (impl_IsCode.f (k + 1) a0 a1) := by
 intro a0 a1 k
 unfold impl_IsCode.f
 repeat' first
   | (with_reducible exact impl_Code_polynomials.mono _ _ _)
   | (with_reducible exact LeO.refl _)
   | (with_reducible exact LeO.none _)
   | (with_reducible refine LeO.ite ?_ ?_)
   | (with_reducible refine LeO.bind ?_ (fun _ => ?_))
   | exact impl_Code_polynomials.mono _ _ _
   | exact LeO.none _
   | refine LeO.ite ?_ ?_
   | refine LeO.bind ?_ (fun _ => ?_)
set_option maxHeartbeats 8000000 in
set_option maxRecDepth 100000 in
theorem impl_IsCode.calls (k : Nat) (A0_0 : Option Addr) (c0_0 : Nat) (l0_0 : List (S69)) (a0_1 : Int) (r : Bool) (w : World) (hr0_0 : Kd.C k69 w A0_0 l0_0.length l0_0) (hc0_0 : l0_0.length ≤ c0_0) (h : impl_IsCode.f k l0_0 a0_1 = some r) :
  Calls Try.prog 27 #[.agg #[.slice A0_0 l0_0.length c0_0, .int .i64 a0_1]] w fun e w' => e = .returned (.bool r) ∧ Below w.heap.size w w' := by
 have hu39 := Try.underlying39
 have HR0_0 := Aside0.mk hr0_0
 have HC0_0 := Aside0.mk hc0_0
 clear hr0_0 hc0_0
 have HB := Aside0.mk (Below.refl w.heap.size w)
 have H : ((impl_Code_polynomials.f k l0_0 a0_1).bind fun bt371 => (some bt371.2)) = some r := h
 clear h
 replace H := Option.bind_eq_some_iff.mp H
 obtain ⟨⟨t371, t374⟩, A20, H⟩ := H
 replace H : (some t374) = some r := H
 have A2 := Aside0.mk A20
 clear A20
 obtain rfl := Option.some.inj H
 go_enter Try.func27, Try.ntmps27
 go_wp2_with (first | ((with_reducible refine zai (N := 1) rfl ?_); refine zah ?hg (N := 1) ?hd (cs := #[.slice A0_0 l0_0.length c0_0, .int .i64 a0_1]) (t := 39) ?hr ?_; (case hd => rfl); (case hg => rfl); (case hr => first | (go_simp; done) | (go_simp; rfl)); intro gb370 hg w3 hbox hb; have n0_ := Aside0.mk (zac (by repeat (first | (with_reducible first | exact HB.out | apply za2 | apply za0 | apply za1) | exact HB.out)) hb); have n1_ := Aside0.mk (hbox); have n2_ := Aside0.mk ((by rw [hg]; exact (zaa (by repeat (first | (with_reducible first | exact HB.out | apply za2 | apply za0 | apply za1) | exact HB.out))) : w.heap.size ≤ gb370)); have n3_ := Aside0.mk ((by rw [hg]; exact (zaa (by repeat (first | (with_reducible first | exact HB.out | apply za2 | apply za0 | apply za1) | exact HB.out))) : w.heap.size ≤ gb370)); clear HB; have HB := n0_; have BK370 := n1_; have GW370 := n2_; have GE370 := n3_; clear n0_ n1_ n2_ n3_; clear hb hbox hg) | ((with_reducible refine zal (f := 67) rfl ?_); refine goesL_ (some 6) rfl rfl Try.func67 (by kernel_rfl) rfl #[.pointer (some ⟨gb370, 0, none⟩)] rfl (by (try simp only [List.map_toArray, List.map_cons, List.map_nil]); first | done | rfl | (simp only [List.length_drop, List.length_take]; rfl)) ?_; (with_reducible refine (impl_Code_polynomials.calls k gb370 A0_0 c0_0 l0_0 a0_1 t371 t374 _ ?side1 ?side2 ?side3 A2.out).mono ?_); (case side1 => (with_reducible repeat (first | refine za5 ?_ _ | refine za6 ?_ | refine za4 ?_ _)); exact BK370.out); (case side2 => repeat (first | exact (Kd.zar HR0_0.out HB.out) | (with_reducible refine Kd.zav ?_ _) | (with_reducible refine Kd.zau ?_ _) | (with_reducible refine Kd.zaz ?_))); (case side3 => exact HC0_0.out); rintro e w4 ⟨v372, rfl, ho0, hb⟩; refine ⟨_, rfl, ?_⟩; have n0_ := Aside0.mk (Kd.N_lower (Kd.N_mono (ok' := fun k_ => k_ ≠ gb370) ho0 (fun k_ hk_ => (Kd.freshB (g := gb370) (o := .cells #[.slice A0_0 l0_0.length c0_0, .int .i64 a0_1] 39 (0, 0)) (by (with_reducible repeat (first | refine za5 ?_ _ | refine za6 ?_ | refine za4 ?_ _)); exact BK370.out) k_ hk_))) (zaa (by repeat (first | (with_reducible first | exact HB.out | apply za2 | apply za0 | apply za1 | refine za3 ?_ GE370.out) | exact HB.out)))); have n1_ := Aside0.mk (zad (g := gb370) (o := .cells #[.slice A0_0 l0_0.length c0_0, .int .i64 a0_1] 39 (0, 0)) (by (with_reducible repeat (first | refine za5 ?_ _ | refine za6 ?_ | refine za4 ?_ _)); exact BK370.out) hb); have n2_ := Aside0.mk (zac (by repeat (first | (with_reducible first | exact HB.out | apply za2 | apply za0 | apply za1 | refine za3 ?_ GE370.out) | exact HB.out)) hb); clear BK370; clear HB; have HO373 := n0_; have BK370 := n1_; have HB := n2_; clear n0_ n1_ n2_; (try clear hb); (try clear hb2); (try clear hk); (try clear hi); (try clear ho0)))
 go_ret
 exact ⟨by first | rfl | (simp [zaf, zae] <;> rfl) | (simp [*, zaf, zae] <;> rfl), by repeat (first | (with_reducible first | exact HB.out | apply za2 | apply za0 | apply za1 | refine za3 ?_ GE370.out) | exact HB.out)⟩

/-! ### impl_toldCode: function 104 -/
def impl_toldCode.f (k : Nat) (l0_0 : List (S69)) (a0_1 : Int) : Option ((List (S69)) × Int × Bool) := (impl_IsCode.f k l0_0 a0_1).bind fun t377 => (if t377 = true then (some (l0_0, a0_1, true)) else (some (([] : List (S69)), 0, false)))
theorem impl_toldCode.mono : ∀ a0 a1 k, LeO (impl_toldCode.f k a0 a1) (impl_toldCode.f (k + 1) a0 a1) := by
 intro a0 a1 k
 unfold impl_toldCode.f
 repeat' first
   | (with_reducible exact impl_IsCode.mono _ _ _)
   | (with_reducible exact LeO.refl _)
   | (with_reducible exact LeO.none _)
   | (with_reducible refine LeO.ite ?_ ?_)
   | (with_reducible refine LeO.bind ?_ (fun _ => ?_))
   | exact impl_IsCode.mono _ _ _
   | exact LeO.none _
   | refine LeO.ite ?_ ?_
   | refine LeO.bind ?_ (fun _ => ?_)
set_option maxHeartbeats 8000000 in
set_option maxRecDepth 100000 in
theorem impl_toldCode.calls (k : Nat) (P0_0_ : Nat → Prop) (u9000_ : Value) (l0_0 : List (S69)) (a0_1 : Int) (r1 : List (S69)) (r2 : Int) (r3 : Bool) (w0 w : World) (hB : Below w0.heap.size w0 w) (ho0_0 : Kd.R k69 69 w w0.heap.size P0_0_ u9000_ l0_0) (h : impl_toldCode.f k l0_0 a0_1 = some (r1, r2, r3)) :
  Calls Try.prog 104 #[.agg #[u9000_, .int .i64 a0_1]] w fun e w' => ∃ v0_ : Value, e = .returned (.tuple #[.agg #[v0_, .int .i64 r2], .bool r3]) ∧ Kd.R k69 69 w' w0.heap.size (fun k_ => (P0_0_ k_ ∨ w.heap.size ≤ k_)) v0_ r1 ∧ Below w0.heap.size w0 w' ∧ Kept w w' (fun k_ => P0_0_ k_) := by
 have hu39 := Try.underlying39
 have HO0_0 := Aside0.mk (show Kd.R k69 69 w w0.heap.size (fun k_ => (P0_0_ k_ ∨ w.heap.size ≤ k_)) u9000_ l0_0 from Kd.R_mono ho0_0 (fun k_ hk => (.inl hk)))
 have HK := Aside0.mk (Kept.refl w (fun k_ => P0_0_ k_))
 have HW0 := Aside0.mk hB.size
 have HB := Aside0.mk hB
 clear hB
 have H : ((impl_IsCode.f k l0_0 a0_1).bind fun t377 => (if t377 = true then (some (l0_0, a0_1, true)) else (some (([] : List (S69)), 0, false)))) = some (r1, r2, r3) := h
 clear h
 replace H := Option.bind_eq_some_iff.mp H
 obtain ⟨t377, A20, H⟩ := H
 replace H : (if t377 = true then (some (l0_0, a0_1, true)) else (some (([] : List (S69)), 0, false))) = some (r1, r2, r3) := H
 have A2 := Aside0.mk A20
 clear A20
 by_cases c3 : t377 = true
 ·subst c3
  have H1 : (some (l0_0, a0_1, true)) = some (r1, r2, r3) := by rw [if_pos rfl] at H; exact H
  clear H
  have H := H1
  clear H1
  simp only [Option.some.injEq, Prod.mk.injEq] at H
  obtain ⟨rfl, rfl, rfl⟩ := H
  obtain ⟨Ao4, co4, eo4⟩ := Kd.zas HO0_0.out
  subst eo4
  go_enter Try.func104, Try.ntmps104
  go_wp2_with (first | ((with_reducible refine zai (N := 1) rfl ?_); refine zah ?hg (N := 1) ?hd (cs := #[.slice Ao4 l0_0.length co4, .int .i64 a0_1]) (t := 39) ?hr ?_; (case hd => rfl); (case hg => rfl); (case hr => first | (go_simp; done) | (go_simp; rfl)); intro gb375 hg w5 hbox hb; have n0_ := Aside0.mk (Kd.zb2 (by (with_reducible repeat (first | apply Kd.zak | apply Kd.zaj | apply Kd.zam)); exact HO0_0.out) hb); have n1_ := Aside0.mk (Kept.below (S := (fun k_ => P0_0_ k_)) (by repeat (first | (with_reducible first | exact HK.out | apply Kept.alloc | apply Kept.drewN | apply Kept.drew) | exact HK.out)) hb); have n2_ := Aside0.mk (zac (by repeat (first | (with_reducible first | exact HB.out | apply za2 | apply za0 | apply za1) | exact HB.out)) hb); have n3_ := Aside0.mk (hbox); have n4_ := Aside0.mk ((by rw [hg]; exact (by first | exact HK.out.1 | exact (show Kept w _ (fun k_ => P0_0_ k_) from by repeat (first | (with_reducible first | exact HK.out | apply Kept.alloc | apply Kept.drewN | apply Kept.drew) | exact HK.out)).1) : w.heap.size ≤ gb375)); have n5_ := Aside0.mk ((by rw [hg]; exact (zaa (by repeat (first | (with_reducible first | exact HB.out | apply za2 | apply za0 | apply za1) | exact HB.out))) : w0.heap.size ≤ gb375)); clear HO0_0; clear HK; clear HB; have HO0_0 := n0_; have HK := n1_; have HB := n2_; have BK375 := n3_; have GW375 := n4_; have GE375 := n5_; clear n0_ n1_ n2_ n3_ n4_ n5_; clear hb hbox hg) | ((with_reducible refine zai (N := 2) rfl ?_); refine zah ?hg (N := 2) ?hd (cs := #[.slice none 0 0, .int .i64 0]) (t := 39) ?hr ?_; (case hd => rfl); (case hg => rfl); (case hr => first | (go_simp; done) | (go_simp; rfl)); intro gb376 hg w6 hbox hb; have n0_ := Aside0.mk (Kd.zb2 (by (with_reducible repeat (first | apply Kd.zak | apply Kd.zaj | apply Kd.zam)); exact HO0_0.out) hb); have n1_ := Aside0.mk (zad (g := gb375) (o := .cells #[.slice Ao4 l0_0.length co4, .int .i64 a0_1] 39 (0, 0)) (by (with_reducible repeat (first | refine za5 ?_ _ | refine za6 ?_ | refine za4 ?_ _)); exact BK375.out) hb); have n2_ := Aside0.mk (Kept.below (S := (fun k_ => P0_0_ k_)) (by repeat (first | (with_reducible first | exact HK.out | apply Kept.alloc | apply Kept.drewN | apply Kept.drew | refine Kept.setCell ?_ (.inr GW375.out) _) | exact HK.out)) hb); have n3_ := Aside0.mk (zac (by repeat (first | (with_reducible first | exact HB.out | apply za2 | apply za0 | apply za1 | refine za3 ?_ GE375.out) | exact HB.out)) hb); have n4_ := Aside0.mk (hbox); have n5_ := Aside0.mk ((by rw [hg]; exact (by first | exact HK.out.1 | exact (show Kept w _ (fun k_ => P0_0_ k_) from by repeat (first | (with_reducible first | exact HK.out | apply Kept.alloc | apply Kept.drewN | apply Kept.drew | refine Kept.setCell ?_ (.inr GW375.out) _) | exact HK.out)).1) : w.heap.size ≤ gb376)); have n6_ := Aside0.mk ((by rw [hg]; exact (zaa (by repeat (first | (with_reducible first | exact HB.out | apply za2 | apply za0 | apply za1 | refine za3 ?_ GE375.out) | exact HB.out))) : w0.heap.size ≤ gb376)); have n7_ := Aside0.mk ((by rw [hg]; exact Nat.ne_of_lt (zao (g := gb375) (o := .cells #[.slice Ao4 l0_0.length co4, .int .i64 a0_1] 39 (0, 0)) (by (with_reducible repeat (first | refine za5 ?_ _ | refine za6 ?_ | refine za4 ?_ _)); exact BK375.out)) : gb375 ≠ gb376)); have n8_ := Aside0.mk ((by rw [hg]; exact Nat.ne_of_gt (zao (g := gb375) (o := .cells #[.slice Ao4 l0_0.length co4, .int .i64 a0_1] 39 (0, 0)) (by (with_reducible repeat (first | refine za5 ?_ _ | refine za6 ?_ | refine za4 ?_ _)); exact BK375.out)) : gb376 ≠ gb375)); clear HO0_0; clear BK375; clear HK; clear HB; have HO0_0 := n0_; have BK375 := n1_; have HK := n2_; have HB := n3_; have BK376 := n4_; have GW376 := n5_; have GE376 := n6_; have NB375_376 := n7_; have NB376_375 := n8_; clear n0_ n1_ n2_ n3_ n4_ n5_ n6_ n7_ n8_; clear hb hbox hg; have hnb7 := NB375_376.out; have hnc7 := NB376_375.out; have hcz8_0 : w6.cell? ⟨gb375, 0, none⟩ = some (.slice Ao4 l0_0.length co4) := (za8 BK375.out 0).trans rfl; have hcz8_1 : w6.cell? ⟨gb375, 1, none⟩ = some (.int .i64 a0_1) := (za8 BK375.out 1).trans rfl; have hfz8_0 := za7 BK375.out 0; have hfz8_1 := za7 BK375.out 1) | ((with_reducible refine zal (f := 27) rfl ?_); refine goesL_ (some 5) rfl rfl Try.func27 (by kernel_rfl) rfl #[.agg #[.slice Ao4 l0_0.length co4, .int .i64 a0_1]] rfl (by (try simp only [List.map_toArray, List.map_cons, List.map_nil]); first | done | rfl | (simp only [List.length_drop, List.length_take]; rfl)) ?_; (with_reducible refine (impl_IsCode.calls k _ _ l0_0 a0_1 true _ ?side1 ?side2 A2.out).mono ?_); (case side1 => repeat (first | exact (Kd.R_reads' HO0_0.out).2.2 | (with_reducible refine Kd.zav ?_ _) | (with_reducible refine Kd.zau ?_ _) | (with_reducible refine Kd.zaz ?_))); (case side2 => exact (Kd.R_reads' HO0_0.out).2.1); rintro e w9 ⟨rfl, hb⟩; refine ⟨_, rfl, ?_⟩; have n0_ := Aside0.mk (Kd.zb2 (by (with_reducible repeat (first | apply Kd.zak | apply Kd.zaj | apply Kd.zam)); exact HO0_0.out) hb); have n1_ := Aside0.mk (zad (g := gb375) (o := .cells #[.slice Ao4 l0_0.length co4, .int .i64 a0_1] 39 (0, 0)) (by (with_reducible repeat (first | refine za5 ?_ _ | refine za6 ?_ | refine za4 ?_ _)); exact BK375.out) hb); have n2_ := Aside0.mk (zad (g := gb376) (o := .cells #[.slice none 0 0, .int .i64 0] 39 (0, 0)) (by (with_reducible repeat (first | refine za5 ?_ _ | refine za6 ?_ | refine za4 ?_ _)); exact BK376.out) hb); have n3_ := Aside0.mk (Kept.below (S := (fun k_ => P0_0_ k_)) (by repeat (first | (with_reducible first | exact HK.out | apply Kept.alloc | apply Kept.drewN | apply Kept.drew | refine Kept.setCell ?_ (.inr GW375.out) _ | refine Kept.setCell ?_ (.inr GW376.out) _) | exact HK.out)) hb); have n4_ := Aside0.mk (zac (by repeat (first | (with_reducible first | exact HB.out | apply za2 | apply za0 | apply za1 | refine za3 ?_ GE375.out | refine za3 ?_ GE376.out) | exact HB.out)) hb); clear HO0_0; clear BK375; clear BK376; clear HK; clear HB; have HO0_0 := n0_; have BK375 := n1_; have BK376 := n2_; have HK := n3_; have HB := n4_; clear n0_ n1_ n2_ n3_ n4_; (try clear hb); (try clear hb2); (try clear hk); (try clear hi); have hcz10_0 : w9.cell? ⟨gb375, 0, none⟩ = some (.slice Ao4 l0_0.length co4) := (za8 BK375.out 0).trans rfl; have hcz10_1 : w9.cell? ⟨gb375, 1, none⟩ = some (.int .i64 a0_1) := (za8 BK375.out 1).trans rfl; have hfz10_0 := za7 BK375.out 0; have hfz10_1 := za7 BK375.out 1; have hcz11_0 : w9.cell? ⟨gb376, 0, none⟩ = some (.slice none 0 0) := (za8 BK376.out 0).trans rfl; have hcz11_1 : w9.cell? ⟨gb376, 1, none⟩ = some (.int .i64 0) := (za8 BK376.out 1).trans rfl; have hfz11_0 := za7 BK376.out 0; have hfz11_1 := za7 BK376.out 1))
  refine bodyPost_ret (results_ct rfl _ _ gb376 39 #[.slice Ao4 l0_0.length co4, .int .i64 a0_1] (0, 0) _ rfl (by (with_reducible repeat (first | refine za5 ?_ _ | refine za6 ?_ | refine za4 ?_ _)); refine zat (cs := #[.slice Ao4 l0_0.length co4, .int .i64 0]) ?_ 1 _ rfl; (with_reducible repeat (first | refine za5 ?_ _ | refine za6 ?_ | refine za4 ?_ _)); refine zat (cs := #[.slice none 0 0, .int .i64 0]) ?_ 0 _ rfl; (with_reducible repeat (first | refine za5 ?_ _ | refine za6 ?_ | refine za4 ?_ _)); exact BK376.out) Try.underlying39 rfl (by kernel_rfl)) rfl ?_
  exact ⟨_, by first | rfl | (simp [zaf, zae] <;> rfl) | (simp [*, zaf, zae] <;> rfl), by (with_reducible repeat (first | apply Kd.zak | apply Kd.zaj | apply Kd.zam)); exact Kd.R_mono (Kd.R_far (p := ⟨gb376, 1, none⟩) (Kd.R_far (p := ⟨gb376, 0, none⟩) (Kd.R_types HO0_0.out BK376.out (by decide)) (fun _ hk => hk.2) (.slice Ao4 l0_0.length co4)) (fun _ hk => hk.2) (.int .i64 a0_1)) (fun _ hk => hk.1), by repeat (first | (with_reducible first | exact HB.out | apply za2 | apply za0 | apply za1 | refine za3 ?_ GE375.out | refine za3 ?_ GE376.out) | exact HB.out), by repeat (first | (with_reducible first | exact HK.out | apply Kept.alloc | apply Kept.drewN | apply Kept.drew | refine Kept.setCell ?_ (.inr GW375.out) _ | refine Kept.setCell ?_ (.inr GW376.out) _) | exact HK.out)⟩
 ·replace c3 := Bool.eq_false_iff.mpr c3
  subst c3
  have H1 : (some (([] : List (S69)), 0, false)) = some (r1, r2, r3) := by rw [if_neg (show ¬ (false = true) by decide)] at H; exact H
  clear H
  have H := H1
  clear H1
  simp only [Option.some.injEq, Prod.mk.injEq] at H
  obtain ⟨rfl, rfl, rfl⟩ := H
  obtain ⟨Ao12, co12, eo12⟩ := Kd.zas HO0_0.out
  subst eo12
  go_enter Try.func104, Try.ntmps104
  go_wp2_with (first | ((with_reducible refine zai (N := 1) rfl ?_); refine zah ?hg (N := 1) ?hd (cs := #[.slice Ao12 l0_0.length co12, .int .i64 a0_1]) (t := 39) ?hr ?_; (case hd => rfl); (case hg => rfl); (case hr => first | (go_simp; done) | (go_simp; rfl)); intro gb375 hg w13 hbox hb; have n0_ := Aside0.mk (Kd.zb2 (by (with_reducible repeat (first | apply Kd.zak | apply Kd.zaj | apply Kd.zam)); exact HO0_0.out) hb); have n1_ := Aside0.mk (Kept.below (S := (fun k_ => P0_0_ k_)) (by repeat (first | (with_reducible first | exact HK.out | apply Kept.alloc | apply Kept.drewN | apply Kept.drew) | exact HK.out)) hb); have n2_ := Aside0.mk (zac (by repeat (first | (with_reducible first | exact HB.out | apply za2 | apply za0 | apply za1) | exact HB.out)) hb); have n3_ := Aside0.mk (hbox); have n4_ := Aside0.mk ((by rw [hg]; exact (by first | exact HK.out.1 | exact (show Kept w _ (fun k_ => P0_0_ k_) from by repeat (first | (with_reducible first | exact HK.out | apply Kept.alloc | apply Kept.drewN | apply Kept.drew) | exact HK.out)).1) : w.heap.size ≤ gb375)); have n5_ := Aside0.mk ((by rw [hg]; exact (zaa (by repeat (first | (with_reducible first | exact HB.out | apply za2 | apply za0 | apply za1) | exact HB.out))) : w0.heap.size ≤ gb375)); clear HO0_0; clear HK; clear HB; have HO0_0 := n0_; have HK := n1_; have HB := n2_; have BK375 := n3_; have GW375 := n4_; have GE375 := n5_; clear n0_ n1_ n2_ n3_ n4_ n5_; clear hb hbox hg) | ((with_reducible refine zai (N := 2) rfl ?_); refine zah ?hg (N := 2) ?hd (cs := #[.slice none 0 0, .int .i64 0]) (t := 39) ?hr ?_; (case hd => rfl); (case hg => rfl); (case hr => first | (go_simp; done) | (go_simp; rfl)); intro gb376 hg w14 hbox hb; have n0_ := Aside0.mk (Kd.zb2 (by (with_reducible repeat (first | apply Kd.zak | apply Kd.zaj | apply Kd.zam)); exact HO0_0.out) hb); have n1_ := Aside0.mk (zad (g := gb375) (o := .cells #[.slice Ao12 l0_0.length co12, .int .i64 a0_1] 39 (0, 0)) (by (with_reducible repeat (first | refine za5 ?_ _ | refine za6 ?_ | refine za4 ?_ _)); exact BK375.out) hb); have n2_ := Aside0.mk (Kept.below (S := (fun k_ => P0_0_ k_)) (by repeat (first | (with_reducible first | exact HK.out | apply Kept.alloc | apply Kept.drewN | apply Kept.drew | refine Kept.setCell ?_ (.inr GW375.out) _) | exact HK.out)) hb); have n3_ := Aside0.mk (zac (by repeat (first | (with_reducible first | exact HB.out | apply za2 | apply za0 | apply za1 | refine za3 ?_ GE375.out) | exact HB.out)) hb); have n4_ := Aside0.mk (hbox); have n5_ := Aside0.mk ((by rw [hg]; exact (by first | exact HK.out.1 | exact (show Kept w _ (fun k_ => P0_0_ k_) from by repeat (first | (with_reducible first | exact HK.out | apply Kept.alloc | apply Kept.drewN | apply Kept.drew | refine Kept.setCell ?_ (.inr GW375.out) _) | exact HK.out)).1) : w.heap.size ≤ gb376)); have n6_ := Aside0.mk ((by rw [hg]; exact (zaa (by repeat (first | (with_reducible first | exact HB.out | apply za2 | apply za0 | apply za1 | refine za3 ?_ GE375.out) | exact HB.out))) : w0.heap.size ≤ gb376)); have n7_ := Aside0.mk ((by rw [hg]; exact Nat.ne_of_lt (zao (g := gb375) (o := .cells #[.slice Ao12 l0_0.length co12, .int .i64 a0_1] 39 (0, 0)) (by (with_reducible repeat (first | refine za5 ?_ _ | refine za6 ?_ | refine za4 ?_ _)); exact BK375.out)) : gb375 ≠ gb376)); have n8_ := Aside0.mk ((by rw [hg]; exact Nat.ne_of_gt (zao (g := gb375) (o := .cells #[.slice Ao12 l0_0.length co12, .int .i64 a0_1] 39 (0, 0)) (by (with_reducible repeat (first | refine za5 ?_ _ | refine za6 ?_ | refine za4 ?_ _)); exact BK375.out)) : gb376 ≠ gb375)); clear HO0_0; clear BK375; clear HK; clear HB; have HO0_0 := n0_; have BK375 := n1_; have HK := n2_; have HB := n3_; have BK376 := n4_; have GW376 := n5_; have GE376 := n6_; have NB375_376 := n7_; have NB376_375 := n8_; clear n0_ n1_ n2_ n3_ n4_ n5_ n6_ n7_ n8_; clear hb hbox hg; have hnb15 := NB375_376.out; have hnc15 := NB376_375.out; have hcz16_0 : w14.cell? ⟨gb375, 0, none⟩ = some (.slice Ao12 l0_0.length co12) := (za8 BK375.out 0).trans rfl; have hcz16_1 : w14.cell? ⟨gb375, 1, none⟩ = some (.int .i64 a0_1) := (za8 BK375.out 1).trans rfl; have hfz16_0 := za7 BK375.out 0; have hfz16_1 := za7 BK375.out 1) | ((with_reducible refine zal (f := 27) rfl ?_); refine goesL_ (some 5) rfl rfl Try.func27 (by kernel_rfl) rfl #[.agg #[.slice Ao12 l0_0.length co12, .int .i64 a0_1]] rfl (by (try simp only [List.map_toArray, List.map_cons, List.map_nil]); first | done | rfl | (simp only [List.length_drop, List.length_take]; rfl)) ?_; (with_reducible refine (impl_IsCode.calls k _ _ l0_0 a0_1 false _ ?side1 ?side2 A2.out).mono ?_); (case side1 => repeat (first | exact (Kd.R_reads' HO0_0.out).2.2 | (with_reducible refine Kd.zav ?_ _) | (with_reducible refine Kd.zau ?_ _) | (with_reducible refine Kd.zaz ?_))); (case side2 => exact (Kd.R_reads' HO0_0.out).2.1); rintro e w17 ⟨rfl, hb⟩; refine ⟨_, rfl, ?_⟩; have n0_ := Aside0.mk (Kd.zb2 (by (with_reducible repeat (first | apply Kd.zak | apply Kd.zaj | apply Kd.zam)); exact HO0_0.out) hb); have n1_ := Aside0.mk (zad (g := gb375) (o := .cells #[.slice Ao12 l0_0.length co12, .int .i64 a0_1] 39 (0, 0)) (by (with_reducible repeat (first | refine za5 ?_ _ | refine za6 ?_ | refine za4 ?_ _)); exact BK375.out) hb); have n2_ := Aside0.mk (zad (g := gb376) (o := .cells #[.slice none 0 0, .int .i64 0] 39 (0, 0)) (by (with_reducible repeat (first | refine za5 ?_ _ | refine za6 ?_ | refine za4 ?_ _)); exact BK376.out) hb); have n3_ := Aside0.mk (Kept.below (S := (fun k_ => P0_0_ k_)) (by repeat (first | (with_reducible first | exact HK.out | apply Kept.alloc | apply Kept.drewN | apply Kept.drew | refine Kept.setCell ?_ (.inr GW375.out) _ | refine Kept.setCell ?_ (.inr GW376.out) _) | exact HK.out)) hb); have n4_ := Aside0.mk (zac (by repeat (first | (with_reducible first | exact HB.out | apply za2 | apply za0 | apply za1 | refine za3 ?_ GE375.out | refine za3 ?_ GE376.out) | exact HB.out)) hb); clear HO0_0; clear BK375; clear BK376; clear HK; clear HB; have HO0_0 := n0_; have BK375 := n1_; have BK376 := n2_; have HK := n3_; have HB := n4_; clear n0_ n1_ n2_ n3_ n4_; (try clear hb); (try clear hb2); (try clear hk); (try clear hi); have hcz18_0 : w17.cell? ⟨gb376, 0, none⟩ = some (.slice none 0 0) := (za8 BK376.out 0).trans rfl; have hcz18_1 : w17.cell? ⟨gb376, 1, none⟩ = some (.int .i64 0) := (za8 BK376.out 1).trans rfl; have hfz18_0 := za7 BK376.out 0; have hfz18_1 := za7 BK376.out 1))
  refine bodyPost_ret (results_ct rfl _ _ gb376 39 #[.slice none 0 0, .int .i64 0] (0, 0) _ rfl (by (with_reducible repeat (first | refine za5 ?_ _ | refine za6 ?_ | refine za4 ?_ _)); refine zat (cs := #[.slice none 0 0, .int .i64 0]) ?_ 1 _ rfl; (with_reducible repeat (first | refine za5 ?_ _ | refine za6 ?_ | refine za4 ?_ _)); refine zat (cs := #[.slice none 0 0, .int .i64 0]) ?_ 0 _ rfl; (with_reducible repeat (first | refine za5 ?_ _ | refine za6 ?_ | refine za4 ?_ _)); exact BK376.out) Try.underlying39 rfl (by kernel_rfl)) rfl ?_
  exact ⟨_, by first | rfl | (simp [zaf, zae] <;> rfl) | (simp [*, zaf, zae] <;> rfl), by first | exact Kd.R_nil _ _ _ _ _ | exact Kd.N_nil _ _ _ _ _ | exact Kd.V_nil _ _ _ _ _ | exact Kd.Q_nil _ _ _ _ _ | exact Kd.S_nil _ _ _ _ _, by repeat (first | (with_reducible first | exact HB.out | apply za2 | apply za0 | apply za1 | refine za3 ?_ GE375.out | refine za3 ?_ GE376.out) | exact HB.out), by repeat (first | (with_reducible first | exact HK.out | apply Kept.alloc | apply Kept.drewN | apply Kept.drew | refine Kept.setCell ?_ (.inr GW375.out) _ | refine Kept.setCell ?_ (.inr GW376.out) _) | exact HK.out)⟩

/-! ### impl_writer_code: function 81 -/
abbrev SOp := S69
/-- The writer: a box that holds its ops. -/
def wr8 {base : Nat} (g : Nat) (l : List SOp) : Thing base := obj g 78 (fun v => #[v]) k69 69 l
section
variable {w0 ws w : World} {P0 : Nat → Prop} {L : List (Thing w0.heap.size)} {i j g : Nat} {l : List SOp}

set_option maxHeartbeats 4000000 in
set_option maxRecDepth 100000 in
theorem put_fr (a1 a2 a3 : Int) (h : Fr w0 ws P0 L w) (hi : L[i]? = some (wr8 g l)) (hl : l.length + 1 < 5864062014805) :
  Calls Try.prog 80 #[.pointer (some ⟨g, 0, none⟩), .int .i64 a1, .int .i64 a2, .int .i64 a3] w fun e w' => e = .returned (.int .i64 ((l.length : Int) + 1)) ∧ Fr w0 ws P0 (L.set i (wr8 g (l ++ [⟨a1, a2, a3⟩]))) w' := by
 obtain ⟨v, h1⟩ := h.obj_open hi
 have hb1 : (row k69 69 v l :: L.set i (box g 78 #[v]))[i + 1]? = some (box g 78 #[v]) := by simpa using Fr.set_at hi
 obtain ⟨A, c, rfl, hcap, hC⟩ := h1.row_reads (i := 0) rfl
 have hc0 : w.cell? ⟨g, 0, none⟩ = some (.slice A l.length c) := h1.zab hb1 0 rfl
 have hf0 := za7 (h1.zaq hb1) 0
 obtain ⟨ok, hR, hfresh, hnext⟩ := h1.row_append (i := 0) rfl
 have HR := Aside0.mk hR
 have HF := Aside0.mk hfresh
 have HX := Aside0.mk hnext
 have H1 := Aside0.mk h1
 have HL := Aside0.mk hl
 have HI := Aside0.mk hi
 clear h h1 hb1 hC hR hfresh hnext hl hi hcap
 go_enter Try.func80, Try.ntmps80
 go_wp2_with ((with_reducible refine gate_builtin (b := .append) (xs := #[.tmp 13, .tmp 18]) rfl ?_); at_builtin; refine Kd.R_append k69 (w0 := w0) w0.heap.size rfl (.tmp 13) (.tmp 18) 37 69 (.agg #[(.int .i64 0), (.int .i64 0), (.int .i64 0)]) 24 rfl Try.underlying37 info69 rfl (by decide) (by omega) (.slice A l.length c) l (⟨a1, a2, a3⟩ : SOp) [.int .i64 a1, .int .i64 a2, .int .i64 a3] ok (fun _ => False) rfl rfl ?aP (fun _ hk => hk.elim) ?aF ?aO ?aB ?aS ?aL ?_; (case aP => exact k69_mkM _ _ _ (⟨a1, a2, a3⟩ : SOp)); (case aB => exact H1.out.bel); (case aF => exact HF.out); (case aO => exact HR.out); (case aS => exact H1.out.size); (case aL => have := HL.out; omega); intro v1 w1 ho hb hg hat; obtain ⟨A1, c1, rfl⟩ := Kd.zas ho; have H2 := Aside0.mk (HX.out _ _ _ ho hg); have B2 := Aside0.mk (show ((row k69 69 (.slice A1 (l ++ [(⟨a1, a2, a3⟩ : SOp)]).length c1) (l ++ [(⟨a1, a2, a3⟩ : SOp)]) :: L.set i (box g 78 #[.slice A l.length c]))[i + 1]? = some (box g 78 #[.slice A l.length c])) by simpa using Fr.set_at HI.out); have hc1 : w1.cell? ⟨g, 0, none⟩ = some (.slice A l.length c) := H2.out.zab B2.out 0 rfl; have hf1 := za7 (H2.out.zaq B2.out) 0; clear ho hb hg hat)
 go_ret
 have h3 := H2.out.box_set B2.out 0 (.slice A1 (l ++ [(⟨a1, a2, a3⟩ : SOp)]).length c1) rfl
 simp only [List.set_cons_zero, List.set_cons_succ, List.set_set] at h3
 have h4 := h3.obj_close (i := i) (f := fun v => #[v]) (t := 78) (g := g) (Fr.set_at HI.out)
 rw [List.set_set] at h4
 rw [show (l ++ [(⟨a1, a2, a3⟩ : SOp)]).length = l.length + 1 from by simp] at h4
 exact ⟨by simp, h4⟩

theorem constant_fr (a1 : Int) (h : Fr w0 ws P0 L w) (hi : L[i]? = some (wr8 g l)) (hl : l.length + 1 < 5864062014805) :
  Calls Try.prog 79 #[.pointer (some ⟨g, 0, none⟩), .int .i64 a1] w fun e w' => e = .returned (.int .i64 ((l.length : Int) + 1)) ∧ Fr w0 ws P0 (L.set i (wr8 g (l ++ [⟨0, a1, 0⟩]))) w' := by
 have HP := Aside0.mk (put_fr 0 a1 0 h hi hl)
 clear h hl hi
 go_enter Try.func79, Try.ntmps79
 go_wp2_with (go_at_call 80; refine HP.out.mono ?_; rintro e w' ⟨rfl, h1⟩; have H := Aside0.mk h1; clear h1)
 go_ret
 exact ⟨rfl, H.out⟩

def pwGo : Nat → List Int → List SOp → List Int × List SOp
 | 0, out, l => (out, l)
 | d + 1, out, l => pwGo d (out ++ [(l.length : Int) + 1]) (l ++ [⟨3, rd out ((out.length : Int) - 1), 0⟩])
set_option maxHeartbeats 4000000 in
set_option maxRecDepth 100000 in
theorem powers_fr (most : Int) (D : Nat) (hD : D = (most - 1).toNat) (hm : most ≤ 1000000) (h : Fr w0 ws P0 L w) (hi : L[i]? = some (wr8 g l)) (hl : l.length ≤ 1000000) :
  Calls Try.prog 85 #[.pointer (some ⟨g, 0, none⟩), .int .i64 most] w fun e w' => ∃ v, e = .returned v ∧ Fr w0 ws P0 (row (Kd.int .i64) 3 v (pwGo D [-1, 0] l).1 :: L.set i (wr8 g (pwGo D [-1, 0] l).2)) w' := by
 have H := Aside0.mk h
 have HI := Aside0.mk hi
 have HN := Aside0.mk (show D = (most - 1).toNat ∧ most ≤ 1000000 ∧ l.length ≤ 1000000 from ⟨hD, hm, hl⟩)
 clear h hi hl hD hm
 go_enter Try.func85, Try.ntmps85
 go_wp2_with ((with_reducible refine zai (N := 6) rfl ?_); refine Kd.R_lit (Kd.int .i64) (w0 := w0) w0.heap.size 3 ?hg (N := 6) ?hd (xs := ([-1, 0] : List Int)) (inner := [.int .i64 (-1), .int .i64 0]) (ok := fun k => w.heap.size ≤ k) (okp := fun k => w.heap.size ≤ k) ?hr ?hp (fun _ hk => hk) (Nat.le_refl _) H.out.bel H.out.size (by simp) ?_; (case hd => rfl); (case hg => rfl); (case hr => first | (go_simp; done) | (go_simp; rfl)); (case hp => exact (Reps.one (show Kd.M (Kd.int .i64) _ _ _ (-1) [.int .i64 (-1)] from rfl) (Reps.one (show Kd.M (Kd.int .i64) _ _ _ 0 [.int .i64 0] from rfl) (Reps.none _ _)))); intro v1 w1 hr1 hb1 hg1 hnew1; have H1 := Aside0.mk (H.out.row_lit hr1 hg1); clear hr1 hb1 hg1 hnew1)
 go_loopg [5] D (fun d v5 w' => ∃ (out : List Int) (m : List SOp), Aside0 (pwGo d out m = pwGo D [-1, 0] l) ∧ Aside0 (out.length + d = D + 2 ∧ 2 ≤ out.length ∧ m.length + d = l.length + D) ∧ Aside0 (Fr w0 ws P0 (row (Kd.int .i64) 3 v5 out :: L.set i (wr8 g m)) w'))
 case atStart =>
  have h2 := H1.out
  have e := HI.out
  refine ⟨[-1, 0], l, ⟨rfl⟩, ⟨by simp; omega⟩, ⟨?_⟩⟩
  rwa [show L.set i (wr8 g l) = L from by rw [← (List.getElem?_eq_some_iff.1 e).2]; simp]
 case round =>
  obtain ⟨out, m, HE, HM, H2⟩ := hrel
  clear H1
  obtain ⟨A, c, rfl, hcap, hC⟩ := H2.out.row_reads (i := 0) rfl
  cases gk with
  | zero =>
   have hn := HN.out
   have hm := HM.out
   have c1 : decide ((out.length : Int) ≤ most) = false := decide_eq_false (by omega)
   clear hn hm hC hcap
   go_wp2
   go_ret
   have he := HE.out
   simp only [pwGo] at he
   rw [← he]
   exact ⟨_, rfl, H2.out⟩
  | succ d =>
   have hn := HN.out
   have hm := HM.out
   have c1 : decide ((out.length : Int) ≤ most) = true := decide_eq_true (by omega)
   obtain ⟨ad, e1, hx⟩ := Kd.at_int hC ((out.length : Int) - 1) (by omega) (by omega)
   cases e1
   have hi : ((out.length : Int) - 1).toNat = out.length - 1 := by omega
   rw [hi] at hx
   have h0i : (0 : Int) ≤ (out.length : Int) - 1 := by omega
   have hw1 : wrap64 ((out.length : Int) - 1) = (out.length : Int) - 1 := by unfold wrap64; omega
   have HC := Aside0.mk (put_fr (i := i + 1) 3 (rd out ((out.length : Int) - 1)) 0 H2.out (by simpa using Fr.set_at HI.out) (by omega))
   simp only [List.set_cons_succ, List.set_set] at HC
   have HL1 := Aside0.mk (show m.length + 1 ≤ 3000000 ∧ out.length + 1 ≤ 3000000 by omega)
   clear hn hm hC hcap
   go_wp2_with (first | (go_at_call 80; refine HC.out.mono ?_; rintro e w3 ⟨rfl, h1⟩; have H3 := Aside0.mk h1; obtain ⟨ok, hR, hfresh, hnext⟩ := H3.out.row_append (i := 0) rfl; have HR := Aside0.mk hR; have HF := Aside0.mk hfresh; have HX := Aside0.mk hnext; clear h1 hR hfresh hnext) | ((with_reducible refine gate_builtin (b := .append) (xs := #[.tmp 11, .tmp 20]) rfl ?_); at_builtin; refine Kd.R_append (Kd.int .i64) (w0 := w0) w0.heap.size rfl (.tmp 11) (.tmp 20) 22 3 (.int .i64 0) 8 rfl Try.underlying22 info3 rfl (by decide) (by omega) (.slice (some ad) out.length c) out ((m.length : Int) + 1) [.int .i64 ((m.length : Int) + 1)] ok (fun _ => False) rfl (by first | (go_simp; done) | (go_simp; rfl)) ?aP (fun _ hk => hk.elim) ?aF ?aO ?aB ?aS ?aL ?_; (case aP => exact rfl); (case aB => exact H3.out.bel); (case aF => exact HF.out); (case aO => exact HR.out); (case aS => exact H3.out.size); (case aL => have := HL1.out; omega); intro v4 w4 ho hb hg hat; have H4 := Aside0.mk (HX.out _ _ _ ho hg); obtain ⟨A4, c4, rfl⟩ := Kd.zas ho; clear ho hb hg hat))
   go_roundg d
   case measure => omega
   case rel => exact ⟨out ++ [(m.length : Int) + 1], m ++ [(⟨3, rd out ((out.length : Int) - 1), 0⟩ : SOp)], ⟨HE.out⟩, ⟨by have := HM.out; simp; omega⟩, ⟨by simpa using H4.out⟩⟩

def grGo (coefs powers : List Int) : Nat → Nat → Int → List SOp → Int × List SOp
 | 0, _, at_, l => (at_, l)
 | d + 1, i, at_, l => grGo coefs powers d (i + 1) ((l.length : Int) + 2) (l ++ [⟨2, rd powers ((i + 1 : Nat) : Int), rd coefs ((i + 1 : Nat) : Int)⟩] ++ [⟨1, at_, (l.length : Int) + 1⟩])

set_option maxHeartbeats 8000000 in
set_option maxRecDepth 100000 in
theorem group_fr {A0 : Option Addr} {c0 : Nat} {coefs : List Int} {vp : Value} {powers : List Int} (h : Fr w0 ws P0 L w) (hi : L[i]? = some (wr8 g l)) (hj : L[j]? = some (row (Kd.int .i64) 3 vp powers)) (hij : i ≠ j) (hC : ∀ w', Fr w0 ws P0 (L.set i gone) w' → Kd.C (Kd.int .i64) w' A0 coefs.length coefs) (hc : coefs.length ≤ c0) (h1 : 1 ≤ coefs.length) (h2 : coefs.length ≤ powers.length) (h3 : coefs.length ≤ 1000000) (hl : l.length ≤ 1000000) :
  Calls Try.prog 86 #[.pointer (some ⟨g, 0, none⟩), .slice A0 coefs.length c0, vp] w fun e w' => e = .returned (.int .i64 (grGo coefs powers (coefs.length - 1) 0 ((l.length : Int) + 1) (l ++ [⟨0, rd coefs 0, 0⟩])).1) ∧ Fr w0 ws P0 (L.set i (wr8 g (grGo coefs powers (coefs.length - 1) 0 ((l.length : Int) + 1) (l ++ [⟨0, rd coefs 0, 0⟩])).2)) w' := by
 have HI := Aside0.mk hi
 have HJ := Aside0.mk hj
 have HIJ := Aside0.mk hij
 have HC := Aside0.mk hC
 have HN := Aside0.mk (show 1 ≤ coefs.length ∧ coefs.length ≤ powers.length ∧ coefs.length ≤ 1000000 ∧ l.length ≤ 1000000 from ⟨h1, h2, h3, hl⟩)
 obtain ⟨A, c, rfl, _, _⟩ := h.row_reads hj
 obtain ⟨ad, e1, hx⟩ := Kd.at_int (hC w (h.forget i)) 0 (by omega) (by omega)
 cases e1
 rw [show ((0 : Int)).toNat = 0 from rfl, Addr.add_zero'] at hx
 have HQ := Aside0.mk (constant_fr (rd coefs 0) h hi (by omega))
 have q0 : (0 < coefs.length) = True := eq_true (by omega)
 clear h hi hj hij hC h2 h3 hl
 by_cases hcc : c0 = 1
 ·subst hcc
  have hlen : coefs.length = 1 := by omega
  go_enter Try.func86, Try.ntmps86
  go_wp2_with (go_at_call 79; refine HQ.out.mono ?_; rintro e w1 ⟨rfl, h1_⟩; have H1 := Aside0.mk h1_; clear h1_)
  go_loopg [7, 18] (coefs.length - 1) (fun d v7 v18 w' => ∃ (i_ : Nat) (at_ : Int) (m : List SOp), v7 = .int .i64 at_ ∧ v18 = .int .i64 (i_ : Int) ∧ Aside0 (grGo coefs powers d i_ at_ m = grGo coefs powers (coefs.length - 1) 0 ((l.length : Int) + 1) (l ++ [⟨0, rd coefs 0, 0⟩])) ∧ Aside0 (i_ + d + 1 = coefs.length ∧ m.length + 2 * d ≤ l.length + 2 * coefs.length) ∧ Aside0 (Fr w0 ws P0 (L.set i (wr8 g m)) w'))
  case atStart =>
   exact ⟨0, _, _, rfl, rfl, ⟨rfl⟩, ⟨by simp; omega⟩, H1⟩
  case round =>
   obtain ⟨i_, at_, m, rfl, rfl, HE, HM, H2⟩ := hrel
   clear H1 HQ
   cases gk with
   | zero =>
    have hm := HM.out
    have c1 : decide (i_ < coefs.length - 1) = false := decide_eq_false (by omega)
    clear hm
    go_wp2
    go_ret
    have he := HE.out
    simp only [grGo] at he
    rw [← he]
    exact ⟨rfl, H2.out⟩
   | succ d =>
    have hm := HM.out
    omega
 ·have hcc' : (c0 = 1) = False := eq_false hcc
  go_enter Try.func86, Try.ntmps86
  go_wp2_with (go_at_call 79; refine HQ.out.mono ?_; rintro e w1 ⟨rfl, h1_⟩; have H1 := Aside0.mk h1_; clear h1_)
  go_loopg [7, 18] (coefs.length - 1) (fun d v7 v18 w' => ∃ (i_ : Nat) (at_ : Int) (m : List SOp), v7 = .int .i64 at_ ∧ v18 = .int .i64 (i_ : Int) ∧ Aside0 (grGo coefs powers d i_ at_ m = grGo coefs powers (coefs.length - 1) 0 ((l.length : Int) + 1) (l ++ [⟨0, rd coefs 0, 0⟩])) ∧ Aside0 (i_ + d + 1 = coefs.length ∧ m.length + 2 * d ≤ l.length + 2 * coefs.length) ∧ Aside0 (Fr w0 ws P0 (L.set i (wr8 g m)) w'))
  case atStart =>
   exact ⟨0, _, _, rfl, rfl, ⟨rfl⟩, ⟨by simp; omega⟩, H1⟩
  case round =>
   obtain ⟨i_, at_, m, rfl, rfl, HE, HM, H2⟩ := hrel
   clear H1 HQ
   cases gk with
   | zero =>
    have hm := HM.out
    have c1 : decide (i_ < coefs.length - 1) = false := decide_eq_false (by omega)
    clear hm
    go_wp2
    go_ret
    have he := HE.out
    simp only [grGo] at he
    rw [← he]
    exact ⟨rfl, H2.out⟩
   | succ d =>
    have hm := HM.out
    have hN := HN.out
    have c1 : decide (i_ < coefs.length - 1) = true := decide_eq_true (by omega)
    obtain ⟨ad2, e2, hx2⟩ := Kd.at_int (HC.out wr (by simpa using H2.out.forget i)) ((i_ + 1 : Nat) : Int) (by omega) (by omega)
    cases e2
    rw [Int.toNat_natCast] at hx2
    have q1 : (i_ < coefs.length - 1) = True := eq_true (by omega)
    have hx3 : wr.cell? ⟨ad.block, ad.off + 1 + i_, none⟩ = some (.int .i64 (rd coefs ((i_ + 1 : Nat) : Int))) := by
     rw [show ad.off + 1 + i_ = ad.off + (i_ + 1) by omega]; exact hx2
    obtain ⟨A2, c2, e2, hcap, hCp⟩ := H2.out.row_reads (Fr.set_ne HIJ.out HJ.out)
    injection e2 with e2 _ e3
    subst e2
    subst e3
    obtain ⟨ap, e2, hy⟩ := Kd.at_int hCp ((i_ + 1 : Nat) : Int) (by omega) (by omega)
    cases e2
    rw [Int.toNat_natCast] at hy
    have hy2 : wr.cell? ⟨ap.block, ap.off + (i_ + 1), none⟩ = some (.int .i64 (rd powers ((i_ : Int) + 1))) := by
     have := hy; rwa [show ((i_ + 1 : Nat) : Int) = (i_ : Int) + 1 by omega] at this
    have q2 : (i_ + 1 < powers.length) = True := eq_true (by omega)
    have q3 : (0 ≤ (i_ : Int) + 1) = True := eq_true (by omega)
    have q4 : ((i_ : Int) + 1 < (powers.length : Int)) = True := eq_true (by omega)
    have q5 : ((i_ : Int) + 1).toNat = i_ + 1 := by omega
    have hw1 : wrap64 ((i_ : Int) + 1) = (i_ : Int) + 1 := by unfold wrap64; omega
    have HS := Aside0.mk (show m.length + 2 < 5000000 by omega)
    have HC1 := Aside0.mk (put_fr 2 (rd powers ((i_ : Int) + 1)) (rd coefs ((i_ + 1 : Nat) : Int)) H2.out (Fr.set_at HI.out) (by omega))
    rw [List.set_set] at HC1
    clear hm hN hCp hcap
    go_wp2_with (first | (go_at_call 80; refine HC1.out.mono ?_; clear HC1; rintro e w9 ⟨rfl, k1⟩; have H8 := Aside0.mk k1; have HC2 := Aside0.mk (put_fr 1 at_ ((m.length : Int) + 1) k1 (Fr.set_at HI.out) (by have := HS.out; simp; omega)); rw [List.set_set] at HC2; clear k1) | (go_at_call 80; refine HC2.out.mono ?_; clear HC2; rintro e w10 ⟨rfl, k1⟩; have H9 := Aside0.mk k1; clear k1))
    go_roundg d
    case measure => omega
    case rel => exact ⟨i_ + 1, (m.length : Int) + 2, m ++ [(⟨2, rd powers ((i_ + 1 : Nat) : Int), rd coefs ((i_ + 1 : Nat) : Int)⟩ : SOp)] ++ [(⟨1, at_, (m.length : Int) + 1⟩ : SOp)], by simp [Int.add_assoc], by rw [hw1]; congr 1, ⟨HE.out⟩, ⟨by have := HM.out; simp; omega⟩, ⟨by have := H9.out; rwa [show (i_ : Int) + 1 = ((i_ + 1 : Nat) : Int) by omega] at this⟩⟩

set_option maxHeartbeats 4000000 in
set_option maxRecDepth 100000 in
theorem code_fr (k : Nat) {out : Int} {r1 : List SOp} {r2 : Int} {r3 : Bool} (h : Fr w0 ws P0 L w) (hi : L[i]? = some (wr8 g l)) (hT : impl_toldCode.f k l out = some (r1, r2, r3)) :
  Calls Try.prog 81 #[.pointer (some ⟨g, 0, none⟩), .int .i64 out] w fun e w' => ∃ v, e = .returned (.tuple #[.agg #[v, .int .i64 r2], .bool r3]) ∧ Fr w0 ws P0 (row k69 69 v r1 :: L.set i gone) w' := by
 have hu39 := Try.underlying39
 obtain ⟨v, h1⟩ := h.obj_open hi
 have hb1 : (row k69 69 v l :: L.set i (box g 78 #[v]))[i + 1]? = some (box g 78 #[v]) := by simpa using Fr.set_at hi
 obtain ⟨A, c, rfl, _, _⟩ := h1.row_reads (i := 0) rfl
 have HT := Aside0.mk hT
 have H1 := Aside0.mk h1
 have B1 := Aside0.mk hb1
 clear hT h h1 hb1 hi
 go_enter Try.func81, Try.ntmps81
 go_wp2_with (first | ((with_reducible refine zai (N := 4) rfl ?_); refine zah ?hg (N := 4) ?hd (cs := #[.slice none 0 0, .int .i64 0]) (t := 39) ?hr ?_; (case hd => rfl); (case hg => rfl); (case hr => first | (go_simp; done) | (go_simp; rfl)); intro gr hgr w1 hbox hb; have H2 := Aside0.mk (H1.out.box_new hbox hb hgr); have hc0 : w1.cell? ⟨g, 0, none⟩ = some (.slice A l.length c) := H2.out.zab (i := i + 2) (by simpa using B1.out) 0 rfl; obtain ⟨F, f1, f2, f3⟩ := H2.out.focus (i := 1) rfl; have F1 := Aside0.mk f1; have F3 := Aside0.mk f3; clear hbox hb hgr f1 f2 f3) | (go_at_call 104; refine (impl_toldCode.calls k _ (.slice A l.length c) l out r1 r2 r3 w0 w1 H2.out.bel F1.out HT.out).mono ?_; rintro e w2 ⟨v0, rfl, hr, hb, hk⟩; have H3 := Aside0.mk (F3.out w2 (row k69 69 v0 r1) ⟨hb.os.trans H2.out.bel.os.symm, hb.tape.trans H2.out.bel.tape.symm, hb.output.trans H2.out.bel.output.symm, hk.1, fun i hi => (hb.block i hi).trans (H2.out.bel.block i hi).symm⟩ hk hr); have hs0 : w2.cell? ⟨gr, 0, none⟩ = some (.slice none 0 0) := H3.out.zab (i := 0) rfl 0 rfl; have hs1 : w2.cell? ⟨gr, 1, none⟩ = some (.int .i64 0) := H3.out.zab (i := 0) rfl 1 rfl; have hf0 := za7 (H3.out.zaq (i := 0) rfl) 0; have hf1 := za7 (H3.out.zaq (i := 0) rfl) 1; obtain ⟨A2, c2, rfl⟩ := Kd.zas hr; clear hr hb hk))
 have h4 := (H3.out.box_set (i := 0) rfl 0 (.slice A2 r1.length c2) rfl).box_set (i := 0) rfl 1 (.int .i64 r2) rfl
 refine bodyPost_ret (results_ct rfl _ _ gr 39 #[.slice A2 r1.length c2, .int .i64 r2] (0, 0) _ rfl (h4.zaq (i := 0) rfl) Try.underlying39 rfl (by kernel_rfl)) rfl ?_
 have h5 := (h4.drop).forget (i + 1)
 simp only [List.set_cons_succ, List.set_cons_zero, List.set_set] at h5
 exact ⟨_, rfl, h5⟩
end
/-! ### laws_szOpS: function 64 -/
def laws_szOpS.f (l0 : List (S93)) (a1 : Int) : Option (Int) := if (wrap64 (a1 - (l0.length : Int))) < 0 then (some (-1)) else (some (wrap64 (a1 - (l0.length : Int))))
set_option maxHeartbeats 8000000 in
set_option maxRecDepth 100000 in
theorem laws_szOpS.calls (A0 : Option Addr) (c0 : Nat) (l0 : List (S93)) (a1 : Int) (r : Int) (w : World) (hr0 : Kd.C k93 w A0 l0.length l0) (hc0 : l0.length ≤ c0) (h : laws_szOpS.f l0 a1 = some r) :
  Calls Try.prog 64 #[.slice A0 l0.length c0, .int .i64 a1] w fun e w' => e = .returned (.int .i64 r) ∧ Drawn0 w w' := by
 have HR0 := Aside0.mk hr0
 have HC0 := Aside0.mk hc0
 clear hr0 hc0
 have H : (if (wrap64 (a1 - (l0.length : Int))) < 0 then (some (-1)) else (some (wrap64 (a1 - (l0.length : Int))))) = some r := h
 clear h
 by_cases c3 : (wrap64 (a1 - (l0.length : Int))) < 0
 ·rw [if_pos c3] at H
  have c3b0 : decide ((wrap64 (a1 - (l0.length : Int))) < 0) = true := decide_eq_true c3
  clear c3
  obtain rfl := Option.some.inj H
  go_enter Try.func64, Try.ntmps64
  go_wp2
  go_ret
  exact ⟨by first | rfl | (simp; done) | (simp [*]; done), by repeat (first | exact Drawn0.refl _ | apply Drawn0.step)⟩
 ·rw [if_neg c3] at H
  have c3b0 : decide ((wrap64 (a1 - (l0.length : Int))) < 0) = false := decide_eq_false c3
  clear c3
  obtain rfl := Option.some.inj H
  go_enter Try.func64, Try.ntmps64
  go_wp2
  go_ret
  exact ⟨by first | rfl | (simp; done) | (simp [*]; done), by repeat (first | exact Drawn0.refl _ | apply Drawn0.step)⟩

/-! ### laws_szCode: function 24 -/
def laws_szCode.f (l0_0 : List (S93)) (a0_1 : Int) (a1 : Int) : Option (Int) := (laws_szOpS.f l0_0 a1).bind fun t419 => (if t419 < 0 then (some (-1)) else (some t419))
set_option maxHeartbeats 8000000 in
set_option maxRecDepth 100000 in
theorem laws_szCode.calls (A0_0 : Option Addr) (c0_0 : Nat) (l0_0 : List (S93)) (a0_1 : Int) (a1 : Int) (r : Int) (w : World) (hr0_0 : Kd.C k93 w A0_0 l0_0.length l0_0) (hc0_0 : l0_0.length ≤ c0_0) (h : laws_szCode.f l0_0 a0_1 a1 = some r) :
  Calls Try.prog 24 #[.agg #[.slice A0_0 l0_0.length c0_0, .int .i64 a0_1], .int .i64 a1] w fun e w' => e = .returned (.int .i64 r) ∧ Below w.heap.size w w' := by
 have hu34 := Try.underlying34
 have HR0_0 := Aside0.mk hr0_0
 have HC0_0 := Aside0.mk hc0_0
 clear hr0_0 hc0_0
 have HB := Aside0.mk (Below.refl w.heap.size w)
 have H : ((laws_szOpS.f l0_0 a1).bind fun t419 => (if t419 < 0 then (some (-1)) else (some t419))) = some r := h
 clear h
 replace H := Option.bind_eq_some_iff.mp H
 obtain ⟨t419, A30, H⟩ := H
 replace H : (if t419 < 0 then (some (-1)) else (some t419)) = some r := H
 have A3 := Aside0.mk A30
 clear A30
 by_cases c4 : t419 < 0
 ·rw [if_pos c4] at H
  have c4b0 : decide (t419 < 0) = true := decide_eq_true c4
  clear c4
  obtain rfl := Option.some.inj H
  go_enter Try.func24, Try.ntmps24
  go_wp2_with (first | ((with_reducible refine zai (N := 2) rfl ?_); refine zah ?hg (N := 2) ?hd (cs := #[.slice A0_0 l0_0.length c0_0, .int .i64 a0_1]) (t := 34) ?hr ?_; (case hd => rfl); (case hg => rfl); (case hr => first | (go_simp; done) | (go_simp; rfl)); intro gb418 hg w5 hbox hb; have n0_ := Aside0.mk (zac (by repeat (first | (with_reducible first | exact HB.out | apply za2 | apply za0 | apply za1) | exact HB.out)) hb); have n1_ := Aside0.mk (hbox); have n2_ := Aside0.mk ((by rw [hg]; exact (zaa (by repeat (first | (with_reducible first | exact HB.out | apply za2 | apply za0 | apply za1) | exact HB.out))) : w.heap.size ≤ gb418)); have n3_ := Aside0.mk ((by rw [hg]; exact (zaa (by repeat (first | (with_reducible first | exact HB.out | apply za2 | apply za0 | apply za1) | exact HB.out))) : w.heap.size ≤ gb418)); clear HB; have HB := n0_; have BK418 := n1_; have GW418 := n2_; have GE418 := n3_; clear n0_ n1_ n2_ n3_; clear hb hbox hg; have hcz6_0 : w5.cell? ⟨gb418, 0, none⟩ = some (.slice A0_0 l0_0.length c0_0) := (za8 BK418.out 0).trans rfl; have hcz6_1 : w5.cell? ⟨gb418, 1, none⟩ = some (.int .i64 a0_1) := (za8 BK418.out 1).trans rfl; have hfz6_0 := za7 BK418.out 0; have hfz6_1 := za7 BK418.out 1) | ((with_reducible refine zal (f := 64) rfl ?_); refine goesL_ (some 8) rfl rfl Try.func64 (by kernel_rfl) rfl #[.slice A0_0 l0_0.length c0_0, .int .i64 a1] rfl (by (try simp only [List.map_toArray, List.map_cons, List.map_nil]); first | done | rfl | (simp only [List.length_drop, List.length_take]; rfl)) ?_; (with_reducible refine (laws_szOpS.calls _ _ l0_0 a1 t419 _ ?side1 ?side2 A3.out).mono ?_); (case side1 => repeat (first | exact (Kd.zar HR0_0.out HB.out) | (with_reducible refine Kd.zav ?_ _) | (with_reducible refine Kd.zau ?_ _) | (with_reducible refine Kd.zaz ?_))); (case side2 => exact HC0_0.out); rintro e w' ⟨rfl, ⟨nd, rfl⟩⟩; refine ⟨_, rfl, ?_⟩))
  go_ret
  exact ⟨by first | rfl | (simp [zaf, zae] <;> rfl) | (simp [*, zaf, zae] <;> rfl), by repeat (first | (with_reducible first | exact HB.out | apply za2 | apply za0 | apply za1 | refine za3 ?_ GE418.out) | exact HB.out)⟩
 ·rw [if_neg c4] at H
  have c4b0 : decide (t419 < 0) = false := decide_eq_false c4
  clear c4
  obtain rfl := Option.some.inj H
  go_enter Try.func24, Try.ntmps24
  go_wp2_with (first | ((with_reducible refine zai (N := 2) rfl ?_); refine zah ?hg (N := 2) ?hd (cs := #[.slice A0_0 l0_0.length c0_0, .int .i64 a0_1]) (t := 34) ?hr ?_; (case hd => rfl); (case hg => rfl); (case hr => first | (go_simp; done) | (go_simp; rfl)); intro gb418 hg w7 hbox hb; have n0_ := Aside0.mk (zac (by repeat (first | (with_reducible first | exact HB.out | apply za2 | apply za0 | apply za1) | exact HB.out)) hb); have n1_ := Aside0.mk (hbox); have n2_ := Aside0.mk ((by rw [hg]; exact (zaa (by repeat (first | (with_reducible first | exact HB.out | apply za2 | apply za0 | apply za1) | exact HB.out))) : w.heap.size ≤ gb418)); have n3_ := Aside0.mk ((by rw [hg]; exact (zaa (by repeat (first | (with_reducible first | exact HB.out | apply za2 | apply za0 | apply za1) | exact HB.out))) : w.heap.size ≤ gb418)); clear HB; have HB := n0_; have BK418 := n1_; have GW418 := n2_; have GE418 := n3_; clear n0_ n1_ n2_ n3_; clear hb hbox hg; have hcz8_0 : w7.cell? ⟨gb418, 0, none⟩ = some (.slice A0_0 l0_0.length c0_0) := (za8 BK418.out 0).trans rfl; have hcz8_1 : w7.cell? ⟨gb418, 1, none⟩ = some (.int .i64 a0_1) := (za8 BK418.out 1).trans rfl; have hfz8_0 := za7 BK418.out 0; have hfz8_1 := za7 BK418.out 1) | ((with_reducible refine zal (f := 64) rfl ?_); refine goesL_ (some 8) rfl rfl Try.func64 (by kernel_rfl) rfl #[.slice A0_0 l0_0.length c0_0, .int .i64 a1] rfl (by (try simp only [List.map_toArray, List.map_cons, List.map_nil]); first | done | rfl | (simp only [List.length_drop, List.length_take]; rfl)) ?_; (with_reducible refine (laws_szOpS.calls _ _ l0_0 a1 t419 _ ?side1 ?side2 A3.out).mono ?_); (case side1 => repeat (first | exact (Kd.zar HR0_0.out HB.out) | (with_reducible refine Kd.zav ?_ _) | (with_reducible refine Kd.zau ?_ _) | (with_reducible refine Kd.zaz ?_))); (case side2 => exact HC0_0.out); rintro e w' ⟨rfl, ⟨nd, rfl⟩⟩; refine ⟨_, rfl, ?_⟩))
  go_ret
  exact ⟨by first | rfl | (simp [zaf, zae] <;> rfl) | (simp [*, zaf, zae] <;> rfl), by repeat (first | (with_reducible first | exact HB.out | apply za2 | apply za0 | apply za1 | refine za3 ?_ GE418.out) | exact HB.out)⟩

/-! ### laws_toOp: function 97 -/
def laws_toOp.f (a0_0 : Int) (a0_1 : Int) (a0_2 : Int) : Option (Int × Int × Int) := some (a0_0, a0_1, a0_2)
set_option maxHeartbeats 8000000 in
set_option maxRecDepth 100000 in
theorem laws_toOp.calls (a0_0 : Int) (a0_1 : Int) (a0_2 : Int) (r1 : Int) (r2 : Int) (r3 : Int) (w : World) (h : laws_toOp.f a0_0 a0_1 a0_2 = some (r1, r2, r3)) :
  Calls Try.prog 97 #[.agg #[.int .i64 a0_0, .int .i64 a0_1, .int .i64 a0_2]] w fun e w' => e = .returned (.agg #[.int .i64 r1, .int .i64 r2, .int .i64 r3]) ∧ Below w.heap.size w w' := by
 have hu93 := Try.underlying93
 have hu69 := Try.underlying69
 have HB := Aside0.mk (Below.refl w.heap.size w)
 have H : (some (a0_0, a0_1, a0_2)) = some (r1, r2, r3) := h
 clear h
 simp only [Option.some.injEq, Prod.mk.injEq] at H
 obtain ⟨rfl, rfl, rfl⟩ := H
 go_enter Try.func97, Try.ntmps97
 go_wp2_with (first | ((with_reducible refine zai (N := 1) rfl ?_); refine zah ?hg (N := 1) ?hd (cs := #[.int .i64 a0_0, .int .i64 a0_1, .int .i64 a0_2]) (t := 93) ?hr ?_; (case hd => rfl); (case hg => rfl); (case hr => first | (go_simp; done) | (go_simp; rfl)); intro gb420 hg w2 hbox hb; have n0_ := Aside0.mk (zac (by repeat (first | (with_reducible first | exact HB.out | apply za2 | apply za0 | apply za1) | exact HB.out)) hb); have n1_ := Aside0.mk (hbox); have n2_ := Aside0.mk ((by rw [hg]; exact (zaa (by repeat (first | (with_reducible first | exact HB.out | apply za2 | apply za0 | apply za1) | exact HB.out))) : w.heap.size ≤ gb420)); have n3_ := Aside0.mk ((by rw [hg]; exact (zaa (by repeat (first | (with_reducible first | exact HB.out | apply za2 | apply za0 | apply za1) | exact HB.out))) : w.heap.size ≤ gb420)); clear HB; have HB := n0_; have BK420 := n1_; have GW420 := n2_; have GE420 := n3_; clear n0_ n1_ n2_ n3_; clear hb hbox hg) | ((with_reducible refine zai (N := 2) rfl ?_); refine zah ?hg (N := 2) ?hd (cs := #[.int .i64 0, .int .i64 0, .int .i64 0]) (t := 69) ?hr ?_; (case hd => rfl); (case hg => rfl); (case hr => first | (go_simp; done) | (go_simp; rfl)); intro gb421 hg w3 hbox hb; have n0_ := Aside0.mk (zad (g := gb420) (o := .cells #[.int .i64 a0_0, .int .i64 a0_1, .int .i64 a0_2] 93 (0, 0)) (by (with_reducible repeat (first | refine za5 ?_ _ | refine za6 ?_ | refine za4 ?_ _)); exact BK420.out) hb); have n1_ := Aside0.mk (zac (by repeat (first | (with_reducible first | exact HB.out | apply za2 | apply za0 | apply za1 | refine za3 ?_ GE420.out) | exact HB.out)) hb); have n2_ := Aside0.mk (hbox); have n3_ := Aside0.mk ((by rw [hg]; exact (zaa (by repeat (first | (with_reducible first | exact HB.out | apply za2 | apply za0 | apply za1 | refine za3 ?_ GE420.out) | exact HB.out))) : w.heap.size ≤ gb421)); have n4_ := Aside0.mk ((by rw [hg]; exact (zaa (by repeat (first | (with_reducible first | exact HB.out | apply za2 | apply za0 | apply za1 | refine za3 ?_ GE420.out) | exact HB.out))) : w.heap.size ≤ gb421)); have n5_ := Aside0.mk ((by rw [hg]; exact Nat.ne_of_lt (zao (g := gb420) (o := .cells #[.int .i64 a0_0, .int .i64 a0_1, .int .i64 a0_2] 93 (0, 0)) (by (with_reducible repeat (first | refine za5 ?_ _ | refine za6 ?_ | refine za4 ?_ _)); exact BK420.out)) : gb420 ≠ gb421)); have n6_ := Aside0.mk ((by rw [hg]; exact Nat.ne_of_gt (zao (g := gb420) (o := .cells #[.int .i64 a0_0, .int .i64 a0_1, .int .i64 a0_2] 93 (0, 0)) (by (with_reducible repeat (first | refine za5 ?_ _ | refine za6 ?_ | refine za4 ?_ _)); exact BK420.out)) : gb421 ≠ gb420)); clear BK420; clear HB; have BK420 := n0_; have HB := n1_; have BK421 := n2_; have GW421 := n3_; have GE421 := n4_; have NB420_421 := n5_; have NB421_420 := n6_; clear n0_ n1_ n2_ n3_ n4_ n5_ n6_; clear hb hbox hg) | ((with_reducible refine zai (N := 3) rfl ?_); refine zah ?hg (N := 3) ?hd (cs := #[.int .i64 0, .int .i64 0, .int .i64 0]) (t := 69) ?hr ?_; (case hd => rfl); (case hg => rfl); (case hr => first | (go_simp; done) | (go_simp; rfl)); intro gb422 hg w4 hbox hb; have n0_ := Aside0.mk (zad (g := gb420) (o := .cells #[.int .i64 a0_0, .int .i64 a0_1, .int .i64 a0_2] 93 (0, 0)) (by (with_reducible repeat (first | refine za5 ?_ _ | refine za6 ?_ | refine za4 ?_ _)); exact BK420.out) hb); have n1_ := Aside0.mk (zad (g := gb421) (o := .cells #[.int .i64 0, .int .i64 0, .int .i64 0] 69 (0, 0)) (by (with_reducible repeat (first | refine za5 ?_ _ | refine za6 ?_ | refine za4 ?_ _)); exact BK421.out) hb); have n2_ := Aside0.mk (zac (by repeat (first | (with_reducible first | exact HB.out | apply za2 | apply za0 | apply za1 | refine za3 ?_ GE420.out | refine za3 ?_ GE421.out) | exact HB.out)) hb); have n3_ := Aside0.mk (hbox); have n4_ := Aside0.mk ((by rw [hg]; exact (zaa (by repeat (first | (with_reducible first | exact HB.out | apply za2 | apply za0 | apply za1 | refine za3 ?_ GE420.out | refine za3 ?_ GE421.out) | exact HB.out))) : w.heap.size ≤ gb422)); have n5_ := Aside0.mk ((by rw [hg]; exact (zaa (by repeat (first | (with_reducible first | exact HB.out | apply za2 | apply za0 | apply za1 | refine za3 ?_ GE420.out | refine za3 ?_ GE421.out) | exact HB.out))) : w.heap.size ≤ gb422)); have n6_ := Aside0.mk ((by rw [hg]; exact Nat.ne_of_lt (zao (g := gb420) (o := .cells #[.int .i64 a0_0, .int .i64 a0_1, .int .i64 a0_2] 93 (0, 0)) (by (with_reducible repeat (first | refine za5 ?_ _ | refine za6 ?_ | refine za4 ?_ _)); exact BK420.out)) : gb420 ≠ gb422)); have n7_ := Aside0.mk ((by rw [hg]; exact Nat.ne_of_gt (zao (g := gb420) (o := .cells #[.int .i64 a0_0, .int .i64 a0_1, .int .i64 a0_2] 93 (0, 0)) (by (with_reducible repeat (first | refine za5 ?_ _ | refine za6 ?_ | refine za4 ?_ _)); exact BK420.out)) : gb422 ≠ gb420)); have n8_ := Aside0.mk ((by rw [hg]; exact Nat.ne_of_lt (zao (g := gb421) (o := .cells #[.int .i64 0, .int .i64 0, .int .i64 0] 69 (0, 0)) (by (with_reducible repeat (first | refine za5 ?_ _ | refine za6 ?_ | refine za4 ?_ _)); exact BK421.out)) : gb421 ≠ gb422)); have n9_ := Aside0.mk ((by rw [hg]; exact Nat.ne_of_gt (zao (g := gb421) (o := .cells #[.int .i64 0, .int .i64 0, .int .i64 0] 69 (0, 0)) (by (with_reducible repeat (first | refine za5 ?_ _ | refine za6 ?_ | refine za4 ?_ _)); exact BK421.out)) : gb422 ≠ gb421)); clear BK420; clear BK421; clear HB; have BK420 := n0_; have BK421 := n1_; have HB := n2_; have BK422 := n3_; have GW422 := n4_; have GE422 := n5_; have NB420_422 := n6_; have NB422_420 := n7_; have NB421_422 := n8_; have NB422_421 := n9_; clear n0_ n1_ n2_ n3_ n4_ n5_ n6_ n7_ n8_ n9_; clear hb hbox hg; have hnb5 := NB420_421.out; have hnc5 := NB421_420.out; have hnb6 := NB420_422.out; have hnc6 := NB422_420.out; have hcz7_0 : w4.cell? ⟨gb420, 0, none⟩ = some (.int .i64 a0_0) := (za8 BK420.out 0).trans rfl; have hcz7_1 : w4.cell? ⟨gb420, 1, none⟩ = some (.int .i64 a0_1) := (za8 BK420.out 1).trans rfl; have hcz7_2 : w4.cell? ⟨gb420, 2, none⟩ = some (.int .i64 a0_2) := (za8 BK420.out 2).trans rfl; have hfz7_0 := za7 BK420.out 0; have hfz7_1 := za7 BK420.out 1; have hfz7_2 := za7 BK420.out 2; have hnb8 := NB422_421.out; have hnc8 := NB421_422.out; have hcz9_0 : w4.cell? ⟨gb422, 0, none⟩ = some (.int .i64 0) := (za8 BK422.out 0).trans rfl; have hcz9_1 : w4.cell? ⟨gb422, 1, none⟩ = some (.int .i64 0) := (za8 BK422.out 1).trans rfl; have hcz9_2 : w4.cell? ⟨gb422, 2, none⟩ = some (.int .i64 0) := (za8 BK422.out 2).trans rfl; have hfz9_0 := za7 BK422.out 0; have hfz9_1 := za7 BK422.out 1; have hfz9_2 := za7 BK422.out 2; have hcz10_0 : w4.cell? ⟨gb421, 0, none⟩ = some (.int .i64 0) := (za8 BK421.out 0).trans rfl; have hcz10_1 : w4.cell? ⟨gb421, 1, none⟩ = some (.int .i64 0) := (za8 BK421.out 1).trans rfl; have hcz10_2 : w4.cell? ⟨gb421, 2, none⟩ = some (.int .i64 0) := (za8 BK421.out 2).trans rfl; have hfz10_0 := za7 BK421.out 0; have hfz10_1 := za7 BK421.out 1; have hfz10_2 := za7 BK421.out 2))
 refine bodyPost_ret (results_cell_row rfl _ _ gb421 69 #[.int .i64 a0_0, .int .i64 a0_1, .int .i64 a0_2] (0, 0) _ rfl (by (with_reducible repeat (first | refine za5 ?_ _ | refine za6 ?_ | refine za4 ?_ _)); refine zat (cs := #[.int .i64 a0_0, .int .i64 a0_1, .int .i64 0]) ?_ 2 _ rfl; (with_reducible repeat (first | refine za5 ?_ _ | refine za6 ?_ | refine za4 ?_ _)); refine zat (cs := #[.int .i64 a0_0, .int .i64 0, .int .i64 0]) ?_ 1 _ rfl; (with_reducible repeat (first | refine za5 ?_ _ | refine za6 ?_ | refine za4 ?_ _)); refine zat (cs := #[.int .i64 0, .int .i64 0, .int .i64 0]) ?_ 0 _ rfl; (with_reducible repeat (first | refine za5 ?_ _ | refine za6 ?_ | refine za4 ?_ _)); refine zay ?_ NB421_422.out _; (with_reducible repeat (first | refine za5 ?_ _ | refine za6 ?_ | refine za4 ?_ _)); refine zay ?_ NB421_422.out _; (with_reducible repeat (first | refine za5 ?_ _ | refine za6 ?_ | refine za4 ?_ _)); refine zay ?_ NB421_422.out _; (with_reducible repeat (first | refine za5 ?_ _ | refine za6 ?_ | refine za4 ?_ _)); exact BK421.out) Try.underlying69 rfl (by kernel_rfl)) rfl ?_
 exact ⟨by first | rfl | (simp [zaf, zae] <;> rfl) | (simp [*, zaf, zae] <;> rfl), by repeat (first | (with_reducible first | exact HB.out | apply za2 | apply za0 | apply za1 | refine za3 ?_ GE420.out | refine za3 ?_ GE421.out | refine za3 ?_ GE422.out) | exact HB.out)⟩

end Go.Proofs.Ytgglemlhombgkaa.T
