import Derived.Test.YtdicngjloiphkaaKFnCodesRunL6p6
namespace Go.Proofs.Ytdicngjloiphkaa.L6
open Go.RowKit Go.Proofs.Ytdicngjloiphkaa.Frame Go.Proofs.YtdicngjloiphkaaW.PrintLast Go.Proofs.Ytdicngjloiphkaa.Hand
open Go.Proofs.YtdicngjloiphkaaW.PrintWords hiding mn mx
set_option linter.unusedVariables false
/-! ### loop.example/g01098/impl.AllocatePlan: function 25 -/
def impl_AllocatePlan.l2 (l1516 : List Bool) : Nat → (List Int) → Int → Option (List Int)
 | 0, l1519, i1520 => some l1519
 | k1523 + 1, l1519, i1520 => (gt l1519 i1520).bind fun y3835 => (if y3835 ≠ (-1) then ((gt l1516 y3835).bind fun y3849 => some (!y3849)) else (some false)).bind fun b3840 => if b3840 = true then ((gt l1519 i1520).bind fun y3852 => (st l1519 i1520 (-1)).bind fun l3853 => impl_AllocatePlan.l2 l1516 k1523 l3853 (i1520 + 1)) else (impl_AllocatePlan.l2 l1516 k1523 l1519 (i1520 + 1))
def impl_AllocatePlan.l1 (a0_0 : Int) (l0_1 : List SStep) (l0_2 : List Int) (l1464 : List Int) : (List SStep) → (List Int) → (List Int) → (List SRegOp) → Int → Option ((List Int) × (List Int) × (List SRegOp))
 | [], l1488, l1489, l1490, i1493 => some (l1488, l1489, l1490)
 | y1494 :: ys1495, l1488, l1489, l1490, i1493 => (impl_Plan_doneFirst.f a0_0 l0_1 l0_2 (i1493 + 1)).bind fun l1512 => (impl_Plan_needed.f a0_0 l0_1 l0_2 l1512).bind fun l1516 => (impl_AllocatePlan.l2 l1516 (((l1464.length : Int)).toNat) l1488 0).bind fun l1519 => (slices_Index_int_int.f l1519 (-1)).bind fun i1532 => ((gt l1489 y1494.f0).bind fun y3045 => (gt l1489 y1494.f1).bind fun y3344 => (ap l1490 ([(⟨i1532, y3045, y3344⟩ : SRegOp)] : List SRegOp)).bind fun l3583 => some l3583).bind fun l2674 => (gt l1519 i1532).bind fun y3825 => (st l1519 i1532 (w64 (a0_0 + i1493))).bind fun l3826 => (gt l1489 (w64 (a0_0 + i1493))).bind fun y3830 => (st l1489 (w64 (a0_0 + i1493)) i1532).bind fun l3831 => impl_AllocatePlan.l1 a0_0 l0_1 l0_2 l1464 ys1495 l3826 l3831 l2674 (i1493 + 1)
def impl_AllocatePlan.l0 : Nat → (List Int) → (List Int) → Int → Option ((List Int) × (List Int))
 | 0, l1473, l1474, i1475 => some (l1473, l1474)
 | k1478 + 1, l1473, l1474, i1475 => (gt l1473 i1475).bind fun y3857 => (st l1473 i1475 i1475).bind fun l3858 => (gt l1474 i1475).bind fun y3862 => (st l1474 i1475 i1475).bind fun l3863 => impl_AllocatePlan.l0 k1478 l3858 l3863 (i1475 + 1)
def impl_AllocatePlan.f (k : Nat) (a0_0 : Int) (l0_1 : List SStep) (l0_2 : List Int) : Option (Int × (List Int) × (List SRegOp) × (List Int) × Bool) := (impl_IsPlan.f k a0_0 l0_1 l0_2).bind fun b6 => if b6 = true then (((impl_firsts.f (l0_1.length : Int)).bind fun l921 => (impl_Plan_pressure.f a0_0 l0_1 l0_2 l921).bind fun i981 => (impl_firsts.f a0_0).bind fun l1161 => some (i981, l1161)).bind fun (i730, l731) => (slices_Repeat_int_int.f ([(-1)] : List Int) i730).bind fun l1464 => (impl_Plan_many.f a0_0 l0_1 l0_2).bind fun _ => (mk0 (w64 (a0_0 + (l0_1.length : Int))) (0 : Int)).bind fun l1468 => (bd a0_0).bind fun _ => (impl_AllocatePlan.l0 ((a0_0).toNat) l1464 l1468 0).bind fun (l1473, l1474) => (impl_AllocatePlan.l1 a0_0 l0_1 l0_2 l1464 l0_1 l1473 l1474 ([] : List SRegOp) 0).bind fun (l1488, l1489, l1490) => (impl_renamed.f l0_2 l1489).bind fun l1505 => some (i730, l731, l1490, l1505, true)) else (some (0, ([] : List Int), ([] : List SRegOp), ([] : List Int), false))
set_option maxHeartbeats 600000 in
set_option maxRecDepth 100000 in
theorem impl_AllocatePlan.calls (k : Nat) {w0 ws : World} {P0 : Nat → Prop} (a0_0 : Int) (A0_1 : Option Addr) (c0_1 : Nat) (n0_1 : Nat) (l0_1 : List SStep) (A0_2 : Option Addr) (c0_2 : Nat) (n0_2 : Nat) (l0_2 : List Int) (Z : Below w0.heap.size w0 ws) (hF : Fr w0 ws P0 [] ws) (R0_1 : Stable ws P0 (fun w => Kd.C kStep w A0_1 n0_1 l0_1)) (hc0_1 : n0_1 ≤ c0_1) (R0_2 : Stable ws P0 (fun w => Kd.C (Kd.int .i64) w A0_2 n0_2 l0_2)) (hc0_2 : n0_2 ≤ c0_2) (r_1 : Int) (r_2 : List Int) (r_5 : List SRegOp) (r_8 : List Int) (r_11 : Bool) (h : impl_AllocatePlan.f k a0_0 l0_1 l0_2 = some (r_1, r_2, r_5, r_8, r_11)) :
  Calls Try.prog 25 #[.agg #[.int .i64 a0_0, .slice A0_1 n0_1 c0_1, .slice A0_2 n0_2 c0_2]] ws (Post1 w0 ws P0 (fun ((q_3, q_4, q_6, q_7, q_9, q_10) : (Option Addr) × Nat × (Option Addr) × Nat × (Option Addr) × Nat) => .tuple #[.agg #[.int .i64 r_1, .slice q_3 r_2.length q_4, .slice q_6 r_5.length q_7, .slice q_9 r_8.length q_10], .bool r_11]) (fun ((q_3, q_4, q_6, q_7, q_9, q_10) : (Option Addr) × Nat × (Option Addr) × Nat × (Option Addr) × Nat) => [row (Kd.int .i64) 3 (.slice q_3 r_2.length q_4) r_2, row zb6 94 (.slice q_6 r_5.length q_7) r_5, row (Kd.int .i64) 3 (.slice q_9 r_8.length q_10) r_8])) := by
 unfold impl_AllocatePlan.f at h
 obtain rfl := (R0_1 ws (KeptB.refl _ _)).1
 obtain rfl := (R0_2 ws (KeptB.refl _ _)).1
 refine enter Try.func25 rfl Try.ntmps25 rfl hF ?_
 refine c_seq ?_
 refine za0 ?_
 refine o_e rfl (e_box rfl) (fun g1 => ?_)
 refine o_e rfl (zat V43 rfl) (fun g3 => ?_)
 refine o_q rfl rfl (q_asg rfl) ?_
 refine o_end ?_
 refine za1 ?_
 refine c_seq ?_
 refine c_seq ?_
 refine za0 ?_
 refine o_q rfl rfl (q_ldB G27 Z27 rfl (fun w h => h.zae (i := 1) rfl) rfl) ?_
 refine za7 h (fun b6 hx5 h => ?_) rfl
 refine o_e rfl (zab 0 Z Try.func67 N67 rfl rfl rfl (fun w P1 hF hB hS hT => impl_IsPlan.calls k a0_0 A0_1 c0_1 l0_1.length l0_1 A0_2 c0_2 l0_2.length l0_2 hB hF (hS _ R0_1) hc0_1 (hS _ R0_2) hc0_2 _ hx5)) (fun _ => ?_)
 refine o_q rfl rfl (q_not rfl) ?_
 refine o_end ?_
 refine za1 ?_
 refine zau _ rfl (fun hb7 => ?_) (fun hb7 => ?_)
 ·replace hb7 := nt_t hb7
  replace h := bb_f hb7 h
  refine c_seq ?_
  refine za0 ?_
  refine o_q rfl rfl (zb5 (vs := []) (cs := [.int .i64 0, .slice none 0 0, .slice none 0 0, .slice none 0 0]) rfl rfl) ?_
  refine o_e rfl (zan (i := 0) rfl rfl rfl Z43 rfl rfl) (fun _ => ?_)
  refine o_q rfl rfl (q_asg rfl) ?_
  refine o_end ?_
  refine za1 ?_
  refine c_ret ?_
  refine zaa ?_
  refine x_nil (Kd.int .i64) 3 ?_
  refine x_nil zb6 94 ?_
  refine x_nil (Kd.int .i64) 3 ?_
  have e0_ := Option.some.inj h; clear h
  have d0_ := (Prod.mk.inj e0_).1; have e1_ := (Prod.mk.inj e0_).2; clear e0_; subst d0_
  have d1_ := (Prod.mk.inj e1_).1; have e2_ := (Prod.mk.inj e1_).2; clear e1_; subst d1_
  have d2_ := (Prod.mk.inj e2_).1; have e3_ := (Prod.mk.inj e2_).2; clear e2_; subst d2_
  have d3_ := (Prod.mk.inj e3_).1; have e4_ := (Prod.mk.inj e3_).2; clear e3_; subst d3_
  subst e4_
  exact x_r2 (none, 0, none, 0, none, 0) Try.results25 (rv_cell rfl G43 Z43 (fun w h => h.zae (i := 3) rfl) rfl) (zai rfl) rfl (fun w h => za6 [2, 1, 0] (by decide) rfl w h)
 ·replace hb7 := nt_f hb7
  replace h := bb_t hb7 h
  refine zao ?_
  refine za1 ?_
  refine za7 h (fun o734 hl735 hR736 => ?_) rfl
  clear h
  refine c_cutJ (σ := Int × (List Int) × Nat × (Option Addr) × Nat) (fun (i730, l731, g729, A732, c733) => some (i730, l731) = some o734) [4, 18, 19, 20, 21, 22, 23, 24, 25, 26] (fun (i730, l731, g729, A732, c733) => [(4, .pointer (some ⟨g729, 0, none⟩))]) (fun (i730, l731, g729, A732, c733) => [box g1 27 #[.int .i64 a0_0, .slice A0_1 l0_1.length c0_1, .slice A0_2 l0_2.length c0_2], box g3 43 #[.int .i64 0, .slice none 0 0, .slice none 0 0, .slice none 0 0], box g729 43 #[.int .i64 i730, .slice A732 l731.length c733, .slice none 0 0, .slice none 0 0], row (Kd.int .i64) 3 (.slice A732 l731.length c733) l731]) ?_ ?_
  ·skip
   have h := hl735; clear hl735
   clear hR736
   refine za7 h (fun l921 hx920 h => ?_) rfl
   refine za7 h (fun i981 hx980 h => ?_) rfl
   refine za7 h (fun l1161 hx1160 h => ?_) rfl
   refine a_start (ds := []) MO rfl ?_
   refine za9 0 rfl rfl rfl (by kernel_rfl) (fun _ _ _ h => h) (q_f F27_1 rfl) ?_
   refine zb0 1 rfl rfl rfl (by kernel_rfl) (fun _ _ _ h => h) (fun w h => h) (q_ldb Y24 rfl (fun w h => h.zae (i := 1) rfl) rfl) ?_
   refine za9 2 rfl rfl rfl (by kernel_rfl) (fun _ _ _ h => h) (q_len Try.underlying24 rfl) ?_
   refine za9 5 rfl rfl rfl (by kernel_rfl) (fun _ _ _ h => h) (q_f F27_0 rfl) ?_
   refine zb0 6 rfl rfl rfl (by kernel_rfl) (fun _ _ _ h => h) (fun w h => h) (q_ldb Y3 rfl (fun w h => h.zae (i := 1) rfl) rfl) ?_
   refine a_two 3 9 rfl rfl rfl rfl (by kernel_rfl) rfl rfl (zab 0 Z Try.func77 N77 rfl rfl rfl (fun w P1 hF hB hS hT => impl_firsts.calls (l0_1.length : Int) hB hF _ hx920)) (fun s w h => za5 [some 1, some 2] (by decide) w h rfl) (zat V43 rfl) (fun s w h => za5 [some 1, some 2] (by decide) w h rfl) (cur2 (fun A922 c923 => ?_)) (fun g1280 => ?_)
   ·skip
    refine a_two 4 9 rfl rfl rfl rfl (by kernel_rfl) rfl rfl (zab 0 Z Try.func81 N81 rfl rfl rfl (fun w P1 hF hB hS hT => impl_Plan_pressure.calls g1 a0_0 A0_1 c0_1 l0_1.length l0_1 A0_2 c0_2 l0_2.length l0_2 A922 c923 l921.length l921 hB hF (hS _ R0_1) hc0_1 (hS _ R0_2) hc0_2 (hT 2 _ rfl).box (hT 0 _ rfl).row (hT 0 _ rfl).cap _ hx980)) (fun s w h => za5 [some 1, some 2] (by decide) w h rfl) (zat V43 rfl) (fun s w h => za5 [some 2, some 3] (by decide) w h rfl) (fun _ => ?_) (fun g1280 => ?_)
    ·skip
     refine a_two 7 9 rfl rfl rfl rfl (by kernel_rfl) rfl rfl (zab 0 Z Try.func77 N77 rfl rfl rfl (fun w P1 hF hB hS hT => impl_firsts.calls a0_0 hB hF _ hx1160)) (fun s w h => za5 [some 2, some 3] (by decide) w h rfl) (zat V43 rfl) (fun s w h => za5 [some 2, some 3] (by decide) w h rfl) (cur2 (fun A1162 c1163 => ?_)) (fun g1280 => ?_)
     ·skip
      refine za9 8 rfl rfl rfl (by kernel_rfl) (fun _ _ _ h => h) (zb5 (vs := [(0, .int .i64 i981), (1, .slice A1162 l1161.length c1163)]) (cs := [.int .i64 i981, .slice A1162 l1161.length c1163, .slice none 0 0, .slice none 0 0]) rfl rfl) ?_
      refine a_one 9 rfl rfl (by kernel_rfl) rfl (zat V43 rfl) (fun s w h => za5 [some 3, some 4] (by decide) w h rfl) (fun g1280 => ?_)
      refine a_one 10 rfl rfl (by kernel_rfl) rfl (zan (i := 0) rfl rfl rfl Z43 rfl rfl) (fun s w h => za5 [some 3, some 4] (by decide) w h rfl) (fun _ => ?_)
      refine zav (by kernel_rfl) ?_
      refine zas (i981, l1161, g1280, A1162, c1163) h ⟨rfl, trivial⟩ (fun w h => za6 [4, 3, 0, 1] (by decide) rfl w h) ?_
      repeat (first | exact zac _ _ | refine zaf rfl ?_ | refine zad rfl ?_ | refine zah rfl ?_)
     ·skip
      refine a_one 7 rfl rfl (by kernel_rfl) rfl (zab 0 Z Try.func77 N77 rfl rfl rfl (fun w P1 hF hB hS hT => impl_firsts.calls a0_0 hB hF _ hx1160)) (fun s w h => za5 [some 3, some 4] (by decide) w h rfl) (cur2 (fun A1162 c1163 => ?_))
      refine za9 8 rfl rfl rfl (by kernel_rfl) (fun _ _ _ h => h) (zb5 (vs := [(0, .int .i64 i981), (1, .slice A1162 l1161.length c1163)]) (cs := [.int .i64 i981, .slice A1162 l1161.length c1163, .slice none 0 0, .slice none 0 0]) rfl rfl) ?_
      refine a_one 10 rfl rfl (by kernel_rfl) rfl (zan (i := 1) rfl rfl rfl Z43 rfl rfl) (fun s w h => za5 [some 3, some 4] (by decide) w h rfl) (fun _ => ?_)
      refine zav (by kernel_rfl) ?_
      refine zas (i981, l1161, g1280, A1162, c1163) h ⟨rfl, trivial⟩ (fun w h => za6 [4, 3, 1, 0] (by decide) rfl w h) ?_
      repeat (first | exact zac _ _ | refine zaf rfl ?_ | refine zad rfl ?_ | refine zah rfl ?_)
    ·skip
     refine a_one 4 rfl rfl (by kernel_rfl) rfl (zab 0 Z Try.func81 N81 rfl rfl rfl (fun w P1 hF hB hS hT => impl_Plan_pressure.calls g1 a0_0 A0_1 c0_1 l0_1.length l0_1 A0_2 c0_2 l0_2.length l0_2 A922 c923 l921.length l921 hB hF (hS _ R0_1) hc0_1 (hS _ R0_2) hc0_2 (hT 3 _ rfl).box (hT 1 _ rfl).row (hT 1 _ rfl).cap _ hx980)) (fun s w h => za5 [some 2, some 3] (by decide) w h rfl) (fun _ => ?_)
     refine a_one 7 rfl rfl (by kernel_rfl) rfl (zab 0 Z Try.func77 N77 rfl rfl rfl (fun w P1 hF hB hS hT => impl_firsts.calls a0_0 hB hF _ hx1160)) (fun s w h => za5 [some 3, some 4] (by decide) w h rfl) (cur2 (fun A1162 c1163 => ?_))
     refine za9 8 rfl rfl rfl (by kernel_rfl) (fun _ _ _ h => h) (zb5 (vs := [(0, .int .i64 i981), (1, .slice A1162 l1161.length c1163)]) (cs := [.int .i64 i981, .slice A1162 l1161.length c1163, .slice none 0 0, .slice none 0 0]) rfl rfl) ?_
     refine a_one 10 rfl rfl (by kernel_rfl) rfl (zan (i := 1) rfl rfl rfl Z43 rfl rfl) (fun s w h => za5 [some 3, some 4] (by decide) w h rfl) (fun _ => ?_)
     refine zav (by kernel_rfl) ?_
     refine zas (i981, l1161, g1280, A1162, c1163) h ⟨rfl, trivial⟩ (fun w h => za6 [4, 3, 1, 0] (by decide) rfl w h) ?_
     repeat (first | exact zac _ _ | refine zaf rfl ?_ | refine zad rfl ?_ | refine zah rfl ?_)
   ·skip
    refine a_one 3 rfl rfl (by kernel_rfl) rfl (zab 0 Z Try.func77 N77 rfl rfl rfl (fun w P1 hF hB hS hT => impl_firsts.calls (l0_1.length : Int) hB hF _ hx920)) (fun s w h => za5 [some 2, some 3] (by decide) w h rfl) (cur2 (fun A922 c923 => ?_))
    refine a_one 4 rfl rfl (by kernel_rfl) rfl (zab 0 Z Try.func81 N81 rfl rfl rfl (fun w P1 hF hB hS hT => impl_Plan_pressure.calls g1 a0_0 A0_1 c0_1 l0_1.length l0_1 A0_2 c0_2 l0_2.length l0_2 A922 c923 l921.length l921 hB hF (hS _ R0_1) hc0_1 (hS _ R0_2) hc0_2 (hT 3 _ rfl).box (hT 0 _ rfl).row (hT 0 _ rfl).cap _ hx980)) (fun s w h => za5 [some 2, some 3] (by decide) w h rfl) (fun _ => ?_)
    refine a_one 7 rfl rfl (by kernel_rfl) rfl (zab 0 Z Try.func77 N77 rfl rfl rfl (fun w P1 hF hB hS hT => impl_firsts.calls a0_0 hB hF _ hx1160)) (fun s w h => za5 [some 3, some 4] (by decide) w h rfl) (cur2 (fun A1162 c1163 => ?_))
    refine za9 8 rfl rfl rfl (by kernel_rfl) (fun _ _ _ h => h) (zb5 (vs := [(0, .int .i64 i981), (1, .slice A1162 l1161.length c1163)]) (cs := [.int .i64 i981, .slice A1162 l1161.length c1163, .slice none 0 0, .slice none 0 0]) rfl rfl) ?_
    refine a_one 10 rfl rfl (by kernel_rfl) rfl (zan (i := 2) rfl rfl rfl Z43 rfl rfl) (fun s w h => za5 [some 3, some 4] (by decide) w h rfl) (fun _ => ?_)
    refine zav (by kernel_rfl) ?_
    refine zas (i981, l1161, g1280, A1162, c1163) h ⟨rfl, trivial⟩ (fun w h => za6 [4, 3, 2, 0] (by decide) rfl w h) ?_
    repeat (first | exact zac _ _ | refine zaf rfl ?_ | refine zad rfl ?_ | refine zah rfl ?_)
  ·skip
   refine (cur5 (fun i730 l731 g729 A732 c733 => fun U737 hJ738 => ?_))
   have e_ := Option.some.inj hJ738; have h := hR736; rw [← e_] at h; clear e_ hJ738 hR736 hl735
   refine c_seq ?_
   refine a_start (ds := []) MO rfl ?_
   refine za9 1 rfl rfl rfl (by kernel_rfl) (fun _ _ _ h => h) (q_f F43_0 rfl) ?_
   refine zb0 2 rfl rfl rfl (by kernel_rfl) (fun _ _ _ h => h) (fun w h => h) (q_ldb Y3 rfl (fun w h => h.zae (i := 2) rfl) rfl) ?_
   refine a_one 0 rfl rfl (by kernel_rfl) rfl (e_lit (vs := [(0, .int .i64 (-1))]) (cs := [.int .i64 (-1)]) (Kd.int .i64) ([(-1)] : List Int) Try.underlying25 I3 (by decide) rfl (by decide) rfl rfl (fun _ _ => Kd.zak _)) (fun s w h => za5 [some 1, some 2, some 3, some 4] (by decide) w h rfl) (cur2 (fun A1460 c1461 => ?_))
   refine za7 h (fun l1464 hx1463 h => ?_) rfl
   refine a_one 3 rfl rfl (by kernel_rfl) rfl (zab 0 Z Try.func83 N83 rfl rfl rfl (fun w P1 hF hB hS hT => slices_Repeat_int_int.calls A1460 c1461 (([(-1)] : List Int).length) ([(-1)] : List Int) i730 hB hF (hT 0 _ rfl).row (hT 0 _ rfl).cap _ hx1463)) (fun s w h => za5 [some 2, some 3, some 4, some 5] (by decide) w h rfl) (cur2 (fun A1465 c1466 => ?_))
   refine za7 h (fun _ hx1467 h => ?_) rfl
   refine a_one 4 rfl rfl (by kernel_rfl) rfl (zab 0 Z Try.func84 N84 rfl rfl rfl (fun w P1 hF hB hS hT => impl_Plan_many.calls g1 a0_0 A0_1 c0_1 l0_1.length l0_1 A0_2 c0_2 l0_2.length l0_2 hB hF (hS _ R0_1) hc0_1 (hS _ R0_2) hc0_2 (hT 2 _ rfl).box hx1467)) (fun s w h => za5 [some 2, some 3, some 4, some 5] (by decide) w h rfl) (fun _ => ?_)
   refine za9 6 rfl rfl rfl (by kernel_rfl) (fun _ _ _ h => h) (q_asg rfl) ?_
   refine za7 h (fun l1468 hm1469 h => ?_) rfl
   refine a_one 5 rfl rfl (by kernel_rfl) rfl (e_make (Kd.int .i64) (0 : Int) Try.underlying25 I3 rfl (by decide) (by decide) (fun _ _ => rfl) rfl rfl hm1469) (fun s w h => za5 [some 3, some 4, some 5, some 6] (by decide) w h rfl) (cur2 (fun A1470 c1471 => ?_))
   refine za9 7 rfl rfl rfl (by kernel_rfl) (fun _ _ _ h => h) (q_asg rfl) ?_
   refine zav (by kernel_rfl) ?_
   refine za1 ?_
   refine c_seq ?_
   refine c_seq ?_
   refine za0 ?_
   refine o_q rfl rfl (q_f F27_0 rfl) ?_
   refine o_q rfl rfl (q_ldb Y3 rfl (fun w h => h.zae (i := 3) rfl) rfl) ?_
   refine o_q rfl rfl (za2 rfl) ?_
   refine o_end ?_
   refine za1 ?_
   refine zaj ?_
   refine za7 h (fun _ hbd1484 h => ?_) rfl
   refine za7 h (fun o1483 hl1482 hR1481 => ?_) rfl
   clear h
   have hm1480 : a0_0 ≤ 9223372036854775807 := bd_le hbd1484
   refine zax (σ := (List Int) × (List Int) × Int) (fun k1478 ((l1473, l1474, i1475) : (List Int) × (List Int) × Int) => Cn a0_0 i1475 k1478 ∧ impl_AllocatePlan.l0 k1478 l1473 l1474 i1475 = some o1483) [7, 35, 36, 37, 38, 39, 40, 41, 42, 43, 44, 45, 46] (fun ((l1473, l1474, i1475) : (List Int) × (List Int) × Int) => [(35, .int .i64 i1475)]) (fun ((l1473, l1474, i1475) : (List Int) × (List Int) × Int) => [row (Kd.int .i64) 3 (.slice A1470 l1468.length c1471) l1474, row (Kd.int .i64) 3 (.slice A1465 l1464.length c1466) l1473, row (Kd.int .i64) 3 (.slice A1460 (([(-1)] : List Int).length) c1461) ([(-1)] : List Int), box g1 27 #[.int .i64 a0_0, .slice A0_1 l0_1.length c0_1, .slice A0_2 l0_2.length c0_2], box g3 43 #[.int .i64 0, .slice none 0 0, .slice none 0 0, .slice none 0 0], box g729 43 #[.int .i64 i730, .slice A732 l731.length c733, .slice none 0 0, .slice none 0 0], row (Kd.int .i64) 3 (.slice A732 l731.length c733) l731]) (a0_0).toNat (l1464, l1468, 0) ⟨Cn.start hm1480, hl1482⟩ ⟨rfl, trivial⟩ (fun w h => h) ?_
   refine natC (cur3 (fun l1473 l1474 i1475 => fun U1485 hJ_ => ?_)) (fun k1478 => (cur3 (fun l1473 l1474 i1475 => fun U1485 hJ_ => ?_)))
   ·skip
    clear hl1482
    have hr1479 := hJ_.1; have h := hJ_.2; clear hJ_
    replace h : impl_AllocatePlan.l0 0 l1473 l1474 i1475 = some o1483 := h
    rw [impl_AllocatePlan.l0] at h
    refine c_seq ?_
    refine za0 ?_
    refine o_q rfl rfl (q_lss rfl rfl) ?_
    refine o_end ?_
    refine za1 ?_
    refine c_seq ?_
    refine zb3 (congrArg Value.bool hr1479.ge) ?_
    refine zb4 ?_
    refine za8 ?_
    refine za8 ?_
    have e_ := Option.some.inj h; replace h := hR1481; rw [← e_] at h; clear e_
    refine x_hit ?_
    refine za1 ?_
    refine c_seq ?_
    refine c_seq ?_
    refine za0 ?_
    refine o_q rfl rfl (q_f F27_1 rfl) ?_
    refine o_q rfl rfl (q_ldb Y24 rfl (fun w h => h.zae (i := 3) rfl) rfl) ?_
    refine o_q rfl rfl (q_len Try.underlying24 rfl) ?_
    refine o_q rfl rfl (za2 rfl) ?_
    refine o_end ?_
    refine za1 ?_
    refine zaj ?_
    refine c_nil zb6 94 ?_
    refine za7 h (fun o1501 hl1500 hR1499 => ?_) rfl
    clear h
    refine zba (p := l0_1.length ≤ 9223372036854775807) (fun w h => (R0_1.now Z h).2.1) (fun hm1498 => ?_)
    refine zax (σ := (List SStep) × (List Int) × (List Int) × (List SRegOp) × Int × (Option Addr) × Nat) (fun k1496 ((ys1495, l1488, l1489, l1490, i1493, A1491, c1492) : (List SStep) × (List Int) × (List Int) × (List SRegOp) × Int × (Option Addr) × Nat) => Rg l0_1 i1493 ys1495 ∧ ys1495.length = k1496 ∧ impl_AllocatePlan.l1 a0_0 l0_1 l0_2 l1464 ys1495 l1488 l1489 l1490 i1493 = some o1501) [8, 9, 10, 11, 12, 13, 50, 51, 52, 53, 54, 55, 56, 57, 58, 59, 60, 61, 62, 63, 64, 65, 66, 67, 68, 69, 70, 71, 72, 73, 74, 75, 76, 77, 78, 79, 80, 81, 82, 83, 84, 85, 86, 87, 88, 89, 90, 91, 92, 93, 94, 95, 96, 97, 98, 99, 100, 101, 102, 103, 104, 105, 106, 107, 108, 109, 110, 111, 112] (fun ((ys1495, l1488, l1489, l1490, i1493, A1491, c1492) : (List SStep) × (List Int) × (List Int) × (List SRegOp) × Int × (Option Addr) × Nat) => [(50, .int .i64 i1493)]) (fun ((ys1495, l1488, l1489, l1490, i1493, A1491, c1492) : (List SStep) × (List Int) × (List Int) × (List SRegOp) × Int × (Option Addr) × Nat) => [row zb6 94 (.slice A1491 l1490.length c1492) l1490, row (Kd.int .i64) 3 (.slice A1470 l1468.length c1471) l1489, row (Kd.int .i64) 3 (.slice A1465 l1464.length c1466) l1488, row (Kd.int .i64) 3 (.slice A1460 (([(-1)] : List Int).length) c1461) ([(-1)] : List Int), box g1 27 #[.int .i64 a0_0, .slice A0_1 l0_1.length c0_1, .slice A0_2 l0_2.length c0_2], box g3 43 #[.int .i64 0, .slice none 0 0, .slice none 0 0, .slice none 0 0], box g729 43 #[.int .i64 i730, .slice A732 l731.length c733, .slice A1491 l1490.length c1492, .slice none 0 0], row (Kd.int .i64) 3 (.slice A732 l731.length c733) l731]) l0_1.length (l0_1, l1473, l1474, ([] : List SRegOp), 0, none, 0) ⟨Rg.start _, rfl, hl1500⟩ ⟨rfl, trivial⟩ (fun w h => h) ?_
    refine fun k1496 => cur7 (listC (fun l1488 l1489 l1490 i1493 A1491 c1492 U1502 hJ_ => ?_) (fun y1494 ys1495 l1488 l1489 l1490 i1493 A1491 c1492 U1502 hJ_ => ?_))
    ·skip
     clear hl1500
     have hr1497 := hJ_.1; have hk1503 := hJ_.2.1; have h := hJ_.2.2; clear hJ_
     replace h : impl_AllocatePlan.l1 a0_0 l0_1 l0_2 l1464 [] l1488 l1489 l1490 i1493 = some o1501 := h
     rw [impl_AllocatePlan.l1] at h
     refine c_seq ?_
     refine za0 ?_
     refine o_q rfl rfl (q_lss rfl rfl) ?_
     refine o_end ?_
     refine za1 ?_
     refine c_seq ?_
     refine zb3 (congrArg Value.bool hr1497.ge) ?_
     refine zb4 ?_
     refine za8 ?_
     refine za8 ?_
     have e_ := Option.some.inj h; replace h := hR1499; rw [← e_] at h; clear e_
     refine x_hit ?_
     refine za1 ?_
     refine c_seq ?_
     refine za0 ?_
     refine o_q rfl rfl (q_f F27_2 rfl) ?_
     refine o_q rfl rfl (q_ldb Y25 rfl (fun w h => h.zae (i := 4) rfl) rfl) ?_
     refine o_q rfl rfl (za2 rfl) ?_
     refine za7 h (fun l1505 hx1504 h => ?_) rfl
     refine o_e rfl (zab 0 Z Try.func78 N78 rfl rfl rfl (fun w P1 hF hB hS hT => impl_renamed.calls A0_2 c0_2 l0_2.length l0_2 A1470 c1471 l1468.length l1489 hB hF (hS _ R0_2) hc0_2 (hT 1 _ rfl).row (hT 1 _ rfl).cap _ hx1504)) (cur2 (fun A1506 c1507 => ?_))
     refine o_q rfl rfl (q_f F43_3 rfl) ?_
     refine o_e rfl (zay (i := 7) rfl rfl rfl rfl Z25 rfl rfl) (fun _ => ?_)
     refine o_end ?_
     refine za1 ?_
     refine c_seq ?_
     refine za0 ?_
     refine o_q rfl rfl (q_ldB G43 Z43 rfl (fun w h => h.zae (i := 7) rfl) rfl) ?_
     refine o_e rfl (zan (i := 6) rfl rfl rfl Z43 rfl rfl) (fun _ => ?_)
     refine o_q rfl rfl (q_asg rfl) ?_
     refine o_end ?_
     refine za1 ?_
     refine c_ret ?_
     have e0_ := Option.some.inj h; clear h
     have d0_ := (Prod.mk.inj e0_).1; have e1_ := (Prod.mk.inj e0_).2; clear e0_; subst d0_
     have d1_ := (Prod.mk.inj e1_).1; have e2_ := (Prod.mk.inj e1_).2; clear e1_; subst d1_
     have d2_ := (Prod.mk.inj e2_).1; have e3_ := (Prod.mk.inj e2_).2; clear e2_; subst d2_
     have d3_ := (Prod.mk.inj e3_).1; have e4_ := (Prod.mk.inj e3_).2; clear e3_; subst d3_
     subst e4_
     exact x_r2 (A732, c733, A1491, c1492, A1506, c1507) Try.results25 (rv_cell rfl G43 Z43 (fun w h => h.zae (i := 6) rfl) rfl) (zai rfl) rfl (fun w h => za6 [8, 1, 0] (by decide) rfl w h)
    ·skip
     clear hl1500
     have hr1497 := hJ_.1; have hk1503 := hJ_.2.1; have h := hJ_.2.2; clear hJ_
     replace h : impl_AllocatePlan.l1 a0_0 l0_1 l0_2 l1464 (y1494 :: ys1495) l1488 l1489 l1490 i1493 = some o1501 := h
     rw [impl_AllocatePlan.l1] at h
     refine c_seq ?_
     refine za0 ?_
     refine o_q rfl rfl (q_lss rfl rfl) ?_
     refine o_end ?_
     refine za1 ?_
     refine c_seq ?_
     refine zb1 (congrArg Value.bool hr1497.lt) ?_
     refine zao ?_
     refine za1 ?_
     refine c_seq ?_
     refine zaj ?_
     refine c_seq ?_
     refine za0 ?_
     refine o_q rfl rfl (za2 rfl) ?_
     refine zaz (p := Sh A0_1 l0_1.length l0_1.length) (fun w h => f_sh (dk := kStep) h (fun w h => R0_1.now Z h)) (fun hq1508 => ?_)
     refine o_q rfl rfl (q_ix Try.underlying24 Z88 rfl rfl hq1508 hr1497.get) ?_
     refine o_q rfl rfl (q_ldE G88 Z88 rfl rfl (fun w h => R0_1.now Z h) hr1497.get (fun _ _ h => h) rfl) ?_
     refine o_e rfl (zat V88 rfl) (fun g1509 => ?_)
     refine o_q rfl rfl (q_asg rfl) ?_
     refine o_e rfl (zan (i := 0) rfl rfl rfl Z88 rfl rfl) (fun _ => ?_)
     refine o_end ?_
     refine za1 ?_
     refine c_seq ?_
     refine za0 ?_
     refine o_q rfl rfl (za2 rfl) ?_
     refine o_q rfl rfl (q_up rfl rfl (hr1497.up hm1498)) ?_
     refine za7 h (fun l1512 hx1511 h => ?_) rfl
     refine o_e rfl (zab 0 Z Try.func69 N69 rfl rfl rfl (fun w P1 hF hB hS hT => impl_Plan_doneFirst.calls g1 a0_0 A0_1 c0_1 l0_1.length l0_1 A0_2 c0_2 l0_2.length l0_2 (i1493 + 1) hB hF (hS _ R0_1) hc0_1 (hS _ R0_2) hc0_2 (hT 5 _ rfl).box _ hx1511)) (cur2 (fun A1513 c1514 => ?_))
     refine za7 h (fun l1516 hx1515 h => ?_) rfl
     refine o_e rfl (zab 0 Z Try.func68 N68 rfl rfl rfl (fun w P1 hF hB hS hT => impl_Plan_needed.calls g1 a0_0 A0_1 c0_1 l0_1.length l0_1 A0_2 c0_2 l0_2.length l0_2 A1513 c1514 l1512.length l1512 hB hF (hS _ R0_1) hc0_1 (hS _ R0_2) hc0_2 (hT 6 _ rfl).box (hT 0 _ rfl).row (hT 0 _ rfl).cap _ hx1515)) (cur2 (fun A1517 c1518 => ?_))
     refine o_q rfl rfl (q_asg rfl) ?_
     refine o_end ?_
     refine za1 ?_
     refine c_seq ?_
     refine c_seq ?_
     refine za0 ?_
     refine o_q rfl rfl (za2 rfl) ?_
     refine o_q rfl rfl (q_len Try.underlying25 rfl) ?_
     refine o_q rfl rfl (za2 rfl) ?_
     refine o_end ?_
     refine za1 ?_
     refine zaj ?_
     refine za7 h (fun o1528 hl1527 hR1526 => ?_) rfl
     clear h
     refine zba (p := (l1464.length : Int) ≤ 9223372036854775807) (fun w h => by have := (h.zaw (i := 5) rfl).2.1; omega) (fun hm1525 => ?_)
     refine zax (σ := (List Int) × Int) (fun k1523 ((l1519, i1520) : (List Int) × Int) => Cn (l1464.length : Int) i1520 k1523 ∧ impl_AllocatePlan.l2 l1516 k1523 l1519 i1520 = some o1528) [11, 12, 61, 62, 63, 64, 65, 66, 67, 68, 69, 70, 71, 72, 73, 74, 75, 76, 77, 78] (fun ((l1519, i1520) : (List Int) × Int) => [(61, .int .i64 i1520)]) (fun ((l1519, i1520) : (List Int) × Int) => [row Kd.bool 4 (.slice A1517 l1516.length c1518) l1516, row Kd.bool 4 (.slice A1513 l1512.length c1514) l1512, box g1509 88 #[.int .i64 y1494.f0, .int .i64 y1494.f1], row zb6 94 (.slice A1491 l1490.length c1492) l1490, row (Kd.int .i64) 3 (.slice A1470 l1468.length c1471) l1489, row (Kd.int .i64) 3 (.slice A1465 l1464.length c1466) l1519, row (Kd.int .i64) 3 (.slice A1460 (([(-1)] : List Int).length) c1461) ([(-1)] : List Int), box g1 27 #[.int .i64 a0_0, .slice A0_1 l0_1.length c0_1, .slice A0_2 l0_2.length c0_2], box g3 43 #[.int .i64 0, .slice none 0 0, .slice none 0 0, .slice none 0 0], box g729 43 #[.int .i64 i730, .slice A732 l731.length c733, .slice A1491 l1490.length c1492, .slice none 0 0], row (Kd.int .i64) 3 (.slice A732 l731.length c733) l731]) ((l1464.length : Int)).toNat (l1488, 0) ⟨Cn.start hm1525, hl1527⟩ ⟨rfl, trivial⟩ (fun w h => h) ?_
     refine natC (cur2 (fun l1519 i1520 => fun U1529 hJ_ => ?_)) (fun k1523 => (cur2 (fun l1519 i1520 => fun U1529 hJ_ => ?_)))
     ·skip
      clear hl1527
      have hr1524 := hJ_.1; have h := hJ_.2; clear hJ_
      replace h : impl_AllocatePlan.l2 l1516 0 l1519 i1520 = some o1528 := h
      rw [impl_AllocatePlan.l2] at h
      refine c_seq ?_
      refine za0 ?_
      refine o_q rfl rfl (q_lss rfl rfl) ?_
      refine o_end ?_
      refine za1 ?_
      refine c_seq ?_
      refine zb3 (congrArg Value.bool hr1524.ge) ?_
      refine zb4 ?_
      refine za8 ?_
      refine za8 ?_
      have e_ := Option.some.inj h; replace h := hR1526; rw [← e_] at h; clear e_
      refine x_hit ?_
      refine za1 ?_
      refine c_seq ?_
      refine za0 ?_
      refine o_q rfl rfl (za2 rfl) ?_
      refine za7 h (fun i1532 hx1531 h => ?_) rfl
      refine o_e rfl (zab 0 Z Try.func85 N85 rfl rfl rfl (fun w P1 hF hB hS hT => slices_Index_int_int.calls A1465 c1466 l1464.length l1519 (-1) hB hF (hT 5 _ rfl).row (hT 5 _ rfl).cap _ hx1531)) (fun _ => ?_)
      refine o_q rfl rfl (q_asg rfl) ?_
      refine o_end ?_
      refine za1 ?_
      refine za7 h (fun o2677 hl2678 hR2679 => ?_) rfl
      clear h
      refine c_cutJ (σ := (List SRegOp) × (Option Addr) × Nat) (fun (l2674, A2675, c2676) => some l2674 = some o2677) [81, 82, 83, 84, 85, 86, 87, 88, 89, 90, 91, 92, 93, 94, 95, 96, 97] (fun (l2674, A2675, c2676) => []) (fun (l2674, A2675, c2676) => [box g1 27 #[.int .i64 a0_0, .slice A0_1 l0_1.length c0_1, .slice A0_2 l0_2.length c0_2], box g3 43 #[.int .i64 0, .slice none 0 0, .slice none 0 0, .slice none 0 0], box g729 43 #[.int .i64 i730, .slice A732 l731.length c733, .slice A2675 l2674.length c2676, .slice none 0 0], row (Kd.int .i64) 3 (.slice A732 l731.length c733) l731, row zb6 94 (.slice A2675 l2674.length c2676) l2674, row (Kd.int .i64) 3 (.slice A1465 l1464.length c1466) l1519, row (Kd.int .i64) 3 (.slice A1470 l1468.length c1471) l1489, row Kd.bool 4 (.slice A1517 l1516.length c1518) l1516, row Kd.bool 4 (.slice A1513 l1512.length c1514) l1512, box g1509 88 #[.int .i64 y1494.f0, .int .i64 y1494.f1], row (Kd.int .i64) 3 (.slice A1460 (([(-1)] : List Int).length) c1461) ([(-1)] : List Int)]) ?_ ?_
      ·skip
       have h := hl2678; clear hl2678
       clear hR2679
       refine za7 h (fun y3045 hg3044 h => ?_) rfl
       refine za7 h (fun y3344 hg3343 h => ?_) rfl
       refine za7 h (fun l3583 ha3584 h => ?_) rfl
       refine a_startS (ds := []) [some 0, some 1, some 2, none, some 4, some 5, some 6, some 7, some 8, none, some 10] MO rfl ?_
       refine za9 0 rfl rfl rfl (by kernel_rfl) (fun _ _ _ h => h) (q_f F43_2 rfl) ?_
       refine za9 2 rfl rfl rfl (by kernel_rfl) (fun _ _ _ h => h) (za2 rfl) ?_
       refine za9 3 rfl rfl rfl (by kernel_rfl) (fun _ _ _ h => h) (za2 rfl) ?_
       refine za9 4 rfl rfl rfl (by kernel_rfl) (fun _ _ _ h => h) (q_f F88_0 rfl) ?_
       refine zb0 5 rfl rfl rfl (by kernel_rfl) (fun _ _ _ h => h) (fun w h => za5 [some 0, some 1, some 2, none, some 4, some 5, some 6, some 7, some 8, none, some 10] (by decide) w h rfl) (q_ldb Y3 rfl (fun w h => h.zae (i := 2) rfl) rfl) ?_
       refine a_fact (p := Sh A1470 l1468.length l1489.length) (fun w h => f_sh (dk := (Kd.int .i64)) h (fun w h => h.zaw (i := 4) rfl)) (fun hq3043 => ?_)
       refine za9 6 rfl rfl rfl (by kernel_rfl) (fun _ _ _ h => h) (q_ix Try.underlying25 Z3 rfl rfl hq3043 hg3044) ?_
       refine zb0 7 rfl rfl rfl (by kernel_rfl) (fun _ _ _ h => h) (fun w h => za5 [some 0, some 1, some 2, none, some 4, some 5, some 6, some 7, some 8, none, some 10] (by decide) w h rfl) (q_lde (off := 0) Y3 rfl rfl (fun w h => h.zaw (i := 4) rfl) hg3044 (fun _ _ h => h) rfl) ?_
       refine za9 8 rfl rfl rfl (by kernel_rfl) (fun _ _ _ h => h) (za2 rfl) ?_
       refine za9 9 rfl rfl rfl (by kernel_rfl) (fun _ _ _ h => h) (q_f F88_1 rfl) ?_
       refine zb0 10 rfl rfl rfl (by kernel_rfl) (fun _ _ _ h => h) (fun w h => za5 [some 0, some 1, some 2, none, some 4, some 5, some 6, some 7, some 8, none, some 10] (by decide) w h rfl) (q_ldb Y3 rfl (fun w h => h.zae (i := 2) rfl) rfl) ?_
       refine za9 11 rfl rfl rfl (by kernel_rfl) (fun _ _ _ h => h) (q_ix Try.underlying25 Z3 rfl rfl hq3043 hg3343) ?_
       refine zb0 12 rfl rfl rfl (by kernel_rfl) (fun _ _ _ h => h) (fun w h => za5 [some 0, some 1, some 2, none, some 4, some 5, some 6, some 7, some 8, none, some 10] (by decide) w h rfl) (q_lde (off := 0) Y3 rfl rfl (fun w h => h.zaw (i := 4) rfl) hg3343 (fun _ _ h => h) rfl) ?_
       refine za9 13 rfl rfl rfl (by kernel_rfl) (fun _ _ _ h => h) (zb5 (vs := [(0, .int .i64 i1532), (1, .int .i64 y3045), (2, .int .i64 y3344)]) (cs := [.int .i64 i1532, .int .i64 y3045, .int .i64 y3344]) rfl rfl) ?_
       refine a_two 1 14 rfl rfl rfl rfl (by kernel_rfl) rfl rfl (ev_q rfl (q_ldb Y41 rfl (fun w h => h.zae (i := 9) rfl) rfl)) (fun s w h => za5 [some 0, some 1, some 2, none, some 4, some 5, some 6, some 7, some 8, none, some 10] (by decide) w h rfl) (e_lit (vs := [(0, .agg #[.int .i64 i1532, .int .i64 y3045, .int .i64 y3344])]) (cs := [.int .i64 i1532, .int .i64 y3045, .int .i64 y3344]) zb6 ([(⟨i1532, y3045, y3344⟩ : SRegOp)] : List SRegOp) Try.underlying41 I94 (by decide) rfl (by decide) rfl rfl (fun _ _ => zb9 _)) (fun s w h => za5 [some 1, some 2, some 3, none, some 5, some 6, some 7, some 8, some 9, none, some 11] (by decide) w h rfl) (fun _ => ?_) (cur2 (fun A3523 c3524 => ?_))
       ·skip
        refine a_one 14 rfl rfl (by kernel_rfl) rfl (e_lit (vs := [(0, .agg #[.int .i64 i1532, .int .i64 y3045, .int .i64 y3344])]) (cs := [.int .i64 i1532, .int .i64 y3045, .int .i64 y3344]) zb6 ([(⟨i1532, y3045, y3344⟩ : SRegOp)] : List SRegOp) Try.underlying41 I94 (by decide) rfl (by decide) rfl rfl (fun _ _ => zb9 _)) (fun s w h => za5 [some 1, some 2, some 3, none, some 5, some 6, some 7, some 8, some 9, none, some 11] (by decide) w h rfl) (cur2 (fun A3523 c3524 => ?_))
        refine a_one 15 rfl rfl (by kernel_rfl) rfl (e_app (i := 4) (j := 0) Try.underlying41 I94 rfl (by decide) (by decide) rfl rfl rfl rfl rfl ha3584) (fun s w h => za5 [some 1, some 2, some 3, none, some 5, some 6, some 7, some 8, some 9, none, some 11] (by decide) w h rfl) (cur2 (fun A3585 c3586 => ?_))
        refine za9 16 rfl rfl rfl (by kernel_rfl) (fun _ _ _ h => h) (q_f F43_2 rfl) ?_
        refine a_one 17 rfl rfl (by kernel_rfl) rfl (zay (i := 10) rfl rfl rfl rfl Z41 rfl rfl) (fun s w h => za5 [some 1, some 2, some 3, none, some 5, some 6, some 7, some 8, some 9, none, some 11] (by decide) w h rfl) (fun _ => ?_)
        refine zav (by kernel_rfl) ?_
        refine zas (l3583, A3585, c3586) h trivial (fun w h => za6 [8, 9, 10, 11, 4, 6, 5, 1, 2, 3, 7] (by decide) rfl w h) ?_
        repeat (first | exact zac _ _ | refine zaf rfl ?_ | refine zad rfl ?_ | refine zah rfl ?_)
       ·skip
        refine a_one 1 rfl rfl (by kernel_rfl) rfl (ev_q rfl (q_ldb Y41 rfl (fun w h => h.zae (i := 10) rfl) rfl)) (fun s w h => za5 [some 1, some 2, some 3, none, some 5, some 6, some 7, some 8, some 9, none, some 11] (by decide) w h rfl) (fun _ => ?_)
        refine a_one 15 rfl rfl (by kernel_rfl) rfl (e_app (i := 4) (j := 0) Try.underlying41 I94 rfl (by decide) (by decide) rfl rfl rfl rfl rfl ha3584) (fun s w h => za5 [some 1, some 2, some 3, none, some 5, some 6, some 7, some 8, some 9, none, some 11] (by decide) w h rfl) (cur2 (fun A3585 c3586 => ?_))
        refine za9 16 rfl rfl rfl (by kernel_rfl) (fun _ _ _ h => h) (q_f F43_2 rfl) ?_
        refine a_one 17 rfl rfl (by kernel_rfl) rfl (zay (i := 10) rfl rfl rfl rfl Z41 rfl rfl) (fun s w h => za5 [some 1, some 2, some 3, none, some 5, some 6, some 7, some 8, some 9, none, some 11] (by decide) w h rfl) (fun _ => ?_)
        refine zav (by kernel_rfl) ?_
        refine zas (l3583, A3585, c3586) h trivial (fun w h => za6 [8, 9, 10, 11, 4, 6, 5, 1, 2, 3, 7] (by decide) rfl w h) ?_
        repeat (first | exact zac _ _ | refine zaf rfl ?_ | refine zad rfl ?_ | refine zah rfl ?_)
      ·skip
       refine (cur3 (fun l2674 A2675 c2676 => fun U2680 hJ2681 => ?_))
       have e_ := Option.some.inj hJ2681; have h := hR2679; rw [← e_] at h; clear e_ hJ2681 hR2679 hl2678
       refine za0 ?_
       refine o_q rfl rfl (za2 rfl) ?_
       refine o_q rfl rfl (za2 rfl) ?_
       refine o_q rfl rfl (za2 rfl) ?_
       refine o_q rfl rfl (q_f F27_0 rfl) ?_
       refine o_q rfl rfl (q_ldb Y3 rfl (fun w h => h.zae (i := 0) rfl) rfl) ?_
       refine o_q rfl rfl (za2 rfl) ?_
       refine o_q rfl rfl (zb8 rfl rfl) ?_
       refine o_q rfl rfl (q_f F27_0 rfl) ?_
       refine o_q rfl rfl (q_ldb Y3 rfl (fun w h => h.zae (i := 0) rfl) rfl) ?_
       refine o_q rfl rfl (za2 rfl) ?_
       refine o_q rfl rfl (zb8 rfl rfl) ?_
       refine o_q rfl rfl (za2 rfl) ?_
       refine zaz (p := Sh A1465 l1464.length l1519.length) (fun w h => f_sh (dk := (Kd.int .i64)) h (fun w h => h.zaw (i := 5) rfl)) (fun hq3823 => ?_)
       refine za7 h (fun y3825 hg3824 h => ?_) rfl
       refine o_q rfl rfl (q_ix Try.underlying25 Z3 rfl rfl hq3823 hg3824) ?_
       refine za7 h (fun l3826 hs3827 h => ?_) rfl
       refine o_e rfl (e_set (i := 5) rfl rfl rfl Z3 hs3827) (fun _ => ?_)
       refine zaz (p := Sh A1470 l1468.length l1489.length) (fun w h => f_sh (dk := (Kd.int .i64)) h (fun w h => h.zaw (i := 6) rfl)) (fun hq3828 => ?_)
       refine za7 h (fun y3830 hg3829 h => ?_) rfl
       refine o_q rfl rfl (q_ix Try.underlying25 Z3 rfl rfl hq3828 hg3829) ?_
       refine za7 h (fun l3831 hs3832 h => ?_) rfl
       refine o_e rfl (e_set (i := 6) rfl rfl rfl Z3 hs3832) (fun _ => ?_)
       refine o_end ?_
       refine zal ?_
       refine za1 ?_
       refine za0 ?_
       refine o_q rfl rfl (q_up rfl rfl (hr1497.up hm1498)) ?_
       refine o_q rfl rfl (za2 rfl) ?_
       refine o_end ?_
       refine zam ys1495.length (ys1495, l3826, l3831, l2674, i1493 + 1, A2675, c2676) (by rw [← hk1503]; exact Nat.lt_succ_self _) ⟨hr1497.step, rfl, h⟩ ⟨rfl, trivial⟩ (fun w h => za6 [4, 6, 5, 10, 0, 1, 2, 3] (by decide) rfl w h) ?_
       repeat (first | exact zac _ _ | refine zaf rfl ?_ | refine zad rfl ?_ | refine zah rfl ?_)
     ·skip
      clear hl1527
      have hr1524 := hJ_.1; have h := hJ_.2; clear hJ_
      replace h : impl_AllocatePlan.l2 l1516 (k1523 + 1) l1519 i1520 = some o1528 := h
      rw [impl_AllocatePlan.l2] at h
      refine c_seq ?_
      refine za0 ?_
      refine o_q rfl rfl (q_lss rfl rfl) ?_
      refine o_end ?_
      refine za1 ?_
      refine c_seq ?_
      refine zb1 (congrArg Value.bool hr1524.lt) ?_
      refine zao ?_
      refine za1 ?_
      refine c_seq ?_
      refine zaj ?_
      refine c_seq ?_
      refine za0 ?_
      refine o_q rfl rfl (za2 rfl) ?_
      refine zaz (p := Sh A1465 l1464.length l1519.length) (fun w h => f_sh (dk := (Kd.int .i64)) h (fun w h => h.zaw (i := 5) rfl)) (fun hq3833 => ?_)
      refine za7 h (fun y3835 hg3834 h => ?_) rfl
      refine o_q rfl rfl (q_ix Try.underlying25 Z3 rfl rfl hq3833 hg3834) ?_
      refine o_q rfl rfl (q_lde (off := 0) Y3 rfl rfl (fun w h => h.zaw (i := 5) rfl) hg3834 (fun _ _ h => h) rfl) ?_
      refine o_q rfl rfl (q_asg rfl) ?_
      refine o_q rfl rfl (q_asg rfl) ?_
      refine o_end ?_
      refine za1 ?_
      refine za7 h (fun o3841 hl3842 hR3843 => ?_) rfl
      clear h
      refine c_cutJ (σ := Bool) (fun b3840 => some b3840 = some o3841) [66, 67, 68, 69, 70, 71, 72, 73, 74] (fun b3840 => [(74, .bool b3840)]) (fun b3840 => [box g1 27 #[.int .i64 a0_0, .slice A0_1 l0_1.length c0_1, .slice A0_2 l0_2.length c0_2], box g3 43 #[.int .i64 0, .slice none 0 0, .slice none 0 0, .slice none 0 0], box g729 43 #[.int .i64 i730, .slice A732 l731.length c733, .slice A1491 l1490.length c1492, .slice none 0 0], row (Kd.int .i64) 3 (.slice A732 l731.length c733) l731, row zb6 94 (.slice A1491 l1490.length c1492) l1490, row (Kd.int .i64) 3 (.slice A1465 l1464.length c1466) l1519, row (Kd.int .i64) 3 (.slice A1470 l1468.length c1471) l1489, box g1509 88 #[.int .i64 y1494.f0, .int .i64 y1494.f1], row Kd.bool 4 (.slice A1517 l1516.length c1518) l1516, row Kd.bool 4 (.slice A1513 l1512.length c1514) l1512, row (Kd.int .i64) 3 (.slice A1460 (([(-1)] : List Int).length) c1461) ([(-1)] : List Int)]) ?_ ?_
      ·skip
       have h := hl3842; clear hl3842
       clear hR3843
       refine za0 ?_
       refine o_q rfl rfl (za2 rfl) ?_
       refine o_q rfl rfl (q_neq rfl rfl) ?_
       refine o_q rfl rfl (za2 rfl) ?_
       refine byB (decide (y3835 ≠ (-1))) (fun hb3846 => ?_) (fun hb3846 => ?_)
       ·replace h := br_t hb3846 h
        refine o_w (za4 rfl rfl rfl (congrArg Value.bool hb3846)) rfl (za2 rfl) ?_
        refine o_w (za4 rfl rfl rfl (congrArg Value.bool hb3846)) rfl (za2 rfl) ?_
        refine zaz (p := Sh A1517 l1516.length l1516.length) (fun w h => f_sh (dk := Kd.bool) h (fun w h => h.zaw (i := 0) rfl)) (fun hq3847 => ?_)
        refine za7 h (fun y3849 hg3848 h => ?_) rfl
        refine o_w (za4 rfl rfl rfl (congrArg Value.bool hb3846)) rfl (q_ix Try.underlying78 Z4 rfl rfl hq3847 hg3848) ?_
        refine o_w (za4 rfl rfl rfl (congrArg Value.bool hb3846)) rfl (q_lde (off := 0) Y4 rfl rfl (fun w h => h.zaw (i := 0) rfl) hg3848 (fun _ _ h => h) rfl) ?_
        refine o_w (za4 rfl rfl rfl (congrArg Value.bool hb3846)) rfl (q_not rfl) ?_
        refine o_q rfl rfl (zaq true (congrArg Value.bool hb3846) rfl) ?_
        refine o_end ?_
        refine zas (!y3849) h ⟨rfl, trivial⟩ (fun w h => za6 [7, 8, 9, 10, 3, 5, 4, 2, 0, 1, 6] (by decide) rfl w h) ?_
        repeat (first | exact zac _ _ | refine zaf rfl ?_ | refine zad rfl ?_ | refine zah rfl ?_)
       ·replace h := br_f hb3846 h
        refine @o_n _ _ _ _ _ _ _ _ _ _ _ 69 (za3 rfl rfl rfl (congrArg Value.bool hb3846) rfl) (Eq.refl (some 69)) ?_
        refine @o_n _ _ _ _ _ _ _ _ _ _ _ 70 (za3 rfl rfl rfl (congrArg Value.bool hb3846) rfl) (Eq.refl (some 70)) ?_
        refine @o_n _ _ _ _ _ _ _ _ _ _ _ 71 (za3 rfl rfl rfl (congrArg Value.bool hb3846) rfl) (Eq.refl (some 71)) ?_
        refine @o_n _ _ _ _ _ _ _ _ _ _ _ 72 (za3 rfl rfl rfl (congrArg Value.bool hb3846) rfl) (Eq.refl (some 72)) ?_
        refine @o_n _ _ _ _ _ _ _ _ _ _ _ 73 (za3 rfl rfl rfl (congrArg Value.bool hb3846) rfl) (Eq.refl (some 73)) ?_
        refine o_q rfl rfl (zaq false (congrArg Value.bool hb3846) rfl) ?_
        refine o_end ?_
        refine zas false h ⟨rfl, trivial⟩ (fun w h => za6 [7, 8, 9, 10, 3, 5, 4, 2, 0, 1, 6] (by decide) rfl w h) ?_
        repeat (first | exact zac _ _ | refine zaf rfl ?_ | refine zad rfl ?_ | refine zah rfl ?_)
      ·skip
       refine (fun b3840 => fun U3844 hJ3845 => ?_)
       have e_ := Option.some.inj hJ3845; have h := hR3843; rw [← e_] at h; clear e_ hJ3845 hR3843 hl3842
       refine zau _ rfl (fun hb3850 => ?_) (fun hb3850 => ?_)
       ·skip
        replace h := bb_t hb3850 h
        refine za0 ?_
        refine o_q rfl rfl (za2 rfl) ?_
        refine o_q rfl rfl (za2 rfl) ?_
        refine za7 h (fun y3852 hg3851 h => ?_) rfl
        refine o_q rfl rfl (q_ix Try.underlying25 Z3 rfl rfl hq3833 hg3851) ?_
        refine za7 h (fun l3853 hs3854 h => ?_) rfl
        refine o_e rfl (e_set (i := 5) rfl rfl rfl Z3 hs3854) (fun _ => ?_)
        refine o_end ?_
        refine zal ?_
        refine za1 ?_
        refine za0 ?_
        refine o_q rfl rfl (q_up rfl rfl hr1524.up) ?_
        refine o_q rfl rfl (za2 rfl) ?_
        refine o_end ?_
        refine zam k1523 (l3853, i1520 + 1) (Nat.lt_succ_self _) ⟨hr1524.step, h⟩ ⟨rfl, trivial⟩ (fun w h => za6 [8, 9, 7, 4, 6, 5, 10, 0, 1, 2, 3] (by decide) rfl w h) ?_
        repeat (first | exact zac _ _ | refine zaf rfl ?_ | refine zad rfl ?_ | refine zah rfl ?_)
       ·skip
        replace h := bb_f hb3850 h
        refine zao ?_
        refine zal ?_
        refine za1 ?_
        refine za0 ?_
        refine o_q rfl rfl (q_up rfl rfl hr1524.up) ?_
        refine o_q rfl rfl (za2 rfl) ?_
        refine o_end ?_
        refine zam k1523 (l1519, i1520 + 1) (Nat.lt_succ_self _) ⟨hr1524.step, h⟩ ⟨rfl, trivial⟩ (fun w h => za6 [8, 9, 7, 4, 6, 5, 10, 0, 1, 2, 3] (by decide) rfl w h) ?_
        repeat (first | exact zac _ _ | refine zaf rfl ?_ | refine zad rfl ?_ | refine zah rfl ?_)
   ·skip
    clear hl1482
    have hr1479 := hJ_.1; have h := hJ_.2; clear hJ_
    replace h : impl_AllocatePlan.l0 (k1478 + 1) l1473 l1474 i1475 = some o1483 := h
    rw [impl_AllocatePlan.l0] at h
    refine c_seq ?_
    refine za0 ?_
    refine o_q rfl rfl (q_lss rfl rfl) ?_
    refine o_end ?_
    refine za1 ?_
    refine c_seq ?_
    refine zb1 (congrArg Value.bool hr1479.lt) ?_
    refine zao ?_
    refine za1 ?_
    refine c_seq ?_
    refine zaj ?_
    refine c_seq ?_
    refine za0 ?_
    refine o_q rfl rfl (za2 rfl) ?_
    refine o_q rfl rfl (q_asg rfl) ?_
    refine o_end ?_
    refine za1 ?_
    refine za0 ?_
    refine o_q rfl rfl (za2 rfl) ?_
    refine o_q rfl rfl (za2 rfl) ?_
    refine o_q rfl rfl (za2 rfl) ?_
    refine o_q rfl rfl (za2 rfl) ?_
    refine o_q rfl rfl (za2 rfl) ?_
    refine o_q rfl rfl (za2 rfl) ?_
    refine zaz (p := Sh A1465 l1464.length l1473.length) (fun w h => f_sh (dk := (Kd.int .i64)) h (fun w h => h.zaw (i := 1) rfl)) (fun hq3855 => ?_)
    refine za7 h (fun y3857 hg3856 h => ?_) rfl
    refine o_q rfl rfl (q_ix Try.underlying25 Z3 rfl rfl hq3855 hg3856) ?_
    refine za7 h (fun l3858 hs3859 h => ?_) rfl
    refine o_e rfl (e_set (i := 1) rfl rfl rfl Z3 hs3859) (fun _ => ?_)
    refine zaz (p := Sh A1470 l1468.length l1474.length) (fun w h => f_sh (dk := (Kd.int .i64)) h (fun w h => h.zaw (i := 0) rfl)) (fun hq3860 => ?_)
    refine za7 h (fun y3862 hg3861 h => ?_) rfl
    refine o_q rfl rfl (q_ix Try.underlying25 Z3 rfl rfl hq3860 hg3861) ?_
    refine za7 h (fun l3863 hs3864 h => ?_) rfl
    refine o_e rfl (e_set (i := 0) rfl rfl rfl Z3 hs3864) (fun _ => ?_)
    refine o_end ?_
    refine zal ?_
    refine za1 ?_
    refine za0 ?_
    refine o_q rfl rfl (q_up rfl rfl hr1479.up) ?_
    refine o_q rfl rfl (za2 rfl) ?_
    refine o_end ?_
    refine zam k1478 (l3858, l3863, i1475 + 1) (Nat.lt_succ_self _) ⟨hr1479.step, h⟩ ⟨rfl, trivial⟩ (fun w h => za6 [0, 1, 2, 3, 4, 5, 6] (by decide) rfl w h) ?_
    repeat (first | exact zac _ _ | refine zaf rfl ?_ | refine zad rfl ?_ | refine zah rfl ?_)

/-- THE ONE PURE STATEMENT of laws_FnCodesRun. -/
def laws_FnCodesRun.Pure : Prop := ∀ (l0 : List Int) (l1 : List Int), l0.length ≤ maxLen → (∀ y ∈ l0, (Lit.int .u8 y).wf = true) → l1.length ≤ maxLen → (∀ y ∈ l1, (Lit.int .u8 y).wf = true) → ∃ k, laws_FnCodesRun.f k l0 l1 = some true
theorem laws_FnCodesRun.walk (P : laws_FnCodesRun.Pure) (A0 : Option Addr) (c0 : Nat) (l0 : List Int) (A1 : Option Addr) (c1 : Nat) (l1 : List Int) (w : World) (hr0 : Kd.C (Kd.int .u8) w A0 l0.length l0) (hc0 : l0.length ≤ c0) (hr1 : Kd.C (Kd.int .u8) w A1 l1.length l1) (hc1 : l1.length ≤ c1) (q0 : l0.length ≤ maxLen) (q1 : (∀ y ∈ l0, (Lit.int .u8 y).wf = true)) (q2 : l1.length ≤ maxLen) (q3 : (∀ y ∈ l1, (Lit.int .u8 y).wf = true)) :
  Calls Try.prog 6 #[.slice A0 l0.length c0, .slice A1 l1.length c1] w fun e w' => e = .returned (.bool true) ∧ Below w.heap.size w w' := by
 obtain ⟨k, h⟩ := P l0 l1 q0 q1 q2 q3
 refine (laws_FnCodesRun.calls k A0 c0 l0.length l0 A1 c1 l1.length l1 (Below.refl _ _) (Fr.start w) (fun W hW => Kd.C_below hr0 hW.below) hc0 (fun W hW => Kd.C_below hr1 hW.below) hc1 true h).mono ?_
 rintro e w' ⟨s, rfl, hF⟩
 exact ⟨rfl, hF.bel⟩
end Go.Proofs.Ytdicngjloiphkaa.L6
