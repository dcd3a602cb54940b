import Derived.Test.YtoegbcbdiggbjaaKFnRunsOfWordsRWp1
namespace Go.Proofs.Ytoegbcbdiggbjaa.RW
open Go.RowKit Go.Proofs.Ytoegbcbdiggbjaa.Frame Go.Proofs.YtoegbcbdiggbjaaW.PrintLast Go.Proofs.Ytoegbcbdiggbjaa.Hand
open Go.Proofs.YtoegbcbdiggbjaaW.PrintWords hiding mn mx
/-! ### (*loop.example/g01098/spec.l1Cur).anyPlan: function 84 -/
def spec_l1Cur_anyPlan.l0 : Nat → (List SStep) → Int → Option (List SStep)
  | 0, _, _ => none
  | k1398 + 1, l1392, i1395 => if 0 < i1395 then ((ap l1392 ([(⟨(l1392.length : Int), (l1392.length : Int)⟩ : SStep)] : List SStep)).bind fun l1410 => spec_l1Cur_anyPlan.l0 k1398 l1410 (w64 (i1395 - 1))) else (some l1392)
def spec_l1Cur_anyPlan.l1 (l0_0 : List Int) (i4 : Int) (l5 : List SStep) : Nat → (List Int) → Int → Int → Option (Int × (List SStep) × (List Int) × Int × Int)
  | 0, _, _, _ => none
  | k1425 + 1, l1418, i1421, i1422 => (spec_l1Cur_pick.f l0_0 i1421 i1422 2).bind fun (i1434, i1435, i1436) => if (l1418.length : Int) < w64 (6 + i1434) then ((ap l1418 ([0] : List Int)).bind fun l1441 => spec_l1Cur_anyPlan.l1 l0_0 i4 l5 k1425 l1441 i1435 i1436) else (some (i4, l5, l1418, i1435, i1436))
def spec_l1Cur_anyPlan.l2 : Nat → (List SStep) → Int → Option (List SStep)
  | 0, _, _ => none
  | k1457 + 1, l1451, i1454 => if 0 < i1454 then ((ap l1451 ([(⟨0, w64 (1 + (l1451.length : Int))⟩ : SStep)] : List SStep)).bind fun l1469 => spec_l1Cur_anyPlan.l2 k1457 l1469 (w64 (i1454 - 1))) else (some l1451)
def spec_l1Cur_anyPlan.f (k : Nat) (l0_0 : List Int) (a0_1 : Int) (a0_2 : Int) (a1 : Int) (a2 : Int) : Option (Int × (List SStep) × (List Int) × Int × Int) := (spec_l1Cur_plan.f k l0_0 a0_1 a0_2 a1 a2).bind fun (i4, l5, l6, i7, i8) => ((spec_l1Cur_pick.f l0_0 i7 i8 16).bind fun (i753, i754, i755) => if i753 = 0 then ((spec_l1Cur_among.f l0_0 i754 i755 ([(-1), 0, 1, 6, 7] : List Int)).bind fun (i761, i762, i763) => some (i761, l5, l6, i762, i763)) else (if i753 = 1 then (if 0 < (l5.length : Int) then ((spec_l1Cur_pick.f l0_0 i754 i755 (l5.length : Int)).bind fun (i767, i768, i769) => (spec_l1Cur_pick.f l0_0 i768 i769 5).bind fun (i771, i772, i773) => (spec_l1Cur_pick.f l0_0 i772 i773 8).bind fun (i775, i776, i777) => (gt l5 i767).bind fun y780 => (st l5 i767 (⟨w64 (i771 - 1), i775⟩ : SStep)).bind fun l781 => some (i4, l781, l6, i776, i777)) else (some (i4, l5, l6, i754, i755))) else (if i753 = 2 then ((spec_l1Cur_pick.f l0_0 i754 i755 12).bind fun (i967, i968, i969) => (ap l6 ([w64 (i967 - 1)] : List Int)).bind fun l1146 => some (i4, l5, l1146, i968, i969)) else (if i753 = 3 then ((spec_l1Cur_pick.f l0_0 i754 i755 4).bind fun (i1388, i1389, i1390) => (spec_l1Cur_anyPlan.l0 k ([] : List SStep) (w64 (18 + i1388))).bind fun l1392 => some (1, l1392, ([(l1392.length : Int)] : List Int), i1389, i1390)) else (if i753 = 4 then ((spec_l1Cur_anyPlan.l1 l0_0 i4 l5 k l6 i754 i755)) else (if i753 = 5 then ((spec_l1Cur_pick.f l0_0 i754 i755 2).bind fun (i1447, i1448, i1449) => (spec_l1Cur_anyPlan.l2 k ([] : List SStep) (w64 (40 + i1447))).bind fun l1451 => some (2, l1451, ([5] : List Int), i1448, i1449)) else (some (i4, l5, l6, i754, i755)))))))).bind fun (i738, l739, l742, i745, i746) => some (i738, l739, l742, i745, i746)
set_option maxHeartbeats 600000 in
set_option maxRecDepth 100000 in
theorem spec_l1Cur_anyPlan.calls (k : Nat) {w0 ws : World} {P0 : Nat → Prop} (g0 : Nat) (A0_0 : Option Addr) (c0_0 : Nat) (n0_0 : Nat) (l0_0 : List Int) (a0_1 : Int) (a0_2 : Int) (a1 : Int) (a2 : Int) (Z : Below w0.heap.size w0 ws) (hF : Fr w0 ws P0 [box g0 81 #[.slice A0_0 n0_0 c0_0, .int .i64 a0_1, .int .u64 a0_2]] ws) (R0_0 : Stable ws P0 (fun w => Kd.C (Kd.int .u8) w A0_0 n0_0 l0_0)) (hc0_0 : n0_0 ≤ c0_0) (r_1 : Int) (r_2 : List SStep) (r_5 : List Int) (r_8 : Int) (r_9 : Int) (h : spec_l1Cur_anyPlan.f k l0_0 a0_1 a0_2 a1 a2 = some (r_1, r_2, r_5, r_8, r_9)) :
    Calls Try.prog 84 #[.pointer (some ⟨g0, 0, none⟩), .int .i64 a1, .int .i64 a2] ws (Post1 w0 ws P0 (fun ((q_3, q_4, q_6, q_7) : (Option Addr) × Nat × (Option Addr) × Nat) => .agg #[.int .i64 r_1, .slice q_3 r_2.length q_4, .slice q_6 r_5.length q_7]) (fun ((q_3, q_4, q_6, q_7) : (Option Addr) × Nat × (Option Addr) × Nat) => [row kStep 89 (.slice q_3 r_2.length q_4) r_2, row (Kd.int .i64) 3 (.slice q_6 r_5.length q_7) r_5, box g0 81 #[.slice A0_0 n0_0 c0_0, .int .i64 r_8, .int .u64 r_9]])) := by
  unfold spec_l1Cur_anyPlan.f at h
  obtain rfl := (R0_0 ws (KeptB.refl _ _)).1
  refine enter Try.func84 rfl Try.ntmps84 rfl hF ?_
  refine c_seq ?_
  refine za0 ?_
  refine o_e rfl (e_alloc V27 rfl) (fun g1 => ?_)
  refine o_end ?_
  refine za1 ?_
  refine c_seq ?_
  refine za0 ?_
  refine o_q rfl rfl (za2 rfl) ?_
  refine o_q rfl rfl (za2 rfl) ?_
  refine o_q rfl rfl (za2 rfl) ?_
  refine o_pick [1, 0] (by decide) rfl ?_
  refine bindE5 h (fun i4 l5 l6 i7 i8 hx3 h => ?_) rfl
  refine o_e rfl (zaa 1 Z Try.func179 N179 rfl rfl rfl (fun w P1 hF hB hS hT => spec_l1Cur_plan.calls k g0 A0_0 c0_0 l0_0.length l0_0 a0_1 a0_2 a1 a2 hB hF (hS _ R0_0) hc0_0 _ _ _ _ _ hx3)) (cur4 (fun A9 c10 A11 c12 => ?_))
  refine o_e rfl (e_alloc V27 rfl) (fun g13 => ?_)
  refine o_e rfl (e_storeA (i := 0) rfl rfl rfl Z27 rfl rfl) (fun _ => ?_)
  refine o_end ?_
  refine za1 ?_
  refine za8 h (fun o747 hl748 hR749 => ?_) rfl
  clear h
  refine c_cutJ (σ := Int × (List SStep) × (List Int) × Int × Int × (Option Addr) × Nat × (Option Addr) × Nat) (fun (i738, l739, l742, i745, i746, A740, c741, A743, c744) => some (i738, l739, l742, i745, i746) = some o747) [8, 9, 14, 15, 16, 17, 18, 19, 20, 21, 22, 23, 24, 25, 26, 27, 28, 29, 30, 31, 32, 33, 34, 35, 36, 37, 38, 39, 40, 41, 42, 43, 44, 45, 46, 47, 48, 49, 50, 51, 52, 53, 54, 55, 56, 57, 58, 59, 60, 61, 62, 63, 64, 65, 66, 67, 68, 69, 70, 71, 72, 73, 74, 75, 76, 77, 78, 79, 80, 81, 82, 83, 84, 85, 86, 87, 88, 89, 90, 91, 92, 93, 94, 95, 96, 97, 98, 99, 100, 101, 102, 103, 104, 105, 106, 107, 108, 109, 110, 111, 112, 113, 114] (fun (i738, l739, l742, i745, i746, A740, c741, A743, c744) => []) (fun (i738, l739, l742, i745, i746, A740, c741, A743, c744) => [box g1 27 #[.int .i64 0, .slice none 0 0, .slice none 0 0], box g13 27 #[.int .i64 i738, .slice A740 l739.length c741, .slice A743 l742.length c744], row kStep 89 (.slice A740 l739.length c741) l739, row (Kd.int .i64) 3 (.slice A743 l742.length c744) l742, box g0 81 #[.slice A0_0 l0_0.length c0_0, .int .i64 i745, .int .u64 i746]]) ?_ ?_
  · skip
    have h := hl748; clear hl748
    clear hR749
    refine c_seq ?_
    refine za0 ?_
    refine o_q rfl rfl (za2 rfl) ?_
    refine o_pick [3, 0, 1, 2, 4] (by decide) rfl ?_
    refine bindE3 h (fun i753 i754 i755 hx752 h => ?_) rfl
    refine o_e rfl (zaa 1 Z Try.func85 N85 rfl rfl rfl (fun w P1 hF hB hS hT => spec_l1Cur_pick.calls g0 A0_0 c0_0 l0_0.length l0_0 i7 i8 16 hB hF (hS _ R0_0) hc0_0 _ _ _ hx752)) (fun _ => ?_)
    refine o_end ?_
    refine za1 ?_
    refine zah ?_
    refine c_seq ?_
    refine za0 ?_
    refine o_q rfl rfl (q_eql rfl rfl) ?_
    refine o_q rfl rfl (q_asg rfl) ?_
    refine o_end ?_
    refine za1 ?_
    refine zas _ rfl (fun hb756 => ?_) (fun hb756 => ?_)
    · skip
      replace h := br_t hb756 h
      refine za0 ?_
      refine o_q rfl rfl (za2 rfl) ?_
      refine o_e rfl (e_lit (vs := [(0, .int .i64 (-1)), (1, .int .i64 0), (2, .int .i64 1), (3, .int .i64 6), (4, .int .i64 7)]) (cs := [.int .i64 (-1), .int .i64 0, .int .i64 1, .int .i64 6, .int .i64 7]) (Kd.int .i64) ([(-1), 0, 1, 6, 7] : List Int) Try.underlying25 I3 (by decide) rfl (by decide) rfl rfl (fun _ _ => Kd.zaj _)) (cur2 (fun A757 c758 => ?_))
      refine o_pick [1, 0, 2, 3, 4, 5] (by decide) rfl ?_
      refine bindE3 h (fun i761 i762 i763 hx760 h => ?_) rfl
      refine o_e rfl (zaa 1 Z Try.func122 N122 rfl rfl rfl (fun w P1 hF hB hS hT => spec_l1Cur_among.calls g0 A0_0 c0_0 l0_0.length l0_0 i754 i755 A757 c758 (([(-1), 0, 1, 6, 7] : List Int).length) ([(-1), 0, 1, 6, 7] : List Int) hB hF (hS _ R0_0) hc0_0 (hT 0 _ rfl).row (hT 0 _ rfl).cap _ _ _ hx760)) (fun _ => ?_)
      refine o_q rfl rfl (q_f F27_0 rfl) ?_
      refine o_e rfl (e_store (i := 2) rfl rfl rfl rfl Z3 rfl rfl) (fun _ => ?_)
      refine o_end ?_
      refine zao ?_
      refine x_meetJ (i761, l5, l6, i762, i763, A9, c10, A11, c12) h trivial (fun w h => za7 [5, 2, 3, 4, 0] (by decide) rfl w h) ?_
      repeat (first | exact zac _ _ | refine zak rfl ?_ | refine zad rfl ?_ | refine zal rfl ?_)
    · skip
      replace h := br_f hb756 h
      refine c_seq ?_
      refine za0 ?_
      refine o_q rfl rfl (q_eql rfl rfl) ?_
      refine o_q rfl rfl (q_asg rfl) ?_
      refine o_end ?_
      refine za1 ?_
      refine zas _ rfl (fun hb764 => ?_) (fun hb764 => ?_)
      · skip
        replace h := br_t hb764 h
        refine c_seq ?_
        refine za0 ?_
        refine o_q rfl rfl (q_f F27_1 rfl) ?_
        refine o_q rfl rfl (q_ldb Y24 rfl (fun w h => h.zai (i := 1) rfl) rfl) ?_
        refine o_q rfl rfl (q_len Try.underlying24 rfl) ?_
        refine o_q rfl rfl (q_gtr rfl rfl) ?_
        refine o_end ?_
        refine za1 ?_
        refine zas _ rfl (fun hb765 => ?_) (fun hb765 => ?_)
        · skip
          replace h := br_t hb765 h
          refine a_startS (ds := []) [none, some 1, none, some 3, some 4] MO rfl ?_
          refine za9 0 rfl rfl rfl (by kernel_rfl) (fun _ _ _ h => h) (q_f F27_1 rfl) ?_
          refine a_take 1 rfl rfl rfl (by kernel_rfl) (fun _ _ _ h => h) (fun w h => zae [none, some 1, none, some 3, some 4] (by decide) w h rfl) (q_ldb Y24 rfl (fun w h => h.zai (i := 1) rfl) rfl) ?_
          refine za9 2 rfl rfl rfl (by kernel_rfl) (fun _ _ _ h => h) (za2 rfl) ?_
          refine za9 3 rfl rfl rfl (by kernel_rfl) (fun _ _ _ h => h) (q_f F27_1 rfl) ?_
          refine a_take 4 rfl rfl rfl (by kernel_rfl) (fun _ _ _ h => h) (fun w h => zae [none, some 1, none, some 3, some 4] (by decide) w h rfl) (q_ldb Y24 rfl (fun w h => h.zai (i := 1) rfl) rfl) ?_
          refine za9 5 rfl rfl rfl (by kernel_rfl) (fun _ _ _ h => h) (q_len Try.underlying24 rfl) ?_
          refine za9 7 rfl rfl rfl (by kernel_rfl) (fun _ _ _ h => h) (za2 rfl) ?_
          refine za9 10 rfl rfl rfl (by kernel_rfl) (fun _ _ _ h => h) (za2 rfl) ?_
          refine bindE3 h (fun i767 i768 i769 hx766 h => ?_) rfl
          refine a_one 6 rfl rfl (by kernel_rfl) rfl (zaa 1 Z Try.func85 N85 rfl rfl rfl (fun w P1 hF hB hS hT => spec_l1Cur_pick.calls g0 A0_0 c0_0 l0_0.length l0_0 i754 i755 (l5.length : Int) hB hF (hS _ R0_0) hc0_0 _ _ _ hx766)) (fun s w h => zae [none, some 1, none, some 3, some 4] (by decide) w h rfl) (fun _ => ?_)
          refine bindE3 h (fun i771 i772 i773 hx770 h => ?_) rfl
          refine a_one 8 rfl rfl (by kernel_rfl) rfl (zaa 1 Z Try.func85 N85 rfl rfl rfl (fun w P1 hF hB hS hT => spec_l1Cur_pick.calls g0 A0_0 c0_0 l0_0.length l0_0 i768 i769 5 hB hF (hS _ R0_0) hc0_0 _ _ _ hx770)) (fun s w h => zae [none, some 1, none, some 3, some 4] (by decide) w h rfl) (fun _ => ?_)
          refine za9 9 rfl rfl rfl (by kernel_rfl) (fun _ _ _ h => h) (q_sub64 rfl rfl) ?_
          refine bindE3 h (fun i775 i776 i777 hx774 h => ?_) rfl
          refine a_one 11 rfl rfl (by kernel_rfl) rfl (zaa 1 Z Try.func85 N85 rfl rfl rfl (fun w P1 hF hB hS hT => spec_l1Cur_pick.calls g0 A0_0 c0_0 l0_0.length l0_0 i772 i773 8 hB hF (hS _ R0_0) hc0_0 _ _ _ hx774)) (fun s w h => zae [none, some 1, none, some 3, some 4] (by decide) w h rfl) (fun _ => ?_)
          refine za9 12 rfl rfl rfl (by kernel_rfl) (fun _ _ _ h => h) (q_build (vs := [(0, .int .i64 (w64 (i771 - 1))), (1, .int .i64 i775)]) (cs := [.int .i64 (w64 (i771 - 1)), .int .i64 i775]) rfl rfl) ?_
          refine a_fact (p := Sh A9 l5.length l5.length) (fun w h => f_sh (dk := kStep) h (fun w h => h.zaq (i := 2) rfl)) (fun hq778 => ?_)
          refine za8 h (fun y780 hg779 h => ?_) rfl
          refine za9 13 rfl rfl rfl (by kernel_rfl) (fun _ _ _ h => h) (q_ix Try.underlying24 Z89 rfl rfl hq778 hg779) ?_
          refine za8 h (fun l781 hs782 h => ?_) rfl
          refine a_one 14 rfl rfl (by kernel_rfl) rfl (e_setF (i := 2) (off := 0) (vs := [.int .i64 (w64 (i771 - 1)), .int .i64 i775]) (q' := (⟨w64 (i771 - 1), i775⟩ : SStep)) rfl rfl rfl rfl rfl rfl Z89 hg779 rfl rfl hs782) (fun s w h => zae [none, some 1, none, some 3, some 4] (by decide) w h rfl) (fun _ => ?_)
          refine a_done (by kernel_rfl) ?_
          refine zao ?_
          refine x_fact (p := l5.length = l781.length) (fun w h => (h.row_C (i := 2) rfl).2.1) (fun hn783 => ?_)
          refine x_meetJ (i4, l781, l6, i776, i777, A9, c10, A11, c12) h trivial (f_pickE (L1 := [box g0 81 #[.slice A0_0 l0_0.length c0_0, .int .i64 i776, .int .u64 i777], box g13 27 #[.int .i64 i4, .slice A9 l5.length c10, .slice A11 l6.length c12], row kStep 89 (.slice A9 l5.length c10) l781, row (Kd.int .i64) 3 (.slice A11 l6.length c12) l6, box g1 27 #[.int .i64 0, .slice none 0 0, .slice none 0 0]]) rfl [4, 1, 2, 3, 0] (by decide) rfl (by (try rw [hn783]); first | done | rfl)) ?_
          repeat (first | exact zac _ _ | refine zak rfl ?_ | refine zad rfl ?_ | refine zal rfl ?_)
        · skip
          replace h := br_f hb765 h
          refine zan ?_
          refine zao ?_
          refine x_meetJ (i4, l5, l6, i754, i755, A9, c10, A11, c12) h trivial (fun w h => za7 [4, 1, 2, 3, 0] (by decide) rfl w h) ?_
          repeat (first | exact zac _ _ | refine zak rfl ?_ | refine zad rfl ?_ | refine zal rfl ?_)
      · skip
        replace h := br_f hb764 h
        refine c_seq ?_
        refine za0 ?_
        refine o_q rfl rfl (q_eql rfl rfl) ?_
        refine o_q rfl rfl (q_asg rfl) ?_
        refine o_end ?_
        refine za1 ?_
        refine zas _ rfl (fun hb784 => ?_) (fun hb784 => ?_)
        · skip
          replace h := br_t hb784 h
          refine bindE3 h (fun i967 i968 i969 hx966 h => ?_) rfl
          refine za8 h (fun l1146 ha1147 h => ?_) rfl
          refine a_startS (ds := []) [none, none, some 2, none, some 4] MO rfl ?_
          refine za9 0 rfl rfl rfl (by kernel_rfl) (fun _ _ _ h => h) (q_f F27_2 rfl) ?_
          refine za9 2 rfl rfl rfl (by kernel_rfl) (fun _ _ _ h => h) (za2 rfl) ?_
          refine a_two 1 3 rfl rfl rfl rfl (by kernel_rfl) rfl rfl (ev_q rfl (q_ldb Y25 rfl (fun w h => h.zai (i := 1) rfl) rfl)) (fun s w h => zae [none, none, some 2, none, some 4] (by decide) w h rfl) (zaa 1 Z Try.func85 N85 rfl rfl rfl (fun w P1 hF hB hS hT => spec_l1Cur_pick.calls g0 A0_0 c0_0 l0_0.length l0_0 i754 i755 12 hB hF (hS _ R0_0) hc0_0 _ _ _ hx966)) (fun s w h => zae [none, none, some 2, none, some 4] (by decide) w h rfl) (fun _ => ?_) (fun _ => ?_)
          · skip
            refine a_one 3 rfl rfl (by kernel_rfl) rfl (zaa 1 Z Try.func85 N85 rfl rfl rfl (fun w P1 hF hB hS hT => spec_l1Cur_pick.calls g0 A0_0 c0_0 l0_0.length l0_0 i754 i755 12 hB hF (hS _ R0_0) hc0_0 _ _ _ hx966)) (fun s w h => zae [none, none, some 2, none, some 4] (by decide) w h rfl) (fun _ => ?_)
            refine za9 4 rfl rfl rfl (by kernel_rfl) (fun _ _ _ h => h) (q_sub64 rfl rfl) ?_
            refine a_one 5 rfl rfl (by kernel_rfl) rfl (e_lit (vs := [(0, .int .i64 (w64 (i967 - 1)))]) (cs := [.int .i64 (w64 (i967 - 1))]) (Kd.int .i64) ([w64 (i967 - 1)] : List Int) Try.underlying25 I3 (by decide) rfl (by decide) rfl rfl (fun _ _ => Kd.zaj _)) (fun s w h => zae [none, none, some 3, none, some 5] (by decide) w h rfl) (cur2 (fun A1086 c1087 => ?_))
            refine a_one 6 rfl rfl (by kernel_rfl) rfl (e_app (i := 4) (j := 0) Try.underlying25 I3 rfl (by decide) (by decide) rfl rfl rfl rfl rfl ha1147) (fun s w h => zae [none, none, some 3, none, some 5] (by decide) w h rfl) (cur2 (fun A1148 c1149 => ?_))
            refine za9 7 rfl rfl rfl (by kernel_rfl) (fun _ _ _ h => h) (q_f F27_2 rfl) ?_
            refine a_one 8 rfl rfl (by kernel_rfl) rfl (e_store (i := 2) rfl rfl rfl rfl Z25 rfl rfl) (fun s w h => zae [none, none, some 3, none, some 5] (by decide) w h rfl) (fun _ => ?_)
            refine a_done (by kernel_rfl) ?_
            refine zao ?_
            refine x_meetJ (i4, l5, l1146, i968, i969, A9, c10, A1148, c1149) h trivial (fun w h => za7 [5, 2, 3, 4, 1] (by decide) rfl w h) ?_
            repeat (first | exact zac _ _ | refine zak rfl ?_ | refine zad rfl ?_ | refine zal rfl ?_)
          · skip
            refine za9 4 rfl rfl rfl (by kernel_rfl) (fun _ _ _ h => h) (q_sub64 rfl rfl) ?_
            refine a_two 1 5 rfl rfl rfl rfl (by kernel_rfl) rfl rfl (ev_q rfl (q_ldb Y25 rfl (fun w h => h.zai (i := 1) rfl) rfl)) (fun s w h => zae [none, none, some 2, none, some 4] (by decide) w h rfl) (e_lit (vs := [(0, .int .i64 (w64 (i967 - 1)))]) (cs := [.int .i64 (w64 (i967 - 1))]) (Kd.int .i64) ([w64 (i967 - 1)] : List Int) Try.underlying25 I3 (by decide) rfl (by decide) rfl rfl (fun _ _ => Kd.zaj _)) (fun s w h => zae [none, none, some 3, none, some 5] (by decide) w h rfl) (fun _ => ?_) (cur2 (fun A1086 c1087 => ?_))
            · skip
              refine a_one 5 rfl rfl (by kernel_rfl) rfl (e_lit (vs := [(0, .int .i64 (w64 (i967 - 1)))]) (cs := [.int .i64 (w64 (i967 - 1))]) (Kd.int .i64) ([w64 (i967 - 1)] : List Int) Try.underlying25 I3 (by decide) rfl (by decide) rfl rfl (fun _ _ => Kd.zaj _)) (fun s w h => zae [none, none, some 3, none, some 5] (by decide) w h rfl) (cur2 (fun A1086 c1087 => ?_))
              refine a_one 6 rfl rfl (by kernel_rfl) rfl (e_app (i := 4) (j := 0) Try.underlying25 I3 rfl (by decide) (by decide) rfl rfl rfl rfl rfl ha1147) (fun s w h => zae [none, none, some 3, none, some 5] (by decide) w h rfl) (cur2 (fun A1148 c1149 => ?_))
              refine za9 7 rfl rfl rfl (by kernel_rfl) (fun _ _ _ h => h) (q_f F27_2 rfl) ?_
              refine a_one 8 rfl rfl (by kernel_rfl) rfl (e_store (i := 2) rfl rfl rfl rfl Z25 rfl rfl) (fun s w h => zae [none, none, some 3, none, some 5] (by decide) w h rfl) (fun _ => ?_)
              refine a_done (by kernel_rfl) ?_
              refine zao ?_
              refine x_meetJ (i4, l5, l1146, i968, i969, A9, c10, A1148, c1149) h trivial (fun w h => za7 [5, 2, 3, 4, 1] (by decide) rfl w h) ?_
              repeat (first | exact zac _ _ | refine zak rfl ?_ | refine zad rfl ?_ | refine zal rfl ?_)
            · skip
              refine a_one 1 rfl rfl (by kernel_rfl) rfl (ev_q rfl (q_ldb Y25 rfl (fun w h => h.zai (i := 2) rfl) rfl)) (fun s w h => zae [none, none, some 3, none, some 5] (by decide) w h rfl) (fun _ => ?_)
              refine a_one 6 rfl rfl (by kernel_rfl) rfl (e_app (i := 4) (j := 0) Try.underlying25 I3 rfl (by decide) (by decide) rfl rfl rfl rfl rfl ha1147) (fun s w h => zae [none, none, some 3, none, some 5] (by decide) w h rfl) (cur2 (fun A1148 c1149 => ?_))
              refine za9 7 rfl rfl rfl (by kernel_rfl) (fun _ _ _ h => h) (q_f F27_2 rfl) ?_
              refine a_one 8 rfl rfl (by kernel_rfl) rfl (e_store (i := 2) rfl rfl rfl rfl Z25 rfl rfl) (fun s w h => zae [none, none, some 3, none, some 5] (by decide) w h rfl) (fun _ => ?_)
              refine a_done (by kernel_rfl) ?_
              refine zao ?_
              refine x_meetJ (i4, l5, l1146, i968, i969, A9, c10, A1148, c1149) h trivial (fun w h => za7 [5, 2, 3, 4, 1] (by decide) rfl w h) ?_
              repeat (first | exact zac _ _ | refine zak rfl ?_ | refine zad rfl ?_ | refine zal rfl ?_)
        · skip
          replace h := br_f hb784 h
          refine c_seq ?_
          refine za0 ?_
          refine o_q rfl rfl (q_eql rfl rfl) ?_
          refine o_q rfl rfl (q_asg rfl) ?_
          refine o_end ?_
          refine za1 ?_
          refine zas _ rfl (fun hb1386 => ?_) (fun hb1386 => ?_)
          · skip
            replace h := br_t hb1386 h
            refine c_seq ?_
            refine za0 ?_
            refine o_q rfl rfl (q_build (vs := [(0, .int .i64 1)]) (cs := [.int .i64 1, .slice none 0 0, .slice none 0 0]) rfl rfl) ?_
            refine o_e rfl (e_storeA (i := 1) rfl rfl rfl Z27 rfl rfl) (fun _ => ?_)
            refine o_end ?_
            refine za1 ?_
            refine c_seq ?_
            refine c_seq ?_
            refine za0 ?_
            refine o_q rfl rfl (za2 rfl) ?_
            refine bindE3 h (fun i1388 i1389 i1390 hx1387 h => ?_) rfl
            refine o_e rfl (zaa 1 Z Try.func85 N85 rfl rfl rfl (fun w P1 hF hB hS hT => spec_l1Cur_pick.calls g0 A0_0 c0_0 l0_0.length l0_0 i754 i755 4 hB hF (hS _ R0_0) hc0_0 _ _ _ hx1387)) (fun _ => ?_)
            refine o_q rfl rfl (q_add64 rfl rfl) ?_
            refine o_q rfl rfl (q_asg rfl) ?_
            refine o_end ?_
            refine za1 ?_
            refine zah ?_
            refine c_nil kStep 89 ?_
            refine za8 h (fun o1403 hl1402 hR1401 => ?_) rfl
            clear h
            refine zat (σ := (List SStep) × Int × (Option Addr) × Nat) (fun k1398 ((l1392, i1395, A1393, c1394) : (List SStep) × Int × (Option Addr) × Nat) => spec_l1Cur_anyPlan.l0 k1398 l1392 i1395 = some o1403) [8, 58, 59, 60, 61, 62, 63, 64, 65, 66, 67, 68, 69, 70, 71, 72, 73] (fun ((l1392, i1395, A1393, c1394) : (List SStep) × Int × (Option Addr) × Nat) => [(8, .int .i64 i1395)]) (fun ((l1392, i1395, A1393, c1394) : (List SStep) × Int × (Option Addr) × Nat) => [row kStep 89 (.slice A1393 l1392.length c1394) l1392, box g0 81 #[.slice A0_0 l0_0.length c0_0, .int .i64 i1389, .int .u64 i1390], box g13 27 #[.int .i64 1, .slice A1393 l1392.length c1394, .slice none 0 0], row kStep 89 (.slice A9 l5.length c10) l5, row (Kd.int .i64) 3 (.slice A11 l6.length c12) l6, box g1 27 #[.int .i64 0, .slice none 0 0, .slice none 0 0]]) k (([] : List SStep), w64 (18 + i1388), none, 0) hl1402 ⟨rfl, trivial⟩ (fun w h => h) ?_
            refine natC (cur4 (fun l1392 i1395 A1393 c1394 => fun U1404 hJ_ => ?_)) (fun k1398 => (cur4 (fun l1392 i1395 A1393 c1394 => fun U1404 hJ_ => ?_)))
            · skip
              replace hJ_ : spec_l1Cur_anyPlan.l0 0 l1392 i1395 = some o1403 := hJ_
              rw [spec_l1Cur_anyPlan.l0] at hJ_
              exact noneE hJ_
            · skip
              clear hl1402
              have h := hJ_; clear hJ_
              replace h : spec_l1Cur_anyPlan.l0 (k1398 + 1) l1392 i1395 = some o1403 := h
              rw [spec_l1Cur_anyPlan.l0] at h
              refine c_seq ?_
              refine c_seq ?_
              refine za0 ?_
              refine o_q rfl rfl (za2 rfl) ?_
              refine o_q rfl rfl (q_gtr rfl rfl) ?_
              refine o_end ?_
              refine za1 ?_
              refine zas _ rfl (fun hb1406 => ?_) (fun hb1406 => ?_)
              · skip
                replace h := br_t hb1406 h
                refine zan ?_
                refine za1 ?_
                refine c_seq ?_
                refine zah ?_
                refine za0 ?_
                refine o_q rfl rfl (q_f F27_1 rfl) ?_
                refine o_q rfl rfl (q_ldb Y24 rfl (fun w h => h.zai (i := 2) rfl) rfl) ?_
                refine o_q rfl rfl (q_f F27_1 rfl) ?_
                refine o_q rfl rfl (q_ldb Y24 rfl (fun w h => h.zai (i := 2) rfl) rfl) ?_
                refine o_q rfl rfl (q_len Try.underlying24 rfl) ?_
                refine o_q rfl rfl (q_f F27_1 rfl) ?_
                refine o_q rfl rfl (q_ldb Y24 rfl (fun w h => h.zai (i := 2) rfl) rfl) ?_
                refine o_q rfl rfl (q_len Try.underlying24 rfl) ?_
                refine o_q rfl rfl (q_build (vs := [(0, .int .i64 (l1392.length : Int)), (1, .int .i64 (l1392.length : Int))]) (cs := [.int .i64 (l1392.length : Int), .int .i64 (l1392.length : Int)]) rfl rfl) ?_
                refine o_e rfl (e_lit (vs := [(0, .agg #[.int .i64 (l1392.length : Int), .int .i64 (l1392.length : Int)])]) (cs := [.int .i64 (l1392.length : Int), .int .i64 (l1392.length : Int)]) kStep ([(⟨(l1392.length : Int), (l1392.length : Int)⟩ : SStep)] : List SStep) Try.underlying24 I89 (by decide) rfl (by decide) rfl rfl (fun _ _ => reps_flat _)) (cur2 (fun A1407 c1408 => ?_))
                refine za8 h (fun l1410 ha1411 h => ?_) rfl
                refine o_e rfl (e_app (i := 1) (j := 0) Try.underlying24 I89 rfl (by decide) (by decide) rfl rfl rfl rfl rfl ha1411) (cur2 (fun A1412 c1413 => ?_))
                refine o_q rfl rfl (q_f F27_1 rfl) ?_
                refine o_e rfl (e_store (i := 3) rfl rfl rfl rfl Z24 rfl rfl) (fun _ => ?_)
                refine o_end ?_
                refine zao ?_
                refine za1 ?_
                refine za0 ?_
                refine o_q rfl rfl (za2 rfl) ?_
                refine o_q rfl rfl (q_sub64 rfl rfl) ?_
                refine o_q rfl rfl (q_asg rfl) ?_
                refine o_end ?_
                refine zam k1398 (l1410, w64 (i1395 - 1), A1412, c1413) (Nat.lt_succ_self _) h ⟨rfl, trivial⟩ (fun w h => za7 [1, 2, 3, 4, 5, 6] (by decide) rfl w h) ?_
                repeat (first | exact zac _ _ | refine zak rfl ?_ | refine zad rfl ?_ | refine zal rfl ?_)
              · skip
                replace h := br_f hb1406 h
                refine c_exit ?_
                refine za6 ?_
                refine za6 ?_
                have e_ := Option.some.inj h; replace h := hR1401; rw [← e_] at h; clear e_
                refine x_hit ?_
                refine za1 ?_
                refine za0 ?_
                refine o_q rfl rfl (q_f F27_1 rfl) ?_
                refine o_q rfl rfl (q_ldb Y24 rfl (fun w h => h.zai (i := 2) rfl) rfl) ?_
                refine o_q rfl rfl (q_len Try.underlying24 rfl) ?_
                refine o_e rfl (e_lit (vs := [(0, .int .i64 (l1392.length : Int))]) (cs := [.int .i64 (l1392.length : Int)]) (Kd.int .i64) ([(l1392.length : Int)] : List Int) Try.underlying25 I3 (by decide) rfl (by decide) rfl rfl (fun _ _ => Kd.zaj _)) (cur2 (fun A1414 c1415 => ?_))
                refine o_q rfl rfl (q_f F27_2 rfl) ?_
                refine o_e rfl (e_store (i := 3) rfl rfl rfl rfl Z25 rfl rfl) (fun _ => ?_)
                refine o_end ?_
                refine zao ?_
                refine x_meetJ (1, l1392, ([(l1392.length : Int)] : List Int), i1389, i1390, A1393, c1394, A1414, c1415) h trivial (fun w h => za7 [6, 3, 1, 0, 2] (by decide) rfl w h) ?_
                repeat (first | exact zac _ _ | refine zak rfl ?_ | refine zad rfl ?_ | refine zal rfl ?_)
          · skip
            replace h := br_f hb1386 h
            refine c_seq ?_
            refine za0 ?_
            refine o_q rfl rfl (q_eql rfl rfl) ?_
            refine o_q rfl rfl (q_asg rfl) ?_
            refine o_end ?_
            refine za1 ?_
            refine zas _ rfl (fun hb1417 => ?_) (fun hb1417 => ?_)
            · skip
              replace h := br_t hb1417 h
              refine zah ?_
              have hl1429 := h; clear h
              refine zat (σ := (List Int) × Int × Int × (Option Addr) × Nat) (fun k1425 ((l1418, i1421, i1422, A1419, c1420) : (List Int) × Int × Int × (Option Addr) × Nat) => spec_l1Cur_anyPlan.l1 l0_0 i4 l5 k1425 l1418 i1421 i1422 = some o747) [81, 82, 83, 84, 85, 86, 87, 88, 89, 90, 91, 92] (fun ((l1418, i1421, i1422, A1419, c1420) : (List Int) × Int × Int × (Option Addr) × Nat) => []) (fun ((l1418, i1421, i1422, A1419, c1420) : (List Int) × Int × Int × (Option Addr) × Nat) => [box g0 81 #[.slice A0_0 l0_0.length c0_0, .int .i64 i1421, .int .u64 i1422], box g13 27 #[.int .i64 i4, .slice A9 l5.length c10, .slice A1419 l1418.length c1420], row kStep 89 (.slice A9 l5.length c10) l5, row (Kd.int .i64) 3 (.slice A1419 l1418.length c1420) l1418, box g1 27 #[.int .i64 0, .slice none 0 0, .slice none 0 0]]) k (l6, i754, i755, A11, c12) hl1429 trivial (fun w h => h) ?_
              refine natC (cur5 (fun l1418 i1421 i1422 A1419 c1420 => fun U1431 hJ_ => ?_)) (fun k1425 => (cur5 (fun l1418 i1421 i1422 A1419 c1420 => fun U1431 hJ_ => ?_)))
              · skip
                replace hJ_ : spec_l1Cur_anyPlan.l1 l0_0 i4 l5 0 l1418 i1421 i1422 = some o747 := hJ_
                rw [spec_l1Cur_anyPlan.l1] at hJ_
                exact noneE hJ_
              · skip
                clear hl1429
                have h := hJ_; clear hJ_
                replace h : spec_l1Cur_anyPlan.l1 l0_0 i4 l5 (k1425 + 1) l1418 i1421 i1422 = some o747 := h
                rw [spec_l1Cur_anyPlan.l1] at h
                refine c_seq ?_
                refine c_seq ?_
                refine a_startS (ds := []) [none, some 1, some 2, some 3, some 4] MO rfl ?_
                refine za9 0 rfl rfl rfl (by kernel_rfl) (fun _ _ _ h => h) (q_f F27_2 rfl) ?_
                refine a_take 1 rfl rfl rfl (by kernel_rfl) (fun _ _ _ h => h) (fun w h => zae [none, some 1, some 2, some 3, some 4] (by decide) w h rfl) (q_ldb Y25 rfl (fun w h => h.zai (i := 1) rfl) rfl) ?_
                refine za9 2 rfl rfl rfl (by kernel_rfl) (fun _ _ _ h => h) (q_len Try.underlying25 rfl) ?_
                refine za9 3 rfl rfl rfl (by kernel_rfl) (fun _ _ _ h => h) (za2 rfl) ?_
                refine bindE3 h (fun i1434 i1435 i1436 hx1433 h => ?_) rfl
                refine a_one 4 rfl rfl (by kernel_rfl) rfl (zaa 1 Z Try.func85 N85 rfl rfl rfl (fun w P1 hF hB hS hT => spec_l1Cur_pick.calls g0 A0_0 c0_0 l0_0.length l0_0 i1421 i1422 2 hB hF (hS _ R0_0) hc0_0 _ _ _ hx1433)) (fun s w h => zae [none, some 1, some 2, some 3, some 4] (by decide) w h rfl) (fun _ => ?_)
                refine za9 5 rfl rfl rfl (by kernel_rfl) (fun _ _ _ h => h) (q_add64 rfl rfl) ?_
                refine za9 6 rfl rfl rfl (by kernel_rfl) (fun _ _ _ h => h) (q_lss rfl rfl) ?_
                refine a_done (by kernel_rfl) ?_
                refine za1 ?_
                refine zas _ rfl (fun hb1437 => ?_) (fun hb1437 => ?_)
                · skip
                  replace h := br_t hb1437 h
                  refine zan ?_
                  refine za1 ?_
                  refine zah ?_
                  refine za0 ?_
                  refine o_q rfl rfl (q_f F27_2 rfl) ?_
                  refine o_q rfl rfl (q_ldb Y25 rfl (fun w h => h.zai (i := 1) rfl) rfl) ?_
                  refine o_e rfl (e_lit (vs := [(0, .int .i64 0)]) (cs := [.int .i64 0]) (Kd.int .i64) ([0] : List Int) Try.underlying25 I3 (by decide) rfl (by decide) rfl rfl (fun _ _ => Kd.zaj _)) (cur2 (fun A1438 c1439 => ?_))
                  refine za8 h (fun l1441 ha1442 h => ?_) rfl
                  refine o_e rfl (e_app (i := 4) (j := 0) Try.underlying25 I3 rfl (by decide) (by decide) rfl rfl rfl rfl rfl ha1442) (cur2 (fun A1443 c1444 => ?_))
                  refine o_q rfl rfl (q_f F27_2 rfl) ?_
                  refine o_e rfl (e_store (i := 2) rfl rfl rfl rfl Z25 rfl rfl) (fun _ => ?_)
                  refine o_end ?_
                  refine zao ?_
                  refine zam k1425 (l1441, i1435, i1436, A1443, c1444) (Nat.lt_succ_self _) h trivial (fun w h => za7 [1, 2, 3, 4, 5] (by decide) rfl w h) ?_
                  repeat (first | exact zac _ _ | refine zak rfl ?_ | refine zad rfl ?_ | refine zal rfl ?_)
                · skip
                  replace h := br_f hb1437 h
                  refine c_exit ?_
                  refine za6 ?_
                  refine za6 ?_
                  refine x_hit ?_
                  refine zao ?_
                  refine x_meetJ (i4, l5, l1418, i1435, i1436, A9, c10, A1419, c1420) h trivial (fun w h => za7 [4, 1, 2, 3, 0] (by decide) rfl w h) ?_
                  repeat (first | exact zac _ _ | refine zak rfl ?_ | refine zad rfl ?_ | refine zal rfl ?_)
            · skip
              replace h := br_f hb1417 h
              refine c_seq ?_
              refine za0 ?_
              refine o_q rfl rfl (q_eql rfl rfl) ?_
              refine o_q rfl rfl (q_asg rfl) ?_
              refine o_end ?_
              refine za1 ?_
              refine zas _ rfl (fun hb1445 => ?_) (fun hb1445 => ?_)
              · skip
                replace h := br_t hb1445 h
                refine c_seq ?_
                refine za0 ?_
                refine o_q rfl rfl (q_build (vs := [(0, .int .i64 2)]) (cs := [.int .i64 2, .slice none 0 0, .slice none 0 0]) rfl rfl) ?_
                refine o_e rfl (e_storeA (i := 1) rfl rfl rfl Z27 rfl rfl) (fun _ => ?_)
                refine o_end ?_
                refine za1 ?_
                refine c_seq ?_
                refine c_seq ?_
                refine za0 ?_
                refine o_q rfl rfl (za2 rfl) ?_
                refine bindE3 h (fun i1447 i1448 i1449 hx1446 h => ?_) rfl
                refine o_e rfl (zaa 1 Z Try.func85 N85 rfl rfl rfl (fun w P1 hF hB hS hT => spec_l1Cur_pick.calls g0 A0_0 c0_0 l0_0.length l0_0 i754 i755 2 hB hF (hS _ R0_0) hc0_0 _ _ _ hx1446)) (fun _ => ?_)
                refine o_q rfl rfl (q_add64 rfl rfl) ?_
                refine o_q rfl rfl (q_asg rfl) ?_
                refine o_end ?_
                refine za1 ?_
                refine zah ?_
                refine c_nil kStep 89 ?_
                refine za8 h (fun o1462 hl1461 hR1460 => ?_) rfl
                clear h
                refine zat (σ := (List SStep) × Int × (Option Addr) × Nat) (fun k1457 ((l1451, i1454, A1452, c1453) : (List SStep) × Int × (Option Addr) × Nat) => spec_l1Cur_anyPlan.l2 k1457 l1451 i1454 = some o1462) [9, 99, 100, 101, 102, 103, 104, 105, 106, 107, 108, 109, 110, 111, 112] (fun ((l1451, i1454, A1452, c1453) : (List SStep) × Int × (Option Addr) × Nat) => [(9, .int .i64 i1454)]) (fun ((l1451, i1454, A1452, c1453) : (List SStep) × Int × (Option Addr) × Nat) => [row kStep 89 (.slice A1452 l1451.length c1453) l1451, box g0 81 #[.slice A0_0 l0_0.length c0_0, .int .i64 i1448, .int .u64 i1449], box g13 27 #[.int .i64 2, .slice A1452 l1451.length c1453, .slice none 0 0], row kStep 89 (.slice A9 l5.length c10) l5, row (Kd.int .i64) 3 (.slice A11 l6.length c12) l6, box g1 27 #[.int .i64 0, .slice none 0 0, .slice none 0 0]]) k (([] : List SStep), w64 (40 + i1447), none, 0) hl1461 ⟨rfl, trivial⟩ (fun w h => h) ?_
                refine natC (cur4 (fun l1451 i1454 A1452 c1453 => fun U1463 hJ_ => ?_)) (fun k1457 => (cur4 (fun l1451 i1454 A1452 c1453 => fun U1463 hJ_ => ?_)))
                · skip
                  replace hJ_ : spec_l1Cur_anyPlan.l2 0 l1451 i1454 = some o1462 := hJ_
                  rw [spec_l1Cur_anyPlan.l2] at hJ_
                  exact noneE hJ_
                · skip
                  clear hl1461
                  have h := hJ_; clear hJ_
                  replace h : spec_l1Cur_anyPlan.l2 (k1457 + 1) l1451 i1454 = some o1462 := h
                  rw [spec_l1Cur_anyPlan.l2] at h
                  refine c_seq ?_
                  refine c_seq ?_
                  refine za0 ?_
                  refine o_q rfl rfl (za2 rfl) ?_
                  refine o_q rfl rfl (q_gtr rfl rfl) ?_
                  refine o_end ?_
                  refine za1 ?_
                  refine zas _ rfl (fun hb1465 => ?_) (fun hb1465 => ?_)
                  · skip
                    replace h := br_t hb1465 h
                    refine zan ?_
                    refine za1 ?_
                    refine c_seq ?_
                    refine zah ?_
                    refine za0 ?_
                    refine o_q rfl rfl (q_f F27_1 rfl) ?_
                    refine o_q rfl rfl (q_ldb Y24 rfl (fun w h => h.zai (i := 2) rfl) rfl) ?_
                    refine o_q rfl rfl (q_f F27_1 rfl) ?_
                    refine o_q rfl rfl (q_ldb Y24 rfl (fun w h => h.zai (i := 2) rfl) rfl) ?_
                    refine o_q rfl rfl (q_len Try.underlying24 rfl) ?_
                    refine o_q rfl rfl (q_add64 rfl rfl) ?_
                    refine o_q rfl rfl (q_build (vs := [(0, .int .i64 0), (1, .int .i64 (w64 (1 + (l1451.length : Int))))]) (cs := [.int .i64 0, .int .i64 (w64 (1 + (l1451.length : Int)))]) rfl rfl) ?_
                    refine o_e rfl (e_lit (vs := [(0, .agg #[.int .i64 0, .int .i64 (w64 (1 + (l1451.length : Int)))])]) (cs := [.int .i64 0, .int .i64 (w64 (1 + (l1451.length : Int)))]) kStep ([(⟨0, w64 (1 + (l1451.length : Int))⟩ : SStep)] : List SStep) Try.underlying24 I89 (by decide) rfl (by decide) rfl rfl (fun _ _ => reps_flat _)) (cur2 (fun A1466 c1467 => ?_))
                    refine za8 h (fun l1469 ha1470 h => ?_) rfl
                    refine o_e rfl (e_app (i := 1) (j := 0) Try.underlying24 I89 rfl (by decide) (by decide) rfl rfl rfl rfl rfl ha1470) (cur2 (fun A1471 c1472 => ?_))
                    refine o_q rfl rfl (q_f F27_1 rfl) ?_
                    refine o_e rfl (e_store (i := 3) rfl rfl rfl rfl Z24 rfl rfl) (fun _ => ?_)
                    refine o_end ?_
                    refine zao ?_
                    refine za1 ?_
                    refine za0 ?_
                    refine o_q rfl rfl (za2 rfl) ?_
                    refine o_q rfl rfl (q_sub64 rfl rfl) ?_
                    refine o_q rfl rfl (q_asg rfl) ?_
                    refine o_end ?_
                    refine zam k1457 (l1469, w64 (i1454 - 1), A1471, c1472) (Nat.lt_succ_self _) h ⟨rfl, trivial⟩ (fun w h => za7 [1, 2, 3, 4, 5, 6] (by decide) rfl w h) ?_
                    repeat (first | exact zac _ _ | refine zak rfl ?_ | refine zad rfl ?_ | refine zal rfl ?_)
                  · skip
                    replace h := br_f hb1465 h
                    refine c_exit ?_
                    refine za6 ?_
                    refine za6 ?_
                    have e_ := Option.some.inj h; replace h := hR1460; rw [← e_] at h; clear e_
                    refine x_hit ?_
                    refine za1 ?_
                    refine za0 ?_
                    refine o_e rfl (e_lit (vs := [(0, .int .i64 5)]) (cs := [.int .i64 5]) (Kd.int .i64) ([5] : List Int) Try.underlying25 I3 (by decide) rfl (by decide) rfl rfl (fun _ _ => Kd.zaj _)) (cur2 (fun A1473 c1474 => ?_))
                    refine o_q rfl rfl (q_f F27_2 rfl) ?_
                    refine o_e rfl (e_store (i := 3) rfl rfl rfl rfl Z25 rfl rfl) (fun _ => ?_)
                    refine o_end ?_
                    refine zao ?_
                    refine x_meetJ (2, l1451, ([5] : List Int), i1448, i1449, A1452, c1453, A1473, c1474) h trivial (fun w h => za7 [6, 3, 1, 0, 2] (by decide) rfl w h) ?_
                    repeat (first | exact zac _ _ | refine zak rfl ?_ | refine zad rfl ?_ | refine zal rfl ?_)
              · skip
                replace h := br_f hb1445 h
                refine zan ?_
                refine zao ?_
                refine x_meetJ (i4, l5, l6, i754, i755, A9, c10, A11, c12) h trivial (fun w h => za7 [4, 1, 2, 3, 0] (by decide) rfl w h) ?_
                repeat (first | exact zac _ _ | refine zak rfl ?_ | refine zad rfl ?_ | refine zal rfl ?_)
  · skip
    refine (cur9 (fun i738 l739 l742 i745 i746 A740 c741 A743 c744 => fun U750 hJ751 => ?_))
    have e_ := Option.some.inj hJ751; have h := hR749; rw [← e_] at h; clear e_ hJ751 hR749 hl748
    refine c_seq ?_
    refine za0 ?_
    refine o_q rfl rfl (q_ldB G27 Z27 rfl (fun w h => h.zai (i := 1) rfl) rfl) ?_
    refine o_e rfl (e_storeA (i := 0) rfl rfl rfl Z27 rfl rfl) (fun _ => ?_)
    refine o_end ?_
    refine za1 ?_
    refine c_ret ?_
    have e0_ := Option.some.inj h; clear h
    have d0_ := (Prod.mk.inj e0_).1; have e1_ := (Prod.mk.inj e0_).2; clear e0_; subst d0_
    have d1_ := (Prod.mk.inj e1_).1; have e2_ := (Prod.mk.inj e1_).2; clear e1_; subst d1_
    have d2_ := (Prod.mk.inj e2_).1; have e3_ := (Prod.mk.inj e2_).2; clear e2_; subst d2_
    have d3_ := (Prod.mk.inj e3_).1; have e4_ := (Prod.mk.inj e3_).2; clear e3_; subst d3_
    subst e4_
    exact x_r1 (A740, c741, A743, c744) Try.results84 (rv_cell rfl G27 Z27 (fun w h => h.zai (i := 0) rfl) rfl) rfl (fun w h => za7 [2, 3, 4] (by decide) rfl w h)

/-! ### (*loop.example/g01098/spec.l1Cur).of: function 125 -/
def spec_l1Cur_of.f (l0_0 : List Int) (a0_1 : Int) (a0_2 : Int) (l1 : List ByteArray) : Option (ByteArray × Int × Int) := (spec_l1Cur_pick.f l0_0 a0_1 a0_2 (l1.length : Int)).bind fun (i2, i3, i4) => (gt l1 i2).bind fun y7 => some (y7, i3, i4)
set_option maxHeartbeats 600000 in
set_option maxRecDepth 100000 in
theorem spec_l1Cur_of.calls {w0 ws : World} {P0 : Nat → Prop} (g0 : Nat) (A0_0 : Option Addr) (c0_0 : Nat) (n0_0 : Nat) (l0_0 : List Int) (a0_1 : Int) (a0_2 : Int) (A1 : Option Addr) (c1 : Nat) (n1 : Nat) (l1 : List ByteArray) (Z : Below w0.heap.size w0 ws) (hF : Fr w0 ws P0 [box g0 81 #[.slice A0_0 n0_0 c0_0, .int .i64 a0_1, .int .u64 a0_2]] ws) (R0_0 : Stable ws P0 (fun w => Kd.C (Kd.int .u8) w A0_0 n0_0 l0_0)) (hc0_0 : n0_0 ≤ c0_0) (R1 : Stable ws P0 (fun w => Kd.C Kd.string w A1 n1 l1)) (hc1 : n1 ≤ c1) (r_1 : ByteArray) (r_2 : Int) (r_3 : Int) (h : spec_l1Cur_of.f l0_0 a0_1 a0_2 l1 = some (r_1, r_2, r_3)) :
    Calls Try.prog 125 #[.pointer (some ⟨g0, 0, none⟩), .slice A1 n1 c1] ws (Post1 w0 ws P0 (fun (_ : Unit) => .string r_1) (fun (_ : Unit) => [box g0 81 #[.slice A0_0 n0_0 c0_0, .int .i64 r_2, .int .u64 r_3]])) := by
  unfold spec_l1Cur_of.f at h
  obtain rfl := (R0_0 ws (KeptB.refl _ _)).1
  obtain rfl := (R1 ws (KeptB.refl _ _)).1
  refine enter Try.func125 rfl Try.ntmps125 rfl hF ?_
  refine c_seq ?_
  refine za0 ?_
  refine o_q rfl rfl (q_asg rfl) ?_
  refine o_end ?_
  refine za1 ?_
  refine c_seq ?_
  refine za0 ?_
  refine o_q rfl rfl (za2 rfl) ?_
  refine o_q rfl rfl (za2 rfl) ?_
  refine o_q rfl rfl (za2 rfl) ?_
  refine o_q rfl rfl (q_len Try.underlying53 rfl) ?_
  refine bindE3 h (fun i2 i3 i4 hx1 h => ?_) rfl
  refine o_e rfl (zaa 1 Z Try.func85 N85 rfl rfl rfl (fun w P1 hF hB hS hT => spec_l1Cur_pick.calls g0 A0_0 c0_0 l0_0.length l0_0 a0_1 a0_2 (l1.length : Int) hB hF (hS _ R0_0) hc0_0 _ _ _ hx1)) (fun _ => ?_)
  refine o_fact (p := Sh A1 l1.length l1.length) (fun w h => f_sh (dk := Kd.string) h (fun w h => R1.now Z h)) (fun hq5 => ?_)
  refine za8 h (fun y7 hg6 h => ?_) rfl
  refine o_q rfl rfl (q_ix Try.underlying53 Z9 rfl rfl hq5 hg6) ?_
  refine o_q rfl rfl (q_lde (off := 0) Y9 rfl rfl (fun w h => R1.now Z h) hg6 (fun _ _ h => h) rfl) ?_
  refine o_q rfl rfl (q_asg rfl) ?_
  refine o_end ?_
  refine za1 ?_
  refine c_ret ?_
  have e0_ := Option.some.inj h; clear h
  have d0_ := (Prod.mk.inj e0_).1; have e1_ := (Prod.mk.inj e0_).2; clear e0_; subst d0_
  have d1_ := (Prod.mk.inj e1_).1; have e2_ := (Prod.mk.inj e1_).2; clear e1_; subst d1_
  subst e2_
  exact x_r1 () Try.results125 (zab rfl) rfl (fun w h => za7 [0] (by decide) rfl w h)

/-! ### loop.example/g01098/spec.DrawRunWords: function 44 -/
def spec_DrawRunWords.l1 (l0 : List Int) (l33 : List ByteArray) : Nat → Int → Int → ByteArray → Option ((List ByteArray) × Int × Int)
  | 0, _, _, _ => none
  | k116 + 1, i111, i112, s113 => (spec_l1Cur_pick.f l0 i111 i112 20).bind fun (i125, i126, i127) => if (s113.size : Int) < w64 (2000 + i125) then ((sap s113 (⟨#[97, 98, 99, 100, 101, 102, 103, 104, 105, 106]⟩ : ByteArray)).bind fun s130 => spec_DrawRunWords.l1 l0 l33 k116 i126 i127 s130) else ((ap ([s113] : List ByteArray) l33).bind fun l134 => some (l134, i126, i127))
def spec_DrawRunWords.l0 (l0 : List Int) : Nat → (List ByteArray) → Int → Int → Int → Option ((List ByteArray) × Int × Int)
  | 0, _, _, _, _ => none
  | k41 + 1, l33, i36, i37, i38 => if 0 < i38 then ((spec_l1Cur_of.f l0 i36 i37 ([(⟨#[97]⟩ : ByteArray), (⟨#[98]⟩ : ByteArray), (⟨#[97, 98]⟩ : ByteArray), (⟨#[99]⟩ : ByteArray), (⟨#[]⟩ : ByteArray), (⟨#[120, 121, 122]⟩ : ByteArray)] : List ByteArray)).bind fun (s54, i55, i56) => (ap l33 ([s54] : List ByteArray)).bind fun l60 => spec_DrawRunWords.l0 l0 k41 l60 i55 i56 (w64 (i38 - 1))) else (some (l33, i36, i37))
def spec_DrawRunWords.f (k : Nat) (l0 : List Int) : Option (Int × (List SStep) × (List Int) × (List ByteArray)) := (spec_l1Cur_inputs.f l0 0 0).bind fun (i6, i7, i8) => (spec_l1Cur_among.f l0 i7 i8 ([3, 5, 8] : List Int)).bind fun (i13, i14, i15) => (spec_l1Cur_anyPlan.f k l0 i14 i15 i6 i13).bind fun (i17, l18, l19, i20, i21) => (spec_l1Least.f i17 9).bind fun i29 => (spec_l1Most.f 0 i29).bind fun i31 => (spec_DrawRunWords.l0 l0 k ([] : List ByteArray) i20 i21 i31).bind fun (l33, i36, i37) => ((spec_l1Cur_one.f l0 i36 i37 25).bind fun (b107, i108, i109) => if b107 = true then ((spec_DrawRunWords.l1 l0 l33 k i108 i109 (⟨#[48, 49, 50, 51, 52, 53, 54, 55, 56, 57]⟩ : ByteArray))) else (some (l33, i108, i109))).bind fun (l96, i99, i100) => some (i17, l18, l19, l96)
set_option maxHeartbeats 600000 in
set_option maxRecDepth 100000 in
theorem spec_DrawRunWords.calls (k : Nat) {w0 ws : World} {P0 : Nat → Prop} (A0 : Option Addr) (c0 : Nat) (n0 : Nat) (l0 : List Int) (Z : Below w0.heap.size w0 ws) (hF : Fr w0 ws P0 [] ws) (R0 : Stable ws P0 (fun w => Kd.C (Kd.int .u8) w A0 n0 l0)) (hc0 : n0 ≤ c0) (r_1 : Int) (r_2 : List SStep) (r_5 : List Int) (r_8 : List ByteArray) (h : spec_DrawRunWords.f k l0 = some (r_1, r_2, r_5, r_8)) :
    Calls Try.prog 44 #[.slice A0 n0 c0] ws (Post1 w0 ws P0 (fun ((q_3, q_4, q_6, q_7, q_9, q_10) : (Option Addr) × Nat × (Option Addr) × Nat × (Option Addr) × Nat) => .tuple #[.agg #[.int .i64 r_1, .slice q_3 r_2.length q_4, .slice q_6 r_5.length q_7], .slice q_9 r_8.length q_10]) (fun ((q_3, q_4, q_6, q_7, q_9, q_10) : (Option Addr) × Nat × (Option Addr) × Nat × (Option Addr) × Nat) => [row kStep 89 (.slice q_3 r_2.length q_4) r_2, row (Kd.int .i64) 3 (.slice q_6 r_5.length q_7) r_5, row Kd.string 9 (.slice q_9 r_8.length q_10) r_8])) := by
  unfold spec_DrawRunWords.f at h
  obtain rfl := (R0 ws (KeptB.refl _ _)).1
  refine enter Try.func44 rfl Try.ntmps44 rfl hF ?_
  refine c_seq ?_
  refine za0 ?_
  refine o_e rfl (e_alloc V27 rfl) (fun g1 => ?_)
  refine o_q rfl rfl (q_asg rfl) ?_
  refine o_end ?_
  refine za1 ?_
  refine c_seq ?_
  refine za0 ?_
  refine o_q rfl rfl (za2 rfl) ?_
  refine o_q rfl rfl (q_build (vs := [(0, .slice A0 l0.length c0)]) (cs := [.slice A0 l0.length c0, .int .i64 0, .int .u64 0]) rfl rfl) ?_
  refine o_e rfl (e_box rfl) (fun g3 => ?_)
  refine o_q rfl rfl (q_asg rfl) ?_
  refine o_end ?_
  refine za1 ?_
  refine c_seq ?_
  refine za0 ?_
  refine o_q rfl rfl (za2 rfl) ?_
  refine o_q rfl rfl (za2 rfl) ?_
  refine bindE3 h (fun i6 i7 i8 hx5 h => ?_) rfl
  refine o_e rfl (zaa 1 Z Try.func121 N121 rfl rfl rfl (fun w P1 hF hB hS hT => spec_l1Cur_inputs.calls g3 A0 c0 l0.length l0 0 0 hB hF (hS _ R0) hc0 _ _ _ hx5)) (fun _ => ?_)
  refine o_q rfl rfl (za2 rfl) ?_
  refine o_e rfl (e_lit (vs := [(0, .int .i64 3), (1, .int .i64 5), (2, .int .i64 8)]) (cs := [.int .i64 3, .int .i64 5, .int .i64 8]) (Kd.int .i64) ([3, 5, 8] : List Int) Try.underlying25 I3 (by decide) rfl (by decide) rfl rfl (fun _ _ => Kd.zaj _)) (cur2 (fun A9 c10 => ?_))
  refine o_pick [1, 0, 2] (by decide) rfl ?_
  refine bindE3 h (fun i13 i14 i15 hx12 h => ?_) rfl
  refine o_e rfl (zaa 1 Z Try.func122 N122 rfl rfl rfl (fun w P1 hF hB hS hT => spec_l1Cur_among.calls g3 A0 c0 l0.length l0 i7 i8 A9 c10 (([3, 5, 8] : List Int).length) ([3, 5, 8] : List Int) hB hF (hS _ R0) hc0 (hT 0 _ rfl).row (hT 0 _ rfl).cap _ _ _ hx12)) (fun _ => ?_)
  refine bindE5 h (fun i17 l18 l19 i20 i21 hx16 h => ?_) rfl
  refine o_e rfl (zaa 1 Z Try.func84 N84 rfl rfl rfl (fun w P1 hF hB hS hT => spec_l1Cur_anyPlan.calls k g3 A0 c0 l0.length l0 i14 i15 i6 i13 hB hF (hS _ R0) hc0 _ _ _ _ _ hx16)) (cur4 (fun A22 c23 A24 c25 => ?_))
  refine o_e rfl (e_alloc V27 rfl) (fun g26 => ?_)
  refine o_e rfl (e_storeA (i := 0) rfl rfl rfl Z27 rfl rfl) (fun _ => ?_)
  refine o_end ?_
  refine za1 ?_
  refine c_seq ?_
  refine za0 ?_
  refine o_q rfl rfl (q_asg rfl) ?_
  refine o_end ?_
  refine za1 ?_
  refine c_seq ?_
  refine c_seq ?_
  refine za0 ?_
  refine o_q rfl rfl (q_f F27_0 rfl) ?_
  refine o_q rfl rfl (q_ldb Y3 rfl (fun w h => h.zai (i := 0) rfl) rfl) ?_
  refine za8 h (fun i29 hx28 h => ?_) rfl
  refine o_e rfl (zaa 0 Z Try.func124 N124 rfl rfl rfl (fun w P1 hF hB hS hT => spec_l1Least.calls i17 9 hB hF _ hx28)) (fun _ => ?_)
  refine za8 h (fun i31 hx30 h => ?_) rfl
  refine o_e rfl (zaa 0 Z Try.func123 N123 rfl rfl rfl (fun w P1 hF hB hS hT => spec_l1Most.calls 0 i29 hB hF _ hx30)) (fun _ => ?_)
  refine o_q rfl rfl (q_asg rfl) ?_
  refine o_end ?_
  refine za1 ?_
  refine zah ?_
  refine c_nil Kd.string 9 ?_
  refine za8 h (fun o46 hl45 hR44 => ?_) rfl
  clear h
  refine zat (σ := (List ByteArray) × Int × Int × Int × (Option Addr) × Nat) (fun k41 ((l33, i36, i37, i38, A34, c35) : (List ByteArray) × Int × Int × Int × (Option Addr) × Nat) => spec_DrawRunWords.l0 l0 k41 l33 i36 i37 i38 = some o46) [6, 7, 23, 24, 25, 26, 27, 28, 29, 30, 31, 32] (fun ((l33, i36, i37, i38, A34, c35) : (List ByteArray) × Int × Int × Int × (Option Addr) × Nat) => [(6, .slice A34 l33.length c35), (7, .int .i64 i38)]) (fun ((l33, i36, i37, i38, A34, c35) : (List ByteArray) × Int × Int × Int × (Option Addr) × Nat) => [row Kd.string 9 (.slice A34 l33.length c35) l33, box g26 27 #[.int .i64 i17, .slice A22 l18.length c23, .slice A24 l19.length c25], row kStep 89 (.slice A22 l18.length c23) l18, row (Kd.int .i64) 3 (.slice A24 l19.length c25) l19, box g3 81 #[.slice A0 l0.length c0, .int .i64 i36, .int .u64 i37], row (Kd.int .i64) 3 (.slice A9 (([3, 5, 8] : List Int).length) c10) ([3, 5, 8] : List Int), box g1 27 #[.int .i64 0, .slice none 0 0, .slice none 0 0]]) k (([] : List ByteArray), i20, i21, i31, none, 0) hl45 ⟨rfl, rfl, trivial⟩ (fun w h => h) ?_
  refine natC (cur6 (fun l33 i36 i37 i38 A34 c35 => fun U47 hJ_ => ?_)) (fun k41 => (cur6 (fun l33 i36 i37 i38 A34 c35 => fun U47 hJ_ => ?_)))
  · skip
    replace hJ_ : spec_DrawRunWords.l0 l0 0 l33 i36 i37 i38 = some o46 := hJ_
    rw [spec_DrawRunWords.l0] at hJ_
    exact noneE hJ_
  · skip
    clear hl45
    have h := hJ_; clear hJ_
    replace h : spec_DrawRunWords.l0 l0 (k41 + 1) l33 i36 i37 i38 = some o46 := h
    rw [spec_DrawRunWords.l0] at h
    refine c_seq ?_
    refine c_seq ?_
    refine za0 ?_
    refine o_q rfl rfl (za2 rfl) ?_
    refine o_q rfl rfl (q_gtr rfl rfl) ?_
    refine o_end ?_
    refine za1 ?_
    refine zas _ rfl (fun hb49 => ?_) (fun hb49 => ?_)
    · skip
      replace h := br_t hb49 h
      refine zan ?_
      refine za1 ?_
      refine c_seq ?_
      refine zah ?_
      refine za0 ?_
      refine o_q rfl rfl (za2 rfl) ?_
      refine o_q rfl rfl (za2 rfl) ?_
      refine o_e rfl (e_lit (vs := [(0, .string (⟨#[97]⟩ : ByteArray)), (1, .string (⟨#[98]⟩ : ByteArray)), (2, .string (⟨#[97, 98]⟩ : ByteArray)), (3, .string (⟨#[99]⟩ : ByteArray)), (4, .string (⟨#[]⟩ : ByteArray)), (5, .string (⟨#[120, 121, 122]⟩ : ByteArray))]) (cs := [.string (⟨#[97]⟩ : ByteArray), .string (⟨#[98]⟩ : ByteArray), .string (⟨#[97, 98]⟩ : ByteArray), .string (⟨#[99]⟩ : ByteArray), .string (⟨#[]⟩ : ByteArray), .string (⟨#[120, 121, 122]⟩ : ByteArray)]) Kd.string ([(⟨#[97]⟩ : ByteArray), (⟨#[98]⟩ : ByteArray), (⟨#[97, 98]⟩ : ByteArray), (⟨#[99]⟩ : ByteArray), (⟨#[]⟩ : ByteArray), (⟨#[120, 121, 122]⟩ : ByteArray)] : List ByteArray) Try.underlying53 I9 (by decide) rfl (by decide) rfl rfl (fun _ _ => Kd.zaj _)) (cur2 (fun A50 c51 => ?_))
      refine o_pick [5, 0, 1, 2, 3, 4, 6, 7] (by decide) rfl ?_
      refine bindE3 h (fun s54 i55 i56 hx53 h => ?_) rfl
      refine o_e rfl (zaa 1 Z Try.func125 N125 rfl rfl rfl (fun w P1 hF hB hS hT => spec_l1Cur_of.calls g3 A0 c0 l0.length l0 i36 i37 A50 c51 (([(⟨#[97]⟩ : ByteArray), (⟨#[98]⟩ : ByteArray), (⟨#[97, 98]⟩ : ByteArray), (⟨#[99]⟩ : ByteArray), (⟨#[]⟩ : ByteArray), (⟨#[120, 121, 122]⟩ : ByteArray)] : List ByteArray).length) ([(⟨#[97]⟩ : ByteArray), (⟨#[98]⟩ : ByteArray), (⟨#[97, 98]⟩ : ByteArray), (⟨#[99]⟩ : ByteArray), (⟨#[]⟩ : ByteArray), (⟨#[120, 121, 122]⟩ : ByteArray)] : List ByteArray) hB hF (hS _ R0) hc0 (hT 0 _ rfl).row (hT 0 _ rfl).cap _ _ _ hx53)) (fun _ => ?_)
      refine o_e rfl (e_lit (vs := [(0, .string s54)]) (cs := [.string s54]) Kd.string ([s54] : List ByteArray) Try.underlying53 I9 (by decide) rfl (by decide) rfl rfl (fun _ _ => Kd.zaj _)) (cur2 (fun A57 c58 => ?_))
      refine za8 h (fun l60 ha61 h => ?_) rfl
      refine o_e rfl (e_app (i := 3) (j := 0) Try.underlying53 I9 rfl (by decide) (by decide) rfl rfl rfl rfl rfl ha61) (cur2 (fun A62 c63 => ?_))
      refine o_q rfl rfl (q_asg rfl) ?_
      refine o_end ?_
      refine zao ?_
      refine za1 ?_
      refine za0 ?_
      refine o_q rfl rfl (za2 rfl) ?_
      refine o_q rfl rfl (q_sub64 rfl rfl) ?_
      refine o_q rfl rfl (q_asg rfl) ?_
      refine o_end ?_
      refine zam k41 (l60, i55, i56, w64 (i38 - 1), A62, c63) (Nat.lt_succ_self _) h ⟨rfl, rfl, trivial⟩ (fun w h => za7 [3, 4, 5, 6, 1, 7, 8] (by decide) rfl w h) ?_
      repeat (first | exact zac _ _ | refine zak rfl ?_ | refine zad rfl ?_ | refine zal rfl ?_)
    · skip
      replace h := br_f hb49 h
      refine c_exit ?_
      refine za6 ?_
      refine za6 ?_
      have e_ := Option.some.inj h; replace h := hR44; rw [← e_] at h; clear e_
      refine x_hit ?_
      refine za1 ?_
      refine za8 h (fun o101 hl102 hR103 => ?_) rfl
      clear h
      refine c_cutJ (σ := (List ByteArray) × Int × Int × (Option Addr) × Nat) (fun (l96, i99, i100, A97, c98) => some (l96, i99, i100) = some o101) [6, 8, 33, 34, 35, 36, 37, 38, 39, 40, 41, 42, 43, 44, 45, 46] (fun (l96, i99, i100, A97, c98) => [(6, .slice A97 l96.length c98)]) (fun (l96, i99, i100, A97, c98) => [box g1 27 #[.int .i64 0, .slice none 0 0, .slice none 0 0], box g26 27 #[.int .i64 i17, .slice A22 l18.length c23, .slice A24 l19.length c25], row kStep 89 (.slice A22 l18.length c23) l18, row (Kd.int .i64) 3 (.slice A24 l19.length c25) l19, row Kd.string 9 (.slice A97 l96.length c98) l96, box g3 81 #[.slice A0 l0.length c0, .int .i64 i99, .int .u64 i100], row (Kd.int .i64) 3 (.slice A9 (([3, 5, 8] : List Int).length) c10) ([3, 5, 8] : List Int)]) ?_ ?_
      · skip
        have h := hl102; clear hl102
        clear hR103
        refine c_seq ?_
        refine za0 ?_
        refine o_q rfl rfl (za2 rfl) ?_
        refine o_pick [4, 0, 1, 2, 3, 5, 6] (by decide) rfl ?_
        refine bindE3 h (fun b107 i108 i109 hx106 h => ?_) rfl
        refine o_e rfl (zaa 1 Z Try.func117 N117 rfl rfl rfl (fun w P1 hF hB hS hT => spec_l1Cur_one.calls g3 A0 c0 l0.length l0 i36 i37 25 hB hF (hS _ R0) hc0 _ _ _ hx106)) (fun _ => ?_)
        refine o_end ?_
        refine za1 ?_
        refine zas _ rfl (fun hb110 => ?_) (fun hb110 => ?_)
        · skip
          replace h := bb_t hb110 h
          refine c_seq ?_
          refine za0 ?_
          refine o_q rfl rfl (q_asg rfl) ?_
          refine o_end ?_
          refine za1 ?_
          refine c_seq ?_
          refine zah ?_
          have hl120 := h; clear h
          refine zat (σ := Int × Int × ByteArray) (fun k116 ((i111, i112, s113) : Int × Int × ByteArray) => spec_DrawRunWords.l1 l0 l33 k116 i111 i112 s113 = some o101) [8, 35, 36, 37, 38, 39, 40, 41, 42] (fun ((i111, i112, s113) : Int × Int × ByteArray) => [(8, .string s113)]) (fun ((i111, i112, s113) : Int × Int × ByteArray) => [box g3 81 #[.slice A0 l0.length c0, .int .i64 i111, .int .u64 i112], row Kd.string 9 (.slice A34 l33.length c35) l33, box g26 27 #[.int .i64 i17, .slice A22 l18.length c23, .slice A24 l19.length c25], row kStep 89 (.slice A22 l18.length c23) l18, row (Kd.int .i64) 3 (.slice A24 l19.length c25) l19, row (Kd.int .i64) 3 (.slice A9 (([3, 5, 8] : List Int).length) c10) ([3, 5, 8] : List Int), box g1 27 #[.int .i64 0, .slice none 0 0, .slice none 0 0]]) k (i108, i109, (⟨#[48, 49, 50, 51, 52, 53, 54, 55, 56, 57]⟩ : ByteArray)) hl120 ⟨rfl, trivial⟩ (fun w h => h) ?_
          refine natC (cur3 (fun i111 i112 s113 => fun U122 hJ_ => ?_)) (fun k116 => (cur3 (fun i111 i112 s113 => fun U122 hJ_ => ?_)))
          · skip
            replace hJ_ : spec_DrawRunWords.l1 l0 l33 0 i111 i112 s113 = some o101 := hJ_
            rw [spec_DrawRunWords.l1] at hJ_
            exact noneE hJ_
          · skip
            clear hl120
            have h := hJ_; clear hJ_
            replace h : spec_DrawRunWords.l1 l0 l33 (k116 + 1) i111 i112 s113 = some o101 := h
            rw [spec_DrawRunWords.l1] at h
            refine c_seq ?_
            refine c_seq ?_
            refine za0 ?_
            refine o_q rfl rfl (za2 rfl) ?_
            refine o_q rfl rfl (q_lens Try.underlying9 rfl) ?_
            refine o_q rfl rfl (za2 rfl) ?_
            refine bindE3 h (fun i125 i126 i127 hx124 h => ?_) rfl
            refine o_e rfl (zaa 1 Z Try.func85 N85 rfl rfl rfl (fun w P1 hF hB hS hT => spec_l1Cur_pick.calls g3 A0 c0 l0.length l0 i111 i112 20 hB hF (hS _ R0) hc0 _ _ _ hx124)) (fun _ => ?_)
            refine o_q rfl rfl (q_add64 rfl rfl) ?_
            refine o_q rfl rfl (q_lss rfl rfl) ?_
            refine o_end ?_
            refine za1 ?_
            refine zas _ rfl (fun hb128 => ?_) (fun hb128 => ?_)
            · skip
              replace h := br_t hb128 h
              refine zan ?_
              refine za1 ?_
              refine zah ?_
              refine za0 ?_
              refine o_q rfl rfl (za2 rfl) ?_
              refine za8 h (fun s130 hs129 h => ?_) rfl
              refine o_q rfl rfl (q_sap rfl rfl hs129) ?_
              refine o_q rfl rfl (q_asg rfl) ?_
              refine o_end ?_
              refine zao ?_
              refine zam k116 (i126, i127, s130) (Nat.lt_succ_self _) h ⟨rfl, trivial⟩ (fun w h => za7 [0, 1, 2, 3, 4, 5, 6] (by decide) rfl w h) ?_
              repeat (first | exact zac _ _ | refine zak rfl ?_ | refine zad rfl ?_ | refine zal rfl ?_)
            · skip
              replace h := br_f hb128 h
              refine c_exit ?_
              refine za6 ?_
              refine za6 ?_
              refine x_hit ?_
              refine za1 ?_
              refine za0 ?_
              refine o_q rfl rfl (za2 rfl) ?_
              refine o_e rfl (e_lit (vs := [(0, .string s113)]) (cs := [.string s113]) Kd.string ([s113] : List ByteArray) Try.underlying53 I9 (by decide) rfl (by decide) rfl rfl (fun _ _ => Kd.zaj _)) (cur2 (fun A131 c132 => ?_))
              refine o_q rfl rfl (za2 rfl) ?_
              refine za8 h (fun l134 ha135 h => ?_) rfl
              refine o_e rfl (e_appr (i := 0) Try.underlying53 I9 rfl (by decide) (by decide) (fun _ _ _ _ h => h) rfl (fun w h => h.zaq (i := 2) rfl) rfl rfl ha135) (cur2 (fun A136 c137 => ?_))
              refine o_q rfl rfl (q_asg rfl) ?_
              refine o_end ?_
              refine x_meetJ (l134, i126, i127, A136, c137) h ⟨rfl, trivial⟩ (fun w h => za7 [7, 3, 4, 5, 0, 1, 6] (by decide) rfl w h) ?_
              repeat (first | exact zac _ _ | refine zak rfl ?_ | refine zad rfl ?_ | refine zal rfl ?_)
        · skip
          replace h := bb_f hb110 h
          refine zan ?_
          refine x_meetJ (l33, i108, i109, A34, c35) h ⟨rfl, trivial⟩ (fun w h => za7 [6, 2, 3, 4, 1, 0, 5] (by decide) rfl w h) ?_
          repeat (first | exact zac _ _ | refine zak rfl ?_ | refine zad rfl ?_ | refine zal rfl ?_)
      · skip
        refine (cur5 (fun l96 i99 i100 A97 c98 => fun U104 hJ105 => ?_))
        have e_ := Option.some.inj hJ105; have h := hR103; rw [← e_] at h; clear e_ hJ105 hR103 hl102
        refine c_seq ?_
        refine za0 ?_
        refine o_q rfl rfl (q_ldB G27 Z27 rfl (fun w h => h.zai (i := 1) rfl) rfl) ?_
        refine o_q rfl rfl (za2 rfl) ?_
        refine o_e rfl (e_storeA (i := 0) rfl rfl rfl Z27 rfl rfl) (fun _ => ?_)
        refine o_q rfl rfl (q_asg rfl) ?_
        refine o_end ?_
        refine za1 ?_
        refine c_ret ?_
        have e0_ := Option.some.inj h; clear h
        have d0_ := (Prod.mk.inj e0_).1; have e1_ := (Prod.mk.inj e0_).2; clear e0_; subst d0_
        have d1_ := (Prod.mk.inj e1_).1; have e2_ := (Prod.mk.inj e1_).2; clear e1_; subst d1_
        have d2_ := (Prod.mk.inj e2_).1; have e3_ := (Prod.mk.inj e2_).2; clear e2_; subst d2_
        subst e3_
        exact x_r2 (A22, c23, A24, c25, A97, c98) Try.results44 (rv_cell rfl G27 Z27 (fun w h => h.zai (i := 0) rfl) rfl) (zab rfl) rfl (fun w h => za7 [2, 3, 4] (by decide) rfl w h)

/-! ### loop.example/g01098/impl.textOk: function 196 -/
def impl_textOk.f (a0 : Int) : Option Bool := (impl_in.f a0 0 2000).bind fun b2 => some b2
set_option maxHeartbeats 600000 in
set_option maxRecDepth 100000 in
theorem impl_textOk.calls {w0 ws : World} {P0 : Nat → Prop} (a0 : Int) (Z : Below w0.heap.size w0 ws) (hF : Fr w0 ws P0 [] ws)  (r_1 : Bool) (h : impl_textOk.f a0 = some r_1) :
    Calls Try.prog 196 #[.int .i64 a0] ws (Post1 w0 ws P0 (fun (_ : Unit) => .bool r_1) (fun (_ : Unit) => [])) := by
  unfold impl_textOk.f at h
  refine enter Try.func196 rfl Try.ntmps196 rfl hF ?_
  refine c_seq ?_
  refine za0 ?_
  refine o_q rfl rfl (q_asg rfl) ?_
  refine o_end ?_
  refine za1 ?_
  refine c_seq ?_
  refine za0 ?_
  refine o_q rfl rfl (za2 rfl) ?_
  refine za8 h (fun b2 hx1 h => ?_) rfl
  refine o_e rfl (zaa 0 Z Try.func87 N87 rfl rfl rfl (fun w P1 hF hB hS hT => impl_in.calls a0 0 2000 hB hF _ hx1)) (fun _ => ?_)
  refine o_q rfl rfl (q_asg rfl) ?_
  refine o_end ?_
  refine za1 ?_
  refine c_ret ?_
  have e0_ := Option.some.inj h; clear h
  subst e0_
  exact x_r1 () Try.results196 (zab rfl) rfl (fun w h => za7 [] (by decide) rfl w h)

/-! ### loop.example/g01098/impl.lengths$1: function 195 -/
def impl_lengths_1.f (a0 : Int) : Option Bool := (impl_textOk.f a0).bind fun b2 => some (!b2)
set_option maxHeartbeats 600000 in
set_option maxRecDepth 100000 in
theorem impl_lengths_1.calls {w0 ws : World} {P0 : Nat → Prop} (a0 : Int) (Z : Below w0.heap.size w0 ws) (hF : Fr w0 ws P0 [] ws)  (r_1 : Bool) (h : impl_lengths_1.f a0 = some r_1) :
    Calls Try.prog 195 #[.int .i64 a0] ws (Post1 w0 ws P0 (fun (_ : Unit) => .bool r_1) (fun (_ : Unit) => [])) := by
  unfold impl_lengths_1.f at h
  refine enter Try.func195 rfl Try.ntmps195 rfl hF ?_
  refine c_seq ?_
  refine za0 ?_
  refine o_q rfl rfl (q_asg rfl) ?_
  refine o_end ?_
  refine za1 ?_
  refine c_seq ?_
  refine za0 ?_
  refine o_q rfl rfl (za2 rfl) ?_
  refine za8 h (fun b2 hx1 h => ?_) rfl
  refine o_e rfl (zaa 0 Z Try.func196 N196 rfl rfl rfl (fun w P1 hF hB hS hT => impl_textOk.calls a0 hB hF _ hx1)) (fun _ => ?_)
  refine o_q rfl rfl (q_not rfl) ?_
  refine o_q rfl rfl (q_asg rfl) ?_
  refine o_end ?_
  refine za1 ?_
  refine c_ret ?_
  have e0_ := Option.some.inj h; clear h
  subst e0_
  exact x_r1 () Try.results195 (zab rfl) rfl (fun w h => za7 [] (by decide) rfl w h)

/-! ### slices.IndexFunc[[]int,int]: function 186 -/
def slices_IndexFunc_int_int_3.l0 : (List Int) → Int → Option ((Int) ⊕ (Unit))
  | [], i1 => some (.inr ())
  | y2 :: ys3, i1 => (impl_lengths_1.f y2).bind fun b14 => if b14 = true then (some (.inl i1)) else (slices_IndexFunc_int_int_3.l0 ys3 (i1 + 1))
def slices_IndexFunc_int_int_3.f (l0 : List Int) : Option Int := (slices_IndexFunc_int_int_3.l0 l0 0).bind fun o_ => match o_ with | .inl r_ => some r_ | .inr _ => some (-1)
set_option maxHeartbeats 600000 in
set_option maxRecDepth 100000 in
theorem slices_IndexFunc_int_int_3.calls {w0 ws : World} {P0 : Nat → Prop} (A0 : Option Addr) (c0 : Nat) (n0 : Nat) (l0 : List Int) (Z : Below w0.heap.size w0 ws) (hF : Fr w0 ws P0 [] ws) (R0 : Stable ws P0 (fun w => Kd.C (Kd.int .i64) w A0 n0 l0)) (hc0 : n0 ≤ c0) (r_1 : Int) (h : slices_IndexFunc_int_int_3.f l0 = some r_1) :
    Calls Try.prog 186 #[.slice A0 n0 c0, .func (.func 195) #[] #[]] ws (Post1 w0 ws P0 (fun (_ : Unit) => .int .i64 r_1) (fun (_ : Unit) => [])) := by
  unfold slices_IndexFunc_int_int_3.f at h
  obtain rfl := (R0 ws (KeptB.refl _ _)).1
  refine enter Try.func186 rfl Try.ntmps186 rfl hF ?_
  refine c_seq ?_
  refine za0 ?_
  refine o_q rfl rfl (q_asg rfl) ?_
  refine o_end ?_
  refine za1 ?_
  refine c_seq ?_
  refine c_seq ?_
  refine za0 ?_
  refine o_q rfl rfl (za2 rfl) ?_
  refine o_q rfl rfl (q_len Try.underlying25 rfl) ?_
  refine o_q rfl rfl (za2 rfl) ?_
  refine o_end ?_
  refine za1 ?_
  refine zah ?_
  refine za8 h (fun o9 hl8 hR7 => ?_) rfl
  clear h
  refine c_fact (p := l0.length ≤ 9223372036854775807) (fun w h => (R0.now Z h).2.1) (fun hm6 => ?_)
  refine zat (σ := (List Int) × Int) (fun k4 ((ys3, i1) : (List Int) × Int) => Rg l0 i1 ys3 ∧ ys3.length = k4 ∧ slices_IndexFunc_int_int_3.l0 ys3 i1 = some o9) [4, 5, 8, 9, 10, 11, 12, 13, 14, 15, 16, 17, 18] (fun ((ys3, i1) : (List Int) × Int) => [(8, .int .i64 i1)]) (fun ((ys3, i1) : (List Int) × Int) => []) l0.length (l0, 0) ⟨Rg.start _, rfl, hl8⟩ ⟨rfl, trivial⟩ (fun w h => h) ?_
  refine fun k4 => cur2 (listC (fun i1 U10 hJ_ => ?_) (fun y2 ys3 i1 U10 hJ_ => ?_))
  · skip
    clear hl8
    have hr5 := hJ_.1; have hk11 := hJ_.2.1; have h := hJ_.2.2; clear hJ_
    replace h : slices_IndexFunc_int_int_3.l0 [] i1 = some o9 := h
    rw [slices_IndexFunc_int_int_3.l0] at h
    refine c_seq ?_
    refine za0 ?_
    refine o_q rfl rfl (q_lss rfl rfl) ?_
    refine o_end ?_
    refine za1 ?_
    refine c_seq ?_
    refine c_false (congrArg Value.bool hr5.ge) ?_
    refine c_exit ?_
    refine za6 ?_
    refine za6 ?_
    have e_ := Option.some.inj h; replace h := hR7; rw [← e_] at h; clear e_
    refine x_hit ?_
    refine za1 ?_
    refine c_seq ?_
    refine za0 ?_
    refine o_q rfl rfl (q_asg rfl) ?_
    refine o_end ?_
    refine za1 ?_
    refine c_ret ?_
    have e0_ := Option.some.inj h; clear h
    subst e0_
    exact x_r1 () Try.results186 (zab rfl) rfl (fun w h => za7 [] (by decide) rfl w h)
  · skip
    clear hl8
    have hr5 := hJ_.1; have hk11 := hJ_.2.1; have h := hJ_.2.2; clear hJ_
    replace h : slices_IndexFunc_int_int_3.l0 (y2 :: ys3) i1 = some o9 := h
    rw [slices_IndexFunc_int_int_3.l0] at h
    refine c_seq ?_
    refine za0 ?_
    refine o_q rfl rfl (q_lss rfl rfl) ?_
    refine o_end ?_
    refine za1 ?_
    refine c_seq ?_
    refine c_true (congrArg Value.bool hr5.lt) ?_
    refine zan ?_
    refine za1 ?_
    refine c_seq ?_
    refine zah ?_
    refine c_seq ?_
    refine za0 ?_
    refine o_q rfl rfl (za2 rfl) ?_
    refine o_q rfl rfl (q_asg rfl) ?_
    refine o_end ?_
    refine za1 ?_
    refine c_seq ?_
    refine za0 ?_
    refine o_q rfl rfl (za2 rfl) ?_
    refine o_q rfl rfl (za2 rfl) ?_
    refine o_q rfl rfl (za2 rfl) ?_
    refine o_fact (p := Sh A0 l0.length l0.length) (fun w h => f_sh (dk := (Kd.int .i64)) h (fun w h => R0.now Z h)) (fun hq12 => ?_)
    refine o_q rfl rfl (q_ix Try.underlying25 Z3 rfl rfl hq12 hr5.get) ?_
    refine o_q rfl rfl (q_lde (off := 0) Y3 rfl rfl (fun w h => R0.now Z h) hr5.get (fun _ _ h => h) rfl) ?_
    refine za8 h (fun b14 hx13 h => ?_) rfl
    refine o_e rfl (zaa 0 Z Try.func195 N195 rfl rfl rfl (fun w P1 hF hB hS hT => impl_lengths_1.calls y2 hB hF _ hx13)) (fun _ => ?_)
    refine o_end ?_
    refine za1 ?_
    refine zas _ rfl (fun hb15 => ?_) (fun hb15 => ?_)
    · skip
      replace h := bb_t hb15 h
      refine c_seq ?_
      refine za0 ?_
      refine o_q rfl rfl (za2 rfl) ?_
      refine o_q rfl rfl (q_asg rfl) ?_
      refine o_end ?_
      refine za1 ?_
      refine c_ret ?_
      refine zaf ?_
      refine za5 ?_
      refine za5 ?_
      have e_ := Option.some.inj h; replace h := hR7; rw [← e_] at h; clear e_
      refine zaf ?_
      refine za5 ?_
      have e0_ := Option.some.inj h; clear h
      subst e0_
      exact x_r1 () Try.results186 (zab rfl) rfl (fun w h => za7 [] (by decide) rfl w h)
    · skip
      replace h := bb_f hb15 h
      refine zan ?_
      refine zao ?_
      refine za1 ?_
      refine za0 ?_
      refine o_q rfl rfl (q_up rfl rfl (hr5.up hm6)) ?_
      refine o_q rfl rfl (za2 rfl) ?_
      refine o_end ?_
      refine zam ys3.length (ys3, i1 + 1) (by rw [← hk11]; exact Nat.lt_succ_self _) ⟨hr5.step, rfl, h⟩ ⟨rfl, trivial⟩ (fun w h => za7 [] (by decide) rfl w h) ?_
      repeat (first | exact zac _ _ | refine zak rfl ?_ | refine zad rfl ?_ | refine zal rfl ?_)

/-! ### slices.ContainsFunc[[]int,int]: function 107 -/
def slices_ContainsFunc_int_int_3.f (l0 : List Int) : Option Bool := (slices_IndexFunc_int_int_3.f l0).bind fun i2 => some (decide (0 ≤ i2))
set_option maxHeartbeats 600000 in
set_option maxRecDepth 100000 in
theorem slices_ContainsFunc_int_int_3.calls {w0 ws : World} {P0 : Nat → Prop} (A0 : Option Addr) (c0 : Nat) (n0 : Nat) (l0 : List Int) (Z : Below w0.heap.size w0 ws) (hF : Fr w0 ws P0 [] ws) (R0 : Stable ws P0 (fun w => Kd.C (Kd.int .i64) w A0 n0 l0)) (hc0 : n0 ≤ c0) (r_1 : Bool) (h : slices_ContainsFunc_int_int_3.f l0 = some r_1) :
    Calls Try.prog 107 #[.slice A0 n0 c0, .func (.func 195) #[] #[]] ws (Post1 w0 ws P0 (fun (_ : Unit) => .bool r_1) (fun (_ : Unit) => [])) := by
  unfold slices_ContainsFunc_int_int_3.f at h
  obtain rfl := (R0 ws (KeptB.refl _ _)).1
  refine enter Try.func107 rfl Try.ntmps107 rfl hF ?_
  refine c_seq ?_
  refine za0 ?_
  refine o_q rfl rfl (q_asg rfl) ?_
  refine o_end ?_
  refine za1 ?_
  refine c_seq ?_
  refine za0 ?_
  refine o_q rfl rfl (za2 rfl) ?_
  refine o_q rfl rfl (za2 rfl) ?_
  refine za8 h (fun i2 hx1 h => ?_) rfl
  refine o_e rfl (zaa 0 Z Try.func186 N186 rfl rfl rfl (fun w P1 hF hB hS hT => slices_IndexFunc_int_int_3.calls A0 c0 l0.length l0 hB hF (hS _ R0) hc0 _ hx1)) (fun _ => ?_)
  refine o_q rfl rfl (q_geq rfl rfl) ?_
  refine o_q rfl rfl (q_asg rfl) ?_
  refine o_end ?_
  refine za1 ?_
  refine c_ret ?_
  have e0_ := Option.some.inj h; clear h
  subst e0_
  exact x_r1 () Try.results107 (zab rfl) rfl (fun w h => za7 [] (by decide) rfl w h)

/-! ### slices.Clone[[]int,int]: function 141 -/
def slices_Clone_int_int.f (l0 : List Int) : Option (List Int) := (ap ([] : List Int) l0).bind fun l5 => some l5
set_option maxHeartbeats 600000 in
set_option maxRecDepth 100000 in
theorem slices_Clone_int_int.calls {w0 ws : World} {P0 : Nat → Prop} (A0 : Option Addr) (c0 : Nat) (n0 : Nat) (l0 : List Int) (Z : Below w0.heap.size w0 ws) (hF : Fr w0 ws P0 [] ws) (R0 : Stable ws P0 (fun w => Kd.C (Kd.int .i64) w A0 n0 l0)) (hc0 : n0 ≤ c0) (r_1 : List Int) (h : slices_Clone_int_int.f l0 = some r_1) :
    Calls Try.prog 141 #[.slice A0 n0 c0] ws (Post1 w0 ws P0 (fun ((q_2, q_3) : (Option Addr) × Nat) => .slice q_2 r_1.length q_3) (fun ((q_2, q_3) : (Option Addr) × Nat) => [row (Kd.int .i64) 3 (.slice q_2 r_1.length q_3) r_1])) := by
  unfold slices_Clone_int_int.f at h
  obtain rfl := (R0 ws (KeptB.refl _ _)).1
  refine enter Try.func141 rfl Try.ntmps141 rfl hF ?_
  refine c_seq ?_
  refine za0 ?_
  refine o_q rfl rfl (q_asg rfl) ?_
  refine o_end ?_
  refine za1 ?_
  refine c_seq ?_
  refine c_seq ?_
  refine za0 ?_
  refine o_q rfl rfl (za2 rfl) ?_
  refine o_q rfl rfl (q_snil Try.underlying25 rfl rfl) ?_
  refine o_end ?_
  refine za1 ?_
  refine zas _ rfl (fun hb1 => ?_) (fun hb1 => ?_)
  · skip
    have hl_ := nil_of hb1 (R0 ws (KeptB.refl _ _)); subst hl_
    replace h : some ([] : List Int) = some r_1 := h
    refine c_seq ?_
    refine za0 ?_
    refine o_q rfl rfl (q_asg rfl) ?_
    refine o_end ?_
    refine za1 ?_
    refine c_ret ?_
    refine za5 ?_
    refine x_nil (Kd.int .i64) 3 ?_
    have e0_ := Option.some.inj h; clear h
    subst e0_
    exact x_r1 (none, 0) Try.results141 (zab rfl) rfl (fun w h => za7 [0] (by decide) rfl w h)
  · skip
    refine zan ?_
    refine za1 ?_
    refine c_seq ?_
    refine za0 ?_
    refine o_e rfl (e_lit0 (Kd.int .i64) Try.underlying25 I3) (cur2 (fun A2 c3 => ?_))
    refine o_q rfl rfl (za2 rfl) ?_
    refine za8 h (fun l5 ha6 h => ?_) rfl
    refine o_e rfl (e_appr (i := 0) Try.underlying25 I3 rfl (by decide) (by decide) (fun _ _ _ _ h => h) rfl (fun w h => R0.now Z h) rfl rfl ha6) (cur2 (fun A7 c8 => ?_))
    refine o_q rfl rfl (q_asg rfl) ?_
    refine o_end ?_
    refine za1 ?_
    refine c_ret ?_
    have e0_ := Option.some.inj h; clear h
    subst e0_
    exact x_r1 (A7, c8) Try.results141 (zab rfl) rfl (fun w h => za7 [0] (by decide) rfl w h)

/-! ### loop.example/g01098/impl.lengths$2: function 198 -/
def impl_lengths_2.f (a0 : Int) (a1 : Int) : Option Unit := some ()
set_option maxHeartbeats 600000 in
set_option maxRecDepth 100000 in
theorem impl_lengths_2.calls {w0 ws : World} {P0 : Nat → Prop} (a0 : Int) (a1 : Int) (Z : Below w0.heap.size w0 ws) (hF : Fr w0 ws P0 [] ws)   (h : impl_lengths_2.f a0 a1 = some ()) :
    Calls Try.prog 198 #[.int .i64 a0, .int .i64 a1] ws (Post1 w0 ws P0 (fun (_ : Unit) => .int .i64 (mn (w64 (a0 + a1)) 2001)) (fun (_ : Unit) => [])) := by
  unfold impl_lengths_2.f at h
  refine enter Try.func198 rfl Try.ntmps198 rfl hF ?_
  refine c_seq ?_
  refine za0 ?_
  refine o_q rfl rfl (q_asg rfl) ?_
  refine o_end ?_
  refine za1 ?_
  refine c_seq ?_
  refine za0 ?_
  refine o_q rfl rfl (za2 rfl) ?_
  refine o_q rfl rfl (za2 rfl) ?_
  refine o_q rfl rfl (q_add64 rfl rfl) ?_
  refine o_q rfl rfl (q_min rfl rfl) ?_
  refine o_q rfl rfl (q_asg rfl) ?_
  refine o_end ?_
  refine za1 ?_
  refine c_ret ?_
  exact x_r1 () Try.results198 (zab rfl) rfl (fun w h => za7 [] (by decide) rfl w h)

/-! ### loop.example/g01098/impl.run[int]: function 197 -/
def impl_run_int.l0 : (List SStep) → (List Int) → Int → Option (List Int)
  | [], l5, i8 => some l5
  | y9 :: ys10, l5, i8 => (gt l5 y9.f0).bind fun y325 => (gt l5 y9.f1).bind fun y624 => (impl_lengths_2.f y325 y624).bind fun _ => (ap l5 ([mn (w64 (y325 + y624)) 2001] : List Int)).bind fun l863 => impl_run_int.l0 ys10 l863 (i8 + 1)
def impl_run_int.f (a0_0 : Int) (l0_1 : List SStep) (l0_2 : List Int) (l1 : List Int) : Option (List Int) := (slices_Clone_int_int.f l1).bind fun l2 => (impl_run_int.l0 l0_1 l2 0).bind fun l5 => some l5
set_option maxHeartbeats 600000 in
set_option maxRecDepth 100000 in
theorem impl_run_int.calls {w0 ws : World} {P0 : Nat → Prop} (g0 : Nat) (a0_0 : Int) (A0_1 : Option Addr) (c0_1 : Nat) (n0_1 : Nat) (l0_1 : List SStep) (A0_2 : Option Addr) (c0_2 : Nat) (n0_2 : Nat) (l0_2 : List Int) (A1 : Option Addr) (c1 : Nat) (n1 : Nat) (l1 : List Int) (Z : Below w0.heap.size w0 ws) (hF : Fr w0 ws P0 [] ws) (R0_1 : Stable ws P0 (fun w => Kd.C kStep w A0_1 n0_1 l0_1)) (hc0_1 : n0_1 ≤ c0_1) (R0_2 : Stable ws P0 (fun w => Kd.C (Kd.int .i64) w A0_2 n0_2 l0_2)) (hc0_2 : n0_2 ≤ c0_2) (B0 : Stable ws P0 (fun w => w.heap[g0]? = some (.cells #[.int .i64 a0_0, .slice A0_1 n0_1 c0_1, .slice A0_2 n0_2 c0_2] 27 (0, 0)))) (R1 : Stable ws P0 (fun w => Kd.C (Kd.int .i64) w A1 n1 l1)) (hc1 : n1 ≤ c1) (r_1 : List Int) (h : impl_run_int.f a0_0 l0_1 l0_2 l1 = some r_1) :
    Calls Try.prog 197 #[.pointer (some ⟨g0, 0, none⟩), .slice A1 n1 c1, .func (.func 198) #[] #[]] ws (Post1 w0 ws P0 (fun ((q_2, q_3) : (Option Addr) × Nat) => .slice q_2 r_1.length q_3) (fun ((q_2, q_3) : (Option Addr) × Nat) => [row (Kd.int .i64) 3 (.slice q_2 r_1.length q_3) r_1])) := by
  unfold impl_run_int.f at h
  obtain rfl := (R0_1 ws (KeptB.refl _ _)).1
  obtain rfl := (R0_2 ws (KeptB.refl _ _)).1
  obtain rfl := (R1 ws (KeptB.refl _ _)).1
  refine enter Try.func197 rfl Try.ntmps197 rfl hF ?_
  refine c_seq ?_
  refine za0 ?_
  refine o_q rfl rfl (q_asg rfl) ?_
  refine o_end ?_
  refine za1 ?_
  refine c_seq ?_
  refine za0 ?_
  refine o_q rfl rfl (za2 rfl) ?_
  refine za8 h (fun l2 hx1 h => ?_) rfl
  refine o_e rfl (zaa 0 Z Try.func141 N141 rfl rfl rfl (fun w P1 hF hB hS hT => slices_Clone_int_int.calls A1 c1 l1.length l1 hB hF (hS _ R1) hc1 _ hx1)) (cur2 (fun A3 c4 => ?_))
  refine o_q rfl rfl (q_asg rfl) ?_
  refine o_end ?_
  refine za1 ?_
  refine c_seq ?_
  refine c_seq ?_
  refine za0 ?_
  refine o_q rfl rfl (za2 rfl) ?_
  refine o_q rfl rfl (q_nil rfl) ?_
  refine o_q rfl rfl (q_f F27_1 rfl) ?_
  refine o_q rfl rfl (q_ldb Y24 rfl (fun w h => B0.now Z h) rfl) ?_
  refine o_q rfl rfl (q_len Try.underlying24 rfl) ?_
  refine o_q rfl rfl (za2 rfl) ?_
  refine o_end ?_
  refine za1 ?_
  refine zah ?_
  refine za8 h (fun o16 hl15 hR14 => ?_) rfl
  clear h
  refine c_fact (p := l0_1.length ≤ 9223372036854775807) (fun w h => (R0_1.now Z h).2.1) (fun hm13 => ?_)
  refine zat (σ := (List SStep) × (List Int) × Int × (Option Addr) × Nat) (fun k11 ((ys10, l5, i8, A6, c7) : (List SStep) × (List Int) × Int × (Option Addr) × Nat) => Rg l0_1 i8 ys10 ∧ ys10.length = k11 ∧ impl_run_int.l0 ys10 l5 i8 = some o16) [7, 9, 17, 18, 19, 20, 21, 22, 23, 24, 25, 26, 27, 28, 29, 30, 31, 32, 33, 34, 35, 36] (fun ((ys10, l5, i8, A6, c7) : (List SStep) × (List Int) × Int × (Option Addr) × Nat) => [(7, .slice A6 l5.length c7), (17, .int .i64 i8)]) (fun ((ys10, l5, i8, A6, c7) : (List SStep) × (List Int) × Int × (Option Addr) × Nat) => [row (Kd.int .i64) 3 (.slice A6 l5.length c7) l5]) l0_1.length (l0_1, l2, 0, A3, c4) ⟨Rg.start _, rfl, hl15⟩ ⟨rfl, rfl, trivial⟩ (fun w h => h) ?_
  refine fun k11 => cur5 (listC (fun l5 i8 A6 c7 U17 hJ_ => ?_) (fun y9 ys10 l5 i8 A6 c7 U17 hJ_ => ?_))
  · skip
    clear hl15
    have hr12 := hJ_.1; have hk18 := hJ_.2.1; have h := hJ_.2.2; clear hJ_
    replace h : impl_run_int.l0 [] l5 i8 = some o16 := h
    rw [impl_run_int.l0] at h
    refine c_seq ?_
    refine za0 ?_
    refine o_q rfl rfl (q_lss rfl rfl) ?_
    refine o_end ?_
    refine za1 ?_
    refine c_seq ?_
    refine c_false (congrArg Value.bool hr12.ge) ?_
    refine c_exit ?_
    refine za6 ?_
    refine za6 ?_
    have e_ := Option.some.inj h; replace h := hR14; rw [← e_] at h; clear e_
    refine x_hit ?_
    refine za1 ?_
    refine c_seq ?_
    refine za0 ?_
    refine o_q rfl rfl (za2 rfl) ?_
    refine o_q rfl rfl (q_asg rfl) ?_
    refine o_end ?_
    refine za1 ?_
    refine c_ret ?_
    have e0_ := Option.some.inj h; clear h
    subst e0_
    exact x_r1 (A6, c7) Try.results197 (zab rfl) rfl (fun w h => za7 [0] (by decide) rfl w h)
  · skip
    clear hl15
    have hr12 := hJ_.1; have hk18 := hJ_.2.1; have h := hJ_.2.2; clear hJ_
    replace h : impl_run_int.l0 (y9 :: ys10) l5 i8 = some o16 := h
    rw [impl_run_int.l0] at h
    refine c_seq ?_
    refine za0 ?_
    refine o_q rfl rfl (q_lss rfl rfl) ?_
    refine o_end ?_
    refine za1 ?_
    refine c_seq ?_
    refine c_true (congrArg Value.bool hr12.lt) ?_
    refine zan ?_
    refine za1 ?_
    refine c_seq ?_
    refine zah ?_
    refine c_seq ?_
    refine za0 ?_
    refine o_fact (p := Sh A0_1 l0_1.length l0_1.length) (fun w h => f_sh (dk := kStep) h (fun w h => R0_1.now Z h)) (fun hq19 => ?_)
    refine o_q rfl rfl (q_ix Try.underlying24 Z89 rfl rfl hq19 hr12.get) ?_
    refine o_q rfl rfl (q_ldE G89 Z89 rfl rfl (fun w h => R0_1.now Z h) hr12.get (fun _ _ h => h) rfl) ?_
    refine o_e rfl (e_alloc V89 rfl) (fun g20 => ?_)
    refine o_e rfl (e_storeA (i := 0) rfl rfl rfl Z89 rfl rfl) (fun _ => ?_)
    refine o_end ?_
    refine za1 ?_
    refine za8 h (fun y325 hg324 h => ?_) rfl
    refine za8 h (fun y624 hg623 h => ?_) rfl
    refine za8 h (fun _ hx743 h => ?_) rfl
    refine za8 h (fun l863 ha864 h => ?_) rfl
    refine a_startS (ds := []) [some 0, none] MO rfl ?_
    refine za9 0 rfl rfl rfl (by kernel_rfl) (fun _ _ _ h => h) (za2 rfl) ?_
    refine za9 1 rfl rfl rfl (by kernel_rfl) (fun _ _ _ h => h) (za2 rfl) ?_
    refine za9 2 rfl rfl rfl (by kernel_rfl) (fun _ _ _ h => h) (za2 rfl) ?_
    refine za9 3 rfl rfl rfl (by kernel_rfl) (fun _ _ _ h => h) (q_f F89_0 rfl) ?_
    refine a_take 4 rfl rfl rfl (by kernel_rfl) (fun _ _ _ h => h) (fun w h => zae [some 0, none] (by decide) w h rfl) (q_ldb Y3 rfl (fun w h => h.zai (i := 0) rfl) rfl) ?_
    refine a_fact (p := Sh A6 l5.length l5.length) (fun w h => f_sh (dk := (Kd.int .i64)) h (fun w h => h.zaq (i := 1) rfl)) (fun hq323 => ?_)
    refine za9 5 rfl rfl rfl (by kernel_rfl) (fun _ _ _ h => h) (q_ix Try.underlying25 Z3 rfl rfl hq323 hg324) ?_
    refine za9 7 rfl rfl rfl (by kernel_rfl) (fun _ _ _ h => h) (za2 rfl) ?_
    refine za9 8 rfl rfl rfl (by kernel_rfl) (fun _ _ _ h => h) (q_f F89_1 rfl) ?_
    refine a_take 9 rfl rfl rfl (by kernel_rfl) (fun _ _ _ h => h) (fun w h => zae [some 0, none] (by decide) w h rfl) (q_ldb Y3 rfl (fun w h => h.zai (i := 0) rfl) rfl) ?_
    refine za9 10 rfl rfl rfl (by kernel_rfl) (fun _ _ _ h => h) (q_ix Try.underlying25 Z3 rfl rfl hq323 hg623) ?_
    refine a_two 6 11 rfl rfl rfl rfl (by kernel_rfl) rfl rfl (ev_q rfl (q_lde (off := 0) Y3 rfl rfl (fun w h => h.zaq (i := 1) rfl) hg324 (fun _ _ h => h) rfl)) (fun s w h => zae [some 0, none] (by decide) w h rfl) (ev_q rfl (q_lde (off := 0) Y3 rfl rfl (fun w h => h.zaq (i := 1) rfl) hg623 (fun _ _ h => h) rfl)) (fun s w h => zae [some 0, none] (by decide) w h rfl) (fun _ => ?_) (fun _ => ?_)
    · skip
      refine a_one 11 rfl rfl (by kernel_rfl) rfl (ev_q rfl (q_lde (off := 0) Y3 rfl rfl (fun w h => h.zaq (i := 1) rfl) hg623 (fun _ _ h => h) rfl)) (fun s w h => zae [some 0, none] (by decide) w h rfl) (fun _ => ?_)
      refine a_one 12 rfl rfl (by kernel_rfl) rfl (zaa 0 Z Try.func198 N198 rfl rfl rfl (fun w P1 hF hB hS hT => impl_lengths_2.calls y325 y624 hB hF hx743)) (fun s w h => zae [some 0, none] (by decide) w h rfl) (fun _ => ?_)
      refine a_one 13 rfl rfl (by kernel_rfl) rfl (e_lit (vs := [(0, .int .i64 (mn (w64 (y325 + y624)) 2001))]) (cs := [.int .i64 (mn (w64 (y325 + y624)) 2001)]) (Kd.int .i64) ([mn (w64 (y325 + y624)) 2001] : List Int) Try.underlying25 I3 (by decide) rfl (by decide) rfl rfl (fun _ _ => Kd.zaj _)) (fun s w h => zae [some 1, none] (by decide) w h rfl) (cur2 (fun A803 c804 => ?_))
      refine a_one 14 rfl rfl (by kernel_rfl) rfl (e_app (i := 2) (j := 0) Try.underlying25 I3 rfl (by decide) (by decide) rfl rfl rfl rfl rfl ha864) (fun s w h => zae [some 1, none] (by decide) w h rfl) (cur2 (fun A865 c866 => ?_))
      refine za9 15 rfl rfl rfl (by kernel_rfl) (fun _ _ _ h => h) (q_asg rfl) ?_
      refine a_done (by kernel_rfl) ?_
      refine zao ?_
      refine za1 ?_
      refine za0 ?_
      refine o_q rfl rfl (q_up rfl rfl (hr12.up hm13)) ?_
      refine o_q rfl rfl (za2 rfl) ?_
      refine o_end ?_
      refine zam ys10.length (ys10, l863, i8 + 1, A865, c866) (by rw [← hk18]; exact Nat.lt_succ_self _) ⟨hr12.step, rfl, h⟩ ⟨rfl, rfl, trivial⟩ (fun w h => za7 [2] (by decide) rfl w h) ?_
      repeat (first | exact zac _ _ | refine zak rfl ?_ | refine zad rfl ?_ | refine zal rfl ?_)
    · skip
      refine a_one 6 rfl rfl (by kernel_rfl) rfl (ev_q rfl (q_lde (off := 0) Y3 rfl rfl (fun w h => h.zaq (i := 1) rfl) hg324 (fun _ _ h => h) rfl)) (fun s w h => zae [some 0, none] (by decide) w h rfl) (fun _ => ?_)
      refine a_one 12 rfl rfl (by kernel_rfl) rfl (zaa 0 Z Try.func198 N198 rfl rfl rfl (fun w P1 hF hB hS hT => impl_lengths_2.calls y325 y624 hB hF hx743)) (fun s w h => zae [some 0, none] (by decide) w h rfl) (fun _ => ?_)
      refine a_one 13 rfl rfl (by kernel_rfl) rfl (e_lit (vs := [(0, .int .i64 (mn (w64 (y325 + y624)) 2001))]) (cs := [.int .i64 (mn (w64 (y325 + y624)) 2001)]) (Kd.int .i64) ([mn (w64 (y325 + y624)) 2001] : List Int) Try.underlying25 I3 (by decide) rfl (by decide) rfl rfl (fun _ _ => Kd.zaj _)) (fun s w h => zae [some 1, none] (by decide) w h rfl) (cur2 (fun A803 c804 => ?_))
      refine a_one 14 rfl rfl (by kernel_rfl) rfl (e_app (i := 2) (j := 0) Try.underlying25 I3 rfl (by decide) (by decide) rfl rfl rfl rfl rfl ha864) (fun s w h => zae [some 1, none] (by decide) w h rfl) (cur2 (fun A865 c866 => ?_))
      refine za9 15 rfl rfl rfl (by kernel_rfl) (fun _ _ _ h => h) (q_asg rfl) ?_
      refine a_done (by kernel_rfl) ?_
      refine zao ?_
      refine za1 ?_
      refine za0 ?_
      refine o_q rfl rfl (q_up rfl rfl (hr12.up hm13)) ?_
      refine o_q rfl rfl (za2 rfl) ?_
      refine o_end ?_
      refine zam ys10.length (ys10, l863, i8 + 1, A865, c866) (by rw [← hk18]; exact Nat.lt_succ_self _) ⟨hr12.step, rfl, h⟩ ⟨rfl, rfl, trivial⟩ (fun w h => za7 [2] (by decide) rfl w h) ?_
      repeat (first | exact zac _ _ | refine zak rfl ?_ | refine zad rfl ?_ | refine zal rfl ?_)

/-! ### loop.example/g01098/impl.lengths: function 126 -/
def impl_lengths.f (k : Nat) (a0_0 : Int) (l0_1 : List SStep) (l0_2 : List Int) (l1 : List Int) : Option ((List Int) × Bool) := (impl_IsPlan.f k a0_0 l0_1 l0_2).bind fun b2 => if b2 = true then (if (l1.length : Int) ≠ a0_0 then (some (([] : List Int), false)) else ((slices_ContainsFunc_int_int_3.f l1).bind fun b6 => if b6 = true then (some (([] : List Int), false)) else ((impl_run_int.f a0_0 l0_1 l0_2 l1).bind fun l9 => (slices_Max_int_int.f k l9).bind fun i13 => some (l9, decide (i13 ≤ 2000))))) else (some (([] : List Int), false))
set_option maxHeartbeats 600000 in
set_option maxRecDepth 100000 in
theorem impl_lengths.calls (k : Nat) {w0 ws : World} {P0 : Nat → Prop} (g0 : Nat) (a0_0 : Int) (A0_1 : Option Addr) (c0_1 : Nat) (n0_1 : Nat) (l0_1 : List SStep) (A0_2 : Option Addr) (c0_2 : Nat) (n0_2 : Nat) (l0_2 : List Int) (A1 : Option Addr) (c1 : Nat) (n1 : Nat) (l1 : List Int) (Z : Below w0.heap.size w0 ws) (hF : Fr w0 ws P0 [] ws) (R0_1 : Stable ws P0 (fun w => Kd.C kStep w A0_1 n0_1 l0_1)) (hc0_1 : n0_1 ≤ c0_1) (R0_2 : Stable ws P0 (fun w => Kd.C (Kd.int .i64) w A0_2 n0_2 l0_2)) (hc0_2 : n0_2 ≤ c0_2) (B0 : Stable ws P0 (fun w => w.heap[g0]? = some (.cells #[.int .i64 a0_0, .slice A0_1 n0_1 c0_1, .slice A0_2 n0_2 c0_2] 27 (0, 0)))) (R1 : Stable ws P0 (fun w => Kd.C (Kd.int .i64) w A1 n1 l1)) (hc1 : n1 ≤ c1) (r_1 : List Int) (r_4 : Bool) (h : impl_lengths.f k a0_0 l0_1 l0_2 l1 = some (r_1, r_4)) :
    Calls Try.prog 126 #[.pointer (some ⟨g0, 0, none⟩), .slice A1 n1 c1] ws (Post1 w0 ws P0 (fun ((q_2, q_3) : (Option Addr) × Nat) => .tuple #[.slice q_2 r_1.length q_3, .bool r_4]) (fun ((q_2, q_3) : (Option Addr) × Nat) => [row (Kd.int .i64) 3 (.slice q_2 r_1.length q_3) r_1])) := by
  unfold impl_lengths.f at h
  obtain rfl := (R0_1 ws (KeptB.refl _ _)).1
  obtain rfl := (R0_2 ws (KeptB.refl _ _)).1
  obtain rfl := (R1 ws (KeptB.refl _ _)).1
  refine enter Try.func126 rfl Try.ntmps126 rfl hF ?_
  refine c_seq ?_
  refine za0 ?_
  refine o_q rfl rfl (q_asg rfl) ?_
  refine o_q rfl rfl (q_asg rfl) ?_
  refine o_end ?_
  refine za1 ?_
  refine c_seq ?_
  refine c_seq ?_
  refine za0 ?_
  refine o_q rfl rfl (za2 rfl) ?_
  refine o_q rfl rfl (q_nil rfl) ?_
  refine o_q rfl rfl (q_ldB G27 Z27 rfl (fun w h => B0.now Z h) rfl) ?_
  refine za8 h (fun b2 hx1 h => ?_) rfl
  refine o_e rfl (zaa 0 Z Try.func86 N86 rfl rfl rfl (fun w P1 hF hB hS hT => impl_IsPlan.calls k a0_0 A0_1 c0_1 l0_1.length l0_1 A0_2 c0_2 l0_2.length l0_2 hB hF (hS _ R0_1) hc0_1 (hS _ R0_2) hc0_2 _ hx1)) (fun _ => ?_)
  refine o_q rfl rfl (q_not rfl) ?_
  refine o_q rfl rfl (za2 rfl) ?_
  refine byB b2 (fun hb3 => ?_) (fun hb3 => ?_)
  · replace h := bb_t hb3 h
    refine o_w (za4 rfl rfl rfl (congrArg (fun b => Value.bool (!(b))) hb3)) rfl (za2 rfl) ?_
    refine o_w (za4 rfl rfl rfl (congrArg (fun b => Value.bool (!(b))) hb3)) rfl (q_len Try.underlying25 rfl) ?_
    refine o_w (za4 rfl rfl rfl (congrArg (fun b => Value.bool (!(b))) hb3)) rfl (za2 rfl) ?_
    refine o_w (za4 rfl rfl rfl (congrArg (fun b => Value.bool (!(b))) hb3)) rfl (q_nil rfl) ?_
    refine o_w (za4 rfl rfl rfl (congrArg (fun b => Value.bool (!(b))) hb3)) rfl (q_f F27_0 rfl) ?_
    refine o_w (za4 rfl rfl rfl (congrArg (fun b => Value.bool (!(b))) hb3)) rfl (q_ldb Y3 rfl (fun w h => B0.now Z h) rfl) ?_
    refine o_w (za4 rfl rfl rfl (congrArg (fun b => Value.bool (!(b))) hb3)) rfl (q_neq rfl rfl) ?_
    refine o_q rfl rfl (q_pick false (congrArg (fun b => Value.bool (!(b))) hb3) rfl) ?_
    refine o_q rfl rfl (za2 rfl) ?_
    refine byB (decide ((l1.length : Int) ≠ a0_0)) (fun hb4 => ?_) (fun hb4 => ?_)
    · replace h := br_t hb4 h
      refine @o_n _ _ _ _ _ _ _ _ _ _ _ 22 (za3 rfl rfl rfl (congrArg Value.bool hb4) rfl) (Eq.refl (some 22)) ?_
      refine @o_n _ _ _ _ _ _ _ _ _ _ _ 23 (za3 rfl rfl rfl (congrArg Value.bool hb4) rfl) (Eq.refl (some 23)) ?_
      refine o_q rfl rfl (q_pick true (congrArg Value.bool hb4) rfl) ?_
      refine o_end ?_
      refine za1 ?_
      refine c_true rfl ?_
      refine c_seq ?_
      refine za0 ?_
      refine o_q rfl rfl (q_asg rfl) ?_
      refine o_q rfl rfl (q_asg rfl) ?_
      refine o_end ?_
      refine za1 ?_
      refine c_ret ?_
      refine za5 ?_
      refine x_nil (Kd.int .i64) 3 ?_
      have e0_ := Option.some.inj h; clear h
      have d0_ := (Prod.mk.inj e0_).1; have e1_ := (Prod.mk.inj e0_).2; clear e0_; subst d0_
      subst e1_
      exact x_r2 (none, 0) Try.results126 (zab rfl) (zab rfl) rfl (fun w h => za7 [0] (by decide) rfl w h)
    · replace h := br_f hb4 h
      refine o_w (za4 rfl rfl rfl (congrArg Value.bool hb4)) rfl (za2 rfl) ?_
      refine za8 h (fun b6 hx5 h => ?_) rfl
      refine o_ew (za4 rfl rfl rfl (congrArg Value.bool hb4)) (zaa 0 Z Try.func107 N107 rfl rfl rfl (fun w P1 hF hB hS hT => slices_ContainsFunc_int_int_3.calls A1 c1 l1.length l1 hB hF (hS _ R1) hc1 _ hx5)) (fun _ => ?_)
      refine o_q rfl rfl (q_pick false (congrArg Value.bool hb4) rfl) ?_
      refine o_end ?_
      refine za1 ?_
      refine zas _ rfl (fun hb7 => ?_) (fun hb7 => ?_)
      · skip
        replace h := bb_t hb7 h
        refine c_seq ?_
        refine za0 ?_
        refine o_q rfl rfl (q_asg rfl) ?_
        refine o_q rfl rfl (q_asg rfl) ?_
        refine o_end ?_
        refine za1 ?_
        refine c_ret ?_
        refine za5 ?_
        refine x_nil (Kd.int .i64) 3 ?_
        have e0_ := Option.some.inj h; clear h
        have d0_ := (Prod.mk.inj e0_).1; have e1_ := (Prod.mk.inj e0_).2; clear e0_; subst d0_
        subst e1_
        exact x_r2 (none, 0) Try.results126 (zab rfl) (zab rfl) rfl (fun w h => za7 [0] (by decide) rfl w h)
      · skip
        replace h := bb_f hb7 h
        refine zan ?_
        refine za1 ?_
        refine c_seq ?_
        refine za0 ?_
        refine o_q rfl rfl (za2 rfl) ?_
        refine o_q rfl rfl (za2 rfl) ?_
        refine za8 h (fun l9 hx8 h => ?_) rfl
        refine o_e rfl (zaa 0 Z Try.func197 N197 rfl rfl rfl (fun w P1 hF hB hS hT => impl_run_int.calls g0 a0_0 A0_1 c0_1 l0_1.length l0_1 A0_2 c0_2 l0_2.length l0_2 A1 c1 l1.length l1 hB hF (hS _ R0_1) hc0_1 (hS _ R0_2) hc0_2 (hS _ B0) (hS _ R1) hc1 _ hx8)) (cur2 (fun A10 c11 => ?_))
        refine o_q rfl rfl (q_asg rfl) ?_
        refine o_end ?_
        refine za1 ?_
        refine c_seq ?_
        refine za0 ?_
        refine o_q rfl rfl (za2 rfl) ?_
        refine o_q rfl rfl (za2 rfl) ?_
        refine za8 h (fun i13 hx12 h => ?_) rfl
        refine o_e rfl (zaa 0 Z Try.func164 N164 rfl rfl rfl (fun w P1 hF hB hS hT => slices_Max_int_int.calls k A10 c11 l9.length l9 hB hF (hT 0 _ rfl).row (hT 0 _ rfl).cap _ hx12)) (fun _ => ?_)
        refine o_q rfl rfl (q_leq rfl rfl) ?_
        refine o_q rfl rfl (q_asg rfl) ?_
        refine o_q rfl rfl (q_asg rfl) ?_
        refine o_end ?_
        refine za1 ?_
        refine c_ret ?_
        have e0_ := Option.some.inj h; clear h
        have d0_ := (Prod.mk.inj e0_).1; have e1_ := (Prod.mk.inj e0_).2; clear e0_; subst d0_
        subst e1_
        exact x_r2 (A10, c11) Try.results126 (zab rfl) (zab rfl) rfl (fun w h => za7 [0] (by decide) rfl w h)
  · replace h := bb_f hb3 h
    refine @o_n _ _ _ _ _ _ _ _ _ _ _ 13 (za3 rfl rfl rfl (congrArg (fun b => Value.bool (!(b))) hb3) rfl) (Eq.refl (some 13)) ?_
    refine @o_n _ _ _ _ _ _ _ _ _ _ _ 14 (za3 rfl rfl rfl (congrArg (fun b => Value.bool (!(b))) hb3) rfl) (Eq.refl (some 14)) ?_
    refine @o_n _ _ _ _ _ _ _ _ _ _ _ 15 (za3 rfl rfl rfl (congrArg (fun b => Value.bool (!(b))) hb3) rfl) (Eq.refl (some 15)) ?_
    refine @o_n _ _ _ _ _ _ _ _ _ _ _ 16 (za3 rfl rfl rfl (congrArg (fun b => Value.bool (!(b))) hb3) rfl) (Eq.refl (some 16)) ?_
    refine @o_n _ _ _ _ _ _ _ _ _ _ _ 17 (za3 rfl rfl rfl (congrArg (fun b => Value.bool (!(b))) hb3) rfl) (Eq.refl (some 17)) ?_
    refine @o_n _ _ _ _ _ _ _ _ _ _ _ 18 (za3 rfl rfl rfl (congrArg (fun b => Value.bool (!(b))) hb3) rfl) (Eq.refl (some 18)) ?_
    refine @o_n _ _ _ _ _ _ _ _ _ _ _ 19 (za3 rfl rfl rfl (congrArg (fun b => Value.bool (!(b))) hb3) rfl) (Eq.refl (some 19)) ?_
    refine o_q rfl rfl (q_pick true (congrArg (fun b => Value.bool (!(b))) hb3) rfl) ?_
    refine o_q rfl rfl (za2 rfl) ?_
    refine @o_n _ _ _ _ _ _ _ _ _ _ _ 22 (za3 rfl rfl rfl rfl rfl) (Eq.refl (some 22)) ?_
    refine @o_n _ _ _ _ _ _ _ _ _ _ _ 23 (za3 rfl rfl rfl rfl rfl) (Eq.refl (some 23)) ?_
    refine o_q rfl rfl (q_pick true rfl rfl) ?_
    refine o_end ?_
    refine za1 ?_
    refine c_true rfl ?_
    refine c_seq ?_
    refine za0 ?_
    refine o_q rfl rfl (q_asg rfl) ?_
    refine o_q rfl rfl (q_asg rfl) ?_
    refine o_end ?_
    refine za1 ?_
    refine c_ret ?_
    refine za5 ?_
    refine x_nil (Kd.int .i64) 3 ?_
    have e0_ := Option.some.inj h; clear h
    have d0_ := (Prod.mk.inj e0_).1; have e1_ := (Prod.mk.inj e0_).2; clear e0_; subst d0_
    subst e1_
    exact x_r2 (none, 0) Try.results126 (zab rfl) (zab rfl) rfl (fun w h => za7 [0] (by decide) rfl w h)

/-! ### slices.Clone[[]string,string]: function 199 -/
def slices_Clone_string_string.f (l0 : List ByteArray) : Option (List ByteArray) := (ap ([] : List ByteArray) l0).bind fun l5 => some l5
set_option maxHeartbeats 600000 in
set_option maxRecDepth 100000 in
theorem slices_Clone_string_string.calls {w0 ws : World} {P0 : Nat → Prop} (A0 : Option Addr) (c0 : Nat) (n0 : Nat) (l0 : List ByteArray) (Z : Below w0.heap.size w0 ws) (hF : Fr w0 ws P0 [] ws) (R0 : Stable ws P0 (fun w => Kd.C Kd.string w A0 n0 l0)) (hc0 : n0 ≤ c0) (r_1 : List ByteArray) (h : slices_Clone_string_string.f l0 = some r_1) :
    Calls Try.prog 199 #[.slice A0 n0 c0] ws (Post1 w0 ws P0 (fun ((q_2, q_3) : (Option Addr) × Nat) => .slice q_2 r_1.length q_3) (fun ((q_2, q_3) : (Option Addr) × Nat) => [row Kd.string 9 (.slice q_2 r_1.length q_3) r_1])) := by
  unfold slices_Clone_string_string.f at h
  obtain rfl := (R0 ws (KeptB.refl _ _)).1
  refine enter Try.func199 rfl Try.ntmps199 rfl hF ?_
  refine c_seq ?_
  refine za0 ?_
  refine o_q rfl rfl (q_asg rfl) ?_
  refine o_end ?_
  refine za1 ?_
  refine c_seq ?_
  refine c_seq ?_
  refine za0 ?_
  refine o_q rfl rfl (za2 rfl) ?_
  refine o_q rfl rfl (q_snil Try.underlying53 rfl rfl) ?_
  refine o_end ?_
  refine za1 ?_
  refine zas _ rfl (fun hb1 => ?_) (fun hb1 => ?_)
  · skip
    have hl_ := nil_of hb1 (R0 ws (KeptB.refl _ _)); subst hl_
    replace h : some ([] : List ByteArray) = some r_1 := h
    refine c_seq ?_
    refine za0 ?_
    refine o_q rfl rfl (q_asg rfl) ?_
    refine o_end ?_
    refine za1 ?_
    refine c_ret ?_
    refine za5 ?_
    refine x_nil Kd.string 9 ?_
    have e0_ := Option.some.inj h; clear h
    subst e0_
    exact x_r1 (none, 0) Try.results199 (zab rfl) rfl (fun w h => za7 [0] (by decide) rfl w h)
  · skip
    refine zan ?_
    refine za1 ?_
    refine c_seq ?_
    refine za0 ?_
    refine o_e rfl (e_lit0 Kd.string Try.underlying53 I9) (cur2 (fun A2 c3 => ?_))
    refine o_q rfl rfl (za2 rfl) ?_
    refine za8 h (fun l5 ha6 h => ?_) rfl
    refine o_e rfl (e_appr (i := 0) Try.underlying53 I9 rfl (by decide) (by decide) (fun _ _ _ _ h => h) rfl (fun w h => R0.now Z h) rfl rfl ha6) (cur2 (fun A7 c8 => ?_))
    refine o_q rfl rfl (q_asg rfl) ?_
    refine o_end ?_
    refine za1 ?_
    refine c_ret ?_
    have e0_ := Option.some.inj h; clear h
    subst e0_
    exact x_r1 (A7, c8) Try.results199 (zab rfl) rfl (fun w h => za7 [0] (by decide) rfl w h)

/-! ### loop.example/g01098/impl.RunWords$1: function 129 -/
def impl_RunWords_1.f (a0 : ByteArray) (a1 : ByteArray) : Option ByteArray := (strings_Join.f ([a0, a1] : List ByteArray) (⟨#[]⟩ : ByteArray)).bind fun s5 => some s5
set_option maxHeartbeats 600000 in
set_option maxRecDepth 100000 in
theorem impl_RunWords_1.calls {w0 ws : World} {P0 : Nat → Prop} (a0 : ByteArray) (a1 : ByteArray) (Z : Below w0.heap.size w0 ws) (hF : Fr w0 ws P0 [] ws)  (r_1 : ByteArray) (h : impl_RunWords_1.f a0 a1 = some r_1) :
    Calls Try.prog 129 #[.string a0, .string a1] ws (Post1 w0 ws P0 (fun (_ : Unit) => .string r_1) (fun (_ : Unit) => [])) := by
  unfold impl_RunWords_1.f at h
  refine enter Try.func129 rfl Try.ntmps129 rfl hF ?_
  refine c_seq ?_
  refine za0 ?_
  refine o_q rfl rfl (q_asg rfl) ?_
  refine o_end ?_
  refine za1 ?_
  refine c_seq ?_
  refine za0 ?_
  refine o_q rfl rfl (za2 rfl) ?_
  refine o_q rfl rfl (za2 rfl) ?_
  refine o_e rfl (e_lit (vs := [(0, .string a0), (1, .string a1)]) (cs := [.string a0, .string a1]) Kd.string ([a0, a1] : List ByteArray) Try.underlying53 I9 (by decide) rfl (by decide) rfl rfl (fun _ _ => Kd.zaj _)) (cur2 (fun A1 c2 => ?_))
  refine za8 h (fun s5 hx4 h => ?_) rfl
  refine o_e rfl (zaa 0 Z Try.func130 N130 rfl rfl rfl (fun w P1 hF hB hS hT => strings_Join.calls A1 c2 (([a0, a1] : List ByteArray).length) ([a0, a1] : List ByteArray) (⟨#[]⟩ : ByteArray) hB hF (hT 0 _ rfl).row (hT 0 _ rfl).cap _ hx4)) (fun _ => ?_)
  refine o_q rfl rfl (q_asg rfl) ?_
  refine o_end ?_
  refine za1 ?_
  refine c_ret ?_
  have e0_ := Option.some.inj h; clear h
  subst e0_
  exact x_r1 () Try.results129 (zab rfl) rfl (fun w h => za7 [] (by decide) rfl w h)

/-! ### loop.example/g01098/impl.run[string]: function 128 -/
def impl_run_string.l0 : (List SStep) → (List ByteArray) → Int → Option (List ByteArray)
  | [], l5, i8 => some l5
  | y9 :: ys10, l5, i8 => (gt l5 y9.f0).bind fun y325 => (gt l5 y9.f1).bind fun y624 => (impl_RunWords_1.f y325 y624).bind fun s744 => (ap l5 ([s744] : List ByteArray)).bind fun l863 => impl_run_string.l0 ys10 l863 (i8 + 1)
def impl_run_string.f (a0_0 : Int) (l0_1 : List SStep) (l0_2 : List Int) (l1 : List ByteArray) : Option (List ByteArray) := (slices_Clone_string_string.f l1).bind fun l2 => (impl_run_string.l0 l0_1 l2 0).bind fun l5 => some l5
set_option maxHeartbeats 600000 in
set_option maxRecDepth 100000 in
theorem impl_run_string.calls {w0 ws : World} {P0 : Nat → Prop} (g0 : Nat) (a0_0 : Int) (A0_1 : Option Addr) (c0_1 : Nat) (n0_1 : Nat) (l0_1 : List SStep) (A0_2 : Option Addr) (c0_2 : Nat) (n0_2 : Nat) (l0_2 : List Int) (A1 : Option Addr) (c1 : Nat) (n1 : Nat) (l1 : List ByteArray) (Z : Below w0.heap.size w0 ws) (hF : Fr w0 ws P0 [] ws) (R0_1 : Stable ws P0 (fun w => Kd.C kStep w A0_1 n0_1 l0_1)) (hc0_1 : n0_1 ≤ c0_1) (R0_2 : Stable ws P0 (fun w => Kd.C (Kd.int .i64) w A0_2 n0_2 l0_2)) (hc0_2 : n0_2 ≤ c0_2) (B0 : Stable ws P0 (fun w => w.heap[g0]? = some (.cells #[.int .i64 a0_0, .slice A0_1 n0_1 c0_1, .slice A0_2 n0_2 c0_2] 27 (0, 0)))) (R1 : Stable ws P0 (fun w => Kd.C Kd.string w A1 n1 l1)) (hc1 : n1 ≤ c1) (r_1 : List ByteArray) (h : impl_run_string.f a0_0 l0_1 l0_2 l1 = some r_1) :
    Calls Try.prog 128 #[.pointer (some ⟨g0, 0, none⟩), .slice A1 n1 c1, .func (.func 129) #[] #[]] ws (Post1 w0 ws P0 (fun ((q_2, q_3) : (Option Addr) × Nat) => .slice q_2 r_1.length q_3) (fun ((q_2, q_3) : (Option Addr) × Nat) => [row Kd.string 9 (.slice q_2 r_1.length q_3) r_1])) := by
  unfold impl_run_string.f at h
  obtain rfl := (R0_1 ws (KeptB.refl _ _)).1
  obtain rfl := (R0_2 ws (KeptB.refl _ _)).1
  obtain rfl := (R1 ws (KeptB.refl _ _)).1
  refine enter Try.func128 rfl Try.ntmps128 rfl hF ?_
  refine c_seq ?_
  refine za0 ?_
  refine o_q rfl rfl (q_asg rfl) ?_
  refine o_end ?_
  refine za1 ?_
  refine c_seq ?_
  refine za0 ?_
  refine o_q rfl rfl (za2 rfl) ?_
  refine za8 h (fun l2 hx1 h => ?_) rfl
  refine o_e rfl (zaa 0 Z Try.func199 N199 rfl rfl rfl (fun w P1 hF hB hS hT => slices_Clone_string_string.calls A1 c1 l1.length l1 hB hF (hS _ R1) hc1 _ hx1)) (cur2 (fun A3 c4 => ?_))
  refine o_q rfl rfl (q_asg rfl) ?_
  refine o_end ?_
  refine za1 ?_
  refine c_seq ?_
  refine c_seq ?_
  refine za0 ?_
  refine o_q rfl rfl (za2 rfl) ?_
  refine o_q rfl rfl (q_nil rfl) ?_
  refine o_q rfl rfl (q_f F27_1 rfl) ?_
  refine o_q rfl rfl (q_ldb Y24 rfl (fun w h => B0.now Z h) rfl) ?_
  refine o_q rfl rfl (q_len Try.underlying24 rfl) ?_
  refine o_q rfl rfl (za2 rfl) ?_
  refine o_end ?_
  refine za1 ?_
  refine zah ?_
  refine za8 h (fun o16 hl15 hR14 => ?_) rfl
  clear h
  refine c_fact (p := l0_1.length ≤ 9223372036854775807) (fun w h => (R0_1.now Z h).2.1) (fun hm13 => ?_)
  refine zat (σ := (List SStep) × (List ByteArray) × Int × (Option Addr) × Nat) (fun k11 ((ys10, l5, i8, A6, c7) : (List SStep) × (List ByteArray) × Int × (Option Addr) × Nat) => Rg l0_1 i8 ys10 ∧ ys10.length = k11 ∧ impl_run_string.l0 ys10 l5 i8 = some o16) [7, 9, 17, 18, 19, 20, 21, 22, 23, 24, 25, 26, 27, 28, 29, 30, 31, 32, 33, 34, 35, 36] (fun ((ys10, l5, i8, A6, c7) : (List SStep) × (List ByteArray) × Int × (Option Addr) × Nat) => [(7, .slice A6 l5.length c7), (17, .int .i64 i8)]) (fun ((ys10, l5, i8, A6, c7) : (List SStep) × (List ByteArray) × Int × (Option Addr) × Nat) => [row Kd.string 9 (.slice A6 l5.length c7) l5]) l0_1.length (l0_1, l2, 0, A3, c4) ⟨Rg.start _, rfl, hl15⟩ ⟨rfl, rfl, trivial⟩ (fun w h => h) ?_
  refine fun k11 => cur5 (listC (fun l5 i8 A6 c7 U17 hJ_ => ?_) (fun y9 ys10 l5 i8 A6 c7 U17 hJ_ => ?_))
  · skip
    clear hl15
    have hr12 := hJ_.1; have hk18 := hJ_.2.1; have h := hJ_.2.2; clear hJ_
    replace h : impl_run_string.l0 [] l5 i8 = some o16 := h
    rw [impl_run_string.l0] at h
    refine c_seq ?_
    refine za0 ?_
    refine o_q rfl rfl (q_lss rfl rfl) ?_
    refine o_end ?_
    refine za1 ?_
    refine c_seq ?_
    refine c_false (congrArg Value.bool hr12.ge) ?_
    refine c_exit ?_
    refine za6 ?_
    refine za6 ?_
    have e_ := Option.some.inj h; replace h := hR14; rw [← e_] at h; clear e_
    refine x_hit ?_
    refine za1 ?_
    refine c_seq ?_
    refine za0 ?_
    refine o_q rfl rfl (za2 rfl) ?_
    refine o_q rfl rfl (q_asg rfl) ?_
    refine o_end ?_
    refine za1 ?_
    refine c_ret ?_
    have e0_ := Option.some.inj h; clear h
    subst e0_
    exact x_r1 (A6, c7) Try.results128 (zab rfl) rfl (fun w h => za7 [0] (by decide) rfl w h)
  · skip
    clear hl15
    have hr12 := hJ_.1; have hk18 := hJ_.2.1; have h := hJ_.2.2; clear hJ_
    replace h : impl_run_string.l0 (y9 :: ys10) l5 i8 = some o16 := h
    rw [impl_run_string.l0] at h
    refine c_seq ?_
    refine za0 ?_
    refine o_q rfl rfl (q_lss rfl rfl) ?_
    refine o_end ?_
    refine za1 ?_
    refine c_seq ?_
    refine c_true (congrArg Value.bool hr12.lt) ?_
    refine zan ?_
    refine za1 ?_
    refine c_seq ?_
    refine zah ?_
    refine c_seq ?_
    refine za0 ?_
    refine o_fact (p := Sh A0_1 l0_1.length l0_1.length) (fun w h => f_sh (dk := kStep) h (fun w h => R0_1.now Z h)) (fun hq19 => ?_)
    refine o_q rfl rfl (q_ix Try.underlying24 Z89 rfl rfl hq19 hr12.get) ?_
    refine o_q rfl rfl (q_ldE G89 Z89 rfl rfl (fun w h => R0_1.now Z h) hr12.get (fun _ _ h => h) rfl) ?_
    refine o_e rfl (e_alloc V89 rfl) (fun g20 => ?_)
    refine o_e rfl (e_storeA (i := 0) rfl rfl rfl Z89 rfl rfl) (fun _ => ?_)
    refine o_end ?_
    refine za1 ?_
    refine za8 h (fun y325 hg324 h => ?_) rfl
    refine za8 h (fun y624 hg623 h => ?_) rfl
    refine za8 h (fun s744 hx743 h => ?_) rfl
    refine za8 h (fun l863 ha864 h => ?_) rfl
    refine a_startS (ds := []) [some 0, none] MO rfl ?_
    refine za9 0 rfl rfl rfl (by kernel_rfl) (fun _ _ _ h => h) (za2 rfl) ?_
    refine za9 1 rfl rfl rfl (by kernel_rfl) (fun _ _ _ h => h) (za2 rfl) ?_
    refine za9 2 rfl rfl rfl (by kernel_rfl) (fun _ _ _ h => h) (za2 rfl) ?_
    refine za9 3 rfl rfl rfl (by kernel_rfl) (fun _ _ _ h => h) (q_f F89_0 rfl) ?_
    refine a_take 4 rfl rfl rfl (by kernel_rfl) (fun _ _ _ h => h) (fun w h => zae [some 0, none] (by decide) w h rfl) (q_ldb Y3 rfl (fun w h => h.zai (i := 0) rfl) rfl) ?_
    refine a_fact (p := Sh A6 l5.length l5.length) (fun w h => f_sh (dk := Kd.string) h (fun w h => h.zaq (i := 1) rfl)) (fun hq323 => ?_)
    refine za9 5 rfl rfl rfl (by kernel_rfl) (fun _ _ _ h => h) (q_ix Try.underlying53 Z9 rfl rfl hq323 hg324) ?_
    refine za9 7 rfl rfl rfl (by kernel_rfl) (fun _ _ _ h => h) (za2 rfl) ?_
    refine za9 8 rfl rfl rfl (by kernel_rfl) (fun _ _ _ h => h) (q_f F89_1 rfl) ?_
    refine a_take 9 rfl rfl rfl (by kernel_rfl) (fun _ _ _ h => h) (fun w h => zae [some 0, none] (by decide) w h rfl) (q_ldb Y3 rfl (fun w h => h.zai (i := 0) rfl) rfl) ?_
    refine za9 10 rfl rfl rfl (by kernel_rfl) (fun _ _ _ h => h) (q_ix Try.underlying53 Z9 rfl rfl hq323 hg623) ?_
    refine a_two 6 11 rfl rfl rfl rfl (by kernel_rfl) rfl rfl (ev_q rfl (q_lde (off := 0) Y9 rfl rfl (fun w h => h.zaq (i := 1) rfl) hg324 (fun _ _ h => h) rfl)) (fun s w h => zae [some 0, none] (by decide) w h rfl) (ev_q rfl (q_lde (off := 0) Y9 rfl rfl (fun w h => h.zaq (i := 1) rfl) hg623 (fun _ _ h => h) rfl)) (fun s w h => zae [some 0, none] (by decide) w h rfl) (fun _ => ?_) (fun _ => ?_)
    · skip
      refine a_one 11 rfl rfl (by kernel_rfl) rfl (ev_q rfl (q_lde (off := 0) Y9 rfl rfl (fun w h => h.zaq (i := 1) rfl) hg623 (fun _ _ h => h) rfl)) (fun s w h => zae [some 0, none] (by decide) w h rfl) (fun _ => ?_)
      refine a_one 12 rfl rfl (by kernel_rfl) rfl (zaa 0 Z Try.func129 N129 rfl rfl rfl (fun w P1 hF hB hS hT => impl_RunWords_1.calls y325 y624 hB hF _ hx743)) (fun s w h => zae [some 0, none] (by decide) w h rfl) (fun _ => ?_)
      refine a_one 13 rfl rfl (by kernel_rfl) rfl (e_lit (vs := [(0, .string s744)]) (cs := [.string s744]) Kd.string ([s744] : List ByteArray) Try.underlying53 I9 (by decide) rfl (by decide) rfl rfl (fun _ _ => Kd.zaj _)) (fun s w h => zae [some 1, none] (by decide) w h rfl) (cur2 (fun A803 c804 => ?_))
      refine a_one 14 rfl rfl (by kernel_rfl) rfl (e_app (i := 2) (j := 0) Try.underlying53 I9 rfl (by decide) (by decide) rfl rfl rfl rfl rfl ha864) (fun s w h => zae [some 1, none] (by decide) w h rfl) (cur2 (fun A865 c866 => ?_))
      refine za9 15 rfl rfl rfl (by kernel_rfl) (fun _ _ _ h => h) (q_asg rfl) ?_
      refine a_done (by kernel_rfl) ?_
      refine zao ?_
      refine za1 ?_
      refine za0 ?_
      refine o_q rfl rfl (q_up rfl rfl (hr12.up hm13)) ?_
      refine o_q rfl rfl (za2 rfl) ?_
      refine o_end ?_
      refine zam ys10.length (ys10, l863, i8 + 1, A865, c866) (by rw [← hk18]; exact Nat.lt_succ_self _) ⟨hr12.step, rfl, h⟩ ⟨rfl, rfl, trivial⟩ (fun w h => za7 [2] (by decide) rfl w h) ?_
      repeat (first | exact zac _ _ | refine zak rfl ?_ | refine zad rfl ?_ | refine zal rfl ?_)
    · skip
      refine a_one 6 rfl rfl (by kernel_rfl) rfl (ev_q rfl (q_lde (off := 0) Y9 rfl rfl (fun w h => h.zaq (i := 1) rfl) hg324 (fun _ _ h => h) rfl)) (fun s w h => zae [some 0, none] (by decide) w h rfl) (fun _ => ?_)
      refine a_one 12 rfl rfl (by kernel_rfl) rfl (zaa 0 Z Try.func129 N129 rfl rfl rfl (fun w P1 hF hB hS hT => impl_RunWords_1.calls y325 y624 hB hF _ hx743)) (fun s w h => zae [some 0, none] (by decide) w h rfl) (fun _ => ?_)
      refine a_one 13 rfl rfl (by kernel_rfl) rfl (e_lit (vs := [(0, .string s744)]) (cs := [.string s744]) Kd.string ([s744] : List ByteArray) Try.underlying53 I9 (by decide) rfl (by decide) rfl rfl (fun _ _ => Kd.zaj _)) (fun s w h => zae [some 1, none] (by decide) w h rfl) (cur2 (fun A803 c804 => ?_))
      refine a_one 14 rfl rfl (by kernel_rfl) rfl (e_app (i := 2) (j := 0) Try.underlying53 I9 rfl (by decide) (by decide) rfl rfl rfl rfl rfl ha864) (fun s w h => zae [some 1, none] (by decide) w h rfl) (cur2 (fun A865 c866 => ?_))
      refine za9 15 rfl rfl rfl (by kernel_rfl) (fun _ _ _ h => h) (q_asg rfl) ?_
      refine a_done (by kernel_rfl) ?_
      refine zao ?_
      refine za1 ?_
      refine za0 ?_
      refine o_q rfl rfl (q_up rfl rfl (hr12.up hm13)) ?_
      refine o_q rfl rfl (za2 rfl) ?_
      refine o_end ?_
      refine zam ys10.length (ys10, l863, i8 + 1, A865, c866) (by rw [← hk18]; exact Nat.lt_succ_self _) ⟨hr12.step, rfl, h⟩ ⟨rfl, rfl, trivial⟩ (fun w h => za7 [2] (by decide) rfl w h) ?_
      repeat (first | exact zac _ _ | refine zak rfl ?_ | refine zad rfl ?_ | refine zal rfl ?_)

/-! ### loop.example/g01098/impl.outputsOf[string]: function 127 -/
def impl_outputsOf_string.l0 (l1 : List ByteArray) : (List Int) → (List ByteArray) → Int → Option (List ByteArray)
  | [], l5, i8 => some l5
  | y9 :: ys10, l5, i8 => (gt l1 y9).bind fun y22 => (ap l5 ([y22] : List ByteArray)).bind fun l26 => impl_outputsOf_string.l0 l1 ys10 l26 (i8 + 1)
def impl_outputsOf_string.f (a0_0 : Int) (l0_1 : List SStep) (l0_2 : List Int) (l1 : List ByteArray) : Option (List ByteArray) := (impl_outputsOf_string.l0 l1 l0_2 ([] : List ByteArray) 0).bind fun l5 => some l5
set_option maxHeartbeats 600000 in
set_option maxRecDepth 100000 in
theorem impl_outputsOf_string.calls {w0 ws : World} {P0 : Nat → Prop} (g0 : Nat) (a0_0 : Int) (A0_1 : Option Addr) (c0_1 : Nat) (n0_1 : Nat) (l0_1 : List SStep) (A0_2 : Option Addr) (c0_2 : Nat) (n0_2 : Nat) (l0_2 : List Int) (A1 : Option Addr) (c1 : Nat) (n1 : Nat) (l1 : List ByteArray) (Z : Below w0.heap.size w0 ws) (hF : Fr w0 ws P0 [] ws) (R0_1 : Stable ws P0 (fun w => Kd.C kStep w A0_1 n0_1 l0_1)) (hc0_1 : n0_1 ≤ c0_1) (R0_2 : Stable ws P0 (fun w => Kd.C (Kd.int .i64) w A0_2 n0_2 l0_2)) (hc0_2 : n0_2 ≤ c0_2) (B0 : Stable ws P0 (fun w => w.heap[g0]? = some (.cells #[.int .i64 a0_0, .slice A0_1 n0_1 c0_1, .slice A0_2 n0_2 c0_2] 27 (0, 0)))) (R1 : Stable ws P0 (fun w => Kd.C Kd.string w A1 n1 l1)) (hc1 : n1 ≤ c1) (r_1 : List ByteArray) (h : impl_outputsOf_string.f a0_0 l0_1 l0_2 l1 = some r_1) :
    Calls Try.prog 127 #[.pointer (some ⟨g0, 0, none⟩), .slice A1 n1 c1] ws (Post1 w0 ws P0 (fun ((q_2, q_3) : (Option Addr) × Nat) => .slice q_2 r_1.length q_3) (fun ((q_2, q_3) : (Option Addr) × Nat) => [row Kd.string 9 (.slice q_2 r_1.length q_3) r_1])) := by
  unfold impl_outputsOf_string.f at h
  obtain rfl := (R0_1 ws (KeptB.refl _ _)).1
  obtain rfl := (R0_2 ws (KeptB.refl _ _)).1
  obtain rfl := (R1 ws (KeptB.refl _ _)).1
  refine enter Try.func127 rfl Try.ntmps127 rfl hF ?_
  refine c_seq ?_
  refine za0 ?_
  refine o_q rfl rfl (q_asg rfl) ?_
  refine o_end ?_
  refine za1 ?_
  refine c_seq ?_
  refine za0 ?_
  refine o_e rfl (e_lit0 Kd.string Try.underlying53 I9) (cur2 (fun A2 c3 => ?_))
  refine o_q rfl rfl (q_asg rfl) ?_
  refine o_end ?_
  refine za1 ?_
  refine c_seq ?_
  refine c_seq ?_
  refine za0 ?_
  refine o_q rfl rfl (za2 rfl) ?_
  refine o_q rfl rfl (q_nil rfl) ?_
  refine o_q rfl rfl (q_f F27_2 rfl) ?_
  refine o_q rfl rfl (q_ldb Y25 rfl (fun w h => B0.now Z h) rfl) ?_
  refine o_q rfl rfl (q_len Try.underlying25 rfl) ?_
  refine o_q rfl rfl (za2 rfl) ?_
  refine o_end ?_
  refine za1 ?_
  refine zah ?_
  refine za8 h (fun o16 hl15 hR14 => ?_) rfl
  clear h
  refine c_fact (p := l0_2.length ≤ 9223372036854775807) (fun w h => (R0_2.now Z h).2.1) (fun hm13 => ?_)
  refine zat (σ := (List Int) × (List ByteArray) × Int × (Option Addr) × Nat) (fun k11 ((ys10, l5, i8, A6, c7) : (List Int) × (List ByteArray) × Int × (Option Addr) × Nat) => Rg l0_2 i8 ys10 ∧ ys10.length = k11 ∧ impl_outputsOf_string.l0 l1 ys10 l5 i8 = some o16) [5, 7, 14, 15, 16, 17, 18, 19, 20, 21, 22, 23, 24, 25] (fun ((ys10, l5, i8, A6, c7) : (List Int) × (List ByteArray) × Int × (Option Addr) × Nat) => [(5, .slice A6 l5.length c7), (14, .int .i64 i8)]) (fun ((ys10, l5, i8, A6, c7) : (List Int) × (List ByteArray) × Int × (Option Addr) × Nat) => [row Kd.string 9 (.slice A6 l5.length c7) l5]) l0_2.length (l0_2, ([] : List ByteArray), 0, A2, c3) ⟨Rg.start _, rfl, hl15⟩ ⟨rfl, rfl, trivial⟩ (fun w h => h) ?_
  refine fun k11 => cur5 (listC (fun l5 i8 A6 c7 U17 hJ_ => ?_) (fun y9 ys10 l5 i8 A6 c7 U17 hJ_ => ?_))
  · skip
    clear hl15
    have hr12 := hJ_.1; have hk18 := hJ_.2.1; have h := hJ_.2.2; clear hJ_
    replace h : impl_outputsOf_string.l0 l1 [] l5 i8 = some o16 := h
    rw [impl_outputsOf_string.l0] at h
    refine c_seq ?_
    refine za0 ?_
    refine o_q rfl rfl (q_lss rfl rfl) ?_
    refine o_end ?_
    refine za1 ?_
    refine c_seq ?_
    refine c_false (congrArg Value.bool hr12.ge) ?_
    refine c_exit ?_
    refine za6 ?_
    refine za6 ?_
    have e_ := Option.some.inj h; replace h := hR14; rw [← e_] at h; clear e_
    refine x_hit ?_
    refine za1 ?_
    refine c_seq ?_
    refine za0 ?_
    refine o_q rfl rfl (za2 rfl) ?_
    refine o_q rfl rfl (q_asg rfl) ?_
    refine o_end ?_
    refine za1 ?_
    refine c_ret ?_
    have e0_ := Option.some.inj h; clear h
    subst e0_
    exact x_r1 (A6, c7) Try.results127 (zab rfl) rfl (fun w h => za7 [0] (by decide) rfl w h)
  · skip
    clear hl15
    have hr12 := hJ_.1; have hk18 := hJ_.2.1; have h := hJ_.2.2; clear hJ_
    replace h : impl_outputsOf_string.l0 l1 (y9 :: ys10) l5 i8 = some o16 := h
    rw [impl_outputsOf_string.l0] at h
    refine c_seq ?_
    refine za0 ?_
    refine o_q rfl rfl (q_lss rfl rfl) ?_
    refine o_end ?_
    refine za1 ?_
    refine c_seq ?_
    refine c_true (congrArg Value.bool hr12.lt) ?_
    refine zan ?_
    refine za1 ?_
    refine c_seq ?_
    refine zah ?_
    refine c_seq ?_
    refine za0 ?_
    refine o_fact (p := Sh A0_2 l0_2.length l0_2.length) (fun w h => f_sh (dk := (Kd.int .i64)) h (fun w h => R0_2.now Z h)) (fun hq19 => ?_)
    refine o_q rfl rfl (q_ix Try.underlying25 Z3 rfl rfl hq19 hr12.get) ?_
    refine o_q rfl rfl (q_lde (off := 0) Y3 rfl rfl (fun w h => R0_2.now Z h) hr12.get (fun _ _ h => h) rfl) ?_
    refine o_q rfl rfl (q_asg rfl) ?_
    refine o_end ?_
    refine za1 ?_
    refine za0 ?_
    refine o_q rfl rfl (za2 rfl) ?_
    refine o_q rfl rfl (za2 rfl) ?_
    refine o_q rfl rfl (za2 rfl) ?_
    refine o_fact (p := Sh A1 l1.length l1.length) (fun w h => f_sh (dk := Kd.string) h (fun w h => R1.now Z h)) (fun hq20 => ?_)
    refine za8 h (fun y22 hg21 h => ?_) rfl
    refine o_q rfl rfl (q_ix Try.underlying53 Z9 rfl rfl hq20 hg21) ?_
    refine o_q rfl rfl (q_lde (off := 0) Y9 rfl rfl (fun w h => R1.now Z h) hg21 (fun _ _ h => h) rfl) ?_
    refine o_e rfl (e_lit (vs := [(0, .string y22)]) (cs := [.string y22]) Kd.string ([y22] : List ByteArray) Try.underlying53 I9 (by decide) rfl (by decide) rfl rfl (fun _ _ => Kd.zaj _)) (cur2 (fun A23 c24 => ?_))
    refine za8 h (fun l26 ha27 h => ?_) rfl
    refine o_e rfl (e_app (i := 1) (j := 0) Try.underlying53 I9 rfl (by decide) (by decide) rfl rfl rfl rfl rfl ha27) (cur2 (fun A28 c29 => ?_))
    refine o_q rfl rfl (q_asg rfl) ?_
    refine o_end ?_
    refine zao ?_
    refine za1 ?_
    refine za0 ?_
    refine o_q rfl rfl (q_up rfl rfl (hr12.up hm13)) ?_
    refine o_q rfl rfl (za2 rfl) ?_
    refine o_end ?_
    refine zam ys10.length (ys10, l26, i8 + 1, A28, c29) (by rw [← hk18]; exact Nat.lt_succ_self _) ⟨hr12.step, rfl, h⟩ ⟨rfl, rfl, trivial⟩ (fun w h => za7 [1] (by decide) rfl w h) ?_
    repeat (first | exact zac _ _ | refine zak rfl ?_ | refine zad rfl ?_ | refine zal rfl ?_)

/-! ### loop.example/g01098/impl.RunWords: function 45 -/
def impl_RunWords.l0 : (List ByteArray) → (List Int) → Int → Option (List Int)
  | [], l6, i9 => some l6
  | y10 :: ys11, l6, i9 => (ap l6 ([(y10.size : Int)] : List Int)).bind fun l38 => impl_RunWords.l0 ys11 l38 (i9 + 1)
def impl_RunWords.f (k : Nat) (a0_0 : Int) (l0_1 : List SStep) (l0_2 : List Int) (l1 : List ByteArray) : Option ((List ByteArray) × Bool) := (impl_RunWords.l0 l1 ([] : List Int) 0).bind fun l6 => (impl_lengths.f k a0_0 l0_1 l0_2 l6).bind fun (l21, b22) => if b22 = true then ((impl_run_string.f a0_0 l0_1 l0_2 l1).bind fun l27 => (impl_outputsOf_string.f a0_0 l0_1 l0_2 l27).bind fun l31 => some (l31, true)) else (some (([] : List ByteArray), false))
set_option maxHeartbeats 600000 in
set_option maxRecDepth 100000 in
theorem impl_RunWords.calls (k : Nat) {w0 ws : World} {P0 : Nat → Prop} (a0_0 : Int) (A0_1 : Option Addr) (c0_1 : Nat) (n0_1 : Nat) (l0_1 : List SStep) (A0_2 : Option Addr) (c0_2 : Nat) (n0_2 : Nat) (l0_2 : List Int) (A1 : Option Addr) (c1 : Nat) (n1 : Nat) (l1 : List ByteArray) (Z : Below w0.heap.size w0 ws) (hF : Fr w0 ws P0 [] ws) (R0_1 : Stable ws P0 (fun w => Kd.C kStep w A0_1 n0_1 l0_1)) (hc0_1 : n0_1 ≤ c0_1) (R0_2 : Stable ws P0 (fun w => Kd.C (Kd.int .i64) w A0_2 n0_2 l0_2)) (hc0_2 : n0_2 ≤ c0_2) (R1 : Stable ws P0 (fun w => Kd.C Kd.string w A1 n1 l1)) (hc1 : n1 ≤ c1) (r_1 : List ByteArray) (r_4 : Bool) (h : impl_RunWords.f k a0_0 l0_1 l0_2 l1 = some (r_1, r_4)) :
    Calls Try.prog 45 #[.agg #[.int .i64 a0_0, .slice A0_1 n0_1 c0_1, .slice A0_2 n0_2 c0_2], .slice A1 n1 c1] ws (Post1 w0 ws P0 (fun ((q_2, q_3) : (Option Addr) × Nat) => .tuple #[.slice q_2 r_1.length q_3, .bool r_4]) (fun ((q_2, q_3) : (Option Addr) × Nat) => [row Kd.string 9 (.slice q_2 r_1.length q_3) r_1])) := by
  unfold impl_RunWords.f at h
  obtain rfl := (R0_1 ws (KeptB.refl _ _)).1
  obtain rfl := (R0_2 ws (KeptB.refl _ _)).1
  obtain rfl := (R1 ws (KeptB.refl _ _)).1
  refine enter Try.func45 rfl Try.ntmps45 rfl hF ?_
  refine c_seq ?_
  refine za0 ?_
  refine o_e rfl (e_box rfl) (fun g1 => ?_)
  refine o_q rfl rfl (q_asg rfl) ?_
  refine o_q rfl rfl (q_asg rfl) ?_
  refine o_end ?_
  refine za1 ?_
  refine c_seq ?_
  refine za0 ?_
  refine o_e rfl (e_lit0 (Kd.int .i64) Try.underlying25 I3) (cur2 (fun A3 c4 => ?_))
  refine o_q rfl rfl (q_asg rfl) ?_
  refine o_end ?_
  refine za1 ?_
  refine c_seq ?_
  refine c_seq ?_
  refine za0 ?_
  refine o_q rfl rfl (za2 rfl) ?_
  refine o_q rfl rfl (q_len Try.underlying53 rfl) ?_
  refine o_q rfl rfl (za2 rfl) ?_
  refine o_end ?_
  refine za1 ?_
  refine zah ?_
  refine za8 h (fun o17 hl16 hR15 => ?_) rfl
  clear h
  refine c_fact (p := l1.length ≤ 9223372036854775807) (fun w h => (R1.now Z h).2.1) (fun hm14 => ?_)
  refine zat (σ := (List ByteArray) × (List Int) × Int × (Option Addr) × Nat) (fun k12 ((ys11, l6, i9, A7, c8) : (List ByteArray) × (List Int) × Int × (Option Addr) × Nat) => Rg l1 i9 ys11 ∧ ys11.length = k12 ∧ impl_RunWords.l0 ys11 l6 i9 = some o17) [6, 8, 14, 15, 16, 17, 18, 19, 20, 21, 22, 23] (fun ((ys11, l6, i9, A7, c8) : (List ByteArray) × (List Int) × Int × (Option Addr) × Nat) => [(6, .slice A7 l6.length c8), (14, .int .i64 i9)]) (fun ((ys11, l6, i9, A7, c8) : (List ByteArray) × (List Int) × Int × (Option Addr) × Nat) => [row (Kd.int .i64) 3 (.slice A7 l6.length c8) l6, box g1 27 #[.int .i64 a0_0, .slice A0_1 l0_1.length c0_1, .slice A0_2 l0_2.length c0_2]]) l1.length (l1, ([] : List Int), 0, A3, c4) ⟨Rg.start _, rfl, hl16⟩ ⟨rfl, rfl, trivial⟩ (fun w h => h) ?_
  refine fun k12 => cur5 (listC (fun l6 i9 A7 c8 U18 hJ_ => ?_) (fun y10 ys11 l6 i9 A7 c8 U18 hJ_ => ?_))
  · skip
    clear hl16
    have hr13 := hJ_.1; have hk19 := hJ_.2.1; have h := hJ_.2.2; clear hJ_
    replace h : impl_RunWords.l0 [] l6 i9 = some o17 := h
    rw [impl_RunWords.l0] at h
    refine c_seq ?_
    refine za0 ?_
    refine o_q rfl rfl (q_lss rfl rfl) ?_
    refine o_end ?_
    refine za1 ?_
    refine c_seq ?_
    refine c_false (congrArg Value.bool hr13.ge) ?_
    refine c_exit ?_
    refine za6 ?_
    refine za6 ?_
    have e_ := Option.some.inj h; replace h := hR15; rw [← e_] at h; clear e_
    refine x_hit ?_
    refine za1 ?_
    refine c_seq ?_
    refine c_seq ?_
    refine za0 ?_
    refine o_q rfl rfl (za2 rfl) ?_
    refine bindE2 h (fun l21 b22 hx20 h => ?_) rfl
    refine o_e rfl (zaa 0 Z Try.func126 N126 rfl rfl rfl (fun w P1 hF hB hS hT => impl_lengths.calls k g1 a0_0 A0_1 c0_1 l0_1.length l0_1 A0_2 c0_2 l0_2.length l0_2 A7 c8 l6.length l6 hB hF (hS _ R0_1) hc0_1 (hS _ R0_2) hc0_2 (hT 1 _ rfl).box (hT 0 _ rfl).row (hT 0 _ rfl).cap _ _ hx20)) (cur2 (fun A23 c24 => ?_))
    refine o_q rfl rfl (za2 rfl) ?_
    refine o_q rfl rfl (q_ext rfl rfl) ?_
    refine o_q rfl rfl (q_ext rfl rfl) ?_
    refine o_q rfl rfl (q_asg rfl) ?_
    refine o_q rfl rfl (q_asg rfl) ?_
    refine o_end ?_
    refine za1 ?_
    refine c_seq ?_
    refine za0 ?_
    refine o_q rfl rfl (za2 rfl) ?_
    refine o_q rfl rfl (q_not rfl) ?_
    refine o_end ?_
    refine za1 ?_
    refine zas _ rfl (fun hb25 => ?_) (fun hb25 => ?_)
    · replace hb25 := nt_t hb25
      replace h := bb_f hb25 h
      refine c_seq ?_
      refine za0 ?_
      refine o_q rfl rfl (q_asg rfl) ?_
      refine o_q rfl rfl (q_asg rfl) ?_
      refine o_end ?_
      refine za1 ?_
      refine c_ret ?_
      refine za5 ?_
      refine x_nil Kd.string 9 ?_
      have e0_ := Option.some.inj h; clear h
      have d0_ := (Prod.mk.inj e0_).1; have e1_ := (Prod.mk.inj e0_).2; clear e0_; subst d0_
      subst e1_
      exact x_r2 (none, 0) Try.results45 (zab rfl) (zab rfl) rfl (fun w h => za7 [0] (by decide) rfl w h)
    · replace hb25 := nt_f hb25
      replace h := bb_t hb25 h
      refine zan ?_
      refine za1 ?_
      refine c_seq ?_
      refine za0 ?_
      refine o_q rfl rfl (za2 rfl) ?_
      refine za8 h (fun l27 hx26 h => ?_) rfl
      refine o_e rfl (zaa 0 Z Try.func128 N128 rfl rfl rfl (fun w P1 hF hB hS hT => impl_run_string.calls g1 a0_0 A0_1 c0_1 l0_1.length l0_1 A0_2 c0_2 l0_2.length l0_2 A1 c1 l1.length l1 hB hF (hS _ R0_1) hc0_1 (hS _ R0_2) hc0_2 (hT 2 _ rfl).box (hS _ R1) hc1 _ hx26)) (cur2 (fun A28 c29 => ?_))
      refine za8 h (fun l31 hx30 h => ?_) rfl
      refine o_e rfl (zaa 0 Z Try.func127 N127 rfl rfl rfl (fun w P1 hF hB hS hT => impl_outputsOf_string.calls g1 a0_0 A0_1 c0_1 l0_1.length l0_1 A0_2 c0_2 l0_2.length l0_2 A28 c29 l27.length l27 hB hF (hS _ R0_1) hc0_1 (hS _ R0_2) hc0_2 (hT 3 _ rfl).box (hT 0 _ rfl).row (hT 0 _ rfl).cap _ hx30)) (cur2 (fun A32 c33 => ?_))
      refine o_q rfl rfl (q_asg rfl) ?_
      refine o_q rfl rfl (q_asg rfl) ?_
      refine o_end ?_
      refine za1 ?_
      refine c_ret ?_
      have e0_ := Option.some.inj h; clear h
      have d0_ := (Prod.mk.inj e0_).1; have e1_ := (Prod.mk.inj e0_).2; clear e0_; subst d0_
      subst e1_
      exact x_r2 (A32, c33) Try.results45 (zab rfl) (zab rfl) rfl (fun w h => za7 [0] (by decide) rfl w h)
  · skip
    clear hl16
    have hr13 := hJ_.1; have hk19 := hJ_.2.1; have h := hJ_.2.2; clear hJ_
    replace h : impl_RunWords.l0 (y10 :: ys11) l6 i9 = some o17 := h
    rw [impl_RunWords.l0] at h
    refine c_seq ?_
    refine za0 ?_
    refine o_q rfl rfl (q_lss rfl rfl) ?_
    refine o_end ?_
    refine za1 ?_
    refine c_seq ?_
    refine c_true (congrArg Value.bool hr13.lt) ?_
    refine zan ?_
    refine za1 ?_
    refine c_seq ?_
    refine zah ?_
    refine c_seq ?_
    refine za0 ?_
    refine o_fact (p := Sh A1 l1.length l1.length) (fun w h => f_sh (dk := Kd.string) h (fun w h => R1.now Z h)) (fun hq34 => ?_)
    refine o_q rfl rfl (q_ix Try.underlying53 Z9 rfl rfl hq34 hr13.get) ?_
    refine o_q rfl rfl (q_lde (off := 0) Y9 rfl rfl (fun w h => R1.now Z h) hr13.get (fun _ _ h => h) rfl) ?_
    refine o_q rfl rfl (q_asg rfl) ?_
    refine o_end ?_
    refine za1 ?_
    refine za0 ?_
    refine o_q rfl rfl (za2 rfl) ?_
    refine o_q rfl rfl (za2 rfl) ?_
    refine o_q rfl rfl (q_lens Try.underlying9 rfl) ?_
    refine o_e rfl (e_lit (vs := [(0, .int .i64 (y10.size : Int))]) (cs := [.int .i64 (y10.size : Int)]) (Kd.int .i64) ([(y10.size : Int)] : List Int) Try.underlying25 I3 (by decide) rfl (by decide) rfl rfl (fun _ _ => Kd.zaj _)) (cur2 (fun A35 c36 => ?_))
    refine za8 h (fun l38 ha39 h => ?_) rfl
    refine o_e rfl (e_app (i := 1) (j := 0) Try.underlying25 I3 rfl (by decide) (by decide) rfl rfl rfl rfl rfl ha39) (cur2 (fun A40 c41 => ?_))
    refine o_q rfl rfl (q_asg rfl) ?_
    refine o_end ?_
    refine zao ?_
    refine za1 ?_
    refine za0 ?_
    refine o_q rfl rfl (q_up rfl rfl (hr13.up hm14)) ?_
    refine o_q rfl rfl (za2 rfl) ?_
    refine o_end ?_
    refine zam ys11.length (ys11, l38, i9 + 1, A40, c41) (by rw [← hk19]; exact Nat.lt_succ_self _) ⟨hr13.step, rfl, h⟩ ⟨rfl, rfl, trivial⟩ (fun w h => za7 [1, 2] (by decide) rfl w h) ?_
    repeat (first | exact zac _ _ | refine zak rfl ?_ | refine zad rfl ?_ | refine zal rfl ?_)

/-! ### loop.example/g01098/spec.l1In: function 94 -/
def spec_l1In.f (a0 : Int) (a1 : Int) (a2 : Int) : Option Bool := if a1 ≤ a0 then (some (decide (a0 ≤ a2))) else (some false)
set_option maxHeartbeats 600000 in
set_option maxRecDepth 100000 in
theorem spec_l1In.calls {w0 ws : World} {P0 : Nat → Prop} (a0 : Int) (a1 : Int) (a2 : Int) (Z : Below w0.heap.size w0 ws) (hF : Fr w0 ws P0 [] ws)  (r_1 : Bool) (h : spec_l1In.f a0 a1 a2 = some r_1) :
    Calls Try.prog 94 #[.int .i64 a0, .int .i64 a1, .int .i64 a2] ws (Post1 w0 ws P0 (fun (_ : Unit) => .bool r_1) (fun (_ : Unit) => [])) := by
  unfold spec_l1In.f at h
  refine enter Try.func94 rfl Try.ntmps94 rfl hF ?_
  refine c_seq ?_
  refine za0 ?_
  refine o_q rfl rfl (q_asg rfl) ?_
  refine o_end ?_
  refine za1 ?_
  refine c_seq ?_
  refine za0 ?_
  refine o_q rfl rfl (za2 rfl) ?_
  refine o_q rfl rfl (za2 rfl) ?_
  refine o_q rfl rfl (q_geq rfl rfl) ?_
  refine o_q rfl rfl (za2 rfl) ?_
  refine byB (decide (a1 ≤ a0)) (fun hb1 => ?_) (fun hb1 => ?_)
  · replace h := br_t hb1 h
    refine o_w (za4 rfl rfl rfl (congrArg Value.bool hb1)) rfl (za2 rfl) ?_
    refine o_w (za4 rfl rfl rfl (congrArg Value.bool hb1)) rfl (za2 rfl) ?_
    refine o_w (za4 rfl rfl rfl (congrArg Value.bool hb1)) rfl (q_leq rfl rfl) ?_
    refine o_q rfl rfl (q_pick true (congrArg Value.bool hb1) rfl) ?_
    refine o_q rfl rfl (q_asg rfl) ?_
    refine o_end ?_
    refine za1 ?_
    refine c_ret ?_
    have e0_ := Option.some.inj h; clear h
    subst e0_
    exact x_r1 () Try.results94 (zab rfl) rfl (fun w h => za7 [] (by decide) rfl w h)
  · replace h := br_f hb1 h
    refine @o_n _ _ _ _ _ _ _ _ _ _ _ 11 (za3 rfl rfl rfl (congrArg Value.bool hb1) rfl) (Eq.refl (some 11)) ?_
    refine @o_n _ _ _ _ _ _ _ _ _ _ _ 12 (za3 rfl rfl rfl (congrArg Value.bool hb1) rfl) (Eq.refl (some 12)) ?_
    refine @o_n _ _ _ _ _ _ _ _ _ _ _ 13 (za3 rfl rfl rfl (congrArg Value.bool hb1) rfl) (Eq.refl (some 13)) ?_
    refine o_q rfl rfl (q_pick false (congrArg Value.bool hb1) rfl) ?_
    refine o_q rfl rfl (q_asg rfl) ?_
    refine o_end ?_
    refine za1 ?_
    refine c_ret ?_
    have e0_ := Option.some.inj h; clear h
    subst e0_
    exact x_r1 () Try.results94 (zab rfl) rfl (fun w h => za7 [] (by decide) rfl w h)

/-! ### loop.example/g01098/spec.plSum: function 221 -/
def spec_plSum.l0 (l1 : List Int) : (List Int) → (List Int) → Int → Option (List Int)
  | [], l3, i6 => some l3
  | y7 :: ys8, l3, i6 => (gt l1 i6).bind fun y20 => (spec_l1Least.f (w64 (y7 + y20)) 1000001).bind fun i22 => (ap l3 ([i22] : List Int)).bind fun l26 => spec_plSum.l0 l1 ys8 l26 (i6 + 1)
def spec_plSum.f (l0 : List Int) (l1 : List Int) : Option (List Int) := (spec_plSum.l0 l1 l0 ([] : List Int) 0).bind fun l3 => some l3
set_option maxHeartbeats 600000 in
set_option maxRecDepth 100000 in
theorem spec_plSum.calls {w0 ws : World} {P0 : Nat → Prop} (A0 : Option Addr) (c0 : Nat) (n0 : Nat) (l0 : List Int) (A1 : Option Addr) (c1 : Nat) (n1 : Nat) (l1 : List Int) (Z : Below w0.heap.size w0 ws) (hF : Fr w0 ws P0 [] ws) (R0 : Stable ws P0 (fun w => Kd.C (Kd.int .i64) w A0 n0 l0)) (hc0 : n0 ≤ c0) (R1 : Stable ws P0 (fun w => Kd.C (Kd.int .i64) w A1 n1 l1)) (hc1 : n1 ≤ c1) (r_1 : List Int) (h : spec_plSum.f l0 l1 = some r_1) :
    Calls Try.prog 221 #[.slice A0 n0 c0, .slice A1 n1 c1] ws (Post1 w0 ws P0 (fun ((q_2, q_3) : (Option Addr) × Nat) => .slice q_2 r_1.length q_3) (fun ((q_2, q_3) : (Option Addr) × Nat) => [row (Kd.int .i64) 3 (.slice q_2 r_1.length q_3) r_1])) := by
  unfold spec_plSum.f at h
  obtain rfl := (R0 ws (KeptB.refl _ _)).1
  obtain rfl := (R1 ws (KeptB.refl _ _)).1
  refine enter Try.func221 rfl Try.ntmps221 rfl hF ?_
  refine c_seq ?_
  refine za0 ?_
  refine o_q rfl rfl (q_asg rfl) ?_
  refine o_end ?_
  refine za1 ?_
  refine c_seq ?_
  refine za0 ?_
  refine o_q rfl rfl (q_asg rfl) ?_
  refine o_end ?_
  refine za1 ?_
  refine c_seq ?_
  refine c_seq ?_
  refine za0 ?_
  refine o_q rfl rfl (za2 rfl) ?_
  refine o_q rfl rfl (q_len Try.underlying25 rfl) ?_
  refine o_q rfl rfl (za2 rfl) ?_
  refine o_end ?_
  refine za1 ?_
  refine zah ?_
  refine c_nil (Kd.int .i64) 3 ?_
  refine za8 h (fun o14 hl13 hR12 => ?_) rfl
  clear h
  refine c_fact (p := l0.length ≤ 9223372036854775807) (fun w h => (R0.now Z h).2.1) (fun hm11 => ?_)
  refine zat (σ := (List Int) × (List Int) × Int × (Option Addr) × Nat) (fun k9 ((ys8, l3, i6, A4, c5) : (List Int) × (List Int) × Int × (Option Addr) × Nat) => Rg l0 i6 ys8 ∧ ys8.length = k9 ∧ spec_plSum.l0 l1 ys8 l3 i6 = some o14) [5, 6, 9, 10, 11, 12, 13, 14, 15, 16, 17, 18, 19, 20, 21, 22, 23, 24, 25] (fun ((ys8, l3, i6, A4, c5) : (List Int) × (List Int) × Int × (Option Addr) × Nat) => [(5, .slice A4 l3.length c5), (9, .int .i64 i6)]) (fun ((ys8, l3, i6, A4, c5) : (List Int) × (List Int) × Int × (Option Addr) × Nat) => [row (Kd.int .i64) 3 (.slice A4 l3.length c5) l3]) l0.length (l0, ([] : List Int), 0, none, 0) ⟨Rg.start _, rfl, hl13⟩ ⟨rfl, rfl, trivial⟩ (fun w h => h) ?_
  refine fun k9 => cur5 (listC (fun l3 i6 A4 c5 U15 hJ_ => ?_) (fun y7 ys8 l3 i6 A4 c5 U15 hJ_ => ?_))
  · skip
    clear hl13
    have hr10 := hJ_.1; have hk16 := hJ_.2.1; have h := hJ_.2.2; clear hJ_
    replace h : spec_plSum.l0 l1 [] l3 i6 = some o14 := h
    rw [spec_plSum.l0] at h
    refine c_seq ?_
    refine za0 ?_
    refine o_q rfl rfl (q_lss rfl rfl) ?_
    refine o_end ?_
    refine za1 ?_
    refine c_seq ?_
    refine c_false (congrArg Value.bool hr10.ge) ?_
    refine c_exit ?_
    refine za6 ?_
    refine za6 ?_
    have e_ := Option.some.inj h; replace h := hR12; rw [← e_] at h; clear e_
    refine x_hit ?_
    refine za1 ?_
    refine c_seq ?_
    refine za0 ?_
    refine o_q rfl rfl (za2 rfl) ?_
    refine o_q rfl rfl (q_asg rfl) ?_
    refine o_end ?_
    refine za1 ?_
    refine c_ret ?_
    have e0_ := Option.some.inj h; clear h
    subst e0_
    exact x_r1 (A4, c5) Try.results221 (zab rfl) rfl (fun w h => za7 [0] (by decide) rfl w h)
  · skip
    clear hl13
    have hr10 := hJ_.1; have hk16 := hJ_.2.1; have h := hJ_.2.2; clear hJ_
    replace h : spec_plSum.l0 l1 (y7 :: ys8) l3 i6 = some o14 := h
    rw [spec_plSum.l0] at h
    refine c_seq ?_
    refine za0 ?_
    refine o_q rfl rfl (q_lss rfl rfl) ?_
    refine o_end ?_
    refine za1 ?_
    refine c_seq ?_
    refine c_true (congrArg Value.bool hr10.lt) ?_
    refine zan ?_
    refine za1 ?_
    refine c_seq ?_
    refine zah ?_
    refine c_seq ?_
    refine za0 ?_
    refine o_q rfl rfl (za2 rfl) ?_
    refine o_q rfl rfl (q_asg rfl) ?_
    refine o_end ?_
    refine za1 ?_
    refine a_startS (ds := []) [none] MO rfl ?_
    refine za9 0 rfl rfl rfl (by kernel_rfl) (fun _ _ _ h => h) (za2 rfl) ?_
    refine za9 1 rfl rfl rfl (by kernel_rfl) (fun _ _ _ h => h) (za2 rfl) ?_
    refine za9 2 rfl rfl rfl (by kernel_rfl) (fun _ _ _ h => h) (za2 rfl) ?_
    refine a_fact (p := Sh A0 l0.length l0.length) (fun w h => f_sh (dk := (Kd.int .i64)) h (fun w h => R0.now Z h)) (fun hq17 => ?_)
    refine za9 3 rfl rfl rfl (by kernel_rfl) (fun _ _ _ h => h) (q_ix Try.underlying25 Z3 rfl rfl hq17 hr10.get) ?_
    refine a_take 4 rfl rfl rfl (by kernel_rfl) (fun _ _ _ h => h) (fun w h => zae [none] (by decide) w h rfl) (q_lde (off := 0) Y3 rfl rfl (fun w h => R0.now Z h) hr10.get (fun _ _ h => h) rfl) ?_
    refine za9 5 rfl rfl rfl (by kernel_rfl) (fun _ _ _ h => h) (za2 rfl) ?_
    refine za9 6 rfl rfl rfl (by kernel_rfl) (fun _ _ _ h => h) (za2 rfl) ?_
    refine a_fact (p := Sh A1 l1.length l1.length) (fun w h => f_sh (dk := (Kd.int .i64)) h (fun w h => R1.now Z h)) (fun hq18 => ?_)
    refine za8 h (fun y20 hg19 h => ?_) rfl
    refine za9 7 rfl rfl rfl (by kernel_rfl) (fun _ _ _ h => h) (q_ix Try.underlying25 Z3 rfl rfl hq18 hg19) ?_
    refine a_take 8 rfl rfl rfl (by kernel_rfl) (fun _ _ _ h => h) (fun w h => zae [none] (by decide) w h rfl) (q_lde (off := 0) Y3 rfl rfl (fun w h => R1.now Z h) hg19 (fun _ _ h => h) rfl) ?_
    refine za9 9 rfl rfl rfl (by kernel_rfl) (fun _ _ _ h => h) (q_add64 rfl rfl) ?_
    refine za8 h (fun i22 hx21 h => ?_) rfl
    refine a_one 10 rfl rfl (by kernel_rfl) rfl (zaa 0 Z Try.func124 N124 rfl rfl rfl (fun w P1 hF hB hS hT => spec_l1Least.calls (w64 (y7 + y20)) 1000001 hB hF _ hx21)) (fun s w h => zae [none] (by decide) w h rfl) (fun _ => ?_)
    refine a_one 11 rfl rfl (by kernel_rfl) rfl (e_lit (vs := [(0, .int .i64 i22)]) (cs := [.int .i64 i22]) (Kd.int .i64) ([i22] : List Int) Try.underlying25 I3 (by decide) rfl (by decide) rfl rfl (fun _ _ => Kd.zaj _)) (fun s w h => zae [none] (by decide) w h rfl) (cur2 (fun A23 c24 => ?_))
    refine za8 h (fun l26 ha27 h => ?_) rfl
    refine a_one 12 rfl rfl (by kernel_rfl) rfl (e_app (i := 1) (j := 0) Try.underlying25 I3 rfl (by decide) (by decide) rfl rfl rfl rfl rfl ha27) (fun s w h => zae [none] (by decide) w h rfl) (cur2 (fun A28 c29 => ?_))
    refine za9 13 rfl rfl rfl (by kernel_rfl) (fun _ _ _ h => h) (q_asg rfl) ?_
    refine a_done (by kernel_rfl) ?_
    refine zao ?_
    refine za1 ?_
    refine za0 ?_
    refine o_q rfl rfl (q_up rfl rfl (hr10.up hm11)) ?_
    refine o_q rfl rfl (za2 rfl) ?_
    refine o_end ?_
    refine zam ys8.length (ys8, l26, i6 + 1, A28, c29) (by rw [← hk16]; exact Nat.lt_succ_self _) ⟨hr10.step, rfl, h⟩ ⟨rfl, rfl, trivial⟩ (fun w h => za7 [1] (by decide) rfl w h) ?_
    repeat (first | exact zac _ _ | refine zak rfl ?_ | refine zad rfl ?_ | refine zal rfl ?_)

/-! ### loop.example/g01098/spec.plExponents: function 183 -/
def spec_plExponents.l1 : (List SStep) → (List (List Int)) → Int → Option (List (List Int))
  | [], l39, i43 => some l39
  | y44 :: ys45, l39, i43 => (gt l39 y44.f0).bind fun y300 => (gt l39 y44.f1).bind fun y599 => (spec_plSum.f y300 y599).bind fun l719 => (ap l39 ([l719] : List (List Int))).bind fun l838 => spec_plExponents.l1 ys45 l838 (i43 + 1)
def spec_plExponents.l0 (a0_0 : Int) : Nat → (List (List Int)) → Int → Option (List (List Int))
  | 0, _, _ => none
  | k11 + 1, l4, i8 => if i8 < a0_0 then ((mk0 a0_0 (0 : Int)).bind fun l20 => (gt l20 i8).bind fun y27 => (st l20 i8 1).bind fun l28 => (ap l4 ([l28] : List (List Int))).bind fun l34 => spec_plExponents.l0 a0_0 k11 l34 (w64 (i8 + 1))) else (some l4)
def spec_plExponents.f (k : Nat) (a0_0 : Int) (l0_1 : List SStep) (l0_2 : List Int) : Option (List (List Int)) := (spec_plExponents.l0 a0_0 k ([] : List (List Int)) 0).bind fun l4 => (spec_plExponents.l1 l0_1 l4 0).bind fun l39 => some l39
set_option maxHeartbeats 600000 in
set_option maxRecDepth 100000 in
theorem spec_plExponents.calls (k : Nat) {w0 ws : World} {P0 : Nat → Prop} (a0_0 : Int) (A0_1 : Option Addr) (c0_1 : Nat) (n0_1 : Nat) (l0_1 : List SStep) (A0_2 : Option Addr) (c0_2 : Nat) (n0_2 : Nat) (l0_2 : List Int) (Z : Below w0.heap.size w0 ws) (hF : Fr w0 ws P0 [] ws) (R0_1 : Stable ws P0 (fun w => Kd.C kStep w A0_1 n0_1 l0_1)) (hc0_1 : n0_1 ≤ c0_1) (R0_2 : Stable ws P0 (fun w => Kd.C (Kd.int .i64) w A0_2 n0_2 l0_2)) (hc0_2 : n0_2 ≤ c0_2) (r_1 : List (List Int)) (h : spec_plExponents.f k a0_0 l0_1 l0_2 = some r_1) :
    Calls Try.prog 183 #[.agg #[.int .i64 a0_0, .slice A0_1 n0_1 c0_1, .slice A0_2 n0_2 c0_2]] ws (Post1 w0 ws P0 (fun ((q_2, q_3, q_4) : (Option Addr) × Nat × Hd) => .slice q_2 r_1.length q_3) (fun ((q_2, q_3, q_4) : (Option Addr) × Nat × Hd) => [row (gk 3 (Kd.int .i64)) 25 (.slice q_2 r_1.length q_3) (zp q_4 r_1)])) := by
  unfold spec_plExponents.f at h
  obtain rfl := (R0_1 ws (KeptB.refl _ _)).1
  obtain rfl := (R0_2 ws (KeptB.refl _ _)).1
  refine enter Try.func183 rfl Try.ntmps183 rfl hF ?_
  refine c_seq ?_
  refine za0 ?_
  refine o_e rfl (e_box rfl) (fun g1 => ?_)
  refine o_q rfl rfl (q_asg rfl) ?_
  refine o_end ?_
  refine za1 ?_
  refine c_seq ?_
  refine za0 ?_
  refine o_q rfl rfl (q_asg rfl) ?_
  refine o_end ?_
  refine za1 ?_
  refine c_seq ?_
  refine c_seq ?_
  refine za0 ?_
  refine o_q rfl rfl (q_asg rfl) ?_
  refine o_end ?_
  refine za1 ?_
  refine zah ?_
  refine c_nil (gk 3 (Kd.int .i64)) 25 ?_
  refine za8 h (fun o16 hl15 hR14 => ?_) rfl
  clear h
  refine zat (σ := (List (List Int)) × Int × (Option Addr) × Nat × Hd) (fun k11 ((l4, i8, A5, c6, H7) : (List (List Int)) × Int × (Option Addr) × Nat × Hd) => spec_plExponents.l0 a0_0 k11 l4 i8 = some o16) [3, 4, 5, 8, 9, 10, 11, 12, 13, 14, 15, 16, 17, 18, 19, 20, 21, 22, 23] (fun ((l4, i8, A5, c6, H7) : (List (List Int)) × Int × (Option Addr) × Nat × Hd) => [(3, .slice A5 l4.length c6), (4, .int .i64 i8)]) (fun ((l4, i8, A5, c6, H7) : (List (List Int)) × Int × (Option Addr) × Nat × Hd) => [row (gk 3 (Kd.int .i64)) 25 (.slice A5 l4.length c6) (zp H7 l4), box g1 27 #[.int .i64 a0_0, .slice A0_1 l0_1.length c0_1, .slice A0_2 l0_2.length c0_2]]) k (([] : List (List Int)), 0, none, 0, ([] : Hd)) hl15 ⟨rfl, rfl, trivial⟩ (fun w h => h) ?_
  refine natC (cur5 (fun l4 i8 A5 c6 H7 => fun U17 hJ_ => ?_)) (fun k11 => (cur5 (fun l4 i8 A5 c6 H7 => fun U17 hJ_ => ?_)))
  · skip
    replace hJ_ : spec_plExponents.l0 a0_0 0 l4 i8 = some o16 := hJ_
    rw [spec_plExponents.l0] at hJ_
    exact noneE hJ_
  · skip
    clear hl15
    have h := hJ_; clear hJ_
    replace h : spec_plExponents.l0 a0_0 (k11 + 1) l4 i8 = some o16 := h
    rw [spec_plExponents.l0] at h
    refine c_seq ?_
    refine c_seq ?_
    refine za0 ?_
    refine o_q rfl rfl (za2 rfl) ?_
    refine o_q rfl rfl (q_f F27_0 rfl) ?_
    refine o_q rfl rfl (q_ldb Y3 rfl (fun w h => h.zai (i := 1) rfl) rfl) ?_
    refine o_q rfl rfl (q_lss rfl rfl) ?_
    refine o_end ?_
    refine za1 ?_
    refine zas _ rfl (fun hb19 => ?_) (fun hb19 => ?_)
    · skip
      replace h := br_t hb19 h
      refine zan ?_
      refine za1 ?_
      refine c_seq ?_
      refine zah ?_
      refine c_seq ?_
      refine za0 ?_
      refine o_q rfl rfl (q_f F27_0 rfl) ?_
      refine o_q rfl rfl (q_ldb Y3 rfl (fun w h => h.zai (i := 1) rfl) rfl) ?_
      refine za8 h (fun l20 hm21 h => ?_) rfl
      refine o_e rfl (e_make (Kd.int .i64) (0 : Int) Try.underlying25 I3 rfl (by decide) (by decide) (fun _ _ => rfl) rfl rfl hm21) (cur2 (fun A22 c23 => ?_))
      refine o_q rfl rfl (q_asg rfl) ?_
      refine o_end ?_
      refine za1 ?_
      refine c_seq ?_
      refine za0 ?_
      refine o_q rfl rfl (za2 rfl) ?_
      refine o_q rfl rfl (za2 rfl) ?_
      refine o_fact (p := Sh A22 l20.length l20.length) (fun w h => f_sh (dk := (Kd.int .i64)) h (fun w h => h.zaq (i := 0) rfl)) (fun hq25 => ?_)
      refine za8 h (fun y27 hg26 h => ?_) rfl
      refine o_q rfl rfl (q_ix Try.underlying25 Z3 rfl rfl hq25 hg26) ?_
      refine za8 h (fun l28 hs29 h => ?_) rfl
      refine o_e rfl (e_set (i := 0) rfl rfl rfl Z3 hs29) (fun _ => ?_)
      refine o_end ?_
      refine za1 ?_
      refine za0 ?_
      refine o_q rfl rfl (za2 rfl) ?_
      refine o_q rfl rfl (za2 rfl) ?_
      refine o_e rfl (e_litG (j := 0) (ue := 3) (dk := (Kd.int .i64)) (ys := l28) Try.underlying60 I25 rfl rfl rfl) (cur3 (fun A30 c31 H33 => ?_))
      refine za8 h (fun l34 ha35 h => ?_) rfl
      refine o_e rfl (e_appG (i := 2) (j := 0) Try.underlying60 I25 rfl (by decide) rfl rfl rfl rfl rfl ha35) (cur3 (fun A36 c37 H38 => ?_))
      refine o_q rfl rfl (q_asg rfl) ?_
      refine o_end ?_
      refine zao ?_
      refine za1 ?_
      refine za0 ?_
      refine o_q rfl rfl (za2 rfl) ?_
      refine o_q rfl rfl (q_add64 rfl rfl) ?_
      refine o_q rfl rfl (q_asg rfl) ?_
      refine o_end ?_
      refine zam k11 (l34, w64 (i8 + 1), A36, c37, H38) (Nat.lt_succ_self _) h ⟨rfl, rfl, trivial⟩ (fun w h => za7 [2, 3] (by decide) rfl w h) ?_
      repeat (first | exact zac _ _ | refine zak rfl ?_ | refine zad rfl ?_ | refine zal rfl ?_)
    · skip
      replace h := br_f hb19 h
      refine c_exit ?_
      refine za6 ?_
      refine za6 ?_
      have e_ := Option.some.inj h; replace h := hR14; rw [← e_] at h; clear e_
      refine x_hit ?_
      refine za1 ?_
      refine c_seq ?_
      refine c_seq ?_
      refine za0 ?_
      refine o_q rfl rfl (q_f F27_1 rfl) ?_
      refine o_q rfl rfl (q_ldb Y24 rfl (fun w h => h.zai (i := 1) rfl) rfl) ?_
      refine o_q rfl rfl (q_len Try.underlying24 rfl) ?_
      refine o_q rfl rfl (za2 rfl) ?_
      refine o_end ?_
      refine za1 ?_
      refine zah ?_
      refine za8 h (fun o51 hl50 hR49 => ?_) rfl
      clear h
      refine c_fact (p := l0_1.length ≤ 9223372036854775807) (fun w h => (R0_1.now Z h).2.1) (fun hm48 => ?_)
      refine zat (σ := (List SStep) × (List (List Int)) × Int × (Option Addr) × Nat × Hd) (fun k46 ((ys45, l39, i43, A40, c41, H42) : (List SStep) × (List (List Int)) × Int × (Option Addr) × Nat × Hd) => Rg l0_1 i43 ys45 ∧ ys45.length = k46 ∧ spec_plExponents.l1 ys45 l39 i43 = some o51) [3, 7, 27, 28, 29, 30, 31, 32, 33, 34, 35, 36, 37, 38, 39, 40, 41, 42, 43, 44, 45] (fun ((ys45, l39, i43, A40, c41, H42) : (List SStep) × (List (List Int)) × Int × (Option Addr) × Nat × Hd) => [(3, .slice A40 l39.length c41), (27, .int .i64 i43)]) (fun ((ys45, l39, i43, A40, c41, H42) : (List SStep) × (List (List Int)) × Int × (Option Addr) × Nat × Hd) => [row (gk 3 (Kd.int .i64)) 25 (.slice A40 l39.length c41) (zp H42 l39), box g1 27 #[.int .i64 a0_0, .slice A0_1 l0_1.length c0_1, .slice A0_2 l0_2.length c0_2]]) l0_1.length (l0_1, l4, 0, A5, c6, H7) ⟨Rg.start _, rfl, hl50⟩ ⟨rfl, rfl, trivial⟩ (fun w h => h) ?_
      refine fun k46 => cur6 (listC (fun l39 i43 A40 c41 H42 U52 hJ_ => ?_) (fun y44 ys45 l39 i43 A40 c41 H42 U52 hJ_ => ?_))
      · skip
        clear hl50
        have hr47 := hJ_.1; have hk53 := hJ_.2.1; have h := hJ_.2.2; clear hJ_
        replace h : spec_plExponents.l1 [] l39 i43 = some o51 := h
        rw [spec_plExponents.l1] at h
        refine c_seq ?_
        refine za0 ?_
        refine o_q rfl rfl (q_lss rfl rfl) ?_
        refine o_end ?_
        refine za1 ?_
        refine c_seq ?_
        refine c_false (congrArg Value.bool hr47.ge) ?_
        refine c_exit ?_
        refine za6 ?_
        refine za6 ?_
        have e_ := Option.some.inj h; replace h := hR49; rw [← e_] at h; clear e_
        refine x_hit ?_
        refine za1 ?_
        refine c_seq ?_
        refine za0 ?_
        refine o_q rfl rfl (za2 rfl) ?_
        refine o_q rfl rfl (q_asg rfl) ?_
        refine o_end ?_
        refine za1 ?_
        refine c_ret ?_
        have e0_ := Option.some.inj h; clear h
        subst e0_
        exact x_r1 (A40, c41, H42) Try.results183 (zab rfl) rfl (fun w h => za7 [0] (by decide) rfl w h)
      · skip
        clear hl50
        have hr47 := hJ_.1; have hk53 := hJ_.2.1; have h := hJ_.2.2; clear hJ_
        replace h : spec_plExponents.l1 (y44 :: ys45) l39 i43 = some o51 := h
        rw [spec_plExponents.l1] at h
        refine c_seq ?_
        refine za0 ?_
        refine o_q rfl rfl (q_lss rfl rfl) ?_
        refine o_end ?_
        refine za1 ?_
        refine c_seq ?_
        refine c_true (congrArg Value.bool hr47.lt) ?_
        refine zan ?_
        refine za1 ?_
        refine c_seq ?_
        refine zah ?_
        refine c_seq ?_
        refine za0 ?_
        refine o_fact (p := Sh A0_1 l0_1.length l0_1.length) (fun w h => f_sh (dk := kStep) h (fun w h => R0_1.now Z h)) (fun hq54 => ?_)
        refine o_q rfl rfl (q_ix Try.underlying24 Z89 rfl rfl hq54 hr47.get) ?_
        refine o_q rfl rfl (q_ldE G89 Z89 rfl rfl (fun w h => R0_1.now Z h) hr47.get (fun _ _ h => h) rfl) ?_
        refine o_e rfl (e_alloc V89 rfl) (fun g55 => ?_)
        refine o_e rfl (e_storeA (i := 0) rfl rfl rfl Z89 rfl rfl) (fun _ => ?_)
        refine o_end ?_
        refine za1 ?_
        refine za8 h (fun y300 hg299 h => ?_) rfl
        refine za8 h (fun y599 hg598 h => ?_) rfl
        refine za8 h (fun l719 hx718 h => ?_) rfl
        refine za8 h (fun l838 ha839 h => ?_) rfl
        refine a_startS (ds := []) [some 0, none, some 2] MO rfl ?_
        refine za9 0 rfl rfl rfl (by kernel_rfl) (fun _ _ _ h => h) (za2 rfl) ?_
        refine za9 1 rfl rfl rfl (by kernel_rfl) (fun _ _ _ h => h) (za2 rfl) ?_
        refine za9 2 rfl rfl rfl (by kernel_rfl) (fun _ _ _ h => h) (q_f F89_0 rfl) ?_
        refine a_take 3 rfl rfl rfl (by kernel_rfl) (fun _ _ _ h => h) (fun w h => zae [some 0, none, some 2] (by decide) w h rfl) (q_ldb Y3 rfl (fun w h => h.zai (i := 0) rfl) rfl) ?_
        refine a_fact (p := Sh A40 l39.length (zp H42 l39).length) (fun w h => f_sh (dk := (gk 3 (Kd.int .i64))) h (fun w h => h.zaq (i := 1) rfl)) (fun hq298 => ?_)
        refine za9 4 rfl rfl rfl (by kernel_rfl) (fun _ _ _ h => h) (q_ix Try.underlying60 Z25 rfl rfl hq298 (gt_zp hg299)) ?_
        refine za9 6 rfl rfl rfl (by kernel_rfl) (fun _ _ _ h => h) (za2 rfl) ?_
        refine za9 7 rfl rfl rfl (by kernel_rfl) (fun _ _ _ h => h) (q_f F89_1 rfl) ?_
        refine a_take 8 rfl rfl rfl (by kernel_rfl) (fun _ _ _ h => h) (fun w h => zae [some 0, none, some 2] (by decide) w h rfl) (q_ldb Y3 rfl (fun w h => h.zai (i := 0) rfl) rfl) ?_
        refine za9 9 rfl rfl rfl (by kernel_rfl) (fun _ _ _ h => h) (q_ix Try.underlying60 Z25 rfl rfl hq298 (gt_zp hg598)) ?_
        refine a_fact (p := y300.length ≤ hC H42 y44.f0) (fun w h => (K_in (h.zaq (i := 1) rfl) hg299).1) (fun hc358 => ?_)
        refine a_fact (p := y599.length ≤ hC H42 y44.f1) (fun w h => (K_in (h.zaq (i := 1) rfl) hg598).1) (fun hc658 => ?_)
        refine a_two 5 10 rfl rfl rfl rfl (by kernel_rfl) rfl rfl (ev_q rfl (q_lde (off := 0) Y25 rfl rfl (fun w h => h.zaq (i := 1) rfl) (gt_zp hg299) (fun _ _ h => h.1) rfl)) (fun s w h => zae [some 0, none, some 2] (by decide) w h rfl) (ev_q rfl (q_lde (off := 0) Y25 rfl rfl (fun w h => h.zaq (i := 1) rfl) (gt_zp hg598) (fun _ _ h => h.1) rfl)) (fun s w h => zae [some 0, none, some 2] (by decide) w h rfl) (fun _ => ?_) (fun _ => ?_)
        · skip
          refine a_fact (p := y599.length ≤ hC H42 y44.f1) (fun w h => (K_in (h.zaq (i := 1) rfl) hg598).1) (fun hc658 => ?_)
          refine a_one 10 rfl rfl (by kernel_rfl) rfl (ev_q rfl (q_lde (off := 0) Y25 rfl rfl (fun w h => h.zaq (i := 1) rfl) (gt_zp hg598) (fun _ _ h => h.1) rfl)) (fun s w h => zae [some 0, none, some 2] (by decide) w h rfl) (fun _ => ?_)
          refine a_one 11 rfl rfl (by kernel_rfl) rfl (zaa 0 Z Try.func221 N221 rfl rfl rfl (fun w P1 hF hB hS hT => spec_plSum.calls (hA H42 y44.f0) (hC H42 y44.f0) y300.length y300 (hA H42 y44.f1) (hC H42 y44.f1) y599.length y599 hB hF (stab_in (hT 1 _ rfl).row hg299) hc358 (stab_in (hT 1 _ rfl).row hg598) hc658 _ hx718)) (fun s w h => zae [some 1, none, some 3] (by decide) w h rfl) (cur2 (fun A720 c721 => ?_))
          refine a_one 12 rfl rfl (by kernel_rfl) rfl (e_litG (j := 0) (ue := 3) (dk := (Kd.int .i64)) (ys := l719) Try.underlying60 I25 rfl rfl rfl) (fun s w h => zae [some 2, none, some 4] (by decide) w h rfl) (cur3 (fun A778 c779 H781 => ?_))
          refine a_one 13 rfl rfl (by kernel_rfl) rfl (e_appG (i := 3) (j := 0) Try.underlying60 I25 rfl (by decide) rfl rfl rfl rfl rfl ha839) (fun s w h => zae [some 2, none, some 4] (by decide) w h rfl) (cur3 (fun A840 c841 H842 => ?_))
          refine za9 14 rfl rfl rfl (by kernel_rfl) (fun _ _ _ h => h) (q_asg rfl) ?_
          refine a_done (by kernel_rfl) ?_
          refine zao ?_
          refine za1 ?_
          refine za0 ?_
          refine o_q rfl rfl (q_up rfl rfl (hr47.up hm48)) ?_
          refine o_q rfl rfl (za2 rfl) ?_
          refine o_end ?_
          refine zam ys45.length (ys45, l838, i43 + 1, A840, c841, H842) (by rw [← hk53]; exact Nat.lt_succ_self _) ⟨hr47.step, rfl, h⟩ ⟨rfl, rfl, trivial⟩ (fun w h => za7 [3, 4] (by decide) rfl w h) ?_
          repeat (first | exact zac _ _ | refine zak rfl ?_ | refine zad rfl ?_ | refine zal rfl ?_)
        · skip
          refine a_fact (p := y300.length ≤ hC H42 y44.f0) (fun w h => (K_in (h.zaq (i := 1) rfl) hg299).1) (fun hc358 => ?_)
          refine a_one 5 rfl rfl (by kernel_rfl) rfl (ev_q rfl (q_lde (off := 0) Y25 rfl rfl (fun w h => h.zaq (i := 1) rfl) (gt_zp hg299) (fun _ _ h => h.1) rfl)) (fun s w h => zae [some 0, none, some 2] (by decide) w h rfl) (fun _ => ?_)
          refine a_one 11 rfl rfl (by kernel_rfl) rfl (zaa 0 Z Try.func221 N221 rfl rfl rfl (fun w P1 hF hB hS hT => spec_plSum.calls (hA H42 y44.f0) (hC H42 y44.f0) y300.length y300 (hA H42 y44.f1) (hC H42 y44.f1) y599.length y599 hB hF (stab_in (hT 1 _ rfl).row hg299) hc358 (stab_in (hT 1 _ rfl).row hg598) hc658 _ hx718)) (fun s w h => zae [some 1, none, some 3] (by decide) w h rfl) (cur2 (fun A720 c721 => ?_))
          refine a_one 12 rfl rfl (by kernel_rfl) rfl (e_litG (j := 0) (ue := 3) (dk := (Kd.int .i64)) (ys := l719) Try.underlying60 I25 rfl rfl rfl) (fun s w h => zae [some 2, none, some 4] (by decide) w h rfl) (cur3 (fun A778 c779 H781 => ?_))
          refine a_one 13 rfl rfl (by kernel_rfl) rfl (e_appG (i := 3) (j := 0) Try.underlying60 I25 rfl (by decide) rfl rfl rfl rfl rfl ha839) (fun s w h => zae [some 2, none, some 4] (by decide) w h rfl) (cur3 (fun A840 c841 H842 => ?_))
          refine za9 14 rfl rfl rfl (by kernel_rfl) (fun _ _ _ h => h) (q_asg rfl) ?_
          refine a_done (by kernel_rfl) ?_
          refine zao ?_
          refine za1 ?_
          refine za0 ?_
          refine o_q rfl rfl (q_up rfl rfl (hr47.up hm48)) ?_
          refine o_q rfl rfl (za2 rfl) ?_
          refine o_end ?_
          refine zam ys45.length (ys45, l838, i43 + 1, A840, c841, H842) (by rw [← hk53]; exact Nat.lt_succ_self _) ⟨hr47.step, rfl, h⟩ ⟨rfl, rfl, trivial⟩ (fun w h => za7 [3, 4] (by decide) rfl w h) ?_
          repeat (first | exact zac _ _ | refine zak rfl ?_ | refine zad rfl ?_ | refine zal rfl ?_)

end Go.Proofs.Ytoegbcbdiggbjaa.RW
