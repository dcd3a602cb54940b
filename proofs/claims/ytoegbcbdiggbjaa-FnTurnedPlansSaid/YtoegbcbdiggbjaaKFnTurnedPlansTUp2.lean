import Derived.Test.YtoegbcbdiggbjaaKFnTurnedPlansTUp1
namespace Go.Proofs.Ytoegbcbdiggbjaa.TU
open Go.RowKit Go.Proofs.Ytoegbcbdiggbjaa.Frame Go.Proofs.YtoegbcbdiggbjaaW.PrintLast Go.Proofs.Ytoegbcbdiggbjaa.Hand
open Go.Proofs.YtoegbcbdiggbjaaW.PrintWords hiding mn mx
set_option linter.unusedVariables false
/-! ### (*loop.example/g01098/spec.l1Cur).anyPlan: function 84 -/
def spec_l1Cur_anyPlan.l0 : Nat → (List SStep) → Int → Option (List SStep)
  | 0, _, _ => none
  | k1398 + 1, l1392, i1395 => if 0 < i1395 then ((ap l1392 ([(⟨(l1392.length : Int), (l1392.length : Int)⟩ : SStep)] : List SStep)).bind fun l1410 => spec_l1Cur_anyPlan.l0 k1398 l1410 (w64 (i1395 - 1))) else (some l1392)
def spec_l1Cur_anyPlan.l1 (l0_0 : List Int) (i4 : Int) (l5 : List SStep) : Nat → (List Int) → Int → Int → Option (Int × (List SStep) × (List Int) × Int × Int)
  | 0, _, _, _ => none
  | k1425 + 1, l1418, i1421, i1422 => (spec_l1Cur_pick.f l0_0 i1421 i1422 2).bind fun (i1434, i1435, i1436) => if (l1418.length : Int) < w64 (6 + i1434) then ((ap l1418 ([0] : List Int)).bind fun l1441 => spec_l1Cur_anyPlan.l1 l0_0 i4 l5 k1425 l1441 i1435 i1436) else (some (i4, l5, l1418, i1435, i1436))
def spec_l1Cur_anyPlan.l2 : Nat → (List SStep) → Int → Option (List SStep)
  | 0, _, _ => none
  | k1457 + 1, l1451, i1454 => if 0 < i1454 then ((ap l1451 ([(⟨0, w64 (1 + (l1451.length : Int))⟩ : SStep)] : List SStep)).bind fun l1469 => spec_l1Cur_anyPlan.l2 k1457 l1469 (w64 (i1454 - 1))) else (some l1451)
def spec_l1Cur_anyPlan.f (k : Nat) (l0_0 : List Int) (a0_1 : Int) (a0_2 : Int) (a1 : Int) (a2 : Int) : Option (Int × (List SStep) × (List Int) × Int × Int) := (spec_l1Cur_plan.f k l0_0 a0_1 a0_2 a1 a2).bind fun (i4, l5, l6, i7, i8) => ((spec_l1Cur_pick.f l0_0 i7 i8 16).bind fun (i753, i754, i755) => if i753 = 0 then ((spec_l1Cur_among.f l0_0 i754 i755 ([(-1), 0, 1, 6, 7] : List Int)).bind fun (i761, i762, i763) => some (i761, l5, l6, i762, i763)) else (if i753 = 1 then (if 0 < (l5.length : Int) then ((spec_l1Cur_pick.f l0_0 i754 i755 (l5.length : Int)).bind fun (i767, i768, i769) => (spec_l1Cur_pick.f l0_0 i768 i769 5).bind fun (i771, i772, i773) => (spec_l1Cur_pick.f l0_0 i772 i773 8).bind fun (i775, i776, i777) => (gt l5 i767).bind fun y780 => (st l5 i767 (⟨w64 (i771 - 1), i775⟩ : SStep)).bind fun l781 => some (i4, l781, l6, i776, i777)) else (some (i4, l5, l6, i754, i755))) else (if i753 = 2 then ((spec_l1Cur_pick.f l0_0 i754 i755 12).bind fun (i967, i968, i969) => (ap l6 ([w64 (i967 - 1)] : List Int)).bind fun l1146 => some (i4, l5, l1146, i968, i969)) else (if i753 = 3 then ((spec_l1Cur_pick.f l0_0 i754 i755 4).bind fun (i1388, i1389, i1390) => (spec_l1Cur_anyPlan.l0 k ([] : List SStep) (w64 (18 + i1388))).bind fun l1392 => some (1, l1392, ([(l1392.length : Int)] : List Int), i1389, i1390)) else (if i753 = 4 then ((spec_l1Cur_anyPlan.l1 l0_0 i4 l5 k l6 i754 i755)) else (if i753 = 5 then ((spec_l1Cur_pick.f l0_0 i754 i755 2).bind fun (i1447, i1448, i1449) => (spec_l1Cur_anyPlan.l2 k ([] : List SStep) (w64 (40 + i1447))).bind fun l1451 => some (2, l1451, ([5] : List Int), i1448, i1449)) else (some (i4, l5, l6, i754, i755)))))))).bind fun (i738, l739, l742, i745, i746) => some (i738, l739, l742, i745, i746)
set_option maxHeartbeats 600000 in
set_option maxRecDepth 100000 in
theorem spec_l1Cur_anyPlan.calls (k : Nat) {w0 ws : World} {P0 : Nat → Prop} (g0 : Nat) (A0_0 : Option Addr) (c0_0 : Nat) (n0_0 : Nat) (l0_0 : List Int) (a0_1 : Int) (a0_2 : Int) (a1 : Int) (a2 : Int) (Z : Below w0.heap.size w0 ws) (hF : Fr w0 ws P0 [box g0 81 #[.slice A0_0 n0_0 c0_0, .int .i64 a0_1, .int .u64 a0_2]] ws) (R0_0 : Stable ws P0 (fun w => Kd.C (Kd.int .u8) w A0_0 n0_0 l0_0)) (hc0_0 : n0_0 ≤ c0_0) (r_1 : Int) (r_2 : List SStep) (r_5 : List Int) (r_8 : Int) (r_9 : Int) (h : spec_l1Cur_anyPlan.f k l0_0 a0_1 a0_2 a1 a2 = some (r_1, r_2, r_5, r_8, r_9)) :
    Calls Try.prog 84 #[.pointer (some ⟨g0, 0, none⟩), .int .i64 a1, .int .i64 a2] ws (Post1 w0 ws P0 (fun ((q_3, q_4, q_6, q_7) : (Option Addr) × Nat × (Option Addr) × Nat) => .agg #[.int .i64 r_1, .slice q_3 r_2.length q_4, .slice q_6 r_5.length q_7]) (fun ((q_3, q_4, q_6, q_7) : (Option Addr) × Nat × (Option Addr) × Nat) => [row kStep 89 (.slice q_3 r_2.length q_4) r_2, row (Kd.int .i64) 3 (.slice q_6 r_5.length q_7) r_5, box g0 81 #[.slice A0_0 n0_0 c0_0, .int .i64 r_8, .int .u64 r_9]])) := by
  unfold spec_l1Cur_anyPlan.f at h
  obtain rfl := (R0_0 ws (KeptB.refl _ _)).1
  refine enter Try.func84 rfl Try.ntmps84 rfl hF ?_
  refine c_seq ?_
  refine za0 ?_
  refine o_e rfl (zaz V27 rfl) (fun g1 => ?_)
  refine o_end ?_
  refine za1 ?_
  refine c_seq ?_
  refine za0 ?_
  refine o_q rfl rfl (za2 rfl) ?_
  refine o_q rfl rfl (za2 rfl) ?_
  refine o_q rfl rfl (za2 rfl) ?_
  refine o_pick [1, 0] (by decide) rfl ?_
  refine bindE5 h (fun i4 l5 l6 i7 i8 hx3 h => ?_) rfl
  refine o_e rfl (zac 1 Z Try.func179 N179 rfl rfl rfl (fun w P1 hF hB hS hT => spec_l1Cur_plan.calls k g0 A0_0 c0_0 l0_0.length l0_0 a0_1 a0_2 a1 a2 hB hF (hS _ R0_0) hc0_0 _ _ _ _ _ hx3)) (cur4 (fun A9 c10 A11 c12 => ?_))
  refine o_e rfl (zaz V27 rfl) (fun g13 => ?_)
  refine o_e rfl (zaq (i := 0) rfl rfl rfl Z27 rfl rfl) (fun _ => ?_)
  refine o_end ?_
  refine za1 ?_
  refine za7 h (fun o747 hl748 hR749 => ?_) rfl
  clear h
  refine c_cutJ (σ := Int × (List SStep) × (List Int) × Int × Int × (Option Addr) × Nat × (Option Addr) × Nat) (fun (i738, l739, l742, i745, i746, A740, c741, A743, c744) => some (i738, l739, l742, i745, i746) = some o747) [8, 9, 14, 15, 16, 17, 18, 19, 20, 21, 22, 23, 24, 25, 26, 27, 28, 29, 30, 31, 32, 33, 34, 35, 36, 37, 38, 39, 40, 41, 42, 43, 44, 45, 46, 47, 48, 49, 50, 51, 52, 53, 54, 55, 56, 57, 58, 59, 60, 61, 62, 63, 64, 65, 66, 67, 68, 69, 70, 71, 72, 73, 74, 75, 76, 77, 78, 79, 80, 81, 82, 83, 84, 85, 86, 87, 88, 89, 90, 91, 92, 93, 94, 95, 96, 97, 98, 99, 100, 101, 102, 103, 104, 105, 106, 107, 108, 109, 110, 111, 112, 113, 114] (fun (i738, l739, l742, i745, i746, A740, c741, A743, c744) => []) (fun (i738, l739, l742, i745, i746, A740, c741, A743, c744) => [box g1 27 #[.int .i64 0, .slice none 0 0, .slice none 0 0], box g13 27 #[.int .i64 i738, .slice A740 l739.length c741, .slice A743 l742.length c744], row kStep 89 (.slice A740 l739.length c741) l739, row (Kd.int .i64) 3 (.slice A743 l742.length c744) l742, box g0 81 #[.slice A0_0 l0_0.length c0_0, .int .i64 i745, .int .u64 i746]]) ?_ ?_
  · skip
    have h := hl748; clear hl748
    clear hR749
    refine c_seq ?_
    refine za0 ?_
    refine o_q rfl rfl (za2 rfl) ?_
    refine o_pick [3, 0, 1, 2, 4] (by decide) rfl ?_
    refine bindE3 h (fun i753 i754 i755 hx752 h => ?_) rfl
    refine o_e rfl (zac 1 Z Try.func85 N85 rfl rfl rfl (fun w P1 hF hB hS hT => spec_l1Cur_pick.calls g0 A0_0 c0_0 l0_0.length l0_0 i7 i8 16 hB hF (hS _ R0_0) hc0_0 _ _ _ hx752)) (fun _ => ?_)
    refine o_end ?_
    refine za1 ?_
    refine zaj ?_
    refine c_seq ?_
    refine za0 ?_
    refine o_q rfl rfl (q_eql rfl rfl) ?_
    refine o_q rfl rfl (q_asg rfl) ?_
    refine o_end ?_
    refine za1 ?_
    refine zar _ rfl (fun hb756 => ?_) (fun hb756 => ?_)
    · skip
      replace h := br_t hb756 h
      refine za0 ?_
      refine o_q rfl rfl (za2 rfl) ?_
      refine o_e rfl (e_lit (vs := [(0, .int .i64 (-1)), (1, .int .i64 0), (2, .int .i64 1), (3, .int .i64 6), (4, .int .i64 7)]) (cs := [.int .i64 (-1), .int .i64 0, .int .i64 1, .int .i64 6, .int .i64 7]) (Kd.int .i64) ([(-1), 0, 1, 6, 7] : List Int) Try.underlying25 I3 (by decide) rfl (by decide) rfl rfl (fun _ _ => Kd.zat _)) (cur2 (fun A757 c758 => ?_))
      refine o_pick [1, 0, 2, 3, 4, 5] (by decide) rfl ?_
      refine bindE3 h (fun i761 i762 i763 hx760 h => ?_) rfl
      refine o_e rfl (zac 1 Z Try.func122 N122 rfl rfl rfl (fun w P1 hF hB hS hT => spec_l1Cur_among.calls g0 A0_0 c0_0 l0_0.length l0_0 i754 i755 A757 c758 (([(-1), 0, 1, 6, 7] : List Int).length) ([(-1), 0, 1, 6, 7] : List Int) hB hF (hS _ R0_0) hc0_0 (hT 0 _ rfl).row (hT 0 _ rfl).cap _ _ _ hx760)) (fun _ => ?_)
      refine o_q rfl rfl (q_f F27_0 rfl) ?_
      refine o_e rfl (e_store (i := 2) rfl rfl rfl rfl Z3 rfl rfl) (fun _ => ?_)
      refine o_end ?_
      refine zan ?_
      refine zay (i761, l5, l6, i762, i763, A9, c10, A11, c12) h trivial (fun w h => za5 [5, 2, 3, 4, 0] (by decide) rfl w h) ?_
      repeat (first | exact zad _ _ | refine zah rfl ?_ | refine zae rfl ?_ | refine zai rfl ?_)
    · skip
      replace h := br_f hb756 h
      refine c_seq ?_
      refine za0 ?_
      refine o_q rfl rfl (q_eql rfl rfl) ?_
      refine o_q rfl rfl (q_asg rfl) ?_
      refine o_end ?_
      refine za1 ?_
      refine zar _ rfl (fun hb764 => ?_) (fun hb764 => ?_)
      · skip
        replace h := br_t hb764 h
        refine c_seq ?_
        refine za0 ?_
        refine o_q rfl rfl (q_f F27_1 rfl) ?_
        refine o_q rfl rfl (q_ldb Y24 rfl (fun w h => h.zaa (i := 1) rfl) rfl) ?_
        refine o_q rfl rfl (q_len Try.underlying24 rfl) ?_
        refine o_q rfl rfl (q_gtr rfl rfl) ?_
        refine o_end ?_
        refine za1 ?_
        refine zar _ rfl (fun hb765 => ?_) (fun hb765 => ?_)
        · skip
          replace h := br_t hb765 h
          refine a_startS (ds := []) [none, some 1, none, some 3, some 4] MO rfl ?_
          refine za8 0 rfl rfl rfl (by kernel_rfl) (fun _ _ _ h => h) (q_f F27_1 rfl) ?_
          refine a_take 1 rfl rfl rfl (by kernel_rfl) (fun _ _ _ h => h) (fun w h => zab [none, some 1, none, some 3, some 4] (by decide) w h rfl) (q_ldb Y24 rfl (fun w h => h.zaa (i := 1) rfl) rfl) ?_
          refine za8 2 rfl rfl rfl (by kernel_rfl) (fun _ _ _ h => h) (za2 rfl) ?_
          refine za8 3 rfl rfl rfl (by kernel_rfl) (fun _ _ _ h => h) (q_f F27_1 rfl) ?_
          refine a_take 4 rfl rfl rfl (by kernel_rfl) (fun _ _ _ h => h) (fun w h => zab [none, some 1, none, some 3, some 4] (by decide) w h rfl) (q_ldb Y24 rfl (fun w h => h.zaa (i := 1) rfl) rfl) ?_
          refine za8 5 rfl rfl rfl (by kernel_rfl) (fun _ _ _ h => h) (q_len Try.underlying24 rfl) ?_
          refine za8 7 rfl rfl rfl (by kernel_rfl) (fun _ _ _ h => h) (za2 rfl) ?_
          refine za8 10 rfl rfl rfl (by kernel_rfl) (fun _ _ _ h => h) (za2 rfl) ?_
          refine bindE3 h (fun i767 i768 i769 hx766 h => ?_) rfl
          refine a_one 6 rfl rfl (by kernel_rfl) rfl (zac 1 Z Try.func85 N85 rfl rfl rfl (fun w P1 hF hB hS hT => spec_l1Cur_pick.calls g0 A0_0 c0_0 l0_0.length l0_0 i754 i755 (l5.length : Int) hB hF (hS _ R0_0) hc0_0 _ _ _ hx766)) (fun s w h => zab [none, some 1, none, some 3, some 4] (by decide) w h rfl) (fun _ => ?_)
          refine bindE3 h (fun i771 i772 i773 hx770 h => ?_) rfl
          refine a_one 8 rfl rfl (by kernel_rfl) rfl (zac 1 Z Try.func85 N85 rfl rfl rfl (fun w P1 hF hB hS hT => spec_l1Cur_pick.calls g0 A0_0 c0_0 l0_0.length l0_0 i768 i769 5 hB hF (hS _ R0_0) hc0_0 _ _ _ hx770)) (fun s w h => zab [none, some 1, none, some 3, some 4] (by decide) w h rfl) (fun _ => ?_)
          refine za8 9 rfl rfl rfl (by kernel_rfl) (fun _ _ _ h => h) (q_sub64 rfl rfl) ?_
          refine bindE3 h (fun i775 i776 i777 hx774 h => ?_) rfl
          refine a_one 11 rfl rfl (by kernel_rfl) rfl (zac 1 Z Try.func85 N85 rfl rfl rfl (fun w P1 hF hB hS hT => spec_l1Cur_pick.calls g0 A0_0 c0_0 l0_0.length l0_0 i772 i773 8 hB hF (hS _ R0_0) hc0_0 _ _ _ hx774)) (fun s w h => zab [none, some 1, none, some 3, some 4] (by decide) w h rfl) (fun _ => ?_)
          refine za8 12 rfl rfl rfl (by kernel_rfl) (fun _ _ _ h => h) (q_build (vs := [(0, .int .i64 (w64 (i771 - 1))), (1, .int .i64 i775)]) (cs := [.int .i64 (w64 (i771 - 1)), .int .i64 i775]) rfl rfl) ?_
          refine a_fact (p := Sh A9 l5.length l5.length) (fun w h => f_sh (dk := kStep) h (fun w h => h.zaw (i := 2) rfl)) (fun hq778 => ?_)
          refine za7 h (fun y780 hg779 h => ?_) rfl
          refine za8 13 rfl rfl rfl (by kernel_rfl) (fun _ _ _ h => h) (q_ix Try.underlying24 Z89 rfl rfl hq778 hg779) ?_
          refine za7 h (fun l781 hs782 h => ?_) rfl
          refine a_one 14 rfl rfl (by kernel_rfl) rfl (e_setF (i := 2) (off := 0) (vs := [.int .i64 (w64 (i771 - 1)), .int .i64 i775]) (q' := (⟨w64 (i771 - 1), i775⟩ : SStep)) rfl rfl rfl rfl rfl rfl Z89 hg779 rfl rfl hs782) (fun s w h => zab [none, some 1, none, some 3, some 4] (by decide) w h rfl) (fun _ => ?_)
          refine zb0 (by kernel_rfl) ?_
          refine zan ?_
          refine x_fact (p := l5.length = l781.length) (fun w h => (h.row_C (i := 2) rfl).2.1) (fun hn783 => ?_)
          refine zay (i4, l781, l6, i776, i777, A9, c10, A11, c12) h trivial (f_pickE (L1 := [box g0 81 #[.slice A0_0 l0_0.length c0_0, .int .i64 i776, .int .u64 i777], box g13 27 #[.int .i64 i4, .slice A9 l5.length c10, .slice A11 l6.length c12], row kStep 89 (.slice A9 l5.length c10) l781, row (Kd.int .i64) 3 (.slice A11 l6.length c12) l6, box g1 27 #[.int .i64 0, .slice none 0 0, .slice none 0 0]]) rfl [4, 1, 2, 3, 0] (by decide) rfl (by (try rw [hn783]); first | done | rfl)) ?_
          repeat (first | exact zad _ _ | refine zah rfl ?_ | refine zae rfl ?_ | refine zai rfl ?_)
        · skip
          replace h := br_f hb765 h
          refine zam ?_
          refine zan ?_
          refine zay (i4, l5, l6, i754, i755, A9, c10, A11, c12) h trivial (fun w h => za5 [4, 1, 2, 3, 0] (by decide) rfl w h) ?_
          repeat (first | exact zad _ _ | refine zah rfl ?_ | refine zae rfl ?_ | refine zai rfl ?_)
      · skip
        replace h := br_f hb764 h
        refine c_seq ?_
        refine za0 ?_
        refine o_q rfl rfl (q_eql rfl rfl) ?_
        refine o_q rfl rfl (q_asg rfl) ?_
        refine o_end ?_
        refine za1 ?_
        refine zar _ rfl (fun hb784 => ?_) (fun hb784 => ?_)
        · skip
          replace h := br_t hb784 h
          refine bindE3 h (fun i967 i968 i969 hx966 h => ?_) rfl
          refine za7 h (fun l1146 ha1147 h => ?_) rfl
          refine a_startS (ds := []) [none, none, some 2, none, some 4] MO rfl ?_
          refine za8 0 rfl rfl rfl (by kernel_rfl) (fun _ _ _ h => h) (q_f F27_2 rfl) ?_
          refine za8 2 rfl rfl rfl (by kernel_rfl) (fun _ _ _ h => h) (za2 rfl) ?_
          refine a_two 1 3 rfl rfl rfl rfl (by kernel_rfl) rfl rfl (ev_q rfl (q_ldb Y25 rfl (fun w h => h.zaa (i := 1) rfl) rfl)) (fun s w h => zab [none, none, some 2, none, some 4] (by decide) w h rfl) (zac 1 Z Try.func85 N85 rfl rfl rfl (fun w P1 hF hB hS hT => spec_l1Cur_pick.calls g0 A0_0 c0_0 l0_0.length l0_0 i754 i755 12 hB hF (hS _ R0_0) hc0_0 _ _ _ hx966)) (fun s w h => zab [none, none, some 2, none, some 4] (by decide) w h rfl) (fun _ => ?_) (fun _ => ?_)
          · skip
            refine a_one 3 rfl rfl (by kernel_rfl) rfl (zac 1 Z Try.func85 N85 rfl rfl rfl (fun w P1 hF hB hS hT => spec_l1Cur_pick.calls g0 A0_0 c0_0 l0_0.length l0_0 i754 i755 12 hB hF (hS _ R0_0) hc0_0 _ _ _ hx966)) (fun s w h => zab [none, none, some 2, none, some 4] (by decide) w h rfl) (fun _ => ?_)
            refine za8 4 rfl rfl rfl (by kernel_rfl) (fun _ _ _ h => h) (q_sub64 rfl rfl) ?_
            refine a_one 5 rfl rfl (by kernel_rfl) rfl (e_lit (vs := [(0, .int .i64 (w64 (i967 - 1)))]) (cs := [.int .i64 (w64 (i967 - 1))]) (Kd.int .i64) ([w64 (i967 - 1)] : List Int) Try.underlying25 I3 (by decide) rfl (by decide) rfl rfl (fun _ _ => Kd.zat _)) (fun s w h => zab [none, none, some 3, none, some 5] (by decide) w h rfl) (cur2 (fun A1086 c1087 => ?_))
            refine a_one 6 rfl rfl (by kernel_rfl) rfl (e_app (i := 4) (j := 0) Try.underlying25 I3 rfl (by decide) (by decide) rfl rfl rfl rfl rfl ha1147) (fun s w h => zab [none, none, some 3, none, some 5] (by decide) w h rfl) (cur2 (fun A1148 c1149 => ?_))
            refine za8 7 rfl rfl rfl (by kernel_rfl) (fun _ _ _ h => h) (q_f F27_2 rfl) ?_
            refine a_one 8 rfl rfl (by kernel_rfl) rfl (e_store (i := 2) rfl rfl rfl rfl Z25 rfl rfl) (fun s w h => zab [none, none, some 3, none, some 5] (by decide) w h rfl) (fun _ => ?_)
            refine zb0 (by kernel_rfl) ?_
            refine zan ?_
            refine zay (i4, l5, l1146, i968, i969, A9, c10, A1148, c1149) h trivial (fun w h => za5 [5, 2, 3, 4, 1] (by decide) rfl w h) ?_
            repeat (first | exact zad _ _ | refine zah rfl ?_ | refine zae rfl ?_ | refine zai rfl ?_)
          · skip
            refine za8 4 rfl rfl rfl (by kernel_rfl) (fun _ _ _ h => h) (q_sub64 rfl rfl) ?_
            refine a_two 1 5 rfl rfl rfl rfl (by kernel_rfl) rfl rfl (ev_q rfl (q_ldb Y25 rfl (fun w h => h.zaa (i := 1) rfl) rfl)) (fun s w h => zab [none, none, some 2, none, some 4] (by decide) w h rfl) (e_lit (vs := [(0, .int .i64 (w64 (i967 - 1)))]) (cs := [.int .i64 (w64 (i967 - 1))]) (Kd.int .i64) ([w64 (i967 - 1)] : List Int) Try.underlying25 I3 (by decide) rfl (by decide) rfl rfl (fun _ _ => Kd.zat _)) (fun s w h => zab [none, none, some 3, none, some 5] (by decide) w h rfl) (fun _ => ?_) (cur2 (fun A1086 c1087 => ?_))
            · skip
              refine a_one 5 rfl rfl (by kernel_rfl) rfl (e_lit (vs := [(0, .int .i64 (w64 (i967 - 1)))]) (cs := [.int .i64 (w64 (i967 - 1))]) (Kd.int .i64) ([w64 (i967 - 1)] : List Int) Try.underlying25 I3 (by decide) rfl (by decide) rfl rfl (fun _ _ => Kd.zat _)) (fun s w h => zab [none, none, some 3, none, some 5] (by decide) w h rfl) (cur2 (fun A1086 c1087 => ?_))
              refine a_one 6 rfl rfl (by kernel_rfl) rfl (e_app (i := 4) (j := 0) Try.underlying25 I3 rfl (by decide) (by decide) rfl rfl rfl rfl rfl ha1147) (fun s w h => zab [none, none, some 3, none, some 5] (by decide) w h rfl) (cur2 (fun A1148 c1149 => ?_))
              refine za8 7 rfl rfl rfl (by kernel_rfl) (fun _ _ _ h => h) (q_f F27_2 rfl) ?_
              refine a_one 8 rfl rfl (by kernel_rfl) rfl (e_store (i := 2) rfl rfl rfl rfl Z25 rfl rfl) (fun s w h => zab [none, none, some 3, none, some 5] (by decide) w h rfl) (fun _ => ?_)
              refine zb0 (by kernel_rfl) ?_
              refine zan ?_
              refine zay (i4, l5, l1146, i968, i969, A9, c10, A1148, c1149) h trivial (fun w h => za5 [5, 2, 3, 4, 1] (by decide) rfl w h) ?_
              repeat (first | exact zad _ _ | refine zah rfl ?_ | refine zae rfl ?_ | refine zai rfl ?_)
            · skip
              refine a_one 1 rfl rfl (by kernel_rfl) rfl (ev_q rfl (q_ldb Y25 rfl (fun w h => h.zaa (i := 2) rfl) rfl)) (fun s w h => zab [none, none, some 3, none, some 5] (by decide) w h rfl) (fun _ => ?_)
              refine a_one 6 rfl rfl (by kernel_rfl) rfl (e_app (i := 4) (j := 0) Try.underlying25 I3 rfl (by decide) (by decide) rfl rfl rfl rfl rfl ha1147) (fun s w h => zab [none, none, some 3, none, some 5] (by decide) w h rfl) (cur2 (fun A1148 c1149 => ?_))
              refine za8 7 rfl rfl rfl (by kernel_rfl) (fun _ _ _ h => h) (q_f F27_2 rfl) ?_
              refine a_one 8 rfl rfl (by kernel_rfl) rfl (e_store (i := 2) rfl rfl rfl rfl Z25 rfl rfl) (fun s w h => zab [none, none, some 3, none, some 5] (by decide) w h rfl) (fun _ => ?_)
              refine zb0 (by kernel_rfl) ?_
              refine zan ?_
              refine zay (i4, l5, l1146, i968, i969, A9, c10, A1148, c1149) h trivial (fun w h => za5 [5, 2, 3, 4, 1] (by decide) rfl w h) ?_
              repeat (first | exact zad _ _ | refine zah rfl ?_ | refine zae rfl ?_ | refine zai rfl ?_)
        · skip
          replace h := br_f hb784 h
          refine c_seq ?_
          refine za0 ?_
          refine o_q rfl rfl (q_eql rfl rfl) ?_
          refine o_q rfl rfl (q_asg rfl) ?_
          refine o_end ?_
          refine za1 ?_
          refine zar _ rfl (fun hb1386 => ?_) (fun hb1386 => ?_)
          · skip
            replace h := br_t hb1386 h
            refine c_seq ?_
            refine za0 ?_
            refine o_q rfl rfl (q_build (vs := [(0, .int .i64 1)]) (cs := [.int .i64 1, .slice none 0 0, .slice none 0 0]) rfl rfl) ?_
            refine o_e rfl (zaq (i := 1) rfl rfl rfl Z27 rfl rfl) (fun _ => ?_)
            refine o_end ?_
            refine za1 ?_
            refine c_seq ?_
            refine c_seq ?_
            refine za0 ?_
            refine o_q rfl rfl (za2 rfl) ?_
            refine bindE3 h (fun i1388 i1389 i1390 hx1387 h => ?_) rfl
            refine o_e rfl (zac 1 Z Try.func85 N85 rfl rfl rfl (fun w P1 hF hB hS hT => spec_l1Cur_pick.calls g0 A0_0 c0_0 l0_0.length l0_0 i754 i755 4 hB hF (hS _ R0_0) hc0_0 _ _ _ hx1387)) (fun _ => ?_)
            refine o_q rfl rfl (q_add64 rfl rfl) ?_
            refine o_q rfl rfl (q_asg rfl) ?_
            refine o_end ?_
            refine za1 ?_
            refine zaj ?_
            refine c_nil kStep 89 ?_
            refine za7 h (fun o1403 hl1402 hR1401 => ?_) rfl
            clear h
            refine zav (σ := (List SStep) × Int × (Option Addr) × Nat) (fun k1398 ((l1392, i1395, A1393, c1394) : (List SStep) × Int × (Option Addr) × Nat) => spec_l1Cur_anyPlan.l0 k1398 l1392 i1395 = some o1403) [8, 58, 59, 60, 61, 62, 63, 64, 65, 66, 67, 68, 69, 70, 71, 72, 73] (fun ((l1392, i1395, A1393, c1394) : (List SStep) × Int × (Option Addr) × Nat) => [(8, .int .i64 i1395)]) (fun ((l1392, i1395, A1393, c1394) : (List SStep) × Int × (Option Addr) × Nat) => [row kStep 89 (.slice A1393 l1392.length c1394) l1392, box g0 81 #[.slice A0_0 l0_0.length c0_0, .int .i64 i1389, .int .u64 i1390], box g13 27 #[.int .i64 1, .slice A1393 l1392.length c1394, .slice none 0 0], row kStep 89 (.slice A9 l5.length c10) l5, row (Kd.int .i64) 3 (.slice A11 l6.length c12) l6, box g1 27 #[.int .i64 0, .slice none 0 0, .slice none 0 0]]) k (([] : List SStep), w64 (18 + i1388), none, 0) hl1402 ⟨rfl, trivial⟩ (fun w h => h) ?_
            refine natC (cur4 (fun l1392 i1395 A1393 c1394 => fun U1404 hJ_ => ?_)) (fun k1398 => (cur4 (fun l1392 i1395 A1393 c1394 => fun U1404 hJ_ => ?_)))
            · skip
              replace hJ_ : spec_l1Cur_anyPlan.l0 0 l1392 i1395 = some o1403 := hJ_
              rw [spec_l1Cur_anyPlan.l0] at hJ_
              exact noneE hJ_
            · skip
              clear hl1402
              have h := hJ_; clear hJ_
              replace h : spec_l1Cur_anyPlan.l0 (k1398 + 1) l1392 i1395 = some o1403 := h
              rw [spec_l1Cur_anyPlan.l0] at h
              refine c_seq ?_
              refine c_seq ?_
              refine za0 ?_
              refine o_q rfl rfl (za2 rfl) ?_
              refine o_q rfl rfl (q_gtr rfl rfl) ?_
              refine o_end ?_
              refine za1 ?_
              refine zar _ rfl (fun hb1406 => ?_) (fun hb1406 => ?_)
              · skip
                replace h := br_t hb1406 h
                refine zam ?_
                refine za1 ?_
                refine c_seq ?_
                refine zaj ?_
                refine za0 ?_
                refine o_q rfl rfl (q_f F27_1 rfl) ?_
                refine o_q rfl rfl (q_ldb Y24 rfl (fun w h => h.zaa (i := 2) rfl) rfl) ?_
                refine o_q rfl rfl (q_f F27_1 rfl) ?_
                refine o_q rfl rfl (q_ldb Y24 rfl (fun w h => h.zaa (i := 2) rfl) rfl) ?_
                refine o_q rfl rfl (q_len Try.underlying24 rfl) ?_
                refine o_q rfl rfl (q_f F27_1 rfl) ?_
                refine o_q rfl rfl (q_ldb Y24 rfl (fun w h => h.zaa (i := 2) rfl) rfl) ?_
                refine o_q rfl rfl (q_len Try.underlying24 rfl) ?_
                refine o_q rfl rfl (q_build (vs := [(0, .int .i64 (l1392.length : Int)), (1, .int .i64 (l1392.length : Int))]) (cs := [.int .i64 (l1392.length : Int), .int .i64 (l1392.length : Int)]) rfl rfl) ?_
                refine o_e rfl (e_lit (vs := [(0, .agg #[.int .i64 (l1392.length : Int), .int .i64 (l1392.length : Int)])]) (cs := [.int .i64 (l1392.length : Int), .int .i64 (l1392.length : Int)]) kStep ([(⟨(l1392.length : Int), (l1392.length : Int)⟩ : SStep)] : List SStep) Try.underlying24 I89 (by decide) rfl (by decide) rfl rfl (fun _ _ => reps_flat _)) (cur2 (fun A1407 c1408 => ?_))
                refine za7 h (fun l1410 ha1411 h => ?_) rfl
                refine o_e rfl (e_app (i := 1) (j := 0) Try.underlying24 I89 rfl (by decide) (by decide) rfl rfl rfl rfl rfl ha1411) (cur2 (fun A1412 c1413 => ?_))
                refine o_q rfl rfl (q_f F27_1 rfl) ?_
                refine o_e rfl (e_store (i := 3) rfl rfl rfl rfl Z24 rfl rfl) (fun _ => ?_)
                refine o_end ?_
                refine zan ?_
                refine za1 ?_
                refine za0 ?_
                refine o_q rfl rfl (za2 rfl) ?_
                refine o_q rfl rfl (q_sub64 rfl rfl) ?_
                refine o_q rfl rfl (q_asg rfl) ?_
                refine o_end ?_
                refine zak k1398 (l1410, w64 (i1395 - 1), A1412, c1413) (Nat.lt_succ_self _) h ⟨rfl, trivial⟩ (fun w h => za5 [1, 2, 3, 4, 5, 6] (by decide) rfl w h) ?_
                repeat (first | exact zad _ _ | refine zah rfl ?_ | refine zae rfl ?_ | refine zai rfl ?_)
              · skip
                replace h := br_f hb1406 h
                refine c_exit ?_
                refine za6 ?_
                refine za6 ?_
                have e_ := Option.some.inj h; replace h := hR1401; rw [← e_] at h; clear e_
                refine x_hit ?_
                refine za1 ?_
                refine za0 ?_
                refine o_q rfl rfl (q_f F27_1 rfl) ?_
                refine o_q rfl rfl (q_ldb Y24 rfl (fun w h => h.zaa (i := 2) rfl) rfl) ?_
                refine o_q rfl rfl (q_len Try.underlying24 rfl) ?_
                refine o_e rfl (e_lit (vs := [(0, .int .i64 (l1392.length : Int))]) (cs := [.int .i64 (l1392.length : Int)]) (Kd.int .i64) ([(l1392.length : Int)] : List Int) Try.underlying25 I3 (by decide) rfl (by decide) rfl rfl (fun _ _ => Kd.zat _)) (cur2 (fun A1414 c1415 => ?_))
                refine o_q rfl rfl (q_f F27_2 rfl) ?_
                refine o_e rfl (e_store (i := 3) rfl rfl rfl rfl Z25 rfl rfl) (fun _ => ?_)
                refine o_end ?_
                refine zan ?_
                refine zay (1, l1392, ([(l1392.length : Int)] : List Int), i1389, i1390, A1393, c1394, A1414, c1415) h trivial (fun w h => za5 [6, 3, 1, 0, 2] (by decide) rfl w h) ?_
                repeat (first | exact zad _ _ | refine zah rfl ?_ | refine zae rfl ?_ | refine zai rfl ?_)
          · skip
            replace h := br_f hb1386 h
            refine c_seq ?_
            refine za0 ?_
            refine o_q rfl rfl (q_eql rfl rfl) ?_
            refine o_q rfl rfl (q_asg rfl) ?_
            refine o_end ?_
            refine za1 ?_
            refine zar _ rfl (fun hb1417 => ?_) (fun hb1417 => ?_)
            · skip
              replace h := br_t hb1417 h
              refine zaj ?_
              have hl1429 := h; clear h
              refine zav (σ := (List Int) × Int × Int × (Option Addr) × Nat) (fun k1425 ((l1418, i1421, i1422, A1419, c1420) : (List Int) × Int × Int × (Option Addr) × Nat) => spec_l1Cur_anyPlan.l1 l0_0 i4 l5 k1425 l1418 i1421 i1422 = some o747) [81, 82, 83, 84, 85, 86, 87, 88, 89, 90, 91, 92] (fun ((l1418, i1421, i1422, A1419, c1420) : (List Int) × Int × Int × (Option Addr) × Nat) => []) (fun ((l1418, i1421, i1422, A1419, c1420) : (List Int) × Int × Int × (Option Addr) × Nat) => [box g0 81 #[.slice A0_0 l0_0.length c0_0, .int .i64 i1421, .int .u64 i1422], box g13 27 #[.int .i64 i4, .slice A9 l5.length c10, .slice A1419 l1418.length c1420], row kStep 89 (.slice A9 l5.length c10) l5, row (Kd.int .i64) 3 (.slice A1419 l1418.length c1420) l1418, box g1 27 #[.int .i64 0, .slice none 0 0, .slice none 0 0]]) k (l6, i754, i755, A11, c12) hl1429 trivial (fun w h => h) ?_
              refine natC (cur5 (fun l1418 i1421 i1422 A1419 c1420 => fun U1431 hJ_ => ?_)) (fun k1425 => (cur5 (fun l1418 i1421 i1422 A1419 c1420 => fun U1431 hJ_ => ?_)))
              · skip
                replace hJ_ : spec_l1Cur_anyPlan.l1 l0_0 i4 l5 0 l1418 i1421 i1422 = some o747 := hJ_
                rw [spec_l1Cur_anyPlan.l1] at hJ_
                exact noneE hJ_
              · skip
                clear hl1429
                have h := hJ_; clear hJ_
                replace h : spec_l1Cur_anyPlan.l1 l0_0 i4 l5 (k1425 + 1) l1418 i1421 i1422 = some o747 := h
                rw [spec_l1Cur_anyPlan.l1] at h
                refine c_seq ?_
                refine c_seq ?_
                refine a_startS (ds := []) [none, some 1, some 2, some 3, some 4] MO rfl ?_
                refine za8 0 rfl rfl rfl (by kernel_rfl) (fun _ _ _ h => h) (q_f F27_2 rfl) ?_
                refine a_take 1 rfl rfl rfl (by kernel_rfl) (fun _ _ _ h => h) (fun w h => zab [none, some 1, some 2, some 3, some 4] (by decide) w h rfl) (q_ldb Y25 rfl (fun w h => h.zaa (i := 1) rfl) rfl) ?_
                refine za8 2 rfl rfl rfl (by kernel_rfl) (fun _ _ _ h => h) (q_len Try.underlying25 rfl) ?_
                refine za8 3 rfl rfl rfl (by kernel_rfl) (fun _ _ _ h => h) (za2 rfl) ?_
                refine bindE3 h (fun i1434 i1435 i1436 hx1433 h => ?_) rfl
                refine a_one 4 rfl rfl (by kernel_rfl) rfl (zac 1 Z Try.func85 N85 rfl rfl rfl (fun w P1 hF hB hS hT => spec_l1Cur_pick.calls g0 A0_0 c0_0 l0_0.length l0_0 i1421 i1422 2 hB hF (hS _ R0_0) hc0_0 _ _ _ hx1433)) (fun s w h => zab [none, some 1, some 2, some 3, some 4] (by decide) w h rfl) (fun _ => ?_)
                refine za8 5 rfl rfl rfl (by kernel_rfl) (fun _ _ _ h => h) (q_add64 rfl rfl) ?_
                refine za8 6 rfl rfl rfl (by kernel_rfl) (fun _ _ _ h => h) (q_lss rfl rfl) ?_
                refine zb0 (by kernel_rfl) ?_
                refine za1 ?_
                refine zar _ rfl (fun hb1437 => ?_) (fun hb1437 => ?_)
                · skip
                  replace h := br_t hb1437 h
                  refine zam ?_
                  refine za1 ?_
                  refine zaj ?_
                  refine za0 ?_
                  refine o_q rfl rfl (q_f F27_2 rfl) ?_
                  refine o_q rfl rfl (q_ldb Y25 rfl (fun w h => h.zaa (i := 1) rfl) rfl) ?_
                  refine o_e rfl (e_lit (vs := [(0, .int .i64 0)]) (cs := [.int .i64 0]) (Kd.int .i64) ([0] : List Int) Try.underlying25 I3 (by decide) rfl (by decide) rfl rfl (fun _ _ => Kd.zat _)) (cur2 (fun A1438 c1439 => ?_))
                  refine za7 h (fun l1441 ha1442 h => ?_) rfl
                  refine o_e rfl (e_app (i := 4) (j := 0) Try.underlying25 I3 rfl (by decide) (by decide) rfl rfl rfl rfl rfl ha1442) (cur2 (fun A1443 c1444 => ?_))
                  refine o_q rfl rfl (q_f F27_2 rfl) ?_
                  refine o_e rfl (e_store (i := 2) rfl rfl rfl rfl Z25 rfl rfl) (fun _ => ?_)
                  refine o_end ?_
                  refine zan ?_
                  refine zak k1425 (l1441, i1435, i1436, A1443, c1444) (Nat.lt_succ_self _) h trivial (fun w h => za5 [1, 2, 3, 4, 5] (by decide) rfl w h) ?_
                  repeat (first | exact zad _ _ | refine zah rfl ?_ | refine zae rfl ?_ | refine zai rfl ?_)
                · skip
                  replace h := br_f hb1437 h
                  refine c_exit ?_
                  refine za6 ?_
                  refine za6 ?_
                  refine x_hit ?_
                  refine zan ?_
                  refine zay (i4, l5, l1418, i1435, i1436, A9, c10, A1419, c1420) h trivial (fun w h => za5 [4, 1, 2, 3, 0] (by decide) rfl w h) ?_
                  repeat (first | exact zad _ _ | refine zah rfl ?_ | refine zae rfl ?_ | refine zai rfl ?_)
            · skip
              replace h := br_f hb1417 h
              refine c_seq ?_
              refine za0 ?_
              refine o_q rfl rfl (q_eql rfl rfl) ?_
              refine o_q rfl rfl (q_asg rfl) ?_
              refine o_end ?_
              refine za1 ?_
              refine zar _ rfl (fun hb1445 => ?_) (fun hb1445 => ?_)
              · skip
                replace h := br_t hb1445 h
                refine c_seq ?_
                refine za0 ?_
                refine o_q rfl rfl (q_build (vs := [(0, .int .i64 2)]) (cs := [.int .i64 2, .slice none 0 0, .slice none 0 0]) rfl rfl) ?_
                refine o_e rfl (zaq (i := 1) rfl rfl rfl Z27 rfl rfl) (fun _ => ?_)
                refine o_end ?_
                refine za1 ?_
                refine c_seq ?_
                refine c_seq ?_
                refine za0 ?_
                refine o_q rfl rfl (za2 rfl) ?_
                refine bindE3 h (fun i1447 i1448 i1449 hx1446 h => ?_) rfl
                refine o_e rfl (zac 1 Z Try.func85 N85 rfl rfl rfl (fun w P1 hF hB hS hT => spec_l1Cur_pick.calls g0 A0_0 c0_0 l0_0.length l0_0 i754 i755 2 hB hF (hS _ R0_0) hc0_0 _ _ _ hx1446)) (fun _ => ?_)
                refine o_q rfl rfl (q_add64 rfl rfl) ?_
                refine o_q rfl rfl (q_asg rfl) ?_
                refine o_end ?_
                refine za1 ?_
                refine zaj ?_
                refine c_nil kStep 89 ?_
                refine za7 h (fun o1462 hl1461 hR1460 => ?_) rfl
                clear h
                refine zav (σ := (List SStep) × Int × (Option Addr) × Nat) (fun k1457 ((l1451, i1454, A1452, c1453) : (List SStep) × Int × (Option Addr) × Nat) => spec_l1Cur_anyPlan.l2 k1457 l1451 i1454 = some o1462) [9, 99, 100, 101, 102, 103, 104, 105, 106, 107, 108, 109, 110, 111, 112] (fun ((l1451, i1454, A1452, c1453) : (List SStep) × Int × (Option Addr) × Nat) => [(9, .int .i64 i1454)]) (fun ((l1451, i1454, A1452, c1453) : (List SStep) × Int × (Option Addr) × Nat) => [row kStep 89 (.slice A1452 l1451.length c1453) l1451, box g0 81 #[.slice A0_0 l0_0.length c0_0, .int .i64 i1448, .int .u64 i1449], box g13 27 #[.int .i64 2, .slice A1452 l1451.length c1453, .slice none 0 0], row kStep 89 (.slice A9 l5.length c10) l5, row (Kd.int .i64) 3 (.slice A11 l6.length c12) l6, box g1 27 #[.int .i64 0, .slice none 0 0, .slice none 0 0]]) k (([] : List SStep), w64 (40 + i1447), none, 0) hl1461 ⟨rfl, trivial⟩ (fun w h => h) ?_
                refine natC (cur4 (fun l1451 i1454 A1452 c1453 => fun U1463 hJ_ => ?_)) (fun k1457 => (cur4 (fun l1451 i1454 A1452 c1453 => fun U1463 hJ_ => ?_)))
                · skip
                  replace hJ_ : spec_l1Cur_anyPlan.l2 0 l1451 i1454 = some o1462 := hJ_
                  rw [spec_l1Cur_anyPlan.l2] at hJ_
                  exact noneE hJ_
                · skip
                  clear hl1461
                  have h := hJ_; clear hJ_
                  replace h : spec_l1Cur_anyPlan.l2 (k1457 + 1) l1451 i1454 = some o1462 := h
                  rw [spec_l1Cur_anyPlan.l2] at h
                  refine c_seq ?_
                  refine c_seq ?_
                  refine za0 ?_
                  refine o_q rfl rfl (za2 rfl) ?_
                  refine o_q rfl rfl (q_gtr rfl rfl) ?_
                  refine o_end ?_
                  refine za1 ?_
                  refine zar _ rfl (fun hb1465 => ?_) (fun hb1465 => ?_)
                  · skip
                    replace h := br_t hb1465 h
                    refine zam ?_
                    refine za1 ?_
                    refine c_seq ?_
                    refine zaj ?_
                    refine za0 ?_
                    refine o_q rfl rfl (q_f F27_1 rfl) ?_
                    refine o_q rfl rfl (q_ldb Y24 rfl (fun w h => h.zaa (i := 2) rfl) rfl) ?_
                    refine o_q rfl rfl (q_f F27_1 rfl) ?_
                    refine o_q rfl rfl (q_ldb Y24 rfl (fun w h => h.zaa (i := 2) rfl) rfl) ?_
                    refine o_q rfl rfl (q_len Try.underlying24 rfl) ?_
                    refine o_q rfl rfl (q_add64 rfl rfl) ?_
                    refine o_q rfl rfl (q_build (vs := [(0, .int .i64 0), (1, .int .i64 (w64 (1 + (l1451.length : Int))))]) (cs := [.int .i64 0, .int .i64 (w64 (1 + (l1451.length : Int)))]) rfl rfl) ?_
                    refine o_e rfl (e_lit (vs := [(0, .agg #[.int .i64 0, .int .i64 (w64 (1 + (l1451.length : Int)))])]) (cs := [.int .i64 0, .int .i64 (w64 (1 + (l1451.length : Int)))]) kStep ([(⟨0, w64 (1 + (l1451.length : Int))⟩ : SStep)] : List SStep) Try.underlying24 I89 (by decide) rfl (by decide) rfl rfl (fun _ _ => reps_flat _)) (cur2 (fun A1466 c1467 => ?_))
                    refine za7 h (fun l1469 ha1470 h => ?_) rfl
                    refine o_e rfl (e_app (i := 1) (j := 0) Try.underlying24 I89 rfl (by decide) (by decide) rfl rfl rfl rfl rfl ha1470) (cur2 (fun A1471 c1472 => ?_))
                    refine o_q rfl rfl (q_f F27_1 rfl) ?_
                    refine o_e rfl (e_store (i := 3) rfl rfl rfl rfl Z24 rfl rfl) (fun _ => ?_)
                    refine o_end ?_
                    refine zan ?_
                    refine za1 ?_
                    refine za0 ?_
                    refine o_q rfl rfl (za2 rfl) ?_
                    refine o_q rfl rfl (q_sub64 rfl rfl) ?_
                    refine o_q rfl rfl (q_asg rfl) ?_
                    refine o_end ?_
                    refine zak k1457 (l1469, w64 (i1454 - 1), A1471, c1472) (Nat.lt_succ_self _) h ⟨rfl, trivial⟩ (fun w h => za5 [1, 2, 3, 4, 5, 6] (by decide) rfl w h) ?_
                    repeat (first | exact zad _ _ | refine zah rfl ?_ | refine zae rfl ?_ | refine zai rfl ?_)
                  · skip
                    replace h := br_f hb1465 h
                    refine c_exit ?_
                    refine za6 ?_
                    refine za6 ?_
                    have e_ := Option.some.inj h; replace h := hR1460; rw [← e_] at h; clear e_
                    refine x_hit ?_
                    refine za1 ?_
                    refine za0 ?_
                    refine o_e rfl (e_lit (vs := [(0, .int .i64 5)]) (cs := [.int .i64 5]) (Kd.int .i64) ([5] : List Int) Try.underlying25 I3 (by decide) rfl (by decide) rfl rfl (fun _ _ => Kd.zat _)) (cur2 (fun A1473 c1474 => ?_))
                    refine o_q rfl rfl (q_f F27_2 rfl) ?_
                    refine o_e rfl (e_store (i := 3) rfl rfl rfl rfl Z25 rfl rfl) (fun _ => ?_)
                    refine o_end ?_
                    refine zan ?_
                    refine zay (2, l1451, ([5] : List Int), i1448, i1449, A1452, c1453, A1473, c1474) h trivial (fun w h => za5 [6, 3, 1, 0, 2] (by decide) rfl w h) ?_
                    repeat (first | exact zad _ _ | refine zah rfl ?_ | refine zae rfl ?_ | refine zai rfl ?_)
              · skip
                replace h := br_f hb1445 h
                refine zam ?_
                refine zan ?_
                refine zay (i4, l5, l6, i754, i755, A9, c10, A11, c12) h trivial (fun w h => za5 [4, 1, 2, 3, 0] (by decide) rfl w h) ?_
                repeat (first | exact zad _ _ | refine zah rfl ?_ | refine zae rfl ?_ | refine zai rfl ?_)
  · skip
    refine (cur9 (fun i738 l739 l742 i745 i746 A740 c741 A743 c744 => fun U750 hJ751 => ?_))
    have e_ := Option.some.inj hJ751; have h := hR749; rw [← e_] at h; clear e_ hJ751 hR749 hl748
    refine c_seq ?_
    refine za0 ?_
    refine o_q rfl rfl (q_ldB G27 Z27 rfl (fun w h => h.zaa (i := 1) rfl) rfl) ?_
    refine o_e rfl (zaq (i := 0) rfl rfl rfl Z27 rfl rfl) (fun _ => ?_)
    refine o_end ?_
    refine za1 ?_
    refine c_ret ?_
    have e0_ := Option.some.inj h; clear h
    have d0_ := (Prod.mk.inj e0_).1; have e1_ := (Prod.mk.inj e0_).2; clear e0_; subst d0_
    have d1_ := (Prod.mk.inj e1_).1; have e2_ := (Prod.mk.inj e1_).2; clear e1_; subst d1_
    have d2_ := (Prod.mk.inj e2_).1; have e3_ := (Prod.mk.inj e2_).2; clear e2_; subst d2_
    have d3_ := (Prod.mk.inj e3_).1; have e4_ := (Prod.mk.inj e3_).2; clear e3_; subst d3_
    subst e4_
    exact x_r1 (A740, c741, A743, c744) Try.results84 (rv_cell rfl G27 Z27 (fun w h => h.zaa (i := 0) rfl) rfl) rfl (fun w h => za5 [2, 3, 4] (by decide) rfl w h)

/-! ### loop.example/g01098/spec.l1In: function 94 -/
def spec_l1In.f (a0 : Int) (a1 : Int) (a2 : Int) : Option Bool := if a1 ≤ a0 then (some (decide (a0 ≤ a2))) else (some false)
set_option maxHeartbeats 600000 in
set_option maxRecDepth 100000 in
theorem spec_l1In.calls {w0 ws : World} {P0 : Nat → Prop} (a0 : Int) (a1 : Int) (a2 : Int) (Z : Below w0.heap.size w0 ws) (hF : Fr w0 ws P0 [] ws)  (r_1 : Bool) (h : spec_l1In.f a0 a1 a2 = some r_1) :
    Calls Try.prog 94 #[.int .i64 a0, .int .i64 a1, .int .i64 a2] ws (Post1 w0 ws P0 (fun (_ : Unit) => .bool r_1) (fun (_ : Unit) => [])) := by
  unfold spec_l1In.f at h
  refine enter Try.func94 rfl Try.ntmps94 rfl hF ?_
  refine c_seq ?_
  refine za0 ?_
  refine o_q rfl rfl (q_asg rfl) ?_
  refine o_end ?_
  refine za1 ?_
  refine c_seq ?_
  refine za0 ?_
  refine o_q rfl rfl (za2 rfl) ?_
  refine o_q rfl rfl (za2 rfl) ?_
  refine o_q rfl rfl (q_geq rfl rfl) ?_
  refine o_q rfl rfl (za2 rfl) ?_
  refine byB (decide (a1 ≤ a0)) (fun hb1 => ?_) (fun hb1 => ?_)
  · replace h := br_t hb1 h
    refine o_w (za4 rfl rfl rfl (congrArg Value.bool hb1)) rfl (za2 rfl) ?_
    refine o_w (za4 rfl rfl rfl (congrArg Value.bool hb1)) rfl (za2 rfl) ?_
    refine o_w (za4 rfl rfl rfl (congrArg Value.bool hb1)) rfl (q_leq rfl rfl) ?_
    refine o_q rfl rfl (zal true (congrArg Value.bool hb1) rfl) ?_
    refine o_q rfl rfl (q_asg rfl) ?_
    refine o_end ?_
    refine za1 ?_
    refine c_ret ?_
    have e0_ := Option.some.inj h; clear h
    subst e0_
    exact x_r1 () Try.results94 (zaf rfl) rfl (fun w h => za5 [] (by decide) rfl w h)
  · replace h := br_f hb1 h
    refine @o_n _ _ _ _ _ _ _ _ _ _ _ 11 (za3 rfl rfl rfl (congrArg Value.bool hb1) rfl) (Eq.refl (some 11)) ?_
    refine @o_n _ _ _ _ _ _ _ _ _ _ _ 12 (za3 rfl rfl rfl (congrArg Value.bool hb1) rfl) (Eq.refl (some 12)) ?_
    refine @o_n _ _ _ _ _ _ _ _ _ _ _ 13 (za3 rfl rfl rfl (congrArg Value.bool hb1) rfl) (Eq.refl (some 13)) ?_
    refine o_q rfl rfl (zal false (congrArg Value.bool hb1) rfl) ?_
    refine o_q rfl rfl (q_asg rfl) ?_
    refine o_end ?_
    refine za1 ?_
    refine c_ret ?_
    have e0_ := Option.some.inj h; clear h
    subst e0_
    exact x_r1 () Try.results94 (zaf rfl) rfl (fun w h => za5 [] (by decide) rfl w h)

/-! ### loop.example/g01098/spec.plSum: function 221 -/
def spec_plSum.l0 (l1 : List Int) : (List Int) → (List Int) → Int → Option (List Int)
  | [], l3, i6 => some l3
  | y7 :: ys8, l3, i6 => (gt l1 i6).bind fun y20 => (spec_l1Least.f (w64 (y7 + y20)) 1000001).bind fun i22 => (ap l3 ([i22] : List Int)).bind fun l26 => spec_plSum.l0 l1 ys8 l26 (i6 + 1)
def spec_plSum.f (l0 : List Int) (l1 : List Int) : Option (List Int) := (spec_plSum.l0 l1 l0 ([] : List Int) 0).bind fun l3 => some l3
set_option maxHeartbeats 600000 in
set_option maxRecDepth 100000 in
theorem spec_plSum.calls {w0 ws : World} {P0 : Nat → Prop} (A0 : Option Addr) (c0 : Nat) (n0 : Nat) (l0 : List Int) (A1 : Option Addr) (c1 : Nat) (n1 : Nat) (l1 : List Int) (Z : Below w0.heap.size w0 ws) (hF : Fr w0 ws P0 [] ws) (R0 : Stable ws P0 (fun w => Kd.C (Kd.int .i64) w A0 n0 l0)) (hc0 : n0 ≤ c0) (R1 : Stable ws P0 (fun w => Kd.C (Kd.int .i64) w A1 n1 l1)) (hc1 : n1 ≤ c1) (r_1 : List Int) (h : spec_plSum.f l0 l1 = some r_1) :
    Calls Try.prog 221 #[.slice A0 n0 c0, .slice A1 n1 c1] ws (Post1 w0 ws P0 (fun ((q_2, q_3) : (Option Addr) × Nat) => .slice q_2 r_1.length q_3) (fun ((q_2, q_3) : (Option Addr) × Nat) => [row (Kd.int .i64) 3 (.slice q_2 r_1.length q_3) r_1])) := by
  unfold spec_plSum.f at h
  obtain rfl := (R0 ws (KeptB.refl _ _)).1
  obtain rfl := (R1 ws (KeptB.refl _ _)).1
  refine enter Try.func221 rfl Try.ntmps221 rfl hF ?_
  refine c_seq ?_
  refine za0 ?_
  refine o_q rfl rfl (q_asg rfl) ?_
  refine o_end ?_
  refine za1 ?_
  refine c_seq ?_
  refine za0 ?_
  refine o_q rfl rfl (q_asg rfl) ?_
  refine o_end ?_
  refine za1 ?_
  refine c_seq ?_
  refine c_seq ?_
  refine za0 ?_
  refine o_q rfl rfl (za2 rfl) ?_
  refine o_q rfl rfl (q_len Try.underlying25 rfl) ?_
  refine o_q rfl rfl (za2 rfl) ?_
  refine o_end ?_
  refine za1 ?_
  refine zaj ?_
  refine c_nil (Kd.int .i64) 3 ?_
  refine za7 h (fun o14 hl13 hR12 => ?_) rfl
  clear h
  refine c_fact (p := l0.length ≤ 9223372036854775807) (fun w h => (R0.now Z h).2.1) (fun hm11 => ?_)
  refine zav (σ := (List Int) × (List Int) × Int × (Option Addr) × Nat) (fun k9 ((ys8, l3, i6, A4, c5) : (List Int) × (List Int) × Int × (Option Addr) × Nat) => Rg l0 i6 ys8 ∧ ys8.length = k9 ∧ spec_plSum.l0 l1 ys8 l3 i6 = some o14) [5, 6, 9, 10, 11, 12, 13, 14, 15, 16, 17, 18, 19, 20, 21, 22, 23, 24, 25] (fun ((ys8, l3, i6, A4, c5) : (List Int) × (List Int) × Int × (Option Addr) × Nat) => [(5, .slice A4 l3.length c5), (9, .int .i64 i6)]) (fun ((ys8, l3, i6, A4, c5) : (List Int) × (List Int) × Int × (Option Addr) × Nat) => [row (Kd.int .i64) 3 (.slice A4 l3.length c5) l3]) l0.length (l0, ([] : List Int), 0, none, 0) ⟨Rg.start _, rfl, hl13⟩ ⟨rfl, rfl, trivial⟩ (fun w h => h) ?_
  refine fun k9 => cur5 (listC (fun l3 i6 A4 c5 U15 hJ_ => ?_) (fun y7 ys8 l3 i6 A4 c5 U15 hJ_ => ?_))
  · skip
    clear hl13
    have hr10 := hJ_.1; have hk16 := hJ_.2.1; have h := hJ_.2.2; clear hJ_
    replace h : spec_plSum.l0 l1 [] l3 i6 = some o14 := h
    rw [spec_plSum.l0] at h
    refine c_seq ?_
    refine za0 ?_
    refine o_q rfl rfl (q_lss rfl rfl) ?_
    refine o_end ?_
    refine za1 ?_
    refine c_seq ?_
    refine zb2 (congrArg Value.bool hr10.ge) ?_
    refine c_exit ?_
    refine za6 ?_
    refine za6 ?_
    have e_ := Option.some.inj h; replace h := hR12; rw [← e_] at h; clear e_
    refine x_hit ?_
    refine za1 ?_
    refine c_seq ?_
    refine za0 ?_
    refine o_q rfl rfl (za2 rfl) ?_
    refine o_q rfl rfl (q_asg rfl) ?_
    refine o_end ?_
    refine za1 ?_
    refine c_ret ?_
    have e0_ := Option.some.inj h; clear h
    subst e0_
    exact x_r1 (A4, c5) Try.results221 (zaf rfl) rfl (fun w h => za5 [0] (by decide) rfl w h)
  · skip
    clear hl13
    have hr10 := hJ_.1; have hk16 := hJ_.2.1; have h := hJ_.2.2; clear hJ_
    replace h : spec_plSum.l0 l1 (y7 :: ys8) l3 i6 = some o14 := h
    rw [spec_plSum.l0] at h
    refine c_seq ?_
    refine za0 ?_
    refine o_q rfl rfl (q_lss rfl rfl) ?_
    refine o_end ?_
    refine za1 ?_
    refine c_seq ?_
    refine zb3 (congrArg Value.bool hr10.lt) ?_
    refine zam ?_
    refine za1 ?_
    refine c_seq ?_
    refine zaj ?_
    refine c_seq ?_
    refine za0 ?_
    refine o_q rfl rfl (za2 rfl) ?_
    refine o_q rfl rfl (q_asg rfl) ?_
    refine o_end ?_
    refine za1 ?_
    refine a_startS (ds := []) [none] MO rfl ?_
    refine za8 0 rfl rfl rfl (by kernel_rfl) (fun _ _ _ h => h) (za2 rfl) ?_
    refine za8 1 rfl rfl rfl (by kernel_rfl) (fun _ _ _ h => h) (za2 rfl) ?_
    refine za8 2 rfl rfl rfl (by kernel_rfl) (fun _ _ _ h => h) (za2 rfl) ?_
    refine a_fact (p := Sh A0 l0.length l0.length) (fun w h => f_sh (dk := (Kd.int .i64)) h (fun w h => R0.now Z h)) (fun hq17 => ?_)
    refine za8 3 rfl rfl rfl (by kernel_rfl) (fun _ _ _ h => h) (q_ix Try.underlying25 Z3 rfl rfl hq17 hr10.get) ?_
    refine a_take 4 rfl rfl rfl (by kernel_rfl) (fun _ _ _ h => h) (fun w h => zab [none] (by decide) w h rfl) (q_lde (off := 0) Y3 rfl rfl (fun w h => R0.now Z h) hr10.get (fun _ _ h => h) rfl) ?_
    refine za8 5 rfl rfl rfl (by kernel_rfl) (fun _ _ _ h => h) (za2 rfl) ?_
    refine za8 6 rfl rfl rfl (by kernel_rfl) (fun _ _ _ h => h) (za2 rfl) ?_
    refine a_fact (p := Sh A1 l1.length l1.length) (fun w h => f_sh (dk := (Kd.int .i64)) h (fun w h => R1.now Z h)) (fun hq18 => ?_)
    refine za7 h (fun y20 hg19 h => ?_) rfl
    refine za8 7 rfl rfl rfl (by kernel_rfl) (fun _ _ _ h => h) (q_ix Try.underlying25 Z3 rfl rfl hq18 hg19) ?_
    refine a_take 8 rfl rfl rfl (by kernel_rfl) (fun _ _ _ h => h) (fun w h => zab [none] (by decide) w h rfl) (q_lde (off := 0) Y3 rfl rfl (fun w h => R1.now Z h) hg19 (fun _ _ h => h) rfl) ?_
    refine za8 9 rfl rfl rfl (by kernel_rfl) (fun _ _ _ h => h) (q_add64 rfl rfl) ?_
    refine za7 h (fun i22 hx21 h => ?_) rfl
    refine a_one 10 rfl rfl (by kernel_rfl) rfl (zac 0 Z Try.func124 N124 rfl rfl rfl (fun w P1 hF hB hS hT => spec_l1Least.calls (w64 (y7 + y20)) 1000001 hB hF _ hx21)) (fun s w h => zab [none] (by decide) w h rfl) (fun _ => ?_)
    refine a_one 11 rfl rfl (by kernel_rfl) rfl (e_lit (vs := [(0, .int .i64 i22)]) (cs := [.int .i64 i22]) (Kd.int .i64) ([i22] : List Int) Try.underlying25 I3 (by decide) rfl (by decide) rfl rfl (fun _ _ => Kd.zat _)) (fun s w h => zab [none] (by decide) w h rfl) (cur2 (fun A23 c24 => ?_))
    refine za7 h (fun l26 ha27 h => ?_) rfl
    refine a_one 12 rfl rfl (by kernel_rfl) rfl (e_app (i := 1) (j := 0) Try.underlying25 I3 rfl (by decide) (by decide) rfl rfl rfl rfl rfl ha27) (fun s w h => zab [none] (by decide) w h rfl) (cur2 (fun A28 c29 => ?_))
    refine za8 13 rfl rfl rfl (by kernel_rfl) (fun _ _ _ h => h) (q_asg rfl) ?_
    refine zb0 (by kernel_rfl) ?_
    refine zan ?_
    refine za1 ?_
    refine za0 ?_
    refine o_q rfl rfl (q_up rfl rfl (hr10.up hm11)) ?_
    refine o_q rfl rfl (za2 rfl) ?_
    refine o_end ?_
    refine zak ys8.length (ys8, l26, i6 + 1, A28, c29) (by rw [← hk16]; exact Nat.lt_succ_self _) ⟨hr10.step, rfl, h⟩ ⟨rfl, rfl, trivial⟩ (fun w h => za5 [1] (by decide) rfl w h) ?_
    repeat (first | exact zad _ _ | refine zah rfl ?_ | refine zae rfl ?_ | refine zai rfl ?_)

/-! ### loop.example/g01098/spec.plExponents: function 183 -/
def spec_plExponents.l1 : (List SStep) → (List (List Int)) → Int → Option (List (List Int))
  | [], l39, i43 => some l39
  | y44 :: ys45, l39, i43 => (gt l39 y44.f0).bind fun y300 => (gt l39 y44.f1).bind fun y599 => (spec_plSum.f y300 y599).bind fun l719 => (ap l39 ([l719] : List (List Int))).bind fun l838 => spec_plExponents.l1 ys45 l838 (i43 + 1)
def spec_plExponents.l0 (a0_0 : Int) : Nat → (List (List Int)) → Int → Option (List (List Int))
  | 0, _, _ => none
  | k11 + 1, l4, i8 => if i8 < a0_0 then ((mk0 a0_0 (0 : Int)).bind fun l20 => (gt l20 i8).bind fun y27 => (st l20 i8 1).bind fun l28 => (ap l4 ([l28] : List (List Int))).bind fun l34 => spec_plExponents.l0 a0_0 k11 l34 (w64 (i8 + 1))) else (some l4)
def spec_plExponents.f (k : Nat) (a0_0 : Int) (l0_1 : List SStep) (l0_2 : List Int) : Option (List (List Int)) := (spec_plExponents.l0 a0_0 k ([] : List (List Int)) 0).bind fun l4 => (spec_plExponents.l1 l0_1 l4 0).bind fun l39 => some l39
set_option maxHeartbeats 600000 in
set_option maxRecDepth 100000 in
theorem spec_plExponents.calls (k : Nat) {w0 ws : World} {P0 : Nat → Prop} (a0_0 : Int) (A0_1 : Option Addr) (c0_1 : Nat) (n0_1 : Nat) (l0_1 : List SStep) (A0_2 : Option Addr) (c0_2 : Nat) (n0_2 : Nat) (l0_2 : List Int) (Z : Below w0.heap.size w0 ws) (hF : Fr w0 ws P0 [] ws) (R0_1 : Stable ws P0 (fun w => Kd.C kStep w A0_1 n0_1 l0_1)) (hc0_1 : n0_1 ≤ c0_1) (R0_2 : Stable ws P0 (fun w => Kd.C (Kd.int .i64) w A0_2 n0_2 l0_2)) (hc0_2 : n0_2 ≤ c0_2) (r_1 : List (List Int)) (h : spec_plExponents.f k a0_0 l0_1 l0_2 = some r_1) :
    Calls Try.prog 183 #[.agg #[.int .i64 a0_0, .slice A0_1 n0_1 c0_1, .slice A0_2 n0_2 c0_2]] ws (Post1 w0 ws P0 (fun ((q_2, q_3, q_4) : (Option Addr) × Nat × Hd) => .slice q_2 r_1.length q_3) (fun ((q_2, q_3, q_4) : (Option Addr) × Nat × Hd) => [row (gk 3 (Kd.int .i64)) 25 (.slice q_2 r_1.length q_3) (zp q_4 r_1)])) := by
  unfold spec_plExponents.f at h
  obtain rfl := (R0_1 ws (KeptB.refl _ _)).1
  obtain rfl := (R0_2 ws (KeptB.refl _ _)).1
  refine enter Try.func183 rfl Try.ntmps183 rfl hF ?_
  refine c_seq ?_
  refine za0 ?_
  refine o_e rfl (e_box rfl) (fun g1 => ?_)
  refine o_q rfl rfl (q_asg rfl) ?_
  refine o_end ?_
  refine za1 ?_
  refine c_seq ?_
  refine za0 ?_
  refine o_q rfl rfl (q_asg rfl) ?_
  refine o_end ?_
  refine za1 ?_
  refine c_seq ?_
  refine c_seq ?_
  refine za0 ?_
  refine o_q rfl rfl (q_asg rfl) ?_
  refine o_end ?_
  refine za1 ?_
  refine zaj ?_
  refine c_nil (gk 3 (Kd.int .i64)) 25 ?_
  refine za7 h (fun o16 hl15 hR14 => ?_) rfl
  clear h
  refine zav (σ := (List (List Int)) × Int × (Option Addr) × Nat × Hd) (fun k11 ((l4, i8, A5, c6, H7) : (List (List Int)) × Int × (Option Addr) × Nat × Hd) => spec_plExponents.l0 a0_0 k11 l4 i8 = some o16) [3, 4, 5, 8, 9, 10, 11, 12, 13, 14, 15, 16, 17, 18, 19, 20, 21, 22, 23] (fun ((l4, i8, A5, c6, H7) : (List (List Int)) × Int × (Option Addr) × Nat × Hd) => [(3, .slice A5 l4.length c6), (4, .int .i64 i8)]) (fun ((l4, i8, A5, c6, H7) : (List (List Int)) × Int × (Option Addr) × Nat × Hd) => [row (gk 3 (Kd.int .i64)) 25 (.slice A5 l4.length c6) (zp H7 l4), box g1 27 #[.int .i64 a0_0, .slice A0_1 l0_1.length c0_1, .slice A0_2 l0_2.length c0_2]]) k (([] : List (List Int)), 0, none, 0, ([] : Hd)) hl15 ⟨rfl, rfl, trivial⟩ (fun w h => h) ?_
  refine natC (cur5 (fun l4 i8 A5 c6 H7 => fun U17 hJ_ => ?_)) (fun k11 => (cur5 (fun l4 i8 A5 c6 H7 => fun U17 hJ_ => ?_)))
  · skip
    replace hJ_ : spec_plExponents.l0 a0_0 0 l4 i8 = some o16 := hJ_
    rw [spec_plExponents.l0] at hJ_
    exact noneE hJ_
  · skip
    clear hl15
    have h := hJ_; clear hJ_
    replace h : spec_plExponents.l0 a0_0 (k11 + 1) l4 i8 = some o16 := h
    rw [spec_plExponents.l0] at h
    refine c_seq ?_
    refine c_seq ?_
    refine za0 ?_
    refine o_q rfl rfl (za2 rfl) ?_
    refine o_q rfl rfl (q_f F27_0 rfl) ?_
    refine o_q rfl rfl (q_ldb Y3 rfl (fun w h => h.zaa (i := 1) rfl) rfl) ?_
    refine o_q rfl rfl (q_lss rfl rfl) ?_
    refine o_end ?_
    refine za1 ?_
    refine zar _ rfl (fun hb19 => ?_) (fun hb19 => ?_)
    · skip
      replace h := br_t hb19 h
      refine zam ?_
      refine za1 ?_
      refine c_seq ?_
      refine zaj ?_
      refine c_seq ?_
      refine za0 ?_
      refine o_q rfl rfl (q_f F27_0 rfl) ?_
      refine o_q rfl rfl (q_ldb Y3 rfl (fun w h => h.zaa (i := 1) rfl) rfl) ?_
      refine za7 h (fun l20 hm21 h => ?_) rfl
      refine o_e rfl (e_make (Kd.int .i64) (0 : Int) Try.underlying25 I3 rfl (by decide) (by decide) (fun _ _ => rfl) rfl rfl hm21) (cur2 (fun A22 c23 => ?_))
      refine o_q rfl rfl (q_asg rfl) ?_
      refine o_end ?_
      refine za1 ?_
      refine c_seq ?_
      refine za0 ?_
      refine o_q rfl rfl (za2 rfl) ?_
      refine o_q rfl rfl (za2 rfl) ?_
      refine zas (p := Sh A22 l20.length l20.length) (fun w h => f_sh (dk := (Kd.int .i64)) h (fun w h => h.zaw (i := 0) rfl)) (fun hq25 => ?_)
      refine za7 h (fun y27 hg26 h => ?_) rfl
      refine o_q rfl rfl (q_ix Try.underlying25 Z3 rfl rfl hq25 hg26) ?_
      refine za7 h (fun l28 hs29 h => ?_) rfl
      refine o_e rfl (e_set (i := 0) rfl rfl rfl Z3 hs29) (fun _ => ?_)
      refine o_end ?_
      refine za1 ?_
      refine za0 ?_
      refine o_q rfl rfl (za2 rfl) ?_
      refine o_q rfl rfl (za2 rfl) ?_
      refine o_e rfl (e_litG (j := 0) (ue := 3) (dk := (Kd.int .i64)) (ys := l28) Try.underlying60 I25 rfl rfl rfl) (cur3 (fun A30 c31 H33 => ?_))
      refine za7 h (fun l34 ha35 h => ?_) rfl
      refine o_e rfl (e_appG (i := 2) (j := 0) Try.underlying60 I25 rfl (by decide) rfl rfl rfl rfl rfl ha35) (cur3 (fun A36 c37 H38 => ?_))
      refine o_q rfl rfl (q_asg rfl) ?_
      refine o_end ?_
      refine zan ?_
      refine za1 ?_
      refine za0 ?_
      refine o_q rfl rfl (za2 rfl) ?_
      refine o_q rfl rfl (q_add64 rfl rfl) ?_
      refine o_q rfl rfl (q_asg rfl) ?_
      refine o_end ?_
      refine zak k11 (l34, w64 (i8 + 1), A36, c37, H38) (Nat.lt_succ_self _) h ⟨rfl, rfl, trivial⟩ (fun w h => za5 [2, 3] (by decide) rfl w h) ?_
      repeat (first | exact zad _ _ | refine zah rfl ?_ | refine zae rfl ?_ | refine zai rfl ?_)
    · skip
      replace h := br_f hb19 h
      refine c_exit ?_
      refine za6 ?_
      refine za6 ?_
      have e_ := Option.some.inj h; replace h := hR14; rw [← e_] at h; clear e_
      refine x_hit ?_
      refine za1 ?_
      refine c_seq ?_
      refine c_seq ?_
      refine za0 ?_
      refine o_q rfl rfl (q_f F27_1 rfl) ?_
      refine o_q rfl rfl (q_ldb Y24 rfl (fun w h => h.zaa (i := 1) rfl) rfl) ?_
      refine o_q rfl rfl (q_len Try.underlying24 rfl) ?_
      refine o_q rfl rfl (za2 rfl) ?_
      refine o_end ?_
      refine za1 ?_
      refine zaj ?_
      refine za7 h (fun o51 hl50 hR49 => ?_) rfl
      clear h
      refine c_fact (p := l0_1.length ≤ 9223372036854775807) (fun w h => (R0_1.now Z h).2.1) (fun hm48 => ?_)
      refine zav (σ := (List SStep) × (List (List Int)) × Int × (Option Addr) × Nat × Hd) (fun k46 ((ys45, l39, i43, A40, c41, H42) : (List SStep) × (List (List Int)) × Int × (Option Addr) × Nat × Hd) => Rg l0_1 i43 ys45 ∧ ys45.length = k46 ∧ spec_plExponents.l1 ys45 l39 i43 = some o51) [3, 7, 27, 28, 29, 30, 31, 32, 33, 34, 35, 36, 37, 38, 39, 40, 41, 42, 43, 44, 45] (fun ((ys45, l39, i43, A40, c41, H42) : (List SStep) × (List (List Int)) × Int × (Option Addr) × Nat × Hd) => [(3, .slice A40 l39.length c41), (27, .int .i64 i43)]) (fun ((ys45, l39, i43, A40, c41, H42) : (List SStep) × (List (List Int)) × Int × (Option Addr) × Nat × Hd) => [row (gk 3 (Kd.int .i64)) 25 (.slice A40 l39.length c41) (zp H42 l39), box g1 27 #[.int .i64 a0_0, .slice A0_1 l0_1.length c0_1, .slice A0_2 l0_2.length c0_2]]) l0_1.length (l0_1, l4, 0, A5, c6, H7) ⟨Rg.start _, rfl, hl50⟩ ⟨rfl, rfl, trivial⟩ (fun w h => h) ?_
      refine fun k46 => cur6 (listC (fun l39 i43 A40 c41 H42 U52 hJ_ => ?_) (fun y44 ys45 l39 i43 A40 c41 H42 U52 hJ_ => ?_))
      · skip
        clear hl50
        have hr47 := hJ_.1; have hk53 := hJ_.2.1; have h := hJ_.2.2; clear hJ_
        replace h : spec_plExponents.l1 [] l39 i43 = some o51 := h
        rw [spec_plExponents.l1] at h
        refine c_seq ?_
        refine za0 ?_
        refine o_q rfl rfl (q_lss rfl rfl) ?_
        refine o_end ?_
        refine za1 ?_
        refine c_seq ?_
        refine zb2 (congrArg Value.bool hr47.ge) ?_
        refine c_exit ?_
        refine za6 ?_
        refine za6 ?_
        have e_ := Option.some.inj h; replace h := hR49; rw [← e_] at h; clear e_
        refine x_hit ?_
        refine za1 ?_
        refine c_seq ?_
        refine za0 ?_
        refine o_q rfl rfl (za2 rfl) ?_
        refine o_q rfl rfl (q_asg rfl) ?_
        refine o_end ?_
        refine za1 ?_
        refine c_ret ?_
        have e0_ := Option.some.inj h; clear h
        subst e0_
        exact x_r1 (A40, c41, H42) Try.results183 (zaf rfl) rfl (fun w h => za5 [0] (by decide) rfl w h)
      · skip
        clear hl50
        have hr47 := hJ_.1; have hk53 := hJ_.2.1; have h := hJ_.2.2; clear hJ_
        replace h : spec_plExponents.l1 (y44 :: ys45) l39 i43 = some o51 := h
        rw [spec_plExponents.l1] at h
        refine c_seq ?_
        refine za0 ?_
        refine o_q rfl rfl (q_lss rfl rfl) ?_
        refine o_end ?_
        refine za1 ?_
        refine c_seq ?_
        refine zb3 (congrArg Value.bool hr47.lt) ?_
        refine zam ?_
        refine za1 ?_
        refine c_seq ?_
        refine zaj ?_
        refine c_seq ?_
        refine za0 ?_
        refine zas (p := Sh A0_1 l0_1.length l0_1.length) (fun w h => f_sh (dk := kStep) h (fun w h => R0_1.now Z h)) (fun hq54 => ?_)
        refine o_q rfl rfl (q_ix Try.underlying24 Z89 rfl rfl hq54 hr47.get) ?_
        refine o_q rfl rfl (q_ldE G89 Z89 rfl rfl (fun w h => R0_1.now Z h) hr47.get (fun _ _ h => h) rfl) ?_
        refine o_e rfl (zaz V89 rfl) (fun g55 => ?_)
        refine o_e rfl (zaq (i := 0) rfl rfl rfl Z89 rfl rfl) (fun _ => ?_)
        refine o_end ?_
        refine za1 ?_
        refine za7 h (fun y300 hg299 h => ?_) rfl
        refine za7 h (fun y599 hg598 h => ?_) rfl
        refine za7 h (fun l719 hx718 h => ?_) rfl
        refine za7 h (fun l838 ha839 h => ?_) rfl
        refine a_startS (ds := []) [some 0, none, some 2] MO rfl ?_
        refine za8 0 rfl rfl rfl (by kernel_rfl) (fun _ _ _ h => h) (za2 rfl) ?_
        refine za8 1 rfl rfl rfl (by kernel_rfl) (fun _ _ _ h => h) (za2 rfl) ?_
        refine za8 2 rfl rfl rfl (by kernel_rfl) (fun _ _ _ h => h) (q_f F89_0 rfl) ?_
        refine a_take 3 rfl rfl rfl (by kernel_rfl) (fun _ _ _ h => h) (fun w h => zab [some 0, none, some 2] (by decide) w h rfl) (q_ldb Y3 rfl (fun w h => h.zaa (i := 0) rfl) rfl) ?_
        refine a_fact (p := Sh A40 l39.length (zp H42 l39).length) (fun w h => f_sh (dk := (gk 3 (Kd.int .i64))) h (fun w h => h.zaw (i := 1) rfl)) (fun hq298 => ?_)
        refine za8 4 rfl rfl rfl (by kernel_rfl) (fun _ _ _ h => h) (q_ix Try.underlying60 Z25 rfl rfl hq298 (gt_zp hg299)) ?_
        refine za8 6 rfl rfl rfl (by kernel_rfl) (fun _ _ _ h => h) (za2 rfl) ?_
        refine za8 7 rfl rfl rfl (by kernel_rfl) (fun _ _ _ h => h) (q_f F89_1 rfl) ?_
        refine a_take 8 rfl rfl rfl (by kernel_rfl) (fun _ _ _ h => h) (fun w h => zab [some 0, none, some 2] (by decide) w h rfl) (q_ldb Y3 rfl (fun w h => h.zaa (i := 0) rfl) rfl) ?_
        refine za8 9 rfl rfl rfl (by kernel_rfl) (fun _ _ _ h => h) (q_ix Try.underlying60 Z25 rfl rfl hq298 (gt_zp hg598)) ?_
        refine a_fact (p := y300.length ≤ hC H42 y44.f0) (fun w h => (K_in (h.zaw (i := 1) rfl) hg299).1) (fun hc358 => ?_)
        refine a_fact (p := y599.length ≤ hC H42 y44.f1) (fun w h => (K_in (h.zaw (i := 1) rfl) hg598).1) (fun hc658 => ?_)
        refine a_two 5 10 rfl rfl rfl rfl (by kernel_rfl) rfl rfl (ev_q rfl (q_lde (off := 0) Y25 rfl rfl (fun w h => h.zaw (i := 1) rfl) (gt_zp hg299) (fun _ _ h => h.1) rfl)) (fun s w h => zab [some 0, none, some 2] (by decide) w h rfl) (ev_q rfl (q_lde (off := 0) Y25 rfl rfl (fun w h => h.zaw (i := 1) rfl) (gt_zp hg598) (fun _ _ h => h.1) rfl)) (fun s w h => zab [some 0, none, some 2] (by decide) w h rfl) (fun _ => ?_) (fun _ => ?_)
        · skip
          refine a_fact (p := y599.length ≤ hC H42 y44.f1) (fun w h => (K_in (h.zaw (i := 1) rfl) hg598).1) (fun hc658 => ?_)
          refine a_one 10 rfl rfl (by kernel_rfl) rfl (ev_q rfl (q_lde (off := 0) Y25 rfl rfl (fun w h => h.zaw (i := 1) rfl) (gt_zp hg598) (fun _ _ h => h.1) rfl)) (fun s w h => zab [some 0, none, some 2] (by decide) w h rfl) (fun _ => ?_)
          refine a_one 11 rfl rfl (by kernel_rfl) rfl (zac 0 Z Try.func221 N221 rfl rfl rfl (fun w P1 hF hB hS hT => spec_plSum.calls (hA H42 y44.f0) (hC H42 y44.f0) y300.length y300 (hA H42 y44.f1) (hC H42 y44.f1) y599.length y599 hB hF (stab_in (hT 1 _ rfl).row hg299) hc358 (stab_in (hT 1 _ rfl).row hg598) hc658 _ hx718)) (fun s w h => zab [some 1, none, some 3] (by decide) w h rfl) (cur2 (fun A720 c721 => ?_))
          refine a_one 12 rfl rfl (by kernel_rfl) rfl (e_litG (j := 0) (ue := 3) (dk := (Kd.int .i64)) (ys := l719) Try.underlying60 I25 rfl rfl rfl) (fun s w h => zab [some 2, none, some 4] (by decide) w h rfl) (cur3 (fun A778 c779 H781 => ?_))
          refine a_one 13 rfl rfl (by kernel_rfl) rfl (e_appG (i := 3) (j := 0) Try.underlying60 I25 rfl (by decide) rfl rfl rfl rfl rfl ha839) (fun s w h => zab [some 2, none, some 4] (by decide) w h rfl) (cur3 (fun A840 c841 H842 => ?_))
          refine za8 14 rfl rfl rfl (by kernel_rfl) (fun _ _ _ h => h) (q_asg rfl) ?_
          refine zb0 (by kernel_rfl) ?_
          refine zan ?_
          refine za1 ?_
          refine za0 ?_
          refine o_q rfl rfl (q_up rfl rfl (hr47.up hm48)) ?_
          refine o_q rfl rfl (za2 rfl) ?_
          refine o_end ?_
          refine zak ys45.length (ys45, l838, i43 + 1, A840, c841, H842) (by rw [← hk53]; exact Nat.lt_succ_self _) ⟨hr47.step, rfl, h⟩ ⟨rfl, rfl, trivial⟩ (fun w h => za5 [3, 4] (by decide) rfl w h) ?_
          repeat (first | exact zad _ _ | refine zah rfl ?_ | refine zae rfl ?_ | refine zai rfl ?_)
        · skip
          refine a_fact (p := y300.length ≤ hC H42 y44.f0) (fun w h => (K_in (h.zaw (i := 1) rfl) hg299).1) (fun hc358 => ?_)
          refine a_one 5 rfl rfl (by kernel_rfl) rfl (ev_q rfl (q_lde (off := 0) Y25 rfl rfl (fun w h => h.zaw (i := 1) rfl) (gt_zp hg299) (fun _ _ h => h.1) rfl)) (fun s w h => zab [some 0, none, some 2] (by decide) w h rfl) (fun _ => ?_)
          refine a_one 11 rfl rfl (by kernel_rfl) rfl (zac 0 Z Try.func221 N221 rfl rfl rfl (fun w P1 hF hB hS hT => spec_plSum.calls (hA H42 y44.f0) (hC H42 y44.f0) y300.length y300 (hA H42 y44.f1) (hC H42 y44.f1) y599.length y599 hB hF (stab_in (hT 1 _ rfl).row hg299) hc358 (stab_in (hT 1 _ rfl).row hg598) hc658 _ hx718)) (fun s w h => zab [some 1, none, some 3] (by decide) w h rfl) (cur2 (fun A720 c721 => ?_))
          refine a_one 12 rfl rfl (by kernel_rfl) rfl (e_litG (j := 0) (ue := 3) (dk := (Kd.int .i64)) (ys := l719) Try.underlying60 I25 rfl rfl rfl) (fun s w h => zab [some 2, none, some 4] (by decide) w h rfl) (cur3 (fun A778 c779 H781 => ?_))
          refine a_one 13 rfl rfl (by kernel_rfl) rfl (e_appG (i := 3) (j := 0) Try.underlying60 I25 rfl (by decide) rfl rfl rfl rfl rfl ha839) (fun s w h => zab [some 2, none, some 4] (by decide) w h rfl) (cur3 (fun A840 c841 H842 => ?_))
          refine za8 14 rfl rfl rfl (by kernel_rfl) (fun _ _ _ h => h) (q_asg rfl) ?_
          refine zb0 (by kernel_rfl) ?_
          refine zan ?_
          refine za1 ?_
          refine za0 ?_
          refine o_q rfl rfl (q_up rfl rfl (hr47.up hm48)) ?_
          refine o_q rfl rfl (za2 rfl) ?_
          refine o_end ?_
          refine zak ys45.length (ys45, l838, i43 + 1, A840, c841, H842) (by rw [← hk53]; exact Nat.lt_succ_self _) ⟨hr47.step, rfl, h⟩ ⟨rfl, rfl, trivial⟩ (fun w h => za5 [3, 4] (by decide) rfl w h) ?_
          repeat (first | exact zad _ _ | refine zah rfl ?_ | refine zae rfl ?_ | refine zai rfl ?_)

/-! ### loop.example/g01098/spec.l1All: function 133 -/
def spec_l1All.l0 (a1 : Int) (a2 : Int) : (List Int) → Int → Option ((Bool) ⊕ (Unit))
  | [], i1 => some (.inr ())
  | y2 :: ys3, i1 => (spec_l1In.f y2 a1 a2).bind fun b14 => if b14 = true then (spec_l1All.l0 a1 a2 ys3 (i1 + 1)) else (some (.inl false))
def spec_l1All.f (l0 : List Int) (a1 : Int) (a2 : Int) : Option Bool := (spec_l1All.l0 a1 a2 l0 0).bind fun o_ => match o_ with | .inl r_ => some r_ | .inr _ => some true
set_option maxHeartbeats 600000 in
set_option maxRecDepth 100000 in
theorem spec_l1All.calls {w0 ws : World} {P0 : Nat → Prop} (A0 : Option Addr) (c0 : Nat) (n0 : Nat) (l0 : List Int) (a1 : Int) (a2 : Int) (Z : Below w0.heap.size w0 ws) (hF : Fr w0 ws P0 [] ws) (R0 : Stable ws P0 (fun w => Kd.C (Kd.int .i64) w A0 n0 l0)) (hc0 : n0 ≤ c0) (r_1 : Bool) (h : spec_l1All.f l0 a1 a2 = some r_1) :
    Calls Try.prog 133 #[.slice A0 n0 c0, .int .i64 a1, .int .i64 a2] ws (Post1 w0 ws P0 (fun (_ : Unit) => .bool r_1) (fun (_ : Unit) => [])) := by
  unfold spec_l1All.f at h
  obtain rfl := (R0 ws (KeptB.refl _ _)).1
  refine enter Try.func133 rfl Try.ntmps133 rfl hF ?_
  refine c_seq ?_
  refine za0 ?_
  refine o_q rfl rfl (q_asg rfl) ?_
  refine o_end ?_
  refine za1 ?_
  refine c_seq ?_
  refine c_seq ?_
  refine za0 ?_
  refine o_q rfl rfl (za2 rfl) ?_
  refine o_q rfl rfl (q_len Try.underlying25 rfl) ?_
  refine o_q rfl rfl (za2 rfl) ?_
  refine o_end ?_
  refine za1 ?_
  refine zaj ?_
  refine za7 h (fun o9 hl8 hR7 => ?_) rfl
  clear h
  refine c_fact (p := l0.length ≤ 9223372036854775807) (fun w h => (R0.now Z h).2.1) (fun hm6 => ?_)
  refine zav (σ := (List Int) × Int) (fun k4 ((ys3, i1) : (List Int) × Int) => Rg l0 i1 ys3 ∧ ys3.length = k4 ∧ spec_l1All.l0 a1 a2 ys3 i1 = some o9) [6, 8, 11, 12, 13, 14, 15, 16, 17, 18, 19, 20] (fun ((ys3, i1) : (List Int) × Int) => [(11, .int .i64 i1)]) (fun ((ys3, i1) : (List Int) × Int) => []) l0.length (l0, 0) ⟨Rg.start _, rfl, hl8⟩ ⟨rfl, trivial⟩ (fun w h => h) ?_
  refine fun k4 => cur2 (listC (fun i1 U10 hJ_ => ?_) (fun y2 ys3 i1 U10 hJ_ => ?_))
  · skip
    clear hl8
    have hr5 := hJ_.1; have hk11 := hJ_.2.1; have h := hJ_.2.2; clear hJ_
    replace h : spec_l1All.l0 a1 a2 [] i1 = some o9 := h
    rw [spec_l1All.l0] at h
    refine c_seq ?_
    refine za0 ?_
    refine o_q rfl rfl (q_lss rfl rfl) ?_
    refine o_end ?_
    refine za1 ?_
    refine c_seq ?_
    refine zb2 (congrArg Value.bool hr5.ge) ?_
    refine c_exit ?_
    refine za6 ?_
    refine za6 ?_
    have e_ := Option.some.inj h; replace h := hR7; rw [← e_] at h; clear e_
    refine x_hit ?_
    refine za1 ?_
    refine c_seq ?_
    refine za0 ?_
    refine o_q rfl rfl (q_asg rfl) ?_
    refine o_end ?_
    refine za1 ?_
    refine c_ret ?_
    have e0_ := Option.some.inj h; clear h
    subst e0_
    exact x_r1 () Try.results133 (zaf rfl) rfl (fun w h => za5 [] (by decide) rfl w h)
  · skip
    clear hl8
    have hr5 := hJ_.1; have hk11 := hJ_.2.1; have h := hJ_.2.2; clear hJ_
    replace h : spec_l1All.l0 a1 a2 (y2 :: ys3) i1 = some o9 := h
    rw [spec_l1All.l0] at h
    refine c_seq ?_
    refine za0 ?_
    refine o_q rfl rfl (q_lss rfl rfl) ?_
    refine o_end ?_
    refine za1 ?_
    refine c_seq ?_
    refine zb3 (congrArg Value.bool hr5.lt) ?_
    refine zam ?_
    refine za1 ?_
    refine c_seq ?_
    refine zaj ?_
    refine c_seq ?_
    refine za0 ?_
    refine zas (p := Sh A0 l0.length l0.length) (fun w h => f_sh (dk := (Kd.int .i64)) h (fun w h => R0.now Z h)) (fun hq12 => ?_)
    refine o_q rfl rfl (q_ix Try.underlying25 Z3 rfl rfl hq12 hr5.get) ?_
    refine o_q rfl rfl (q_lde (off := 0) Y3 rfl rfl (fun w h => R0.now Z h) hr5.get (fun _ _ h => h) rfl) ?_
    refine o_q rfl rfl (q_asg rfl) ?_
    refine o_end ?_
    refine za1 ?_
    refine c_seq ?_
    refine za0 ?_
    refine o_q rfl rfl (za2 rfl) ?_
    refine o_q rfl rfl (za2 rfl) ?_
    refine o_q rfl rfl (za2 rfl) ?_
    refine za7 h (fun b14 hx13 h => ?_) rfl
    refine o_e rfl (zac 0 Z Try.func94 N94 rfl rfl rfl (fun w P1 hF hB hS hT => spec_l1In.calls y2 a1 a2 hB hF _ hx13)) (fun _ => ?_)
    refine o_q rfl rfl (q_not rfl) ?_
    refine o_end ?_
    refine za1 ?_
    refine zar _ rfl (fun hb15 => ?_) (fun hb15 => ?_)
    · replace hb15 := nt_t hb15
      replace h := bb_f hb15 h
      refine c_seq ?_
      refine za0 ?_
      refine o_q rfl rfl (q_asg rfl) ?_
      refine o_end ?_
      refine za1 ?_
      refine c_ret ?_
      refine zao ?_
      refine za9 ?_
      refine za9 ?_
      have e_ := Option.some.inj h; replace h := hR7; rw [← e_] at h; clear e_
      refine zao ?_
      refine za9 ?_
      have e0_ := Option.some.inj h; clear h
      subst e0_
      exact x_r1 () Try.results133 (zaf rfl) rfl (fun w h => za5 [] (by decide) rfl w h)
    · replace hb15 := nt_f hb15
      replace h := bb_t hb15 h
      refine zam ?_
      refine zan ?_
      refine za1 ?_
      refine za0 ?_
      refine o_q rfl rfl (q_up rfl rfl (hr5.up hm6)) ?_
      refine o_q rfl rfl (za2 rfl) ?_
      refine o_end ?_
      refine zak ys3.length (ys3, i1 + 1) (by rw [← hk11]; exact Nat.lt_succ_self _) ⟨hr5.step, rfl, h⟩ ⟨rfl, trivial⟩ (fun w h => za5 [] (by decide) rfl w h) ?_
      repeat (first | exact zad _ _ | refine zah rfl ?_ | refine zae rfl ?_ | refine zai rfl ?_)

/-! ### loop.example/g01098/spec.plGood: function 93 -/
def spec_plGood.l1 : (List (List Int)) → Int → Option ((Bool) ⊕ (Unit))
  | [], i24 => some (.inr ())
  | y25 :: ys26, i24 => (spec_l1All.f y25 0 1000000).bind fun b40 => if b40 = true then (spec_plGood.l1 ys26 (i24 + 1)) else (some (.inl false))
def spec_plGood.l0 (a0_0 : Int) : (List SStep) → Int → Option ((Bool) ⊕ (Unit))
  | [], i8 => some (.inr ())
  | y9 :: ys10, i8 => (spec_l1In.f y9.f0 0 y9.f1).bind fun b46 => if b46 = true then (if w64 (a0_0 + i8) ≤ y9.f1 then (some (.inl false)) else (spec_plGood.l0 a0_0 ys10 (i8 + 1))) else (some (.inl false))
def spec_plGood.f (k : Nat) (a0_0 : Int) (l0_1 : List SStep) (l0_2 : List Int) : Option Bool := (spec_l1In.f a0_0 1 6).bind fun b4 => if b4 = true then (if 40 < (l0_1.length : Int) then (some false) else (if 6 < (l0_2.length : Int) then (some false) else ((spec_plGood.l0 a0_0 l0_1 0).bind fun o_ => match o_ with | .inl r_ => some r_ | .inr _ => (spec_plExponents.f k a0_0 l0_1 l0_2).bind fun l20 => (spec_plGood.l1 l20 0).bind fun o_ => match o_ with | .inl r_ => some r_ | .inr _ => (spec_l1All.f l0_2 0 (w64 (w64 (a0_0 + (l0_1.length : Int)) - 1))).bind fun b36 => some b36))) else (some false)
set_option maxHeartbeats 600000 in
set_option maxRecDepth 100000 in
theorem spec_plGood.calls (k : Nat) {w0 ws : World} {P0 : Nat → Prop} (a0_0 : Int) (A0_1 : Option Addr) (c0_1 : Nat) (n0_1 : Nat) (l0_1 : List SStep) (A0_2 : Option Addr) (c0_2 : Nat) (n0_2 : Nat) (l0_2 : List Int) (Z : Below w0.heap.size w0 ws) (hF : Fr w0 ws P0 [] ws) (R0_1 : Stable ws P0 (fun w => Kd.C kStep w A0_1 n0_1 l0_1)) (hc0_1 : n0_1 ≤ c0_1) (R0_2 : Stable ws P0 (fun w => Kd.C (Kd.int .i64) w A0_2 n0_2 l0_2)) (hc0_2 : n0_2 ≤ c0_2) (r_1 : Bool) (h : spec_plGood.f k a0_0 l0_1 l0_2 = some r_1) :
    Calls Try.prog 93 #[.agg #[.int .i64 a0_0, .slice A0_1 n0_1 c0_1, .slice A0_2 n0_2 c0_2]] ws (Post1 w0 ws P0 (fun (_ : Unit) => .bool r_1) (fun (_ : Unit) => [])) := by
  unfold spec_plGood.f at h
  obtain rfl := (R0_1 ws (KeptB.refl _ _)).1
  obtain rfl := (R0_2 ws (KeptB.refl _ _)).1
  refine enter Try.func93 rfl Try.ntmps93 rfl hF ?_
  refine c_seq ?_
  refine za0 ?_
  refine o_e rfl (e_box rfl) (fun g1 => ?_)
  refine o_q rfl rfl (q_asg rfl) ?_
  refine o_end ?_
  refine za1 ?_
  refine c_seq ?_
  refine c_seq ?_
  refine za0 ?_
  refine o_q rfl rfl (q_f F27_0 rfl) ?_
  refine o_q rfl rfl (q_ldb Y3 rfl (fun w h => h.zaa (i := 0) rfl) rfl) ?_
  refine za7 h (fun b4 hx3 h => ?_) rfl
  refine o_e rfl (zac 0 Z Try.func94 N94 rfl rfl rfl (fun w P1 hF hB hS hT => spec_l1In.calls a0_0 1 6 hB hF _ hx3)) (fun _ => ?_)
  refine o_q rfl rfl (q_not rfl) ?_
  refine o_q rfl rfl (za2 rfl) ?_
  refine byB b4 (fun hb5 => ?_) (fun hb5 => ?_)
  · replace h := bb_t hb5 h
    refine o_w (za4 rfl rfl rfl (congrArg (fun b => Value.bool (!(b))) hb5)) rfl (q_f F27_1 rfl) ?_
    refine o_w (za4 rfl rfl rfl (congrArg (fun b => Value.bool (!(b))) hb5)) rfl (q_ldb Y24 rfl (fun w h => h.zaa (i := 0) rfl) rfl) ?_
    refine o_w (za4 rfl rfl rfl (congrArg (fun b => Value.bool (!(b))) hb5)) rfl (q_len Try.underlying24 rfl) ?_
    refine o_w (za4 rfl rfl rfl (congrArg (fun b => Value.bool (!(b))) hb5)) rfl (q_gtr rfl rfl) ?_
    refine o_q rfl rfl (zal false (congrArg (fun b => Value.bool (!(b))) hb5) rfl) ?_
    refine o_q rfl rfl (za2 rfl) ?_
    refine byB (decide (40 < (l0_1.length : Int))) (fun hb6 => ?_) (fun hb6 => ?_)
    · replace h := br_t hb6 h
      refine @o_n _ _ _ _ _ _ _ _ _ _ _ 18 (za3 rfl rfl rfl (congrArg Value.bool hb6) rfl) (Eq.refl (some 18)) ?_
      refine @o_n _ _ _ _ _ _ _ _ _ _ _ 19 (za3 rfl rfl rfl (congrArg Value.bool hb6) rfl) (Eq.refl (some 19)) ?_
      refine @o_n _ _ _ _ _ _ _ _ _ _ _ 20 (za3 rfl rfl rfl (congrArg Value.bool hb6) rfl) (Eq.refl (some 20)) ?_
      refine @o_n _ _ _ _ _ _ _ _ _ _ _ 21 (za3 rfl rfl rfl (congrArg Value.bool hb6) rfl) (Eq.refl (some 21)) ?_
      refine o_q rfl rfl (zal true (congrArg Value.bool hb6) rfl) ?_
      refine o_end ?_
      refine za1 ?_
      refine zb3 rfl ?_
      refine c_seq ?_
      refine za0 ?_
      refine o_q rfl rfl (q_asg rfl) ?_
      refine o_end ?_
      refine za1 ?_
      refine c_ret ?_
      refine za9 ?_
      have e0_ := Option.some.inj h; clear h
      subst e0_
      exact x_r1 () Try.results93 (zaf rfl) rfl (fun w h => za5 [] (by decide) rfl w h)
    · replace h := br_f hb6 h
      refine o_w (za4 rfl rfl rfl (congrArg Value.bool hb6)) rfl (q_f F27_2 rfl) ?_
      refine o_w (za4 rfl rfl rfl (congrArg Value.bool hb6)) rfl (q_ldb Y25 rfl (fun w h => h.zaa (i := 0) rfl) rfl) ?_
      refine o_w (za4 rfl rfl rfl (congrArg Value.bool hb6)) rfl (q_len Try.underlying25 rfl) ?_
      refine o_w (za4 rfl rfl rfl (congrArg Value.bool hb6)) rfl (q_gtr rfl rfl) ?_
      refine o_q rfl rfl (zal false (congrArg Value.bool hb6) rfl) ?_
      refine o_end ?_
      refine za1 ?_
      refine zar _ rfl (fun hb7 => ?_) (fun hb7 => ?_)
      · skip
        replace h := br_t hb7 h
        refine c_seq ?_
        refine za0 ?_
        refine o_q rfl rfl (q_asg rfl) ?_
        refine o_end ?_
        refine za1 ?_
        refine c_ret ?_
        refine za9 ?_
        have e0_ := Option.some.inj h; clear h
        subst e0_
        exact x_r1 () Try.results93 (zaf rfl) rfl (fun w h => za5 [] (by decide) rfl w h)
      · skip
        replace h := br_f hb7 h
        refine zam ?_
        refine za1 ?_
        refine c_seq ?_
        refine c_seq ?_
        refine za0 ?_
        refine o_q rfl rfl (q_f F27_1 rfl) ?_
        refine o_q rfl rfl (q_ldb Y24 rfl (fun w h => h.zaa (i := 0) rfl) rfl) ?_
        refine o_q rfl rfl (q_len Try.underlying24 rfl) ?_
        refine o_q rfl rfl (za2 rfl) ?_
        refine o_end ?_
        refine za1 ?_
        refine zaj ?_
        refine za7 h (fun o16 hl15 hR14 => ?_) rfl
        clear h
        refine c_fact (p := l0_1.length ≤ 9223372036854775807) (fun w h => (R0_1.now Z h).2.1) (fun hm13 => ?_)
        refine zav (σ := (List SStep) × Int) (fun k11 ((ys10, i8) : (List SStep) × Int) => Rg l0_1 i8 ys10 ∧ ys10.length = k11 ∧ spec_plGood.l0 a0_0 ys10 i8 = some o16) [2, 3, 4, 26, 27, 28, 29, 30, 31, 32, 33, 34, 35, 36, 37, 38, 39, 40, 41, 42, 43, 44, 45, 46] (fun ((ys10, i8) : (List SStep) × Int) => [(26, .int .i64 i8)]) (fun ((ys10, i8) : (List SStep) × Int) => [box g1 27 #[.int .i64 a0_0, .slice A0_1 l0_1.length c0_1, .slice A0_2 l0_2.length c0_2]]) l0_1.length (l0_1, 0) ⟨Rg.start _, rfl, hl15⟩ ⟨rfl, trivial⟩ (fun w h => h) ?_
        refine fun k11 => cur2 (listC (fun i8 U17 hJ_ => ?_) (fun y9 ys10 i8 U17 hJ_ => ?_))
        · skip
          clear hl15
          have hr12 := hJ_.1; have hk18 := hJ_.2.1; have h := hJ_.2.2; clear hJ_
          replace h : spec_plGood.l0 a0_0 [] i8 = some o16 := h
          rw [spec_plGood.l0] at h
          refine c_seq ?_
          refine za0 ?_
          refine o_q rfl rfl (q_lss rfl rfl) ?_
          refine o_end ?_
          refine za1 ?_
          refine c_seq ?_
          refine zb2 (congrArg Value.bool hr12.ge) ?_
          refine c_exit ?_
          refine za6 ?_
          refine za6 ?_
          have e_ := Option.some.inj h; replace h := hR14; rw [← e_] at h; clear e_
          refine x_hit ?_
          refine za1 ?_
          refine c_seq ?_
          refine c_seq ?_
          refine za0 ?_
          refine o_q rfl rfl (q_ldB G27 Z27 rfl (fun w h => h.zaa (i := 0) rfl) rfl) ?_
          refine za7 h (fun l20 hx19 h => ?_) rfl
          refine o_e rfl (zac 0 Z Try.func183 N183 rfl rfl rfl (fun w P1 hF hB hS hT => spec_plExponents.calls k a0_0 A0_1 c0_1 l0_1.length l0_1 A0_2 c0_2 l0_2.length l0_2 hB hF (hS _ R0_1) hc0_1 (hS _ R0_2) hc0_2 _ hx19)) (cur3 (fun A21 c22 H23 => ?_))
          refine o_q rfl rfl (q_len Try.underlying60 rfl) ?_
          refine o_q rfl rfl (za2 rfl) ?_
          refine o_end ?_
          refine za1 ?_
          refine zaj ?_
          refine za7 h (fun o32 hl31 hR30 => ?_) rfl
          clear h
          refine c_fact (p := l20.length ≤ 9223372036854775807) (fun w h => (h.zaw (i := 0) rfl).2.1) (fun hm29 => ?_)
          refine zav (σ := (List (List Int)) × Int) (fun k27 ((ys26, i24) : (List (List Int)) × Int) => Rg l20 i24 ys26 ∧ ys26.length = k27 ∧ spec_plGood.l1 ys26 i24 = some o32) [2, 6, 50, 51, 52, 53, 54, 55, 56, 57] (fun ((ys26, i24) : (List (List Int)) × Int) => [(50, .int .i64 i24)]) (fun ((ys26, i24) : (List (List Int)) × Int) => [row (gk 3 (Kd.int .i64)) 25 (.slice A21 l20.length c22) (zp H23 l20), box g1 27 #[.int .i64 a0_0, .slice A0_1 l0_1.length c0_1, .slice A0_2 l0_2.length c0_2]]) l20.length (l20, 0) ⟨Rg.start _, rfl, hl31⟩ ⟨rfl, trivial⟩ (fun w h => h) ?_
          refine fun k27 => cur2 (listC (fun i24 U33 hJ_ => ?_) (fun y25 ys26 i24 U33 hJ_ => ?_))
          · skip
            clear hl31
            have hr28 := hJ_.1; have hk34 := hJ_.2.1; have h := hJ_.2.2; clear hJ_
            replace h : spec_plGood.l1 [] i24 = some o32 := h
            rw [spec_plGood.l1] at h
            refine c_seq ?_
            refine za0 ?_
            refine o_q rfl rfl (q_lss rfl rfl) ?_
            refine o_end ?_
            refine za1 ?_
            refine c_seq ?_
            refine zb2 (congrArg Value.bool hr28.ge) ?_
            refine c_exit ?_
            refine za6 ?_
            refine za6 ?_
            have e_ := Option.some.inj h; replace h := hR30; rw [← e_] at h; clear e_
            refine x_hit ?_
            refine za1 ?_
            refine c_seq ?_
            refine za0 ?_
            refine o_q rfl rfl (q_f F27_2 rfl) ?_
            refine o_q rfl rfl (q_ldb Y25 rfl (fun w h => h.zaa (i := 1) rfl) rfl) ?_
            refine o_q rfl rfl (q_f F27_0 rfl) ?_
            refine o_q rfl rfl (q_ldb Y3 rfl (fun w h => h.zaa (i := 1) rfl) rfl) ?_
            refine o_q rfl rfl (q_f F27_1 rfl) ?_
            refine o_q rfl rfl (q_ldb Y24 rfl (fun w h => h.zaa (i := 1) rfl) rfl) ?_
            refine o_q rfl rfl (q_len Try.underlying24 rfl) ?_
            refine o_q rfl rfl (q_add64 rfl rfl) ?_
            refine o_q rfl rfl (q_sub64 rfl rfl) ?_
            refine za7 h (fun b36 hx35 h => ?_) rfl
            refine o_e rfl (zac 0 Z Try.func133 N133 rfl rfl rfl (fun w P1 hF hB hS hT => spec_l1All.calls A0_2 c0_2 l0_2.length l0_2 0 (w64 (w64 (a0_0 + (l0_1.length : Int)) - 1)) hB hF (hS _ R0_2) hc0_2 _ hx35)) (fun _ => ?_)
            refine o_q rfl rfl (q_asg rfl) ?_
            refine o_end ?_
            refine za1 ?_
            refine c_ret ?_
            have e0_ := Option.some.inj h; clear h
            subst e0_
            exact x_r1 () Try.results93 (zaf rfl) rfl (fun w h => za5 [] (by decide) rfl w h)
          · skip
            clear hl31
            have hr28 := hJ_.1; have hk34 := hJ_.2.1; have h := hJ_.2.2; clear hJ_
            replace h : spec_plGood.l1 (y25 :: ys26) i24 = some o32 := h
            rw [spec_plGood.l1] at h
            refine c_seq ?_
            refine za0 ?_
            refine o_q rfl rfl (q_lss rfl rfl) ?_
            refine o_end ?_
            refine za1 ?_
            refine c_seq ?_
            refine zb3 (congrArg Value.bool hr28.lt) ?_
            refine zam ?_
            refine za1 ?_
            refine c_seq ?_
            refine zaj ?_
            refine c_seq ?_
            refine za0 ?_
            refine zas (p := Sh A21 l20.length (zp H23 l20).length) (fun w h => f_sh (dk := (gk 3 (Kd.int .i64))) h (fun w h => h.zaw (i := 0) rfl)) (fun hq37 => ?_)
            refine o_q rfl rfl (q_ix Try.underlying60 Z25 rfl rfl hq37 (gt_zp hr28.get)) ?_
            refine zas (p := y25.length ≤ hC H23 i24) (fun w h => (K_in (h.zaw (i := 0) rfl) hr28.get).1) (fun hc38 => ?_)
            refine o_q rfl rfl (q_lde (off := 0) Y25 rfl rfl (fun w h => h.zaw (i := 0) rfl) (gt_zp hr28.get) (fun _ _ h => h.1) rfl) ?_
            refine o_q rfl rfl (q_asg rfl) ?_
            refine o_end ?_
            refine za1 ?_
            refine c_seq ?_
            refine za0 ?_
            refine o_q rfl rfl (za2 rfl) ?_
            refine za7 h (fun b40 hx39 h => ?_) rfl
            refine o_e rfl (zac 0 Z Try.func133 N133 rfl rfl rfl (fun w P1 hF hB hS hT => spec_l1All.calls (hA H23 i24) (hC H23 i24) y25.length y25 0 1000000 hB hF (stab_in (hT 0 _ rfl).row hr28.get) hc38 _ hx39)) (fun _ => ?_)
            refine o_q rfl rfl (q_not rfl) ?_
            refine o_end ?_
            refine za1 ?_
            refine zar _ rfl (fun hb41 => ?_) (fun hb41 => ?_)
            · replace hb41 := nt_t hb41
              replace h := bb_f hb41 h
              refine c_seq ?_
              refine za0 ?_
              refine o_q rfl rfl (q_asg rfl) ?_
              refine o_end ?_
              refine za1 ?_
              refine c_ret ?_
              refine zao ?_
              refine za9 ?_
              refine za9 ?_
              have e_ := Option.some.inj h; replace h := hR30; rw [← e_] at h; clear e_
              refine zao ?_
              refine za9 ?_
              have e0_ := Option.some.inj h; clear h
              subst e0_
              exact x_r1 () Try.results93 (zaf rfl) rfl (fun w h => za5 [] (by decide) rfl w h)
            · replace hb41 := nt_f hb41
              replace h := bb_t hb41 h
              refine zam ?_
              refine zan ?_
              refine za1 ?_
              refine za0 ?_
              refine o_q rfl rfl (q_up rfl rfl (hr28.up hm29)) ?_
              refine o_q rfl rfl (za2 rfl) ?_
              refine o_end ?_
              refine zak ys26.length (ys26, i24 + 1) (by rw [← hk34]; exact Nat.lt_succ_self _) ⟨hr28.step, rfl, h⟩ ⟨rfl, trivial⟩ (fun w h => za5 [0, 1] (by decide) rfl w h) ?_
              repeat (first | exact zad _ _ | refine zah rfl ?_ | refine zae rfl ?_ | refine zai rfl ?_)
        · skip
          clear hl15
          have hr12 := hJ_.1; have hk18 := hJ_.2.1; have h := hJ_.2.2; clear hJ_
          replace h : spec_plGood.l0 a0_0 (y9 :: ys10) i8 = some o16 := h
          rw [spec_plGood.l0] at h
          refine c_seq ?_
          refine za0 ?_
          refine o_q rfl rfl (q_lss rfl rfl) ?_
          refine o_end ?_
          refine za1 ?_
          refine c_seq ?_
          refine zb3 (congrArg Value.bool hr12.lt) ?_
          refine zam ?_
          refine za1 ?_
          refine c_seq ?_
          refine zaj ?_
          refine c_seq ?_
          refine za0 ?_
          refine o_q rfl rfl (za2 rfl) ?_
          refine zas (p := Sh A0_1 l0_1.length l0_1.length) (fun w h => f_sh (dk := kStep) h (fun w h => R0_1.now Z h)) (fun hq42 => ?_)
          refine o_q rfl rfl (q_ix Try.underlying24 Z89 rfl rfl hq42 hr12.get) ?_
          refine o_q rfl rfl (q_ldE G89 Z89 rfl rfl (fun w h => R0_1.now Z h) hr12.get (fun _ _ h => h) rfl) ?_
          refine o_e rfl (zaz V89 rfl) (fun g43 => ?_)
          refine o_q rfl rfl (q_asg rfl) ?_
          refine o_e rfl (zaq (i := 0) rfl rfl rfl Z89 rfl rfl) (fun _ => ?_)
          refine o_end ?_
          refine za1 ?_
          refine c_seq ?_
          refine za0 ?_
          refine o_q rfl rfl (q_f F89_0 rfl) ?_
          refine o_q rfl rfl (q_ldb Y3 rfl (fun w h => h.zaa (i := 0) rfl) rfl) ?_
          refine o_q rfl rfl (q_f F89_1 rfl) ?_
          refine o_q rfl rfl (q_ldb Y3 rfl (fun w h => h.zaa (i := 0) rfl) rfl) ?_
          refine za7 h (fun b46 hx45 h => ?_) rfl
          refine o_e rfl (zac 0 Z Try.func94 N94 rfl rfl rfl (fun w P1 hF hB hS hT => spec_l1In.calls y9.f0 0 y9.f1 hB hF _ hx45)) (fun _ => ?_)
          refine o_q rfl rfl (q_not rfl) ?_
          refine o_q rfl rfl (za2 rfl) ?_
          refine byB b46 (fun hb47 => ?_) (fun hb47 => ?_)
          · replace h := bb_t hb47 h
            refine o_w (za4 rfl rfl rfl (congrArg (fun b => Value.bool (!(b))) hb47)) rfl (q_f F89_1 rfl) ?_
            refine o_w (za4 rfl rfl rfl (congrArg (fun b => Value.bool (!(b))) hb47)) rfl (q_ldb Y3 rfl (fun w h => h.zaa (i := 0) rfl) rfl) ?_
            refine o_w (za4 rfl rfl rfl (congrArg (fun b => Value.bool (!(b))) hb47)) rfl (q_f F27_0 rfl) ?_
            refine o_w (za4 rfl rfl rfl (congrArg (fun b => Value.bool (!(b))) hb47)) rfl (q_ldb Y3 rfl (fun w h => h.zaa (i := 1) rfl) rfl) ?_
            refine o_w (za4 rfl rfl rfl (congrArg (fun b => Value.bool (!(b))) hb47)) rfl (za2 rfl) ?_
            refine o_w (za4 rfl rfl rfl (congrArg (fun b => Value.bool (!(b))) hb47)) rfl (q_add64 rfl rfl) ?_
            refine o_w (za4 rfl rfl rfl (congrArg (fun b => Value.bool (!(b))) hb47)) rfl (q_geq rfl rfl) ?_
            refine o_q rfl rfl (zal false (congrArg (fun b => Value.bool (!(b))) hb47) rfl) ?_
            refine o_end ?_
            refine za1 ?_
            refine zar _ rfl (fun hb48 => ?_) (fun hb48 => ?_)
            · skip
              replace h := br_t hb48 h
              refine c_seq ?_
              refine za0 ?_
              refine o_q rfl rfl (q_asg rfl) ?_
              refine o_end ?_
              refine za1 ?_
              refine c_ret ?_
              refine zao ?_
              refine za9 ?_
              refine za9 ?_
              have e_ := Option.some.inj h; replace h := hR14; rw [← e_] at h; clear e_
              refine zao ?_
              refine za9 ?_
              have e0_ := Option.some.inj h; clear h
              subst e0_
              exact x_r1 () Try.results93 (zaf rfl) rfl (fun w h => za5 [] (by decide) rfl w h)
            · skip
              replace h := br_f hb48 h
              refine zam ?_
              refine zan ?_
              refine za1 ?_
              refine za0 ?_
              refine o_q rfl rfl (q_up rfl rfl (hr12.up hm13)) ?_
              refine o_q rfl rfl (za2 rfl) ?_
              refine o_end ?_
              refine zak ys10.length (ys10, i8 + 1) (by rw [← hk18]; exact Nat.lt_succ_self _) ⟨hr12.step, rfl, h⟩ ⟨rfl, trivial⟩ (fun w h => za5 [1] (by decide) rfl w h) ?_
              repeat (first | exact zad _ _ | refine zah rfl ?_ | refine zae rfl ?_ | refine zai rfl ?_)
          · replace h := bb_f hb47 h
            refine @o_n _ _ _ _ _ _ _ _ _ _ _ 38 (za3 rfl rfl rfl (congrArg (fun b => Value.bool (!(b))) hb47) rfl) (Eq.refl (some 38)) ?_
            refine @o_n _ _ _ _ _ _ _ _ _ _ _ 39 (za3 rfl rfl rfl (congrArg (fun b => Value.bool (!(b))) hb47) rfl) (Eq.refl (some 39)) ?_
            refine @o_n _ _ _ _ _ _ _ _ _ _ _ 40 (za3 rfl rfl rfl (congrArg (fun b => Value.bool (!(b))) hb47) rfl) (Eq.refl (some 40)) ?_
            refine @o_n _ _ _ _ _ _ _ _ _ _ _ 41 (za3 rfl rfl rfl (congrArg (fun b => Value.bool (!(b))) hb47) rfl) (Eq.refl (some 41)) ?_
            refine @o_n _ _ _ _ _ _ _ _ _ _ _ 42 (za3 rfl rfl rfl (congrArg (fun b => Value.bool (!(b))) hb47) rfl) (Eq.refl (some 42)) ?_
            refine @o_n _ _ _ _ _ _ _ _ _ _ _ 43 (za3 rfl rfl rfl (congrArg (fun b => Value.bool (!(b))) hb47) rfl) (Eq.refl (some 43)) ?_
            refine @o_n _ _ _ _ _ _ _ _ _ _ _ 44 (za3 rfl rfl rfl (congrArg (fun b => Value.bool (!(b))) hb47) rfl) (Eq.refl (some 44)) ?_
            refine o_q rfl rfl (zal true (congrArg (fun b => Value.bool (!(b))) hb47) rfl) ?_
            refine o_end ?_
            refine za1 ?_
            refine zb3 rfl ?_
            refine c_seq ?_
            refine za0 ?_
            refine o_q rfl rfl (q_asg rfl) ?_
            refine o_end ?_
            refine za1 ?_
            refine c_ret ?_
            refine zao ?_
            refine za9 ?_
            refine za9 ?_
            have e_ := Option.some.inj h; replace h := hR14; rw [← e_] at h; clear e_
            refine zao ?_
            refine za9 ?_
            have e0_ := Option.some.inj h; clear h
            subst e0_
            exact x_r1 () Try.results93 (zaf rfl) rfl (fun w h => za5 [] (by decide) rfl w h)
  · replace h := bb_f hb5 h
    refine @o_n _ _ _ _ _ _ _ _ _ _ _ 12 (za3 rfl rfl rfl (congrArg (fun b => Value.bool (!(b))) hb5) rfl) (Eq.refl (some 12)) ?_
    refine @o_n _ _ _ _ _ _ _ _ _ _ _ 13 (za3 rfl rfl rfl (congrArg (fun b => Value.bool (!(b))) hb5) rfl) (Eq.refl (some 13)) ?_
    refine @o_n _ _ _ _ _ _ _ _ _ _ _ 14 (za3 rfl rfl rfl (congrArg (fun b => Value.bool (!(b))) hb5) rfl) (Eq.refl (some 14)) ?_
    refine @o_n _ _ _ _ _ _ _ _ _ _ _ 15 (za3 rfl rfl rfl (congrArg (fun b => Value.bool (!(b))) hb5) rfl) (Eq.refl (some 15)) ?_
    refine o_q rfl rfl (zal true (congrArg (fun b => Value.bool (!(b))) hb5) rfl) ?_
    refine o_q rfl rfl (za2 rfl) ?_
    refine @o_n _ _ _ _ _ _ _ _ _ _ _ 18 (za3 rfl rfl rfl rfl rfl) (Eq.refl (some 18)) ?_
    refine @o_n _ _ _ _ _ _ _ _ _ _ _ 19 (za3 rfl rfl rfl rfl rfl) (Eq.refl (some 19)) ?_
    refine @o_n _ _ _ _ _ _ _ _ _ _ _ 20 (za3 rfl rfl rfl rfl rfl) (Eq.refl (some 20)) ?_
    refine @o_n _ _ _ _ _ _ _ _ _ _ _ 21 (za3 rfl rfl rfl rfl rfl) (Eq.refl (some 21)) ?_
    refine o_q rfl rfl (zal true rfl rfl) ?_
    refine o_end ?_
    refine za1 ?_
    refine zb3 rfl ?_
    refine c_seq ?_
    refine za0 ?_
    refine o_q rfl rfl (q_asg rfl) ?_
    refine o_end ?_
    refine za1 ?_
    refine c_ret ?_
    refine za9 ?_
    have e0_ := Option.some.inj h; clear h
    subst e0_
    exact x_r1 () Try.results93 (zaf rfl) rfl (fun w h => za5 [] (by decide) rfl w h)

/-! ### loop.example/g01098/spec.l1Own: function 96 -/
def spec_l1Own.f (l0 : List Int) : Option (List Int) := (ap ([] : List Int) l0).bind fun l4 => some l4
set_option maxHeartbeats 600000 in
set_option maxRecDepth 100000 in
theorem spec_l1Own.calls {w0 ws : World} {P0 : Nat → Prop} (A0 : Option Addr) (c0 : Nat) (n0 : Nat) (l0 : List Int) (Z : Below w0.heap.size w0 ws) (hF : Fr w0 ws P0 [] ws) (R0 : Stable ws P0 (fun w => Kd.C (Kd.int .i64) w A0 n0 l0)) (hc0 : n0 ≤ c0) (r_1 : List Int) (h : spec_l1Own.f l0 = some r_1) :
    Calls Try.prog 96 #[.slice A0 n0 c0] ws (Post1 w0 ws P0 (fun ((q_2, q_3) : (Option Addr) × Nat) => .slice q_2 r_1.length q_3) (fun ((q_2, q_3) : (Option Addr) × Nat) => [row (Kd.int .i64) 3 (.slice q_2 r_1.length q_3) r_1])) := by
  unfold spec_l1Own.f at h
  obtain rfl := (R0 ws (KeptB.refl _ _)).1
  refine enter Try.func96 rfl Try.ntmps96 rfl hF ?_
  refine c_seq ?_
  refine za0 ?_
  refine o_q rfl rfl (q_asg rfl) ?_
  refine o_end ?_
  refine za1 ?_
  refine c_seq ?_
  refine za0 ?_
  refine o_e rfl (e_lit0 (Kd.int .i64) Try.underlying25 I3) (cur2 (fun A1 c2 => ?_))
  refine o_q rfl rfl (za2 rfl) ?_
  refine za7 h (fun l4 ha5 h => ?_) rfl
  refine o_e rfl (e_appr (i := 0) Try.underlying25 I3 rfl (by decide) (by decide) (fun _ _ _ _ h => h) rfl (fun w h => R0.now Z h) rfl rfl ha5) (cur2 (fun A6 c7 => ?_))
  refine o_q rfl rfl (q_asg rfl) ?_
  refine o_end ?_
  refine za1 ?_
  refine c_ret ?_
  have e0_ := Option.some.inj h; clear h
  subst e0_
  exact x_r1 (A6, c7) Try.results96 (zaf rfl) rfl (fun w h => za5 [0] (by decide) rfl w h)

/-! ### loop.example/g01098/spec.l1Has: function 189 -/
def spec_l1Has.l0 (a1 : Int) : (List Int) → Int → Option ((Bool) ⊕ (Unit))
  | [], i1 => some (.inr ())
  | y2 :: ys3, i1 => if y2 = a1 then (some (.inl true)) else (spec_l1Has.l0 a1 ys3 (i1 + 1))
def spec_l1Has.f (l0 : List Int) (a1 : Int) : Option Bool := (spec_l1Has.l0 a1 l0 0).bind fun o_ => match o_ with | .inl r_ => some r_ | .inr _ => some false
set_option maxHeartbeats 600000 in
set_option maxRecDepth 100000 in
theorem spec_l1Has.calls {w0 ws : World} {P0 : Nat → Prop} (A0 : Option Addr) (c0 : Nat) (n0 : Nat) (l0 : List Int) (a1 : Int) (Z : Below w0.heap.size w0 ws) (hF : Fr w0 ws P0 [] ws) (R0 : Stable ws P0 (fun w => Kd.C (Kd.int .i64) w A0 n0 l0)) (hc0 : n0 ≤ c0) (r_1 : Bool) (h : spec_l1Has.f l0 a1 = some r_1) :
    Calls Try.prog 189 #[.slice A0 n0 c0, .int .i64 a1] ws (Post1 w0 ws P0 (fun (_ : Unit) => .bool r_1) (fun (_ : Unit) => [])) := by
  unfold spec_l1Has.f at h
  obtain rfl := (R0 ws (KeptB.refl _ _)).1
  refine enter Try.func189 rfl Try.ntmps189 rfl hF ?_
  refine c_seq ?_
  refine za0 ?_
  refine o_q rfl rfl (q_asg rfl) ?_
  refine o_end ?_
  refine za1 ?_
  refine c_seq ?_
  refine c_seq ?_
  refine za0 ?_
  refine o_q rfl rfl (za2 rfl) ?_
  refine o_q rfl rfl (q_len Try.underlying25 rfl) ?_
  refine o_q rfl rfl (za2 rfl) ?_
  refine o_end ?_
  refine za1 ?_
  refine zaj ?_
  refine za7 h (fun o9 hl8 hR7 => ?_) rfl
  clear h
  refine c_fact (p := l0.length ≤ 9223372036854775807) (fun w h => (R0.now Z h).2.1) (fun hm6 => ?_)
  refine zav (σ := (List Int) × Int) (fun k4 ((ys3, i1) : (List Int) × Int) => Rg l0 i1 ys3 ∧ ys3.length = k4 ∧ spec_l1Has.l0 a1 ys3 i1 = some o9) [4, 6, 9, 10, 11, 12, 13, 14, 15, 16] (fun ((ys3, i1) : (List Int) × Int) => [(9, .int .i64 i1)]) (fun ((ys3, i1) : (List Int) × Int) => []) l0.length (l0, 0) ⟨Rg.start _, rfl, hl8⟩ ⟨rfl, trivial⟩ (fun w h => h) ?_
  refine fun k4 => cur2 (listC (fun i1 U10 hJ_ => ?_) (fun y2 ys3 i1 U10 hJ_ => ?_))
  · skip
    clear hl8
    have hr5 := hJ_.1; have hk11 := hJ_.2.1; have h := hJ_.2.2; clear hJ_
    replace h : spec_l1Has.l0 a1 [] i1 = some o9 := h
    rw [spec_l1Has.l0] at h
    refine c_seq ?_
    refine za0 ?_
    refine o_q rfl rfl (q_lss rfl rfl) ?_
    refine o_end ?_
    refine za1 ?_
    refine c_seq ?_
    refine zb2 (congrArg Value.bool hr5.ge) ?_
    refine c_exit ?_
    refine za6 ?_
    refine za6 ?_
    have e_ := Option.some.inj h; replace h := hR7; rw [← e_] at h; clear e_
    refine x_hit ?_
    refine za1 ?_
    refine c_seq ?_
    refine za0 ?_
    refine o_q rfl rfl (q_asg rfl) ?_
    refine o_end ?_
    refine za1 ?_
    refine c_ret ?_
    have e0_ := Option.some.inj h; clear h
    subst e0_
    exact x_r1 () Try.results189 (zaf rfl) rfl (fun w h => za5 [] (by decide) rfl w h)
  · skip
    clear hl8
    have hr5 := hJ_.1; have hk11 := hJ_.2.1; have h := hJ_.2.2; clear hJ_
    replace h : spec_l1Has.l0 a1 (y2 :: ys3) i1 = some o9 := h
    rw [spec_l1Has.l0] at h
    refine c_seq ?_
    refine za0 ?_
    refine o_q rfl rfl (q_lss rfl rfl) ?_
    refine o_end ?_
    refine za1 ?_
    refine c_seq ?_
    refine zb3 (congrArg Value.bool hr5.lt) ?_
    refine zam ?_
    refine za1 ?_
    refine c_seq ?_
    refine zaj ?_
    refine c_seq ?_
    refine za0 ?_
    refine zas (p := Sh A0 l0.length l0.length) (fun w h => f_sh (dk := (Kd.int .i64)) h (fun w h => R0.now Z h)) (fun hq12 => ?_)
    refine o_q rfl rfl (q_ix Try.underlying25 Z3 rfl rfl hq12 hr5.get) ?_
    refine o_q rfl rfl (q_lde (off := 0) Y3 rfl rfl (fun w h => R0.now Z h) hr5.get (fun _ _ h => h) rfl) ?_
    refine o_q rfl rfl (q_asg rfl) ?_
    refine o_end ?_
    refine za1 ?_
    refine c_seq ?_
    refine za0 ?_
    refine o_q rfl rfl (za2 rfl) ?_
    refine o_q rfl rfl (za2 rfl) ?_
    refine o_q rfl rfl (q_eql rfl rfl) ?_
    refine o_end ?_
    refine za1 ?_
    refine zar _ rfl (fun hb13 => ?_) (fun hb13 => ?_)
    · skip
      replace h := br_t hb13 h
      refine c_seq ?_
      refine za0 ?_
      refine o_q rfl rfl (q_asg rfl) ?_
      refine o_end ?_
      refine za1 ?_
      refine c_ret ?_
      refine zao ?_
      refine za9 ?_
      refine za9 ?_
      have e_ := Option.some.inj h; replace h := hR7; rw [← e_] at h; clear e_
      refine zao ?_
      refine za9 ?_
      have e0_ := Option.some.inj h; clear h
      subst e0_
      exact x_r1 () Try.results189 (zaf rfl) rfl (fun w h => za5 [] (by decide) rfl w h)
    · skip
      replace h := br_f hb13 h
      refine zam ?_
      refine zan ?_
      refine za1 ?_
      refine za0 ?_
      refine o_q rfl rfl (q_up rfl rfl (hr5.up hm6)) ?_
      refine o_q rfl rfl (za2 rfl) ?_
      refine o_end ?_
      refine zak ys3.length (ys3, i1 + 1) (by rw [← hk11]; exact Nat.lt_succ_self _) ⟨hr5.step, rfl, h⟩ ⟨rfl, trivial⟩ (fun w h => za5 [] (by decide) rfl w h) ?_
      repeat (first | exact zad _ _ | refine zah rfl ?_ | refine zae rfl ?_ | refine zai rfl ?_)

/-! ### loop.example/g01098/spec.l1Put: function 184 -/
def spec_l1Put.l0 (l0 : List Int) (a1 : Int) : Nat → Int → Option Int
  | 0, _ => none
  | k26 + 1, i23 => if i23 < (l0.length : Int) then ((gt l0 i23).bind fun y37 => if y37 < a1 then (spec_l1Put.l0 l0 a1 k26 (w64 (i23 + 1))) else (some i23)) else (some i23)
def spec_l1Put.f (k : Nat) (l0 : List Int) (a1 : Int) : Option (List Int) := ((spec_l1Put.l0 l0 a1 k 0)).bind fun i17 => (if i17 < (l0.length : Int) then ((gt l0 i17).bind fun y52 => if y52 = a1 then (some (.inl l0)) else (some (.inr ()))) else (some (.inr ())) : Option (((List Int)) ⊕ (Unit))).bind fun o_ => match o_ with | .inl r_ => some r_ | .inr _ => (ct l0 (0 : Int) i17).bind fun l57 => (ap ([] : List Int) l57).bind fun l60 => (ap l60 ([a1] : List Int)).bind fun l67 => (ct l0 i17 (l0.length : Int)).bind fun l71 => (ap l67 l71).bind fun l74 => some l74
set_option maxHeartbeats 600000 in
set_option maxRecDepth 100000 in
theorem spec_l1Put.calls (k : Nat) {w0 ws : World} {P0 : Nat → Prop} (A0 : Option Addr) (c0 : Nat) (n0 : Nat) (l0 : List Int) (a1 : Int) (Z : Below w0.heap.size w0 ws) (hF : Fr w0 ws P0 [row (Kd.int .i64) 3 (.slice A0 n0 c0) l0] ws)  (r_1 : List Int) (h : spec_l1Put.f k l0 a1 = some r_1) :
    Calls Try.prog 184 #[.slice A0 n0 c0, .int .i64 a1] ws (Post1 w0 ws P0 (fun ((q_2, q_3) : (Option Addr) × Nat) => .slice q_2 r_1.length q_3) (fun ((q_2, q_3) : (Option Addr) × Nat) => [row (Kd.int .i64) 3 (.slice q_2 r_1.length q_3) r_1])) := by
  unfold spec_l1Put.f at h
  obtain rfl := (hF.row_C (i := 0) rfl).2.1
  refine enter Try.func184 rfl Try.ntmps184 rfl hF ?_
  refine c_seq ?_
  refine za0 ?_
  refine o_q rfl rfl (q_asg rfl) ?_
  refine o_end ?_
  refine za1 ?_
  refine c_seq ?_
  refine za0 ?_
  refine o_q rfl rfl (q_asg rfl) ?_
  refine o_end ?_
  refine za1 ?_
  refine za7 h (fun o18 hl19 hR20 => ?_) rfl
  clear h
  refine c_cutJ (σ := Int) (fun i17 => some i17 = some o18) [5, 7, 8, 9, 10, 11, 12, 13, 14, 15, 16, 17, 18, 19, 20] (fun i17 => [(5, .int .i64 i17)]) (fun i17 => [row (Kd.int .i64) 3 (.slice A0 l0.length c0) l0]) ?_ ?_
  · skip
    have h := hl19; clear hl19
    clear hR20
    refine zaj ?_
    have hl30 := h; clear h
    refine zav (σ := Int) (fun k26 (i23 : Int) => spec_l1Put.l0 l0 a1 k26 i23 = some o18) [5, 7, 8, 9, 10, 11, 12, 13, 14, 15, 16, 17, 18, 19, 20] (fun (i23 : Int) => [(5, .int .i64 i23)]) (fun (i23 : Int) => [row (Kd.int .i64) 3 (.slice A0 l0.length c0) l0]) k 0 hl30 ⟨rfl, trivial⟩ (fun w h => h) ?_
    refine natC (fun i23 => fun U32 hJ_ => ?_) (fun k26 => (fun i23 => fun U32 hJ_ => ?_))
    · skip
      replace hJ_ : spec_l1Put.l0 l0 a1 0 i23 = some o18 := hJ_
      rw [spec_l1Put.l0] at hJ_
      exact noneE hJ_
    · skip
      clear hl30
      have h := hJ_; clear hJ_
      replace h : spec_l1Put.l0 l0 a1 (k26 + 1) i23 = some o18 := h
      rw [spec_l1Put.l0] at h
      refine c_seq ?_
      refine c_seq ?_
      refine za0 ?_
      refine o_q rfl rfl (za2 rfl) ?_
      refine o_q rfl rfl (za2 rfl) ?_
      refine o_q rfl rfl (q_len Try.underlying25 rfl) ?_
      refine o_q rfl rfl (q_lss rfl rfl) ?_
      refine o_q rfl rfl (za2 rfl) ?_
      refine byB (decide (i23 < (l0.length : Int))) (fun hb34 => ?_) (fun hb34 => ?_)
      · replace h := br_t hb34 h
        refine o_w (za4 rfl rfl rfl (congrArg Value.bool hb34)) rfl (za2 rfl) ?_
        refine o_w (za4 rfl rfl rfl (congrArg Value.bool hb34)) rfl (za2 rfl) ?_
        refine zas (p := Sh A0 l0.length l0.length) (fun w h => f_sh (dk := (Kd.int .i64)) h (fun w h => h.zaw (i := 0) rfl)) (fun hq35 => ?_)
        refine za7 h (fun y37 hg36 h => ?_) rfl
        refine o_w (za4 rfl rfl rfl (congrArg Value.bool hb34)) rfl (q_ix Try.underlying25 Z3 rfl rfl hq35 hg36) ?_
        refine o_w (za4 rfl rfl rfl (congrArg Value.bool hb34)) rfl (q_lde (off := 0) Y3 rfl rfl (fun w h => h.zaw (i := 0) rfl) hg36 (fun _ _ h => h) rfl) ?_
        refine o_w (za4 rfl rfl rfl (congrArg Value.bool hb34)) rfl (za2 rfl) ?_
        refine o_w (za4 rfl rfl rfl (congrArg Value.bool hb34)) rfl (q_lss rfl rfl) ?_
        refine o_q rfl rfl (zal true (congrArg Value.bool hb34) rfl) ?_
        refine o_end ?_
        refine za1 ?_
        refine zar _ rfl (fun hb38 => ?_) (fun hb38 => ?_)
        · skip
          replace h := br_t hb38 h
          refine zam ?_
          refine za1 ?_
          refine zaj ?_
          refine za0 ?_
          refine o_q rfl rfl (za2 rfl) ?_
          refine o_q rfl rfl (q_add64 rfl rfl) ?_
          refine o_q rfl rfl (q_asg rfl) ?_
          refine o_end ?_
          refine zan ?_
          refine zak k26 (w64 (i23 + 1)) (Nat.lt_succ_self _) h ⟨rfl, trivial⟩ (fun w h => za5 [0] (by decide) rfl w h) ?_
          repeat (first | exact zad _ _ | refine zah rfl ?_ | refine zae rfl ?_ | refine zai rfl ?_)
        · skip
          replace h := br_f hb38 h
          refine c_exit ?_
          refine za6 ?_
          refine za6 ?_
          refine x_hit ?_
          refine zay i23 h ⟨rfl, trivial⟩ (fun w h => za5 [0] (by decide) rfl w h) ?_
          repeat (first | exact zad _ _ | refine zah rfl ?_ | refine zae rfl ?_ | refine zai rfl ?_)
      · replace h := br_f hb34 h
        refine @o_n _ _ _ _ _ _ _ _ _ _ _ 12 (za3 rfl rfl rfl (congrArg Value.bool hb34) rfl) (Eq.refl (some 12)) ?_
        refine @o_n _ _ _ _ _ _ _ _ _ _ _ 13 (za3 rfl rfl rfl (congrArg Value.bool hb34) rfl) (Eq.refl (some 13)) ?_
        refine @o_n _ _ _ _ _ _ _ _ _ _ _ 14 (za3 rfl rfl rfl (congrArg Value.bool hb34) rfl) (Eq.refl (some 14)) ?_
        refine @o_n _ _ _ _ _ _ _ _ _ _ _ 15 (za3 rfl rfl rfl (congrArg Value.bool hb34) rfl) (Eq.refl (some 15)) ?_
        refine @o_n _ _ _ _ _ _ _ _ _ _ _ 16 (za3 rfl rfl rfl (congrArg Value.bool hb34) rfl) (Eq.refl (some 16)) ?_
        refine @o_n _ _ _ _ _ _ _ _ _ _ _ 17 (za3 rfl rfl rfl (congrArg Value.bool hb34) rfl) (Eq.refl (some 17)) ?_
        refine o_q rfl rfl (zal false (congrArg Value.bool hb34) rfl) ?_
        refine o_end ?_
        refine za1 ?_
        refine zb2 rfl ?_
        refine c_exit ?_
        refine za6 ?_
        refine za6 ?_
        refine x_hit ?_
        refine zay i23 h ⟨rfl, trivial⟩ (fun w h => za5 [0] (by decide) rfl w h) ?_
        repeat (first | exact zad _ _ | refine zah rfl ?_ | refine zae rfl ?_ | refine zai rfl ?_)
  · skip
    refine (fun i17 => fun U21 hJ22 => ?_)
    have e_ := Option.some.inj hJ22; have h := hR20; rw [← e_] at h; clear e_ hJ22 hR20 hl19
    refine za7 h (fun o44 hl45 hR46 => ?_) rfl
    clear h
    refine c_cutJ (σ := Unit) (fun _ => some (.inr ()) = some o44) [4, 21, 22, 23, 24, 25, 26, 27, 28, 29, 30, 31, 32, 33] (fun _ => []) (fun _ => [row (Kd.int .i64) 3 (.slice A0 l0.length c0) l0]) ?_ ?_
    · skip
      have h := hl45; clear hl45
      refine c_seq ?_
      refine za0 ?_
      refine o_q rfl rfl (za2 rfl) ?_
      refine o_q rfl rfl (za2 rfl) ?_
      refine o_q rfl rfl (q_len Try.underlying25 rfl) ?_
      refine o_q rfl rfl (q_lss rfl rfl) ?_
      refine o_q rfl rfl (za2 rfl) ?_
      refine byB (decide (i17 < (l0.length : Int))) (fun hb49 => ?_) (fun hb49 => ?_)
      · replace h := br_t hb49 h
        refine o_w (za4 rfl rfl rfl (congrArg Value.bool hb49)) rfl (za2 rfl) ?_
        refine o_w (za4 rfl rfl rfl (congrArg Value.bool hb49)) rfl (za2 rfl) ?_
        refine zas (p := Sh A0 l0.length l0.length) (fun w h => f_sh (dk := (Kd.int .i64)) h (fun w h => h.zaw (i := 0) rfl)) (fun hq50 => ?_)
        refine za7 h (fun y52 hg51 h => ?_) rfl
        refine o_w (za4 rfl rfl rfl (congrArg Value.bool hb49)) rfl (q_ix Try.underlying25 Z3 rfl rfl hq50 hg51) ?_
        refine o_w (za4 rfl rfl rfl (congrArg Value.bool hb49)) rfl (q_lde (off := 0) Y3 rfl rfl (fun w h => h.zaw (i := 0) rfl) hg51 (fun _ _ h => h) rfl) ?_
        refine o_w (za4 rfl rfl rfl (congrArg Value.bool hb49)) rfl (za2 rfl) ?_
        refine o_w (za4 rfl rfl rfl (congrArg Value.bool hb49)) rfl (q_eql rfl rfl) ?_
        refine o_q rfl rfl (zal true (congrArg Value.bool hb49) rfl) ?_
        refine o_end ?_
        refine za1 ?_
        refine zar _ rfl (fun hb53 => ?_) (fun hb53 => ?_)
        · skip
          replace h := br_t hb53 h
          refine c_seq ?_
          refine za0 ?_
          refine o_q rfl rfl (za2 rfl) ?_
          refine o_q rfl rfl (q_asg rfl) ?_
          refine o_end ?_
          refine za1 ?_
          refine c_ret ?_
          refine za9 ?_
          have e_ := Option.some.inj h; replace h := hR46; rw [← e_] at h; clear e_
          have e0_ := Option.some.inj h; clear h
          subst e0_
          exact x_r1 (A0, c0) Try.results184 (zaf rfl) rfl (fun w h => za5 [0] (by decide) rfl w h)
        · skip
          replace h := br_f hb53 h
          refine zam ?_
          refine zay () h trivial (fun w h => za5 [0] (by decide) rfl w h) ?_
          repeat (first | exact zad _ _ | refine zah rfl ?_ | refine zae rfl ?_ | refine zai rfl ?_)
      · replace h := br_f hb49 h
        refine @o_n _ _ _ _ _ _ _ _ _ _ _ 26 (za3 rfl rfl rfl (congrArg Value.bool hb49) rfl) (Eq.refl (some 26)) ?_
        refine @o_n _ _ _ _ _ _ _ _ _ _ _ 27 (za3 rfl rfl rfl (congrArg Value.bool hb49) rfl) (Eq.refl (some 27)) ?_
        refine @o_n _ _ _ _ _ _ _ _ _ _ _ 28 (za3 rfl rfl rfl (congrArg Value.bool hb49) rfl) (Eq.refl (some 28)) ?_
        refine @o_n _ _ _ _ _ _ _ _ _ _ _ 29 (za3 rfl rfl rfl (congrArg Value.bool hb49) rfl) (Eq.refl (some 29)) ?_
        refine @o_n _ _ _ _ _ _ _ _ _ _ _ 30 (za3 rfl rfl rfl (congrArg Value.bool hb49) rfl) (Eq.refl (some 30)) ?_
        refine @o_n _ _ _ _ _ _ _ _ _ _ _ 31 (za3 rfl rfl rfl (congrArg Value.bool hb49) rfl) (Eq.refl (some 31)) ?_
        refine o_q rfl rfl (zal false (congrArg Value.bool hb49) rfl) ?_
        refine o_end ?_
        refine za1 ?_
        refine zb2 rfl ?_
        refine zam ?_
        refine zay () h trivial (fun w h => za5 [0] (by decide) rfl w h) ?_
        repeat (first | exact zad _ _ | refine zah rfl ?_ | refine zae rfl ?_ | refine zai rfl ?_)
    · skip
      refine (fun _ => fun U47 hJ48 => ?_)
      have e_ := Option.some.inj hJ48; have h := hR46; rw [← e_] at h; clear e_ hJ48 hR46 hl45
      refine c_seq ?_
      refine za0 ?_
      refine o_e rfl (e_lit0 (Kd.int .i64) Try.underlying25 I3) (cur2 (fun A54 c55 => ?_))
      refine o_q rfl rfl (za2 rfl) ?_
      refine o_q rfl rfl (za2 rfl) ?_
      refine za7 h (fun l57 hz58 h => ?_) rfl
      refine zas (p := l0.length = l0.length ∧ l0.length ≤ c0) (fun w h => h.row_nc (i := 1) rfl) (fun hk59 => ?_)
      refine o_q rfl rfl (q_ctv Try.underlying25 Z3 rfl rfl ⟨_, rfl⟩ hk59.1 hk59.2 hz58) ?_
      refine za7 h (fun l60 ha61 h => ?_) rfl
      refine o_e rfl (e_appr (i := 0) Try.underlying25 I3 rfl (by decide) (by decide) (fun _ _ _ _ h => h) rfl (fun w h => C_cut (dk := (Kd.int .i64)) rfl hz58 hk59.2 (h.zaw (i := 1) rfl)) rfl rfl ha61) (cur2 (fun A62 c63 => ?_))
      refine o_q rfl rfl (q_asg rfl) ?_
      refine o_end ?_
      refine za1 ?_
      refine c_seq ?_
      refine za0 ?_
      refine o_q rfl rfl (za2 rfl) ?_
      refine o_q rfl rfl (za2 rfl) ?_
      refine o_e rfl (e_lit (vs := [(0, .int .i64 a1)]) (cs := [.int .i64 a1]) (Kd.int .i64) ([a1] : List Int) Try.underlying25 I3 (by decide) rfl (by decide) rfl rfl (fun _ _ => Kd.zat _)) (cur2 (fun A64 c65 => ?_))
      refine za7 h (fun l67 ha68 h => ?_) rfl
      refine o_e rfl (e_app (i := 1) (j := 0) Try.underlying25 I3 rfl (by decide) (by decide) rfl rfl rfl rfl rfl ha68) (cur2 (fun A69 c70 => ?_))
      refine o_q rfl rfl (q_asg rfl) ?_
      refine o_end ?_
      refine za1 ?_
      refine c_seq ?_
      refine za0 ?_
      refine o_q rfl rfl (za2 rfl) ?_
      refine o_q rfl rfl (za2 rfl) ?_
      refine o_q rfl rfl (za2 rfl) ?_
      refine za7 h (fun l71 hz72 h => ?_) rfl
      refine zas (p := l0.length = l0.length ∧ l0.length ≤ c0) (fun w h => h.row_nc (i := 2) rfl) (fun hk73 => ?_)
      refine o_q rfl rfl (q_ctv Try.underlying25 Z3 rfl ⟨_, rfl⟩ rfl hk73.1 hk73.2 hz72) ?_
      refine za7 h (fun l74 ha75 h => ?_) rfl
      refine o_e rfl (e_appr (i := 1) Try.underlying25 I3 rfl (by decide) (by decide) (fun _ _ _ _ h => h) rfl (fun w h => C_cut (dk := (Kd.int .i64)) rfl hz72 hk73.2 (h.zaw (i := 2) rfl)) rfl rfl ha75) (cur2 (fun A76 c77 => ?_))
      refine o_q rfl rfl (q_asg rfl) ?_
      refine o_end ?_
      refine za1 ?_
      refine c_ret ?_
      have e0_ := Option.some.inj h; clear h
      subst e0_
      exact x_r1 (A76, c77) Try.results184 (zaf rfl) rfl (fun w h => za5 [1] (by decide) rfl w h)

/-! ### loop.example/g01098/spec.plUsed: function 112 -/
def spec_plUsed.l0 (k : Nat) (a0_0 : Int) (l0_1 : List SStep) : Nat → (List Int) → (List Int) → Int → Option ((List Int) × (List Int))
  | 0, _, _, _ => none
  | k17 + 1, l8, l11, i14 => if 0 ≤ i14 then ((spec_l1Has.f l8 (w64 (a0_0 + i14))).bind fun b27 => if b27 = true then ((gt l0_1 i14).bind fun y31 => (gt l0_1 i14).bind fun y33 => (ap l8 ([y31.f0, y33.f1] : List Int)).bind fun l37 => (spec_l1Put.f k l11 i14).bind fun l42 => spec_plUsed.l0 k a0_0 l0_1 k17 l37 l42 (w64 (i14 - 1))) else (spec_plUsed.l0 k a0_0 l0_1 k17 l8 l11 (w64 (i14 - 1)))) else (some (l8, l11))
def spec_plUsed.f (k : Nat) (a0_0 : Int) (l0_1 : List SStep) (l0_2 : List Int) : Option (List Int) := (spec_l1Own.f l0_2).bind fun l4 => (spec_plUsed.l0 k a0_0 l0_1 k l4 ([] : List Int) (w64 ((l0_1.length : Int) - 1))).bind fun (l8, l11) => some l11
set_option maxHeartbeats 600000 in
set_option maxRecDepth 100000 in
theorem spec_plUsed.calls (k : Nat) {w0 ws : World} {P0 : Nat → Prop} (a0_0 : Int) (A0_1 : Option Addr) (c0_1 : Nat) (n0_1 : Nat) (l0_1 : List SStep) (A0_2 : Option Addr) (c0_2 : Nat) (n0_2 : Nat) (l0_2 : List Int) (Z : Below w0.heap.size w0 ws) (hF : Fr w0 ws P0 [] ws) (R0_1 : Stable ws P0 (fun w => Kd.C kStep w A0_1 n0_1 l0_1)) (hc0_1 : n0_1 ≤ c0_1) (R0_2 : Stable ws P0 (fun w => Kd.C (Kd.int .i64) w A0_2 n0_2 l0_2)) (hc0_2 : n0_2 ≤ c0_2) (r_1 : List Int) (h : spec_plUsed.f k a0_0 l0_1 l0_2 = some r_1) :
    Calls Try.prog 112 #[.agg #[.int .i64 a0_0, .slice A0_1 n0_1 c0_1, .slice A0_2 n0_2 c0_2]] ws (Post1 w0 ws P0 (fun ((q_2, q_3) : (Option Addr) × Nat) => .slice q_2 r_1.length q_3) (fun ((q_2, q_3) : (Option Addr) × Nat) => [row (Kd.int .i64) 3 (.slice q_2 r_1.length q_3) r_1])) := by
  unfold spec_plUsed.f at h
  obtain rfl := (R0_1 ws (KeptB.refl _ _)).1
  obtain rfl := (R0_2 ws (KeptB.refl _ _)).1
  refine enter Try.func112 rfl Try.ntmps112 rfl hF ?_
  refine c_seq ?_
  refine za0 ?_
  refine o_e rfl (e_box rfl) (fun g1 => ?_)
  refine o_q rfl rfl (q_asg rfl) ?_
  refine o_end ?_
  refine za1 ?_
  refine c_seq ?_
  refine za0 ?_
  refine o_q rfl rfl (q_f F27_2 rfl) ?_
  refine o_q rfl rfl (q_ldb Y25 rfl (fun w h => h.zaa (i := 0) rfl) rfl) ?_
  refine za7 h (fun l4 hx3 h => ?_) rfl
  refine o_e rfl (zac 0 Z Try.func96 N96 rfl rfl rfl (fun w P1 hF hB hS hT => spec_l1Own.calls A0_2 c0_2 l0_2.length l0_2 hB hF (hS _ R0_2) hc0_2 _ hx3)) (cur2 (fun A5 c6 => ?_))
  refine o_q rfl rfl (q_asg rfl) ?_
  refine o_end ?_
  refine za1 ?_
  refine c_seq ?_
  refine za0 ?_
  refine o_q rfl rfl (q_asg rfl) ?_
  refine o_end ?_
  refine za1 ?_
  refine c_seq ?_
  refine c_seq ?_
  refine za0 ?_
  refine o_q rfl rfl (q_f F27_1 rfl) ?_
  refine o_q rfl rfl (q_ldb Y24 rfl (fun w h => h.zaa (i := 1) rfl) rfl) ?_
  refine o_q rfl rfl (q_len Try.underlying24 rfl) ?_
  refine o_q rfl rfl (q_sub64 rfl rfl) ?_
  refine o_q rfl rfl (q_asg rfl) ?_
  refine o_end ?_
  refine za1 ?_
  refine zaj ?_
  refine c_nil (Kd.int .i64) 3 ?_
  refine za7 h (fun o22 hl21 hR20 => ?_) rfl
  clear h
  refine zav (σ := (List Int) × (List Int) × Int × (Option Addr) × Nat × (Option Addr) × Nat) (fun k17 ((l8, l11, i14, A9, c10, A12, c13) : (List Int) × (List Int) × Int × (Option Addr) × Nat × (Option Addr) × Nat) => spec_plUsed.l0 k a0_0 l0_1 k17 l8 l11 i14 = some o22) [3, 4, 5, 13, 14, 15, 16, 17, 18, 19, 20, 21, 22, 23, 24, 25, 26, 27, 28, 29, 30, 31, 32, 33, 34, 35, 36, 37, 38, 39, 40] (fun ((l8, l11, i14, A9, c10, A12, c13) : (List Int) × (List Int) × Int × (Option Addr) × Nat × (Option Addr) × Nat) => [(3, .slice A9 l8.length c10), (4, .slice A12 l11.length c13), (5, .int .i64 i14)]) (fun ((l8, l11, i14, A9, c10, A12, c13) : (List Int) × (List Int) × Int × (Option Addr) × Nat × (Option Addr) × Nat) => [row (Kd.int .i64) 3 (.slice A12 l11.length c13) l11, row (Kd.int .i64) 3 (.slice A9 l8.length c10) l8, box g1 27 #[.int .i64 a0_0, .slice A0_1 l0_1.length c0_1, .slice A0_2 l0_2.length c0_2]]) k (l4, ([] : List Int), w64 ((l0_1.length : Int) - 1), A5, c6, none, 0) hl21 ⟨rfl, rfl, rfl, trivial⟩ (fun w h => h) ?_
  refine natC (cur7 (fun l8 l11 i14 A9 c10 A12 c13 => fun U23 hJ_ => ?_)) (fun k17 => (cur7 (fun l8 l11 i14 A9 c10 A12 c13 => fun U23 hJ_ => ?_)))
  · skip
    replace hJ_ : spec_plUsed.l0 k a0_0 l0_1 0 l8 l11 i14 = some o22 := hJ_
    rw [spec_plUsed.l0] at hJ_
    exact noneE hJ_
  · skip
    clear hl21
    have h := hJ_; clear hJ_
    replace h : spec_plUsed.l0 k a0_0 l0_1 (k17 + 1) l8 l11 i14 = some o22 := h
    rw [spec_plUsed.l0] at h
    refine c_seq ?_
    refine c_seq ?_
    refine za0 ?_
    refine o_q rfl rfl (za2 rfl) ?_
    refine o_q rfl rfl (q_geq rfl rfl) ?_
    refine o_end ?_
    refine za1 ?_
    refine zar _ rfl (fun hb25 => ?_) (fun hb25 => ?_)
    · skip
      replace h := br_t hb25 h
      refine zam ?_
      refine za1 ?_
      refine c_seq ?_
      refine zaj ?_
      refine c_seq ?_
      refine za0 ?_
      refine o_q rfl rfl (za2 rfl) ?_
      refine o_q rfl rfl (q_f F27_0 rfl) ?_
      refine o_q rfl rfl (q_ldb Y3 rfl (fun w h => h.zaa (i := 2) rfl) rfl) ?_
      refine o_q rfl rfl (za2 rfl) ?_
      refine o_q rfl rfl (q_add64 rfl rfl) ?_
      refine za7 h (fun b27 hx26 h => ?_) rfl
      refine o_e rfl (zac 0 Z Try.func189 N189 rfl rfl rfl (fun w P1 hF hB hS hT => spec_l1Has.calls A9 c10 l8.length l8 (w64 (a0_0 + i14)) hB hF (hT 1 _ rfl).row (hT 1 _ rfl).cap _ hx26)) (fun _ => ?_)
      refine o_end ?_
      refine za1 ?_
      refine zar _ rfl (fun hb28 => ?_) (fun hb28 => ?_)
      · skip
        replace h := bb_t hb28 h
        refine c_seq ?_
        refine a_startS (ds := []) [some 0, none, some 2] MO rfl ?_
        refine za8 0 rfl rfl rfl (by kernel_rfl) (fun _ _ _ h => h) (za2 rfl) ?_
        refine za8 1 rfl rfl rfl (by kernel_rfl) (fun _ _ _ h => h) (q_f F27_1 rfl) ?_
        refine a_take 2 rfl rfl rfl (by kernel_rfl) (fun _ _ _ h => h) (fun w h => zab [some 0, none, some 2] (by decide) w h rfl) (q_ldb Y24 rfl (fun w h => h.zaa (i := 2) rfl) rfl) ?_
        refine za8 3 rfl rfl rfl (by kernel_rfl) (fun _ _ _ h => h) (za2 rfl) ?_
        refine a_fact (p := Sh A0_1 l0_1.length l0_1.length) (fun w h => f_sh (dk := kStep) h (fun w h => R0_1.now Z h)) (fun hq29 => ?_)
        refine za7 h (fun y31 hg30 h => ?_) rfl
        refine za8 4 rfl rfl rfl (by kernel_rfl) (fun _ _ _ h => h) (q_ix Try.underlying24 Z89 rfl rfl hq29 hg30) ?_
        refine za8 5 rfl rfl rfl (by kernel_rfl) (fun _ _ _ h => h) (q_fe F89_0 rfl) ?_
        refine a_take 6 rfl rfl rfl (by kernel_rfl) (fun _ _ _ h => h) (fun w h => zab [some 0, none, some 2] (by decide) w h rfl) (q_lde (off := 0) Y3 rfl rfl (fun w h => R0_1.now Z h) hg30 (fun _ _ h => h) rfl) ?_
        refine za8 7 rfl rfl rfl (by kernel_rfl) (fun _ _ _ h => h) (q_f F27_1 rfl) ?_
        refine a_take 8 rfl rfl rfl (by kernel_rfl) (fun _ _ _ h => h) (fun w h => zab [some 0, none, some 2] (by decide) w h rfl) (q_ldb Y24 rfl (fun w h => h.zaa (i := 2) rfl) rfl) ?_
        refine za8 9 rfl rfl rfl (by kernel_rfl) (fun _ _ _ h => h) (za2 rfl) ?_
        refine za7 h (fun y33 hg32 h => ?_) rfl
        refine za8 10 rfl rfl rfl (by kernel_rfl) (fun _ _ _ h => h) (q_ix Try.underlying24 Z89 rfl rfl hq29 hg32) ?_
        refine za8 11 rfl rfl rfl (by kernel_rfl) (fun _ _ _ h => h) (q_fe F89_1 rfl) ?_
        refine a_take 12 rfl rfl rfl (by kernel_rfl) (fun _ _ _ h => h) (fun w h => zab [some 0, none, some 2] (by decide) w h rfl) (q_lde (off := 1) Y3 rfl rfl (fun w h => R0_1.now Z h) hg32 (fun _ _ h => h) rfl) ?_
        refine a_one 13 rfl rfl (by kernel_rfl) rfl (e_lit (vs := [(0, .int .i64 y31.f0), (1, .int .i64 y33.f1)]) (cs := [.int .i64 y31.f0, .int .i64 y33.f1]) (Kd.int .i64) ([y31.f0, y33.f1] : List Int) Try.underlying25 I3 (by decide) rfl (by decide) rfl rfl (fun _ _ => Kd.zat _)) (fun s w h => zab [some 1, none, some 3] (by decide) w h rfl) (cur2 (fun A34 c35 => ?_))
        refine za7 h (fun l37 ha38 h => ?_) rfl
        refine a_one 14 rfl rfl (by kernel_rfl) rfl (e_app (i := 2) (j := 0) Try.underlying25 I3 rfl (by decide) (by decide) rfl rfl rfl rfl rfl ha38) (fun s w h => zab [some 1, none, some 3] (by decide) w h rfl) (cur2 (fun A39 c40 => ?_))
        refine za8 15 rfl rfl rfl (by kernel_rfl) (fun _ _ _ h => h) (q_asg rfl) ?_
        refine zb0 (by kernel_rfl) ?_
        refine za1 ?_
        refine za0 ?_
        refine o_q rfl rfl (za2 rfl) ?_
        refine o_q rfl rfl (za2 rfl) ?_
        refine o_pick [1, 2, 3] (by decide) rfl ?_
        refine za7 h (fun l42 hx41 h => ?_) rfl
        refine o_e rfl (zac 1 Z Try.func184 N184 rfl rfl rfl (fun w P1 hF hB hS hT => spec_l1Put.calls k A12 c13 l11.length l11 i14 hB hF _ hx41)) (cur2 (fun A43 c44 => ?_))
        refine o_q rfl rfl (q_asg rfl) ?_
        refine o_end ?_
        refine zan ?_
        refine za1 ?_
        refine za0 ?_
        refine o_q rfl rfl (za2 rfl) ?_
        refine o_q rfl rfl (q_sub64 rfl rfl) ?_
        refine o_q rfl rfl (q_asg rfl) ?_
        refine o_end ?_
        refine zak k17 (l37, l42, w64 (i14 - 1), A39, c40, A43, c44) (Nat.lt_succ_self _) h ⟨rfl, rfl, rfl, trivial⟩ (fun w h => za5 [0, 1, 2] (by decide) rfl w h) ?_
        repeat (first | exact zad _ _ | refine zah rfl ?_ | refine zae rfl ?_ | refine zai rfl ?_)
      · skip
        replace h := bb_f hb28 h
        refine zam ?_
        refine zan ?_
        refine za1 ?_
        refine za0 ?_
        refine o_q rfl rfl (za2 rfl) ?_
        refine o_q rfl rfl (q_sub64 rfl rfl) ?_
        refine o_q rfl rfl (q_asg rfl) ?_
        refine o_end ?_
        refine zak k17 (l8, l11, w64 (i14 - 1), A9, c10, A12, c13) (Nat.lt_succ_self _) h ⟨rfl, rfl, rfl, trivial⟩ (fun w h => za5 [0, 1, 2] (by decide) rfl w h) ?_
        repeat (first | exact zad _ _ | refine zah rfl ?_ | refine zae rfl ?_ | refine zai rfl ?_)
    · skip
      replace h := br_f hb25 h
      refine c_exit ?_
      refine za6 ?_
      refine za6 ?_
      have e_ := Option.some.inj h; replace h := hR20; rw [← e_] at h; clear e_
      refine x_hit ?_
      refine za1 ?_
      refine c_seq ?_
      refine za0 ?_
      refine o_q rfl rfl (za2 rfl) ?_
      refine o_q rfl rfl (q_asg rfl) ?_
      refine o_end ?_
      refine za1 ?_
      refine c_ret ?_
      have e0_ := Option.some.inj h; clear h
      subst e0_
      exact x_r1 (A12, c13) Try.results112 (zaf rfl) rfl (fun w h => za5 [0] (by decide) rfl w h)

/-! ### loop.example/g01098/spec.plPlace: function 185 -/
def spec_plPlace.l0 (a1 : Int) : (List Int) → Int → Option ((Int) ⊕ (Unit))
  | [], i1 => some (.inr ())
  | y2 :: ys3, i1 => if y2 = a1 then (some (.inl i1)) else (spec_plPlace.l0 a1 ys3 (i1 + 1))
def spec_plPlace.f (l0 : List Int) (a1 : Int) : Option Int := (spec_plPlace.l0 a1 l0 0).bind fun o_ => match o_ with | .inl r_ => some r_ | .inr _ => some (-1)
set_option maxHeartbeats 600000 in
set_option maxRecDepth 100000 in
theorem spec_plPlace.calls {w0 ws : World} {P0 : Nat → Prop} (A0 : Option Addr) (c0 : Nat) (n0 : Nat) (l0 : List Int) (a1 : Int) (Z : Below w0.heap.size w0 ws) (hF : Fr w0 ws P0 [] ws) (R0 : Stable ws P0 (fun w => Kd.C (Kd.int .i64) w A0 n0 l0)) (hc0 : n0 ≤ c0) (r_1 : Int) (h : spec_plPlace.f l0 a1 = some r_1) :
    Calls Try.prog 185 #[.slice A0 n0 c0, .int .i64 a1] ws (Post1 w0 ws P0 (fun (_ : Unit) => .int .i64 r_1) (fun (_ : Unit) => [])) := by
  unfold spec_plPlace.f at h
  obtain rfl := (R0 ws (KeptB.refl _ _)).1
  refine enter Try.func185 rfl Try.ntmps185 rfl hF ?_
  refine c_seq ?_
  refine za0 ?_
  refine o_q rfl rfl (q_asg rfl) ?_
  refine o_end ?_
  refine za1 ?_
  refine c_seq ?_
  refine c_seq ?_
  refine za0 ?_
  refine o_q rfl rfl (za2 rfl) ?_
  refine o_q rfl rfl (q_len Try.underlying25 rfl) ?_
  refine o_q rfl rfl (za2 rfl) ?_
  refine o_end ?_
  refine za1 ?_
  refine zaj ?_
  refine za7 h (fun o9 hl8 hR7 => ?_) rfl
  clear h
  refine c_fact (p := l0.length ≤ 9223372036854775807) (fun w h => (R0.now Z h).2.1) (fun hm6 => ?_)
  refine zav (σ := (List Int) × Int) (fun k4 ((ys3, i1) : (List Int) × Int) => Rg l0 i1 ys3 ∧ ys3.length = k4 ∧ spec_plPlace.l0 a1 ys3 i1 = some o9) [4, 5, 6, 9, 10, 11, 12, 13, 14, 15, 16, 17, 18] (fun ((ys3, i1) : (List Int) × Int) => [(9, .int .i64 i1)]) (fun ((ys3, i1) : (List Int) × Int) => []) l0.length (l0, 0) ⟨Rg.start _, rfl, hl8⟩ ⟨rfl, trivial⟩ (fun w h => h) ?_
  refine fun k4 => cur2 (listC (fun i1 U10 hJ_ => ?_) (fun y2 ys3 i1 U10 hJ_ => ?_))
  · skip
    clear hl8
    have hr5 := hJ_.1; have hk11 := hJ_.2.1; have h := hJ_.2.2; clear hJ_
    replace h : spec_plPlace.l0 a1 [] i1 = some o9 := h
    rw [spec_plPlace.l0] at h
    refine c_seq ?_
    refine za0 ?_
    refine o_q rfl rfl (q_lss rfl rfl) ?_
    refine o_end ?_
    refine za1 ?_
    refine c_seq ?_
    refine zb2 (congrArg Value.bool hr5.ge) ?_
    refine c_exit ?_
    refine za6 ?_
    refine za6 ?_
    have e_ := Option.some.inj h; replace h := hR7; rw [← e_] at h; clear e_
    refine x_hit ?_
    refine za1 ?_
    refine c_seq ?_
    refine za0 ?_
    refine o_q rfl rfl (q_asg rfl) ?_
    refine o_end ?_
    refine za1 ?_
    refine c_ret ?_
    have e0_ := Option.some.inj h; clear h
    subst e0_
    exact x_r1 () Try.results185 (zaf rfl) rfl (fun w h => za5 [] (by decide) rfl w h)
  · skip
    clear hl8
    have hr5 := hJ_.1; have hk11 := hJ_.2.1; have h := hJ_.2.2; clear hJ_
    replace h : spec_plPlace.l0 a1 (y2 :: ys3) i1 = some o9 := h
    rw [spec_plPlace.l0] at h
    refine c_seq ?_
    refine za0 ?_
    refine o_q rfl rfl (q_lss rfl rfl) ?_
    refine o_end ?_
    refine za1 ?_
    refine c_seq ?_
    refine zb3 (congrArg Value.bool hr5.lt) ?_
    refine zam ?_
    refine za1 ?_
    refine c_seq ?_
    refine zaj ?_
    refine c_seq ?_
    refine za0 ?_
    refine o_q rfl rfl (za2 rfl) ?_
    refine zas (p := Sh A0 l0.length l0.length) (fun w h => f_sh (dk := (Kd.int .i64)) h (fun w h => R0.now Z h)) (fun hq12 => ?_)
    refine o_q rfl rfl (q_ix Try.underlying25 Z3 rfl rfl hq12 hr5.get) ?_
    refine o_q rfl rfl (q_lde (off := 0) Y3 rfl rfl (fun w h => R0.now Z h) hr5.get (fun _ _ h => h) rfl) ?_
    refine o_q rfl rfl (q_asg rfl) ?_
    refine o_q rfl rfl (q_asg rfl) ?_
    refine o_end ?_
    refine za1 ?_
    refine c_seq ?_
    refine za0 ?_
    refine o_q rfl rfl (za2 rfl) ?_
    refine o_q rfl rfl (za2 rfl) ?_
    refine o_q rfl rfl (q_eql rfl rfl) ?_
    refine o_end ?_
    refine za1 ?_
    refine zar _ rfl (fun hb13 => ?_) (fun hb13 => ?_)
    · skip
      replace h := br_t hb13 h
      refine c_seq ?_
      refine za0 ?_
      refine o_q rfl rfl (za2 rfl) ?_
      refine o_q rfl rfl (q_asg rfl) ?_
      refine o_end ?_
      refine za1 ?_
      refine c_ret ?_
      refine zao ?_
      refine za9 ?_
      refine za9 ?_
      have e_ := Option.some.inj h; replace h := hR7; rw [← e_] at h; clear e_
      refine zao ?_
      refine za9 ?_
      have e0_ := Option.some.inj h; clear h
      subst e0_
      exact x_r1 () Try.results185 (zaf rfl) rfl (fun w h => za5 [] (by decide) rfl w h)
    · skip
      replace h := br_f hb13 h
      refine zam ?_
      refine zan ?_
      refine za1 ?_
      refine za0 ?_
      refine o_q rfl rfl (q_up rfl rfl (hr5.up hm6)) ?_
      refine o_q rfl rfl (za2 rfl) ?_
      refine o_end ?_
      refine zak ys3.length (ys3, i1 + 1) (by rw [← hk11]; exact Nat.lt_succ_self _) ⟨hr5.step, rfl, h⟩ ⟨rfl, trivial⟩ (fun w h => za5 [] (by decide) rfl w h) ?_
      repeat (first | exact zad _ _ | refine zah rfl ?_ | refine zae rfl ?_ | refine zai rfl ?_)

/-! ### loop.example/g01098/spec.plNumber: function 188 -/
def spec_plNumber.f (a0_0 : Int) (l0_1 : List SStep) (l0_2 : List Int) (l1 : List Int) (a2 : Int) : Option Int := if a2 < a0_0 then (some a2) else ((spec_plPlace.f l1 (w64 (a2 - a0_0))).bind fun i5 => some (w64 (a0_0 + i5)))
set_option maxHeartbeats 600000 in
set_option maxRecDepth 100000 in
theorem spec_plNumber.calls {w0 ws : World} {P0 : Nat → Prop} (a0_0 : Int) (A0_1 : Option Addr) (c0_1 : Nat) (n0_1 : Nat) (l0_1 : List SStep) (A0_2 : Option Addr) (c0_2 : Nat) (n0_2 : Nat) (l0_2 : List Int) (A1 : Option Addr) (c1 : Nat) (n1 : Nat) (l1 : List Int) (a2 : Int) (Z : Below w0.heap.size w0 ws) (hF : Fr w0 ws P0 [] ws) (R0_1 : Stable ws P0 (fun w => Kd.C kStep w A0_1 n0_1 l0_1)) (hc0_1 : n0_1 ≤ c0_1) (R0_2 : Stable ws P0 (fun w => Kd.C (Kd.int .i64) w A0_2 n0_2 l0_2)) (hc0_2 : n0_2 ≤ c0_2) (R1 : Stable ws P0 (fun w => Kd.C (Kd.int .i64) w A1 n1 l1)) (hc1 : n1 ≤ c1) (r_1 : Int) (h : spec_plNumber.f a0_0 l0_1 l0_2 l1 a2 = some r_1) :
    Calls Try.prog 188 #[.agg #[.int .i64 a0_0, .slice A0_1 n0_1 c0_1, .slice A0_2 n0_2 c0_2], .slice A1 n1 c1, .int .i64 a2] ws (Post1 w0 ws P0 (fun (_ : Unit) => .int .i64 r_1) (fun (_ : Unit) => [])) := by
  unfold spec_plNumber.f at h
  obtain rfl := (R0_1 ws (KeptB.refl _ _)).1
  obtain rfl := (R0_2 ws (KeptB.refl _ _)).1
  obtain rfl := (R1 ws (KeptB.refl _ _)).1
  refine enter Try.func188 rfl Try.ntmps188 rfl hF ?_
  refine c_seq ?_
  refine za0 ?_
  refine o_e rfl (e_box rfl) (fun g1 => ?_)
  refine o_q rfl rfl (q_asg rfl) ?_
  refine o_end ?_
  refine za1 ?_
  refine c_seq ?_
  refine c_seq ?_
  refine za0 ?_
  refine o_q rfl rfl (za2 rfl) ?_
  refine o_q rfl rfl (q_f F27_0 rfl) ?_
  refine o_q rfl rfl (q_ldb Y3 rfl (fun w h => h.zaa (i := 0) rfl) rfl) ?_
  refine o_q rfl rfl (q_lss rfl rfl) ?_
  refine o_end ?_
  refine za1 ?_
  refine zar _ rfl (fun hb3 => ?_) (fun hb3 => ?_)
  · skip
    replace h := br_t hb3 h
    refine c_seq ?_
    refine za0 ?_
    refine o_q rfl rfl (za2 rfl) ?_
    refine o_q rfl rfl (q_asg rfl) ?_
    refine o_end ?_
    refine za1 ?_
    refine c_ret ?_
    refine za9 ?_
    have e0_ := Option.some.inj h; clear h
    subst e0_
    exact x_r1 () Try.results188 (zaf rfl) rfl (fun w h => za5 [] (by decide) rfl w h)
  · skip
    replace h := br_f hb3 h
    refine zam ?_
    refine za1 ?_
    refine c_seq ?_
    refine a_start (ds := []) MO rfl ?_
    refine za8 0 rfl rfl rfl (by kernel_rfl) (fun _ _ _ h => h) (q_f F27_0 rfl) ?_
    refine a_take 1 rfl rfl rfl (by kernel_rfl) (fun _ _ _ h => h) (fun w h => h) (q_ldb Y3 rfl (fun w h => h.zaa (i := 0) rfl) rfl) ?_
    refine za8 2 rfl rfl rfl (by kernel_rfl) (fun _ _ _ h => h) (za2 rfl) ?_
    refine za8 3 rfl rfl rfl (by kernel_rfl) (fun _ _ _ h => h) (za2 rfl) ?_
    refine za8 4 rfl rfl rfl (by kernel_rfl) (fun _ _ _ h => h) (q_f F27_0 rfl) ?_
    refine a_take 5 rfl rfl rfl (by kernel_rfl) (fun _ _ _ h => h) (fun w h => h) (q_ldb Y3 rfl (fun w h => h.zaa (i := 0) rfl) rfl) ?_
    refine za8 6 rfl rfl rfl (by kernel_rfl) (fun _ _ _ h => h) (q_sub64 rfl rfl) ?_
    refine za7 h (fun i5 hx4 h => ?_) rfl
    refine a_one 7 rfl rfl (by kernel_rfl) rfl (zac 0 Z Try.func185 N185 rfl rfl rfl (fun w P1 hF hB hS hT => spec_plPlace.calls A1 c1 l1.length l1 (w64 (a2 - a0_0)) hB hF (hS _ R1) hc1 _ hx4)) (fun s w h => h) (fun _ => ?_)
    refine za8 8 rfl rfl rfl (by kernel_rfl) (fun _ _ _ h => h) (q_add64 rfl rfl) ?_
    refine za8 9 rfl rfl rfl (by kernel_rfl) (fun _ _ _ h => h) (q_asg rfl) ?_
    refine zb0 (by kernel_rfl) ?_
    refine za1 ?_
    refine c_ret ?_
    have e0_ := Option.some.inj h; clear h
    subst e0_
    exact x_r1 () Try.results188 (zaf rfl) rfl (fun w h => za5 [] (by decide) rfl w h)

/-! ### loop.example/g01098/spec.plKeep: function 111 -/
def spec_plKeep.l1 (a0_0 : Int) (l0_1 : List SStep) (l0_2 : List Int) (l1 : List Int) : (List Int) → (List Int) → Int → Option (List Int)
  | [], l23, i26 => some l23
  | y27 :: ys28, l23, i26 => (spec_plNumber.f a0_0 l0_1 l0_2 l1 y27).bind fun i340 => (ap l23 ([i340] : List Int)).bind fun l459 => spec_plKeep.l1 a0_0 l0_1 l0_2 l1 ys28 l459 (i26 + 1)
def spec_plKeep.l0 (a0_0 : Int) (l0_1 : List SStep) (l0_2 : List Int) (l1 : List Int) : (List Int) → (List SStep) → Int → Option (List SStep)
  | [], l8, i11 => some l8
  | y12 :: ys13, l8, i11 => (gt l0_1 y12).bind fun y702 => (spec_plNumber.f a0_0 l0_1 l0_2 l1 y702.f0).bind fun i1067 => (spec_plNumber.f a0_0 l0_1 l0_2 l1 y702.f1).bind fun i1367 => (spec_plStep.f i1067 i1367).bind fun z1427 => (ap l8 ([z1427] : List SStep)).bind fun l1546 => spec_plKeep.l0 a0_0 l0_1 l0_2 l1 ys13 l1546 (i11 + 1)
def spec_plKeep.f (a0_0 : Int) (l0_1 : List SStep) (l0_2 : List Int) (l1 : List Int) : Option ((List SStep) × (List Int)) := (spec_plKeep.l0 a0_0 l0_1 l0_2 l1 l1 ([] : List SStep) 0).bind fun l8 => (spec_plKeep.l1 a0_0 l0_1 l0_2 l1 l0_2 ([] : List Int) 0).bind fun l23 => some (l8, l23)
set_option maxHeartbeats 600000 in
set_option maxRecDepth 100000 in
theorem spec_plKeep.calls {w0 ws : World} {P0 : Nat → Prop} (a0_0 : Int) (A0_1 : Option Addr) (c0_1 : Nat) (n0_1 : Nat) (l0_1 : List SStep) (A0_2 : Option Addr) (c0_2 : Nat) (n0_2 : Nat) (l0_2 : List Int) (A1 : Option Addr) (c1 : Nat) (n1 : Nat) (l1 : List Int) (Z : Below w0.heap.size w0 ws) (hF : Fr w0 ws P0 [] ws) (R0_1 : Stable ws P0 (fun w => Kd.C kStep w A0_1 n0_1 l0_1)) (hc0_1 : n0_1 ≤ c0_1) (R0_2 : Stable ws P0 (fun w => Kd.C (Kd.int .i64) w A0_2 n0_2 l0_2)) (hc0_2 : n0_2 ≤ c0_2) (R1 : Stable ws P0 (fun w => Kd.C (Kd.int .i64) w A1 n1 l1)) (hc1 : n1 ≤ c1) (r_1 : List SStep) (r_4 : List Int) (h : spec_plKeep.f a0_0 l0_1 l0_2 l1 = some (r_1, r_4)) :
    Calls Try.prog 111 #[.agg #[.int .i64 a0_0, .slice A0_1 n0_1 c0_1, .slice A0_2 n0_2 c0_2], .slice A1 n1 c1] ws (Post1 w0 ws P0 (fun ((q_2, q_3, q_5, q_6) : (Option Addr) × Nat × (Option Addr) × Nat) => .agg #[.int .i64 a0_0, .slice q_2 r_1.length q_3, .slice q_5 r_4.length q_6]) (fun ((q_2, q_3, q_5, q_6) : (Option Addr) × Nat × (Option Addr) × Nat) => [row kStep 89 (.slice q_2 r_1.length q_3) r_1, row (Kd.int .i64) 3 (.slice q_5 r_4.length q_6) r_4])) := by
  unfold spec_plKeep.f at h
  obtain rfl := (R0_1 ws (KeptB.refl _ _)).1
  obtain rfl := (R0_2 ws (KeptB.refl _ _)).1
  obtain rfl := (R1 ws (KeptB.refl _ _)).1
  refine enter Try.func111 rfl Try.ntmps111 rfl hF ?_
  refine c_seq ?_
  refine za0 ?_
  refine o_e rfl (e_box rfl) (fun g1 => ?_)
  refine o_e rfl (zaz V27 rfl) (fun g3 => ?_)
  refine o_end ?_
  refine za1 ?_
  refine c_seq ?_
  refine za0 ?_
  refine o_q rfl rfl (q_f F27_0 rfl) ?_
  refine o_q rfl rfl (q_ldb Y3 rfl (fun w h => h.zaa (i := 1) rfl) rfl) ?_
  refine o_q rfl rfl (q_build (vs := [(0, .int .i64 a0_0)]) (cs := [.int .i64 a0_0, .slice none 0 0, .slice none 0 0]) rfl rfl) ?_
  refine o_e rfl (zaz V27 rfl) (fun g5 => ?_)
  refine o_e rfl (zaq (i := 0) rfl rfl rfl Z27 rfl rfl) (fun _ => ?_)
  refine o_end ?_
  refine za1 ?_
  refine c_seq ?_
  refine c_seq ?_
  refine za0 ?_
  refine o_q rfl rfl (za2 rfl) ?_
  refine o_q rfl rfl (q_len Try.underlying25 rfl) ?_
  refine o_q rfl rfl (za2 rfl) ?_
  refine o_end ?_
  refine za1 ?_
  refine zaj ?_
  refine c_nil kStep 89 ?_
  refine za7 h (fun o19 hl18 hR17 => ?_) rfl
  clear h
  refine c_fact (p := l1.length ≤ 9223372036854775807) (fun w h => (R1.now Z h).2.1) (fun hm16 => ?_)
  refine zav (σ := (List Int) × (List SStep) × Int × (Option Addr) × Nat) (fun k14 ((ys13, l8, i11, A9, c10) : (List Int) × (List SStep) × Int × (Option Addr) × Nat) => Rg l1 i11 ys13 ∧ ys13.length = k14 ∧ spec_plKeep.l0 a0_0 l0_1 l0_2 l1 ys13 l8 i11 = some o19) [7, 8, 16, 17, 18, 19, 20, 21, 22, 23, 24, 25, 26, 27, 28, 29, 30, 31, 32, 33, 34, 35, 36, 37, 38, 39, 40, 41] (fun ((ys13, l8, i11, A9, c10) : (List Int) × (List SStep) × Int × (Option Addr) × Nat) => [(16, .int .i64 i11)]) (fun ((ys13, l8, i11, A9, c10) : (List Int) × (List SStep) × Int × (Option Addr) × Nat) => [row kStep 89 (.slice A9 l8.length c10) l8, box g5 27 #[.int .i64 a0_0, .slice A9 l8.length c10, .slice none 0 0], box g3 27 #[.int .i64 0, .slice none 0 0, .slice none 0 0], box g1 27 #[.int .i64 a0_0, .slice A0_1 l0_1.length c0_1, .slice A0_2 l0_2.length c0_2]]) l1.length (l1, ([] : List SStep), 0, none, 0) ⟨Rg.start _, rfl, hl18⟩ ⟨rfl, trivial⟩ (fun w h => h) ?_
  refine fun k14 => cur5 (listC (fun l8 i11 A9 c10 U20 hJ_ => ?_) (fun y12 ys13 l8 i11 A9 c10 U20 hJ_ => ?_))
  · skip
    clear hl18
    have hr15 := hJ_.1; have hk21 := hJ_.2.1; have h := hJ_.2.2; clear hJ_
    replace h : spec_plKeep.l0 a0_0 l0_1 l0_2 l1 [] l8 i11 = some o19 := h
    rw [spec_plKeep.l0] at h
    refine c_seq ?_
    refine za0 ?_
    refine o_q rfl rfl (q_lss rfl rfl) ?_
    refine o_end ?_
    refine za1 ?_
    refine c_seq ?_
    refine zb2 (congrArg Value.bool hr15.ge) ?_
    refine c_exit ?_
    refine za6 ?_
    refine za6 ?_
    have e_ := Option.some.inj h; replace h := hR17; rw [← e_] at h; clear e_
    refine x_hit ?_
    refine za1 ?_
    refine c_seq ?_
    refine c_seq ?_
    refine za0 ?_
    refine o_q rfl rfl (q_f F27_2 rfl) ?_
    refine o_q rfl rfl (q_ldb Y25 rfl (fun w h => h.zaa (i := 3) rfl) rfl) ?_
    refine o_q rfl rfl (q_len Try.underlying25 rfl) ?_
    refine o_q rfl rfl (za2 rfl) ?_
    refine o_end ?_
    refine za1 ?_
    refine zaj ?_
    refine c_nil (Kd.int .i64) 3 ?_
    refine za7 h (fun o34 hl33 hR32 => ?_) rfl
    clear h
    refine c_fact (p := l0_2.length ≤ 9223372036854775807) (fun w h => (R0_2.now Z h).2.1) (fun hm31 => ?_)
    refine zav (σ := (List Int) × (List Int) × Int × (Option Addr) × Nat) (fun k29 ((ys28, l23, i26, A24, c25) : (List Int) × (List Int) × Int × (Option Addr) × Nat) => Rg l0_2 i26 ys28 ∧ ys28.length = k29 ∧ spec_plKeep.l1 a0_0 l0_1 l0_2 l1 ys28 l23 i26 = some o34) [10, 45, 46, 47, 48, 49, 50, 51, 52, 53, 54, 55, 56, 57, 58] (fun ((ys28, l23, i26, A24, c25) : (List Int) × (List Int) × Int × (Option Addr) × Nat) => [(45, .int .i64 i26)]) (fun ((ys28, l23, i26, A24, c25) : (List Int) × (List Int) × Int × (Option Addr) × Nat) => [row (Kd.int .i64) 3 (.slice A24 l23.length c25) l23, row kStep 89 (.slice A9 l8.length c10) l8, box g5 27 #[.int .i64 a0_0, .slice A9 l8.length c10, .slice A24 l23.length c25], box g3 27 #[.int .i64 0, .slice none 0 0, .slice none 0 0], box g1 27 #[.int .i64 a0_0, .slice A0_1 l0_1.length c0_1, .slice A0_2 l0_2.length c0_2]]) l0_2.length (l0_2, ([] : List Int), 0, none, 0) ⟨Rg.start _, rfl, hl33⟩ ⟨rfl, trivial⟩ (fun w h => h) ?_
    refine fun k29 => cur5 (listC (fun l23 i26 A24 c25 U35 hJ_ => ?_) (fun y27 ys28 l23 i26 A24 c25 U35 hJ_ => ?_))
    · skip
      clear hl33
      have hr30 := hJ_.1; have hk36 := hJ_.2.1; have h := hJ_.2.2; clear hJ_
      replace h : spec_plKeep.l1 a0_0 l0_1 l0_2 l1 [] l23 i26 = some o34 := h
      rw [spec_plKeep.l1] at h
      refine c_seq ?_
      refine za0 ?_
      refine o_q rfl rfl (q_lss rfl rfl) ?_
      refine o_end ?_
      refine za1 ?_
      refine c_seq ?_
      refine zb2 (congrArg Value.bool hr30.ge) ?_
      refine c_exit ?_
      refine za6 ?_
      refine za6 ?_
      have e_ := Option.some.inj h; replace h := hR32; rw [← e_] at h; clear e_
      refine x_hit ?_
      refine za1 ?_
      refine c_seq ?_
      refine za0 ?_
      refine o_q rfl rfl (q_ldB G27 Z27 rfl (fun w h => h.zaa (i := 2) rfl) rfl) ?_
      refine o_e rfl (zaq (i := 3) rfl rfl rfl Z27 rfl rfl) (fun _ => ?_)
      refine o_end ?_
      refine za1 ?_
      refine c_ret ?_
      have e0_ := Option.some.inj h; clear h
      have d0_ := (Prod.mk.inj e0_).1; have e1_ := (Prod.mk.inj e0_).2; clear e0_; subst d0_
      subst e1_
      exact x_r1 (A9, c10, A24, c25) Try.results111 (rv_cell rfl G27 Z27 (fun w h => h.zaa (i := 3) rfl) rfl) rfl (fun w h => za5 [1, 0] (by decide) rfl w h)
    · skip
      clear hl33
      have hr30 := hJ_.1; have hk36 := hJ_.2.1; have h := hJ_.2.2; clear hJ_
      replace h : spec_plKeep.l1 a0_0 l0_1 l0_2 l1 (y27 :: ys28) l23 i26 = some o34 := h
      rw [spec_plKeep.l1] at h
      refine c_seq ?_
      refine za0 ?_
      refine o_q rfl rfl (q_lss rfl rfl) ?_
      refine o_end ?_
      refine za1 ?_
      refine c_seq ?_
      refine zb3 (congrArg Value.bool hr30.lt) ?_
      refine zam ?_
      refine za1 ?_
      refine c_seq ?_
      refine zaj ?_
      refine c_seq ?_
      refine za0 ?_
      refine zas (p := Sh A0_2 l0_2.length l0_2.length) (fun w h => f_sh (dk := (Kd.int .i64)) h (fun w h => R0_2.now Z h)) (fun hq37 => ?_)
      refine o_q rfl rfl (q_ix Try.underlying25 Z3 rfl rfl hq37 hr30.get) ?_
      refine o_q rfl rfl (q_lde (off := 0) Y3 rfl rfl (fun w h => R0_2.now Z h) hr30.get (fun _ _ h => h) rfl) ?_
      refine o_q rfl rfl (q_asg rfl) ?_
      refine o_end ?_
      refine za1 ?_
      refine za7 h (fun i340 hx339 h => ?_) rfl
      refine za7 h (fun l459 ha460 h => ?_) rfl
      refine a_startS (ds := []) [none, some 1, none, some 3, some 4] MO rfl ?_
      refine za8 0 rfl rfl rfl (by kernel_rfl) (fun _ _ _ h => h) (q_f F27_2 rfl) ?_
      refine a_take 2 rfl rfl rfl (by kernel_rfl) (fun _ _ _ h => h) (fun w h => zab [none, some 1, none, some 3, some 4] (by decide) w h rfl) (q_ldB G27 Z27 rfl (fun w h => h.zaa (i := 4) rfl) rfl) ?_
      refine za8 3 rfl rfl rfl (by kernel_rfl) (fun _ _ _ h => h) (za2 rfl) ?_
      refine za8 4 rfl rfl rfl (by kernel_rfl) (fun _ _ _ h => h) (za2 rfl) ?_
      refine a_two 1 5 rfl rfl rfl rfl (by kernel_rfl) rfl rfl (ev_q rfl (q_ldb Y25 rfl (fun w h => h.zaa (i := 2) rfl) rfl)) (fun s w h => zab [none, some 1, none, some 3, some 4] (by decide) w h rfl) (zac 0 Z Try.func188 N188 rfl rfl rfl (fun w P1 hF hB hS hT => spec_plNumber.calls a0_0 A0_1 c0_1 l0_1.length l0_1 A0_2 c0_2 l0_2.length l0_2 A1 c1 l1.length l1 y27 hB hF (hS _ R0_1) hc0_1 (hS _ R0_2) hc0_2 (hS _ R1) hc1 _ hx339)) (fun s w h => zab [none, some 1, none, some 3, some 4] (by decide) w h rfl) (fun _ => ?_) (fun _ => ?_)
      · skip
        refine a_one 5 rfl rfl (by kernel_rfl) rfl (zac 0 Z Try.func188 N188 rfl rfl rfl (fun w P1 hF hB hS hT => spec_plNumber.calls a0_0 A0_1 c0_1 l0_1.length l0_1 A0_2 c0_2 l0_2.length l0_2 A1 c1 l1.length l1 y27 hB hF (hS _ R0_1) hc0_1 (hS _ R0_2) hc0_2 (hS _ R1) hc1 _ hx339)) (fun s w h => zab [none, some 1, none, some 3, some 4] (by decide) w h rfl) (fun _ => ?_)
        refine a_one 6 rfl rfl (by kernel_rfl) rfl (e_lit (vs := [(0, .int .i64 i340)]) (cs := [.int .i64 i340]) (Kd.int .i64) ([i340] : List Int) Try.underlying25 I3 (by decide) rfl (by decide) rfl rfl (fun _ _ => Kd.zat _)) (fun s w h => zab [none, some 2, none, some 4, some 5] (by decide) w h rfl) (cur2 (fun A399 c400 => ?_))
        refine a_one 7 rfl rfl (by kernel_rfl) rfl (e_app (i := 1) (j := 0) Try.underlying25 I3 rfl (by decide) (by decide) rfl rfl rfl rfl rfl ha460) (fun s w h => zab [none, some 2, none, some 4, some 5] (by decide) w h rfl) (cur2 (fun A461 c462 => ?_))
        refine za8 8 rfl rfl rfl (by kernel_rfl) (fun _ _ _ h => h) (q_f F27_2 rfl) ?_
        refine a_one 9 rfl rfl (by kernel_rfl) rfl (e_store (i := 3) rfl rfl rfl rfl Z25 rfl rfl) (fun s w h => zab [none, some 2, none, some 4, some 5] (by decide) w h rfl) (fun _ => ?_)
        refine zb0 (by kernel_rfl) ?_
        refine zan ?_
        refine za1 ?_
        refine za0 ?_
        refine o_q rfl rfl (q_up rfl rfl (hr30.up hm31)) ?_
        refine o_q rfl rfl (za2 rfl) ?_
        refine o_end ?_
        refine zak ys28.length (ys28, l459, i26 + 1, A461, c462) (by rw [← hk36]; exact Nat.lt_succ_self _) ⟨hr30.step, rfl, h⟩ ⟨rfl, trivial⟩ (fun w h => za5 [1, 2, 3, 4, 5] (by decide) rfl w h) ?_
        repeat (first | exact zad _ _ | refine zah rfl ?_ | refine zae rfl ?_ | refine zai rfl ?_)
      · skip
        refine a_two 1 6 rfl rfl rfl rfl (by kernel_rfl) rfl rfl (ev_q rfl (q_ldb Y25 rfl (fun w h => h.zaa (i := 2) rfl) rfl)) (fun s w h => zab [none, some 1, none, some 3, some 4] (by decide) w h rfl) (e_lit (vs := [(0, .int .i64 i340)]) (cs := [.int .i64 i340]) (Kd.int .i64) ([i340] : List Int) Try.underlying25 I3 (by decide) rfl (by decide) rfl rfl (fun _ _ => Kd.zat _)) (fun s w h => zab [none, some 2, none, some 4, some 5] (by decide) w h rfl) (fun _ => ?_) (cur2 (fun A399 c400 => ?_))
        · skip
          refine a_one 6 rfl rfl (by kernel_rfl) rfl (e_lit (vs := [(0, .int .i64 i340)]) (cs := [.int .i64 i340]) (Kd.int .i64) ([i340] : List Int) Try.underlying25 I3 (by decide) rfl (by decide) rfl rfl (fun _ _ => Kd.zat _)) (fun s w h => zab [none, some 2, none, some 4, some 5] (by decide) w h rfl) (cur2 (fun A399 c400 => ?_))
          refine a_one 7 rfl rfl (by kernel_rfl) rfl (e_app (i := 1) (j := 0) Try.underlying25 I3 rfl (by decide) (by decide) rfl rfl rfl rfl rfl ha460) (fun s w h => zab [none, some 2, none, some 4, some 5] (by decide) w h rfl) (cur2 (fun A461 c462 => ?_))
          refine za8 8 rfl rfl rfl (by kernel_rfl) (fun _ _ _ h => h) (q_f F27_2 rfl) ?_
          refine a_one 9 rfl rfl (by kernel_rfl) rfl (e_store (i := 3) rfl rfl rfl rfl Z25 rfl rfl) (fun s w h => zab [none, some 2, none, some 4, some 5] (by decide) w h rfl) (fun _ => ?_)
          refine zb0 (by kernel_rfl) ?_
          refine zan ?_
          refine za1 ?_
          refine za0 ?_
          refine o_q rfl rfl (q_up rfl rfl (hr30.up hm31)) ?_
          refine o_q rfl rfl (za2 rfl) ?_
          refine o_end ?_
          refine zak ys28.length (ys28, l459, i26 + 1, A461, c462) (by rw [← hk36]; exact Nat.lt_succ_self _) ⟨hr30.step, rfl, h⟩ ⟨rfl, trivial⟩ (fun w h => za5 [1, 2, 3, 4, 5] (by decide) rfl w h) ?_
          repeat (first | exact zad _ _ | refine zah rfl ?_ | refine zae rfl ?_ | refine zai rfl ?_)
        · skip
          refine a_one 1 rfl rfl (by kernel_rfl) rfl (ev_q rfl (q_ldb Y25 rfl (fun w h => h.zaa (i := 3) rfl) rfl)) (fun s w h => zab [none, some 2, none, some 4, some 5] (by decide) w h rfl) (fun _ => ?_)
          refine a_one 7 rfl rfl (by kernel_rfl) rfl (e_app (i := 1) (j := 0) Try.underlying25 I3 rfl (by decide) (by decide) rfl rfl rfl rfl rfl ha460) (fun s w h => zab [none, some 2, none, some 4, some 5] (by decide) w h rfl) (cur2 (fun A461 c462 => ?_))
          refine za8 8 rfl rfl rfl (by kernel_rfl) (fun _ _ _ h => h) (q_f F27_2 rfl) ?_
          refine a_one 9 rfl rfl (by kernel_rfl) rfl (e_store (i := 3) rfl rfl rfl rfl Z25 rfl rfl) (fun s w h => zab [none, some 2, none, some 4, some 5] (by decide) w h rfl) (fun _ => ?_)
          refine zb0 (by kernel_rfl) ?_
          refine zan ?_
          refine za1 ?_
          refine za0 ?_
          refine o_q rfl rfl (q_up rfl rfl (hr30.up hm31)) ?_
          refine o_q rfl rfl (za2 rfl) ?_
          refine o_end ?_
          refine zak ys28.length (ys28, l459, i26 + 1, A461, c462) (by rw [← hk36]; exact Nat.lt_succ_self _) ⟨hr30.step, rfl, h⟩ ⟨rfl, trivial⟩ (fun w h => za5 [1, 2, 3, 4, 5] (by decide) rfl w h) ?_
          repeat (first | exact zad _ _ | refine zah rfl ?_ | refine zae rfl ?_ | refine zai rfl ?_)
  · skip
    clear hl18
    have hr15 := hJ_.1; have hk21 := hJ_.2.1; have h := hJ_.2.2; clear hJ_
    replace h : spec_plKeep.l0 a0_0 l0_1 l0_2 l1 (y12 :: ys13) l8 i11 = some o19 := h
    rw [spec_plKeep.l0] at h
    refine c_seq ?_
    refine za0 ?_
    refine o_q rfl rfl (q_lss rfl rfl) ?_
    refine o_end ?_
    refine za1 ?_
    refine c_seq ?_
    refine zb3 (congrArg Value.bool hr15.lt) ?_
    refine zam ?_
    refine za1 ?_
    refine c_seq ?_
    refine zaj ?_
    refine c_seq ?_
    refine za0 ?_
    refine zas (p := Sh A1 l1.length l1.length) (fun w h => f_sh (dk := (Kd.int .i64)) h (fun w h => R1.now Z h)) (fun hq699 => ?_)
    refine o_q rfl rfl (q_ix Try.underlying25 Z3 rfl rfl hq699 hr15.get) ?_
    refine o_q rfl rfl (q_lde (off := 0) Y3 rfl rfl (fun w h => R1.now Z h) hr15.get (fun _ _ h => h) rfl) ?_
    refine o_q rfl rfl (q_asg rfl) ?_
    refine o_end ?_
    refine za1 ?_
    refine c_seq ?_
    refine za0 ?_
    refine o_q rfl rfl (q_f F27_1 rfl) ?_
    refine o_q rfl rfl (q_ldb Y24 rfl (fun w h => h.zaa (i := 3) rfl) rfl) ?_
    refine o_q rfl rfl (za2 rfl) ?_
    refine zas (p := Sh A0_1 l0_1.length l0_1.length) (fun w h => f_sh (dk := kStep) h (fun w h => R0_1.now Z h)) (fun hq700 => ?_)
    refine za7 h (fun y702 hg701 h => ?_) rfl
    refine o_q rfl rfl (q_ix Try.underlying24 Z89 rfl rfl hq700 hg701) ?_
    refine o_q rfl rfl (q_ldE G89 Z89 rfl rfl (fun w h => R0_1.now Z h) hg701 (fun _ _ h => h) rfl) ?_
    refine o_e rfl (zaz V89 rfl) (fun g703 => ?_)
    refine o_e rfl (zaq (i := 0) rfl rfl rfl Z89 rfl rfl) (fun _ => ?_)
    refine o_end ?_
    refine za1 ?_
    refine za7 h (fun i1067 hx1066 h => ?_) rfl
    refine za7 h (fun i1367 hx1366 h => ?_) rfl
    refine za7 h (fun z1427 hx1426 h => ?_) rfl
    refine za7 h (fun l1546 ha1547 h => ?_) rfl
    refine a_startS (ds := []) [some 0, none, none, some 3, some 4] MO rfl ?_
    refine za8 0 rfl rfl rfl (by kernel_rfl) (fun _ _ _ h => h) (q_f F27_1 rfl) ?_
    refine a_take 2 rfl rfl rfl (by kernel_rfl) (fun _ _ _ h => h) (fun w h => zab [some 0, none, none, some 3, some 4] (by decide) w h rfl) (q_ldB G27 Z27 rfl (fun w h => h.zaa (i := 4) rfl) rfl) ?_
    refine za8 3 rfl rfl rfl (by kernel_rfl) (fun _ _ _ h => h) (za2 rfl) ?_
    refine za8 4 rfl rfl rfl (by kernel_rfl) (fun _ _ _ h => h) (q_f F89_0 rfl) ?_
    refine a_take 5 rfl rfl rfl (by kernel_rfl) (fun _ _ _ h => h) (fun w h => zab [some 0, none, none, some 3, some 4] (by decide) w h rfl) (q_ldb Y3 rfl (fun w h => h.zaa (i := 0) rfl) rfl) ?_
    refine a_take 7 rfl rfl rfl (by kernel_rfl) (fun _ _ _ h => h) (fun w h => zab [some 0, none, none, some 3, some 4] (by decide) w h rfl) (q_ldB G27 Z27 rfl (fun w h => h.zaa (i := 4) rfl) rfl) ?_
    refine za8 8 rfl rfl rfl (by kernel_rfl) (fun _ _ _ h => h) (za2 rfl) ?_
    refine za8 9 rfl rfl rfl (by kernel_rfl) (fun _ _ _ h => h) (q_f F89_1 rfl) ?_
    refine a_take 10 rfl rfl rfl (by kernel_rfl) (fun _ _ _ h => h) (fun w h => zab [some 0, none, none, some 3, some 4] (by decide) w h rfl) (q_ldb Y3 rfl (fun w h => h.zaa (i := 0) rfl) rfl) ?_
    refine a_two 1 6 rfl rfl rfl rfl (by kernel_rfl) rfl rfl (ev_q rfl (q_ldb Y24 rfl (fun w h => h.zaa (i := 2) rfl) rfl)) (fun s w h => zab [some 0, none, none, some 3, some 4] (by decide) w h rfl) (zac 0 Z Try.func188 N188 rfl rfl rfl (fun w P1 hF hB hS hT => spec_plNumber.calls a0_0 A0_1 c0_1 l0_1.length l0_1 A0_2 c0_2 l0_2.length l0_2 A1 c1 l1.length l1 y702.f0 hB hF (hS _ R0_1) hc0_1 (hS _ R0_2) hc0_2 (hS _ R1) hc1 _ hx1066)) (fun s w h => zab [some 0, none, none, some 3, some 4] (by decide) w h rfl) (fun _ => ?_) (fun _ => ?_)
    · skip
      refine a_one 6 rfl rfl (by kernel_rfl) rfl (zac 0 Z Try.func188 N188 rfl rfl rfl (fun w P1 hF hB hS hT => spec_plNumber.calls a0_0 A0_1 c0_1 l0_1.length l0_1 A0_2 c0_2 l0_2.length l0_2 A1 c1 l1.length l1 y702.f0 hB hF (hS _ R0_1) hc0_1 (hS _ R0_2) hc0_2 (hS _ R1) hc1 _ hx1066)) (fun s w h => zab [some 0, none, none, some 3, some 4] (by decide) w h rfl) (fun _ => ?_)
      refine a_one 11 rfl rfl (by kernel_rfl) rfl (zac 0 Z Try.func188 N188 rfl rfl rfl (fun w P1 hF hB hS hT => spec_plNumber.calls a0_0 A0_1 c0_1 l0_1.length l0_1 A0_2 c0_2 l0_2.length l0_2 A1 c1 l1.length l1 y702.f1 hB hF (hS _ R0_1) hc0_1 (hS _ R0_2) hc0_2 (hS _ R1) hc1 _ hx1366)) (fun s w h => zab [some 0, none, none, some 3, some 4] (by decide) w h rfl) (fun _ => ?_)
      refine a_one 12 rfl rfl (by kernel_rfl) rfl (zac 0 Z Try.func97 N97 rfl rfl rfl (fun w P1 hF hB hS hT => spec_plStep.calls i1067 i1367 hB hF _ hx1426)) (fun s w h => zab [some 0, none, none, some 3, some 4] (by decide) w h rfl) (fun _ => ?_)
      refine a_one 13 rfl rfl (by kernel_rfl) rfl (e_lit (vs := [(0, .agg #[.int .i64 z1427.f0, .int .i64 z1427.f1])]) (cs := [.int .i64 z1427.f0, .int .i64 z1427.f1]) kStep ([z1427] : List SStep) Try.underlying24 I89 (by decide) rfl (by decide) rfl rfl (fun _ _ => reps_flat _)) (fun s w h => zab [some 1, none, none, some 4, some 5] (by decide) w h rfl) (cur2 (fun A1486 c1487 => ?_))
      refine a_one 14 rfl rfl (by kernel_rfl) rfl (e_app (i := 2) (j := 0) Try.underlying24 I89 rfl (by decide) (by decide) rfl rfl rfl rfl rfl ha1547) (fun s w h => zab [some 1, none, none, some 4, some 5] (by decide) w h rfl) (cur2 (fun A1548 c1549 => ?_))
      refine za8 15 rfl rfl rfl (by kernel_rfl) (fun _ _ _ h => h) (q_f F27_1 rfl) ?_
      refine a_one 16 rfl rfl (by kernel_rfl) rfl (e_store (i := 3) rfl rfl rfl rfl Z24 rfl rfl) (fun s w h => zab [some 1, none, none, some 4, some 5] (by decide) w h rfl) (fun _ => ?_)
      refine zb0 (by kernel_rfl) ?_
      refine zan ?_
      refine za1 ?_
      refine za0 ?_
      refine o_q rfl rfl (q_up rfl rfl (hr15.up hm16)) ?_
      refine o_q rfl rfl (za2 rfl) ?_
      refine o_end ?_
      refine zak ys13.length (ys13, l1546, i11 + 1, A1548, c1549) (by rw [← hk21]; exact Nat.lt_succ_self _) ⟨hr15.step, rfl, h⟩ ⟨rfl, trivial⟩ (fun w h => za5 [2, 3, 4, 5] (by decide) rfl w h) ?_
      repeat (first | exact zad _ _ | refine zah rfl ?_ | refine zae rfl ?_ | refine zai rfl ?_)
    · skip
      refine a_two 1 11 rfl rfl rfl rfl (by kernel_rfl) rfl rfl (ev_q rfl (q_ldb Y24 rfl (fun w h => h.zaa (i := 2) rfl) rfl)) (fun s w h => zab [some 0, none, none, some 3, some 4] (by decide) w h rfl) (zac 0 Z Try.func188 N188 rfl rfl rfl (fun w P1 hF hB hS hT => spec_plNumber.calls a0_0 A0_1 c0_1 l0_1.length l0_1 A0_2 c0_2 l0_2.length l0_2 A1 c1 l1.length l1 y702.f1 hB hF (hS _ R0_1) hc0_1 (hS _ R0_2) hc0_2 (hS _ R1) hc1 _ hx1366)) (fun s w h => zab [some 0, none, none, some 3, some 4] (by decide) w h rfl) (fun _ => ?_) (fun _ => ?_)
      · skip
        refine a_one 11 rfl rfl (by kernel_rfl) rfl (zac 0 Z Try.func188 N188 rfl rfl rfl (fun w P1 hF hB hS hT => spec_plNumber.calls a0_0 A0_1 c0_1 l0_1.length l0_1 A0_2 c0_2 l0_2.length l0_2 A1 c1 l1.length l1 y702.f1 hB hF (hS _ R0_1) hc0_1 (hS _ R0_2) hc0_2 (hS _ R1) hc1 _ hx1366)) (fun s w h => zab [some 0, none, none, some 3, some 4] (by decide) w h rfl) (fun _ => ?_)
        refine a_one 12 rfl rfl (by kernel_rfl) rfl (zac 0 Z Try.func97 N97 rfl rfl rfl (fun w P1 hF hB hS hT => spec_plStep.calls i1067 i1367 hB hF _ hx1426)) (fun s w h => zab [some 0, none, none, some 3, some 4] (by decide) w h rfl) (fun _ => ?_)
        refine a_one 13 rfl rfl (by kernel_rfl) rfl (e_lit (vs := [(0, .agg #[.int .i64 z1427.f0, .int .i64 z1427.f1])]) (cs := [.int .i64 z1427.f0, .int .i64 z1427.f1]) kStep ([z1427] : List SStep) Try.underlying24 I89 (by decide) rfl (by decide) rfl rfl (fun _ _ => reps_flat _)) (fun s w h => zab [some 1, none, none, some 4, some 5] (by decide) w h rfl) (cur2 (fun A1486 c1487 => ?_))
        refine a_one 14 rfl rfl (by kernel_rfl) rfl (e_app (i := 2) (j := 0) Try.underlying24 I89 rfl (by decide) (by decide) rfl rfl rfl rfl rfl ha1547) (fun s w h => zab [some 1, none, none, some 4, some 5] (by decide) w h rfl) (cur2 (fun A1548 c1549 => ?_))
        refine za8 15 rfl rfl rfl (by kernel_rfl) (fun _ _ _ h => h) (q_f F27_1 rfl) ?_
        refine a_one 16 rfl rfl (by kernel_rfl) rfl (e_store (i := 3) rfl rfl rfl rfl Z24 rfl rfl) (fun s w h => zab [some 1, none, none, some 4, some 5] (by decide) w h rfl) (fun _ => ?_)
        refine zb0 (by kernel_rfl) ?_
        refine zan ?_
        refine za1 ?_
        refine za0 ?_
        refine o_q rfl rfl (q_up rfl rfl (hr15.up hm16)) ?_
        refine o_q rfl rfl (za2 rfl) ?_
        refine o_end ?_
        refine zak ys13.length (ys13, l1546, i11 + 1, A1548, c1549) (by rw [← hk21]; exact Nat.lt_succ_self _) ⟨hr15.step, rfl, h⟩ ⟨rfl, trivial⟩ (fun w h => za5 [2, 3, 4, 5] (by decide) rfl w h) ?_
        repeat (first | exact zad _ _ | refine zah rfl ?_ | refine zae rfl ?_ | refine zai rfl ?_)
      · skip
        refine a_two 1 12 rfl rfl rfl rfl (by kernel_rfl) rfl rfl (ev_q rfl (q_ldb Y24 rfl (fun w h => h.zaa (i := 2) rfl) rfl)) (fun s w h => zab [some 0, none, none, some 3, some 4] (by decide) w h rfl) (zac 0 Z Try.func97 N97 rfl rfl rfl (fun w P1 hF hB hS hT => spec_plStep.calls i1067 i1367 hB hF _ hx1426)) (fun s w h => zab [some 0, none, none, some 3, some 4] (by decide) w h rfl) (fun _ => ?_) (fun _ => ?_)
        · skip
          refine a_one 12 rfl rfl (by kernel_rfl) rfl (zac 0 Z Try.func97 N97 rfl rfl rfl (fun w P1 hF hB hS hT => spec_plStep.calls i1067 i1367 hB hF _ hx1426)) (fun s w h => zab [some 0, none, none, some 3, some 4] (by decide) w h rfl) (fun _ => ?_)
          refine a_one 13 rfl rfl (by kernel_rfl) rfl (e_lit (vs := [(0, .agg #[.int .i64 z1427.f0, .int .i64 z1427.f1])]) (cs := [.int .i64 z1427.f0, .int .i64 z1427.f1]) kStep ([z1427] : List SStep) Try.underlying24 I89 (by decide) rfl (by decide) rfl rfl (fun _ _ => reps_flat _)) (fun s w h => zab [some 1, none, none, some 4, some 5] (by decide) w h rfl) (cur2 (fun A1486 c1487 => ?_))
          refine a_one 14 rfl rfl (by kernel_rfl) rfl (e_app (i := 2) (j := 0) Try.underlying24 I89 rfl (by decide) (by decide) rfl rfl rfl rfl rfl ha1547) (fun s w h => zab [some 1, none, none, some 4, some 5] (by decide) w h rfl) (cur2 (fun A1548 c1549 => ?_))
          refine za8 15 rfl rfl rfl (by kernel_rfl) (fun _ _ _ h => h) (q_f F27_1 rfl) ?_
          refine a_one 16 rfl rfl (by kernel_rfl) rfl (e_store (i := 3) rfl rfl rfl rfl Z24 rfl rfl) (fun s w h => zab [some 1, none, none, some 4, some 5] (by decide) w h rfl) (fun _ => ?_)
          refine zb0 (by kernel_rfl) ?_
          refine zan ?_
          refine za1 ?_
          refine za0 ?_
          refine o_q rfl rfl (q_up rfl rfl (hr15.up hm16)) ?_
          refine o_q rfl rfl (za2 rfl) ?_
          refine o_end ?_
          refine zak ys13.length (ys13, l1546, i11 + 1, A1548, c1549) (by rw [← hk21]; exact Nat.lt_succ_self _) ⟨hr15.step, rfl, h⟩ ⟨rfl, trivial⟩ (fun w h => za5 [2, 3, 4, 5] (by decide) rfl w h) ?_
          repeat (first | exact zad _ _ | refine zah rfl ?_ | refine zae rfl ?_ | refine zai rfl ?_)
        · skip
          refine a_two 1 13 rfl rfl rfl rfl (by kernel_rfl) rfl rfl (ev_q rfl (q_ldb Y24 rfl (fun w h => h.zaa (i := 2) rfl) rfl)) (fun s w h => zab [some 0, none, none, some 3, some 4] (by decide) w h rfl) (e_lit (vs := [(0, .agg #[.int .i64 z1427.f0, .int .i64 z1427.f1])]) (cs := [.int .i64 z1427.f0, .int .i64 z1427.f1]) kStep ([z1427] : List SStep) Try.underlying24 I89 (by decide) rfl (by decide) rfl rfl (fun _ _ => reps_flat _)) (fun s w h => zab [some 1, none, none, some 4, some 5] (by decide) w h rfl) (fun _ => ?_) (cur2 (fun A1486 c1487 => ?_))
          · skip
            refine a_one 13 rfl rfl (by kernel_rfl) rfl (e_lit (vs := [(0, .agg #[.int .i64 z1427.f0, .int .i64 z1427.f1])]) (cs := [.int .i64 z1427.f0, .int .i64 z1427.f1]) kStep ([z1427] : List SStep) Try.underlying24 I89 (by decide) rfl (by decide) rfl rfl (fun _ _ => reps_flat _)) (fun s w h => zab [some 1, none, none, some 4, some 5] (by decide) w h rfl) (cur2 (fun A1486 c1487 => ?_))
            refine a_one 14 rfl rfl (by kernel_rfl) rfl (e_app (i := 2) (j := 0) Try.underlying24 I89 rfl (by decide) (by decide) rfl rfl rfl rfl rfl ha1547) (fun s w h => zab [some 1, none, none, some 4, some 5] (by decide) w h rfl) (cur2 (fun A1548 c1549 => ?_))
            refine za8 15 rfl rfl rfl (by kernel_rfl) (fun _ _ _ h => h) (q_f F27_1 rfl) ?_
            refine a_one 16 rfl rfl (by kernel_rfl) rfl (e_store (i := 3) rfl rfl rfl rfl Z24 rfl rfl) (fun s w h => zab [some 1, none, none, some 4, some 5] (by decide) w h rfl) (fun _ => ?_)
            refine zb0 (by kernel_rfl) ?_
            refine zan ?_
            refine za1 ?_
            refine za0 ?_
            refine o_q rfl rfl (q_up rfl rfl (hr15.up hm16)) ?_
            refine o_q rfl rfl (za2 rfl) ?_
            refine o_end ?_
            refine zak ys13.length (ys13, l1546, i11 + 1, A1548, c1549) (by rw [← hk21]; exact Nat.lt_succ_self _) ⟨hr15.step, rfl, h⟩ ⟨rfl, trivial⟩ (fun w h => za5 [2, 3, 4, 5] (by decide) rfl w h) ?_
            repeat (first | exact zad _ _ | refine zah rfl ?_ | refine zae rfl ?_ | refine zai rfl ?_)
          · skip
            refine a_one 1 rfl rfl (by kernel_rfl) rfl (ev_q rfl (q_ldb Y24 rfl (fun w h => h.zaa (i := 3) rfl) rfl)) (fun s w h => zab [some 1, none, none, some 4, some 5] (by decide) w h rfl) (fun _ => ?_)
            refine a_one 14 rfl rfl (by kernel_rfl) rfl (e_app (i := 2) (j := 0) Try.underlying24 I89 rfl (by decide) (by decide) rfl rfl rfl rfl rfl ha1547) (fun s w h => zab [some 1, none, none, some 4, some 5] (by decide) w h rfl) (cur2 (fun A1548 c1549 => ?_))
            refine za8 15 rfl rfl rfl (by kernel_rfl) (fun _ _ _ h => h) (q_f F27_1 rfl) ?_
            refine a_one 16 rfl rfl (by kernel_rfl) rfl (e_store (i := 3) rfl rfl rfl rfl Z24 rfl rfl) (fun s w h => zab [some 1, none, none, some 4, some 5] (by decide) w h rfl) (fun _ => ?_)
            refine zb0 (by kernel_rfl) ?_
            refine zan ?_
            refine za1 ?_
            refine za0 ?_
            refine o_q rfl rfl (q_up rfl rfl (hr15.up hm16)) ?_
            refine o_q rfl rfl (za2 rfl) ?_
            refine o_end ?_
            refine zak ys13.length (ys13, l1546, i11 + 1, A1548, c1549) (by rw [← hk21]; exact Nat.lt_succ_self _) ⟨hr15.step, rfl, h⟩ ⟨rfl, trivial⟩ (fun w h => za5 [2, 3, 4, 5] (by decide) rfl w h) ?_
            repeat (first | exact zad _ _ | refine zah rfl ?_ | refine zae rfl ?_ | refine zai rfl ?_)

end Go.Proofs.Ytoegbcbdiggbjaa.TU
