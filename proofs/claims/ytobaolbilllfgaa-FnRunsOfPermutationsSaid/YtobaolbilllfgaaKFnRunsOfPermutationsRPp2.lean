import Derived.Test.YtobaolbilllfgaaKFnRunsOfPermutationsRPp1
namespace Go.Proofs.Ytobaolbilllfgaa.RP
open Go.RowKit Go.Proofs.Ytobaolbilllfgaa.Frame Go.Proofs.YtobaolbilllfgaaW.PrintLast Go.Proofs.Ytobaolbilllfgaa.Hand
open Go.Proofs.YtobaolbilllfgaaW.PrintWords hiding mn mx
set_option linter.unusedVariables false
/-! ### (*loop.example/g01098/spec.l1Cur).anyPlan: function 15 -/
def spec_l1Cur_anyPlan.l0 : Nat → (List SStep) → Int → Option (List SStep)
  | 0, _, _ => none
  | k1398 + 1, l1392, i1395 => if 0 < i1395 then ((ap l1392 ([(⟨(l1392.length : Int), (l1392.length : Int)⟩ : SStep)] : List SStep)).bind fun l1410 => spec_l1Cur_anyPlan.l0 k1398 l1410 (w64 (i1395 - 1))) else (some l1392)
def spec_l1Cur_anyPlan.l1 (l0_0 : List Int) (i4 : Int) (l5 : List SStep) : Nat → (List Int) → Int → Int → Option (Int × (List SStep) × (List Int) × Int × Int)
  | 0, _, _, _ => none
  | k1425 + 1, l1418, i1421, i1422 => (spec_l1Cur_pick.f l0_0 i1421 i1422 2).bind fun (i1434, i1435, i1436) => if (l1418.length : Int) < w64 (6 + i1434) then ((ap l1418 ([0] : List Int)).bind fun l1441 => spec_l1Cur_anyPlan.l1 l0_0 i4 l5 k1425 l1441 i1435 i1436) else (some (i4, l5, l1418, i1435, i1436))
def spec_l1Cur_anyPlan.l2 : Nat → (List SStep) → Int → Option (List SStep)
  | 0, _, _ => none
  | k1457 + 1, l1451, i1454 => if 0 < i1454 then ((ap l1451 ([(⟨0, w64 (1 + (l1451.length : Int))⟩ : SStep)] : List SStep)).bind fun l1469 => spec_l1Cur_anyPlan.l2 k1457 l1469 (w64 (i1454 - 1))) else (some l1451)
def spec_l1Cur_anyPlan.f (k : Nat) (l0_0 : List Int) (a0_1 : Int) (a0_2 : Int) (a1 : Int) (a2 : Int) : Option (Int × (List SStep) × (List Int) × Int × Int) := (spec_l1Cur_plan.f k l0_0 a0_1 a0_2 a1 a2).bind fun (i4, l5, l6, i7, i8) => ((spec_l1Cur_pick.f l0_0 i7 i8 16).bind fun (i753, i754, i755) => if i753 = 0 then ((spec_l1Cur_among.f l0_0 i754 i755 ([(-1), 0, 1, 6, 7] : List Int)).bind fun (i761, i762, i763) => some (i761, l5, l6, i762, i763)) else (if i753 = 1 then (if 0 < (l5.length : Int) then ((spec_l1Cur_pick.f l0_0 i754 i755 (l5.length : Int)).bind fun (i767, i768, i769) => (spec_l1Cur_pick.f l0_0 i768 i769 5).bind fun (i771, i772, i773) => (spec_l1Cur_pick.f l0_0 i772 i773 8).bind fun (i775, i776, i777) => (gt l5 i767).bind fun y780 => (st l5 i767 (⟨w64 (i771 - 1), i775⟩ : SStep)).bind fun l781 => some (i4, l781, l6, i776, i777)) else (some (i4, l5, l6, i754, i755))) else (if i753 = 2 then ((spec_l1Cur_pick.f l0_0 i754 i755 12).bind fun (i967, i968, i969) => (ap l6 ([w64 (i967 - 1)] : List Int)).bind fun l1146 => some (i4, l5, l1146, i968, i969)) else (if i753 = 3 then ((spec_l1Cur_pick.f l0_0 i754 i755 4).bind fun (i1388, i1389, i1390) => (spec_l1Cur_anyPlan.l0 k ([] : List SStep) (w64 (18 + i1388))).bind fun l1392 => some (1, l1392, ([(l1392.length : Int)] : List Int), i1389, i1390)) else (if i753 = 4 then ((spec_l1Cur_anyPlan.l1 l0_0 i4 l5 k l6 i754 i755)) else (if i753 = 5 then ((spec_l1Cur_pick.f l0_0 i754 i755 2).bind fun (i1447, i1448, i1449) => (spec_l1Cur_anyPlan.l2 k ([] : List SStep) (w64 (40 + i1447))).bind fun l1451 => some (2, l1451, ([5] : List Int), i1448, i1449)) else (some (i4, l5, l6, i754, i755)))))))).bind fun (i738, l739, l742, i745, i746) => some (i738, l739, l742, i745, i746)
set_option maxHeartbeats 600000 in
set_option maxRecDepth 100000 in
theorem spec_l1Cur_anyPlan.calls (k : Nat) {w0 ws : World} {P0 : Nat → Prop} (g0 : Nat) (A0_0 : Option Addr) (c0_0 : Nat) (n0_0 : Nat) (l0_0 : List Int) (a0_1 : Int) (a0_2 : Int) (a1 : Int) (a2 : Int) (Z : Below w0.heap.size w0 ws) (hF : Fr w0 ws P0 [box g0 44 #[.slice A0_0 n0_0 c0_0, .int .i64 a0_1, .int .u64 a0_2]] ws) (R0_0 : Stable ws P0 (fun w => Kd.C (Kd.int .u8) w A0_0 n0_0 l0_0)) (hc0_0 : n0_0 ≤ c0_0) (r_1 : Int) (r_2 : List SStep) (r_5 : List Int) (r_8 : Int) (r_9 : Int) (h : spec_l1Cur_anyPlan.f k l0_0 a0_1 a0_2 a1 a2 = some (r_1, r_2, r_5, r_8, r_9)) :
    Calls Try.prog 15 #[.pointer (some ⟨g0, 0, none⟩), .int .i64 a1, .int .i64 a2] ws (Post1 w0 ws P0 (fun ((q_3, q_4, q_6, q_7) : (Option Addr) × Nat × (Option Addr) × Nat) => .agg #[.int .i64 r_1, .slice q_3 r_2.length q_4, .slice q_6 r_5.length q_7]) (fun ((q_3, q_4, q_6, q_7) : (Option Addr) × Nat × (Option Addr) × Nat) => [row kStep 58 (.slice q_3 r_2.length q_4) r_2, row (Kd.int .i64) 3 (.slice q_6 r_5.length q_7) r_5, box g0 44 #[.slice A0_0 n0_0 c0_0, .int .i64 r_8, .int .u64 r_9]])) := by
  unfold spec_l1Cur_anyPlan.f at h
  obtain rfl := (R0_0 ws (KeptB.refl _ _)).1
  refine enter Try.func15 rfl Try.ntmps15 rfl hF ?_
  refine c_seq ?_
  refine za0 ?_
  refine o_e rfl (e_alloc V27 rfl) (fun g1 => ?_)
  refine o_end ?_
  refine za1 ?_
  refine c_seq ?_
  refine za0 ?_
  refine o_q rfl rfl (za2 rfl) ?_
  refine o_q rfl rfl (za2 rfl) ?_
  refine o_q rfl rfl (za2 rfl) ?_
  refine o_pick [1, 0] (by decide) rfl ?_
  refine bindE5 h (fun i4 l5 l6 i7 i8 hx3 h => ?_) rfl
  refine o_e rfl (za9 1 Z Try.func38 N38 rfl rfl rfl (fun w P1 hF hB hS hT => spec_l1Cur_plan.calls k g0 A0_0 c0_0 l0_0.length l0_0 a0_1 a0_2 a1 a2 hB hF (hS _ R0_0) hc0_0 _ _ _ _ _ hx3)) (cur4 (fun A9 c10 A11 c12 => ?_))
  refine o_e rfl (e_alloc V27 rfl) (fun g13 => ?_)
  refine o_e rfl (e_storeA (i := 0) rfl rfl rfl Z27 rfl rfl) (fun _ => ?_)
  refine o_end ?_
  refine za1 ?_
  refine za8 h (fun o747 hl748 hR749 => ?_) rfl
  clear h
  refine c_cutJ (σ := Int × (List SStep) × (List Int) × Int × Int × (Option Addr) × Nat × (Option Addr) × Nat) (fun (i738, l739, l742, i745, i746, A740, c741, A743, c744) => some (i738, l739, l742, i745, i746) = some o747) [8, 9, 14, 15, 16, 17, 18, 19, 20, 21, 22, 23, 24, 25, 26, 27, 28, 29, 30, 31, 32, 33, 34, 35, 36, 37, 38, 39, 40, 41, 42, 43, 44, 45, 46, 47, 48, 49, 50, 51, 52, 53, 54, 55, 56, 57, 58, 59, 60, 61, 62, 63, 64, 65, 66, 67, 68, 69, 70, 71, 72, 73, 74, 75, 76, 77, 78, 79, 80, 81, 82, 83, 84, 85, 86, 87, 88, 89, 90, 91, 92, 93, 94, 95, 96, 97, 98, 99, 100, 101, 102, 103, 104, 105, 106, 107, 108, 109, 110, 111, 112, 113, 114] (fun (i738, l739, l742, i745, i746, A740, c741, A743, c744) => []) (fun (i738, l739, l742, i745, i746, A740, c741, A743, c744) => [box g1 27 #[.int .i64 0, .slice none 0 0, .slice none 0 0], box g13 27 #[.int .i64 i738, .slice A740 l739.length c741, .slice A743 l742.length c744], row kStep 58 (.slice A740 l739.length c741) l739, row (Kd.int .i64) 3 (.slice A743 l742.length c744) l742, box g0 44 #[.slice A0_0 l0_0.length c0_0, .int .i64 i745, .int .u64 i746]]) ?_ ?_
  · skip
    have h := hl748; clear hl748
    clear hR749
    refine c_seq ?_
    refine za0 ?_
    refine o_q rfl rfl (za2 rfl) ?_
    refine o_pick [3, 0, 1, 2, 4] (by decide) rfl ?_
    refine bindE3 h (fun i753 i754 i755 hx752 h => ?_) rfl
    refine o_e rfl (za9 1 Z Try.func39 N39 rfl rfl rfl (fun w P1 hF hB hS hT => spec_l1Cur_pick.calls g0 A0_0 c0_0 l0_0.length l0_0 i7 i8 16 hB hF (hS _ R0_0) hc0_0 _ _ _ hx752)) (fun _ => ?_)
    refine o_end ?_
    refine za1 ?_
    refine zaf ?_
    refine c_seq ?_
    refine za0 ?_
    refine o_q rfl rfl (q_eql rfl rfl) ?_
    refine o_q rfl rfl (q_asg rfl) ?_
    refine o_end ?_
    refine za1 ?_
    refine zaq _ rfl (fun hb756 => ?_) (fun hb756 => ?_)
    · skip
      replace h := br_t hb756 h
      refine za0 ?_
      refine o_q rfl rfl (za2 rfl) ?_
      refine o_e rfl (e_lit (vs := [(0, .int .i64 (-1)), (1, .int .i64 0), (2, .int .i64 1), (3, .int .i64 6), (4, .int .i64 7)]) (cs := [.int .i64 (-1), .int .i64 0, .int .i64 1, .int .i64 6, .int .i64 7]) (Kd.int .i64) ([(-1), 0, 1, 6, 7] : List Int) Try.underlying25 I3 (by decide) rfl (by decide) rfl rfl (fun _ _ => Kd.zau _)) (cur2 (fun A757 c758 => ?_))
      refine o_pick [1, 0, 2, 3, 4, 5] (by decide) rfl ?_
      refine bindE3 h (fun i761 i762 i763 hx760 h => ?_) rfl
      refine o_e rfl (za9 1 Z Try.func17 N17 rfl rfl rfl (fun w P1 hF hB hS hT => spec_l1Cur_among.calls g0 A0_0 c0_0 l0_0.length l0_0 i754 i755 A757 c758 (([(-1), 0, 1, 6, 7] : List Int).length) ([(-1), 0, 1, 6, 7] : List Int) hB hF (hS _ R0_0) hc0_0 (hT 0 _ rfl).row (hT 0 _ rfl).cap _ _ _ hx760)) (fun _ => ?_)
      refine o_q rfl rfl (q_f F27_0 rfl) ?_
      refine o_e rfl (e_store (i := 2) rfl rfl rfl rfl Z3 rfl rfl) (fun _ => ?_)
      refine o_end ?_
      refine zam ?_
      refine x_meetJ (i761, l5, l6, i762, i763, A9, c10, A11, c12) h trivial (fun w h => za7 [5, 2, 3, 4, 0] (by decide) rfl w h) ?_
      repeat (first | exact zad _ _ | refine zah rfl ?_ | refine zae rfl ?_ | refine zai rfl ?_)
    · skip
      replace h := br_f hb756 h
      refine c_seq ?_
      refine za0 ?_
      refine o_q rfl rfl (q_eql rfl rfl) ?_
      refine o_q rfl rfl (q_asg rfl) ?_
      refine o_end ?_
      refine za1 ?_
      refine zaq _ rfl (fun hb764 => ?_) (fun hb764 => ?_)
      · skip
        replace h := br_t hb764 h
        refine c_seq ?_
        refine za0 ?_
        refine o_q rfl rfl (q_f F27_1 rfl) ?_
        refine o_q rfl rfl (q_ldb Y24 rfl (fun w h => h.zan (i := 1) rfl) rfl) ?_
        refine o_q rfl rfl (q_len Try.underlying24 rfl) ?_
        refine o_q rfl rfl (q_gtr rfl rfl) ?_
        refine o_end ?_
        refine za1 ?_
        refine zaq _ rfl (fun hb765 => ?_) (fun hb765 => ?_)
        · skip
          replace h := br_t hb765 h
          refine a_startS (ds := []) [none, some 1, none, some 3, some 4] MO rfl ?_
          refine zac 0 rfl rfl rfl (by kernel_rfl) (fun _ _ _ h => h) (q_f F27_1 rfl) ?_
          refine a_take 1 rfl rfl rfl (by kernel_rfl) (fun _ _ _ h => h) (fun w h => zaj [none, some 1, none, some 3, some 4] (by decide) w h rfl) (q_ldb Y24 rfl (fun w h => h.zan (i := 1) rfl) rfl) ?_
          refine zac 2 rfl rfl rfl (by kernel_rfl) (fun _ _ _ h => h) (za2 rfl) ?_
          refine zac 3 rfl rfl rfl (by kernel_rfl) (fun _ _ _ h => h) (q_f F27_1 rfl) ?_
          refine a_take 4 rfl rfl rfl (by kernel_rfl) (fun _ _ _ h => h) (fun w h => zaj [none, some 1, none, some 3, some 4] (by decide) w h rfl) (q_ldb Y24 rfl (fun w h => h.zan (i := 1) rfl) rfl) ?_
          refine zac 5 rfl rfl rfl (by kernel_rfl) (fun _ _ _ h => h) (q_len Try.underlying24 rfl) ?_
          refine zac 7 rfl rfl rfl (by kernel_rfl) (fun _ _ _ h => h) (za2 rfl) ?_
          refine zac 10 rfl rfl rfl (by kernel_rfl) (fun _ _ _ h => h) (za2 rfl) ?_
          refine bindE3 h (fun i767 i768 i769 hx766 h => ?_) rfl
          refine a_one 6 rfl rfl (by kernel_rfl) rfl (za9 1 Z Try.func39 N39 rfl rfl rfl (fun w P1 hF hB hS hT => spec_l1Cur_pick.calls g0 A0_0 c0_0 l0_0.length l0_0 i754 i755 (l5.length : Int) hB hF (hS _ R0_0) hc0_0 _ _ _ hx766)) (fun s w h => zaj [none, some 1, none, some 3, some 4] (by decide) w h rfl) (fun _ => ?_)
          refine bindE3 h (fun i771 i772 i773 hx770 h => ?_) rfl
          refine a_one 8 rfl rfl (by kernel_rfl) rfl (za9 1 Z Try.func39 N39 rfl rfl rfl (fun w P1 hF hB hS hT => spec_l1Cur_pick.calls g0 A0_0 c0_0 l0_0.length l0_0 i768 i769 5 hB hF (hS _ R0_0) hc0_0 _ _ _ hx770)) (fun s w h => zaj [none, some 1, none, some 3, some 4] (by decide) w h rfl) (fun _ => ?_)
          refine zac 9 rfl rfl rfl (by kernel_rfl) (fun _ _ _ h => h) (q_sub64 rfl rfl) ?_
          refine bindE3 h (fun i775 i776 i777 hx774 h => ?_) rfl
          refine a_one 11 rfl rfl (by kernel_rfl) rfl (za9 1 Z Try.func39 N39 rfl rfl rfl (fun w P1 hF hB hS hT => spec_l1Cur_pick.calls g0 A0_0 c0_0 l0_0.length l0_0 i772 i773 8 hB hF (hS _ R0_0) hc0_0 _ _ _ hx774)) (fun s w h => zaj [none, some 1, none, some 3, some 4] (by decide) w h rfl) (fun _ => ?_)
          refine zac 12 rfl rfl rfl (by kernel_rfl) (fun _ _ _ h => h) (q_build (vs := [(0, .int .i64 (w64 (i771 - 1))), (1, .int .i64 i775)]) (cs := [.int .i64 (w64 (i771 - 1)), .int .i64 i775]) rfl rfl) ?_
          refine a_fact (p := Sh A9 l5.length l5.length) (fun w h => f_sh (dk := kStep) h (fun w h => h.zao (i := 2) rfl)) (fun hq778 => ?_)
          refine za8 h (fun y780 hg779 h => ?_) rfl
          refine zac 13 rfl rfl rfl (by kernel_rfl) (fun _ _ _ h => h) (q_ix Try.underlying24 Z58 rfl rfl hq778 hg779) ?_
          refine za8 h (fun l781 hs782 h => ?_) rfl
          refine a_one 14 rfl rfl (by kernel_rfl) rfl (e_setF (i := 2) (off := 0) (vs := [.int .i64 (w64 (i771 - 1)), .int .i64 i775]) (q' := (⟨w64 (i771 - 1), i775⟩ : SStep)) rfl rfl rfl rfl rfl rfl Z58 hg779 rfl rfl hs782) (fun s w h => zaj [none, some 1, none, some 3, some 4] (by decide) w h rfl) (fun _ => ?_)
          refine a_done (by kernel_rfl) ?_
          refine zam ?_
          refine x_fact (p := l5.length = l781.length) (fun w h => (h.row_C (i := 2) rfl).2.1) (fun hn783 => ?_)
          refine x_meetJ (i4, l781, l6, i776, i777, A9, c10, A11, c12) h trivial (f_pickE (L1 := [box g0 44 #[.slice A0_0 l0_0.length c0_0, .int .i64 i776, .int .u64 i777], box g13 27 #[.int .i64 i4, .slice A9 l5.length c10, .slice A11 l6.length c12], row kStep 58 (.slice A9 l5.length c10) l781, row (Kd.int .i64) 3 (.slice A11 l6.length c12) l6, box g1 27 #[.int .i64 0, .slice none 0 0, .slice none 0 0]]) rfl [4, 1, 2, 3, 0] (by decide) rfl (by (try rw [hn783]); first | done | rfl)) ?_
          repeat (first | exact zad _ _ | refine zah rfl ?_ | refine zae rfl ?_ | refine zai rfl ?_)
        · skip
          replace h := br_f hb765 h
          refine zak ?_
          refine zam ?_
          refine x_meetJ (i4, l5, l6, i754, i755, A9, c10, A11, c12) h trivial (fun w h => za7 [4, 1, 2, 3, 0] (by decide) rfl w h) ?_
          repeat (first | exact zad _ _ | refine zah rfl ?_ | refine zae rfl ?_ | refine zai rfl ?_)
      · skip
        replace h := br_f hb764 h
        refine c_seq ?_
        refine za0 ?_
        refine o_q rfl rfl (q_eql rfl rfl) ?_
        refine o_q rfl rfl (q_asg rfl) ?_
        refine o_end ?_
        refine za1 ?_
        refine zaq _ rfl (fun hb784 => ?_) (fun hb784 => ?_)
        · skip
          replace h := br_t hb784 h
          refine bindE3 h (fun i967 i968 i969 hx966 h => ?_) rfl
          refine za8 h (fun l1146 ha1147 h => ?_) rfl
          refine a_startS (ds := []) [none, none, some 2, none, some 4] MO rfl ?_
          refine zac 0 rfl rfl rfl (by kernel_rfl) (fun _ _ _ h => h) (q_f F27_2 rfl) ?_
          refine zac 2 rfl rfl rfl (by kernel_rfl) (fun _ _ _ h => h) (za2 rfl) ?_
          refine a_two 1 3 rfl rfl rfl rfl (by kernel_rfl) rfl rfl (ev_q rfl (q_ldb Y25 rfl (fun w h => h.zan (i := 1) rfl) rfl)) (fun s w h => zaj [none, none, some 2, none, some 4] (by decide) w h rfl) (za9 1 Z Try.func39 N39 rfl rfl rfl (fun w P1 hF hB hS hT => spec_l1Cur_pick.calls g0 A0_0 c0_0 l0_0.length l0_0 i754 i755 12 hB hF (hS _ R0_0) hc0_0 _ _ _ hx966)) (fun s w h => zaj [none, none, some 2, none, some 4] (by decide) w h rfl) (fun _ => ?_) (fun _ => ?_)
          · skip
            refine a_one 3 rfl rfl (by kernel_rfl) rfl (za9 1 Z Try.func39 N39 rfl rfl rfl (fun w P1 hF hB hS hT => spec_l1Cur_pick.calls g0 A0_0 c0_0 l0_0.length l0_0 i754 i755 12 hB hF (hS _ R0_0) hc0_0 _ _ _ hx966)) (fun s w h => zaj [none, none, some 2, none, some 4] (by decide) w h rfl) (fun _ => ?_)
            refine zac 4 rfl rfl rfl (by kernel_rfl) (fun _ _ _ h => h) (q_sub64 rfl rfl) ?_
            refine a_one 5 rfl rfl (by kernel_rfl) rfl (e_lit (vs := [(0, .int .i64 (w64 (i967 - 1)))]) (cs := [.int .i64 (w64 (i967 - 1))]) (Kd.int .i64) ([w64 (i967 - 1)] : List Int) Try.underlying25 I3 (by decide) rfl (by decide) rfl rfl (fun _ _ => Kd.zau _)) (fun s w h => zaj [none, none, some 3, none, some 5] (by decide) w h rfl) (cur2 (fun A1086 c1087 => ?_))
            refine a_one 6 rfl rfl (by kernel_rfl) rfl (e_app (i := 4) (j := 0) Try.underlying25 I3 rfl (by decide) (by decide) rfl rfl rfl rfl rfl ha1147) (fun s w h => zaj [none, none, some 3, none, some 5] (by decide) w h rfl) (cur2 (fun A1148 c1149 => ?_))
            refine zac 7 rfl rfl rfl (by kernel_rfl) (fun _ _ _ h => h) (q_f F27_2 rfl) ?_
            refine a_one 8 rfl rfl (by kernel_rfl) rfl (e_store (i := 2) rfl rfl rfl rfl Z25 rfl rfl) (fun s w h => zaj [none, none, some 3, none, some 5] (by decide) w h rfl) (fun _ => ?_)
            refine a_done (by kernel_rfl) ?_
            refine zam ?_
            refine x_meetJ (i4, l5, l1146, i968, i969, A9, c10, A1148, c1149) h trivial (fun w h => za7 [5, 2, 3, 4, 1] (by decide) rfl w h) ?_
            repeat (first | exact zad _ _ | refine zah rfl ?_ | refine zae rfl ?_ | refine zai rfl ?_)
          · skip
            refine zac 4 rfl rfl rfl (by kernel_rfl) (fun _ _ _ h => h) (q_sub64 rfl rfl) ?_
            refine a_two 1 5 rfl rfl rfl rfl (by kernel_rfl) rfl rfl (ev_q rfl (q_ldb Y25 rfl (fun w h => h.zan (i := 1) rfl) rfl)) (fun s w h => zaj [none, none, some 2, none, some 4] (by decide) w h rfl) (e_lit (vs := [(0, .int .i64 (w64 (i967 - 1)))]) (cs := [.int .i64 (w64 (i967 - 1))]) (Kd.int .i64) ([w64 (i967 - 1)] : List Int) Try.underlying25 I3 (by decide) rfl (by decide) rfl rfl (fun _ _ => Kd.zau _)) (fun s w h => zaj [none, none, some 3, none, some 5] (by decide) w h rfl) (fun _ => ?_) (cur2 (fun A1086 c1087 => ?_))
            · skip
              refine a_one 5 rfl rfl (by kernel_rfl) rfl (e_lit (vs := [(0, .int .i64 (w64 (i967 - 1)))]) (cs := [.int .i64 (w64 (i967 - 1))]) (Kd.int .i64) ([w64 (i967 - 1)] : List Int) Try.underlying25 I3 (by decide) rfl (by decide) rfl rfl (fun _ _ => Kd.zau _)) (fun s w h => zaj [none, none, some 3, none, some 5] (by decide) w h rfl) (cur2 (fun A1086 c1087 => ?_))
              refine a_one 6 rfl rfl (by kernel_rfl) rfl (e_app (i := 4) (j := 0) Try.underlying25 I3 rfl (by decide) (by decide) rfl rfl rfl rfl rfl ha1147) (fun s w h => zaj [none, none, some 3, none, some 5] (by decide) w h rfl) (cur2 (fun A1148 c1149 => ?_))
              refine zac 7 rfl rfl rfl (by kernel_rfl) (fun _ _ _ h => h) (q_f F27_2 rfl) ?_
              refine a_one 8 rfl rfl (by kernel_rfl) rfl (e_store (i := 2) rfl rfl rfl rfl Z25 rfl rfl) (fun s w h => zaj [none, none, some 3, none, some 5] (by decide) w h rfl) (fun _ => ?_)
              refine a_done (by kernel_rfl) ?_
              refine zam ?_
              refine x_meetJ (i4, l5, l1146, i968, i969, A9, c10, A1148, c1149) h trivial (fun w h => za7 [5, 2, 3, 4, 1] (by decide) rfl w h) ?_
              repeat (first | exact zad _ _ | refine zah rfl ?_ | refine zae rfl ?_ | refine zai rfl ?_)
            · skip
              refine a_one 1 rfl rfl (by kernel_rfl) rfl (ev_q rfl (q_ldb Y25 rfl (fun w h => h.zan (i := 2) rfl) rfl)) (fun s w h => zaj [none, none, some 3, none, some 5] (by decide) w h rfl) (fun _ => ?_)
              refine a_one 6 rfl rfl (by kernel_rfl) rfl (e_app (i := 4) (j := 0) Try.underlying25 I3 rfl (by decide) (by decide) rfl rfl rfl rfl rfl ha1147) (fun s w h => zaj [none, none, some 3, none, some 5] (by decide) w h rfl) (cur2 (fun A1148 c1149 => ?_))
              refine zac 7 rfl rfl rfl (by kernel_rfl) (fun _ _ _ h => h) (q_f F27_2 rfl) ?_
              refine a_one 8 rfl rfl (by kernel_rfl) rfl (e_store (i := 2) rfl rfl rfl rfl Z25 rfl rfl) (fun s w h => zaj [none, none, some 3, none, some 5] (by decide) w h rfl) (fun _ => ?_)
              refine a_done (by kernel_rfl) ?_
              refine zam ?_
              refine x_meetJ (i4, l5, l1146, i968, i969, A9, c10, A1148, c1149) h trivial (fun w h => za7 [5, 2, 3, 4, 1] (by decide) rfl w h) ?_
              repeat (first | exact zad _ _ | refine zah rfl ?_ | refine zae rfl ?_ | refine zai rfl ?_)
        · skip
          replace h := br_f hb784 h
          refine c_seq ?_
          refine za0 ?_
          refine o_q rfl rfl (q_eql rfl rfl) ?_
          refine o_q rfl rfl (q_asg rfl) ?_
          refine o_end ?_
          refine za1 ?_
          refine zaq _ rfl (fun hb1386 => ?_) (fun hb1386 => ?_)
          · skip
            replace h := br_t hb1386 h
            refine c_seq ?_
            refine za0 ?_
            refine o_q rfl rfl (q_build (vs := [(0, .int .i64 1)]) (cs := [.int .i64 1, .slice none 0 0, .slice none 0 0]) rfl rfl) ?_
            refine o_e rfl (e_storeA (i := 1) rfl rfl rfl Z27 rfl rfl) (fun _ => ?_)
            refine o_end ?_
            refine za1 ?_
            refine c_seq ?_
            refine c_seq ?_
            refine za0 ?_
            refine o_q rfl rfl (za2 rfl) ?_
            refine bindE3 h (fun i1388 i1389 i1390 hx1387 h => ?_) rfl
            refine o_e rfl (za9 1 Z Try.func39 N39 rfl rfl rfl (fun w P1 hF hB hS hT => spec_l1Cur_pick.calls g0 A0_0 c0_0 l0_0.length l0_0 i754 i755 4 hB hF (hS _ R0_0) hc0_0 _ _ _ hx1387)) (fun _ => ?_)
            refine o_q rfl rfl (q_add64 rfl rfl) ?_
            refine o_q rfl rfl (q_asg rfl) ?_
            refine o_end ?_
            refine za1 ?_
            refine zaf ?_
            refine c_nil kStep 58 ?_
            refine za8 h (fun o1403 hl1402 hR1401 => ?_) rfl
            clear h
            refine zav (σ := (List SStep) × Int × (Option Addr) × Nat) (fun k1398 ((l1392, i1395, A1393, c1394) : (List SStep) × Int × (Option Addr) × Nat) => spec_l1Cur_anyPlan.l0 k1398 l1392 i1395 = some o1403) [8, 58, 59, 60, 61, 62, 63, 64, 65, 66, 67, 68, 69, 70, 71, 72, 73] (fun ((l1392, i1395, A1393, c1394) : (List SStep) × Int × (Option Addr) × Nat) => [(8, .int .i64 i1395)]) (fun ((l1392, i1395, A1393, c1394) : (List SStep) × Int × (Option Addr) × Nat) => [row kStep 58 (.slice A1393 l1392.length c1394) l1392, box g0 44 #[.slice A0_0 l0_0.length c0_0, .int .i64 i1389, .int .u64 i1390], box g13 27 #[.int .i64 1, .slice A1393 l1392.length c1394, .slice none 0 0], row kStep 58 (.slice A9 l5.length c10) l5, row (Kd.int .i64) 3 (.slice A11 l6.length c12) l6, box g1 27 #[.int .i64 0, .slice none 0 0, .slice none 0 0]]) k (([] : List SStep), w64 (18 + i1388), none, 0) hl1402 ⟨rfl, trivial⟩ (fun w h => h) ?_
            refine natC (cur4 (fun l1392 i1395 A1393 c1394 => fun U1404 hJ_ => ?_)) (fun k1398 => (cur4 (fun l1392 i1395 A1393 c1394 => fun U1404 hJ_ => ?_)))
            · skip
              replace hJ_ : spec_l1Cur_anyPlan.l0 0 l1392 i1395 = some o1403 := hJ_
              rw [spec_l1Cur_anyPlan.l0] at hJ_
              exact noneE hJ_
            · skip
              clear hl1402
              have h := hJ_; clear hJ_
              replace h : spec_l1Cur_anyPlan.l0 (k1398 + 1) l1392 i1395 = some o1403 := h
              rw [spec_l1Cur_anyPlan.l0] at h
              refine c_seq ?_
              refine c_seq ?_
              refine za0 ?_
              refine o_q rfl rfl (za2 rfl) ?_
              refine o_q rfl rfl (q_gtr rfl rfl) ?_
              refine o_end ?_
              refine za1 ?_
              refine zaq _ rfl (fun hb1406 => ?_) (fun hb1406 => ?_)
              · skip
                replace h := br_t hb1406 h
                refine zak ?_
                refine za1 ?_
                refine c_seq ?_
                refine zaf ?_
                refine za0 ?_
                refine o_q rfl rfl (q_f F27_1 rfl) ?_
                refine o_q rfl rfl (q_ldb Y24 rfl (fun w h => h.zan (i := 2) rfl) rfl) ?_
                refine o_q rfl rfl (q_f F27_1 rfl) ?_
                refine o_q rfl rfl (q_ldb Y24 rfl (fun w h => h.zan (i := 2) rfl) rfl) ?_
                refine o_q rfl rfl (q_len Try.underlying24 rfl) ?_
                refine o_q rfl rfl (q_f F27_1 rfl) ?_
                refine o_q rfl rfl (q_ldb Y24 rfl (fun w h => h.zan (i := 2) rfl) rfl) ?_
                refine o_q rfl rfl (q_len Try.underlying24 rfl) ?_
                refine o_q rfl rfl (q_build (vs := [(0, .int .i64 (l1392.length : Int)), (1, .int .i64 (l1392.length : Int))]) (cs := [.int .i64 (l1392.length : Int), .int .i64 (l1392.length : Int)]) rfl rfl) ?_
                refine o_e rfl (e_lit (vs := [(0, .agg #[.int .i64 (l1392.length : Int), .int .i64 (l1392.length : Int)])]) (cs := [.int .i64 (l1392.length : Int), .int .i64 (l1392.length : Int)]) kStep ([(⟨(l1392.length : Int), (l1392.length : Int)⟩ : SStep)] : List SStep) Try.underlying24 I58 (by decide) rfl (by decide) rfl rfl (fun _ _ => reps_flat _)) (cur2 (fun A1407 c1408 => ?_))
                refine za8 h (fun l1410 ha1411 h => ?_) rfl
                refine o_e rfl (e_app (i := 1) (j := 0) Try.underlying24 I58 rfl (by decide) (by decide) rfl rfl rfl rfl rfl ha1411) (cur2 (fun A1412 c1413 => ?_))
                refine o_q rfl rfl (q_f F27_1 rfl) ?_
                refine o_e rfl (e_store (i := 3) rfl rfl rfl rfl Z24 rfl rfl) (fun _ => ?_)
                refine o_end ?_
                refine zam ?_
                refine za1 ?_
                refine za0 ?_
                refine o_q rfl rfl (za2 rfl) ?_
                refine o_q rfl rfl (q_sub64 rfl rfl) ?_
                refine o_q rfl rfl (q_asg rfl) ?_
                refine o_end ?_
                refine zal k1398 (l1410, w64 (i1395 - 1), A1412, c1413) (Nat.lt_succ_self _) h ⟨rfl, trivial⟩ (fun w h => za7 [1, 2, 3, 4, 5, 6] (by decide) rfl w h) ?_
                repeat (first | exact zad _ _ | refine zah rfl ?_ | refine zae rfl ?_ | refine zai rfl ?_)
              · skip
                replace h := br_f hb1406 h
                refine c_exit ?_
                refine za6 ?_
                refine za6 ?_
                have e_ := Option.some.inj h; replace h := hR1401; rw [← e_] at h; clear e_
                refine x_hit ?_
                refine za1 ?_
                refine za0 ?_
                refine o_q rfl rfl (q_f F27_1 rfl) ?_
                refine o_q rfl rfl (q_ldb Y24 rfl (fun w h => h.zan (i := 2) rfl) rfl) ?_
                refine o_q rfl rfl (q_len Try.underlying24 rfl) ?_
                refine o_e rfl (e_lit (vs := [(0, .int .i64 (l1392.length : Int))]) (cs := [.int .i64 (l1392.length : Int)]) (Kd.int .i64) ([(l1392.length : Int)] : List Int) Try.underlying25 I3 (by decide) rfl (by decide) rfl rfl (fun _ _ => Kd.zau _)) (cur2 (fun A1414 c1415 => ?_))
                refine o_q rfl rfl (q_f F27_2 rfl) ?_
                refine o_e rfl (e_store (i := 3) rfl rfl rfl rfl Z25 rfl rfl) (fun _ => ?_)
                refine o_end ?_
                refine zam ?_
                refine x_meetJ (1, l1392, ([(l1392.length : Int)] : List Int), i1389, i1390, A1393, c1394, A1414, c1415) h trivial (fun w h => za7 [6, 3, 1, 0, 2] (by decide) rfl w h) ?_
                repeat (first | exact zad _ _ | refine zah rfl ?_ | refine zae rfl ?_ | refine zai rfl ?_)
          · skip
            replace h := br_f hb1386 h
            refine c_seq ?_
            refine za0 ?_
            refine o_q rfl rfl (q_eql rfl rfl) ?_
            refine o_q rfl rfl (q_asg rfl) ?_
            refine o_end ?_
            refine za1 ?_
            refine zaq _ rfl (fun hb1417 => ?_) (fun hb1417 => ?_)
            · skip
              replace h := br_t hb1417 h
              refine zaf ?_
              have hl1429 := h; clear h
              refine zav (σ := (List Int) × Int × Int × (Option Addr) × Nat) (fun k1425 ((l1418, i1421, i1422, A1419, c1420) : (List Int) × Int × Int × (Option Addr) × Nat) => spec_l1Cur_anyPlan.l1 l0_0 i4 l5 k1425 l1418 i1421 i1422 = some o747) [81, 82, 83, 84, 85, 86, 87, 88, 89, 90, 91, 92] (fun ((l1418, i1421, i1422, A1419, c1420) : (List Int) × Int × Int × (Option Addr) × Nat) => []) (fun ((l1418, i1421, i1422, A1419, c1420) : (List Int) × Int × Int × (Option Addr) × Nat) => [box g0 44 #[.slice A0_0 l0_0.length c0_0, .int .i64 i1421, .int .u64 i1422], box g13 27 #[.int .i64 i4, .slice A9 l5.length c10, .slice A1419 l1418.length c1420], row kStep 58 (.slice A9 l5.length c10) l5, row (Kd.int .i64) 3 (.slice A1419 l1418.length c1420) l1418, box g1 27 #[.int .i64 0, .slice none 0 0, .slice none 0 0]]) k (l6, i754, i755, A11, c12) hl1429 trivial (fun w h => h) ?_
              refine natC (cur5 (fun l1418 i1421 i1422 A1419 c1420 => fun U1431 hJ_ => ?_)) (fun k1425 => (cur5 (fun l1418 i1421 i1422 A1419 c1420 => fun U1431 hJ_ => ?_)))
              · skip
                replace hJ_ : spec_l1Cur_anyPlan.l1 l0_0 i4 l5 0 l1418 i1421 i1422 = some o747 := hJ_
                rw [spec_l1Cur_anyPlan.l1] at hJ_
                exact noneE hJ_
              · skip
                clear hl1429
                have h := hJ_; clear hJ_
                replace h : spec_l1Cur_anyPlan.l1 l0_0 i4 l5 (k1425 + 1) l1418 i1421 i1422 = some o747 := h
                rw [spec_l1Cur_anyPlan.l1] at h
                refine c_seq ?_
                refine c_seq ?_
                refine a_startS (ds := []) [none, some 1, some 2, some 3, some 4] MO rfl ?_
                refine zac 0 rfl rfl rfl (by kernel_rfl) (fun _ _ _ h => h) (q_f F27_2 rfl) ?_
                refine a_take 1 rfl rfl rfl (by kernel_rfl) (fun _ _ _ h => h) (fun w h => zaj [none, some 1, some 2, some 3, some 4] (by decide) w h rfl) (q_ldb Y25 rfl (fun w h => h.zan (i := 1) rfl) rfl) ?_
                refine zac 2 rfl rfl rfl (by kernel_rfl) (fun _ _ _ h => h) (q_len Try.underlying25 rfl) ?_
                refine zac 3 rfl rfl rfl (by kernel_rfl) (fun _ _ _ h => h) (za2 rfl) ?_
                refine bindE3 h (fun i1434 i1435 i1436 hx1433 h => ?_) rfl
                refine a_one 4 rfl rfl (by kernel_rfl) rfl (za9 1 Z Try.func39 N39 rfl rfl rfl (fun w P1 hF hB hS hT => spec_l1Cur_pick.calls g0 A0_0 c0_0 l0_0.length l0_0 i1421 i1422 2 hB hF (hS _ R0_0) hc0_0 _ _ _ hx1433)) (fun s w h => zaj [none, some 1, some 2, some 3, some 4] (by decide) w h rfl) (fun _ => ?_)
                refine zac 5 rfl rfl rfl (by kernel_rfl) (fun _ _ _ h => h) (q_add64 rfl rfl) ?_
                refine zac 6 rfl rfl rfl (by kernel_rfl) (fun _ _ _ h => h) (q_lss rfl rfl) ?_
                refine a_done (by kernel_rfl) ?_
                refine za1 ?_
                refine zaq _ rfl (fun hb1437 => ?_) (fun hb1437 => ?_)
                · skip
                  replace h := br_t hb1437 h
                  refine zak ?_
                  refine za1 ?_
                  refine zaf ?_
                  refine za0 ?_
                  refine o_q rfl rfl (q_f F27_2 rfl) ?_
                  refine o_q rfl rfl (q_ldb Y25 rfl (fun w h => h.zan (i := 1) rfl) rfl) ?_
                  refine o_e rfl (e_lit (vs := [(0, .int .i64 0)]) (cs := [.int .i64 0]) (Kd.int .i64) ([0] : List Int) Try.underlying25 I3 (by decide) rfl (by decide) rfl rfl (fun _ _ => Kd.zau _)) (cur2 (fun A1438 c1439 => ?_))
                  refine za8 h (fun l1441 ha1442 h => ?_) rfl
                  refine o_e rfl (e_app (i := 4) (j := 0) Try.underlying25 I3 rfl (by decide) (by decide) rfl rfl rfl rfl rfl ha1442) (cur2 (fun A1443 c1444 => ?_))
                  refine o_q rfl rfl (q_f F27_2 rfl) ?_
                  refine o_e rfl (e_store (i := 2) rfl rfl rfl rfl Z25 rfl rfl) (fun _ => ?_)
                  refine o_end ?_
                  refine zam ?_
                  refine zal k1425 (l1441, i1435, i1436, A1443, c1444) (Nat.lt_succ_self _) h trivial (fun w h => za7 [1, 2, 3, 4, 5] (by decide) rfl w h) ?_
                  repeat (first | exact zad _ _ | refine zah rfl ?_ | refine zae rfl ?_ | refine zai rfl ?_)
                · skip
                  replace h := br_f hb1437 h
                  refine c_exit ?_
                  refine za6 ?_
                  refine za6 ?_
                  refine x_hit ?_
                  refine zam ?_
                  refine x_meetJ (i4, l5, l1418, i1435, i1436, A9, c10, A1419, c1420) h trivial (fun w h => za7 [4, 1, 2, 3, 0] (by decide) rfl w h) ?_
                  repeat (first | exact zad _ _ | refine zah rfl ?_ | refine zae rfl ?_ | refine zai rfl ?_)
            · skip
              replace h := br_f hb1417 h
              refine c_seq ?_
              refine za0 ?_
              refine o_q rfl rfl (q_eql rfl rfl) ?_
              refine o_q rfl rfl (q_asg rfl) ?_
              refine o_end ?_
              refine za1 ?_
              refine zaq _ rfl (fun hb1445 => ?_) (fun hb1445 => ?_)
              · skip
                replace h := br_t hb1445 h
                refine c_seq ?_
                refine za0 ?_
                refine o_q rfl rfl (q_build (vs := [(0, .int .i64 2)]) (cs := [.int .i64 2, .slice none 0 0, .slice none 0 0]) rfl rfl) ?_
                refine o_e rfl (e_storeA (i := 1) rfl rfl rfl Z27 rfl rfl) (fun _ => ?_)
                refine o_end ?_
                refine za1 ?_
                refine c_seq ?_
                refine c_seq ?_
                refine za0 ?_
                refine o_q rfl rfl (za2 rfl) ?_
                refine bindE3 h (fun i1447 i1448 i1449 hx1446 h => ?_) rfl
                refine o_e rfl (za9 1 Z Try.func39 N39 rfl rfl rfl (fun w P1 hF hB hS hT => spec_l1Cur_pick.calls g0 A0_0 c0_0 l0_0.length l0_0 i754 i755 2 hB hF (hS _ R0_0) hc0_0 _ _ _ hx1446)) (fun _ => ?_)
                refine o_q rfl rfl (q_add64 rfl rfl) ?_
                refine o_q rfl rfl (q_asg rfl) ?_
                refine o_end ?_
                refine za1 ?_
                refine zaf ?_
                refine c_nil kStep 58 ?_
                refine za8 h (fun o1462 hl1461 hR1460 => ?_) rfl
                clear h
                refine zav (σ := (List SStep) × Int × (Option Addr) × Nat) (fun k1457 ((l1451, i1454, A1452, c1453) : (List SStep) × Int × (Option Addr) × Nat) => spec_l1Cur_anyPlan.l2 k1457 l1451 i1454 = some o1462) [9, 99, 100, 101, 102, 103, 104, 105, 106, 107, 108, 109, 110, 111, 112] (fun ((l1451, i1454, A1452, c1453) : (List SStep) × Int × (Option Addr) × Nat) => [(9, .int .i64 i1454)]) (fun ((l1451, i1454, A1452, c1453) : (List SStep) × Int × (Option Addr) × Nat) => [row kStep 58 (.slice A1452 l1451.length c1453) l1451, box g0 44 #[.slice A0_0 l0_0.length c0_0, .int .i64 i1448, .int .u64 i1449], box g13 27 #[.int .i64 2, .slice A1452 l1451.length c1453, .slice none 0 0], row kStep 58 (.slice A9 l5.length c10) l5, row (Kd.int .i64) 3 (.slice A11 l6.length c12) l6, box g1 27 #[.int .i64 0, .slice none 0 0, .slice none 0 0]]) k (([] : List SStep), w64 (40 + i1447), none, 0) hl1461 ⟨rfl, trivial⟩ (fun w h => h) ?_
                refine natC (cur4 (fun l1451 i1454 A1452 c1453 => fun U1463 hJ_ => ?_)) (fun k1457 => (cur4 (fun l1451 i1454 A1452 c1453 => fun U1463 hJ_ => ?_)))
                · skip
                  replace hJ_ : spec_l1Cur_anyPlan.l2 0 l1451 i1454 = some o1462 := hJ_
                  rw [spec_l1Cur_anyPlan.l2] at hJ_
                  exact noneE hJ_
                · skip
                  clear hl1461
                  have h := hJ_; clear hJ_
                  replace h : spec_l1Cur_anyPlan.l2 (k1457 + 1) l1451 i1454 = some o1462 := h
                  rw [spec_l1Cur_anyPlan.l2] at h
                  refine c_seq ?_
                  refine c_seq ?_
                  refine za0 ?_
                  refine o_q rfl rfl (za2 rfl) ?_
                  refine o_q rfl rfl (q_gtr rfl rfl) ?_
                  refine o_end ?_
                  refine za1 ?_
                  refine zaq _ rfl (fun hb1465 => ?_) (fun hb1465 => ?_)
                  · skip
                    replace h := br_t hb1465 h
                    refine zak ?_
                    refine za1 ?_
                    refine c_seq ?_
                    refine zaf ?_
                    refine za0 ?_
                    refine o_q rfl rfl (q_f F27_1 rfl) ?_
                    refine o_q rfl rfl (q_ldb Y24 rfl (fun w h => h.zan (i := 2) rfl) rfl) ?_
                    refine o_q rfl rfl (q_f F27_1 rfl) ?_
                    refine o_q rfl rfl (q_ldb Y24 rfl (fun w h => h.zan (i := 2) rfl) rfl) ?_
                    refine o_q rfl rfl (q_len Try.underlying24 rfl) ?_
                    refine o_q rfl rfl (q_add64 rfl rfl) ?_
                    refine o_q rfl rfl (q_build (vs := [(0, .int .i64 0), (1, .int .i64 (w64 (1 + (l1451.length : Int))))]) (cs := [.int .i64 0, .int .i64 (w64 (1 + (l1451.length : Int)))]) rfl rfl) ?_
                    refine o_e rfl (e_lit (vs := [(0, .agg #[.int .i64 0, .int .i64 (w64 (1 + (l1451.length : Int)))])]) (cs := [.int .i64 0, .int .i64 (w64 (1 + (l1451.length : Int)))]) kStep ([(⟨0, w64 (1 + (l1451.length : Int))⟩ : SStep)] : List SStep) Try.underlying24 I58 (by decide) rfl (by decide) rfl rfl (fun _ _ => reps_flat _)) (cur2 (fun A1466 c1467 => ?_))
                    refine za8 h (fun l1469 ha1470 h => ?_) rfl
                    refine o_e rfl (e_app (i := 1) (j := 0) Try.underlying24 I58 rfl (by decide) (by decide) rfl rfl rfl rfl rfl ha1470) (cur2 (fun A1471 c1472 => ?_))
                    refine o_q rfl rfl (q_f F27_1 rfl) ?_
                    refine o_e rfl (e_store (i := 3) rfl rfl rfl rfl Z24 rfl rfl) (fun _ => ?_)
                    refine o_end ?_
                    refine zam ?_
                    refine za1 ?_
                    refine za0 ?_
                    refine o_q rfl rfl (za2 rfl) ?_
                    refine o_q rfl rfl (q_sub64 rfl rfl) ?_
                    refine o_q rfl rfl (q_asg rfl) ?_
                    refine o_end ?_
                    refine zal k1457 (l1469, w64 (i1454 - 1), A1471, c1472) (Nat.lt_succ_self _) h ⟨rfl, trivial⟩ (fun w h => za7 [1, 2, 3, 4, 5, 6] (by decide) rfl w h) ?_
                    repeat (first | exact zad _ _ | refine zah rfl ?_ | refine zae rfl ?_ | refine zai rfl ?_)
                  · skip
                    replace h := br_f hb1465 h
                    refine c_exit ?_
                    refine za6 ?_
                    refine za6 ?_
                    have e_ := Option.some.inj h; replace h := hR1460; rw [← e_] at h; clear e_
                    refine x_hit ?_
                    refine za1 ?_
                    refine za0 ?_
                    refine o_e rfl (e_lit (vs := [(0, .int .i64 5)]) (cs := [.int .i64 5]) (Kd.int .i64) ([5] : List Int) Try.underlying25 I3 (by decide) rfl (by decide) rfl rfl (fun _ _ => Kd.zau _)) (cur2 (fun A1473 c1474 => ?_))
                    refine o_q rfl rfl (q_f F27_2 rfl) ?_
                    refine o_e rfl (e_store (i := 3) rfl rfl rfl rfl Z25 rfl rfl) (fun _ => ?_)
                    refine o_end ?_
                    refine zam ?_
                    refine x_meetJ (2, l1451, ([5] : List Int), i1448, i1449, A1452, c1453, A1473, c1474) h trivial (fun w h => za7 [6, 3, 1, 0, 2] (by decide) rfl w h) ?_
                    repeat (first | exact zad _ _ | refine zah rfl ?_ | refine zae rfl ?_ | refine zai rfl ?_)
              · skip
                replace h := br_f hb1445 h
                refine zak ?_
                refine zam ?_
                refine x_meetJ (i4, l5, l6, i754, i755, A9, c10, A11, c12) h trivial (fun w h => za7 [4, 1, 2, 3, 0] (by decide) rfl w h) ?_
                repeat (first | exact zad _ _ | refine zah rfl ?_ | refine zae rfl ?_ | refine zai rfl ?_)
  · skip
    refine (cur9 (fun i738 l739 l742 i745 i746 A740 c741 A743 c744 => fun U750 hJ751 => ?_))
    have e_ := Option.some.inj hJ751; have h := hR749; rw [← e_] at h; clear e_ hJ751 hR749 hl748
    refine c_seq ?_
    refine za0 ?_
    refine o_q rfl rfl (q_ldB G27 Z27 rfl (fun w h => h.zan (i := 1) rfl) rfl) ?_
    refine o_e rfl (e_storeA (i := 0) rfl rfl rfl Z27 rfl rfl) (fun _ => ?_)
    refine o_end ?_
    refine za1 ?_
    refine c_ret ?_
    have e0_ := Option.some.inj h; clear h
    have d0_ := (Prod.mk.inj e0_).1; have e1_ := (Prod.mk.inj e0_).2; clear e0_; subst d0_
    have d1_ := (Prod.mk.inj e1_).1; have e2_ := (Prod.mk.inj e1_).2; clear e1_; subst d1_
    have d2_ := (Prod.mk.inj e2_).1; have e3_ := (Prod.mk.inj e2_).2; clear e2_; subst d2_
    have d3_ := (Prod.mk.inj e3_).1; have e4_ := (Prod.mk.inj e3_).2; clear e3_; subst d3_
    subst e4_
    exact x_r1 (A740, c741, A743, c744) Try.results15 (rv_cell rfl G27 Z27 (fun w h => h.zan (i := 0) rfl) rfl) rfl (fun w h => za7 [2, 3, 4] (by decide) rfl w h)

/-! ### (*loop.example/g01098/spec.l1Cur).points: function 40 -/
def spec_l1Cur_points.f (l0_0 : List Int) (a0_1 : Int) (a0_2 : Int) : Option (Int × Int × Int) := (spec_l1Cur_one.f l0_0 a0_1 a0_2 20).bind fun (b2, i3, i4) => if b2 = true then ((spec_l1Cur_among.f l0_0 i3 i4 ([0, 8, 9] : List Int)).bind fun (i10, i11, i12) => some (i10, i11, i12)) else ((spec_l1Cur_pick.f l0_0 i3 i4 6).bind fun (i14, i15, i16) => some (w64 (1 + i14), i15, i16))
set_option maxHeartbeats 600000 in
set_option maxRecDepth 100000 in
theorem spec_l1Cur_points.calls {w0 ws : World} {P0 : Nat → Prop} (g0 : Nat) (A0_0 : Option Addr) (c0_0 : Nat) (n0_0 : Nat) (l0_0 : List Int) (a0_1 : Int) (a0_2 : Int) (Z : Below w0.heap.size w0 ws) (hF : Fr w0 ws P0 [box g0 44 #[.slice A0_0 n0_0 c0_0, .int .i64 a0_1, .int .u64 a0_2]] ws) (R0_0 : Stable ws P0 (fun w => Kd.C (Kd.int .u8) w A0_0 n0_0 l0_0)) (hc0_0 : n0_0 ≤ c0_0) (r_1 : Int) (r_2 : Int) (r_3 : Int) (h : spec_l1Cur_points.f l0_0 a0_1 a0_2 = some (r_1, r_2, r_3)) :
    Calls Try.prog 40 #[.pointer (some ⟨g0, 0, none⟩)] ws (Post1 w0 ws P0 (fun (_ : Unit) => .int .i64 r_1) (fun (_ : Unit) => [box g0 44 #[.slice A0_0 n0_0 c0_0, .int .i64 r_2, .int .u64 r_3]])) := by
  unfold spec_l1Cur_points.f at h
  obtain rfl := (R0_0 ws (KeptB.refl _ _)).1
  refine enter Try.func40 rfl Try.ntmps40 rfl hF ?_
  refine c_seq ?_
  refine za0 ?_
  refine o_q rfl rfl (q_asg rfl) ?_
  refine o_end ?_
  refine za1 ?_
  refine c_seq ?_
  refine c_seq ?_
  refine za0 ?_
  refine o_q rfl rfl (za2 rfl) ?_
  refine bindE3 h (fun b2 i3 i4 hx1 h => ?_) rfl
  refine o_e rfl (za9 1 Z Try.func42 N42 rfl rfl rfl (fun w P1 hF hB hS hT => spec_l1Cur_one.calls g0 A0_0 c0_0 l0_0.length l0_0 a0_1 a0_2 20 hB hF (hS _ R0_0) hc0_0 _ _ _ hx1)) (fun _ => ?_)
  refine o_end ?_
  refine za1 ?_
  refine zaq _ rfl (fun hb5 => ?_) (fun hb5 => ?_)
  · skip
    replace h := bb_t hb5 h
    refine c_seq ?_
    refine za0 ?_
    refine o_q rfl rfl (za2 rfl) ?_
    refine o_e rfl (e_lit (vs := [(0, .int .i64 0), (1, .int .i64 8), (2, .int .i64 9)]) (cs := [.int .i64 0, .int .i64 8, .int .i64 9]) (Kd.int .i64) ([0, 8, 9] : List Int) Try.underlying25 I3 (by decide) rfl (by decide) rfl rfl (fun _ _ => Kd.zau _)) (cur2 (fun A6 c7 => ?_))
    refine o_pick [1, 0] (by decide) rfl ?_
    refine bindE3 h (fun i10 i11 i12 hx9 h => ?_) rfl
    refine o_e rfl (za9 1 Z Try.func17 N17 rfl rfl rfl (fun w P1 hF hB hS hT => spec_l1Cur_among.calls g0 A0_0 c0_0 l0_0.length l0_0 i3 i4 A6 c7 (([0, 8, 9] : List Int).length) ([0, 8, 9] : List Int) hB hF (hS _ R0_0) hc0_0 (hT 0 _ rfl).row (hT 0 _ rfl).cap _ _ _ hx9)) (fun _ => ?_)
    refine o_q rfl rfl (q_asg rfl) ?_
    refine o_end ?_
    refine za1 ?_
    refine c_ret ?_
    refine za5 ?_
    have e0_ := Option.some.inj h; clear h
    have d0_ := (Prod.mk.inj e0_).1; have e1_ := (Prod.mk.inj e0_).2; clear e0_; subst d0_
    have d1_ := (Prod.mk.inj e1_).1; have e2_ := (Prod.mk.inj e1_).2; clear e1_; subst d1_
    subst e2_
    exact x_r1 () Try.results40 (zaa rfl) rfl (fun w h => za7 [0] (by decide) rfl w h)
  · skip
    replace h := bb_f hb5 h
    refine zak ?_
    refine za1 ?_
    refine c_seq ?_
    refine za0 ?_
    refine o_q rfl rfl (za2 rfl) ?_
    refine bindE3 h (fun i14 i15 i16 hx13 h => ?_) rfl
    refine o_e rfl (za9 1 Z Try.func39 N39 rfl rfl rfl (fun w P1 hF hB hS hT => spec_l1Cur_pick.calls g0 A0_0 c0_0 l0_0.length l0_0 i3 i4 6 hB hF (hS _ R0_0) hc0_0 _ _ _ hx13)) (fun _ => ?_)
    refine o_q rfl rfl (q_add64 rfl rfl) ?_
    refine o_q rfl rfl (q_asg rfl) ?_
    refine o_end ?_
    refine za1 ?_
    refine c_ret ?_
    have e0_ := Option.some.inj h; clear h
    have d0_ := (Prod.mk.inj e0_).1; have e1_ := (Prod.mk.inj e0_).2; clear e0_; subst d0_
    have d1_ := (Prod.mk.inj e1_).1; have e2_ := (Prod.mk.inj e1_).2; clear e1_; subst d1_
    subst e2_
    exact x_r1 () Try.results40 (zaa rfl) rfl (fun w h => za7 [0] (by decide) rfl w h)

/-! ### (*loop.example/g01098/spec.l1Cur).permutation: function 41 -/
def spec_l1Cur_permutation.l0 (l0_0 : List Int) (a1 : Int) : Nat → (List Int) → Int → Int → Int → Option ((List Int) × Int × Int)
  | 0, _, _, _, _ => none
  | k10 + 1, l2, i5, i6, i7 => if i7 < a1 then ((spec_l1Cur_pick.f l0_0 i5 i6 (w64 (i7 + 1))).bind fun (i20, i21, i22) => (ct l2 (0 : Int) i20).bind fun l26 => (ap ([] : List Int) l26).bind fun l29 => (ap l29 ([i7] : List Int)).bind fun l36 => (ct l2 i20 (l2.length : Int)).bind fun l40 => (ap l36 l40).bind fun l43 => spec_l1Cur_permutation.l0 l0_0 a1 k10 l43 i21 i22 (w64 (i7 + 1))) else (some (l2, i5, i6))
def spec_l1Cur_permutation.f (k : Nat) (l0_0 : List Int) (a0_1 : Int) (a0_2 : Int) (a1 : Int) : Option ((List Int) × Int × Int) := (spec_l1Cur_permutation.l0 l0_0 a1 k ([] : List Int) a0_1 a0_2 0).bind fun (l2, i5, i6) => (if 0 < (l2.length : Int) then ((spec_l1Cur_one.f l0_0 i5 i6 40).bind fun (b62, i63, i64) => some (i63, i64, b62)) else (some (i5, i6, false))).bind fun (i52, i53, b54) => if b54 = true then ((spec_l1Cur_pick.f l0_0 i52 i53 (l2.length : Int)).bind fun (i67, i68, i69) => (spec_l1Cur_among.f l0_0 i68 i69 ([(-1), 0, a1, 4611686018427387904] : List Int)).bind fun (i74, i75, i76) => (gt l2 i67).bind fun y79 => (st l2 i67 i74).bind fun l80 => some (l80, i75, i76)) else (some (l2, i52, i53))
set_option maxHeartbeats 600000 in
set_option maxRecDepth 100000 in
theorem spec_l1Cur_permutation.calls (k : Nat) {w0 ws : World} {P0 : Nat → Prop} (g0 : Nat) (A0_0 : Option Addr) (c0_0 : Nat) (n0_0 : Nat) (l0_0 : List Int) (a0_1 : Int) (a0_2 : Int) (a1 : Int) (Z : Below w0.heap.size w0 ws) (hF : Fr w0 ws P0 [box g0 44 #[.slice A0_0 n0_0 c0_0, .int .i64 a0_1, .int .u64 a0_2]] ws) (R0_0 : Stable ws P0 (fun w => Kd.C (Kd.int .u8) w A0_0 n0_0 l0_0)) (hc0_0 : n0_0 ≤ c0_0) (r_1 : List Int) (r_4 : Int) (r_5 : Int) (h : spec_l1Cur_permutation.f k l0_0 a0_1 a0_2 a1 = some (r_1, r_4, r_5)) :
    Calls Try.prog 41 #[.pointer (some ⟨g0, 0, none⟩), .int .i64 a1] ws (Post1 w0 ws P0 (fun ((q_2, q_3) : (Option Addr) × Nat) => .slice q_2 r_1.length q_3) (fun ((q_2, q_3) : (Option Addr) × Nat) => [row (Kd.int .i64) 3 (.slice q_2 r_1.length q_3) r_1, box g0 44 #[.slice A0_0 n0_0 c0_0, .int .i64 r_4, .int .u64 r_5]])) := by
  unfold spec_l1Cur_permutation.f at h
  obtain rfl := (R0_0 ws (KeptB.refl _ _)).1
  refine enter Try.func41 rfl Try.ntmps41 rfl hF ?_
  refine c_seq ?_
  refine za0 ?_
  refine o_q rfl rfl (q_asg rfl) ?_
  refine o_end ?_
  refine za1 ?_
  refine c_seq ?_
  refine za0 ?_
  refine o_q rfl rfl (q_asg rfl) ?_
  refine o_end ?_
  refine za1 ?_
  refine c_seq ?_
  refine c_seq ?_
  refine za0 ?_
  refine o_q rfl rfl (q_asg rfl) ?_
  refine o_end ?_
  refine za1 ?_
  refine zaf ?_
  refine c_nil (Kd.int .i64) 3 ?_
  refine za8 h (fun o15 hl14 hR13 => ?_) rfl
  clear h
  refine zav (σ := (List Int) × Int × Int × Int × (Option Addr) × Nat) (fun k10 ((l2, i5, i6, i7, A3, c4) : (List Int) × Int × Int × Int × (Option Addr) × Nat) => spec_l1Cur_permutation.l0 l0_0 a1 k10 l2 i5 i6 i7 = some o15) [5, 6, 7, 8, 9, 10, 11, 12, 13, 14, 15, 16, 17, 18, 19, 20, 21, 22, 23, 24, 25, 26, 27, 28, 29, 30, 31] (fun ((l2, i5, i6, i7, A3, c4) : (List Int) × Int × Int × Int × (Option Addr) × Nat) => [(5, .slice A3 l2.length c4), (6, .int .i64 i7)]) (fun ((l2, i5, i6, i7, A3, c4) : (List Int) × Int × Int × Int × (Option Addr) × Nat) => [row (Kd.int .i64) 3 (.slice A3 l2.length c4) l2, box g0 44 #[.slice A0_0 l0_0.length c0_0, .int .i64 i5, .int .u64 i6]]) k (([] : List Int), a0_1, a0_2, 0, none, 0) hl14 ⟨rfl, rfl, trivial⟩ (fun w h => h) ?_
  refine natC (cur6 (fun l2 i5 i6 i7 A3 c4 => fun U16 hJ_ => ?_)) (fun k10 => (cur6 (fun l2 i5 i6 i7 A3 c4 => fun U16 hJ_ => ?_)))
  · skip
    replace hJ_ : spec_l1Cur_permutation.l0 l0_0 a1 0 l2 i5 i6 i7 = some o15 := hJ_
    rw [spec_l1Cur_permutation.l0] at hJ_
    exact noneE hJ_
  · skip
    clear hl14
    have h := hJ_; clear hJ_
    replace h : spec_l1Cur_permutation.l0 l0_0 a1 (k10 + 1) l2 i5 i6 i7 = some o15 := h
    rw [spec_l1Cur_permutation.l0] at h
    refine c_seq ?_
    refine c_seq ?_
    refine za0 ?_
    refine o_q rfl rfl (za2 rfl) ?_
    refine o_q rfl rfl (za2 rfl) ?_
    refine o_q rfl rfl (q_lss rfl rfl) ?_
    refine o_end ?_
    refine za1 ?_
    refine zaq _ rfl (fun hb18 => ?_) (fun hb18 => ?_)
    · skip
      replace h := br_t hb18 h
      refine zak ?_
      refine za1 ?_
      refine c_seq ?_
      refine zaf ?_
      refine c_seq ?_
      refine za0 ?_
      refine o_q rfl rfl (za2 rfl) ?_
      refine o_q rfl rfl (za2 rfl) ?_
      refine o_q rfl rfl (q_add64 rfl rfl) ?_
      refine o_pick [1, 0] (by decide) rfl ?_
      refine bindE3 h (fun i20 i21 i22 hx19 h => ?_) rfl
      refine o_e rfl (za9 1 Z Try.func39 N39 rfl rfl rfl (fun w P1 hF hB hS hT => spec_l1Cur_pick.calls g0 A0_0 c0_0 l0_0.length l0_0 i5 i6 (w64 (i7 + 1)) hB hF (hS _ R0_0) hc0_0 _ _ _ hx19)) (fun _ => ?_)
      refine o_q rfl rfl (q_asg rfl) ?_
      refine o_end ?_
      refine za1 ?_
      refine c_seq ?_
      refine za0 ?_
      refine o_e rfl (e_lit0 (Kd.int .i64) Try.underlying25 I3) (cur2 (fun A23 c24 => ?_))
      refine o_q rfl rfl (za2 rfl) ?_
      refine o_q rfl rfl (za2 rfl) ?_
      refine za8 h (fun l26 hz27 h => ?_) rfl
      refine zat (p := l2.length = l2.length ∧ l2.length ≤ c4) (fun w h => h.row_nc (i := 2) rfl) (fun hk28 => ?_)
      refine o_q rfl rfl (q_ctv Try.underlying25 Z3 rfl rfl ⟨_, rfl⟩ hk28.1 hk28.2 hz27) ?_
      refine za8 h (fun l29 ha30 h => ?_) rfl
      refine o_e rfl (e_appr (i := 0) Try.underlying25 I3 rfl (by decide) (by decide) (fun _ _ _ _ h => h) rfl (fun w h => C_cut (dk := (Kd.int .i64)) rfl hz27 hk28.2 (h.zao (i := 2) rfl)) rfl rfl ha30) (cur2 (fun A31 c32 => ?_))
      refine o_q rfl rfl (q_asg rfl) ?_
      refine o_end ?_
      refine za1 ?_
      refine c_seq ?_
      refine za0 ?_
      refine o_q rfl rfl (za2 rfl) ?_
      refine o_q rfl rfl (za2 rfl) ?_
      refine o_e rfl (e_lit (vs := [(0, .int .i64 i7)]) (cs := [.int .i64 i7]) (Kd.int .i64) ([i7] : List Int) Try.underlying25 I3 (by decide) rfl (by decide) rfl rfl (fun _ _ => Kd.zau _)) (cur2 (fun A33 c34 => ?_))
      refine za8 h (fun l36 ha37 h => ?_) rfl
      refine o_e rfl (e_app (i := 1) (j := 0) Try.underlying25 I3 rfl (by decide) (by decide) rfl rfl rfl rfl rfl ha37) (cur2 (fun A38 c39 => ?_))
      refine o_q rfl rfl (q_asg rfl) ?_
      refine o_end ?_
      refine za1 ?_
      refine za0 ?_
      refine o_q rfl rfl (za2 rfl) ?_
      refine o_q rfl rfl (za2 rfl) ?_
      refine o_q rfl rfl (za2 rfl) ?_
      refine za8 h (fun l40 hz41 h => ?_) rfl
      refine zat (p := l2.length = l2.length ∧ l2.length ≤ c4) (fun w h => h.row_nc (i := 3) rfl) (fun hk42 => ?_)
      refine o_q rfl rfl (q_ctv Try.underlying25 Z3 rfl ⟨_, rfl⟩ rfl hk42.1 hk42.2 hz41) ?_
      refine za8 h (fun l43 ha44 h => ?_) rfl
      refine o_e rfl (e_appr (i := 1) Try.underlying25 I3 rfl (by decide) (by decide) (fun _ _ _ _ h => h) rfl (fun w h => C_cut (dk := (Kd.int .i64)) rfl hz41 hk42.2 (h.zao (i := 3) rfl)) rfl rfl ha44) (cur2 (fun A45 c46 => ?_))
      refine o_q rfl rfl (q_asg rfl) ?_
      refine o_end ?_
      refine zam ?_
      refine za1 ?_
      refine za0 ?_
      refine o_q rfl rfl (za2 rfl) ?_
      refine o_q rfl rfl (q_add64 rfl rfl) ?_
      refine o_q rfl rfl (q_asg rfl) ?_
      refine o_end ?_
      refine zal k10 (l43, i21, i22, w64 (i7 + 1), A45, c46) (Nat.lt_succ_self _) h ⟨rfl, rfl, trivial⟩ (fun w h => za7 [1, 2] (by decide) rfl w h) ?_
      repeat (first | exact zad _ _ | refine zah rfl ?_ | refine zae rfl ?_ | refine zai rfl ?_)
    · skip
      replace h := br_f hb18 h
      refine c_exit ?_
      refine za6 ?_
      refine za6 ?_
      have e_ := Option.some.inj h; replace h := hR13; rw [← e_] at h; clear e_
      refine x_hit ?_
      refine za1 ?_
      refine c_seq ?_
      refine za8 h (fun o55 hl56 hR57 => ?_) rfl
      clear h
      refine c_cutJ (σ := Int × Int × Bool) (fun (i52, i53, b54) => some (i52, i53, b54) = some o55) [32, 33, 34, 35, 36, 37, 38] (fun (i52, i53, b54) => [(38, .bool b54)]) (fun (i52, i53, b54) => [box g0 44 #[.slice A0_0 l0_0.length c0_0, .int .i64 i52, .int .u64 i53], row (Kd.int .i64) 3 (.slice A3 l2.length c4) l2]) ?_ ?_
      · skip
        have h := hl56; clear hl56
        clear hR57
        refine za0 ?_
        refine o_q rfl rfl (za2 rfl) ?_
        refine o_q rfl rfl (q_len Try.underlying25 rfl) ?_
        refine o_q rfl rfl (q_gtr rfl rfl) ?_
        refine o_q rfl rfl (za2 rfl) ?_
        refine byB (decide (0 < (l2.length : Int))) (fun hb60 => ?_) (fun hb60 => ?_)
        · replace h := br_t hb60 h
          refine o_w (za4 rfl rfl rfl (congrArg Value.bool hb60)) rfl (za2 rfl) ?_
          refine o_pick [1, 0] (by decide) rfl ?_
          refine bindE3 h (fun b62 i63 i64 hx61 h => ?_) rfl
          refine o_ew (za4 rfl rfl rfl (congrArg Value.bool hb60)) (za9 1 Z Try.func42 N42 rfl rfl rfl (fun w P1 hF hB hS hT => spec_l1Cur_one.calls g0 A0_0 c0_0 l0_0.length l0_0 i5 i6 40 hB hF (hS _ R0_0) hc0_0 _ _ _ hx61)) (fun _ => ?_)
          refine o_q rfl rfl (zar true (congrArg Value.bool hb60) rfl) ?_
          refine o_end ?_
          refine x_meetJ (i63, i64, b62) h ⟨rfl, trivial⟩ (fun w h => za7 [0, 1] (by decide) rfl w h) ?_
          repeat (first | exact zad _ _ | refine zah rfl ?_ | refine zae rfl ?_ | refine zai rfl ?_)
        · replace h := br_f hb60 h
          refine @o_n _ _ _ _ _ _ _ _ _ _ _ 36 (za3 rfl rfl rfl (congrArg Value.bool hb60) rfl) (Eq.refl (some 36)) ?_
          refine @o_n _ _ _ _ _ _ _ _ _ _ _ 37 (za3 rfl rfl rfl (congrArg Value.bool hb60) rfl) (Eq.refl (some 37)) ?_
          refine o_q rfl rfl (zar false (congrArg Value.bool hb60) rfl) ?_
          refine o_end ?_
          refine x_meetJ (i5, i6, false) h ⟨rfl, trivial⟩ (fun w h => za7 [1, 0] (by decide) rfl w h) ?_
          repeat (first | exact zad _ _ | refine zah rfl ?_ | refine zae rfl ?_ | refine zai rfl ?_)
      · skip
        refine (cur3 (fun i52 i53 b54 => fun U58 hJ59 => ?_))
        have e_ := Option.some.inj hJ59; have h := hR57; rw [← e_] at h; clear e_ hJ59 hR57 hl56
        refine zaq _ rfl (fun hb65 => ?_) (fun hb65 => ?_)
        · skip
          replace h := bb_t hb65 h
          refine za0 ?_
          refine o_q rfl rfl (za2 rfl) ?_
          refine o_q rfl rfl (za2 rfl) ?_
          refine o_q rfl rfl (za2 rfl) ?_
          refine o_q rfl rfl (q_len Try.underlying25 rfl) ?_
          refine bindE3 h (fun i67 i68 i69 hx66 h => ?_) rfl
          refine o_e rfl (za9 1 Z Try.func39 N39 rfl rfl rfl (fun w P1 hF hB hS hT => spec_l1Cur_pick.calls g0 A0_0 c0_0 l0_0.length l0_0 i52 i53 (l2.length : Int) hB hF (hS _ R0_0) hc0_0 _ _ _ hx66)) (fun _ => ?_)
          refine o_q rfl rfl (za2 rfl) ?_
          refine o_q rfl rfl (za2 rfl) ?_
          refine o_e rfl (e_lit (vs := [(0, .int .i64 (-1)), (1, .int .i64 0), (2, .int .i64 a1), (3, .int .i64 4611686018427387904)]) (cs := [.int .i64 (-1), .int .i64 0, .int .i64 a1, .int .i64 4611686018427387904]) (Kd.int .i64) ([(-1), 0, a1, 4611686018427387904] : List Int) Try.underlying25 I3 (by decide) rfl (by decide) rfl rfl (fun _ _ => Kd.zau _)) (cur2 (fun A70 c71 => ?_))
          refine o_pick [1, 0, 2] (by decide) rfl ?_
          refine bindE3 h (fun i74 i75 i76 hx73 h => ?_) rfl
          refine o_e rfl (za9 1 Z Try.func17 N17 rfl rfl rfl (fun w P1 hF hB hS hT => spec_l1Cur_among.calls g0 A0_0 c0_0 l0_0.length l0_0 i68 i69 A70 c71 (([(-1), 0, a1, 4611686018427387904] : List Int).length) ([(-1), 0, a1, 4611686018427387904] : List Int) hB hF (hS _ R0_0) hc0_0 (hT 0 _ rfl).row (hT 0 _ rfl).cap _ _ _ hx73)) (fun _ => ?_)
          refine zat (p := Sh A3 l2.length l2.length) (fun w h => f_sh (dk := (Kd.int .i64)) h (fun w h => h.zao (i := 2) rfl)) (fun hq77 => ?_)
          refine za8 h (fun y79 hg78 h => ?_) rfl
          refine o_q rfl rfl (q_ix Try.underlying25 Z3 rfl rfl hq77 hg78) ?_
          refine za8 h (fun l80 hs81 h => ?_) rfl
          refine o_e rfl (e_set (i := 2) rfl rfl rfl Z3 hs81) (fun _ => ?_)
          refine o_end ?_
          refine za1 ?_
          refine c_seq ?_
          refine za0 ?_
          refine o_q rfl rfl (za2 rfl) ?_
          refine o_q rfl rfl (q_asg rfl) ?_
          refine o_end ?_
          refine za1 ?_
          refine c_ret ?_
          refine x_fact (p := l2.length = l80.length) (fun w h => (h.row_C (i := 2) rfl).2.1) (fun hn82 => ?_)
          have e0_ := Option.some.inj h; clear h
          have d0_ := (Prod.mk.inj e0_).1; have e1_ := (Prod.mk.inj e0_).2; clear e0_; subst d0_
          have d1_ := (Prod.mk.inj e1_).1; have e2_ := (Prod.mk.inj e1_).2; clear e1_; subst d1_
          subst e2_
          exact x_r1 (A3, c4) Try.results41 (zaa (v := .slice A3 l2.length c4) rfl) (by (try rw [hn82]); first | done | rfl) (f_pickE (L1 := [box g0 44 #[.slice A0_0 l0_0.length c0_0, .int .i64 i75, .int .u64 i76], row (Kd.int .i64) 3 (.slice A70 (([(-1), 0, a1, 4611686018427387904] : List Int).length) c71) ([(-1), 0, a1, 4611686018427387904] : List Int), row (Kd.int .i64) 3 (.slice A3 l2.length c4) l80]) rfl [2, 0] (by decide) rfl (by (try rw [hn82]); first | done | rfl))
        · skip
          replace h := bb_f hb65 h
          refine zak ?_
          refine za1 ?_
          refine c_seq ?_
          refine za0 ?_
          refine o_q rfl rfl (za2 rfl) ?_
          refine o_q rfl rfl (q_asg rfl) ?_
          refine o_end ?_
          refine za1 ?_
          refine c_ret ?_
          have e0_ := Option.some.inj h; clear h
          have d0_ := (Prod.mk.inj e0_).1; have e1_ := (Prod.mk.inj e0_).2; clear e0_; subst d0_
          have d1_ := (Prod.mk.inj e1_).1; have e2_ := (Prod.mk.inj e1_).2; clear e1_; subst d1_
          subst e2_
          exact x_r1 (A3, c4) Try.results41 (zaa rfl) rfl (fun w h => za7 [1, 0] (by decide) rfl w h)

/-! ### loop.example/g01098/spec.l1In: function 53 -/
def spec_l1In.f (a0 : Int) (a1 : Int) (a2 : Int) : Option Bool := if a1 ≤ a0 then (some (decide (a0 ≤ a2))) else (some false)
set_option maxHeartbeats 600000 in
set_option maxRecDepth 100000 in
theorem spec_l1In.calls {w0 ws : World} {P0 : Nat → Prop} (a0 : Int) (a1 : Int) (a2 : Int) (Z : Below w0.heap.size w0 ws) (hF : Fr w0 ws P0 [] ws)  (r_1 : Bool) (h : spec_l1In.f a0 a1 a2 = some r_1) :
    Calls Try.prog 53 #[.int .i64 a0, .int .i64 a1, .int .i64 a2] ws (Post1 w0 ws P0 (fun (_ : Unit) => .bool r_1) (fun (_ : Unit) => [])) := by
  unfold spec_l1In.f at h
  refine enter Try.func53 rfl Try.ntmps53 rfl hF ?_
  refine c_seq ?_
  refine za0 ?_
  refine o_q rfl rfl (q_asg rfl) ?_
  refine o_end ?_
  refine za1 ?_
  refine c_seq ?_
  refine za0 ?_
  refine o_q rfl rfl (za2 rfl) ?_
  refine o_q rfl rfl (za2 rfl) ?_
  refine o_q rfl rfl (q_geq rfl rfl) ?_
  refine o_q rfl rfl (za2 rfl) ?_
  refine byB (decide (a1 ≤ a0)) (fun hb1 => ?_) (fun hb1 => ?_)
  · replace h := br_t hb1 h
    refine o_w (za4 rfl rfl rfl (congrArg Value.bool hb1)) rfl (za2 rfl) ?_
    refine o_w (za4 rfl rfl rfl (congrArg Value.bool hb1)) rfl (za2 rfl) ?_
    refine o_w (za4 rfl rfl rfl (congrArg Value.bool hb1)) rfl (q_leq rfl rfl) ?_
    refine o_q rfl rfl (zar true (congrArg Value.bool hb1) rfl) ?_
    refine o_q rfl rfl (q_asg rfl) ?_
    refine o_end ?_
    refine za1 ?_
    refine c_ret ?_
    have e0_ := Option.some.inj h; clear h
    subst e0_
    exact x_r1 () Try.results53 (zaa rfl) rfl (fun w h => za7 [] (by decide) rfl w h)
  · replace h := br_f hb1 h
    refine @o_n _ _ _ _ _ _ _ _ _ _ _ 11 (za3 rfl rfl rfl (congrArg Value.bool hb1) rfl) (Eq.refl (some 11)) ?_
    refine @o_n _ _ _ _ _ _ _ _ _ _ _ 12 (za3 rfl rfl rfl (congrArg Value.bool hb1) rfl) (Eq.refl (some 12)) ?_
    refine @o_n _ _ _ _ _ _ _ _ _ _ _ 13 (za3 rfl rfl rfl (congrArg Value.bool hb1) rfl) (Eq.refl (some 13)) ?_
    refine o_q rfl rfl (zar false (congrArg Value.bool hb1) rfl) ?_
    refine o_q rfl rfl (q_asg rfl) ?_
    refine o_end ?_
    refine za1 ?_
    refine c_ret ?_
    have e0_ := Option.some.inj h; clear h
    subst e0_
    exact x_r1 () Try.results53 (zaa rfl) rfl (fun w h => za7 [] (by decide) rfl w h)

/-! ### loop.example/g01098/spec.l1Has: function 69 -/
def spec_l1Has.l0 (a1 : Int) : (List Int) → Int → Option ((Bool) ⊕ (Unit))
  | [], i1 => some (.inr ())
  | y2 :: ys3, i1 => if y2 = a1 then (some (.inl true)) else (spec_l1Has.l0 a1 ys3 (i1 + 1))
def spec_l1Has.f (l0 : List Int) (a1 : Int) : Option Bool := (spec_l1Has.l0 a1 l0 0).bind fun o_ => match o_ with | .inl r_ => some r_ | .inr _ => some false
set_option maxHeartbeats 600000 in
set_option maxRecDepth 100000 in
theorem spec_l1Has.calls {w0 ws : World} {P0 : Nat → Prop} (A0 : Option Addr) (c0 : Nat) (n0 : Nat) (l0 : List Int) (a1 : Int) (Z : Below w0.heap.size w0 ws) (hF : Fr w0 ws P0 [] ws) (R0 : Stable ws P0 (fun w => Kd.C (Kd.int .i64) w A0 n0 l0)) (hc0 : n0 ≤ c0) (r_1 : Bool) (h : spec_l1Has.f l0 a1 = some r_1) :
    Calls Try.prog 69 #[.slice A0 n0 c0, .int .i64 a1] ws (Post1 w0 ws P0 (fun (_ : Unit) => .bool r_1) (fun (_ : Unit) => [])) := by
  unfold spec_l1Has.f at h
  obtain rfl := (R0 ws (KeptB.refl _ _)).1
  refine enter Try.func69 rfl Try.ntmps69 rfl hF ?_
  refine c_seq ?_
  refine za0 ?_
  refine o_q rfl rfl (q_asg rfl) ?_
  refine o_end ?_
  refine za1 ?_
  refine c_seq ?_
  refine c_seq ?_
  refine za0 ?_
  refine o_q rfl rfl (za2 rfl) ?_
  refine o_q rfl rfl (q_len Try.underlying25 rfl) ?_
  refine o_q rfl rfl (za2 rfl) ?_
  refine o_end ?_
  refine za1 ?_
  refine zaf ?_
  refine za8 h (fun o9 hl8 hR7 => ?_) rfl
  clear h
  refine c_fact (p := l0.length ≤ 9223372036854775807) (fun w h => (R0.now Z h).2.1) (fun hm6 => ?_)
  refine zav (σ := (List Int) × Int) (fun k4 ((ys3, i1) : (List Int) × Int) => Rg l0 i1 ys3 ∧ ys3.length = k4 ∧ spec_l1Has.l0 a1 ys3 i1 = some o9) [4, 6, 9, 10, 11, 12, 13, 14, 15, 16] (fun ((ys3, i1) : (List Int) × Int) => [(9, .int .i64 i1)]) (fun ((ys3, i1) : (List Int) × Int) => []) l0.length (l0, 0) ⟨Rg.start _, rfl, hl8⟩ ⟨rfl, trivial⟩ (fun w h => h) ?_
  refine fun k4 => cur2 (listC (fun i1 U10 hJ_ => ?_) (fun y2 ys3 i1 U10 hJ_ => ?_))
  · skip
    clear hl8
    have hr5 := hJ_.1; have hk11 := hJ_.2.1; have h := hJ_.2.2; clear hJ_
    replace h : spec_l1Has.l0 a1 [] i1 = some o9 := h
    rw [spec_l1Has.l0] at h
    refine c_seq ?_
    refine za0 ?_
    refine o_q rfl rfl (q_lss rfl rfl) ?_
    refine o_end ?_
    refine za1 ?_
    refine c_seq ?_
    refine c_false (congrArg Value.bool hr5.ge) ?_
    refine c_exit ?_
    refine za6 ?_
    refine za6 ?_
    have e_ := Option.some.inj h; replace h := hR7; rw [← e_] at h; clear e_
    refine x_hit ?_
    refine za1 ?_
    refine c_seq ?_
    refine za0 ?_
    refine o_q rfl rfl (q_asg rfl) ?_
    refine o_end ?_
    refine za1 ?_
    refine c_ret ?_
    have e0_ := Option.some.inj h; clear h
    subst e0_
    exact x_r1 () Try.results69 (zaa rfl) rfl (fun w h => za7 [] (by decide) rfl w h)
  · skip
    clear hl8
    have hr5 := hJ_.1; have hk11 := hJ_.2.1; have h := hJ_.2.2; clear hJ_
    replace h : spec_l1Has.l0 a1 (y2 :: ys3) i1 = some o9 := h
    rw [spec_l1Has.l0] at h
    refine c_seq ?_
    refine za0 ?_
    refine o_q rfl rfl (q_lss rfl rfl) ?_
    refine o_end ?_
    refine za1 ?_
    refine c_seq ?_
    refine zaw (congrArg Value.bool hr5.lt) ?_
    refine zak ?_
    refine za1 ?_
    refine c_seq ?_
    refine zaf ?_
    refine c_seq ?_
    refine za0 ?_
    refine zat (p := Sh A0 l0.length l0.length) (fun w h => f_sh (dk := (Kd.int .i64)) h (fun w h => R0.now Z h)) (fun hq12 => ?_)
    refine o_q rfl rfl (q_ix Try.underlying25 Z3 rfl rfl hq12 hr5.get) ?_
    refine o_q rfl rfl (q_lde (off := 0) Y3 rfl rfl (fun w h => R0.now Z h) hr5.get (fun _ _ h => h) rfl) ?_
    refine o_q rfl rfl (q_asg rfl) ?_
    refine o_end ?_
    refine za1 ?_
    refine c_seq ?_
    refine za0 ?_
    refine o_q rfl rfl (za2 rfl) ?_
    refine o_q rfl rfl (za2 rfl) ?_
    refine o_q rfl rfl (q_eql rfl rfl) ?_
    refine o_end ?_
    refine za1 ?_
    refine zaq _ rfl (fun hb13 => ?_) (fun hb13 => ?_)
    · skip
      replace h := br_t hb13 h
      refine c_seq ?_
      refine za0 ?_
      refine o_q rfl rfl (q_asg rfl) ?_
      refine o_end ?_
      refine za1 ?_
      refine c_ret ?_
      refine zab ?_
      refine za5 ?_
      refine za5 ?_
      have e_ := Option.some.inj h; replace h := hR7; rw [← e_] at h; clear e_
      refine zab ?_
      refine za5 ?_
      have e0_ := Option.some.inj h; clear h
      subst e0_
      exact x_r1 () Try.results69 (zaa rfl) rfl (fun w h => za7 [] (by decide) rfl w h)
    · skip
      replace h := br_f hb13 h
      refine zak ?_
      refine zam ?_
      refine za1 ?_
      refine za0 ?_
      refine o_q rfl rfl (q_up rfl rfl (hr5.up hm6)) ?_
      refine o_q rfl rfl (za2 rfl) ?_
      refine o_end ?_
      refine zal ys3.length (ys3, i1 + 1) (by rw [← hk11]; exact Nat.lt_succ_self _) ⟨hr5.step, rfl, h⟩ ⟨rfl, trivial⟩ (fun w h => za7 [] (by decide) rfl w h) ?_
      repeat (first | exact zad _ _ | refine zah rfl ?_ | refine zae rfl ?_ | refine zai rfl ?_)

/-! ### loop.example/g01098/spec.moPermutation: function 61 -/
def spec_moPermutation.l0 (l0 : List Int) : (List Int) → Int → Option ((Bool) ⊕ (Unit))
  | [], i1 => some (.inr ())
  | y2 :: ys3, i1 => (spec_l1In.f y2 0 (w64 ((l0.length : Int) - 1))).bind fun b16 => if b16 = true then ((ct l0 (0 : Int) i1).bind fun l18 => (spec_l1Has.f l18 y2).bind fun b21 => if b21 = true then (some (.inl false)) else (spec_moPermutation.l0 l0 ys3 (i1 + 1))) else (some (.inl false))
def spec_moPermutation.f (l0 : List Int) : Option Bool := (spec_moPermutation.l0 l0 l0 0).bind fun o_ => match o_ with | .inl r_ => some r_ | .inr _ => (spec_l1In.f (l0.length : Int) 1 8).bind fun b13 => some b13
set_option maxHeartbeats 600000 in
set_option maxRecDepth 100000 in
theorem spec_moPermutation.calls {w0 ws : World} {P0 : Nat → Prop} (A0 : Option Addr) (c0 : Nat) (n0 : Nat) (l0 : List Int) (Z : Below w0.heap.size w0 ws) (hF : Fr w0 ws P0 [] ws) (R0 : Stable ws P0 (fun w => Kd.C (Kd.int .i64) w A0 n0 l0)) (hc0 : n0 ≤ c0) (r_1 : Bool) (h : spec_moPermutation.f l0 = some r_1) :
    Calls Try.prog 61 #[.slice A0 n0 c0] ws (Post1 w0 ws P0 (fun (_ : Unit) => .bool r_1) (fun (_ : Unit) => [])) := by
  unfold spec_moPermutation.f at h
  obtain rfl := (R0 ws (KeptB.refl _ _)).1
  refine enter Try.func61 rfl Try.ntmps61 rfl hF ?_
  refine c_seq ?_
  refine za0 ?_
  refine o_q rfl rfl (q_asg rfl) ?_
  refine o_end ?_
  refine za1 ?_
  refine c_seq ?_
  refine c_seq ?_
  refine za0 ?_
  refine o_q rfl rfl (za2 rfl) ?_
  refine o_q rfl rfl (q_len Try.underlying25 rfl) ?_
  refine o_q rfl rfl (za2 rfl) ?_
  refine o_end ?_
  refine za1 ?_
  refine zaf ?_
  refine za8 h (fun o9 hl8 hR7 => ?_) rfl
  clear h
  refine c_fact (p := l0.length ≤ 9223372036854775807) (fun w h => (R0.now Z h).2.1) (fun hm6 => ?_)
  refine zav (σ := (List Int) × Int) (fun k4 ((ys3, i1) : (List Int) × Int) => Rg l0 i1 ys3 ∧ ys3.length = k4 ∧ spec_moPermutation.l0 l0 ys3 i1 = some o9) [2, 3, 4, 7, 8, 9, 10, 11, 12, 13, 14, 15, 16, 17, 18, 19, 20, 21, 22, 23, 24, 25] (fun ((ys3, i1) : (List Int) × Int) => [(7, .int .i64 i1)]) (fun ((ys3, i1) : (List Int) × Int) => []) l0.length (l0, 0) ⟨Rg.start _, rfl, hl8⟩ ⟨rfl, trivial⟩ (fun w h => h) ?_
  refine fun k4 => cur2 (listC (fun i1 U10 hJ_ => ?_) (fun y2 ys3 i1 U10 hJ_ => ?_))
  · skip
    clear hl8
    have hr5 := hJ_.1; have hk11 := hJ_.2.1; have h := hJ_.2.2; clear hJ_
    replace h : spec_moPermutation.l0 l0 [] i1 = some o9 := h
    rw [spec_moPermutation.l0] at h
    refine c_seq ?_
    refine za0 ?_
    refine o_q rfl rfl (q_lss rfl rfl) ?_
    refine o_end ?_
    refine za1 ?_
    refine c_seq ?_
    refine c_false (congrArg Value.bool hr5.ge) ?_
    refine c_exit ?_
    refine za6 ?_
    refine za6 ?_
    have e_ := Option.some.inj h; replace h := hR7; rw [← e_] at h; clear e_
    refine x_hit ?_
    refine za1 ?_
    refine c_seq ?_
    refine za0 ?_
    refine o_q rfl rfl (za2 rfl) ?_
    refine o_q rfl rfl (q_len Try.underlying25 rfl) ?_
    refine za8 h (fun b13 hx12 h => ?_) rfl
    refine o_e rfl (za9 0 Z Try.func53 N53 rfl rfl rfl (fun w P1 hF hB hS hT => spec_l1In.calls (l0.length : Int) 1 8 hB hF _ hx12)) (fun _ => ?_)
    refine o_q rfl rfl (q_asg rfl) ?_
    refine o_end ?_
    refine za1 ?_
    refine c_ret ?_
    have e0_ := Option.some.inj h; clear h
    subst e0_
    exact x_r1 () Try.results61 (zaa rfl) rfl (fun w h => za7 [] (by decide) rfl w h)
  · skip
    clear hl8
    have hr5 := hJ_.1; have hk11 := hJ_.2.1; have h := hJ_.2.2; clear hJ_
    replace h : spec_moPermutation.l0 l0 (y2 :: ys3) i1 = some o9 := h
    rw [spec_moPermutation.l0] at h
    refine c_seq ?_
    refine za0 ?_
    refine o_q rfl rfl (q_lss rfl rfl) ?_
    refine o_end ?_
    refine za1 ?_
    refine c_seq ?_
    refine zaw (congrArg Value.bool hr5.lt) ?_
    refine zak ?_
    refine za1 ?_
    refine c_seq ?_
    refine zaf ?_
    refine c_seq ?_
    refine za0 ?_
    refine o_q rfl rfl (za2 rfl) ?_
    refine zat (p := Sh A0 l0.length l0.length) (fun w h => f_sh (dk := (Kd.int .i64)) h (fun w h => R0.now Z h)) (fun hq14 => ?_)
    refine o_q rfl rfl (q_ix Try.underlying25 Z3 rfl rfl hq14 hr5.get) ?_
    refine o_q rfl rfl (q_lde (off := 0) Y3 rfl rfl (fun w h => R0.now Z h) hr5.get (fun _ _ h => h) rfl) ?_
    refine o_q rfl rfl (q_asg rfl) ?_
    refine o_q rfl rfl (q_asg rfl) ?_
    refine o_end ?_
    refine za1 ?_
    refine c_seq ?_
    refine za0 ?_
    refine o_q rfl rfl (za2 rfl) ?_
    refine o_q rfl rfl (za2 rfl) ?_
    refine o_q rfl rfl (q_len Try.underlying25 rfl) ?_
    refine o_q rfl rfl (q_sub64 rfl rfl) ?_
    refine za8 h (fun b16 hx15 h => ?_) rfl
    refine o_e rfl (za9 0 Z Try.func53 N53 rfl rfl rfl (fun w P1 hF hB hS hT => spec_l1In.calls y2 0 (w64 ((l0.length : Int) - 1)) hB hF _ hx15)) (fun _ => ?_)
    refine o_q rfl rfl (q_not rfl) ?_
    refine o_q rfl rfl (za2 rfl) ?_
    refine byB b16 (fun hb17 => ?_) (fun hb17 => ?_)
    · replace h := bb_t hb17 h
      refine o_w (za4 rfl rfl rfl (congrArg (fun b => Value.bool (!(b))) hb17)) rfl (za2 rfl) ?_
      refine o_w (za4 rfl rfl rfl (congrArg (fun b => Value.bool (!(b))) hb17)) rfl (za2 rfl) ?_
      refine za8 h (fun l18 hz19 h => ?_) rfl
      refine o_w (za4 rfl rfl rfl (congrArg (fun b => Value.bool (!(b))) hb17)) rfl (q_ctv Try.underlying25 Z3 rfl rfl ⟨_, rfl⟩ rfl hc0 hz19) ?_
      refine o_w (za4 rfl rfl rfl (congrArg (fun b => Value.bool (!(b))) hb17)) rfl (za2 rfl) ?_
      refine za8 h (fun b21 hx20 h => ?_) rfl
      refine o_ew (za4 rfl rfl rfl (congrArg (fun b => Value.bool (!(b))) hb17)) (za9 0 Z Try.func69 N69 rfl rfl rfl (fun w P1 hF hB hS hT => spec_l1Has.calls (cutA A0 c0 (0 : Int).toNat 1) (c0 - (0 : Int).toNat) l18.length l18 y2 hB hF (stab_cut (dk := (Kd.int .i64)) rfl hz19 hc0 (hS _ R0)) (ct_cap hz19 rfl hc0) _ hx20)) (fun _ => ?_)
      refine o_q rfl rfl (zar false (congrArg (fun b => Value.bool (!(b))) hb17) rfl) ?_
      refine o_end ?_
      refine za1 ?_
      refine zaq _ rfl (fun hb22 => ?_) (fun hb22 => ?_)
      · skip
        replace h := bb_t hb22 h
        refine c_seq ?_
        refine za0 ?_
        refine o_q rfl rfl (q_asg rfl) ?_
        refine o_end ?_
        refine za1 ?_
        refine c_ret ?_
        refine zab ?_
        refine za5 ?_
        refine za5 ?_
        have e_ := Option.some.inj h; replace h := hR7; rw [← e_] at h; clear e_
        refine zab ?_
        refine za5 ?_
        have e0_ := Option.some.inj h; clear h
        subst e0_
        exact x_r1 () Try.results61 (zaa rfl) rfl (fun w h => za7 [] (by decide) rfl w h)
      · skip
        replace h := bb_f hb22 h
        refine zak ?_
        refine zam ?_
        refine za1 ?_
        refine za0 ?_
        refine o_q rfl rfl (q_up rfl rfl (hr5.up hm6)) ?_
        refine o_q rfl rfl (za2 rfl) ?_
        refine o_end ?_
        refine zal ys3.length (ys3, i1 + 1) (by rw [← hk11]; exact Nat.lt_succ_self _) ⟨hr5.step, rfl, h⟩ ⟨rfl, trivial⟩ (fun w h => za7 [] (by decide) rfl w h) ?_
        repeat (first | exact zad _ _ | refine zah rfl ?_ | refine zae rfl ?_ | refine zai rfl ?_)
    · replace h := bb_f hb17 h
      refine @o_n _ _ _ _ _ _ _ _ _ _ _ 19 (za3 rfl rfl rfl (congrArg (fun b => Value.bool (!(b))) hb17) rfl) (Eq.refl (some 19)) ?_
      refine @o_n _ _ _ _ _ _ _ _ _ _ _ 20 (za3 rfl rfl rfl (congrArg (fun b => Value.bool (!(b))) hb17) rfl) (Eq.refl (some 20)) ?_
      refine @o_n _ _ _ _ _ _ _ _ _ _ _ 21 (za3 rfl rfl rfl (congrArg (fun b => Value.bool (!(b))) hb17) rfl) (Eq.refl (some 21)) ?_
      refine @o_n _ _ _ _ _ _ _ _ _ _ _ 22 (za3 rfl rfl rfl (congrArg (fun b => Value.bool (!(b))) hb17) rfl) (Eq.refl (some 22)) ?_
      refine @o_n _ _ _ _ _ _ _ _ _ _ _ 23 (za3 rfl rfl rfl (congrArg (fun b => Value.bool (!(b))) hb17) rfl) (Eq.refl (some 23)) ?_
      refine o_q rfl rfl (zar true (congrArg (fun b => Value.bool (!(b))) hb17) rfl) ?_
      refine o_end ?_
      refine za1 ?_
      refine zaw rfl ?_
      refine c_seq ?_
      refine za0 ?_
      refine o_q rfl rfl (q_asg rfl) ?_
      refine o_end ?_
      refine za1 ?_
      refine c_ret ?_
      refine zab ?_
      refine za5 ?_
      refine za5 ?_
      have e_ := Option.some.inj h; replace h := hR7; rw [← e_] at h; clear e_
      refine zab ?_
      refine za5 ?_
      have e0_ := Option.some.inj h; clear h
      subst e0_
      exact x_r1 () Try.results61 (zaa rfl) rfl (fun w h => za7 [] (by decide) rfl w h)

/-! ### loop.example/g01098/spec.IsPermutation: function 43 -/
def spec_IsPermutation.f (l0 : List Int) : Option Bool := if (l0.length : Int) ≤ 8 then ((spec_moPermutation.f l0).bind fun b3 => some b3) else (some false)
set_option maxHeartbeats 600000 in
set_option maxRecDepth 100000 in
theorem spec_IsPermutation.calls {w0 ws : World} {P0 : Nat → Prop} (A0 : Option Addr) (c0 : Nat) (n0 : Nat) (l0 : List Int) (Z : Below w0.heap.size w0 ws) (hF : Fr w0 ws P0 [] ws) (R0 : Stable ws P0 (fun w => Kd.C (Kd.int .i64) w A0 n0 l0)) (hc0 : n0 ≤ c0) (r_1 : Bool) (h : spec_IsPermutation.f l0 = some r_1) :
    Calls Try.prog 43 #[.slice A0 n0 c0] ws (Post1 w0 ws P0 (fun (_ : Unit) => .bool r_1) (fun (_ : Unit) => [])) := by
  unfold spec_IsPermutation.f at h
  obtain rfl := (R0 ws (KeptB.refl _ _)).1
  refine enter Try.func43 rfl Try.ntmps43 rfl hF ?_
  refine c_seq ?_
  refine za0 ?_
  refine o_q rfl rfl (q_asg rfl) ?_
  refine o_end ?_
  refine za1 ?_
  refine c_seq ?_
  refine za0 ?_
  refine o_q rfl rfl (za2 rfl) ?_
  refine o_q rfl rfl (q_len Try.underlying25 rfl) ?_
  refine o_q rfl rfl (q_leq rfl rfl) ?_
  refine o_q rfl rfl (za2 rfl) ?_
  refine byB (decide ((l0.length : Int) ≤ 8)) (fun hb1 => ?_) (fun hb1 => ?_)
  · replace h := br_t hb1 h
    refine o_w (za4 rfl rfl rfl (congrArg Value.bool hb1)) rfl (za2 rfl) ?_
    refine za8 h (fun b3 hx2 h => ?_) rfl
    refine o_ew (za4 rfl rfl rfl (congrArg Value.bool hb1)) (za9 0 Z Try.func61 N61 rfl rfl rfl (fun w P1 hF hB hS hT => spec_moPermutation.calls A0 c0 l0.length l0 hB hF (hS _ R0) hc0 _ hx2)) (fun _ => ?_)
    refine o_q rfl rfl (zar true (congrArg Value.bool hb1) rfl) ?_
    refine o_q rfl rfl (q_asg rfl) ?_
    refine o_end ?_
    refine za1 ?_
    refine c_ret ?_
    have e0_ := Option.some.inj h; clear h
    subst e0_
    exact x_r1 () Try.results43 (zaa rfl) rfl (fun w h => za7 [] (by decide) rfl w h)
  · replace h := br_f hb1 h
    refine @o_n _ _ _ _ _ _ _ _ _ _ _ 7 (za3 rfl rfl rfl (congrArg Value.bool hb1) rfl) (Eq.refl (some 7)) ?_
    refine @o_n _ _ _ _ _ _ _ _ _ _ _ 8 (za3 rfl rfl rfl (congrArg Value.bool hb1) rfl) (Eq.refl (some 8)) ?_
    refine o_q rfl rfl (zar false (congrArg Value.bool hb1) rfl) ?_
    refine o_q rfl rfl (q_asg rfl) ?_
    refine o_end ?_
    refine za1 ?_
    refine c_ret ?_
    have e0_ := Option.some.inj h; clear h
    subst e0_
    exact x_r1 () Try.results43 (zaa rfl) rfl (fun w h => za7 [] (by decide) rfl w h)

/-! ### loop.example/g01098/spec.moPick: function 56 -/
def spec_moPick.l0 (l0 : List Int) : (List Int) → (List Int) → Int → Option (List Int)
  | [], l3, i6 => some l3
  | y7 :: ys8, l3, i6 => (gt l0 y7).bind fun y20 => (ap l3 ([y20] : List Int)).bind fun l24 => spec_moPick.l0 l0 ys8 l24 (i6 + 1)
def spec_moPick.f (l0 : List Int) (l1 : List Int) : Option (List Int) := (spec_moPick.l0 l0 l1 ([] : List Int) 0).bind fun l3 => some l3
set_option maxHeartbeats 600000 in
set_option maxRecDepth 100000 in
theorem spec_moPick.calls {w0 ws : World} {P0 : Nat → Prop} (A0 : Option Addr) (c0 : Nat) (n0 : Nat) (l0 : List Int) (A1 : Option Addr) (c1 : Nat) (n1 : Nat) (l1 : List Int) (Z : Below w0.heap.size w0 ws) (hF : Fr w0 ws P0 [] ws) (R0 : Stable ws P0 (fun w => Kd.C (Kd.int .i64) w A0 n0 l0)) (hc0 : n0 ≤ c0) (R1 : Stable ws P0 (fun w => Kd.C (Kd.int .i64) w A1 n1 l1)) (hc1 : n1 ≤ c1) (r_1 : List Int) (h : spec_moPick.f l0 l1 = some r_1) :
    Calls Try.prog 56 #[.slice A0 n0 c0, .slice A1 n1 c1] ws (Post1 w0 ws P0 (fun ((q_2, q_3) : (Option Addr) × Nat) => .slice q_2 r_1.length q_3) (fun ((q_2, q_3) : (Option Addr) × Nat) => [row (Kd.int .i64) 3 (.slice q_2 r_1.length q_3) r_1])) := by
  unfold spec_moPick.f at h
  obtain rfl := (R0 ws (KeptB.refl _ _)).1
  obtain rfl := (R1 ws (KeptB.refl _ _)).1
  refine enter Try.func56 rfl Try.ntmps56 rfl hF ?_
  refine c_seq ?_
  refine za0 ?_
  refine o_q rfl rfl (q_asg rfl) ?_
  refine o_end ?_
  refine za1 ?_
  refine c_seq ?_
  refine za0 ?_
  refine o_q rfl rfl (q_asg rfl) ?_
  refine o_end ?_
  refine za1 ?_
  refine c_seq ?_
  refine c_seq ?_
  refine za0 ?_
  refine o_q rfl rfl (za2 rfl) ?_
  refine o_q rfl rfl (q_len Try.underlying25 rfl) ?_
  refine o_q rfl rfl (za2 rfl) ?_
  refine o_end ?_
  refine za1 ?_
  refine zaf ?_
  refine c_nil (Kd.int .i64) 3 ?_
  refine za8 h (fun o14 hl13 hR12 => ?_) rfl
  clear h
  refine c_fact (p := l1.length ≤ 9223372036854775807) (fun w h => (R1.now Z h).2.1) (fun hm11 => ?_)
  refine zav (σ := (List Int) × (List Int) × Int × (Option Addr) × Nat) (fun k9 ((ys8, l3, i6, A4, c5) : (List Int) × (List Int) × Int × (Option Addr) × Nat) => Rg l1 i6 ys8 ∧ ys8.length = k9 ∧ spec_moPick.l0 l0 ys8 l3 i6 = some o14) [5, 7, 10, 11, 12, 13, 14, 15, 16, 17, 18, 19, 20, 21] (fun ((ys8, l3, i6, A4, c5) : (List Int) × (List Int) × Int × (Option Addr) × Nat) => [(5, .slice A4 l3.length c5), (10, .int .i64 i6)]) (fun ((ys8, l3, i6, A4, c5) : (List Int) × (List Int) × Int × (Option Addr) × Nat) => [row (Kd.int .i64) 3 (.slice A4 l3.length c5) l3]) l1.length (l1, ([] : List Int), 0, none, 0) ⟨Rg.start _, rfl, hl13⟩ ⟨rfl, rfl, trivial⟩ (fun w h => h) ?_
  refine fun k9 => cur5 (listC (fun l3 i6 A4 c5 U15 hJ_ => ?_) (fun y7 ys8 l3 i6 A4 c5 U15 hJ_ => ?_))
  · skip
    clear hl13
    have hr10 := hJ_.1; have hk16 := hJ_.2.1; have h := hJ_.2.2; clear hJ_
    replace h : spec_moPick.l0 l0 [] l3 i6 = some o14 := h
    rw [spec_moPick.l0] at h
    refine c_seq ?_
    refine za0 ?_
    refine o_q rfl rfl (q_lss rfl rfl) ?_
    refine o_end ?_
    refine za1 ?_
    refine c_seq ?_
    refine c_false (congrArg Value.bool hr10.ge) ?_
    refine c_exit ?_
    refine za6 ?_
    refine za6 ?_
    have e_ := Option.some.inj h; replace h := hR12; rw [← e_] at h; clear e_
    refine x_hit ?_
    refine za1 ?_
    refine c_seq ?_
    refine za0 ?_
    refine o_q rfl rfl (za2 rfl) ?_
    refine o_q rfl rfl (q_asg rfl) ?_
    refine o_end ?_
    refine za1 ?_
    refine c_ret ?_
    have e0_ := Option.some.inj h; clear h
    subst e0_
    exact x_r1 (A4, c5) Try.results56 (zaa rfl) rfl (fun w h => za7 [0] (by decide) rfl w h)
  · skip
    clear hl13
    have hr10 := hJ_.1; have hk16 := hJ_.2.1; have h := hJ_.2.2; clear hJ_
    replace h : spec_moPick.l0 l0 (y7 :: ys8) l3 i6 = some o14 := h
    rw [spec_moPick.l0] at h
    refine c_seq ?_
    refine za0 ?_
    refine o_q rfl rfl (q_lss rfl rfl) ?_
    refine o_end ?_
    refine za1 ?_
    refine c_seq ?_
    refine zaw (congrArg Value.bool hr10.lt) ?_
    refine zak ?_
    refine za1 ?_
    refine c_seq ?_
    refine zaf ?_
    refine c_seq ?_
    refine za0 ?_
    refine zat (p := Sh A1 l1.length l1.length) (fun w h => f_sh (dk := (Kd.int .i64)) h (fun w h => R1.now Z h)) (fun hq17 => ?_)
    refine o_q rfl rfl (q_ix Try.underlying25 Z3 rfl rfl hq17 hr10.get) ?_
    refine o_q rfl rfl (q_lde (off := 0) Y3 rfl rfl (fun w h => R1.now Z h) hr10.get (fun _ _ h => h) rfl) ?_
    refine o_q rfl rfl (q_asg rfl) ?_
    refine o_end ?_
    refine za1 ?_
    refine za0 ?_
    refine o_q rfl rfl (za2 rfl) ?_
    refine o_q rfl rfl (za2 rfl) ?_
    refine o_q rfl rfl (za2 rfl) ?_
    refine zat (p := Sh A0 l0.length l0.length) (fun w h => f_sh (dk := (Kd.int .i64)) h (fun w h => R0.now Z h)) (fun hq18 => ?_)
    refine za8 h (fun y20 hg19 h => ?_) rfl
    refine o_q rfl rfl (q_ix Try.underlying25 Z3 rfl rfl hq18 hg19) ?_
    refine o_q rfl rfl (q_lde (off := 0) Y3 rfl rfl (fun w h => R0.now Z h) hg19 (fun _ _ h => h) rfl) ?_
    refine o_e rfl (e_lit (vs := [(0, .int .i64 y20)]) (cs := [.int .i64 y20]) (Kd.int .i64) ([y20] : List Int) Try.underlying25 I3 (by decide) rfl (by decide) rfl rfl (fun _ _ => Kd.zau _)) (cur2 (fun A21 c22 => ?_))
    refine za8 h (fun l24 ha25 h => ?_) rfl
    refine o_e rfl (e_app (i := 1) (j := 0) Try.underlying25 I3 rfl (by decide) (by decide) rfl rfl rfl rfl rfl ha25) (cur2 (fun A26 c27 => ?_))
    refine o_q rfl rfl (q_asg rfl) ?_
    refine o_end ?_
    refine zam ?_
    refine za1 ?_
    refine za0 ?_
    refine o_q rfl rfl (q_up rfl rfl (hr10.up hm11)) ?_
    refine o_q rfl rfl (za2 rfl) ?_
    refine o_end ?_
    refine zal ys8.length (ys8, l24, i6 + 1, A26, c27) (by rw [← hk16]; exact Nat.lt_succ_self _) ⟨hr10.step, rfl, h⟩ ⟨rfl, rfl, trivial⟩ (fun w h => za7 [1] (by decide) rfl w h) ?_
    repeat (first | exact zad _ _ | refine zah rfl ?_ | refine zae rfl ?_ | refine zai rfl ?_)

/-! ### loop.example/g01098/spec.moThen: function 30 -/
def spec_moThen.f (l0 : List Int) (l1 : List Int) : Option (List Int) := (spec_moPick.f l1 l0).bind fun l2 => some l2
set_option maxHeartbeats 600000 in
set_option maxRecDepth 100000 in
theorem spec_moThen.calls {w0 ws : World} {P0 : Nat → Prop} (A0 : Option Addr) (c0 : Nat) (n0 : Nat) (l0 : List Int) (A1 : Option Addr) (c1 : Nat) (n1 : Nat) (l1 : List Int) (Z : Below w0.heap.size w0 ws) (hF : Fr w0 ws P0 [] ws) (R0 : Stable ws P0 (fun w => Kd.C (Kd.int .i64) w A0 n0 l0)) (hc0 : n0 ≤ c0) (R1 : Stable ws P0 (fun w => Kd.C (Kd.int .i64) w A1 n1 l1)) (hc1 : n1 ≤ c1) (r_1 : List Int) (h : spec_moThen.f l0 l1 = some r_1) :
    Calls Try.prog 30 #[.slice A0 n0 c0, .slice A1 n1 c1] ws (Post1 w0 ws P0 (fun ((q_2, q_3) : (Option Addr) × Nat) => .slice q_2 r_1.length q_3) (fun ((q_2, q_3) : (Option Addr) × Nat) => [row (Kd.int .i64) 3 (.slice q_2 r_1.length q_3) r_1])) := by
  unfold spec_moThen.f at h
  obtain rfl := (R0 ws (KeptB.refl _ _)).1
  obtain rfl := (R1 ws (KeptB.refl _ _)).1
  refine enter Try.func30 rfl Try.ntmps30 rfl hF ?_
  refine c_seq ?_
  refine za0 ?_
  refine o_q rfl rfl (q_asg rfl) ?_
  refine o_end ?_
  refine za1 ?_
  refine c_seq ?_
  refine za0 ?_
  refine o_q rfl rfl (za2 rfl) ?_
  refine o_q rfl rfl (za2 rfl) ?_
  refine za8 h (fun l2 hx1 h => ?_) rfl
  refine o_e rfl (za9 0 Z Try.func56 N56 rfl rfl rfl (fun w P1 hF hB hS hT => spec_moPick.calls A1 c1 l1.length l1 A0 c0 l0.length l0 hB hF (hS _ R1) hc1 (hS _ R0) hc0 _ hx1)) (cur2 (fun A3 c4 => ?_))
  refine o_q rfl rfl (q_asg rfl) ?_
  refine o_end ?_
  refine za1 ?_
  refine c_ret ?_
  have e0_ := Option.some.inj h; clear h
  subst e0_
  exact x_r1 (A3, c4) Try.results30 (zaa rfl) rfl (fun w h => za7 [0] (by decide) rfl w h)

/-! ### loop.example/g01098/spec.moRaise: function 44 -/
def spec_moRaise.l1 : Nat → (List Int) → (List Int) → Int → Option ((List Int) × (List Int))
  | 0, _, _, _ => none
  | k25 + 1, l16, l19, i22 => if 0 < i22 then ((if i22.tmod 2 = 1 then ((spec_moThen.f l16 l19).bind fun l72 => some l72) else (some l16)).bind fun l62 => (spec_moThen.f l19 l19).bind fun l76 => spec_moRaise.l1 k25 l62 l76 (w64 (i22.tdiv 2))) else (some (l16, l19))
def spec_moRaise.l0 : (List Int) → (List Int) → Int → Option (List Int)
  | [], l2, i5 => some l2
  | y6 :: ys7, l2, i5 => (ap l2 ([i5] : List Int)).bind fun l82 => spec_moRaise.l0 ys7 l82 (i5 + 1)
def spec_moRaise.f (k : Nat) (l0 : List Int) (a1 : Int) : Option (List Int) := (spec_moRaise.l0 l0 ([] : List Int) 0).bind fun l2 => (spec_moRaise.l1 k l2 l0 a1).bind fun (l16, l19) => some l16
set_option maxHeartbeats 600000 in
set_option maxRecDepth 100000 in
theorem spec_moRaise.calls (k : Nat) {w0 ws : World} {P0 : Nat → Prop} (A0 : Option Addr) (c0 : Nat) (n0 : Nat) (l0 : List Int) (a1 : Int) (Z : Below w0.heap.size w0 ws) (hF : Fr w0 ws P0 [] ws) (R0 : Stable ws P0 (fun w => Kd.C (Kd.int .i64) w A0 n0 l0)) (hc0 : n0 ≤ c0) (r_1 : List Int) (h : spec_moRaise.f k l0 a1 = some r_1) :
    Calls Try.prog 44 #[.slice A0 n0 c0, .int .i64 a1] ws (Post1 w0 ws P0 (fun ((q_2, q_3) : (Option Addr) × Nat) => .slice q_2 r_1.length q_3) (fun ((q_2, q_3) : (Option Addr) × Nat) => [row (Kd.int .i64) 3 (.slice q_2 r_1.length q_3) r_1])) := by
  unfold spec_moRaise.f at h
  obtain rfl := (R0 ws (KeptB.refl _ _)).1
  refine enter Try.func44 rfl Try.ntmps44 rfl hF ?_
  refine c_seq ?_
  refine za0 ?_
  refine o_q rfl rfl (q_asg rfl) ?_
  refine o_end ?_
  refine za1 ?_
  refine c_seq ?_
  refine za0 ?_
  refine o_q rfl rfl (q_asg rfl) ?_
  refine o_end ?_
  refine za1 ?_
  refine c_seq ?_
  refine c_seq ?_
  refine za0 ?_
  refine o_q rfl rfl (za2 rfl) ?_
  refine o_q rfl rfl (q_len Try.underlying25 rfl) ?_
  refine o_q rfl rfl (za2 rfl) ?_
  refine o_end ?_
  refine za1 ?_
  refine zaf ?_
  refine c_nil (Kd.int .i64) 3 ?_
  refine za8 h (fun o13 hl12 hR11 => ?_) rfl
  clear h
  refine c_fact (p := l0.length ≤ 9223372036854775807) (fun w h => (R0.now Z h).2.1) (fun hm10 => ?_)
  refine zav (σ := (List Int) × (List Int) × Int × (Option Addr) × Nat) (fun k8 ((ys7, l2, i5, A3, c4) : (List Int) × (List Int) × Int × (Option Addr) × Nat) => Rg l0 i5 ys7 ∧ ys7.length = k8 ∧ spec_moRaise.l0 ys7 l2 i5 = some o13) [5, 6, 9, 10, 11, 12, 13, 14, 15, 16] (fun ((ys7, l2, i5, A3, c4) : (List Int) × (List Int) × Int × (Option Addr) × Nat) => [(5, .slice A3 l2.length c4), (9, .int .i64 i5)]) (fun ((ys7, l2, i5, A3, c4) : (List Int) × (List Int) × Int × (Option Addr) × Nat) => [row (Kd.int .i64) 3 (.slice A3 l2.length c4) l2]) l0.length (l0, ([] : List Int), 0, none, 0) ⟨Rg.start _, rfl, hl12⟩ ⟨rfl, rfl, trivial⟩ (fun w h => h) ?_
  refine fun k8 => cur5 (listC (fun l2 i5 A3 c4 U14 hJ_ => ?_) (fun y6 ys7 l2 i5 A3 c4 U14 hJ_ => ?_))
  · skip
    clear hl12
    have hr9 := hJ_.1; have hk15 := hJ_.2.1; have h := hJ_.2.2; clear hJ_
    replace h : spec_moRaise.l0 [] l2 i5 = some o13 := h
    rw [spec_moRaise.l0] at h
    refine c_seq ?_
    refine za0 ?_
    refine o_q rfl rfl (q_lss rfl rfl) ?_
    refine o_end ?_
    refine za1 ?_
    refine c_seq ?_
    refine c_false (congrArg Value.bool hr9.ge) ?_
    refine c_exit ?_
    refine za6 ?_
    refine za6 ?_
    have e_ := Option.some.inj h; replace h := hR11; rw [← e_] at h; clear e_
    refine x_hit ?_
    refine za1 ?_
    refine c_seq ?_
    refine zaf ?_
    refine za8 h (fun o30 hl29 hR28 => ?_) rfl
    clear h
    rcases natEx k with hk0_ | ⟨k1_, hk1_⟩
    · skip
      have h := at_ (p := fun m_ => spec_moRaise.l1 m_ l2 l0 a1 = some o30) hl29 hk0_
      replace h : spec_moRaise.l1 0 l2 l0 a1 = some o30 := h
      rw [spec_moRaise.l1] at h
      exact noneE h
    · skip
      have h := at_ (p := fun m_ => spec_moRaise.l1 m_ l2 l0 a1 = some o30) hl29 hk1_
      replace h : spec_moRaise.l1 (k1_ + 1) l2 l0 a1 = some o30 := h
      refine c_loopP (σ := (List Int) × (List Int) × Int × (Option Addr) × Nat × (Option Addr) × Nat) (fun k25 ((l16, l19, i22, A17, c18, A20, c21) : (List Int) × (List Int) × Int × (Option Addr) × Nat × (Option Addr) × Nat) => spec_moRaise.l1 k25 l16 l19 i22 = some o30) [0, 1, 5, 17, 18, 19, 20, 21, 22, 23, 24, 25, 26, 27, 28, 29] (fun ((l16, l19, i22, A17, c18, A20, c21) : (List Int) × (List Int) × Int × (Option Addr) × Nat × (Option Addr) × Nat) => [(0, .slice A20 l19.length c21), (1, .int .i64 i22), (5, .slice A17 l16.length c18)]) (fun ((l16, l19, i22, A17, c18, A20, c21) : (List Int) × (List Int) × Int × (Option Addr) × Nat × (Option Addr) × Nat) => [row (Kd.int .i64) 3 (.slice A20 l19.length c21) l19, row (Kd.int .i64) 3 (.slice A17 l16.length c18) l16]) (k1_ + 1) ?_ ?_
      · skip
        clear hl29
        rw [spec_moRaise.l1] at h
        refine c_seq ?_
        refine c_seq ?_
        refine za0 ?_
        refine o_q rfl rfl (za2 rfl) ?_
        refine o_q rfl rfl (q_gtr rfl rfl) ?_
        refine o_end ?_
        refine za1 ?_
        refine zaq _ rfl (fun hb33 => ?_) (fun hb33 => ?_)
        · skip
          replace h := br_t hb33 h
          refine zak ?_
          refine za1 ?_
          refine c_seq ?_
          refine zaf ?_
          refine za8 h (fun o42 hl43 hR44 => ?_) rfl
          clear h
          refine c_cutJ (σ := (List Int) × (Option Addr) × Nat) (fun (l39, A40, c41) => some l39 = some o42) [5, 21, 22, 23, 24, 25, 26] (fun (l39, A40, c41) => [(5, .slice A40 l39.length c41)]) (fun (l39, A40, c41) => [row (Kd.int .i64) 3 (.slice A40 l39.length c41) l39]) ?_ ?_
          · skip
            have h := hl43; clear hl43
            clear hR44
            refine c_seq ?_
            refine za0 ?_
            refine o_q rfl rfl (za2 rfl) ?_
            refine o_q rfl rfl (q_rem rfl rfl (by decide)) ?_
            refine o_q rfl rfl (q_eql rfl rfl) ?_
            refine o_end ?_
            refine za1 ?_
            refine zaq _ rfl (fun hb47 => ?_) (fun hb47 => ?_)
            · skip
              replace h := br_t hb47 h
              refine za0 ?_
              refine o_q rfl rfl (za2 rfl) ?_
              refine o_q rfl rfl (za2 rfl) ?_
              refine za8 h (fun l49 hx48 h => ?_) rfl
              refine o_e rfl (za9 0 Z Try.func30 N30 rfl rfl rfl (fun w P1 hF hB hS hT => spec_moThen.calls A3 c4 l2.length l2 A0 c0 l0.length l0 hB hF (hT 0 _ rfl).row (hT 0 _ rfl).cap (hS _ R0) hc0 _ hx48)) (cur2 (fun A50 c51 => ?_))
              refine o_q rfl rfl (q_asg rfl) ?_
              refine o_end ?_
              refine x_meetJ (l49, A50, c51) h ⟨rfl, trivial⟩ (fun w h => za7 [0] (by decide) rfl w h) ?_
              repeat (first | exact zad _ _ | refine zah rfl ?_ | refine zae rfl ?_ | refine zai rfl ?_)
            · skip
              replace h := br_f hb47 h
              refine zak ?_
              refine x_meetJ (l2, A3, c4) h ⟨rfl, trivial⟩ (fun w h => za7 [0] (by decide) rfl w h) ?_
              repeat (first | exact zad _ _ | refine zah rfl ?_ | refine zae rfl ?_ | refine zai rfl ?_)
          · skip
            refine (cur3 (fun l39 A40 c41 => fun U45 hJ46 => ?_))
            have e_ := Option.some.inj hJ46; have h := hR44; rw [← e_] at h; clear e_ hJ46 hR44 hl43
            refine za0 ?_
            refine o_q rfl rfl (za2 rfl) ?_
            refine o_q rfl rfl (za2 rfl) ?_
            refine za8 h (fun l53 hx52 h => ?_) rfl
            refine o_e rfl (za9 0 Z Try.func30 N30 rfl rfl rfl (fun w P1 hF hB hS hT => spec_moThen.calls A0 c0 l0.length l0 A0 c0 l0.length l0 hB hF (hS _ R0) hc0 (hS _ R0) hc0 _ hx52)) (cur2 (fun A54 c55 => ?_))
            refine o_q rfl rfl (q_asg rfl) ?_
            refine o_end ?_
            refine zam ?_
            refine za1 ?_
            refine za0 ?_
            refine o_q rfl rfl (za2 rfl) ?_
            refine o_q rfl rfl (q_quo64 rfl rfl (by decide)) ?_
            refine o_q rfl rfl (q_asg rfl) ?_
            refine o_end ?_
            refine zal k1_ (l39, l53, w64 (a1.tdiv 2), A40, c41, A54, c55) (Nat.lt_succ_self _) h ⟨rfl, rfl, rfl, trivial⟩ (fun w h => za7 [0, 1] (by decide) rfl w h) ?_
            repeat (first | exact zad _ _ | refine zah rfl ?_ | refine zae rfl ?_ | refine zai rfl ?_)
        · skip
          replace h := br_f hb33 h
          refine c_exit ?_
          refine za6 ?_
          refine za6 ?_
          have e_ := Option.some.inj h; replace h := hR28; rw [← e_] at h; clear e_
          refine x_hit ?_
          refine za1 ?_
          refine c_seq ?_
          refine za0 ?_
          refine o_q rfl rfl (za2 rfl) ?_
          refine o_q rfl rfl (q_asg rfl) ?_
          refine o_end ?_
          refine za1 ?_
          refine c_ret ?_
          have e0_ := Option.some.inj h; clear h
          subst e0_
          exact x_r1 (A3, c4) Try.results44 (zaa rfl) rfl (fun w h => za7 [0] (by decide) rfl w h)
      · skip
        clear h
        refine natC (cur7 (fun l16 l19 i22 A17 c18 A20 c21 => fun U31 hJ_ => ?_)) (fun k25 => (cur7 (fun l16 l19 i22 A17 c18 A20 c21 => fun U31 hJ_ => ?_)))
        · skip
          replace hJ_ : spec_moRaise.l1 0 l16 l19 i22 = some o30 := hJ_
          rw [spec_moRaise.l1] at hJ_
          exact noneE hJ_
        · skip
          clear hl29
          have h := hJ_; clear hJ_
          replace h : spec_moRaise.l1 (k25 + 1) l16 l19 i22 = some o30 := h
          rw [spec_moRaise.l1] at h
          refine c_seq ?_
          refine c_seq ?_
          refine za0 ?_
          refine o_q rfl rfl (za2 rfl) ?_
          refine o_q rfl rfl (q_gtr rfl rfl) ?_
          refine o_end ?_
          refine za1 ?_
          refine zaq _ rfl (fun hb56 => ?_) (fun hb56 => ?_)
          · skip
            replace h := br_t hb56 h
            refine zak ?_
            refine za1 ?_
            refine c_seq ?_
            refine zaf ?_
            refine za8 h (fun o65 hl66 hR67 => ?_) rfl
            clear h
            refine c_cutJ (σ := (List Int) × (Option Addr) × Nat) (fun (l62, A63, c64) => some l62 = some o65) [5, 21, 22, 23, 24, 25, 26] (fun (l62, A63, c64) => [(5, .slice A63 l62.length c64)]) (fun (l62, A63, c64) => [row (Kd.int .i64) 3 (.slice A20 l19.length c21) l19, row (Kd.int .i64) 3 (.slice A63 l62.length c64) l62]) ?_ ?_
            · skip
              have h := hl66; clear hl66
              clear hR67
              refine c_seq ?_
              refine za0 ?_
              refine o_q rfl rfl (za2 rfl) ?_
              refine o_q rfl rfl (q_rem rfl rfl (by decide)) ?_
              refine o_q rfl rfl (q_eql rfl rfl) ?_
              refine o_end ?_
              refine za1 ?_
              refine zaq _ rfl (fun hb70 => ?_) (fun hb70 => ?_)
              · skip
                replace h := br_t hb70 h
                refine za0 ?_
                refine o_q rfl rfl (za2 rfl) ?_
                refine o_q rfl rfl (za2 rfl) ?_
                refine za8 h (fun l72 hx71 h => ?_) rfl
                refine o_e rfl (za9 0 Z Try.func30 N30 rfl rfl rfl (fun w P1 hF hB hS hT => spec_moThen.calls A17 c18 l16.length l16 A20 c21 l19.length l19 hB hF (hT 1 _ rfl).row (hT 1 _ rfl).cap (hT 0 _ rfl).row (hT 0 _ rfl).cap _ hx71)) (cur2 (fun A73 c74 => ?_))
                refine o_q rfl rfl (q_asg rfl) ?_
                refine o_end ?_
                refine x_meetJ (l72, A73, c74) h ⟨rfl, trivial⟩ (fun w h => za7 [1, 0] (by decide) rfl w h) ?_
                repeat (first | exact zad _ _ | refine zah rfl ?_ | refine zae rfl ?_ | refine zai rfl ?_)
              · skip
                replace h := br_f hb70 h
                refine zak ?_
                refine x_meetJ (l16, A17, c18) h ⟨rfl, trivial⟩ (fun w h => za7 [0, 1] (by decide) rfl w h) ?_
                repeat (first | exact zad _ _ | refine zah rfl ?_ | refine zae rfl ?_ | refine zai rfl ?_)
            · skip
              refine (cur3 (fun l62 A63 c64 => fun U68 hJ69 => ?_))
              have e_ := Option.some.inj hJ69; have h := hR67; rw [← e_] at h; clear e_ hJ69 hR67 hl66
              refine za0 ?_
              refine o_q rfl rfl (za2 rfl) ?_
              refine o_q rfl rfl (za2 rfl) ?_
              refine za8 h (fun l76 hx75 h => ?_) rfl
              refine o_e rfl (za9 0 Z Try.func30 N30 rfl rfl rfl (fun w P1 hF hB hS hT => spec_moThen.calls A20 c21 l19.length l19 A20 c21 l19.length l19 hB hF (hT 0 _ rfl).row (hT 0 _ rfl).cap (hT 0 _ rfl).row (hT 0 _ rfl).cap _ hx75)) (cur2 (fun A77 c78 => ?_))
              refine o_q rfl rfl (q_asg rfl) ?_
              refine o_end ?_
              refine zam ?_
              refine za1 ?_
              refine za0 ?_
              refine o_q rfl rfl (za2 rfl) ?_
              refine o_q rfl rfl (q_quo64 rfl rfl (by decide)) ?_
              refine o_q rfl rfl (q_asg rfl) ?_
              refine o_end ?_
              refine zal k25 (l62, l76, w64 (i22.tdiv 2), A63, c64, A77, c78) (Nat.lt_succ_self _) h ⟨rfl, rfl, rfl, trivial⟩ (fun w h => za7 [0, 2] (by decide) rfl w h) ?_
              repeat (first | exact zad _ _ | refine zah rfl ?_ | refine zae rfl ?_ | refine zai rfl ?_)
          · skip
            replace h := br_f hb56 h
            refine c_exit ?_
            refine za6 ?_
            refine za6 ?_
            have e_ := Option.some.inj h; replace h := hR28; rw [← e_] at h; clear e_
            refine x_hit ?_
            refine za1 ?_
            refine c_seq ?_
            refine za0 ?_
            refine o_q rfl rfl (za2 rfl) ?_
            refine o_q rfl rfl (q_asg rfl) ?_
            refine o_end ?_
            refine za1 ?_
            refine c_ret ?_
            have e0_ := Option.some.inj h; clear h
            subst e0_
            exact x_r1 (A17, c18) Try.results44 (zaa rfl) rfl (fun w h => za7 [1] (by decide) rfl w h)
  · skip
    clear hl12
    have hr9 := hJ_.1; have hk15 := hJ_.2.1; have h := hJ_.2.2; clear hJ_
    replace h : spec_moRaise.l0 (y6 :: ys7) l2 i5 = some o13 := h
    rw [spec_moRaise.l0] at h
    refine c_seq ?_
    refine za0 ?_
    refine o_q rfl rfl (q_lss rfl rfl) ?_
    refine o_end ?_
    refine za1 ?_
    refine c_seq ?_
    refine zaw (congrArg Value.bool hr9.lt) ?_
    refine zak ?_
    refine za1 ?_
    refine c_seq ?_
    refine zaf ?_
    refine c_seq ?_
    refine za0 ?_
    refine o_q rfl rfl (za2 rfl) ?_
    refine o_q rfl rfl (q_asg rfl) ?_
    refine o_end ?_
    refine za1 ?_
    refine za0 ?_
    refine o_q rfl rfl (za2 rfl) ?_
    refine o_q rfl rfl (za2 rfl) ?_
    refine o_e rfl (e_lit (vs := [(0, .int .i64 i5)]) (cs := [.int .i64 i5]) (Kd.int .i64) ([i5] : List Int) Try.underlying25 I3 (by decide) rfl (by decide) rfl rfl (fun _ _ => Kd.zau _)) (cur2 (fun A79 c80 => ?_))
    refine za8 h (fun l82 ha83 h => ?_) rfl
    refine o_e rfl (e_app (i := 1) (j := 0) Try.underlying25 I3 rfl (by decide) (by decide) rfl rfl rfl rfl rfl ha83) (cur2 (fun A84 c85 => ?_))
    refine o_q rfl rfl (q_asg rfl) ?_
    refine o_end ?_
    refine zam ?_
    refine za1 ?_
    refine za0 ?_
    refine o_q rfl rfl (q_up rfl rfl (hr9.up hm10)) ?_
    refine o_q rfl rfl (za2 rfl) ?_
    refine o_end ?_
    refine zal ys7.length (ys7, l82, i5 + 1, A84, c85) (by rw [← hk15]; exact Nat.lt_succ_self _) ⟨hr9.step, rfl, h⟩ ⟨rfl, rfl, trivial⟩ (fun w h => za7 [1] (by decide) rfl w h) ?_
    repeat (first | exact zad _ _ | refine zah rfl ?_ | refine zae rfl ?_ | refine zai rfl ?_)

/-! ### (*loop.example/g01098/spec.l1Cur).movers: function 18 -/
def spec_l1Cur_movers.l0 (k : Nat) (l0_0 : List Int) (i2 : Int) (l6 : List Int) (b20 : Bool) : Nat → (List (List Int)) → Int → Int → Int → Option ((List (List Int)) × Int × Int)
  | 0, _, _, _, _ => none
  | k43 + 1, l34, i38, i39, i40 => if 0 < i40 then (if b20 = true then ((spec_l1Cur_pick.f l0_0 i38 i39 12).bind fun (i54, i55, i56) => (spec_moRaise.f k l6 i54).bind fun l58 => (ap l34 ([l58] : List (List Int))).bind fun l65 => spec_l1Cur_movers.l0 k l0_0 i2 l6 b20 k43 l65 i55 i56 (w64 (i40 - 1))) else ((spec_l1Cur_permutation.f k l0_0 i38 i39 i2).bind fun (l71, i72, i73) => (ap l34 ([l71] : List (List Int))).bind fun l80 => spec_l1Cur_movers.l0 k l0_0 i2 l6 b20 k43 l80 i72 i73 (w64 (i40 - 1)))) else (some (l34, i38, i39))
def spec_l1Cur_movers.f (k : Nat) (l0_0 : List Int) (a0_1 : Int) (a0_2 : Int) (a1 : Int) : Option ((List (List Int)) × Int × Int) := (spec_l1Cur_points.f l0_0 a0_1 a0_2).bind fun (i2, i3, i4) => (spec_l1Cur_permutation.f k l0_0 i3 i4 i2).bind fun (l6, i7, i8) => ((spec_l1Cur_one.f l0_0 i7 i8 2).bind fun (b27, i28, i29) => if b27 = true then ((spec_IsPermutation.f l6).bind fun b32 => some (i28, i29, b32)) else (some (i28, i29, false))).bind fun (i18, i19, b20) => (spec_l1Cur_movers.l0 k l0_0 i2 l6 b20 k ([] : List (List Int)) i18 i19 a1).bind fun (l34, i38, i39) => (if 0 < (l34.length : Int) then ((spec_l1Cur_one.f l0_0 i38 i39 20).bind fun (b100, i101, i102) => some (i101, i102, b100)) else (some (i38, i39, false))).bind fun (i90, i91, b92) => if b92 = true then ((spec_l1Cur_points.f l0_0 i90 i91).bind fun (i105, i106, i107) => (spec_l1Cur_permutation.f k l0_0 i106 i107 i105).bind fun (l109, i110, i111) => (gt l34 0).bind fun y116 => (st l34 0 l109).bind fun l117 => some (l117, i110, i111)) else (some (l34, i90, i91))
set_option maxHeartbeats 600000 in
set_option maxRecDepth 100000 in
theorem spec_l1Cur_movers.calls (k : Nat) {w0 ws : World} {P0 : Nat → Prop} (g0 : Nat) (A0_0 : Option Addr) (c0_0 : Nat) (n0_0 : Nat) (l0_0 : List Int) (a0_1 : Int) (a0_2 : Int) (a1 : Int) (Z : Below w0.heap.size w0 ws) (hF : Fr w0 ws P0 [box g0 44 #[.slice A0_0 n0_0 c0_0, .int .i64 a0_1, .int .u64 a0_2]] ws) (R0_0 : Stable ws P0 (fun w => Kd.C (Kd.int .u8) w A0_0 n0_0 l0_0)) (hc0_0 : n0_0 ≤ c0_0) (r_1 : List (List Int)) (r_5 : Int) (r_6 : Int) (h : spec_l1Cur_movers.f k l0_0 a0_1 a0_2 a1 = some (r_1, r_5, r_6)) :
    Calls Try.prog 18 #[.pointer (some ⟨g0, 0, none⟩), .int .i64 a1] ws (Post1 w0 ws P0 (fun ((q_2, q_3, q_4) : (Option Addr) × Nat × Hd) => .slice q_2 r_1.length q_3) (fun ((q_2, q_3, q_4) : (Option Addr) × Nat × Hd) => [row (gk 3 (Kd.int .i64)) 25 (.slice q_2 r_1.length q_3) (zp q_4 r_1), box g0 44 #[.slice A0_0 n0_0 c0_0, .int .i64 r_5, .int .u64 r_6]])) := by
  unfold spec_l1Cur_movers.f at h
  obtain rfl := (R0_0 ws (KeptB.refl _ _)).1
  refine enter Try.func18 rfl Try.ntmps18 rfl hF ?_
  refine c_seq ?_
  refine za0 ?_
  refine o_q rfl rfl (q_asg rfl) ?_
  refine o_end ?_
  refine za1 ?_
  refine c_seq ?_
  refine za0 ?_
  refine o_q rfl rfl (za2 rfl) ?_
  refine bindE3 h (fun i2 i3 i4 hx1 h => ?_) rfl
  refine o_e rfl (za9 1 Z Try.func40 N40 rfl rfl rfl (fun w P1 hF hB hS hT => spec_l1Cur_points.calls g0 A0_0 c0_0 l0_0.length l0_0 a0_1 a0_2 hB hF (hS _ R0_0) hc0_0 _ _ _ hx1)) (fun _ => ?_)
  refine o_q rfl rfl (q_asg rfl) ?_
  refine o_end ?_
  refine za1 ?_
  refine c_seq ?_
  refine za0 ?_
  refine o_q rfl rfl (za2 rfl) ?_
  refine o_q rfl rfl (za2 rfl) ?_
  refine bindE3 h (fun l6 i7 i8 hx5 h => ?_) rfl
  refine o_e rfl (za9 1 Z Try.func41 N41 rfl rfl rfl (fun w P1 hF hB hS hT => spec_l1Cur_permutation.calls k g0 A0_0 c0_0 l0_0.length l0_0 i3 i4 i2 hB hF (hS _ R0_0) hc0_0 _ _ _ hx5)) (cur2 (fun A9 c10 => ?_))
  refine o_q rfl rfl (q_asg rfl) ?_
  refine o_end ?_
  refine za1 ?_
  refine za8 h (fun o21 hl22 hR23 => ?_) rfl
  clear h
  refine c_cutJ (σ := Int × Int × Bool) (fun (i18, i19, b20) => some (i18, i19, b20) = some o21) [7, 14, 15, 16, 17, 18, 19] (fun (i18, i19, b20) => [(7, .bool b20)]) (fun (i18, i19, b20) => [box g0 44 #[.slice A0_0 l0_0.length c0_0, .int .i64 i18, .int .u64 i19], row (Kd.int .i64) 3 (.slice A9 l6.length c10) l6]) ?_ ?_
  · skip
    have h := hl22; clear hl22
    clear hR23
    refine za0 ?_
    refine o_q rfl rfl (za2 rfl) ?_
    refine o_pick [1, 0] (by decide) rfl ?_
    refine bindE3 h (fun b27 i28 i29 hx26 h => ?_) rfl
    refine o_e rfl (za9 1 Z Try.func42 N42 rfl rfl rfl (fun w P1 hF hB hS hT => spec_l1Cur_one.calls g0 A0_0 c0_0 l0_0.length l0_0 i7 i8 2 hB hF (hS _ R0_0) hc0_0 _ _ _ hx26)) (fun _ => ?_)
    refine o_q rfl rfl (za2 rfl) ?_
    refine byB b27 (fun hb30 => ?_) (fun hb30 => ?_)
    · replace h := bb_t hb30 h
      refine o_w (za4 rfl rfl rfl (congrArg Value.bool hb30)) rfl (za2 rfl) ?_
      refine za8 h (fun b32 hx31 h => ?_) rfl
      refine o_ew (za4 rfl rfl rfl (congrArg Value.bool hb30)) (za9 0 Z Try.func43 N43 rfl rfl rfl (fun w P1 hF hB hS hT => spec_IsPermutation.calls A9 c10 l6.length l6 hB hF (hT 1 _ rfl).row (hT 1 _ rfl).cap _ hx31)) (fun _ => ?_)
      refine o_q rfl rfl (zar true (congrArg Value.bool hb30) rfl) ?_
      refine o_q rfl rfl (q_asg rfl) ?_
      refine o_end ?_
      refine x_meetJ (i28, i29, b32) h ⟨rfl, trivial⟩ (fun w h => za7 [0, 1] (by decide) rfl w h) ?_
      repeat (first | exact zad _ _ | refine zah rfl ?_ | refine zae rfl ?_ | refine zai rfl ?_)
    · replace h := bb_f hb30 h
      refine @o_n _ _ _ _ _ _ _ _ _ _ _ 17 (za3 rfl rfl rfl (congrArg Value.bool hb30) rfl) (Eq.refl (some 17)) ?_
      refine @o_n _ _ _ _ _ _ _ _ _ _ _ 18 (za3 rfl rfl rfl (congrArg Value.bool hb30) rfl) (Eq.refl (some 18)) ?_
      refine o_q rfl rfl (zar false (congrArg Value.bool hb30) rfl) ?_
      refine o_q rfl rfl (q_asg rfl) ?_
      refine o_end ?_
      refine x_meetJ (i28, i29, false) h ⟨rfl, trivial⟩ (fun w h => za7 [0, 1] (by decide) rfl w h) ?_
      repeat (first | exact zad _ _ | refine zah rfl ?_ | refine zae rfl ?_ | refine zai rfl ?_)
  · skip
    refine (cur3 (fun i18 i19 b20 => fun U24 hJ25 => ?_))
    have e_ := Option.some.inj hJ25; have h := hR23; rw [← e_] at h; clear e_ hJ25 hR23 hl22
    refine c_seq ?_
    refine za0 ?_
    refine o_q rfl rfl (q_asg rfl) ?_
    refine o_end ?_
    refine za1 ?_
    refine c_seq ?_
    refine zaf ?_
    refine c_nil (gk 3 (Kd.int .i64)) 25 ?_
    refine za8 h (fun o48 hl47 hR46 => ?_) rfl
    clear h
    refine zav (σ := (List (List Int)) × Int × Int × Int × (Option Addr) × Nat × Hd) (fun k43 ((l34, i38, i39, i40, A35, c36, H37) : (List (List Int)) × Int × Int × Int × (Option Addr) × Nat × Hd) => spec_l1Cur_movers.l0 k l0_0 i2 l6 b20 k43 l34 i38 i39 i40 = some o48) [1, 8, 20, 21, 22, 23, 24, 25, 26, 27, 28, 29, 30, 31, 32, 33, 34, 35, 36, 37] (fun ((l34, i38, i39, i40, A35, c36, H37) : (List (List Int)) × Int × Int × Int × (Option Addr) × Nat × Hd) => [(1, .int .i64 i40), (8, .slice A35 l34.length c36)]) (fun ((l34, i38, i39, i40, A35, c36, H37) : (List (List Int)) × Int × Int × Int × (Option Addr) × Nat × Hd) => [row (gk 3 (Kd.int .i64)) 25 (.slice A35 l34.length c36) (zp H37 l34), box g0 44 #[.slice A0_0 l0_0.length c0_0, .int .i64 i38, .int .u64 i39], row (Kd.int .i64) 3 (.slice A9 l6.length c10) l6]) k (([] : List (List Int)), i18, i19, a1, none, 0, ([] : Hd)) hl47 ⟨rfl, rfl, trivial⟩ (fun w h => h) ?_
    refine natC (cur7 (fun l34 i38 i39 i40 A35 c36 H37 => fun U49 hJ_ => ?_)) (fun k43 => (cur7 (fun l34 i38 i39 i40 A35 c36 H37 => fun U49 hJ_ => ?_)))
    · skip
      replace hJ_ : spec_l1Cur_movers.l0 k l0_0 i2 l6 b20 0 l34 i38 i39 i40 = some o48 := hJ_
      rw [spec_l1Cur_movers.l0] at hJ_
      exact noneE hJ_
    · skip
      clear hl47
      have h := hJ_; clear hJ_
      replace h : spec_l1Cur_movers.l0 k l0_0 i2 l6 b20 (k43 + 1) l34 i38 i39 i40 = some o48 := h
      rw [spec_l1Cur_movers.l0] at h
      refine c_seq ?_
      refine c_seq ?_
      refine za0 ?_
      refine o_q rfl rfl (za2 rfl) ?_
      refine o_q rfl rfl (q_gtr rfl rfl) ?_
      refine o_end ?_
      refine za1 ?_
      refine zaq _ rfl (fun hb51 => ?_) (fun hb51 => ?_)
      · skip
        replace h := br_t hb51 h
        refine zak ?_
        refine za1 ?_
        refine c_seq ?_
        refine zaf ?_
        refine c_seq ?_
        refine za0 ?_
        refine o_q rfl rfl (za2 rfl) ?_
        refine o_end ?_
        refine za1 ?_
        refine zaq _ rfl (fun hb52 => ?_) (fun hb52 => ?_)
        · skip
          replace h := bb_t hb52 h
          refine za0 ?_
          refine o_q rfl rfl (za2 rfl) ?_
          refine o_q rfl rfl (za2 rfl) ?_
          refine o_q rfl rfl (za2 rfl) ?_
          refine o_pick [1, 0, 2] (by decide) rfl ?_
          refine bindE3 h (fun i54 i55 i56 hx53 h => ?_) rfl
          refine o_e rfl (za9 1 Z Try.func39 N39 rfl rfl rfl (fun w P1 hF hB hS hT => spec_l1Cur_pick.calls g0 A0_0 c0_0 l0_0.length l0_0 i38 i39 12 hB hF (hS _ R0_0) hc0_0 _ _ _ hx53)) (fun _ => ?_)
          refine za8 h (fun l58 hx57 h => ?_) rfl
          refine o_e rfl (za9 0 Z Try.func44 N44 rfl rfl rfl (fun w P1 hF hB hS hT => spec_moRaise.calls k A9 c10 l6.length l6 i54 hB hF (hT 2 _ rfl).row (hT 2 _ rfl).cap _ hx57)) (cur2 (fun A59 c60 => ?_))
          refine o_e rfl (e_litG (j := 0) (ue := 3) (dk := (Kd.int .i64)) (ys := l58) Try.underlying28 I25 rfl rfl rfl) (cur3 (fun A61 c62 H64 => ?_))
          refine za8 h (fun l65 ha66 h => ?_) rfl
          refine o_e rfl (e_appG (i := 3) (j := 0) Try.underlying28 I25 rfl (by decide) rfl rfl rfl rfl rfl ha66) (cur3 (fun A67 c68 H69 => ?_))
          refine o_q rfl rfl (q_asg rfl) ?_
          refine o_end ?_
          refine zam ?_
          refine za1 ?_
          refine za0 ?_
          refine o_q rfl rfl (za2 rfl) ?_
          refine o_q rfl rfl (q_sub64 rfl rfl) ?_
          refine o_q rfl rfl (q_asg rfl) ?_
          refine o_end ?_
          refine zal k43 (l65, i55, i56, w64 (i40 - 1), A67, c68, H69) (Nat.lt_succ_self _) h ⟨rfl, rfl, trivial⟩ (fun w h => za7 [3, 2, 4] (by decide) rfl w h) ?_
          repeat (first | exact zad _ _ | refine zah rfl ?_ | refine zae rfl ?_ | refine zai rfl ?_)
        · skip
          replace h := bb_f hb52 h
          refine za0 ?_
          refine o_q rfl rfl (za2 rfl) ?_
          refine o_q rfl rfl (za2 rfl) ?_
          refine o_q rfl rfl (za2 rfl) ?_
          refine o_pick [1, 0, 2] (by decide) rfl ?_
          refine bindE3 h (fun l71 i72 i73 hx70 h => ?_) rfl
          refine o_e rfl (za9 1 Z Try.func41 N41 rfl rfl rfl (fun w P1 hF hB hS hT => spec_l1Cur_permutation.calls k g0 A0_0 c0_0 l0_0.length l0_0 i38 i39 i2 hB hF (hS _ R0_0) hc0_0 _ _ _ hx70)) (cur2 (fun A74 c75 => ?_))
          refine o_e rfl (e_litG (j := 0) (ue := 3) (dk := (Kd.int .i64)) (ys := l71) Try.underlying28 I25 rfl rfl rfl) (cur3 (fun A76 c77 H79 => ?_))
          refine za8 h (fun l80 ha81 h => ?_) rfl
          refine o_e rfl (e_appG (i := 3) (j := 0) Try.underlying28 I25 rfl (by decide) rfl rfl rfl rfl rfl ha81) (cur3 (fun A82 c83 H84 => ?_))
          refine o_q rfl rfl (q_asg rfl) ?_
          refine o_end ?_
          refine zam ?_
          refine za1 ?_
          refine za0 ?_
          refine o_q rfl rfl (za2 rfl) ?_
          refine o_q rfl rfl (q_sub64 rfl rfl) ?_
          refine o_q rfl rfl (q_asg rfl) ?_
          refine o_end ?_
          refine zal k43 (l80, i72, i73, w64 (i40 - 1), A82, c83, H84) (Nat.lt_succ_self _) h ⟨rfl, rfl, trivial⟩ (fun w h => za7 [3, 2, 4] (by decide) rfl w h) ?_
          repeat (first | exact zad _ _ | refine zah rfl ?_ | refine zae rfl ?_ | refine zai rfl ?_)
      · skip
        replace h := br_f hb51 h
        refine c_exit ?_
        refine za6 ?_
        refine za6 ?_
        have e_ := Option.some.inj h; replace h := hR46; rw [← e_] at h; clear e_
        refine x_hit ?_
        refine za1 ?_
        refine c_seq ?_
        refine za8 h (fun o93 hl94 hR95 => ?_) rfl
        clear h
        refine c_cutJ (σ := Int × Int × Bool) (fun (i90, i91, b92) => some (i90, i91, b92) = some o93) [38, 39, 40, 41, 42, 43, 44] (fun (i90, i91, b92) => [(44, .bool b92)]) (fun (i90, i91, b92) => [box g0 44 #[.slice A0_0 l0_0.length c0_0, .int .i64 i90, .int .u64 i91], row (gk 3 (Kd.int .i64)) 25 (.slice A35 l34.length c36) (zp H37 l34), row (Kd.int .i64) 3 (.slice A9 l6.length c10) l6]) ?_ ?_
        · skip
          have h := hl94; clear hl94
          clear hR95
          refine za0 ?_
          refine o_q rfl rfl (za2 rfl) ?_
          refine o_q rfl rfl (q_len Try.underlying28 rfl) ?_
          refine o_q rfl rfl (q_gtr rfl rfl) ?_
          refine o_q rfl rfl (za2 rfl) ?_
          refine byB (decide (0 < (l34.length : Int))) (fun hb98 => ?_) (fun hb98 => ?_)
          · replace h := br_t hb98 h
            refine o_w (za4 rfl rfl rfl (congrArg Value.bool hb98)) rfl (za2 rfl) ?_
            refine o_pick [1, 0, 2] (by decide) rfl ?_
            refine bindE3 h (fun b100 i101 i102 hx99 h => ?_) rfl
            refine o_ew (za4 rfl rfl rfl (congrArg Value.bool hb98)) (za9 1 Z Try.func42 N42 rfl rfl rfl (fun w P1 hF hB hS hT => spec_l1Cur_one.calls g0 A0_0 c0_0 l0_0.length l0_0 i38 i39 20 hB hF (hS _ R0_0) hc0_0 _ _ _ hx99)) (fun _ => ?_)
            refine o_q rfl rfl (zar true (congrArg Value.bool hb98) rfl) ?_
            refine o_end ?_
            refine x_meetJ (i101, i102, b100) h ⟨rfl, trivial⟩ (fun w h => za7 [0, 1, 2] (by decide) rfl w h) ?_
            repeat (first | exact zad _ _ | refine zah rfl ?_ | refine zae rfl ?_ | refine zai rfl ?_)
          · replace h := br_f hb98 h
            refine @o_n _ _ _ _ _ _ _ _ _ _ _ 42 (za3 rfl rfl rfl (congrArg Value.bool hb98) rfl) (Eq.refl (some 42)) ?_
            refine @o_n _ _ _ _ _ _ _ _ _ _ _ 43 (za3 rfl rfl rfl (congrArg Value.bool hb98) rfl) (Eq.refl (some 43)) ?_
            refine o_q rfl rfl (zar false (congrArg Value.bool hb98) rfl) ?_
            refine o_end ?_
            refine x_meetJ (i38, i39, false) h ⟨rfl, trivial⟩ (fun w h => za7 [1, 0, 2] (by decide) rfl w h) ?_
            repeat (first | exact zad _ _ | refine zah rfl ?_ | refine zae rfl ?_ | refine zai rfl ?_)
        · skip
          refine (cur3 (fun i90 i91 b92 => fun U96 hJ97 => ?_))
          have e_ := Option.some.inj hJ97; have h := hR95; rw [← e_] at h; clear e_ hJ97 hR95 hl94
          refine zaq _ rfl (fun hb103 => ?_) (fun hb103 => ?_)
          · skip
            replace h := bb_t hb103 h
            refine za0 ?_
            refine o_q rfl rfl (za2 rfl) ?_
            refine o_q rfl rfl (za2 rfl) ?_
            refine o_q rfl rfl (za2 rfl) ?_
            refine bindE3 h (fun i105 i106 i107 hx104 h => ?_) rfl
            refine o_e rfl (za9 1 Z Try.func40 N40 rfl rfl rfl (fun w P1 hF hB hS hT => spec_l1Cur_points.calls g0 A0_0 c0_0 l0_0.length l0_0 i90 i91 hB hF (hS _ R0_0) hc0_0 _ _ _ hx104)) (fun _ => ?_)
            refine bindE3 h (fun l109 i110 i111 hx108 h => ?_) rfl
            refine o_e rfl (za9 1 Z Try.func41 N41 rfl rfl rfl (fun w P1 hF hB hS hT => spec_l1Cur_permutation.calls k g0 A0_0 c0_0 l0_0.length l0_0 i106 i107 i105 hB hF (hS _ R0_0) hc0_0 _ _ _ hx108)) (cur2 (fun A112 c113 => ?_))
            refine zat (p := Sh A35 l34.length (zp H37 l34).length) (fun w h => f_sh (dk := (gk 3 (Kd.int .i64))) h (fun w h => h.zao (i := 2) rfl)) (fun hq114 => ?_)
            refine za8 h (fun y116 hg115 h => ?_) rfl
            refine o_q rfl rfl (q_ix Try.underlying28 Z25 rfl rfl hq114 (gt_zp hg115)) ?_
            refine za8 h (fun l117 hs118 h => ?_) rfl
            refine o_e rfl (e_setG (i := 2) (j := 0) rfl rfl rfl rfl rfl Z25 hs118) (fun H119 => ?_)
            refine o_end ?_
            refine za1 ?_
            refine c_seq ?_
            refine za0 ?_
            refine o_q rfl rfl (za2 rfl) ?_
            refine o_q rfl rfl (q_asg rfl) ?_
            refine o_end ?_
            refine za1 ?_
            refine c_ret ?_
            refine x_fact (p := l34.length = l117.length) (fun w h => (h.row_C (i := 2) rfl).2.1.trans (zp_len _ _)) (fun hn120 => ?_)
            have e0_ := Option.some.inj h; clear h
            have d0_ := (Prod.mk.inj e0_).1; have e1_ := (Prod.mk.inj e0_).2; clear e0_; subst d0_
            have d1_ := (Prod.mk.inj e1_).1; have e2_ := (Prod.mk.inj e1_).2; clear e1_; subst d1_
            subst e2_
            exact x_r1 (A35, c36, H119) Try.results18 (zaa (v := .slice A35 l34.length c36) rfl) (by (try rw [hn120]); first | done | rfl) (f_pickE (L1 := [gone, box g0 44 #[.slice A0_0 l0_0.length c0_0, .int .i64 i110, .int .u64 i111], row (gk 3 (Kd.int .i64)) 25 (.slice A35 l34.length c36) (zp H119 l117), row (Kd.int .i64) 3 (.slice A9 l6.length c10) l6]) rfl [2, 1] (by decide) rfl (by (try rw [hn120]); first | done | rfl))
          · skip
            replace h := bb_f hb103 h
            refine zak ?_
            refine za1 ?_
            refine c_seq ?_
            refine za0 ?_
            refine o_q rfl rfl (za2 rfl) ?_
            refine o_q rfl rfl (q_asg rfl) ?_
            refine o_end ?_
            refine za1 ?_
            refine c_ret ?_
            have e0_ := Option.some.inj h; clear h
            have d0_ := (Prod.mk.inj e0_).1; have e1_ := (Prod.mk.inj e0_).2; clear e0_; subst d0_
            have d1_ := (Prod.mk.inj e1_).1; have e2_ := (Prod.mk.inj e1_).2; clear e1_; subst d1_
            subst e2_
            exact x_r1 (A35, c36, H37) Try.results18 (zaa rfl) rfl (fun w h => za7 [1, 0] (by decide) rfl w h)

/-! ### loop.example/g01098/spec.DrawRunPermutations: function 5 -/
def spec_DrawRunPermutations.f (k : Nat) (l0 : List Int) : Option (Int × (List SStep) × (List Int) × (List (List Int))) := (spec_l1Cur_inputs.f l0 0 0).bind fun (i6, i7, i8) => (spec_l1Cur_among.f l0 i7 i8 ([3, 6, 10] : List Int)).bind fun (i13, i14, i15) => (spec_l1Cur_anyPlan.f k l0 i14 i15 i6 i13).bind fun (i17, l18, l19, i20, i21) => (spec_l1Least.f i17 9).bind fun i29 => (spec_l1Most.f 0 i29).bind fun i31 => (spec_l1Cur_movers.f k l0 i20 i21 i31).bind fun (l33, i34, i35) => some (i17, l18, l19, l33)
set_option maxHeartbeats 600000 in
set_option maxRecDepth 100000 in
theorem spec_DrawRunPermutations.calls (k : Nat) {w0 ws : World} {P0 : Nat → Prop} (A0 : Option Addr) (c0 : Nat) (n0 : Nat) (l0 : List Int) (Z : Below w0.heap.size w0 ws) (hF : Fr w0 ws P0 [] ws) (R0 : Stable ws P0 (fun w => Kd.C (Kd.int .u8) w A0 n0 l0)) (hc0 : n0 ≤ c0) (r_1 : Int) (r_2 : List SStep) (r_5 : List Int) (r_8 : List (List Int)) (h : spec_DrawRunPermutations.f k l0 = some (r_1, r_2, r_5, r_8)) :
    Calls Try.prog 5 #[.slice A0 n0 c0] ws (Post1 w0 ws P0 (fun ((q_3, q_4, q_6, q_7, q_9, q_10, q_11) : (Option Addr) × Nat × (Option Addr) × Nat × (Option Addr) × Nat × Hd) => .tuple #[.agg #[.int .i64 r_1, .slice q_3 r_2.length q_4, .slice q_6 r_5.length q_7], .slice q_9 r_8.length q_10]) (fun ((q_3, q_4, q_6, q_7, q_9, q_10, q_11) : (Option Addr) × Nat × (Option Addr) × Nat × (Option Addr) × Nat × Hd) => [row kStep 58 (.slice q_3 r_2.length q_4) r_2, row (Kd.int .i64) 3 (.slice q_6 r_5.length q_7) r_5, row (gk 3 (Kd.int .i64)) 25 (.slice q_9 r_8.length q_10) (zp q_11 r_8)])) := by
  unfold spec_DrawRunPermutations.f at h
  obtain rfl := (R0 ws (KeptB.refl _ _)).1
  refine enter Try.func5 rfl Try.ntmps5 rfl hF ?_
  refine c_seq ?_
  refine za0 ?_
  refine o_e rfl (e_alloc V27 rfl) (fun g1 => ?_)
  refine o_q rfl rfl (q_asg rfl) ?_
  refine o_end ?_
  refine za1 ?_
  refine c_seq ?_
  refine za0 ?_
  refine o_q rfl rfl (za2 rfl) ?_
  refine o_q rfl rfl (q_build (vs := [(0, .slice A0 l0.length c0)]) (cs := [.slice A0 l0.length c0, .int .i64 0, .int .u64 0]) rfl rfl) ?_
  refine o_e rfl (e_box rfl) (fun g3 => ?_)
  refine o_q rfl rfl (q_asg rfl) ?_
  refine o_end ?_
  refine za1 ?_
  refine c_seq ?_
  refine za0 ?_
  refine o_q rfl rfl (za2 rfl) ?_
  refine o_q rfl rfl (za2 rfl) ?_
  refine bindE3 h (fun i6 i7 i8 hx5 h => ?_) rfl
  refine o_e rfl (za9 1 Z Try.func16 N16 rfl rfl rfl (fun w P1 hF hB hS hT => spec_l1Cur_inputs.calls g3 A0 c0 l0.length l0 0 0 hB hF (hS _ R0) hc0 _ _ _ hx5)) (fun _ => ?_)
  refine o_q rfl rfl (za2 rfl) ?_
  refine o_e rfl (e_lit (vs := [(0, .int .i64 3), (1, .int .i64 6), (2, .int .i64 10)]) (cs := [.int .i64 3, .int .i64 6, .int .i64 10]) (Kd.int .i64) ([3, 6, 10] : List Int) Try.underlying25 I3 (by decide) rfl (by decide) rfl rfl (fun _ _ => Kd.zau _)) (cur2 (fun A9 c10 => ?_))
  refine o_pick [1, 0, 2] (by decide) rfl ?_
  refine bindE3 h (fun i13 i14 i15 hx12 h => ?_) rfl
  refine o_e rfl (za9 1 Z Try.func17 N17 rfl rfl rfl (fun w P1 hF hB hS hT => spec_l1Cur_among.calls g3 A0 c0 l0.length l0 i7 i8 A9 c10 (([3, 6, 10] : List Int).length) ([3, 6, 10] : List Int) hB hF (hS _ R0) hc0 (hT 0 _ rfl).row (hT 0 _ rfl).cap _ _ _ hx12)) (fun _ => ?_)
  refine bindE5 h (fun i17 l18 l19 i20 i21 hx16 h => ?_) rfl
  refine o_e rfl (za9 1 Z Try.func15 N15 rfl rfl rfl (fun w P1 hF hB hS hT => spec_l1Cur_anyPlan.calls k g3 A0 c0 l0.length l0 i14 i15 i6 i13 hB hF (hS _ R0) hc0 _ _ _ _ _ hx16)) (cur4 (fun A22 c23 A24 c25 => ?_))
  refine o_e rfl (e_alloc V27 rfl) (fun g26 => ?_)
  refine o_e rfl (e_storeA (i := 0) rfl rfl rfl Z27 rfl rfl) (fun _ => ?_)
  refine o_end ?_
  refine za1 ?_
  refine c_seq ?_
  refine a_startS (ds := []) [some 0, some 1, some 2, none, some 4, none] MO rfl ?_
  refine a_take 0 rfl rfl rfl (by kernel_rfl) (fun _ _ _ h => h) (fun w h => zaj [some 0, some 1, some 2, none, some 4, none] (by decide) w h rfl) (q_ldB G27 Z27 rfl (fun w h => h.zan (i := 0) rfl) rfl) ?_
  refine zac 1 rfl rfl rfl (by kernel_rfl) (fun _ _ _ h => h) (za2 rfl) ?_
  refine zac 2 rfl rfl rfl (by kernel_rfl) (fun _ _ _ h => h) (q_f F27_0 rfl) ?_
  refine a_take 3 rfl rfl rfl (by kernel_rfl) (fun _ _ _ h => h) (fun w h => zaj [some 0, some 1, some 2, none, some 4, none] (by decide) w h rfl) (q_ldb Y3 rfl (fun w h => h.zan (i := 0) rfl) rfl) ?_
  refine za8 h (fun i29 hx28 h => ?_) rfl
  refine a_one 4 rfl rfl (by kernel_rfl) rfl (za9 0 Z Try.func20 N20 rfl rfl rfl (fun w P1 hF hB hS hT => spec_l1Least.calls i17 9 hB hF _ hx28)) (fun s w h => zaj [some 0, some 1, some 2, none, some 4, none] (by decide) w h rfl) (fun _ => ?_)
  refine za8 h (fun i31 hx30 h => ?_) rfl
  refine a_one 5 rfl rfl (by kernel_rfl) rfl (za9 0 Z Try.func19 N19 rfl rfl rfl (fun w P1 hF hB hS hT => spec_l1Most.calls 0 i29 hB hF _ hx30)) (fun s w h => zaj [some 0, some 1, some 2, none, some 4, none] (by decide) w h rfl) (fun _ => ?_)
  refine a_pick [3, 0, 1, 2, 4, 5] (by decide) rfl ?_
  refine bindE3 h (fun l33 i34 i35 hx32 h => ?_) rfl
  refine a_one 6 rfl rfl (by kernel_rfl) rfl (za9 1 Z Try.func18 N18 rfl rfl rfl (fun w P1 hF hB hS hT => spec_l1Cur_movers.calls k g3 A0 c0 l0.length l0 i20 i21 i31 hB hF (hS _ R0) hc0 _ _ _ hx32)) (fun s w h => zaj [some 2, some 3, some 4, none, some 5, none] (by decide) w h rfl) (cur3 (fun A36 c37 H38 => ?_))
  refine a_one 7 rfl rfl (by kernel_rfl) rfl (e_storeA (i := 6) rfl rfl rfl Z27 rfl rfl) (fun s w h => zaj [some 2, some 3, some 4, none, some 5, none] (by decide) w h rfl) (fun _ => ?_)
  refine zac 8 rfl rfl rfl (by kernel_rfl) (fun _ _ _ h => h) (q_asg rfl) ?_
  refine a_done (by kernel_rfl) ?_
  refine za1 ?_
  refine c_ret ?_
  have e0_ := Option.some.inj h; clear h
  have d0_ := (Prod.mk.inj e0_).1; have e1_ := (Prod.mk.inj e0_).2; clear e0_; subst d0_
  have d1_ := (Prod.mk.inj e1_).1; have e2_ := (Prod.mk.inj e1_).2; clear e1_; subst d1_
  have d2_ := (Prod.mk.inj e2_).1; have e3_ := (Prod.mk.inj e2_).2; clear e2_; subst d2_
  subst e3_
  exact x_r2 (A22, c23, A24, c25, A36, c37, H38) Try.results5 (rv_cell rfl G27 Z27 (fun w h => h.zan (i := 6) rfl) rfl) (zaa rfl) rfl (fun w h => za7 [3, 4, 0] (by decide) rfl w h)

/-! ### loop.example/g01098/impl.firsts: function 37 -/
def impl_firsts.l0 : Nat → (List Int) → Int → Option (List Int)
  | 0, l4, i7 => some l4
  | k10 + 1, l4, i7 => (ap l4 ([i7] : List Int)).bind fun l22 => impl_firsts.l0 k10 l22 (i7 + 1)
def impl_firsts.f (a0 : Int) : Option (List Int) := (bd a0).bind fun _ => (impl_firsts.l0 ((a0).toNat) ([] : List Int) 0).bind fun l4 => some l4
set_option maxHeartbeats 600000 in
set_option maxRecDepth 100000 in
theorem impl_firsts.calls {w0 ws : World} {P0 : Nat → Prop} (a0 : Int) (Z : Below w0.heap.size w0 ws) (hF : Fr w0 ws P0 [] ws)  (r_1 : List Int) (h : impl_firsts.f a0 = some r_1) :
    Calls Try.prog 37 #[.int .i64 a0] ws (Post1 w0 ws P0 (fun ((q_2, q_3) : (Option Addr) × Nat) => .slice q_2 r_1.length q_3) (fun ((q_2, q_3) : (Option Addr) × Nat) => [row (Kd.int .i64) 3 (.slice q_2 r_1.length q_3) r_1])) := by
  unfold impl_firsts.f at h
  refine enter Try.func37 rfl Try.ntmps37 rfl hF ?_
  refine c_seq ?_
  refine za0 ?_
  refine o_q rfl rfl (q_asg rfl) ?_
  refine o_end ?_
  refine za1 ?_
  refine c_seq ?_
  refine za0 ?_
  refine o_e rfl (e_lit0 (Kd.int .i64) Try.underlying25 I3) (cur2 (fun A1 c2 => ?_))
  refine o_q rfl rfl (q_asg rfl) ?_
  refine o_end ?_
  refine za1 ?_
  refine c_seq ?_
  refine c_seq ?_
  refine za0 ?_
  refine o_q rfl rfl (za2 rfl) ?_
  refine o_q rfl rfl (za2 rfl) ?_
  refine o_end ?_
  refine za1 ?_
  refine zaf ?_
  refine za8 h (fun _ hbd16 h => ?_) rfl
  refine za8 h (fun o15 hl14 hR13 => ?_) rfl
  clear h
  have hm12 : a0 ≤ 9223372036854775807 := bd_le hbd16
  refine zav (σ := (List Int) × Int × (Option Addr) × Nat) (fun k10 ((l4, i7, A5, c6) : (List Int) × Int × (Option Addr) × Nat) => Cn a0 i7 k10 ∧ impl_firsts.l0 k10 l4 i7 = some o15) [3, 4, 7, 8, 9, 10, 11, 12, 13, 14] (fun ((l4, i7, A5, c6) : (List Int) × Int × (Option Addr) × Nat) => [(3, .slice A5 l4.length c6), (7, .int .i64 i7)]) (fun ((l4, i7, A5, c6) : (List Int) × Int × (Option Addr) × Nat) => [row (Kd.int .i64) 3 (.slice A5 l4.length c6) l4]) (a0).toNat (([] : List Int), 0, A1, c2) ⟨Cn.start hm12, hl14⟩ ⟨rfl, rfl, trivial⟩ (fun w h => h) ?_
  refine natC (cur4 (fun l4 i7 A5 c6 => fun U17 hJ_ => ?_)) (fun k10 => (cur4 (fun l4 i7 A5 c6 => fun U17 hJ_ => ?_)))
  · skip
    clear hl14
    have hr11 := hJ_.1; have h := hJ_.2; clear hJ_
    replace h : impl_firsts.l0 0 l4 i7 = some o15 := h
    rw [impl_firsts.l0] at h
    refine c_seq ?_
    refine za0 ?_
    refine o_q rfl rfl (q_lss rfl rfl) ?_
    refine o_end ?_
    refine za1 ?_
    refine c_seq ?_
    refine c_false (congrArg Value.bool hr11.ge) ?_
    refine c_exit ?_
    refine za6 ?_
    refine za6 ?_
    have e_ := Option.some.inj h; replace h := hR13; rw [← e_] at h; clear e_
    refine x_hit ?_
    refine za1 ?_
    refine c_seq ?_
    refine za0 ?_
    refine o_q rfl rfl (za2 rfl) ?_
    refine o_q rfl rfl (q_asg rfl) ?_
    refine o_end ?_
    refine za1 ?_
    refine c_ret ?_
    have e0_ := Option.some.inj h; clear h
    subst e0_
    exact x_r1 (A5, c6) Try.results37 (zaa rfl) rfl (fun w h => za7 [0] (by decide) rfl w h)
  · skip
    clear hl14
    have hr11 := hJ_.1; have h := hJ_.2; clear hJ_
    replace h : impl_firsts.l0 (k10 + 1) l4 i7 = some o15 := h
    rw [impl_firsts.l0] at h
    refine c_seq ?_
    refine za0 ?_
    refine o_q rfl rfl (q_lss rfl rfl) ?_
    refine o_end ?_
    refine za1 ?_
    refine c_seq ?_
    refine zaw (congrArg Value.bool hr11.lt) ?_
    refine zak ?_
    refine za1 ?_
    refine c_seq ?_
    refine zaf ?_
    refine c_seq ?_
    refine za0 ?_
    refine o_q rfl rfl (za2 rfl) ?_
    refine o_q rfl rfl (q_asg rfl) ?_
    refine o_end ?_
    refine za1 ?_
    refine za0 ?_
    refine o_q rfl rfl (za2 rfl) ?_
    refine o_q rfl rfl (za2 rfl) ?_
    refine o_e rfl (e_lit (vs := [(0, .int .i64 i7)]) (cs := [.int .i64 i7]) (Kd.int .i64) ([i7] : List Int) Try.underlying25 I3 (by decide) rfl (by decide) rfl rfl (fun _ _ => Kd.zau _)) (cur2 (fun A19 c20 => ?_))
    refine za8 h (fun l22 ha23 h => ?_) rfl
    refine o_e rfl (e_app (i := 1) (j := 0) Try.underlying25 I3 rfl (by decide) (by decide) rfl rfl rfl rfl rfl ha23) (cur2 (fun A24 c25 => ?_))
    refine o_q rfl rfl (q_asg rfl) ?_
    refine o_end ?_
    refine zam ?_
    refine za1 ?_
    refine za0 ?_
    refine o_q rfl rfl (q_up rfl rfl hr11.up) ?_
    refine o_q rfl rfl (za2 rfl) ?_
    refine o_end ?_
    refine zal k10 (l22, i7 + 1, A24, c25) (Nat.lt_succ_self _) ⟨hr11.step, h⟩ ⟨rfl, rfl, trivial⟩ (fun w h => za7 [1] (by decide) rfl w h) ?_
    repeat (first | exact zad _ _ | refine zah rfl ?_ | refine zae rfl ?_ | refine zai rfl ?_)

/-! ### slices.Equal[[]int,int]: function 31 -/
def slices_Equal_int_int.l0 (l1 : List Int) : (List Int) → Int → Option ((Bool) ⊕ (Unit))
  | [], i2 => some (.inr ())
  | y3 :: ys4, i2 => (gt l1 i2).bind fun y16 => if y3 ≠ y16 then (some (.inl false)) else (slices_Equal_int_int.l0 l1 ys4 (i2 + 1))
def slices_Equal_int_int.f (l0 : List Int) (l1 : List Int) : Option Bool := if (l0.length : Int) ≠ (l1.length : Int) then (some false) else ((slices_Equal_int_int.l0 l1 l0 0).bind fun o_ => match o_ with | .inl r_ => some r_ | .inr _ => some true)
set_option maxHeartbeats 600000 in
set_option maxRecDepth 100000 in
theorem slices_Equal_int_int.calls {w0 ws : World} {P0 : Nat → Prop} (A0 : Option Addr) (c0 : Nat) (n0 : Nat) (l0 : List Int) (A1 : Option Addr) (c1 : Nat) (n1 : Nat) (l1 : List Int) (Z : Below w0.heap.size w0 ws) (hF : Fr w0 ws P0 [] ws) (R0 : Stable ws P0 (fun w => Kd.C (Kd.int .i64) w A0 n0 l0)) (hc0 : n0 ≤ c0) (R1 : Stable ws P0 (fun w => Kd.C (Kd.int .i64) w A1 n1 l1)) (hc1 : n1 ≤ c1) (r_1 : Bool) (h : slices_Equal_int_int.f l0 l1 = some r_1) :
    Calls Try.prog 31 #[.slice A0 n0 c0, .slice A1 n1 c1] ws (Post1 w0 ws P0 (fun (_ : Unit) => .bool r_1) (fun (_ : Unit) => [])) := by
  unfold slices_Equal_int_int.f at h
  obtain rfl := (R0 ws (KeptB.refl _ _)).1
  obtain rfl := (R1 ws (KeptB.refl _ _)).1
  refine enter Try.func31 rfl Try.ntmps31 rfl hF ?_
  refine c_seq ?_
  refine za0 ?_
  refine o_q rfl rfl (q_asg rfl) ?_
  refine o_end ?_
  refine za1 ?_
  refine c_seq ?_
  refine c_seq ?_
  refine za0 ?_
  refine o_q rfl rfl (za2 rfl) ?_
  refine o_q rfl rfl (q_len Try.underlying25 rfl) ?_
  refine o_q rfl rfl (za2 rfl) ?_
  refine o_q rfl rfl (q_len Try.underlying25 rfl) ?_
  refine o_q rfl rfl (q_neq rfl rfl) ?_
  refine o_end ?_
  refine za1 ?_
  refine zaq _ rfl (fun hb1 => ?_) (fun hb1 => ?_)
  · skip
    replace h := br_t hb1 h
    refine c_seq ?_
    refine za0 ?_
    refine o_q rfl rfl (q_asg rfl) ?_
    refine o_end ?_
    refine za1 ?_
    refine c_ret ?_
    refine za5 ?_
    have e0_ := Option.some.inj h; clear h
    subst e0_
    exact x_r1 () Try.results31 (zaa rfl) rfl (fun w h => za7 [] (by decide) rfl w h)
  · skip
    replace h := br_f hb1 h
    refine zak ?_
    refine za1 ?_
    refine c_seq ?_
    refine c_seq ?_
    refine za0 ?_
    refine o_q rfl rfl (za2 rfl) ?_
    refine o_q rfl rfl (q_len Try.underlying25 rfl) ?_
    refine o_q rfl rfl (za2 rfl) ?_
    refine o_end ?_
    refine za1 ?_
    refine zaf ?_
    refine za8 h (fun o10 hl9 hR8 => ?_) rfl
    clear h
    refine c_fact (p := l0.length ≤ 9223372036854775807) (fun w h => (R0.now Z h).2.1) (fun hm7 => ?_)
    refine zav (σ := (List Int) × Int) (fun k5 ((ys4, i2) : (List Int) × Int) => Rg l0 i2 ys4 ∧ ys4.length = k5 ∧ slices_Equal_int_int.l0 l1 ys4 i2 = some o10) [4, 5, 13, 14, 15, 16, 17, 18, 19, 20, 21, 22, 23, 24, 25] (fun ((ys4, i2) : (List Int) × Int) => [(13, .int .i64 i2)]) (fun ((ys4, i2) : (List Int) × Int) => []) l0.length (l0, 0) ⟨Rg.start _, rfl, hl9⟩ ⟨rfl, trivial⟩ (fun w h => h) ?_
    refine fun k5 => cur2 (listC (fun i2 U11 hJ_ => ?_) (fun y3 ys4 i2 U11 hJ_ => ?_))
    · skip
      clear hl9
      have hr6 := hJ_.1; have hk12 := hJ_.2.1; have h := hJ_.2.2; clear hJ_
      replace h : slices_Equal_int_int.l0 l1 [] i2 = some o10 := h
      rw [slices_Equal_int_int.l0] at h
      refine c_seq ?_
      refine za0 ?_
      refine o_q rfl rfl (q_lss rfl rfl) ?_
      refine o_end ?_
      refine za1 ?_
      refine c_seq ?_
      refine c_false (congrArg Value.bool hr6.ge) ?_
      refine c_exit ?_
      refine za6 ?_
      refine za6 ?_
      have e_ := Option.some.inj h; replace h := hR8; rw [← e_] at h; clear e_
      refine x_hit ?_
      refine za1 ?_
      refine c_seq ?_
      refine za0 ?_
      refine o_q rfl rfl (q_asg rfl) ?_
      refine o_end ?_
      refine za1 ?_
      refine c_ret ?_
      have e0_ := Option.some.inj h; clear h
      subst e0_
      exact x_r1 () Try.results31 (zaa rfl) rfl (fun w h => za7 [] (by decide) rfl w h)
    · skip
      clear hl9
      have hr6 := hJ_.1; have hk12 := hJ_.2.1; have h := hJ_.2.2; clear hJ_
      replace h : slices_Equal_int_int.l0 l1 (y3 :: ys4) i2 = some o10 := h
      rw [slices_Equal_int_int.l0] at h
      refine c_seq ?_
      refine za0 ?_
      refine o_q rfl rfl (q_lss rfl rfl) ?_
      refine o_end ?_
      refine za1 ?_
      refine c_seq ?_
      refine zaw (congrArg Value.bool hr6.lt) ?_
      refine zak ?_
      refine za1 ?_
      refine c_seq ?_
      refine zaf ?_
      refine c_seq ?_
      refine za0 ?_
      refine o_q rfl rfl (za2 rfl) ?_
      refine o_q rfl rfl (q_asg rfl) ?_
      refine o_end ?_
      refine za1 ?_
      refine c_seq ?_
      refine a_start (ds := []) MO rfl ?_
      refine zac 0 rfl rfl rfl (by kernel_rfl) (fun _ _ _ h => h) (za2 rfl) ?_
      refine zac 1 rfl rfl rfl (by kernel_rfl) (fun _ _ _ h => h) (za2 rfl) ?_
      refine a_fact (p := Sh A0 l0.length l0.length) (fun w h => f_sh (dk := (Kd.int .i64)) h (fun w h => R0.now Z h)) (fun hq13 => ?_)
      refine zac 2 rfl rfl rfl (by kernel_rfl) (fun _ _ _ h => h) (q_ix Try.underlying25 Z3 rfl rfl hq13 hr6.get) ?_
      refine a_take 3 rfl rfl rfl (by kernel_rfl) (fun _ _ _ h => h) (fun w h => h) (q_lde (off := 0) Y3 rfl rfl (fun w h => R0.now Z h) hr6.get (fun _ _ h => h) rfl) ?_
      refine zac 4 rfl rfl rfl (by kernel_rfl) (fun _ _ _ h => h) (za2 rfl) ?_
      refine zac 5 rfl rfl rfl (by kernel_rfl) (fun _ _ _ h => h) (za2 rfl) ?_
      refine a_fact (p := Sh A1 l1.length l1.length) (fun w h => f_sh (dk := (Kd.int .i64)) h (fun w h => R1.now Z h)) (fun hq14 => ?_)
      refine za8 h (fun y16 hg15 h => ?_) rfl
      refine zac 6 rfl rfl rfl (by kernel_rfl) (fun _ _ _ h => h) (q_ix Try.underlying25 Z3 rfl rfl hq14 hg15) ?_
      refine a_take 7 rfl rfl rfl (by kernel_rfl) (fun _ _ _ h => h) (fun w h => h) (q_lde (off := 0) Y3 rfl rfl (fun w h => R1.now Z h) hg15 (fun _ _ h => h) rfl) ?_
      refine zac 8 rfl rfl rfl (by kernel_rfl) (fun _ _ _ h => h) (q_neq rfl rfl) ?_
      refine a_done (by kernel_rfl) ?_
      refine za1 ?_
      refine zaq _ rfl (fun hb17 => ?_) (fun hb17 => ?_)
      · skip
        replace h := br_t hb17 h
        refine c_seq ?_
        refine za0 ?_
        refine o_q rfl rfl (q_asg rfl) ?_
        refine o_end ?_
        refine za1 ?_
        refine c_ret ?_
        refine zab ?_
        refine za5 ?_
        refine za5 ?_
        have e_ := Option.some.inj h; replace h := hR8; rw [← e_] at h; clear e_
        refine zab ?_
        refine za5 ?_
        have e0_ := Option.some.inj h; clear h
        subst e0_
        exact x_r1 () Try.results31 (zaa rfl) rfl (fun w h => za7 [] (by decide) rfl w h)
      · skip
        replace h := br_f hb17 h
        refine zak ?_
        refine zam ?_
        refine za1 ?_
        refine za0 ?_
        refine o_q rfl rfl (q_up rfl rfl (hr6.up hm7)) ?_
        refine o_q rfl rfl (za2 rfl) ?_
        refine o_end ?_
        refine zal ys4.length (ys4, i2 + 1) (by rw [← hk12]; exact Nat.lt_succ_self _) ⟨hr6.step, rfl, h⟩ ⟨rfl, trivial⟩ (fun w h => za7 [] (by decide) rfl w h) ?_
        repeat (first | exact zad _ _ | refine zah rfl ?_ | refine zae rfl ?_ | refine zai rfl ?_)

/-! ### isOrder, by hand: the sorted list is the first numbers -/
def impl_isOrder.f (l0 : List Int) (a1 : Int) : Option Bool := if l0.length ≤ 100000000 then (impl_firsts.f a1).bind fun l2 => (slices_Equal_int_int.f (l0.mergeSort fun x y => decide (x ≤ y)) l2).bind fun b6 => some b6 else none
set_option maxHeartbeats 600000 in
set_option maxRecDepth 100000 in
theorem impl_isOrder.calls {w0 ws : World} {P0 : Nat → Prop} (A0 : Option Addr) (c0 : Nat) (n0 : Nat) (l0 : List Int) (a1 : Int) (Z : Below w0.heap.size w0 ws) (hF : Fr w0 ws P0 [] ws) (R0 : Stable ws P0 (fun w => Kd.C (Kd.int .i64) w A0 n0 l0)) (hc0 : n0 ≤ c0) (r_1 : Bool) (h : impl_isOrder.f l0 a1 = some r_1) :
    Calls Try.prog 58 #[.slice A0 n0 c0, .int .i64 a1] ws (Post1 w0 ws P0 (fun (_ : Unit) => .bool r_1) (fun (_ : Unit) => [])) := by
  unfold impl_isOrder.f at h
  obtain rfl := (R0 ws (KeptB.refl _ _)).1
  split at h
  rotate_left
  · cases h
  next hz =>
  refine enter Try.func58 rfl Try.ntmps58 rfl hF ?_
  refine c_seq ?_
  refine za0 ?_
  refine o_q rfl rfl (q_asg rfl) ?_
  refine o_end ?_
  refine za1 ?_
  refine c_seq ?_
  refine za0 ?_
  refine o_q rfl rfl (za2 rfl) ?_
  refine o_e rfl (za9 0 Z Try.func68 N68 rfl rfl rfl (fun w P1 hF hB hS hT => Srt.vlc.calls A0 l0.length c0 hF)) (fun Bs => ?_)
  refine o_e rfl (za9 0 Z Try.func67 N67 rfl rfl rfl (fun w P1 hF hB hS hT => Srt.sorted.calls Bs A0 c0 l0 hB hF (hS _ R0) (hT 0 _ rfl).box hz)) (cur2 (fun A8 c9 => ?_))
  refine o_q rfl rfl (za2 rfl) ?_
  refine za8 h (fun l2 hx1 h => ?_) rfl
  refine o_e rfl (za9 0 Z Try.func37 N37 rfl rfl rfl (fun w P1 hF hB hS hT => impl_firsts.calls a1 hB hF _ hx1)) (cur2 (fun A3 c4 => ?_))
  refine za8 h (fun b6 hx5 h => ?_) rfl
  refine o_e rfl (za9 0 Z Try.func31 N31 rfl rfl rfl (fun w P1 hF hB hS hT => slices_Equal_int_int.calls A8 c9 l0.length (l0.mergeSort fun x y => decide (x ≤ y)) A3 c4 l2.length l2 hB hF (hT 1 _ rfl).row (hT 1 _ rfl).cap (hT 0 _ rfl).row (hT 0 _ rfl).cap _ hx5)) (fun _ => ?_)
  refine o_q rfl rfl (q_asg rfl) ?_
  refine o_end ?_
  refine za1 ?_
  refine c_ret ?_
  have e0_ := Option.some.inj h; clear h
  subst e0_
  exact x_r1 () Try.results58 (zaa rfl) rfl (fun w h => za7 [] (by decide) rfl w h)

/-! ### loop.example/g01098/impl.IsPermutation: function 34 -/
def impl_IsPermutation.f (l0 : List Int) : Option Bool := (impl_in.f (l0.length : Int) 1 8).bind fun b2 => if b2 = true then ((impl_isOrder.f l0 (l0.length : Int)).bind fun b5 => some b5) else (some false)
set_option maxHeartbeats 600000 in
set_option maxRecDepth 100000 in
theorem impl_IsPermutation.calls {w0 ws : World} {P0 : Nat → Prop} (A0 : Option Addr) (c0 : Nat) (n0 : Nat) (l0 : List Int) (Z : Below w0.heap.size w0 ws) (hF : Fr w0 ws P0 [] ws) (R0 : Stable ws P0 (fun w => Kd.C (Kd.int .i64) w A0 n0 l0)) (hc0 : n0 ≤ c0) (r_1 : Bool) (h : impl_IsPermutation.f l0 = some r_1) :
    Calls Try.prog 34 #[.slice A0 n0 c0] ws (Post1 w0 ws P0 (fun (_ : Unit) => .bool r_1) (fun (_ : Unit) => [])) := by
  unfold impl_IsPermutation.f at h
  obtain rfl := (R0 ws (KeptB.refl _ _)).1
  refine enter Try.func34 rfl Try.ntmps34 rfl hF ?_
  refine c_seq ?_
  refine za0 ?_
  refine o_q rfl rfl (q_asg rfl) ?_
  refine o_end ?_
  refine za1 ?_
  refine c_seq ?_
  refine za0 ?_
  refine o_q rfl rfl (za2 rfl) ?_
  refine o_q rfl rfl (q_len Try.underlying25 rfl) ?_
  refine za8 h (fun b2 hx1 h => ?_) rfl
  refine o_e rfl (za9 0 Z Try.func57 N57 rfl rfl rfl (fun w P1 hF hB hS hT => impl_in.calls (l0.length : Int) 1 8 hB hF _ hx1)) (fun _ => ?_)
  refine o_q rfl rfl (za2 rfl) ?_
  refine byB b2 (fun hb3 => ?_) (fun hb3 => ?_)
  · replace h := bb_t hb3 h
    refine o_w (za4 rfl rfl rfl (congrArg Value.bool hb3)) rfl (za2 rfl) ?_
    refine o_w (za4 rfl rfl rfl (congrArg Value.bool hb3)) rfl (za2 rfl) ?_
    refine o_w (za4 rfl rfl rfl (congrArg Value.bool hb3)) rfl (q_len Try.underlying25 rfl) ?_
    refine za8 h (fun b5 hx4 h => ?_) rfl
    refine o_ew (za4 rfl rfl rfl (congrArg Value.bool hb3)) (za9 0 Z Try.func58 N58 rfl rfl rfl (fun w P1 hF hB hS hT => impl_isOrder.calls A0 c0 l0.length l0 (l0.length : Int) hB hF (hS _ R0) hc0 _ hx4)) (fun _ => ?_)
    refine o_q rfl rfl (zar true (congrArg Value.bool hb3) rfl) ?_
    refine o_q rfl rfl (q_asg rfl) ?_
    refine o_end ?_
    refine za1 ?_
    refine c_ret ?_
    have e0_ := Option.some.inj h; clear h
    subst e0_
    exact x_r1 () Try.results34 (zaa rfl) rfl (fun w h => za7 [] (by decide) rfl w h)
  · replace h := bb_f hb3 h
    refine @o_n _ _ _ _ _ _ _ _ _ _ _ 7 (za3 rfl rfl rfl (congrArg Value.bool hb3) rfl) (Eq.refl (some 7)) ?_
    refine @o_n _ _ _ _ _ _ _ _ _ _ _ 8 (za3 rfl rfl rfl (congrArg Value.bool hb3) rfl) (Eq.refl (some 8)) ?_
    refine @o_n _ _ _ _ _ _ _ _ _ _ _ 9 (za3 rfl rfl rfl (congrArg Value.bool hb3) rfl) (Eq.refl (some 9)) ?_
    refine @o_n _ _ _ _ _ _ _ _ _ _ _ 10 (za3 rfl rfl rfl (congrArg Value.bool hb3) rfl) (Eq.refl (some 10)) ?_
    refine o_q rfl rfl (zar false (congrArg Value.bool hb3) rfl) ?_
    refine o_q rfl rfl (q_asg rfl) ?_
    refine o_end ?_
    refine za1 ?_
    refine c_ret ?_
    have e0_ := Option.some.inj h; clear h
    subst e0_
    exact x_r1 () Try.results34 (zaa rfl) rfl (fun w h => za7 [] (by decide) rfl w h)

/-! ### loop.example/g01098/impl.alike$1: function 50 -/
def impl_alike_1.f (l0 : List Int) (l1_0 : List (List Int)) : Option Bool := (impl_IsPermutation.f l0).bind fun b2 => if b2 = true then ((gt l1_0 0).bind fun y6 => some (decide ((l0.length : Int) ≠ (y6.length : Int)))) else (some true)
set_option maxHeartbeats 600000 in
set_option maxRecDepth 100000 in
theorem impl_alike_1.calls {w0 ws : World} {P0 : Nat → Prop} (A0 : Option Addr) (c0 : Nat) (n0 : Nat) (l0 : List Int) (g1 : Nat) (A1_0 : Option Addr) (c1_0 : Nat) (n1_0 : Nat) (H1_0 : Hd) (l1_0 : List (List Int)) (Z : Below w0.heap.size w0 ws) (hF : Fr w0 ws P0 [] ws) (R0 : Stable ws P0 (fun w => Kd.C (Kd.int .i64) w A0 n0 l0)) (hc0 : n0 ≤ c0) (R1_0 : Stable ws P0 (fun w => Kd.C (gk 3 (Kd.int .i64)) w A1_0 n1_0 (zp H1_0 l1_0))) (hc1_0 : n1_0 ≤ c1_0) (B1 : Stable ws P0 (fun w => w.heap[g1]? = some (.cells #[.slice A1_0 n1_0 c1_0] 28 (0, 0)))) (r_1 : Bool) (h : impl_alike_1.f l0 l1_0 = some r_1) :
    Calls Try.prog 50 #[.slice A0 n0 c0, .pointer (some ⟨g1, 0, none⟩)] ws (Post1 w0 ws P0 (fun (_ : Unit) => .bool r_1) (fun (_ : Unit) => [])) := by
  unfold impl_alike_1.f at h
  obtain rfl := (R0 ws (KeptB.refl _ _)).1
  obtain rfl := (zp_len _ _).symm.trans (R1_0 ws (KeptB.refl _ _)).1
  refine enter Try.func50 rfl Try.ntmps50 rfl hF ?_
  refine c_seq ?_
  refine za0 ?_
  refine o_q rfl rfl (q_asg rfl) ?_
  refine o_end ?_
  refine za1 ?_
  refine c_seq ?_
  refine za0 ?_
  refine o_q rfl rfl (za2 rfl) ?_
  refine za8 h (fun b2 hx1 h => ?_) rfl
  refine o_e rfl (za9 0 Z Try.func34 N34 rfl rfl rfl (fun w P1 hF hB hS hT => impl_IsPermutation.calls A0 c0 l0.length l0 hB hF (hS _ R0) hc0 _ hx1)) (fun _ => ?_)
  refine o_q rfl rfl (q_not rfl) ?_
  refine o_q rfl rfl (za2 rfl) ?_
  refine byB b2 (fun hb3 => ?_) (fun hb3 => ?_)
  · replace h := bb_t hb3 h
    refine o_w (za4 rfl rfl rfl (congrArg (fun b => Value.bool (!(b))) hb3)) rfl (za2 rfl) ?_
    refine o_w (za4 rfl rfl rfl (congrArg (fun b => Value.bool (!(b))) hb3)) rfl (q_len Try.underlying25 rfl) ?_
    refine o_w (za4 rfl rfl rfl (congrArg (fun b => Value.bool (!(b))) hb3)) rfl (q_ldb Y28 rfl (fun w h => B1.now Z h) rfl) ?_
    refine zat (p := Sh A1_0 l1_0.length (zp H1_0 l1_0).length) (fun w h => f_sh (dk := (gk 3 (Kd.int .i64))) h (fun w h => R1_0.now Z h)) (fun hq4 => ?_)
    refine za8 h (fun y6 hg5 h => ?_) rfl
    refine o_w (za4 rfl rfl rfl (congrArg (fun b => Value.bool (!(b))) hb3)) rfl (q_ix Try.underlying28 Z25 rfl rfl hq4 (gt_zp hg5)) ?_
    refine zat (p := y6.length ≤ hC H1_0 (0 : Int)) (fun w h => (K_in (R1_0.now Z h) hg5).1) (fun hc7 => ?_)
    refine o_w (za4 rfl rfl rfl (congrArg (fun b => Value.bool (!(b))) hb3)) rfl (q_lde (off := 0) Y25 rfl rfl (fun w h => R1_0.now Z h) (gt_zp hg5) (fun _ _ h => h.1) rfl) ?_
    refine o_w (za4 rfl rfl rfl (congrArg (fun b => Value.bool (!(b))) hb3)) rfl (q_len Try.underlying25 rfl) ?_
    refine o_w (za4 rfl rfl rfl (congrArg (fun b => Value.bool (!(b))) hb3)) rfl (q_neq rfl rfl) ?_
    refine o_q rfl rfl (zar false (congrArg (fun b => Value.bool (!(b))) hb3) rfl) ?_
    refine o_q rfl rfl (q_asg rfl) ?_
    refine o_end ?_
    refine za1 ?_
    refine c_ret ?_
    have e0_ := Option.some.inj h; clear h
    subst e0_
    exact x_r1 () Try.results50 (zaa rfl) rfl (fun w h => za7 [] (by decide) rfl w h)
  · replace h := bb_f hb3 h
    refine @o_n _ _ _ _ _ _ _ _ _ _ _ 8 (za3 rfl rfl rfl (congrArg (fun b => Value.bool (!(b))) hb3) rfl) (Eq.refl (some 8)) ?_
    refine @o_n _ _ _ _ _ _ _ _ _ _ _ 9 (za3 rfl rfl rfl (congrArg (fun b => Value.bool (!(b))) hb3) rfl) (Eq.refl (some 9)) ?_
    refine @o_n _ _ _ _ _ _ _ _ _ _ _ 10 (za3 rfl rfl rfl (congrArg (fun b => Value.bool (!(b))) hb3) rfl) (Eq.refl (some 10)) ?_
    refine @o_n _ _ _ _ _ _ _ _ _ _ _ 11 (za3 rfl rfl rfl (congrArg (fun b => Value.bool (!(b))) hb3) rfl) (Eq.refl (some 11)) ?_
    refine @o_n _ _ _ _ _ _ _ _ _ _ _ 12 (za3 rfl rfl rfl (congrArg (fun b => Value.bool (!(b))) hb3) rfl) (Eq.refl (some 12)) ?_
    refine @o_n _ _ _ _ _ _ _ _ _ _ _ 13 (za3 rfl rfl rfl (congrArg (fun b => Value.bool (!(b))) hb3) rfl) (Eq.refl (some 13)) ?_
    refine @o_n _ _ _ _ _ _ _ _ _ _ _ 14 (za3 rfl rfl rfl (congrArg (fun b => Value.bool (!(b))) hb3) rfl) (Eq.refl (some 14)) ?_
    refine o_q rfl rfl (zar true (congrArg (fun b => Value.bool (!(b))) hb3) rfl) ?_
    refine o_q rfl rfl (q_asg rfl) ?_
    refine o_end ?_
    refine za1 ?_
    refine c_ret ?_
    have e0_ := Option.some.inj h; clear h
    subst e0_
    exact x_r1 () Try.results50 (zaa rfl) rfl (fun w h => za7 [] (by decide) rfl w h)

/-! ### slices.IndexFunc[[][]int,[]int]: function 65 -/
def slices_IndexFunc_int_int_3.l0 (l1_c0_0 : List (List Int)) : (List (List Int)) → Int → Option ((Int) ⊕ (Unit))
  | [], i1 => some (.inr ())
  | y2 :: ys3, i1 => (impl_alike_1.f y2 l1_c0_0).bind fun b15 => if b15 = true then (some (.inl i1)) else (slices_IndexFunc_int_int_3.l0 l1_c0_0 ys3 (i1 + 1))
def slices_IndexFunc_int_int_3.f (l0 : List (List Int)) (l1_c0_0 : List (List Int)) : Option Int := (slices_IndexFunc_int_int_3.l0 l1_c0_0 l0 0).bind fun o_ => match o_ with | .inl r_ => some r_ | .inr _ => some (-1)
set_option maxHeartbeats 600000 in
set_option maxRecDepth 100000 in
theorem slices_IndexFunc_int_int_3.calls {w0 ws : World} {P0 : Nat → Prop} (A0 : Option Addr) (c0 : Nat) (n0 : Nat) (H0 : Hd) (l0 : List (List Int)) (g1_c0 : Nat) (A1_c0_0 : Option Addr) (c1_c0_0 : Nat) (n1_c0_0 : Nat) (H1_c0_0 : Hd) (l1_c0_0 : List (List Int)) (Z : Below w0.heap.size w0 ws) (hF : Fr w0 ws P0 [] ws) (R0 : Stable ws P0 (fun w => Kd.C (gk 3 (Kd.int .i64)) w A0 n0 (zp H0 l0))) (hc0 : n0 ≤ c0) (R1_c0_0 : Stable ws P0 (fun w => Kd.C (gk 3 (Kd.int .i64)) w A1_c0_0 n1_c0_0 (zp H1_c0_0 l1_c0_0))) (hc1_c0_0 : n1_c0_0 ≤ c1_c0_0) (B1_c0 : Stable ws P0 (fun w => w.heap[g1_c0]? = some (.cells #[.slice A1_c0_0 n1_c0_0 c1_c0_0] 28 (0, 0)))) (r_1 : Int) (h : slices_IndexFunc_int_int_3.f l0 l1_c0_0 = some r_1) :
    Calls Try.prog 65 #[.slice A0 n0 c0, .func (.func 50) #[] #[.pointer (some ⟨g1_c0, 0, none⟩)]] ws (Post1 w0 ws P0 (fun (_ : Unit) => .int .i64 r_1) (fun (_ : Unit) => [])) := by
  unfold slices_IndexFunc_int_int_3.f at h
  obtain rfl := (zp_len _ _).symm.trans (R0 ws (KeptB.refl _ _)).1
  obtain rfl := (zp_len _ _).symm.trans (R1_c0_0 ws (KeptB.refl _ _)).1
  refine enter Try.func65 rfl Try.ntmps65 rfl hF ?_
  refine c_seq ?_
  refine za0 ?_
  refine o_q rfl rfl (q_asg rfl) ?_
  refine o_end ?_
  refine za1 ?_
  refine c_seq ?_
  refine c_seq ?_
  refine za0 ?_
  refine o_q rfl rfl (za2 rfl) ?_
  refine o_q rfl rfl (q_len Try.underlying28 rfl) ?_
  refine o_q rfl rfl (za2 rfl) ?_
  refine o_end ?_
  refine za1 ?_
  refine zaf ?_
  refine za8 h (fun o9 hl8 hR7 => ?_) rfl
  clear h
  refine c_fact (p := l0.length ≤ 9223372036854775807) (fun w h => (R0.now Z h).2.1) (fun hm6 => ?_)
  refine zav (σ := (List (List Int)) × Int) (fun k4 ((ys3, i1) : (List (List Int)) × Int) => Rg l0 i1 ys3 ∧ ys3.length = k4 ∧ slices_IndexFunc_int_int_3.l0 l1_c0_0 ys3 i1 = some o9) [4, 5, 8, 9, 10, 11, 12, 13, 14, 15, 16, 17, 18] (fun ((ys3, i1) : (List (List Int)) × Int) => [(8, .int .i64 i1)]) (fun ((ys3, i1) : (List (List Int)) × Int) => []) l0.length (l0, 0) ⟨Rg.start _, rfl, hl8⟩ ⟨rfl, trivial⟩ (fun w h => h) ?_
  refine fun k4 => cur2 (listC (fun i1 U10 hJ_ => ?_) (fun y2 ys3 i1 U10 hJ_ => ?_))
  · skip
    clear hl8
    have hr5 := hJ_.1; have hk11 := hJ_.2.1; have h := hJ_.2.2; clear hJ_
    replace h : slices_IndexFunc_int_int_3.l0 l1_c0_0 [] i1 = some o9 := h
    rw [slices_IndexFunc_int_int_3.l0] at h
    refine c_seq ?_
    refine za0 ?_
    refine o_q rfl rfl (q_lss rfl rfl) ?_
    refine o_end ?_
    refine za1 ?_
    refine c_seq ?_
    refine c_false (congrArg Value.bool hr5.ge) ?_
    refine c_exit ?_
    refine za6 ?_
    refine za6 ?_
    have e_ := Option.some.inj h; replace h := hR7; rw [← e_] at h; clear e_
    refine x_hit ?_
    refine za1 ?_
    refine c_seq ?_
    refine za0 ?_
    refine o_q rfl rfl (q_asg rfl) ?_
    refine o_end ?_
    refine za1 ?_
    refine c_ret ?_
    have e0_ := Option.some.inj h; clear h
    subst e0_
    exact x_r1 () Try.results65 (zaa rfl) rfl (fun w h => za7 [] (by decide) rfl w h)
  · skip
    clear hl8
    have hr5 := hJ_.1; have hk11 := hJ_.2.1; have h := hJ_.2.2; clear hJ_
    replace h : slices_IndexFunc_int_int_3.l0 l1_c0_0 (y2 :: ys3) i1 = some o9 := h
    rw [slices_IndexFunc_int_int_3.l0] at h
    refine c_seq ?_
    refine za0 ?_
    refine o_q rfl rfl (q_lss rfl rfl) ?_
    refine o_end ?_
    refine za1 ?_
    refine c_seq ?_
    refine zaw (congrArg Value.bool hr5.lt) ?_
    refine zak ?_
    refine za1 ?_
    refine c_seq ?_
    refine zaf ?_
    refine c_seq ?_
    refine za0 ?_
    refine o_q rfl rfl (za2 rfl) ?_
    refine o_q rfl rfl (q_asg rfl) ?_
    refine o_end ?_
    refine za1 ?_
    refine c_seq ?_
    refine za0 ?_
    refine o_q rfl rfl (za2 rfl) ?_
    refine o_q rfl rfl (za2 rfl) ?_
    refine o_q rfl rfl (za2 rfl) ?_
    refine zat (p := Sh A0 l0.length (zp H0 l0).length) (fun w h => f_sh (dk := (gk 3 (Kd.int .i64))) h (fun w h => R0.now Z h)) (fun hq12 => ?_)
    refine o_q rfl rfl (q_ix Try.underlying28 Z25 rfl rfl hq12 (gt_zp hr5.get)) ?_
    refine zat (p := y2.length ≤ hC H0 i1) (fun w h => (K_in (R0.now Z h) hr5.get).1) (fun hc13 => ?_)
    refine o_q rfl rfl (q_lde (off := 0) Y25 rfl rfl (fun w h => R0.now Z h) (gt_zp hr5.get) (fun _ _ h => h.1) rfl) ?_
    refine za8 h (fun b15 hx14 h => ?_) rfl
    refine o_e rfl (za9 0 Z Try.func50 N50 rfl rfl rfl (fun w P1 hF hB hS hT => impl_alike_1.calls (hA H0 i1) (hC H0 i1) y2.length y2 g1_c0 A1_c0_0 c1_c0_0 l1_c0_0.length H1_c0_0 l1_c0_0 hB hF (stab_in (hS _ R0) hr5.get) hc13 (hS _ R1_c0_0) hc1_c0_0 (hS _ B1_c0) _ hx14)) (fun _ => ?_)
    refine o_end ?_
    refine za1 ?_
    refine zaq _ rfl (fun hb16 => ?_) (fun hb16 => ?_)
    · skip
      replace h := bb_t hb16 h
      refine c_seq ?_
      refine za0 ?_
      refine o_q rfl rfl (za2 rfl) ?_
      refine o_q rfl rfl (q_asg rfl) ?_
      refine o_end ?_
      refine za1 ?_
      refine c_ret ?_
      refine zab ?_
      refine za5 ?_
      refine za5 ?_
      have e_ := Option.some.inj h; replace h := hR7; rw [← e_] at h; clear e_
      refine zab ?_
      refine za5 ?_
      have e0_ := Option.some.inj h; clear h
      subst e0_
      exact x_r1 () Try.results65 (zaa rfl) rfl (fun w h => za7 [] (by decide) rfl w h)
    · skip
      replace h := bb_f hb16 h
      refine zak ?_
      refine zam ?_
      refine za1 ?_
      refine za0 ?_
      refine o_q rfl rfl (q_up rfl rfl (hr5.up hm6)) ?_
      refine o_q rfl rfl (za2 rfl) ?_
      refine o_end ?_
      refine zal ys3.length (ys3, i1 + 1) (by rw [← hk11]; exact Nat.lt_succ_self _) ⟨hr5.step, rfl, h⟩ ⟨rfl, trivial⟩ (fun w h => za7 [] (by decide) rfl w h) ?_
      repeat (first | exact zad _ _ | refine zah rfl ?_ | refine zae rfl ?_ | refine zai rfl ?_)

end Go.Proofs.Ytobaolbilllfgaa.RP
