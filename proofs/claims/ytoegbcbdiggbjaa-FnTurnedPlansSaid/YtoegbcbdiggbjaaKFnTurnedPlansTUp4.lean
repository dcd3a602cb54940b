import Derived.Test.YtoegbcbdiggbjaaKFnTurnedPlansTUp3
namespace Go.Proofs.Ytoegbcbdiggbjaa.TU
open Go.RowKit Go.Proofs.Ytoegbcbdiggbjaa.Frame Go.Proofs.YtoegbcbdiggbjaaW.PrintLast Go.Proofs.Ytoegbcbdiggbjaa.Hand
open Go.Proofs.YtoegbcbdiggbjaaW.PrintWords hiding mn mx
set_option linter.unusedVariables false
/-! ### loop.example/g01098/spec.meTimes: function 153 -/
def spec_meTimes.f (a0_0 : Int) (l0_1 : List SStep) (l0_2 : List Int) (a1 : Int) (a2 : Int) : Option (List SStep) := ((ap ([] : List SStep) l0_1).bind fun l1216 => (spec_plStep.f a1 a2).bind fun z1397 => (ap l1216 ([z1397] : List SStep)).bind fun l1516 => some l1516).bind fun l907 => some l907
set_option maxHeartbeats 600000 in
set_option maxRecDepth 100000 in
theorem spec_meTimes.calls {w0 ws : World} {P0 : Nat → Prop} (a0_0 : Int) (A0_1 : Option Addr) (c0_1 : Nat) (n0_1 : Nat) (l0_1 : List SStep) (A0_2 : Option Addr) (c0_2 : Nat) (n0_2 : Nat) (l0_2 : List Int) (a1 : Int) (a2 : Int) (Z : Below w0.heap.size w0 ws) (hF : Fr w0 ws P0 [] ws) (R0_1 : Stable ws P0 (fun w => Kd.C kStep w A0_1 n0_1 l0_1)) (hc0_1 : n0_1 ≤ c0_1) (R0_2 : Stable ws P0 (fun w => Kd.C (Kd.int .i64) w A0_2 n0_2 l0_2)) (hc0_2 : n0_2 ≤ c0_2) (r_1 : List SStep) (h : spec_meTimes.f a0_0 l0_1 l0_2 a1 a2 = some r_1) :
    Calls Try.prog 153 #[.agg #[.int .i64 a0_0, .slice A0_1 n0_1 c0_1, .slice A0_2 n0_2 c0_2], .int .i64 a1, .int .i64 a2] ws (Post1 w0 ws P0 (fun ((q_2, q_3) : (Option Addr) × Nat) => .tuple #[.agg #[.int .i64 a0_0, .slice q_2 r_1.length q_3, .slice none 0 0], .int .i64 (w64 (a0_0 + (l0_1.length : Int)))]) (fun ((q_2, q_3) : (Option Addr) × Nat) => [row kStep 89 (.slice q_2 r_1.length q_3) r_1, row (Kd.int .i64) 3 (.slice none 0 0) []])) := by
  unfold spec_meTimes.f at h
  obtain rfl := (R0_1 ws (KeptB.refl _ _)).1
  obtain rfl := (R0_2 ws (KeptB.refl _ _)).1
  refine enter Try.func153 rfl Try.ntmps153 rfl hF ?_
  refine c_seq ?_
  refine za0 ?_
  refine o_e rfl (e_box rfl) (fun g1 => ?_)
  refine o_e rfl (zaz V27 rfl) (fun g3 => ?_)
  refine o_q rfl rfl (q_asg rfl) ?_
  refine o_end ?_
  refine za1 ?_
  refine za7 h (fun o910 hl911 hR912 => ?_) rfl
  clear h
  refine c_cutJ (σ := (List SStep) × Nat × (Option Addr) × Nat) (fun (l907, g906, A908, c909) => some l907 = some o910) [8, 9, 10, 11, 12, 13, 14, 15, 16, 17, 18, 19, 20] (fun (l907, g906, A908, c909) => [(8, .pointer (some ⟨g906, 0, none⟩))]) (fun (l907, g906, A908, c909) => [box g1 27 #[.int .i64 a0_0, .slice A0_1 l0_1.length c0_1, .slice A0_2 l0_2.length c0_2], box g3 27 #[.int .i64 0, .slice none 0 0, .slice none 0 0], box g906 27 #[.int .i64 a0_0, .slice A908 l907.length c909, .slice none 0 0], row kStep 89 (.slice A908 l907.length c909) l907]) ?_ ?_
  · skip
    have h := hl911; clear hl911
    clear hR912
    refine za7 h (fun l1216 ha1217 h => ?_) rfl
    refine za7 h (fun z1397 hx1396 h => ?_) rfl
    refine za7 h (fun l1516 ha1517 h => ?_) rfl
    refine a_start (ds := []) MO rfl ?_
    refine za8 0 rfl rfl rfl (by kernel_rfl) (fun _ _ _ h => h) (q_f F27_0 rfl) ?_
    refine a_take 1 rfl rfl rfl (by kernel_rfl) (fun _ _ _ h => h) (fun w h => h) (q_ldb Y3 rfl (fun w h => h.zaa (i := 1) rfl) rfl) ?_
    refine za8 3 rfl rfl rfl (by kernel_rfl) (fun _ _ _ h => h) (q_f F27_1 rfl) ?_
    refine a_take 4 rfl rfl rfl (by kernel_rfl) (fun _ _ _ h => h) (fun w h => h) (q_ldb Y24 rfl (fun w h => h.zaa (i := 1) rfl) rfl) ?_
    refine za8 6 rfl rfl rfl (by kernel_rfl) (fun _ _ _ h => h) (za2 rfl) ?_
    refine za8 7 rfl rfl rfl (by kernel_rfl) (fun _ _ _ h => h) (za2 rfl) ?_
    refine a_two 2 12 rfl rfl rfl rfl (by kernel_rfl) rfl rfl (e_lit0 kStep Try.underlying24 I89) (fun s w h => zab [some 1, some 2] (by decide) w h rfl) (zaz V27 rfl) (fun s w h => zab [some 1, some 2] (by decide) w h rfl) (cur2 (fun A1036 c1037 => ?_)) (fun g1636 => ?_)
    · skip
      refine a_two 5 12 rfl rfl rfl rfl (by kernel_rfl) rfl rfl (e_appr (i := 0) Try.underlying24 I89 rfl (by decide) (by decide) (fun _ _ _ _ h => h) rfl (fun w h => R0_1.now Z h) rfl rfl ha1217) (fun s w h => zab [some 1, some 2] (by decide) w h rfl) (zaz V27 rfl) (fun s w h => zab [some 2, some 3] (by decide) w h rfl) (cur2 (fun A1218 c1219 => ?_)) (fun g1636 => ?_)
      · skip
        refine a_two 8 12 rfl rfl rfl rfl (by kernel_rfl) rfl rfl (zac 0 Z Try.func97 N97 rfl rfl rfl (fun w P1 hF hB hS hT => spec_plStep.calls a1 a2 hB hF _ hx1396)) (fun s w h => zab [some 1, some 2] (by decide) w h rfl) (zaz V27 rfl) (fun s w h => zab [some 2, some 3] (by decide) w h rfl) (fun _ => ?_) (fun g1636 => ?_)
        · skip
          refine a_two 9 12 rfl rfl rfl rfl (by kernel_rfl) rfl rfl (e_lit (vs := [(0, .agg #[.int .i64 z1397.f0, .int .i64 z1397.f1])]) (cs := [.int .i64 z1397.f0, .int .i64 z1397.f1]) kStep ([z1397] : List SStep) Try.underlying24 I89 (by decide) rfl (by decide) rfl rfl (fun _ _ => reps_flat _)) (fun s w h => zab [some 2, some 3] (by decide) w h rfl) (zaz V27 rfl) (fun s w h => zab [some 2, some 3] (by decide) w h rfl) (cur2 (fun A1456 c1457 => ?_)) (fun g1636 => ?_)
          · skip
            refine a_two 10 12 rfl rfl rfl rfl (by kernel_rfl) rfl rfl (e_app (i := 1) (j := 0) Try.underlying24 I89 rfl (by decide) (by decide) rfl rfl rfl rfl rfl ha1517) (fun s w h => zab [some 2, some 3] (by decide) w h rfl) (zaz V27 rfl) (fun s w h => zab [some 3, some 4] (by decide) w h rfl) (cur2 (fun A1518 c1519 => ?_)) (fun g1636 => ?_)
            · skip
              refine za8 11 rfl rfl rfl (by kernel_rfl) (fun _ _ _ h => h) (q_build (vs := [(0, .int .i64 a0_0), (1, .slice A1518 l1516.length c1519)]) (cs := [.int .i64 a0_0, .slice A1518 l1516.length c1519, .slice none 0 0]) rfl rfl) ?_
              refine a_one 12 rfl rfl (by kernel_rfl) rfl (zaz V27 rfl) (fun s w h => zab [some 3, some 4] (by decide) w h rfl) (fun g1636 => ?_)
              refine a_one 13 rfl rfl (by kernel_rfl) rfl (zaq (i := 0) rfl rfl rfl Z27 rfl rfl) (fun s w h => zab [some 3, some 4] (by decide) w h rfl) (fun _ => ?_)
              refine zb0 (by kernel_rfl) ?_
              refine zay (l1516, g1636, A1518, c1519) h ⟨rfl, trivial⟩ (fun w h => za5 [4, 3, 0, 2] (by decide) rfl w h) ?_
              repeat (first | exact zad _ _ | refine zah rfl ?_ | refine zae rfl ?_ | refine zai rfl ?_)
            · skip
              refine a_one 10 rfl rfl (by kernel_rfl) rfl (e_app (i := 2) (j := 1) Try.underlying24 I89 rfl (by decide) (by decide) rfl rfl rfl rfl rfl ha1517) (fun s w h => zab [some 3, some 4] (by decide) w h rfl) (cur2 (fun A1518 c1519 => ?_))
              refine za8 11 rfl rfl rfl (by kernel_rfl) (fun _ _ _ h => h) (q_build (vs := [(0, .int .i64 a0_0), (1, .slice A1518 l1516.length c1519)]) (cs := [.int .i64 a0_0, .slice A1518 l1516.length c1519, .slice none 0 0]) rfl rfl) ?_
              refine a_one 13 rfl rfl (by kernel_rfl) rfl (zaq (i := 0) rfl rfl rfl Z27 rfl rfl) (fun s w h => zab [some 3, some 4] (by decide) w h rfl) (fun _ => ?_)
              refine zb0 (by kernel_rfl) ?_
              refine zay (l1516, g1636, A1518, c1519) h ⟨rfl, trivial⟩ (fun w h => za5 [4, 3, 0, 2] (by decide) rfl w h) ?_
              repeat (first | exact zad _ _ | refine zah rfl ?_ | refine zae rfl ?_ | refine zai rfl ?_)
          · skip
            refine a_one 9 rfl rfl (by kernel_rfl) rfl (e_lit (vs := [(0, .agg #[.int .i64 z1397.f0, .int .i64 z1397.f1])]) (cs := [.int .i64 z1397.f0, .int .i64 z1397.f1]) kStep ([z1397] : List SStep) Try.underlying24 I89 (by decide) rfl (by decide) rfl rfl (fun _ _ => reps_flat _)) (fun s w h => zab [some 3, some 4] (by decide) w h rfl) (cur2 (fun A1456 c1457 => ?_))
            refine a_one 10 rfl rfl (by kernel_rfl) rfl (e_app (i := 2) (j := 0) Try.underlying24 I89 rfl (by decide) (by decide) rfl rfl rfl rfl rfl ha1517) (fun s w h => zab [some 3, some 4] (by decide) w h rfl) (cur2 (fun A1518 c1519 => ?_))
            refine za8 11 rfl rfl rfl (by kernel_rfl) (fun _ _ _ h => h) (q_build (vs := [(0, .int .i64 a0_0), (1, .slice A1518 l1516.length c1519)]) (cs := [.int .i64 a0_0, .slice A1518 l1516.length c1519, .slice none 0 0]) rfl rfl) ?_
            refine a_one 13 rfl rfl (by kernel_rfl) rfl (zaq (i := 1) rfl rfl rfl Z27 rfl rfl) (fun s w h => zab [some 3, some 4] (by decide) w h rfl) (fun _ => ?_)
            refine zb0 (by kernel_rfl) ?_
            refine zay (l1516, g1636, A1518, c1519) h ⟨rfl, trivial⟩ (fun w h => za5 [4, 3, 1, 2] (by decide) rfl w h) ?_
            repeat (first | exact zad _ _ | refine zah rfl ?_ | refine zae rfl ?_ | refine zai rfl ?_)
        · skip
          refine a_one 8 rfl rfl (by kernel_rfl) rfl (zac 0 Z Try.func97 N97 rfl rfl rfl (fun w P1 hF hB hS hT => spec_plStep.calls a1 a2 hB hF _ hx1396)) (fun s w h => zab [some 2, some 3] (by decide) w h rfl) (fun _ => ?_)
          refine a_one 9 rfl rfl (by kernel_rfl) rfl (e_lit (vs := [(0, .agg #[.int .i64 z1397.f0, .int .i64 z1397.f1])]) (cs := [.int .i64 z1397.f0, .int .i64 z1397.f1]) kStep ([z1397] : List SStep) Try.underlying24 I89 (by decide) rfl (by decide) rfl rfl (fun _ _ => reps_flat _)) (fun s w h => zab [some 3, some 4] (by decide) w h rfl) (cur2 (fun A1456 c1457 => ?_))
          refine a_one 10 rfl rfl (by kernel_rfl) rfl (e_app (i := 2) (j := 0) Try.underlying24 I89 rfl (by decide) (by decide) rfl rfl rfl rfl rfl ha1517) (fun s w h => zab [some 3, some 4] (by decide) w h rfl) (cur2 (fun A1518 c1519 => ?_))
          refine za8 11 rfl rfl rfl (by kernel_rfl) (fun _ _ _ h => h) (q_build (vs := [(0, .int .i64 a0_0), (1, .slice A1518 l1516.length c1519)]) (cs := [.int .i64 a0_0, .slice A1518 l1516.length c1519, .slice none 0 0]) rfl rfl) ?_
          refine a_one 13 rfl rfl (by kernel_rfl) rfl (zaq (i := 1) rfl rfl rfl Z27 rfl rfl) (fun s w h => zab [some 3, some 4] (by decide) w h rfl) (fun _ => ?_)
          refine zb0 (by kernel_rfl) ?_
          refine zay (l1516, g1636, A1518, c1519) h ⟨rfl, trivial⟩ (fun w h => za5 [4, 3, 1, 2] (by decide) rfl w h) ?_
          repeat (first | exact zad _ _ | refine zah rfl ?_ | refine zae rfl ?_ | refine zai rfl ?_)
      · skip
        refine a_one 5 rfl rfl (by kernel_rfl) rfl (e_appr (i := 1) Try.underlying24 I89 rfl (by decide) (by decide) (fun _ _ _ _ h => h) rfl (fun w h => R0_1.now Z h) rfl rfl ha1217) (fun s w h => zab [some 2, some 3] (by decide) w h rfl) (cur2 (fun A1218 c1219 => ?_))
        refine a_one 8 rfl rfl (by kernel_rfl) rfl (zac 0 Z Try.func97 N97 rfl rfl rfl (fun w P1 hF hB hS hT => spec_plStep.calls a1 a2 hB hF _ hx1396)) (fun s w h => zab [some 2, some 3] (by decide) w h rfl) (fun _ => ?_)
        refine a_one 9 rfl rfl (by kernel_rfl) rfl (e_lit (vs := [(0, .agg #[.int .i64 z1397.f0, .int .i64 z1397.f1])]) (cs := [.int .i64 z1397.f0, .int .i64 z1397.f1]) kStep ([z1397] : List SStep) Try.underlying24 I89 (by decide) rfl (by decide) rfl rfl (fun _ _ => reps_flat _)) (fun s w h => zab [some 3, some 4] (by decide) w h rfl) (cur2 (fun A1456 c1457 => ?_))
        refine a_one 10 rfl rfl (by kernel_rfl) rfl (e_app (i := 2) (j := 0) Try.underlying24 I89 rfl (by decide) (by decide) rfl rfl rfl rfl rfl ha1517) (fun s w h => zab [some 3, some 4] (by decide) w h rfl) (cur2 (fun A1518 c1519 => ?_))
        refine za8 11 rfl rfl rfl (by kernel_rfl) (fun _ _ _ h => h) (q_build (vs := [(0, .int .i64 a0_0), (1, .slice A1518 l1516.length c1519)]) (cs := [.int .i64 a0_0, .slice A1518 l1516.length c1519, .slice none 0 0]) rfl rfl) ?_
        refine a_one 13 rfl rfl (by kernel_rfl) rfl (zaq (i := 1) rfl rfl rfl Z27 rfl rfl) (fun s w h => zab [some 3, some 4] (by decide) w h rfl) (fun _ => ?_)
        refine zb0 (by kernel_rfl) ?_
        refine zay (l1516, g1636, A1518, c1519) h ⟨rfl, trivial⟩ (fun w h => za5 [4, 3, 1, 2] (by decide) rfl w h) ?_
        repeat (first | exact zad _ _ | refine zah rfl ?_ | refine zae rfl ?_ | refine zai rfl ?_)
    · skip
      refine a_one 2 rfl rfl (by kernel_rfl) rfl (e_lit0 kStep Try.underlying24 I89) (fun s w h => zab [some 2, some 3] (by decide) w h rfl) (cur2 (fun A1036 c1037 => ?_))
      refine a_one 5 rfl rfl (by kernel_rfl) rfl (e_appr (i := 0) Try.underlying24 I89 rfl (by decide) (by decide) (fun _ _ _ _ h => h) rfl (fun w h => R0_1.now Z h) rfl rfl ha1217) (fun s w h => zab [some 2, some 3] (by decide) w h rfl) (cur2 (fun A1218 c1219 => ?_))
      refine a_one 8 rfl rfl (by kernel_rfl) rfl (zac 0 Z Try.func97 N97 rfl rfl rfl (fun w P1 hF hB hS hT => spec_plStep.calls a1 a2 hB hF _ hx1396)) (fun s w h => zab [some 2, some 3] (by decide) w h rfl) (fun _ => ?_)
      refine a_one 9 rfl rfl (by kernel_rfl) rfl (e_lit (vs := [(0, .agg #[.int .i64 z1397.f0, .int .i64 z1397.f1])]) (cs := [.int .i64 z1397.f0, .int .i64 z1397.f1]) kStep ([z1397] : List SStep) Try.underlying24 I89 (by decide) rfl (by decide) rfl rfl (fun _ _ => reps_flat _)) (fun s w h => zab [some 3, some 4] (by decide) w h rfl) (cur2 (fun A1456 c1457 => ?_))
      refine a_one 10 rfl rfl (by kernel_rfl) rfl (e_app (i := 1) (j := 0) Try.underlying24 I89 rfl (by decide) (by decide) rfl rfl rfl rfl rfl ha1517) (fun s w h => zab [some 3, some 4] (by decide) w h rfl) (cur2 (fun A1518 c1519 => ?_))
      refine za8 11 rfl rfl rfl (by kernel_rfl) (fun _ _ _ h => h) (q_build (vs := [(0, .int .i64 a0_0), (1, .slice A1518 l1516.length c1519)]) (cs := [.int .i64 a0_0, .slice A1518 l1516.length c1519, .slice none 0 0]) rfl rfl) ?_
      refine a_one 13 rfl rfl (by kernel_rfl) rfl (zaq (i := 2) rfl rfl rfl Z27 rfl rfl) (fun s w h => zab [some 3, some 4] (by decide) w h rfl) (fun _ => ?_)
      refine zb0 (by kernel_rfl) ?_
      refine zay (l1516, g1636, A1518, c1519) h ⟨rfl, trivial⟩ (fun w h => za5 [4, 3, 2, 1] (by decide) rfl w h) ?_
      repeat (first | exact zad _ _ | refine zah rfl ?_ | refine zae rfl ?_ | refine zai rfl ?_)
  · skip
    refine (cur4 (fun l907 g906 A908 c909 => fun U913 hJ914 => ?_))
    have e_ := Option.some.inj hJ914; have h := hR912; rw [← e_] at h; clear e_ hJ914 hR912 hl911
    refine c_seq ?_
    refine a_startS (ds := []) [some 0, none, some 2, some 3] MO rfl ?_
    refine a_take 0 rfl rfl rfl (by kernel_rfl) (fun _ _ _ h => h) (fun w h => zab [some 0, none, some 2, some 3] (by decide) w h rfl) (q_ldB G27 Z27 rfl (fun w h => h.zaa (i := 2) rfl) rfl) ?_
    refine za8 1 rfl rfl rfl (by kernel_rfl) (fun _ _ _ h => h) (q_f F27_0 rfl) ?_
    refine a_take 2 rfl rfl rfl (by kernel_rfl) (fun _ _ _ h => h) (fun w h => zab [some 0, none, some 2, some 3] (by decide) w h rfl) (q_ldb Y3 rfl (fun w h => h.zaa (i := 0) rfl) rfl) ?_
    refine za8 3 rfl rfl rfl (by kernel_rfl) (fun _ _ _ h => h) (q_f F27_1 rfl) ?_
    refine a_take 4 rfl rfl rfl (by kernel_rfl) (fun _ _ _ h => h) (fun w h => zab [some 0, none, some 2, some 3] (by decide) w h rfl) (q_ldb Y24 rfl (fun w h => h.zaa (i := 0) rfl) rfl) ?_
    refine za8 5 rfl rfl rfl (by kernel_rfl) (fun _ _ _ h => h) (q_len Try.underlying24 rfl) ?_
    refine za8 6 rfl rfl rfl (by kernel_rfl) (fun _ _ _ h => h) (q_add64 rfl rfl) ?_
    refine a_one 7 rfl rfl (by kernel_rfl) rfl (zaq (i := 1) rfl rfl rfl Z27 rfl rfl) (fun s w h => zab [some 0, none, some 2, some 3] (by decide) w h rfl) (fun _ => ?_)
    refine za8 8 rfl rfl rfl (by kernel_rfl) (fun _ _ _ h => h) (q_asg rfl) ?_
    refine zb0 (by kernel_rfl) ?_
    refine za1 ?_
    refine c_ret ?_
    refine x_nil (Kd.int .i64) 3 ?_
    have e0_ := Option.some.inj h; clear h
    subst e0_
    exact x_r2 (A908, c909) Try.results153 (rv_cell rfl G27 Z27 (fun w h => h.zaa (i := 2) rfl) rfl) (zaf rfl) rfl (fun w h => za5 [4, 0] (by decide) rfl w h)

/-! ### loop.example/g01098/spec.duTurn: function 158 -/
def spec_duTurn.l1 (l0_2 : List Int) : (List Int) → (List SStep) → (List Int) → Int → Int → Option ((List SStep) × (List Int) × Int)
  | [], l43, l46, i49, i50 => some (l43, l46, i50)
  | y51 :: ys52, l43, l46, i49, i50 => (spec_meTimes.f (l0_2.length : Int) l43 l46 i50 y51).bind fun l68 => spec_duTurn.l1 l0_2 ys52 l68 [] (i49 + 1) (w64 ((l0_2.length : Int) + (l43.length : Int)))
def spec_duTurn.l0 (a0_0 : Int) (l0_1 : List SStep) (l0_2 : List Int) : Nat → (List Int) → (List SStep) → (List Int) → Int → Option ((List Int) × (List SStep) × (List Int))
  | 0, _, _, _, _ => none
  | k24 + 1, l14, l15, l18, i21 => if 0 ≤ i21 then ((spec_duFactors.f a0_0 l0_1 l0_2 i21 l14).bind fun l34 => (gt l34 0).bind fun y39 => (ct l34 (1 : Int) (l34.length : Int)).bind fun l40 => (spec_duTurn.l1 l0_2 l40 l15 l18 0 y39).bind fun (l43, l46, i50) => (gt l14 i21).bind fun y63 => (st l14 i21 i50).bind fun l64 => spec_duTurn.l0 a0_0 l0_1 l0_2 k24 l64 l43 l46 (w64 (i21 - 1))) else (some (l14, l15, l18))
def spec_duTurn.f (k : Nat) (a0_0 : Int) (l0_1 : List SStep) (l0_2 : List Int) : Option ((List SStep) × (List Int)) := (mk0 (w64 (a0_0 + (l0_1.length : Int))) (0 : Int)).bind fun l7 => (spec_duTurn.l0 a0_0 l0_1 l0_2 k l7 ([] : List SStep) ([] : List Int) (w64 ((l7.length : Int) - 1))).bind fun (l14, l15, l18) => (ct l14 (0 : Int) a0_0).bind fun l72 => (spec_l1Own.f l72).bind fun l76 => some (l15, l76)
set_option maxHeartbeats 600000 in
set_option maxRecDepth 100000 in
theorem spec_duTurn.calls (k : Nat) {w0 ws : World} {P0 : Nat → Prop} (a0_0 : Int) (A0_1 : Option Addr) (c0_1 : Nat) (n0_1 : Nat) (l0_1 : List SStep) (A0_2 : Option Addr) (c0_2 : Nat) (n0_2 : Nat) (l0_2 : List Int) (Z : Below w0.heap.size w0 ws) (hF : Fr w0 ws P0 [] ws) (R0_1 : Stable ws P0 (fun w => Kd.C kStep w A0_1 n0_1 l0_1)) (hc0_1 : n0_1 ≤ c0_1) (R0_2 : Stable ws P0 (fun w => Kd.C (Kd.int .i64) w A0_2 n0_2 l0_2)) (hc0_2 : n0_2 ≤ c0_2) (r_1 : List SStep) (r_4 : List Int) (h : spec_duTurn.f k a0_0 l0_1 l0_2 = some (r_1, r_4)) :
    Calls Try.prog 158 #[.agg #[.int .i64 a0_0, .slice A0_1 n0_1 c0_1, .slice A0_2 n0_2 c0_2]] ws (Post1 w0 ws P0 (fun ((q_2, q_3, q_5, q_6) : (Option Addr) × Nat × (Option Addr) × Nat) => .agg #[.int .i64 (l0_2.length : Int), .slice q_2 r_1.length q_3, .slice q_5 r_4.length q_6]) (fun ((q_2, q_3, q_5, q_6) : (Option Addr) × Nat × (Option Addr) × Nat) => [row kStep 89 (.slice q_2 r_1.length q_3) r_1, row (Kd.int .i64) 3 (.slice q_5 r_4.length q_6) r_4])) := by
  unfold spec_duTurn.f at h
  obtain rfl := (R0_1 ws (KeptB.refl _ _)).1
  obtain rfl := (R0_2 ws (KeptB.refl _ _)).1
  refine enter Try.func158 rfl Try.ntmps158 rfl hF ?_
  refine c_seq ?_
  refine za0 ?_
  refine o_e rfl (e_box rfl) (fun g1 => ?_)
  refine o_e rfl (zaz V27 rfl) (fun g3 => ?_)
  refine o_end ?_
  refine za1 ?_
  refine c_seq ?_
  refine za0 ?_
  refine o_q rfl rfl (q_f F27_2 rfl) ?_
  refine o_q rfl rfl (q_ldb Y25 rfl (fun w h => h.zaa (i := 1) rfl) rfl) ?_
  refine o_q rfl rfl (q_len Try.underlying25 rfl) ?_
  refine o_q rfl rfl (q_build (vs := [(0, .int .i64 (l0_2.length : Int))]) (cs := [.int .i64 (l0_2.length : Int), .slice none 0 0, .slice none 0 0]) rfl rfl) ?_
  refine o_e rfl (zaz V27 rfl) (fun g5 => ?_)
  refine o_e rfl (zaq (i := 0) rfl rfl rfl Z27 rfl rfl) (fun _ => ?_)
  refine o_end ?_
  refine za1 ?_
  refine c_seq ?_
  refine za0 ?_
  refine o_q rfl rfl (q_f F27_0 rfl) ?_
  refine o_q rfl rfl (q_ldb Y3 rfl (fun w h => h.zaa (i := 2) rfl) rfl) ?_
  refine o_q rfl rfl (q_f F27_1 rfl) ?_
  refine o_q rfl rfl (q_ldb Y24 rfl (fun w h => h.zaa (i := 2) rfl) rfl) ?_
  refine o_q rfl rfl (q_len Try.underlying24 rfl) ?_
  refine o_q rfl rfl (q_add64 rfl rfl) ?_
  refine za7 h (fun l7 hm8 h => ?_) rfl
  refine o_e rfl (e_make (Kd.int .i64) (0 : Int) Try.underlying25 I3 rfl (by decide) (by decide) (fun _ _ => rfl) rfl rfl hm8) (cur2 (fun A9 c10 => ?_))
  refine o_q rfl rfl (q_asg rfl) ?_
  refine o_end ?_
  refine za1 ?_
  refine c_seq ?_
  refine c_seq ?_
  refine za0 ?_
  refine o_q rfl rfl (za2 rfl) ?_
  refine o_q rfl rfl (q_len Try.underlying25 rfl) ?_
  refine o_q rfl rfl (q_sub64 rfl rfl) ?_
  refine o_q rfl rfl (q_asg rfl) ?_
  refine o_end ?_
  refine za1 ?_
  refine zaj ?_
  refine c_nil kStep 89 ?_
  refine c_nil (Kd.int .i64) 3 ?_
  refine za7 h (fun o29 hl28 hR27 => ?_) rfl
  clear h
  refine zav (σ := (List Int) × (List SStep) × (List Int) × Int × (Option Addr) × Nat × (Option Addr) × Nat) (fun k24 ((l14, l15, l18, i21, A16, c17, A19, c20) : (List Int) × (List SStep) × (List Int) × Int × (Option Addr) × Nat × (Option Addr) × Nat) => spec_duTurn.l0 a0_0 l0_1 l0_2 k24 l14 l15 l18 i21 = some o29) [5, 6, 7, 9, 24, 25, 26, 27, 28, 29, 30, 31, 32, 33, 34, 35, 36, 37, 38, 39, 40, 41, 42, 43, 44, 45, 46, 47, 48, 49, 50, 51, 52, 53] (fun ((l14, l15, l18, i21, A16, c17, A19, c20) : (List Int) × (List SStep) × (List Int) × Int × (Option Addr) × Nat × (Option Addr) × Nat) => [(5, .int .i64 i21)]) (fun ((l14, l15, l18, i21, A16, c17, A19, c20) : (List Int) × (List SStep) × (List Int) × Int × (Option Addr) × Nat × (Option Addr) × Nat) => [row (Kd.int .i64) 3 (.slice A19 l18.length c20) l18, row kStep 89 (.slice A16 l15.length c17) l15, row (Kd.int .i64) 3 (.slice A9 l7.length c10) l14, box g5 27 #[.int .i64 (l0_2.length : Int), .slice A16 l15.length c17, .slice A19 l18.length c20], box g3 27 #[.int .i64 0, .slice none 0 0, .slice none 0 0], box g1 27 #[.int .i64 a0_0, .slice A0_1 l0_1.length c0_1, .slice A0_2 l0_2.length c0_2]]) k (l7, ([] : List SStep), ([] : List Int), w64 ((l7.length : Int) - 1), none, 0, none, 0) hl28 ⟨rfl, trivial⟩ (fun w h => h) ?_
  refine natC (cur8 (fun l14 l15 l18 i21 A16 c17 A19 c20 => fun U30 hJ_ => ?_)) (fun k24 => (cur8 (fun l14 l15 l18 i21 A16 c17 A19 c20 => fun U30 hJ_ => ?_)))
  · skip
    replace hJ_ : spec_duTurn.l0 a0_0 l0_1 l0_2 0 l14 l15 l18 i21 = some o29 := hJ_
    rw [spec_duTurn.l0] at hJ_
    exact noneE hJ_
  · skip
    clear hl28
    have h := hJ_; clear hJ_
    replace h : spec_duTurn.l0 a0_0 l0_1 l0_2 (k24 + 1) l14 l15 l18 i21 = some o29 := h
    rw [spec_duTurn.l0] at h
    refine c_seq ?_
    refine c_seq ?_
    refine za0 ?_
    refine o_q rfl rfl (za2 rfl) ?_
    refine o_q rfl rfl (q_geq rfl rfl) ?_
    refine o_end ?_
    refine za1 ?_
    refine zar _ rfl (fun hb32 => ?_) (fun hb32 => ?_)
    · skip
      replace h := br_t hb32 h
      refine zam ?_
      refine za1 ?_
      refine c_seq ?_
      refine zaj ?_
      refine c_seq ?_
      refine za0 ?_
      refine o_q rfl rfl (q_ldB G27 Z27 rfl (fun w h => h.zaa (i := 5) rfl) rfl) ?_
      refine o_q rfl rfl (za2 rfl) ?_
      refine o_q rfl rfl (za2 rfl) ?_
      refine za7 h (fun l34 hx33 h => ?_) rfl
      refine o_e rfl (zac 0 Z Try.func211 N211 rfl rfl rfl (fun w P1 hF hB hS hT => spec_duFactors.calls a0_0 A0_1 c0_1 l0_1.length l0_1 A0_2 c0_2 l0_2.length l0_2 i21 A9 c10 l7.length l14 hB hF (hS _ R0_1) hc0_1 (hS _ R0_2) hc0_2 (hT 2 _ rfl).row (hT 2 _ rfl).cap _ hx33)) (cur2 (fun A35 c36 => ?_))
      refine o_q rfl rfl (q_asg rfl) ?_
      refine o_end ?_
      refine za1 ?_
      refine c_seq ?_
      refine za0 ?_
      refine o_q rfl rfl (za2 rfl) ?_
      refine zas (p := Sh A35 l34.length l34.length) (fun w h => f_sh (dk := (Kd.int .i64)) h (fun w h => h.zaw (i := 0) rfl)) (fun hq37 => ?_)
      refine za7 h (fun y39 hg38 h => ?_) rfl
      refine o_q rfl rfl (q_ix Try.underlying25 Z3 rfl rfl hq37 hg38) ?_
      refine o_q rfl rfl (q_lde (off := 0) Y3 rfl rfl (fun w h => h.zaw (i := 0) rfl) hg38 (fun _ _ h => h) rfl) ?_
      refine o_q rfl rfl (q_asg rfl) ?_
      refine o_end ?_
      refine za1 ?_
      refine c_seq ?_
      refine c_seq ?_
      refine za0 ?_
      refine o_q rfl rfl (za2 rfl) ?_
      refine za7 h (fun l40 hz41 h => ?_) rfl
      refine zas (p := l34.length = l34.length ∧ l34.length ≤ c36) (fun w h => h.row_nc (i := 0) rfl) (fun hk42 => ?_)
      refine o_q rfl rfl (q_ctv Try.underlying25 Z3 rfl ⟨_, rfl⟩ rfl hk42.1 hk42.2 hz41) ?_
      refine o_q rfl rfl (q_len Try.underlying25 rfl) ?_
      refine o_q rfl rfl (za2 rfl) ?_
      refine o_end ?_
      refine za1 ?_
      refine zaj ?_
      refine za7 h (fun o58 hl57 hR56 => ?_) rfl
      clear h
      refine c_fact (p := l40.length ≤ 9223372036854775807) (fun w h => (C_cut (dk := (Kd.int .i64)) rfl hz41 hk42.2 (h.zaw (i := 0) rfl)).2.1) (fun hm55 => ?_)
      refine zav (σ := (List Int) × (List SStep) × (List Int) × Int × Int × (Option Addr) × Nat × (Option Addr) × Nat) (fun k53 ((ys52, l43, l46, i49, i50, A44, c45, A47, c48) : (List Int) × (List SStep) × (List Int) × Int × Int × (Option Addr) × Nat × (Option Addr) × Nat) => Rg l40 i49 ys52 ∧ ys52.length = k53 ∧ spec_duTurn.l1 l0_2 ys52 l43 l46 i49 i50 = some o58) [7, 9, 38, 39, 40, 41, 42, 43, 44, 45, 46, 47, 48, 49] (fun ((ys52, l43, l46, i49, i50, A44, c45, A47, c48) : (List Int) × (List SStep) × (List Int) × Int × Int × (Option Addr) × Nat × (Option Addr) × Nat) => [(7, .int .i64 i50), (38, .int .i64 i49)]) (fun ((ys52, l43, l46, i49, i50, A44, c45, A47, c48) : (List Int) × (List SStep) × (List Int) × Int × Int × (Option Addr) × Nat × (Option Addr) × Nat) => [row (Kd.int .i64) 3 (.slice A35 l34.length c36) l34, row (Kd.int .i64) 3 (.slice A47 l46.length c48) l46, row kStep 89 (.slice A44 l43.length c45) l43, row (Kd.int .i64) 3 (.slice A9 l7.length c10) l14, box g5 27 #[.int .i64 (l0_2.length : Int), .slice A44 l43.length c45, .slice A47 l46.length c48], box g3 27 #[.int .i64 0, .slice none 0 0, .slice none 0 0], box g1 27 #[.int .i64 a0_0, .slice A0_1 l0_1.length c0_1, .slice A0_2 l0_2.length c0_2]]) l40.length (l40, l15, l18, 0, y39, A16, c17, A19, c20) ⟨Rg.start _, rfl, hl57⟩ ⟨rfl, rfl, trivial⟩ (fun w h => h) ?_
      refine fun k53 => cur9 (listC (fun l43 l46 i49 i50 A44 c45 A47 c48 U59 hJ_ => ?_) (fun y51 ys52 l43 l46 i49 i50 A44 c45 A47 c48 U59 hJ_ => ?_))
      · skip
        clear hl57
        have hr54 := hJ_.1; have hk60 := hJ_.2.1; have h := hJ_.2.2; clear hJ_
        replace h : spec_duTurn.l1 l0_2 [] l43 l46 i49 i50 = some o58 := h
        rw [spec_duTurn.l1] at h
        refine c_seq ?_
        refine za0 ?_
        refine o_q rfl rfl (q_lss rfl rfl) ?_
        refine o_end ?_
        refine za1 ?_
        refine c_seq ?_
        refine zb2 (congrArg Value.bool hr54.ge) ?_
        refine c_exit ?_
        refine za6 ?_
        refine za6 ?_
        have e_ := Option.some.inj h; replace h := hR56; rw [← e_] at h; clear e_
        refine x_hit ?_
        refine za1 ?_
        refine za0 ?_
        refine o_q rfl rfl (za2 rfl) ?_
        refine o_q rfl rfl (za2 rfl) ?_
        refine o_q rfl rfl (za2 rfl) ?_
        refine zas (p := Sh A9 l7.length l14.length) (fun w h => f_sh (dk := (Kd.int .i64)) h (fun w h => h.zaw (i := 3) rfl)) (fun hq61 => ?_)
        refine za7 h (fun y63 hg62 h => ?_) rfl
        refine o_q rfl rfl (q_ix Try.underlying25 Z3 rfl rfl hq61 hg62) ?_
        refine za7 h (fun l64 hs65 h => ?_) rfl
        refine o_e rfl (e_set (i := 3) rfl rfl rfl Z3 hs65) (fun _ => ?_)
        refine o_end ?_
        refine zan ?_
        refine za1 ?_
        refine za0 ?_
        refine o_q rfl rfl (za2 rfl) ?_
        refine o_q rfl rfl (q_sub64 rfl rfl) ?_
        refine o_q rfl rfl (q_asg rfl) ?_
        refine o_end ?_
        refine zak k24 (l64, l43, l46, w64 (i21 - 1), A44, c45, A47, c48) (Nat.lt_succ_self _) h ⟨rfl, trivial⟩ (fun w h => za5 [1, 2, 3, 4, 5, 6] (by decide) rfl w h) ?_
        repeat (first | exact zad _ _ | refine zah rfl ?_ | refine zae rfl ?_ | refine zai rfl ?_)
      · skip
        clear hl57
        have hr54 := hJ_.1; have hk60 := hJ_.2.1; have h := hJ_.2.2; clear hJ_
        replace h : spec_duTurn.l1 l0_2 (y51 :: ys52) l43 l46 i49 i50 = some o58 := h
        rw [spec_duTurn.l1] at h
        refine c_seq ?_
        refine za0 ?_
        refine o_q rfl rfl (q_lss rfl rfl) ?_
        refine o_end ?_
        refine za1 ?_
        refine c_seq ?_
        refine zb3 (congrArg Value.bool hr54.lt) ?_
        refine zam ?_
        refine za1 ?_
        refine c_seq ?_
        refine zaj ?_
        refine c_seq ?_
        refine za0 ?_
        refine zas (p := Sh (cutA A35 c36 (1 : Int).toNat 1) l40.length l40.length) (fun w h => f_sh (dk := (Kd.int .i64)) h (fun w h => C_cut (dk := (Kd.int .i64)) rfl hz41 hk42.2 (h.zaw (i := 0) rfl))) (fun hq66 => ?_)
        refine o_q rfl rfl (q_ix Try.underlying25 Z3 rfl rfl hq66 hr54.get) ?_
        refine o_q rfl rfl (q_lde (off := 0) Y3 rfl rfl (fun w h => C_cut (dk := (Kd.int .i64)) rfl hz41 hk42.2 (h.zaw (i := 0) rfl)) hr54.get (fun _ _ h => h) rfl) ?_
        refine o_q rfl rfl (q_asg rfl) ?_
        refine o_end ?_
        refine za1 ?_
        refine za0 ?_
        refine o_q rfl rfl (q_ldB G27 Z27 rfl (fun w h => h.zaa (i := 4) rfl) rfl) ?_
        refine o_q rfl rfl (za2 rfl) ?_
        refine o_q rfl rfl (za2 rfl) ?_
        refine za7 h (fun l68 hx67 h => ?_) rfl
        refine o_e rfl (zac 0 Z Try.func153 N153 rfl rfl rfl (fun w P1 hF hB hS hT => spec_meTimes.calls (l0_2.length : Int) A44 c45 l43.length l43 A47 c48 l46.length l46 i50 y51 hB hF (hT 2 _ rfl).row (hT 2 _ rfl).cap (hT 1 _ rfl).row (hT 1 _ rfl).cap _ hx67)) (cur2 (fun A69 c70 => ?_))
        refine o_q rfl rfl (za2 rfl) ?_
        refine o_q rfl rfl (q_ext rfl rfl) ?_
        refine o_q rfl rfl (q_ext rfl rfl) ?_
        refine o_e rfl (zaq (i := 6) rfl rfl rfl Z27 rfl rfl) (fun _ => ?_)
        refine o_q rfl rfl (q_asg rfl) ?_
        refine o_end ?_
        refine zan ?_
        refine za1 ?_
        refine za0 ?_
        refine o_q rfl rfl (q_up rfl rfl (hr54.up hm55)) ?_
        refine o_q rfl rfl (za2 rfl) ?_
        refine o_end ?_
        refine x_fact (p := 0 = [].length) (fun w h => (h.row_C (i := 1) rfl).2.1) (fun hn71 => ?_)
        refine zak ys52.length (ys52, l68, [], i49 + 1, w64 ((l0_2.length : Int) + (l43.length : Int)), A69, c70, none, 0) (by rw [← hk60]; exact Nat.lt_succ_self _) ⟨hr54.step, rfl, h⟩ ⟨rfl, rfl, trivial⟩ (f_pickE (L1 := [row kStep 89 (.slice A69 l68.length c70) l68, row (Kd.int .i64) 3 (.slice none 0 0) [], row (Kd.int .i64) 3 (.slice A35 l34.length c36) l34, row (Kd.int .i64) 3 (.slice A47 l46.length c48) l46, row kStep 89 (.slice A44 l43.length c45) l43, row (Kd.int .i64) 3 (.slice A9 l7.length c10) l14, box g5 27 #[.int .i64 (l0_2.length : Int), .slice A69 l68.length c70, .slice none 0 0], box g3 27 #[.int .i64 0, .slice none 0 0, .slice none 0 0], box g1 27 #[.int .i64 a0_0, .slice A0_1 l0_1.length c0_1, .slice A0_2 l0_2.length c0_2]]) rfl [2, 1, 0, 5, 6, 7, 8] (by decide) rfl (by (try rw [hn71]); first | done | rfl)) ?_
        repeat (first | exact zad _ _ | refine zah rfl ?_ | refine zae rfl ?_ | refine zai rfl ?_)
    · skip
      replace h := br_f hb32 h
      refine c_exit ?_
      refine za6 ?_
      refine za6 ?_
      have e_ := Option.some.inj h; replace h := hR27; rw [← e_] at h; clear e_
      refine x_hit ?_
      refine za1 ?_
      refine c_seq ?_
      refine za0 ?_
      refine o_q rfl rfl (za2 rfl) ?_
      refine o_q rfl rfl (q_f F27_0 rfl) ?_
      refine o_q rfl rfl (q_ldb Y3 rfl (fun w h => h.zaa (i := 5) rfl) rfl) ?_
      refine za7 h (fun l72 hz73 h => ?_) rfl
      refine zas (p := l7.length = l14.length ∧ l7.length ≤ c10) (fun w h => h.row_nc (i := 2) rfl) (fun hk74 => ?_)
      refine o_q rfl rfl (q_ctv Try.underlying25 Z3 rfl rfl ⟨_, rfl⟩ hk74.1 hk74.2 hz73) ?_
      refine za7 h (fun l76 hx75 h => ?_) rfl
      refine o_e rfl (zac 0 Z Try.func96 N96 rfl rfl rfl (fun w P1 hF hB hS hT => spec_l1Own.calls (cutA A9 c10 (0 : Int).toNat 1) (c10 - (0 : Int).toNat) l72.length l72 hB hF (stab_cut (dk := (Kd.int .i64)) rfl hz73 hk74.2 (hT 2 _ rfl).row) (ct_cap hz73 hk74.1 hk74.2) _ hx75)) (cur2 (fun A77 c78 => ?_))
      refine o_q rfl rfl (q_f F27_2 rfl) ?_
      refine o_e rfl (e_store (i := 4) rfl rfl rfl rfl Z25 rfl rfl) (fun _ => ?_)
      refine o_end ?_
      refine za1 ?_
      refine c_seq ?_
      refine za0 ?_
      refine o_q rfl rfl (q_ldB G27 Z27 rfl (fun w h => h.zaa (i := 4) rfl) rfl) ?_
      refine o_e rfl (zaq (i := 5) rfl rfl rfl Z27 rfl rfl) (fun _ => ?_)
      refine o_end ?_
      refine za1 ?_
      refine c_ret ?_
      have e0_ := Option.some.inj h; clear h
      have d0_ := (Prod.mk.inj e0_).1; have e1_ := (Prod.mk.inj e0_).2; clear e0_; subst d0_
      subst e1_
      exact x_r1 (A16, c17, A77, c78) Try.results158 (rv_cell rfl G27 Z27 (fun w h => h.zaa (i := 5) rfl) rfl) rfl (fun w h => za5 [2, 0] (by decide) rfl w h)

/-! ### loop.example/g01098/spec.plIf: function 106 -/
def spec_plIf.f (k : Nat) (a0_0 : Int) (l0_1 : List SStep) (l0_2 : List Int) : Option (Int × (List SStep) × (List Int) × Bool) := (spec_plGood.f k a0_0 l0_1 l0_2).bind fun b6 => if b6 = true then (some (a0_0, l0_1, l0_2, true)) else (some (0, ([] : List SStep), ([] : List Int), false))
set_option maxHeartbeats 600000 in
set_option maxRecDepth 100000 in
theorem spec_plIf.calls (k : Nat) {w0 ws : World} {P0 : Nat → Prop} (a0_0 : Int) (A0_1 : Option Addr) (c0_1 : Nat) (n0_1 : Nat) (l0_1 : List SStep) (A0_2 : Option Addr) (c0_2 : Nat) (n0_2 : Nat) (l0_2 : List Int) (Z : Below w0.heap.size w0 ws) (hF : Fr w0 ws P0 [row kStep 89 (.slice A0_1 n0_1 c0_1) l0_1, row (Kd.int .i64) 3 (.slice A0_2 n0_2 c0_2) l0_2] ws)  (r_1 : Int) (r_2 : List SStep) (r_5 : List Int) (r_8 : Bool) (h : spec_plIf.f k a0_0 l0_1 l0_2 = some (r_1, r_2, r_5, r_8)) :
    Calls Try.prog 106 #[.agg #[.int .i64 a0_0, .slice A0_1 n0_1 c0_1, .slice A0_2 n0_2 c0_2]] ws (Post1 w0 ws P0 (fun ((q_3, q_4, q_6, q_7) : (Option Addr) × Nat × (Option Addr) × Nat) => .tuple #[.agg #[.int .i64 r_1, .slice q_3 r_2.length q_4, .slice q_6 r_5.length q_7], .bool r_8]) (fun ((q_3, q_4, q_6, q_7) : (Option Addr) × Nat × (Option Addr) × Nat) => [row kStep 89 (.slice q_3 r_2.length q_4) r_2, row (Kd.int .i64) 3 (.slice q_6 r_5.length q_7) r_5])) := by
  unfold spec_plIf.f at h
  obtain rfl := (hF.row_C (i := 0) rfl).2.1
  obtain rfl := (hF.row_C (i := 1) rfl).2.1
  refine enter Try.func106 rfl Try.ntmps106 rfl hF ?_
  refine c_seq ?_
  refine za0 ?_
  refine o_e rfl (e_box rfl) (fun g1 => ?_)
  refine o_e rfl (zaz V27 rfl) (fun g3 => ?_)
  refine o_q rfl rfl (q_asg rfl) ?_
  refine o_end ?_
  refine za1 ?_
  refine c_seq ?_
  refine c_seq ?_
  refine za0 ?_
  refine o_q rfl rfl (q_ldB G27 Z27 rfl (fun w h => h.zaa (i := 1) rfl) rfl) ?_
  refine za7 h (fun b6 hx5 h => ?_) rfl
  refine o_e rfl (zac 0 Z Try.func93 N93 rfl rfl rfl (fun w P1 hF hB hS hT => spec_plGood.calls k a0_0 A0_1 c0_1 l0_1.length l0_1 A0_2 c0_2 l0_2.length l0_2 hB hF (hT 2 _ rfl).row (hT 2 _ rfl).cap (hT 3 _ rfl).row (hT 3 _ rfl).cap _ hx5)) (fun _ => ?_)
  refine o_q rfl rfl (q_not rfl) ?_
  refine o_end ?_
  refine za1 ?_
  refine zar _ rfl (fun hb7 => ?_) (fun hb7 => ?_)
  · replace hb7 := nt_t hb7
    replace h := bb_f hb7 h
    refine c_seq ?_
    refine za0 ?_
    refine o_q rfl rfl (q_build (vs := []) (cs := [.int .i64 0, .slice none 0 0, .slice none 0 0]) rfl rfl) ?_
    refine o_e rfl (zaq (i := 0) rfl rfl rfl Z27 rfl rfl) (fun _ => ?_)
    refine o_q rfl rfl (q_asg rfl) ?_
    refine o_end ?_
    refine za1 ?_
    refine c_ret ?_
    refine za9 ?_
    refine x_nil kStep 89 ?_
    refine x_nil (Kd.int .i64) 3 ?_
    have e0_ := Option.some.inj h; clear h
    have d0_ := (Prod.mk.inj e0_).1; have e1_ := (Prod.mk.inj e0_).2; clear e0_; subst d0_
    have d1_ := (Prod.mk.inj e1_).1; have e2_ := (Prod.mk.inj e1_).2; clear e1_; subst d1_
    have d2_ := (Prod.mk.inj e2_).1; have e3_ := (Prod.mk.inj e2_).2; clear e2_; subst d2_
    subst e3_
    exact x_r2 (none, 0, none, 0) Try.results106 (rv_cell rfl G27 Z27 (fun w h => h.zaa (i := 2) rfl) rfl) (zaf rfl) rfl (fun w h => za5 [1, 0] (by decide) rfl w h)
  · replace hb7 := nt_f hb7
    replace h := bb_t hb7 h
    refine zam ?_
    refine za1 ?_
    refine c_seq ?_
    refine za0 ?_
    refine o_q rfl rfl (q_ldB G27 Z27 rfl (fun w h => h.zaa (i := 1) rfl) rfl) ?_
    refine o_e rfl (zaq (i := 0) rfl rfl rfl Z27 rfl rfl) (fun _ => ?_)
    refine o_q rfl rfl (q_asg rfl) ?_
    refine o_end ?_
    refine za1 ?_
    refine c_ret ?_
    have e0_ := Option.some.inj h; clear h
    have d0_ := (Prod.mk.inj e0_).1; have e1_ := (Prod.mk.inj e0_).2; clear e0_; subst d0_
    have d1_ := (Prod.mk.inj e1_).1; have e2_ := (Prod.mk.inj e1_).2; clear e1_; subst d1_
    have d2_ := (Prod.mk.inj e2_).1; have e3_ := (Prod.mk.inj e2_).2; clear e2_; subst d2_
    subst e3_
    exact x_r2 (A0_1, c0_1, A0_2, c0_2) Try.results106 (rv_cell rfl G27 Z27 (fun w h => h.zaa (i := 0) rfl) rfl) (zaf rfl) rfl (fun w h => za5 [2, 3] (by decide) rfl w h)

/-! ### loop.example/g01098/spec.TurnPlan: function 69 -/
def spec_TurnPlan.f (k : Nat) (a0_0 : Int) (l0_1 : List SStep) (l0_2 : List Int) : Option (Int × (List SStep) × (List Int) × Bool) := ((spec_plGood.f k a0_0 l0_1 l0_2).bind fun b17 => if b17 = true then ((spec_duCan.f a0_0 l0_1 l0_2).bind fun b20 => some (!b20)) else (some true)).bind fun b10 => if b10 = true then (some (0, ([] : List SStep), ([] : List Int), false)) else ((spec_duTurn.f k a0_0 l0_1 l0_2).bind fun (l23, l24) => (spec_plIf.f k (l0_2.length : Int) l23 l24).bind fun (i30, l31, l32, b33) => some (i30, l31, l32, b33))
set_option maxHeartbeats 600000 in
set_option maxRecDepth 100000 in
theorem spec_TurnPlan.calls (k : Nat) {w0 ws : World} {P0 : Nat → Prop} (a0_0 : Int) (A0_1 : Option Addr) (c0_1 : Nat) (n0_1 : Nat) (l0_1 : List SStep) (A0_2 : Option Addr) (c0_2 : Nat) (n0_2 : Nat) (l0_2 : List Int) (Z : Below w0.heap.size w0 ws) (hF : Fr w0 ws P0 [] ws) (R0_1 : Stable ws P0 (fun w => Kd.C kStep w A0_1 n0_1 l0_1)) (hc0_1 : n0_1 ≤ c0_1) (R0_2 : Stable ws P0 (fun w => Kd.C (Kd.int .i64) w A0_2 n0_2 l0_2)) (hc0_2 : n0_2 ≤ c0_2) (r_1 : Int) (r_2 : List SStep) (r_5 : List Int) (r_8 : Bool) (h : spec_TurnPlan.f k a0_0 l0_1 l0_2 = some (r_1, r_2, r_5, r_8)) :
    Calls Try.prog 69 #[.agg #[.int .i64 a0_0, .slice A0_1 n0_1 c0_1, .slice A0_2 n0_2 c0_2]] ws (Post1 w0 ws P0 (fun ((q_3, q_4, q_6, q_7) : (Option Addr) × Nat × (Option Addr) × Nat) => .tuple #[.agg #[.int .i64 r_1, .slice q_3 r_2.length q_4, .slice q_6 r_5.length q_7], .bool r_8]) (fun ((q_3, q_4, q_6, q_7) : (Option Addr) × Nat × (Option Addr) × Nat) => [row kStep 89 (.slice q_3 r_2.length q_4) r_2, row (Kd.int .i64) 3 (.slice q_6 r_5.length q_7) r_5])) := by
  unfold spec_TurnPlan.f at h
  obtain rfl := (R0_1 ws (KeptB.refl _ _)).1
  obtain rfl := (R0_2 ws (KeptB.refl _ _)).1
  refine enter Try.func69 rfl Try.ntmps69 rfl hF ?_
  refine c_seq ?_
  refine za0 ?_
  refine o_e rfl (e_box rfl) (fun g1 => ?_)
  refine o_e rfl (zaz V27 rfl) (fun g3 => ?_)
  refine o_q rfl rfl (q_asg rfl) ?_
  refine o_end ?_
  refine za1 ?_
  refine c_seq ?_
  refine za7 h (fun o11 hl12 hR13 => ?_) rfl
  clear h
  refine c_cutJ (σ := Bool) (fun b10 => some b10 = some o11) [4, 5, 6, 7, 8, 9, 10, 11] (fun b10 => [(11, .bool b10)]) (fun b10 => [box g1 27 #[.int .i64 a0_0, .slice A0_1 l0_1.length c0_1, .slice A0_2 l0_2.length c0_2], box g3 27 #[.int .i64 0, .slice none 0 0, .slice none 0 0]]) ?_ ?_
  · skip
    have h := hl12; clear hl12
    clear hR13
    refine za0 ?_
    refine o_q rfl rfl (q_ldB G27 Z27 rfl (fun w h => h.zaa (i := 1) rfl) rfl) ?_
    refine za7 h (fun b17 hx16 h => ?_) rfl
    refine o_e rfl (zac 0 Z Try.func93 N93 rfl rfl rfl (fun w P1 hF hB hS hT => spec_plGood.calls k a0_0 A0_1 c0_1 l0_1.length l0_1 A0_2 c0_2 l0_2.length l0_2 hB hF (hS _ R0_1) hc0_1 (hS _ R0_2) hc0_2 _ hx16)) (fun _ => ?_)
    refine o_q rfl rfl (q_not rfl) ?_
    refine o_q rfl rfl (za2 rfl) ?_
    refine byB b17 (fun hb18 => ?_) (fun hb18 => ?_)
    · replace h := bb_t hb18 h
      refine o_w (za4 rfl rfl rfl (congrArg (fun b => Value.bool (!(b))) hb18)) rfl (q_ldB G27 Z27 rfl (fun w h => h.zaa (i := 1) rfl) rfl) ?_
      refine za7 h (fun b20 hx19 h => ?_) rfl
      refine o_ew (za4 rfl rfl rfl (congrArg (fun b => Value.bool (!(b))) hb18)) (zac 0 Z Try.func157 N157 rfl rfl rfl (fun w P1 hF hB hS hT => spec_duCan.calls a0_0 A0_1 c0_1 l0_1.length l0_1 A0_2 c0_2 l0_2.length l0_2 hB hF (hS _ R0_1) hc0_1 (hS _ R0_2) hc0_2 _ hx19)) (fun _ => ?_)
      refine o_w (za4 rfl rfl rfl (congrArg (fun b => Value.bool (!(b))) hb18)) rfl (q_not rfl) ?_
      refine o_q rfl rfl (zal false (congrArg (fun b => Value.bool (!(b))) hb18) rfl) ?_
      refine o_end ?_
      refine zay (!b20) h ⟨rfl, trivial⟩ (fun w h => za5 [1, 0] (by decide) rfl w h) ?_
      repeat (first | exact zad _ _ | refine zah rfl ?_ | refine zae rfl ?_ | refine zai rfl ?_)
    · replace h := bb_f hb18 h
      refine @o_n _ _ _ _ _ _ _ _ _ _ _ 8 (za3 rfl rfl rfl (congrArg (fun b => Value.bool (!(b))) hb18) rfl) (Eq.refl (some 8)) ?_
      refine @o_n _ _ _ _ _ _ _ _ _ _ _ 9 (za3 rfl rfl rfl (congrArg (fun b => Value.bool (!(b))) hb18) rfl) (Eq.refl (some 9)) ?_
      refine @o_n _ _ _ _ _ _ _ _ _ _ _ 10 (za3 rfl rfl rfl (congrArg (fun b => Value.bool (!(b))) hb18) rfl) (Eq.refl (some 10)) ?_
      refine o_q rfl rfl (zal true (congrArg (fun b => Value.bool (!(b))) hb18) rfl) ?_
      refine o_end ?_
      refine zay true h ⟨rfl, trivial⟩ (fun w h => za5 [1, 0] (by decide) rfl w h) ?_
      repeat (first | exact zad _ _ | refine zah rfl ?_ | refine zae rfl ?_ | refine zai rfl ?_)
  · skip
    refine (fun b10 => fun U14 hJ15 => ?_)
    have e_ := Option.some.inj hJ15; have h := hR13; rw [← e_] at h; clear e_ hJ15 hR13 hl12
    refine zar _ rfl (fun hb21 => ?_) (fun hb21 => ?_)
    · skip
      replace h := bb_t hb21 h
      refine c_seq ?_
      refine za0 ?_
      refine o_q rfl rfl (q_build (vs := []) (cs := [.int .i64 0, .slice none 0 0, .slice none 0 0]) rfl rfl) ?_
      refine o_e rfl (zaq (i := 1) rfl rfl rfl Z27 rfl rfl) (fun _ => ?_)
      refine o_q rfl rfl (q_asg rfl) ?_
      refine o_end ?_
      refine za1 ?_
      refine c_ret ?_
      refine za9 ?_
      refine x_nil kStep 89 ?_
      refine x_nil (Kd.int .i64) 3 ?_
      have e0_ := Option.some.inj h; clear h
      have d0_ := (Prod.mk.inj e0_).1; have e1_ := (Prod.mk.inj e0_).2; clear e0_; subst d0_
      have d1_ := (Prod.mk.inj e1_).1; have e2_ := (Prod.mk.inj e1_).2; clear e1_; subst d1_
      have d2_ := (Prod.mk.inj e2_).1; have e3_ := (Prod.mk.inj e2_).2; clear e2_; subst d2_
      subst e3_
      exact x_r2 (none, 0, none, 0) Try.results69 (rv_cell rfl G27 Z27 (fun w h => h.zaa (i := 3) rfl) rfl) (zaf rfl) rfl (fun w h => za5 [1, 0] (by decide) rfl w h)
    · skip
      replace h := bb_f hb21 h
      refine zam ?_
      refine za1 ?_
      refine c_seq ?_
      refine za0 ?_
      refine o_q rfl rfl (q_ldB G27 Z27 rfl (fun w h => h.zaa (i := 0) rfl) rfl) ?_
      refine bindE2 h (fun l23 l24 hx22 h => ?_) rfl
      refine o_e rfl (zac 0 Z Try.func158 N158 rfl rfl rfl (fun w P1 hF hB hS hT => spec_duTurn.calls k a0_0 A0_1 c0_1 l0_1.length l0_1 A0_2 c0_2 l0_2.length l0_2 hB hF (hS _ R0_1) hc0_1 (hS _ R0_2) hc0_2 _ _ hx22)) (cur4 (fun A25 c26 A27 c28 => ?_))
      refine bindE4 h (fun i30 l31 l32 b33 hx29 h => ?_) rfl
      refine o_e rfl (zac 2 Z Try.func106 N106 rfl rfl rfl (fun w P1 hF hB hS hT => spec_plIf.calls k (l0_2.length : Int) A25 c26 l23.length l23 A27 c28 l24.length l24 hB hF _ _ _ _ hx29)) (cur4 (fun A34 c35 A36 c37 => ?_))
      refine o_q rfl rfl (q_ext rfl rfl) ?_
      refine o_q rfl rfl (q_ext rfl rfl) ?_
      refine o_e rfl (zaq (i := 3) rfl rfl rfl Z27 rfl rfl) (fun _ => ?_)
      refine o_q rfl rfl (q_asg rfl) ?_
      refine o_end ?_
      refine za1 ?_
      refine c_ret ?_
      have e0_ := Option.some.inj h; clear h
      have d0_ := (Prod.mk.inj e0_).1; have e1_ := (Prod.mk.inj e0_).2; clear e0_; subst d0_
      have d1_ := (Prod.mk.inj e1_).1; have e2_ := (Prod.mk.inj e1_).2; clear e1_; subst d1_
      have d2_ := (Prod.mk.inj e2_).1; have e3_ := (Prod.mk.inj e2_).2; clear e2_; subst d2_
      subst e3_
      exact x_r2 (A34, c35, A36, c37) Try.results69 (rv_cell rfl G27 Z27 (fun w h => h.zaa (i := 3) rfl) rfl) (zaf rfl) rfl (fun w h => za5 [0, 1] (by decide) rfl w h)

/-! ### loop.example/g01098/laws.pSameSteps: function 99 -/
def laws_pSameSteps.l0 (l1 : List SStep) : (List SStep) → Int → Option ((Bool) ⊕ (Unit))
  | [], i2 => some (.inr ())
  | y3 :: ys4, i2 => (gt l1 i2).bind fun y16 => if (y3.f0 == y16.f0 && (y3.f1 == y16.f1 && true)) = true then (laws_pSameSteps.l0 l1 ys4 (i2 + 1)) else (some (.inl false))
def laws_pSameSteps.f (l0 : List SStep) (l1 : List SStep) : Option Bool := if (l0.length : Int) ≠ (l1.length : Int) then (some false) else ((laws_pSameSteps.l0 l1 l0 0).bind fun o_ => match o_ with | .inl r_ => some r_ | .inr _ => some true)
set_option maxHeartbeats 600000 in
set_option maxRecDepth 100000 in
theorem laws_pSameSteps.calls {w0 ws : World} {P0 : Nat → Prop} (A0 : Option Addr) (c0 : Nat) (n0 : Nat) (l0 : List SStep) (A1 : Option Addr) (c1 : Nat) (n1 : Nat) (l1 : List SStep) (Z : Below w0.heap.size w0 ws) (hF : Fr w0 ws P0 [] ws) (R0 : Stable ws P0 (fun w => Kd.C kStep w A0 n0 l0)) (hc0 : n0 ≤ c0) (R1 : Stable ws P0 (fun w => Kd.C kStep w A1 n1 l1)) (hc1 : n1 ≤ c1) (r_1 : Bool) (h : laws_pSameSteps.f l0 l1 = some r_1) :
    Calls Try.prog 99 #[.slice A0 n0 c0, .slice A1 n1 c1] ws (Post1 w0 ws P0 (fun (_ : Unit) => .bool r_1) (fun (_ : Unit) => [])) := by
  unfold laws_pSameSteps.f at h
  obtain rfl := (R0 ws (KeptB.refl _ _)).1
  obtain rfl := (R1 ws (KeptB.refl _ _)).1
  refine enter Try.func99 rfl Try.ntmps99 rfl hF ?_
  refine c_seq ?_
  refine za0 ?_
  refine o_q rfl rfl (q_asg rfl) ?_
  refine o_end ?_
  refine za1 ?_
  refine c_seq ?_
  refine c_seq ?_
  refine za0 ?_
  refine o_q rfl rfl (za2 rfl) ?_
  refine o_q rfl rfl (q_len Try.underlying24 rfl) ?_
  refine o_q rfl rfl (za2 rfl) ?_
  refine o_q rfl rfl (q_len Try.underlying24 rfl) ?_
  refine o_q rfl rfl (q_neq rfl rfl) ?_
  refine o_end ?_
  refine za1 ?_
  refine zar _ rfl (fun hb1 => ?_) (fun hb1 => ?_)
  · skip
    replace h := br_t hb1 h
    refine c_seq ?_
    refine za0 ?_
    refine o_q rfl rfl (q_asg rfl) ?_
    refine o_end ?_
    refine za1 ?_
    refine c_ret ?_
    refine za9 ?_
    have e0_ := Option.some.inj h; clear h
    subst e0_
    exact x_r1 () Try.results99 (zaf rfl) rfl (fun w h => za5 [] (by decide) rfl w h)
  · skip
    replace h := br_f hb1 h
    refine zam ?_
    refine za1 ?_
    refine c_seq ?_
    refine c_seq ?_
    refine za0 ?_
    refine o_q rfl rfl (za2 rfl) ?_
    refine o_q rfl rfl (q_len Try.underlying24 rfl) ?_
    refine o_q rfl rfl (za2 rfl) ?_
    refine o_end ?_
    refine za1 ?_
    refine zaj ?_
    refine za7 h (fun o10 hl9 hR8 => ?_) rfl
    clear h
    refine c_fact (p := l0.length ≤ 9223372036854775807) (fun w h => (R0.now Z h).2.1) (fun hm7 => ?_)
    refine zav (σ := (List SStep) × Int) (fun k5 ((ys4, i2) : (List SStep) × Int) => Rg l0 i2 ys4 ∧ ys4.length = k5 ∧ laws_pSameSteps.l0 l1 ys4 i2 = some o10) [4, 5, 13, 14, 15, 16, 17, 18, 19, 20, 21, 22, 23, 24, 25] (fun ((ys4, i2) : (List SStep) × Int) => [(13, .int .i64 i2)]) (fun ((ys4, i2) : (List SStep) × Int) => []) l0.length (l0, 0) ⟨Rg.start _, rfl, hl9⟩ ⟨rfl, trivial⟩ (fun w h => h) ?_
    refine fun k5 => cur2 (listC (fun i2 U11 hJ_ => ?_) (fun y3 ys4 i2 U11 hJ_ => ?_))
    · skip
      clear hl9
      have hr6 := hJ_.1; have hk12 := hJ_.2.1; have h := hJ_.2.2; clear hJ_
      replace h : laws_pSameSteps.l0 l1 [] i2 = some o10 := h
      rw [laws_pSameSteps.l0] at h
      refine c_seq ?_
      refine za0 ?_
      refine o_q rfl rfl (q_lss rfl rfl) ?_
      refine o_end ?_
      refine za1 ?_
      refine c_seq ?_
      refine zb2 (congrArg Value.bool hr6.ge) ?_
      refine c_exit ?_
      refine za6 ?_
      refine za6 ?_
      have e_ := Option.some.inj h; replace h := hR8; rw [← e_] at h; clear e_
      refine x_hit ?_
      refine za1 ?_
      refine c_seq ?_
      refine za0 ?_
      refine o_q rfl rfl (q_asg rfl) ?_
      refine o_end ?_
      refine za1 ?_
      refine c_ret ?_
      have e0_ := Option.some.inj h; clear h
      subst e0_
      exact x_r1 () Try.results99 (zaf rfl) rfl (fun w h => za5 [] (by decide) rfl w h)
    · skip
      clear hl9
      have hr6 := hJ_.1; have hk12 := hJ_.2.1; have h := hJ_.2.2; clear hJ_
      replace h : laws_pSameSteps.l0 l1 (y3 :: ys4) i2 = some o10 := h
      rw [laws_pSameSteps.l0] at h
      refine c_seq ?_
      refine za0 ?_
      refine o_q rfl rfl (q_lss rfl rfl) ?_
      refine o_end ?_
      refine za1 ?_
      refine c_seq ?_
      refine zb3 (congrArg Value.bool hr6.lt) ?_
      refine zam ?_
      refine za1 ?_
      refine c_seq ?_
      refine zaj ?_
      refine c_seq ?_
      refine za0 ?_
      refine o_q rfl rfl (za2 rfl) ?_
      refine o_q rfl rfl (q_asg rfl) ?_
      refine o_end ?_
      refine za1 ?_
      refine c_seq ?_
      refine a_start (ds := []) MO rfl ?_
      refine za8 0 rfl rfl rfl (by kernel_rfl) (fun _ _ _ h => h) (za2 rfl) ?_
      refine za8 1 rfl rfl rfl (by kernel_rfl) (fun _ _ _ h => h) (za2 rfl) ?_
      refine a_fact (p := Sh A0 l0.length l0.length) (fun w h => f_sh (dk := kStep) h (fun w h => R0.now Z h)) (fun hq13 => ?_)
      refine za8 2 rfl rfl rfl (by kernel_rfl) (fun _ _ _ h => h) (q_ix Try.underlying24 Z89 rfl rfl hq13 hr6.get) ?_
      refine a_take 3 rfl rfl rfl (by kernel_rfl) (fun _ _ _ h => h) (fun w h => h) (q_ldE G89 Z89 rfl rfl (fun w h => R0.now Z h) hr6.get (fun _ _ h => h) rfl) ?_
      refine za8 4 rfl rfl rfl (by kernel_rfl) (fun _ _ _ h => h) (za2 rfl) ?_
      refine za8 5 rfl rfl rfl (by kernel_rfl) (fun _ _ _ h => h) (za2 rfl) ?_
      refine a_fact (p := Sh A1 l1.length l1.length) (fun w h => f_sh (dk := kStep) h (fun w h => R1.now Z h)) (fun hq14 => ?_)
      refine za7 h (fun y16 hg15 h => ?_) rfl
      refine za8 6 rfl rfl rfl (by kernel_rfl) (fun _ _ _ h => h) (q_ix Try.underlying24 Z89 rfl rfl hq14 hg15) ?_
      refine a_take 7 rfl rfl rfl (by kernel_rfl) (fun _ _ _ h => h) (fun w h => h) (q_ldE G89 Z89 rfl rfl (fun w h => R1.now Z h) hg15 (fun _ _ h => h) rfl) ?_
      refine za8 8 rfl rfl rfl (by kernel_rfl) (fun _ _ _ h => h) (q_aneq E89 O89 P89 (Q89 y3.f0 y3.f1 y16.f0 y16.f1) rfl rfl) ?_
      refine zb0 (by kernel_rfl) ?_
      refine za1 ?_
      refine zar _ rfl (fun hb17 => ?_) (fun hb17 => ?_)
      · replace hb17 := nt_t hb17
        replace h := bb_f hb17 h
        refine c_seq ?_
        refine za0 ?_
        refine o_q rfl rfl (q_asg rfl) ?_
        refine o_end ?_
        refine za1 ?_
        refine c_ret ?_
        refine zao ?_
        refine za9 ?_
        refine za9 ?_
        have e_ := Option.some.inj h; replace h := hR8; rw [← e_] at h; clear e_
        refine zao ?_
        refine za9 ?_
        have e0_ := Option.some.inj h; clear h
        subst e0_
        exact x_r1 () Try.results99 (zaf rfl) rfl (fun w h => za5 [] (by decide) rfl w h)
      · replace hb17 := nt_f hb17
        replace h := bb_t hb17 h
        refine zam ?_
        refine zan ?_
        refine za1 ?_
        refine za0 ?_
        refine o_q rfl rfl (q_up rfl rfl (hr6.up hm7)) ?_
        refine o_q rfl rfl (za2 rfl) ?_
        refine o_end ?_
        refine zak ys4.length (ys4, i2 + 1) (by rw [← hk12]; exact Nat.lt_succ_self _) ⟨hr6.step, rfl, h⟩ ⟨rfl, trivial⟩ (fun w h => za5 [] (by decide) rfl w h) ?_
        repeat (first | exact zad _ _ | refine zah rfl ?_ | refine zae rfl ?_ | refine zai rfl ?_)

/-! ### loop.example/g01098/laws.pSameInts: function 21 -/
def laws_pSameInts.l0 (l1 : List Int) : (List Int) → Int → Option ((Bool) ⊕ (Unit))
  | [], i2 => some (.inr ())
  | y3 :: ys4, i2 => (gt l1 i2).bind fun y16 => if y3 ≠ y16 then (some (.inl false)) else (laws_pSameInts.l0 l1 ys4 (i2 + 1))
def laws_pSameInts.f (l0 : List Int) (l1 : List Int) : Option Bool := if (l0.length : Int) ≠ (l1.length : Int) then (some false) else ((laws_pSameInts.l0 l1 l0 0).bind fun o_ => match o_ with | .inl r_ => some r_ | .inr _ => some true)
set_option maxHeartbeats 600000 in
set_option maxRecDepth 100000 in
theorem laws_pSameInts.calls {w0 ws : World} {P0 : Nat → Prop} (A0 : Option Addr) (c0 : Nat) (n0 : Nat) (l0 : List Int) (A1 : Option Addr) (c1 : Nat) (n1 : Nat) (l1 : List Int) (Z : Below w0.heap.size w0 ws) (hF : Fr w0 ws P0 [] ws) (R0 : Stable ws P0 (fun w => Kd.C (Kd.int .i64) w A0 n0 l0)) (hc0 : n0 ≤ c0) (R1 : Stable ws P0 (fun w => Kd.C (Kd.int .i64) w A1 n1 l1)) (hc1 : n1 ≤ c1) (r_1 : Bool) (h : laws_pSameInts.f l0 l1 = some r_1) :
    Calls Try.prog 21 #[.slice A0 n0 c0, .slice A1 n1 c1] ws (Post1 w0 ws P0 (fun (_ : Unit) => .bool r_1) (fun (_ : Unit) => [])) := by
  unfold laws_pSameInts.f at h
  obtain rfl := (R0 ws (KeptB.refl _ _)).1
  obtain rfl := (R1 ws (KeptB.refl _ _)).1
  refine enter Try.func21 rfl Try.ntmps21 rfl hF ?_
  refine c_seq ?_
  refine za0 ?_
  refine o_q rfl rfl (q_asg rfl) ?_
  refine o_end ?_
  refine za1 ?_
  refine c_seq ?_
  refine c_seq ?_
  refine za0 ?_
  refine o_q rfl rfl (za2 rfl) ?_
  refine o_q rfl rfl (q_len Try.underlying25 rfl) ?_
  refine o_q rfl rfl (za2 rfl) ?_
  refine o_q rfl rfl (q_len Try.underlying25 rfl) ?_
  refine o_q rfl rfl (q_neq rfl rfl) ?_
  refine o_end ?_
  refine za1 ?_
  refine zar _ rfl (fun hb1 => ?_) (fun hb1 => ?_)
  · skip
    replace h := br_t hb1 h
    refine c_seq ?_
    refine za0 ?_
    refine o_q rfl rfl (q_asg rfl) ?_
    refine o_end ?_
    refine za1 ?_
    refine c_ret ?_
    refine za9 ?_
    have e0_ := Option.some.inj h; clear h
    subst e0_
    exact x_r1 () Try.results21 (zaf rfl) rfl (fun w h => za5 [] (by decide) rfl w h)
  · skip
    replace h := br_f hb1 h
    refine zam ?_
    refine za1 ?_
    refine c_seq ?_
    refine c_seq ?_
    refine za0 ?_
    refine o_q rfl rfl (za2 rfl) ?_
    refine o_q rfl rfl (q_len Try.underlying25 rfl) ?_
    refine o_q rfl rfl (za2 rfl) ?_
    refine o_end ?_
    refine za1 ?_
    refine zaj ?_
    refine za7 h (fun o10 hl9 hR8 => ?_) rfl
    clear h
    refine c_fact (p := l0.length ≤ 9223372036854775807) (fun w h => (R0.now Z h).2.1) (fun hm7 => ?_)
    refine zav (σ := (List Int) × Int) (fun k5 ((ys4, i2) : (List Int) × Int) => Rg l0 i2 ys4 ∧ ys4.length = k5 ∧ laws_pSameInts.l0 l1 ys4 i2 = some o10) [4, 5, 13, 14, 15, 16, 17, 18, 19, 20, 21, 22, 23, 24, 25] (fun ((ys4, i2) : (List Int) × Int) => [(13, .int .i64 i2)]) (fun ((ys4, i2) : (List Int) × Int) => []) l0.length (l0, 0) ⟨Rg.start _, rfl, hl9⟩ ⟨rfl, trivial⟩ (fun w h => h) ?_
    refine fun k5 => cur2 (listC (fun i2 U11 hJ_ => ?_) (fun y3 ys4 i2 U11 hJ_ => ?_))
    · skip
      clear hl9
      have hr6 := hJ_.1; have hk12 := hJ_.2.1; have h := hJ_.2.2; clear hJ_
      replace h : laws_pSameInts.l0 l1 [] i2 = some o10 := h
      rw [laws_pSameInts.l0] at h
      refine c_seq ?_
      refine za0 ?_
      refine o_q rfl rfl (q_lss rfl rfl) ?_
      refine o_end ?_
      refine za1 ?_
      refine c_seq ?_
      refine zb2 (congrArg Value.bool hr6.ge) ?_
      refine c_exit ?_
      refine za6 ?_
      refine za6 ?_
      have e_ := Option.some.inj h; replace h := hR8; rw [← e_] at h; clear e_
      refine x_hit ?_
      refine za1 ?_
      refine c_seq ?_
      refine za0 ?_
      refine o_q rfl rfl (q_asg rfl) ?_
      refine o_end ?_
      refine za1 ?_
      refine c_ret ?_
      have e0_ := Option.some.inj h; clear h
      subst e0_
      exact x_r1 () Try.results21 (zaf rfl) rfl (fun w h => za5 [] (by decide) rfl w h)
    · skip
      clear hl9
      have hr6 := hJ_.1; have hk12 := hJ_.2.1; have h := hJ_.2.2; clear hJ_
      replace h : laws_pSameInts.l0 l1 (y3 :: ys4) i2 = some o10 := h
      rw [laws_pSameInts.l0] at h
      refine c_seq ?_
      refine za0 ?_
      refine o_q rfl rfl (q_lss rfl rfl) ?_
      refine o_end ?_
      refine za1 ?_
      refine c_seq ?_
      refine zb3 (congrArg Value.bool hr6.lt) ?_
      refine zam ?_
      refine za1 ?_
      refine c_seq ?_
      refine zaj ?_
      refine c_seq ?_
      refine za0 ?_
      refine o_q rfl rfl (za2 rfl) ?_
      refine o_q rfl rfl (q_asg rfl) ?_
      refine o_end ?_
      refine za1 ?_
      refine c_seq ?_
      refine a_start (ds := []) MO rfl ?_
      refine za8 0 rfl rfl rfl (by kernel_rfl) (fun _ _ _ h => h) (za2 rfl) ?_
      refine za8 1 rfl rfl rfl (by kernel_rfl) (fun _ _ _ h => h) (za2 rfl) ?_
      refine a_fact (p := Sh A0 l0.length l0.length) (fun w h => f_sh (dk := (Kd.int .i64)) h (fun w h => R0.now Z h)) (fun hq13 => ?_)
      refine za8 2 rfl rfl rfl (by kernel_rfl) (fun _ _ _ h => h) (q_ix Try.underlying25 Z3 rfl rfl hq13 hr6.get) ?_
      refine a_take 3 rfl rfl rfl (by kernel_rfl) (fun _ _ _ h => h) (fun w h => h) (q_lde (off := 0) Y3 rfl rfl (fun w h => R0.now Z h) hr6.get (fun _ _ h => h) rfl) ?_
      refine za8 4 rfl rfl rfl (by kernel_rfl) (fun _ _ _ h => h) (za2 rfl) ?_
      refine za8 5 rfl rfl rfl (by kernel_rfl) (fun _ _ _ h => h) (za2 rfl) ?_
      refine a_fact (p := Sh A1 l1.length l1.length) (fun w h => f_sh (dk := (Kd.int .i64)) h (fun w h => R1.now Z h)) (fun hq14 => ?_)
      refine za7 h (fun y16 hg15 h => ?_) rfl
      refine za8 6 rfl rfl rfl (by kernel_rfl) (fun _ _ _ h => h) (q_ix Try.underlying25 Z3 rfl rfl hq14 hg15) ?_
      refine a_take 7 rfl rfl rfl (by kernel_rfl) (fun _ _ _ h => h) (fun w h => h) (q_lde (off := 0) Y3 rfl rfl (fun w h => R1.now Z h) hg15 (fun _ _ h => h) rfl) ?_
      refine za8 8 rfl rfl rfl (by kernel_rfl) (fun _ _ _ h => h) (q_neq rfl rfl) ?_
      refine zb0 (by kernel_rfl) ?_
      refine za1 ?_
      refine zar _ rfl (fun hb17 => ?_) (fun hb17 => ?_)
      · skip
        replace h := br_t hb17 h
        refine c_seq ?_
        refine za0 ?_
        refine o_q rfl rfl (q_asg rfl) ?_
        refine o_end ?_
        refine za1 ?_
        refine c_ret ?_
        refine zao ?_
        refine za9 ?_
        refine za9 ?_
        have e_ := Option.some.inj h; replace h := hR8; rw [← e_] at h; clear e_
        refine zao ?_
        refine za9 ?_
        have e0_ := Option.some.inj h; clear h
        subst e0_
        exact x_r1 () Try.results21 (zaf rfl) rfl (fun w h => za5 [] (by decide) rfl w h)
      · skip
        replace h := br_f hb17 h
        refine zam ?_
        refine zan ?_
        refine za1 ?_
        refine za0 ?_
        refine o_q rfl rfl (q_up rfl rfl (hr6.up hm7)) ?_
        refine o_q rfl rfl (za2 rfl) ?_
        refine o_end ?_
        refine zak ys4.length (ys4, i2 + 1) (by rw [← hk12]; exact Nat.lt_succ_self _) ⟨hr6.step, rfl, h⟩ ⟨rfl, trivial⟩ (fun w h => za5 [] (by decide) rfl w h) ?_
        repeat (first | exact zad _ _ | refine zah rfl ?_ | refine zae rfl ?_ | refine zai rfl ?_)

/-! ### loop.example/g01098/laws.pSamePlan: function 17 -/
def laws_pSamePlan.f (a0_0 : Int) (l0_1 : List SStep) (l0_2 : List Int) (a1_0 : Int) (l1_1 : List SStep) (l1_2 : List Int) : Option Bool := if a0_0 = a1_0 then ((laws_pSameSteps.f l0_1 l1_1).bind fun b7 => if b7 = true then ((laws_pSameInts.f l0_2 l1_2).bind fun b10 => some b10) else (some false)) else (some false)
set_option maxHeartbeats 600000 in
set_option maxRecDepth 100000 in
theorem laws_pSamePlan.calls {w0 ws : World} {P0 : Nat → Prop} (a0_0 : Int) (A0_1 : Option Addr) (c0_1 : Nat) (n0_1 : Nat) (l0_1 : List SStep) (A0_2 : Option Addr) (c0_2 : Nat) (n0_2 : Nat) (l0_2 : List Int) (a1_0 : Int) (A1_1 : Option Addr) (c1_1 : Nat) (n1_1 : Nat) (l1_1 : List SStep) (A1_2 : Option Addr) (c1_2 : Nat) (n1_2 : Nat) (l1_2 : List Int) (Z : Below w0.heap.size w0 ws) (hF : Fr w0 ws P0 [] ws) (R0_1 : Stable ws P0 (fun w => Kd.C kStep w A0_1 n0_1 l0_1)) (hc0_1 : n0_1 ≤ c0_1) (R0_2 : Stable ws P0 (fun w => Kd.C (Kd.int .i64) w A0_2 n0_2 l0_2)) (hc0_2 : n0_2 ≤ c0_2) (R1_1 : Stable ws P0 (fun w => Kd.C kStep w A1_1 n1_1 l1_1)) (hc1_1 : n1_1 ≤ c1_1) (R1_2 : Stable ws P0 (fun w => Kd.C (Kd.int .i64) w A1_2 n1_2 l1_2)) (hc1_2 : n1_2 ≤ c1_2) (r_1 : Bool) (h : laws_pSamePlan.f a0_0 l0_1 l0_2 a1_0 l1_1 l1_2 = some r_1) :
    Calls Try.prog 17 #[.agg #[.int .i64 a0_0, .slice A0_1 n0_1 c0_1, .slice A0_2 n0_2 c0_2], .agg #[.int .i64 a1_0, .slice A1_1 n1_1 c1_1, .slice A1_2 n1_2 c1_2]] ws (Post1 w0 ws P0 (fun (_ : Unit) => .bool r_1) (fun (_ : Unit) => [])) := by
  unfold laws_pSamePlan.f at h
  obtain rfl := (R0_1 ws (KeptB.refl _ _)).1
  obtain rfl := (R0_2 ws (KeptB.refl _ _)).1
  obtain rfl := (R1_1 ws (KeptB.refl _ _)).1
  obtain rfl := (R1_2 ws (KeptB.refl _ _)).1
  refine enter Try.func17 rfl Try.ntmps17 rfl hF ?_
  refine c_seq ?_
  refine za0 ?_
  refine o_e rfl (e_box rfl) (fun g1 => ?_)
  refine o_e rfl (e_box rfl) (fun g3 => ?_)
  refine o_q rfl rfl (q_asg rfl) ?_
  refine o_end ?_
  refine za1 ?_
  refine c_seq ?_
  refine za0 ?_
  refine o_q rfl rfl (q_f F27_0 rfl) ?_
  refine o_q rfl rfl (q_ldb Y3 rfl (fun w h => h.zaa (i := 1) rfl) rfl) ?_
  refine o_q rfl rfl (q_f F27_0 rfl) ?_
  refine o_q rfl rfl (q_ldb Y3 rfl (fun w h => h.zaa (i := 0) rfl) rfl) ?_
  refine o_q rfl rfl (q_eql rfl rfl) ?_
  refine o_q rfl rfl (za2 rfl) ?_
  refine byB (decide (a0_0 = a1_0)) (fun hb5 => ?_) (fun hb5 => ?_)
  · replace h := br_t hb5 h
    refine o_w (za4 rfl rfl rfl (congrArg Value.bool hb5)) rfl (q_f F27_1 rfl) ?_
    refine o_w (za4 rfl rfl rfl (congrArg Value.bool hb5)) rfl (q_ldb Y24 rfl (fun w h => h.zaa (i := 1) rfl) rfl) ?_
    refine o_w (za4 rfl rfl rfl (congrArg Value.bool hb5)) rfl (q_f F27_1 rfl) ?_
    refine o_w (za4 rfl rfl rfl (congrArg Value.bool hb5)) rfl (q_ldb Y24 rfl (fun w h => h.zaa (i := 0) rfl) rfl) ?_
    refine za7 h (fun b7 hx6 h => ?_) rfl
    refine o_ew (za4 rfl rfl rfl (congrArg Value.bool hb5)) (zac 0 Z Try.func99 N99 rfl rfl rfl (fun w P1 hF hB hS hT => laws_pSameSteps.calls A0_1 c0_1 l0_1.length l0_1 A1_1 c1_1 l1_1.length l1_1 hB hF (hS _ R0_1) hc0_1 (hS _ R1_1) hc1_1 _ hx6)) (fun _ => ?_)
    refine o_q rfl rfl (zal true (congrArg Value.bool hb5) rfl) ?_
    refine o_q rfl rfl (za2 rfl) ?_
    refine byB b7 (fun hb8 => ?_) (fun hb8 => ?_)
    · replace h := bb_t hb8 h
      refine o_w (za4 rfl rfl rfl (congrArg Value.bool hb8)) rfl (q_f F27_2 rfl) ?_
      refine o_w (za4 rfl rfl rfl (congrArg Value.bool hb8)) rfl (q_ldb Y25 rfl (fun w h => h.zaa (i := 1) rfl) rfl) ?_
      refine o_w (za4 rfl rfl rfl (congrArg Value.bool hb8)) rfl (q_f F27_2 rfl) ?_
      refine o_w (za4 rfl rfl rfl (congrArg Value.bool hb8)) rfl (q_ldb Y25 rfl (fun w h => h.zaa (i := 0) rfl) rfl) ?_
      refine za7 h (fun b10 hx9 h => ?_) rfl
      refine o_ew (za4 rfl rfl rfl (congrArg Value.bool hb8)) (zac 0 Z Try.func21 N21 rfl rfl rfl (fun w P1 hF hB hS hT => laws_pSameInts.calls A0_2 c0_2 l0_2.length l0_2 A1_2 c1_2 l1_2.length l1_2 hB hF (hS _ R0_2) hc0_2 (hS _ R1_2) hc1_2 _ hx9)) (fun _ => ?_)
      refine o_q rfl rfl (zal true (congrArg Value.bool hb8) rfl) ?_
      refine o_q rfl rfl (q_asg rfl) ?_
      refine o_end ?_
      refine za1 ?_
      refine c_ret ?_
      have e0_ := Option.some.inj h; clear h
      subst e0_
      exact x_r1 () Try.results17 (zaf rfl) rfl (fun w h => za5 [] (by decide) rfl w h)
    · replace h := bb_f hb8 h
      refine @o_n _ _ _ _ _ _ _ _ _ _ _ 18 (za3 rfl rfl rfl (congrArg Value.bool hb8) rfl) (Eq.refl (some 18)) ?_
      refine @o_n _ _ _ _ _ _ _ _ _ _ _ 19 (za3 rfl rfl rfl (congrArg Value.bool hb8) rfl) (Eq.refl (some 19)) ?_
      refine @o_n _ _ _ _ _ _ _ _ _ _ _ 20 (za3 rfl rfl rfl (congrArg Value.bool hb8) rfl) (Eq.refl (some 20)) ?_
      refine @o_n _ _ _ _ _ _ _ _ _ _ _ 21 (za3 rfl rfl rfl (congrArg Value.bool hb8) rfl) (Eq.refl (some 21)) ?_
      refine @o_n _ _ _ _ _ _ _ _ _ _ _ 22 (za3 rfl rfl rfl (congrArg Value.bool hb8) rfl) (Eq.refl (some 22)) ?_
      refine o_q rfl rfl (zal false (congrArg Value.bool hb8) rfl) ?_
      refine o_q rfl rfl (q_asg rfl) ?_
      refine o_end ?_
      refine za1 ?_
      refine c_ret ?_
      have e0_ := Option.some.inj h; clear h
      subst e0_
      exact x_r1 () Try.results17 (zaf rfl) rfl (fun w h => za5 [] (by decide) rfl w h)
  · replace h := br_f hb5 h
    refine @o_n _ _ _ _ _ _ _ _ _ _ _ 11 (za3 rfl rfl rfl (congrArg Value.bool hb5) rfl) (Eq.refl (some 11)) ?_
    refine @o_n _ _ _ _ _ _ _ _ _ _ _ 12 (za3 rfl rfl rfl (congrArg Value.bool hb5) rfl) (Eq.refl (some 12)) ?_
    refine @o_n _ _ _ _ _ _ _ _ _ _ _ 13 (za3 rfl rfl rfl (congrArg Value.bool hb5) rfl) (Eq.refl (some 13)) ?_
    refine @o_n _ _ _ _ _ _ _ _ _ _ _ 14 (za3 rfl rfl rfl (congrArg Value.bool hb5) rfl) (Eq.refl (some 14)) ?_
    refine @o_n _ _ _ _ _ _ _ _ _ _ _ 15 (za3 rfl rfl rfl (congrArg Value.bool hb5) rfl) (Eq.refl (some 15)) ?_
    refine o_q rfl rfl (zal false (congrArg Value.bool hb5) rfl) ?_
    refine o_q rfl rfl (za2 rfl) ?_
    refine @o_n _ _ _ _ _ _ _ _ _ _ _ 18 (za3 rfl rfl rfl rfl rfl) (Eq.refl (some 18)) ?_
    refine @o_n _ _ _ _ _ _ _ _ _ _ _ 19 (za3 rfl rfl rfl rfl rfl) (Eq.refl (some 19)) ?_
    refine @o_n _ _ _ _ _ _ _ _ _ _ _ 20 (za3 rfl rfl rfl rfl rfl) (Eq.refl (some 20)) ?_
    refine @o_n _ _ _ _ _ _ _ _ _ _ _ 21 (za3 rfl rfl rfl rfl rfl) (Eq.refl (some 21)) ?_
    refine @o_n _ _ _ _ _ _ _ _ _ _ _ 22 (za3 rfl rfl rfl rfl rfl) (Eq.refl (some 22)) ?_
    refine o_q rfl rfl (zal false rfl rfl) ?_
    refine o_q rfl rfl (q_asg rfl) ?_
    refine o_end ?_
    refine za1 ?_
    refine c_ret ?_
    have e0_ := Option.some.inj h; clear h
    subst e0_
    exact x_r1 () Try.results17 (zaf rfl) rfl (fun w h => za5 [] (by decide) rfl w h)

/-! ### loop.example/g01098/impl.CanTurn: function 70 -/
def impl_CanTurn.f (k : Nat) (a0_0 : Int) (l0_1 : List SStep) (l0_2 : List Int) : Option (Bool × Bool) := (impl_IsPlan.f k a0_0 l0_1 l0_2).bind fun b4 => if b4 = true then ((impl_Plan_canTurn.f a0_0 l0_1 l0_2).bind fun b7 => some (b7, true)) else (some (false, false))
set_option maxHeartbeats 600000 in
set_option maxRecDepth 100000 in
theorem impl_CanTurn.calls (k : Nat) {w0 ws : World} {P0 : Nat → Prop} (a0_0 : Int) (A0_1 : Option Addr) (c0_1 : Nat) (n0_1 : Nat) (l0_1 : List SStep) (A0_2 : Option Addr) (c0_2 : Nat) (n0_2 : Nat) (l0_2 : List Int) (Z : Below w0.heap.size w0 ws) (hF : Fr w0 ws P0 [] ws) (R0_1 : Stable ws P0 (fun w => Kd.C kStep w A0_1 n0_1 l0_1)) (hc0_1 : n0_1 ≤ c0_1) (R0_2 : Stable ws P0 (fun w => Kd.C (Kd.int .i64) w A0_2 n0_2 l0_2)) (hc0_2 : n0_2 ≤ c0_2) (r_1 : Bool) (r_2 : Bool) (h : impl_CanTurn.f k a0_0 l0_1 l0_2 = some (r_1, r_2)) :
    Calls Try.prog 70 #[.agg #[.int .i64 a0_0, .slice A0_1 n0_1 c0_1, .slice A0_2 n0_2 c0_2]] ws (Post1 w0 ws P0 (fun (_ : Unit) => .tuple #[.bool r_1, .bool r_2]) (fun (_ : Unit) => [])) := by
  unfold impl_CanTurn.f at h
  obtain rfl := (R0_1 ws (KeptB.refl _ _)).1
  obtain rfl := (R0_2 ws (KeptB.refl _ _)).1
  refine enter Try.func70 rfl Try.ntmps70 rfl hF ?_
  refine c_seq ?_
  refine za0 ?_
  refine o_e rfl (e_box rfl) (fun g1 => ?_)
  refine o_q rfl rfl (q_asg rfl) ?_
  refine o_q rfl rfl (q_asg rfl) ?_
  refine o_end ?_
  refine za1 ?_
  refine c_seq ?_
  refine c_seq ?_
  refine za0 ?_
  refine o_q rfl rfl (q_ldB G27 Z27 rfl (fun w h => h.zaa (i := 0) rfl) rfl) ?_
  refine za7 h (fun b4 hx3 h => ?_) rfl
  refine o_e rfl (zac 0 Z Try.func86 N86 rfl rfl rfl (fun w P1 hF hB hS hT => impl_IsPlan.calls k a0_0 A0_1 c0_1 l0_1.length l0_1 A0_2 c0_2 l0_2.length l0_2 hB hF (hS _ R0_1) hc0_1 (hS _ R0_2) hc0_2 _ hx3)) (fun _ => ?_)
  refine o_q rfl rfl (q_not rfl) ?_
  refine o_end ?_
  refine za1 ?_
  refine zar _ rfl (fun hb5 => ?_) (fun hb5 => ?_)
  · replace hb5 := nt_t hb5
    replace h := bb_f hb5 h
    refine c_seq ?_
    refine za0 ?_
    refine o_q rfl rfl (q_asg rfl) ?_
    refine o_q rfl rfl (q_asg rfl) ?_
    refine o_end ?_
    refine za1 ?_
    refine c_ret ?_
    refine za9 ?_
    have e0_ := Option.some.inj h; clear h
    have d0_ := (Prod.mk.inj e0_).1; have e1_ := (Prod.mk.inj e0_).2; clear e0_; subst d0_
    subst e1_
    exact x_r2 () Try.results70 (zaf rfl) (zaf rfl) rfl (fun w h => za5 [] (by decide) rfl w h)
  · replace hb5 := nt_f hb5
    replace h := bb_t hb5 h
    refine zam ?_
    refine za1 ?_
    refine c_seq ?_
    refine za0 ?_
    refine za7 h (fun b7 hx6 h => ?_) rfl
    refine o_e rfl (zac 0 Z Try.func155 N155 rfl rfl rfl (fun w P1 hF hB hS hT => impl_Plan_canTurn.calls g1 a0_0 A0_1 c0_1 l0_1.length l0_1 A0_2 c0_2 l0_2.length l0_2 hB hF (hS _ R0_1) hc0_1 (hS _ R0_2) hc0_2 (hT 0 _ rfl).box _ hx6)) (fun _ => ?_)
    refine o_q rfl rfl (q_asg rfl) ?_
    refine o_q rfl rfl (q_asg rfl) ?_
    refine o_end ?_
    refine za1 ?_
    refine c_ret ?_
    have e0_ := Option.some.inj h; clear h
    have d0_ := (Prod.mk.inj e0_).1; have e1_ := (Prod.mk.inj e0_).2; clear e0_; subst d0_
    subst e1_
    exact x_r2 () Try.results70 (zaf rfl) (zaf rfl) rfl (fun w h => za5 [] (by decide) rfl w h)

/-! ### loop.example/g01098/impl.TurnedCost: function 71 -/
def impl_TurnedCost.f (k : Nat) (a0_0 : Int) (l0_1 : List SStep) (l0_2 : List Int) : Option (Int × Bool) := (impl_IsPlan.f k a0_0 l0_1 l0_2).bind fun b4 => if b4 = true then ((impl_Plan_canTurn.f a0_0 l0_1 l0_2).bind fun b7 => if b7 = true then ((impl_Plan_turned.f k a0_0 l0_1 l0_2).bind fun (l10, l11) => some ((l10.length : Int), true)) else (some (0, false))) else (some (0, false))
set_option maxHeartbeats 600000 in
set_option maxRecDepth 100000 in
theorem impl_TurnedCost.calls (k : Nat) {w0 ws : World} {P0 : Nat → Prop} (a0_0 : Int) (A0_1 : Option Addr) (c0_1 : Nat) (n0_1 : Nat) (l0_1 : List SStep) (A0_2 : Option Addr) (c0_2 : Nat) (n0_2 : Nat) (l0_2 : List Int) (Z : Below w0.heap.size w0 ws) (hF : Fr w0 ws P0 [] ws) (R0_1 : Stable ws P0 (fun w => Kd.C kStep w A0_1 n0_1 l0_1)) (hc0_1 : n0_1 ≤ c0_1) (R0_2 : Stable ws P0 (fun w => Kd.C (Kd.int .i64) w A0_2 n0_2 l0_2)) (hc0_2 : n0_2 ≤ c0_2) (r_1 : Int) (r_2 : Bool) (h : impl_TurnedCost.f k a0_0 l0_1 l0_2 = some (r_1, r_2)) :
    Calls Try.prog 71 #[.agg #[.int .i64 a0_0, .slice A0_1 n0_1 c0_1, .slice A0_2 n0_2 c0_2]] ws (Post1 w0 ws P0 (fun (_ : Unit) => .tuple #[.int .i64 r_1, .bool r_2]) (fun (_ : Unit) => [])) := by
  unfold impl_TurnedCost.f at h
  obtain rfl := (R0_1 ws (KeptB.refl _ _)).1
  obtain rfl := (R0_2 ws (KeptB.refl _ _)).1
  refine enter Try.func71 rfl Try.ntmps71 rfl hF ?_
  refine c_seq ?_
  refine za0 ?_
  refine o_e rfl (e_box rfl) (fun g1 => ?_)
  refine o_q rfl rfl (q_asg rfl) ?_
  refine o_q rfl rfl (q_asg rfl) ?_
  refine o_end ?_
  refine za1 ?_
  refine c_seq ?_
  refine c_seq ?_
  refine za0 ?_
  refine o_q rfl rfl (q_ldB G27 Z27 rfl (fun w h => h.zaa (i := 0) rfl) rfl) ?_
  refine za7 h (fun b4 hx3 h => ?_) rfl
  refine o_e rfl (zac 0 Z Try.func86 N86 rfl rfl rfl (fun w P1 hF hB hS hT => impl_IsPlan.calls k a0_0 A0_1 c0_1 l0_1.length l0_1 A0_2 c0_2 l0_2.length l0_2 hB hF (hS _ R0_1) hc0_1 (hS _ R0_2) hc0_2 _ hx3)) (fun _ => ?_)
  refine o_q rfl rfl (q_not rfl) ?_
  refine o_q rfl rfl (za2 rfl) ?_
  refine byB b4 (fun hb5 => ?_) (fun hb5 => ?_)
  · replace h := bb_t hb5 h
    refine za7 h (fun b7 hx6 h => ?_) rfl
    refine o_ew (za4 rfl rfl rfl (congrArg (fun b => Value.bool (!(b))) hb5)) (zac 0 Z Try.func155 N155 rfl rfl rfl (fun w P1 hF hB hS hT => impl_Plan_canTurn.calls g1 a0_0 A0_1 c0_1 l0_1.length l0_1 A0_2 c0_2 l0_2.length l0_2 hB hF (hS _ R0_1) hc0_1 (hS _ R0_2) hc0_2 (hT 0 _ rfl).box _ hx6)) (fun _ => ?_)
    refine o_w (za4 rfl rfl rfl (congrArg (fun b => Value.bool (!(b))) hb5)) rfl (q_not rfl) ?_
    refine o_q rfl rfl (zal false (congrArg (fun b => Value.bool (!(b))) hb5) rfl) ?_
    refine o_end ?_
    refine za1 ?_
    refine zar _ rfl (fun hb8 => ?_) (fun hb8 => ?_)
    · replace hb8 := nt_t hb8
      replace h := bb_f hb8 h
      refine c_seq ?_
      refine za0 ?_
      refine o_q rfl rfl (q_asg rfl) ?_
      refine o_q rfl rfl (q_asg rfl) ?_
      refine o_end ?_
      refine za1 ?_
      refine c_ret ?_
      refine za9 ?_
      have e0_ := Option.some.inj h; clear h
      have d0_ := (Prod.mk.inj e0_).1; have e1_ := (Prod.mk.inj e0_).2; clear e0_; subst d0_
      subst e1_
      exact x_r2 () Try.results71 (zaf rfl) (zaf rfl) rfl (fun w h => za5 [] (by decide) rfl w h)
    · replace hb8 := nt_f hb8
      replace h := bb_t hb8 h
      refine zam ?_
      refine za1 ?_
      refine c_seq ?_
      refine za0 ?_
      refine bindE2 h (fun l10 l11 hx9 h => ?_) rfl
      refine o_e rfl (zac 0 Z Try.func156 N156 rfl rfl rfl (fun w P1 hF hB hS hT => impl_Plan_turned.calls k g1 a0_0 A0_1 c0_1 l0_1.length l0_1 A0_2 c0_2 l0_2.length l0_2 hB hF (hS _ R0_1) hc0_1 (hS _ R0_2) hc0_2 (hT 0 _ rfl).box _ _ hx9)) (cur4 (fun A12 c13 A14 c15 => ?_))
      refine o_q rfl rfl (q_fv (fun w => D27_1 _ _ _ w) rfl) ?_
      refine o_q rfl rfl (q_len Try.underlying24 rfl) ?_
      refine o_q rfl rfl (q_asg rfl) ?_
      refine o_q rfl rfl (q_asg rfl) ?_
      refine o_end ?_
      refine za1 ?_
      refine c_ret ?_
      have e0_ := Option.some.inj h; clear h
      have d0_ := (Prod.mk.inj e0_).1; have e1_ := (Prod.mk.inj e0_).2; clear e0_; subst d0_
      subst e1_
      exact x_r2 () Try.results71 (zaf rfl) (zaf rfl) rfl (fun w h => za5 [] (by decide) rfl w h)
  · replace h := bb_f hb5 h
    refine @o_n _ _ _ _ _ _ _ _ _ _ _ 8 (za3 rfl rfl rfl (congrArg (fun b => Value.bool (!(b))) hb5) rfl) (Eq.refl (some 8)) ?_
    refine @o_n _ _ _ _ _ _ _ _ _ _ _ 9 (za3 rfl rfl rfl (congrArg (fun b => Value.bool (!(b))) hb5) rfl) (Eq.refl (some 9)) ?_
    refine o_q rfl rfl (zal true (congrArg (fun b => Value.bool (!(b))) hb5) rfl) ?_
    refine o_end ?_
    refine za1 ?_
    refine zb3 rfl ?_
    refine c_seq ?_
    refine za0 ?_
    refine o_q rfl rfl (q_asg rfl) ?_
    refine o_q rfl rfl (q_asg rfl) ?_
    refine o_end ?_
    refine za1 ?_
    refine c_ret ?_
    refine za9 ?_
    have e0_ := Option.some.inj h; clear h
    have d0_ := (Prod.mk.inj e0_).1; have e1_ := (Prod.mk.inj e0_).2; clear e0_; subst d0_
    subst e1_
    exact x_r2 () Try.results71 (zaf rfl) (zaf rfl) rfl (fun w h => za5 [] (by decide) rfl w h)

/-! ### slices.Clone[[]int,int]: function 141 -/
def slices_Clone_int_int.f (l0 : List Int) : Option (List Int) := (ap ([] : List Int) l0).bind fun l5 => some l5
set_option maxHeartbeats 600000 in
set_option maxRecDepth 100000 in
theorem slices_Clone_int_int.calls {w0 ws : World} {P0 : Nat → Prop} (A0 : Option Addr) (c0 : Nat) (n0 : Nat) (l0 : List Int) (Z : Below w0.heap.size w0 ws) (hF : Fr w0 ws P0 [] ws) (R0 : Stable ws P0 (fun w => Kd.C (Kd.int .i64) w A0 n0 l0)) (hc0 : n0 ≤ c0) (r_1 : List Int) (h : slices_Clone_int_int.f l0 = some r_1) :
    Calls Try.prog 141 #[.slice A0 n0 c0] ws (Post1 w0 ws P0 (fun ((q_2, q_3) : (Option Addr) × Nat) => .slice q_2 r_1.length q_3) (fun ((q_2, q_3) : (Option Addr) × Nat) => [row (Kd.int .i64) 3 (.slice q_2 r_1.length q_3) r_1])) := by
  unfold slices_Clone_int_int.f at h
  obtain rfl := (R0 ws (KeptB.refl _ _)).1
  refine enter Try.func141 rfl Try.ntmps141 rfl hF ?_
  refine c_seq ?_
  refine za0 ?_
  refine o_q rfl rfl (q_asg rfl) ?_
  refine o_end ?_
  refine za1 ?_
  refine c_seq ?_
  refine c_seq ?_
  refine za0 ?_
  refine o_q rfl rfl (za2 rfl) ?_
  refine o_q rfl rfl (q_snil Try.underlying25 rfl rfl) ?_
  refine o_end ?_
  refine za1 ?_
  refine zar _ rfl (fun hb1 => ?_) (fun hb1 => ?_)
  · skip
    have hl_ := nil_of hb1 (R0 ws (KeptB.refl _ _)); subst hl_
    replace h : some ([] : List Int) = some r_1 := h
    refine c_seq ?_
    refine za0 ?_
    refine o_q rfl rfl (q_asg rfl) ?_
    refine o_end ?_
    refine za1 ?_
    refine c_ret ?_
    refine za9 ?_
    refine x_nil (Kd.int .i64) 3 ?_
    have e0_ := Option.some.inj h; clear h
    subst e0_
    exact x_r1 (none, 0) Try.results141 (zaf rfl) rfl (fun w h => za5 [0] (by decide) rfl w h)
  · skip
    refine zam ?_
    refine za1 ?_
    refine c_seq ?_
    refine za0 ?_
    refine o_e rfl (e_lit0 (Kd.int .i64) Try.underlying25 I3) (cur2 (fun A2 c3 => ?_))
    refine o_q rfl rfl (za2 rfl) ?_
    refine za7 h (fun l5 ha6 h => ?_) rfl
    refine o_e rfl (e_appr (i := 0) Try.underlying25 I3 rfl (by decide) (by decide) (fun _ _ _ _ h => h) rfl (fun w h => R0.now Z h) rfl rfl ha6) (cur2 (fun A7 c8 => ?_))
    refine o_q rfl rfl (q_asg rfl) ?_
    refine o_end ?_
    refine za1 ?_
    refine c_ret ?_
    have e0_ := Option.some.inj h; clear h
    subst e0_
    exact x_r1 (A7, c8) Try.results141 (zaf rfl) rfl (fun w h => za5 [0] (by decide) rfl w h)

/-! ### (*loop.example/g01098/impl.Plan).outputExponents: function 135 -/
def impl_Plan_outputExponents.l0 (l2 : List (List Int)) : (List Int) → (List (List Int)) → Int → Option (List (List Int))
  | [], l9, i13 => some l9
  | y14 :: ys15, l9, i13 => (gt l2 y14).bind fun y27 => (slices_Clone_int_int.f y27).bind fun l30 => (ap l9 ([l30] : List (List Int))).bind fun l37 => impl_Plan_outputExponents.l0 l2 ys15 l37 (i13 + 1)
def impl_Plan_outputExponents.f (a0_0 : Int) (l0_1 : List SStep) (l0_2 : List Int) : Option (List (List Int)) := (impl_Plan_exponents.f a0_0 l0_1 l0_2).bind fun l2 => (impl_Plan_outputExponents.l0 l2 l0_2 ([] : List (List Int)) 0).bind fun l9 => some l9
set_option maxHeartbeats 600000 in
set_option maxRecDepth 100000 in
theorem impl_Plan_outputExponents.calls {w0 ws : World} {P0 : Nat → Prop} (g0 : Nat) (a0_0 : Int) (A0_1 : Option Addr) (c0_1 : Nat) (n0_1 : Nat) (l0_1 : List SStep) (A0_2 : Option Addr) (c0_2 : Nat) (n0_2 : Nat) (l0_2 : List Int) (Z : Below w0.heap.size w0 ws) (hF : Fr w0 ws P0 [] ws) (R0_1 : Stable ws P0 (fun w => Kd.C kStep w A0_1 n0_1 l0_1)) (hc0_1 : n0_1 ≤ c0_1) (R0_2 : Stable ws P0 (fun w => Kd.C (Kd.int .i64) w A0_2 n0_2 l0_2)) (hc0_2 : n0_2 ≤ c0_2) (B0 : Stable ws P0 (fun w => w.heap[g0]? = some (.cells #[.int .i64 a0_0, .slice A0_1 n0_1 c0_1, .slice A0_2 n0_2 c0_2] 27 (0, 0)))) (r_1 : List (List Int)) (h : impl_Plan_outputExponents.f a0_0 l0_1 l0_2 = some r_1) :
    Calls Try.prog 135 #[.pointer (some ⟨g0, 0, none⟩)] ws (Post1 w0 ws P0 (fun ((q_2, q_3, q_4) : (Option Addr) × Nat × Hd) => .slice q_2 r_1.length q_3) (fun ((q_2, q_3, q_4) : (Option Addr) × Nat × Hd) => [row (gk 3 (Kd.int .i64)) 25 (.slice q_2 r_1.length q_3) (zp q_4 r_1)])) := by
  unfold impl_Plan_outputExponents.f at h
  obtain rfl := (R0_1 ws (KeptB.refl _ _)).1
  obtain rfl := (R0_2 ws (KeptB.refl _ _)).1
  refine enter Try.func135 rfl Try.ntmps135 rfl hF ?_
  refine c_seq ?_
  refine za0 ?_
  refine o_q rfl rfl (q_asg rfl) ?_
  refine o_end ?_
  refine za1 ?_
  refine c_seq ?_
  refine za0 ?_
  refine o_q rfl rfl (za2 rfl) ?_
  refine za7 h (fun l2 hx1 h => ?_) rfl
  refine o_e rfl (zac 0 Z Try.func120 N120 rfl rfl rfl (fun w P1 hF hB hS hT => impl_Plan_exponents.calls g0 a0_0 A0_1 c0_1 l0_1.length l0_1 A0_2 c0_2 l0_2.length l0_2 hB hF (hS _ R0_1) hc0_1 (hS _ R0_2) hc0_2 (hS _ B0) _ hx1)) (cur3 (fun A3 c4 H5 => ?_))
  refine o_e rfl (e_lit0 (gk 3 (Kd.int .i64)) Try.underlying60 I25) (cur2 (fun A6 c7 => ?_))
  refine o_q rfl rfl (q_asg rfl) ?_
  refine o_q rfl rfl (q_asg rfl) ?_
  refine o_end ?_
  refine za1 ?_
  refine c_seq ?_
  refine c_seq ?_
  refine za0 ?_
  refine o_q rfl rfl (za2 rfl) ?_
  refine o_q rfl rfl (q_nil rfl) ?_
  refine o_q rfl rfl (q_f F27_2 rfl) ?_
  refine o_q rfl rfl (q_ldb Y25 rfl (fun w h => B0.now Z h) rfl) ?_
  refine o_q rfl rfl (q_len Try.underlying25 rfl) ?_
  refine o_q rfl rfl (za2 rfl) ?_
  refine o_end ?_
  refine za1 ?_
  refine zaj ?_
  refine za7 h (fun o21 hl20 hR19 => ?_) rfl
  clear h
  refine c_fact (p := l0_2.length ≤ 9223372036854775807) (fun w h => (R0_2.now Z h).2.1) (fun hm18 => ?_)
  refine zav (σ := (List Int) × (List (List Int)) × Int × (Option Addr) × Nat × Hd) (fun k16 ((ys15, l9, i13, A10, c11, H12) : (List Int) × (List (List Int)) × Int × (Option Addr) × Nat × Hd) => Rg l0_2 i13 ys15 ∧ ys15.length = k16 ∧ impl_Plan_outputExponents.l0 l2 ys15 l9 i13 = some o21) [4, 6, 15, 16, 17, 18, 19, 20, 21, 22, 23, 24, 25, 26, 27] (fun ((ys15, l9, i13, A10, c11, H12) : (List Int) × (List (List Int)) × Int × (Option Addr) × Nat × Hd) => [(4, .slice A10 l9.length c11), (15, .int .i64 i13)]) (fun ((ys15, l9, i13, A10, c11, H12) : (List Int) × (List (List Int)) × Int × (Option Addr) × Nat × Hd) => [row (gk 3 (Kd.int .i64)) 25 (.slice A10 l9.length c11) (zp H12 l9), row (gk 3 (Kd.int .i64)) 25 (.slice A3 l2.length c4) (zp H5 l2)]) l0_2.length (l0_2, ([] : List (List Int)), 0, A6, c7, ([] : Hd)) ⟨Rg.start _, rfl, hl20⟩ ⟨rfl, rfl, trivial⟩ (fun w h => h) ?_
  refine fun k16 => cur6 (listC (fun l9 i13 A10 c11 H12 U22 hJ_ => ?_) (fun y14 ys15 l9 i13 A10 c11 H12 U22 hJ_ => ?_))
  · skip
    clear hl20
    have hr17 := hJ_.1; have hk23 := hJ_.2.1; have h := hJ_.2.2; clear hJ_
    replace h : impl_Plan_outputExponents.l0 l2 [] l9 i13 = some o21 := h
    rw [impl_Plan_outputExponents.l0] at h
    refine c_seq ?_
    refine za0 ?_
    refine o_q rfl rfl (q_lss rfl rfl) ?_
    refine o_end ?_
    refine za1 ?_
    refine c_seq ?_
    refine zb2 (congrArg Value.bool hr17.ge) ?_
    refine c_exit ?_
    refine za6 ?_
    refine za6 ?_
    have e_ := Option.some.inj h; replace h := hR19; rw [← e_] at h; clear e_
    refine x_hit ?_
    refine za1 ?_
    refine c_seq ?_
    refine za0 ?_
    refine o_q rfl rfl (za2 rfl) ?_
    refine o_q rfl rfl (q_asg rfl) ?_
    refine o_end ?_
    refine za1 ?_
    refine c_ret ?_
    have e0_ := Option.some.inj h; clear h
    subst e0_
    exact x_r1 (A10, c11, H12) Try.results135 (zaf rfl) rfl (fun w h => za5 [0] (by decide) rfl w h)
  · skip
    clear hl20
    have hr17 := hJ_.1; have hk23 := hJ_.2.1; have h := hJ_.2.2; clear hJ_
    replace h : impl_Plan_outputExponents.l0 l2 (y14 :: ys15) l9 i13 = some o21 := h
    rw [impl_Plan_outputExponents.l0] at h
    refine c_seq ?_
    refine za0 ?_
    refine o_q rfl rfl (q_lss rfl rfl) ?_
    refine o_end ?_
    refine za1 ?_
    refine c_seq ?_
    refine zb3 (congrArg Value.bool hr17.lt) ?_
    refine zam ?_
    refine za1 ?_
    refine c_seq ?_
    refine zaj ?_
    refine c_seq ?_
    refine za0 ?_
    refine zas (p := Sh A0_2 l0_2.length l0_2.length) (fun w h => f_sh (dk := (Kd.int .i64)) h (fun w h => R0_2.now Z h)) (fun hq24 => ?_)
    refine o_q rfl rfl (q_ix Try.underlying25 Z3 rfl rfl hq24 hr17.get) ?_
    refine o_q rfl rfl (q_lde (off := 0) Y3 rfl rfl (fun w h => R0_2.now Z h) hr17.get (fun _ _ h => h) rfl) ?_
    refine o_q rfl rfl (q_asg rfl) ?_
    refine o_end ?_
    refine za1 ?_
    refine za0 ?_
    refine o_q rfl rfl (za2 rfl) ?_
    refine o_q rfl rfl (za2 rfl) ?_
    refine o_q rfl rfl (za2 rfl) ?_
    refine zas (p := Sh A3 l2.length (zp H5 l2).length) (fun w h => f_sh (dk := (gk 3 (Kd.int .i64))) h (fun w h => h.zaw (i := 1) rfl)) (fun hq25 => ?_)
    refine za7 h (fun y27 hg26 h => ?_) rfl
    refine o_q rfl rfl (q_ix Try.underlying60 Z25 rfl rfl hq25 (gt_zp hg26)) ?_
    refine zas (p := y27.length ≤ hC H5 y14) (fun w h => (K_in (h.zaw (i := 1) rfl) hg26).1) (fun hc28 => ?_)
    refine o_q rfl rfl (q_lde (off := 0) Y25 rfl rfl (fun w h => h.zaw (i := 1) rfl) (gt_zp hg26) (fun _ _ h => h.1) rfl) ?_
    refine za7 h (fun l30 hx29 h => ?_) rfl
    refine o_e rfl (zac 0 Z Try.func141 N141 rfl rfl rfl (fun w P1 hF hB hS hT => slices_Clone_int_int.calls (hA H5 y14) (hC H5 y14) y27.length y27 hB hF (stab_in (hT 1 _ rfl).row hg26) hc28 _ hx29)) (cur2 (fun A31 c32 => ?_))
    refine o_e rfl (e_litG (j := 0) (ue := 3) (dk := (Kd.int .i64)) (ys := l30) Try.underlying60 I25 rfl rfl rfl) (cur3 (fun A33 c34 H36 => ?_))
    refine za7 h (fun l37 ha38 h => ?_) rfl
    refine o_e rfl (e_appG (i := 2) (j := 0) Try.underlying60 I25 rfl (by decide) rfl rfl rfl rfl rfl ha38) (cur3 (fun A39 c40 H41 => ?_))
    refine o_q rfl rfl (q_asg rfl) ?_
    refine o_end ?_
    refine zan ?_
    refine za1 ?_
    refine za0 ?_
    refine o_q rfl rfl (q_up rfl rfl (hr17.up hm18)) ?_
    refine o_q rfl rfl (za2 rfl) ?_
    refine o_end ?_
    refine zak ys15.length (ys15, l37, i13 + 1, A39, c40, H41) (by rw [← hk23]; exact Nat.lt_succ_self _) ⟨hr17.step, rfl, h⟩ ⟨rfl, rfl, trivial⟩ (fun w h => za5 [2, 3] (by decide) rfl w h) ?_
    repeat (first | exact zad _ _ | refine zah rfl ?_ | refine zae rfl ?_ | refine zai rfl ?_)

/-! ### loop.example/g01098/impl.OutputExponents: function 52 -/
def impl_OutputExponents.f (k : Nat) (a0_0 : Int) (l0_1 : List SStep) (l0_2 : List Int) : Option ((List (List Int)) × Bool) := (impl_IsPlan.f k a0_0 l0_1 l0_2).bind fun b4 => if b4 = true then ((impl_Plan_outputExponents.f a0_0 l0_1 l0_2).bind fun l7 => some (l7, true)) else (some (([] : List (List Int)), false))
set_option maxHeartbeats 600000 in
set_option maxRecDepth 100000 in
theorem impl_OutputExponents.calls (k : Nat) {w0 ws : World} {P0 : Nat → Prop} (a0_0 : Int) (A0_1 : Option Addr) (c0_1 : Nat) (n0_1 : Nat) (l0_1 : List SStep) (A0_2 : Option Addr) (c0_2 : Nat) (n0_2 : Nat) (l0_2 : List Int) (Z : Below w0.heap.size w0 ws) (hF : Fr w0 ws P0 [] ws) (R0_1 : Stable ws P0 (fun w => Kd.C kStep w A0_1 n0_1 l0_1)) (hc0_1 : n0_1 ≤ c0_1) (R0_2 : Stable ws P0 (fun w => Kd.C (Kd.int .i64) w A0_2 n0_2 l0_2)) (hc0_2 : n0_2 ≤ c0_2) (r_1 : List (List Int)) (r_5 : Bool) (h : impl_OutputExponents.f k a0_0 l0_1 l0_2 = some (r_1, r_5)) :
    Calls Try.prog 52 #[.agg #[.int .i64 a0_0, .slice A0_1 n0_1 c0_1, .slice A0_2 n0_2 c0_2]] ws (Post1 w0 ws P0 (fun ((q_2, q_3, q_4) : (Option Addr) × Nat × Hd) => .tuple #[.slice q_2 r_1.length q_3, .bool r_5]) (fun ((q_2, q_3, q_4) : (Option Addr) × Nat × Hd) => [row (gk 3 (Kd.int .i64)) 25 (.slice q_2 r_1.length q_3) (zp q_4 r_1)])) := by
  unfold impl_OutputExponents.f at h
  obtain rfl := (R0_1 ws (KeptB.refl _ _)).1
  obtain rfl := (R0_2 ws (KeptB.refl _ _)).1
  refine enter Try.func52 rfl Try.ntmps52 rfl hF ?_
  refine c_seq ?_
  refine za0 ?_
  refine o_e rfl (e_box rfl) (fun g1 => ?_)
  refine o_q rfl rfl (q_asg rfl) ?_
  refine o_q rfl rfl (q_asg rfl) ?_
  refine o_end ?_
  refine za1 ?_
  refine c_seq ?_
  refine c_seq ?_
  refine za0 ?_
  refine o_q rfl rfl (q_ldB G27 Z27 rfl (fun w h => h.zaa (i := 0) rfl) rfl) ?_
  refine za7 h (fun b4 hx3 h => ?_) rfl
  refine o_e rfl (zac 0 Z Try.func86 N86 rfl rfl rfl (fun w P1 hF hB hS hT => impl_IsPlan.calls k a0_0 A0_1 c0_1 l0_1.length l0_1 A0_2 c0_2 l0_2.length l0_2 hB hF (hS _ R0_1) hc0_1 (hS _ R0_2) hc0_2 _ hx3)) (fun _ => ?_)
  refine o_q rfl rfl (q_not rfl) ?_
  refine o_end ?_
  refine za1 ?_
  refine zar _ rfl (fun hb5 => ?_) (fun hb5 => ?_)
  · replace hb5 := nt_t hb5
    replace h := bb_f hb5 h
    refine c_seq ?_
    refine za0 ?_
    refine o_q rfl rfl (q_asg rfl) ?_
    refine o_q rfl rfl (q_asg rfl) ?_
    refine o_end ?_
    refine za1 ?_
    refine c_ret ?_
    refine za9 ?_
    refine x_nil (gk 3 (Kd.int .i64)) 25 ?_
    have e0_ := Option.some.inj h; clear h
    have d0_ := (Prod.mk.inj e0_).1; have e1_ := (Prod.mk.inj e0_).2; clear e0_; subst d0_
    subst e1_
    exact x_r2 (none, 0, ([] : Hd)) Try.results52 (zaf rfl) (zaf rfl) rfl (fun w h => za5 [0] (by decide) rfl w h)
  · replace hb5 := nt_f hb5
    replace h := bb_t hb5 h
    refine zam ?_
    refine za1 ?_
    refine c_seq ?_
    refine za0 ?_
    refine za7 h (fun l7 hx6 h => ?_) rfl
    refine o_e rfl (zac 0 Z Try.func135 N135 rfl rfl rfl (fun w P1 hF hB hS hT => impl_Plan_outputExponents.calls g1 a0_0 A0_1 c0_1 l0_1.length l0_1 A0_2 c0_2 l0_2.length l0_2 hB hF (hS _ R0_1) hc0_1 (hS _ R0_2) hc0_2 (hT 0 _ rfl).box _ hx6)) (cur3 (fun A8 c9 H10 => ?_))
    refine o_q rfl rfl (q_asg rfl) ?_
    refine o_q rfl rfl (q_asg rfl) ?_
    refine o_end ?_
    refine za1 ?_
    refine c_ret ?_
    have e0_ := Option.some.inj h; clear h
    have d0_ := (Prod.mk.inj e0_).1; have e1_ := (Prod.mk.inj e0_).2; clear e0_; subst d0_
    subst e1_
    exact x_r2 (A8, c9, H10) Try.results52 (zaf rfl) (zaf rfl) rfl (fun w h => za5 [0] (by decide) rfl w h)

/-! ### loop.example/g01098/impl.TransposeRows$1: function 160 -/
def impl_TransposeRows_1.f (l0 : List Int) (l1_0 : List (List Int)) : Option Bool := (gt l1_0 0).bind fun y3 => some (decide ((l0.length : Int) ≠ (y3.length : Int)))
set_option maxHeartbeats 600000 in
set_option maxRecDepth 100000 in
theorem impl_TransposeRows_1.calls {w0 ws : World} {P0 : Nat → Prop} (A0 : Option Addr) (c0 : Nat) (n0 : Nat) (l0 : List Int) (g1 : Nat) (A1_0 : Option Addr) (c1_0 : Nat) (n1_0 : Nat) (H1_0 : Hd) (l1_0 : List (List Int)) (Z : Below w0.heap.size w0 ws) (hF : Fr w0 ws P0 [] ws) (R0 : Stable ws P0 (fun w => Kd.C (Kd.int .i64) w A0 n0 l0)) (hc0 : n0 ≤ c0) (R1_0 : Stable ws P0 (fun w => Kd.C (gk 3 (Kd.int .i64)) w A1_0 n1_0 (zp H1_0 l1_0))) (hc1_0 : n1_0 ≤ c1_0) (B1 : Stable ws P0 (fun w => w.heap[g1]? = some (.cells #[.slice A1_0 n1_0 c1_0] 60 (0, 0)))) (r_1 : Bool) (h : impl_TransposeRows_1.f l0 l1_0 = some r_1) :
    Calls Try.prog 160 #[.slice A0 n0 c0, .pointer (some ⟨g1, 0, none⟩)] ws (Post1 w0 ws P0 (fun (_ : Unit) => .bool r_1) (fun (_ : Unit) => [])) := by
  unfold impl_TransposeRows_1.f at h
  obtain rfl := (R0 ws (KeptB.refl _ _)).1
  obtain rfl := (zp_len _ _).symm.trans (R1_0 ws (KeptB.refl _ _)).1
  refine enter Try.func160 rfl Try.ntmps160 rfl hF ?_
  refine c_seq ?_
  refine za0 ?_
  refine o_q rfl rfl (q_asg rfl) ?_
  refine o_end ?_
  refine za1 ?_
  refine c_seq ?_
  refine za0 ?_
  refine o_q rfl rfl (za2 rfl) ?_
  refine o_q rfl rfl (q_len Try.underlying25 rfl) ?_
  refine o_q rfl rfl (q_ldb Y60 rfl (fun w h => B1.now Z h) rfl) ?_
  refine zas (p := Sh A1_0 l1_0.length (zp H1_0 l1_0).length) (fun w h => f_sh (dk := (gk 3 (Kd.int .i64))) h (fun w h => R1_0.now Z h)) (fun hq1 => ?_)
  refine za7 h (fun y3 hg2 h => ?_) rfl
  refine o_q rfl rfl (q_ix Try.underlying60 Z25 rfl rfl hq1 (gt_zp hg2)) ?_
  refine zas (p := y3.length ≤ hC H1_0 (0 : Int)) (fun w h => (K_in (R1_0.now Z h) hg2).1) (fun hc4 => ?_)
  refine o_q rfl rfl (q_lde (off := 0) Y25 rfl rfl (fun w h => R1_0.now Z h) (gt_zp hg2) (fun _ _ h => h.1) rfl) ?_
  refine o_q rfl rfl (q_len Try.underlying25 rfl) ?_
  refine o_q rfl rfl (q_neq rfl rfl) ?_
  refine o_q rfl rfl (q_asg rfl) ?_
  refine o_end ?_
  refine za1 ?_
  refine c_ret ?_
  have e0_ := Option.some.inj h; clear h
  subst e0_
  exact x_r1 () Try.results160 (zaf rfl) rfl (fun w h => za5 [] (by decide) rfl w h)

/-! ### slices.IndexFunc[[][]int,[]int]: function 191 -/
def slices_IndexFunc_int_int_3.l0 (l1_c0_0 : List (List Int)) : (List (List Int)) → Int → Option ((Int) ⊕ (Unit))
  | [], i1 => some (.inr ())
  | y2 :: ys3, i1 => (impl_TransposeRows_1.f y2 l1_c0_0).bind fun b15 => if b15 = true then (some (.inl i1)) else (slices_IndexFunc_int_int_3.l0 l1_c0_0 ys3 (i1 + 1))
def slices_IndexFunc_int_int_3.f (l0 : List (List Int)) (l1_c0_0 : List (List Int)) : Option Int := (slices_IndexFunc_int_int_3.l0 l1_c0_0 l0 0).bind fun o_ => match o_ with | .inl r_ => some r_ | .inr _ => some (-1)
set_option maxHeartbeats 600000 in
set_option maxRecDepth 100000 in
theorem slices_IndexFunc_int_int_3.calls {w0 ws : World} {P0 : Nat → Prop} (A0 : Option Addr) (c0 : Nat) (n0 : Nat) (H0 : Hd) (l0 : List (List Int)) (g1_c0 : Nat) (A1_c0_0 : Option Addr) (c1_c0_0 : Nat) (n1_c0_0 : Nat) (H1_c0_0 : Hd) (l1_c0_0 : List (List Int)) (Z : Below w0.heap.size w0 ws) (hF : Fr w0 ws P0 [] ws) (R0 : Stable ws P0 (fun w => Kd.C (gk 3 (Kd.int .i64)) w A0 n0 (zp H0 l0))) (hc0 : n0 ≤ c0) (R1_c0_0 : Stable ws P0 (fun w => Kd.C (gk 3 (Kd.int .i64)) w A1_c0_0 n1_c0_0 (zp H1_c0_0 l1_c0_0))) (hc1_c0_0 : n1_c0_0 ≤ c1_c0_0) (B1_c0 : Stable ws P0 (fun w => w.heap[g1_c0]? = some (.cells #[.slice A1_c0_0 n1_c0_0 c1_c0_0] 60 (0, 0)))) (r_1 : Int) (h : slices_IndexFunc_int_int_3.f l0 l1_c0_0 = some r_1) :
    Calls Try.prog 191 #[.slice A0 n0 c0, .func (.func 160) #[] #[.pointer (some ⟨g1_c0, 0, none⟩)]] ws (Post1 w0 ws P0 (fun (_ : Unit) => .int .i64 r_1) (fun (_ : Unit) => [])) := by
  unfold slices_IndexFunc_int_int_3.f at h
  obtain rfl := (zp_len _ _).symm.trans (R0 ws (KeptB.refl _ _)).1
  obtain rfl := (zp_len _ _).symm.trans (R1_c0_0 ws (KeptB.refl _ _)).1
  refine enter Try.func191 rfl Try.ntmps191 rfl hF ?_
  refine c_seq ?_
  refine za0 ?_
  refine o_q rfl rfl (q_asg rfl) ?_
  refine o_end ?_
  refine za1 ?_
  refine c_seq ?_
  refine c_seq ?_
  refine za0 ?_
  refine o_q rfl rfl (za2 rfl) ?_
  refine o_q rfl rfl (q_len Try.underlying60 rfl) ?_
  refine o_q rfl rfl (za2 rfl) ?_
  refine o_end ?_
  refine za1 ?_
  refine zaj ?_
  refine za7 h (fun o9 hl8 hR7 => ?_) rfl
  clear h
  refine c_fact (p := l0.length ≤ 9223372036854775807) (fun w h => (R0.now Z h).2.1) (fun hm6 => ?_)
  refine zav (σ := (List (List Int)) × Int) (fun k4 ((ys3, i1) : (List (List Int)) × Int) => Rg l0 i1 ys3 ∧ ys3.length = k4 ∧ slices_IndexFunc_int_int_3.l0 l1_c0_0 ys3 i1 = some o9) [4, 5, 8, 9, 10, 11, 12, 13, 14, 15, 16, 17, 18] (fun ((ys3, i1) : (List (List Int)) × Int) => [(8, .int .i64 i1)]) (fun ((ys3, i1) : (List (List Int)) × Int) => []) l0.length (l0, 0) ⟨Rg.start _, rfl, hl8⟩ ⟨rfl, trivial⟩ (fun w h => h) ?_
  refine fun k4 => cur2 (listC (fun i1 U10 hJ_ => ?_) (fun y2 ys3 i1 U10 hJ_ => ?_))
  · skip
    clear hl8
    have hr5 := hJ_.1; have hk11 := hJ_.2.1; have h := hJ_.2.2; clear hJ_
    replace h : slices_IndexFunc_int_int_3.l0 l1_c0_0 [] i1 = some o9 := h
    rw [slices_IndexFunc_int_int_3.l0] at h
    refine c_seq ?_
    refine za0 ?_
    refine o_q rfl rfl (q_lss rfl rfl) ?_
    refine o_end ?_
    refine za1 ?_
    refine c_seq ?_
    refine zb2 (congrArg Value.bool hr5.ge) ?_
    refine c_exit ?_
    refine za6 ?_
    refine za6 ?_
    have e_ := Option.some.inj h; replace h := hR7; rw [← e_] at h; clear e_
    refine x_hit ?_
    refine za1 ?_
    refine c_seq ?_
    refine za0 ?_
    refine o_q rfl rfl (q_asg rfl) ?_
    refine o_end ?_
    refine za1 ?_
    refine c_ret ?_
    have e0_ := Option.some.inj h; clear h
    subst e0_
    exact x_r1 () Try.results191 (zaf rfl) rfl (fun w h => za5 [] (by decide) rfl w h)
  · skip
    clear hl8
    have hr5 := hJ_.1; have hk11 := hJ_.2.1; have h := hJ_.2.2; clear hJ_
    replace h : slices_IndexFunc_int_int_3.l0 l1_c0_0 (y2 :: ys3) i1 = some o9 := h
    rw [slices_IndexFunc_int_int_3.l0] at h
    refine c_seq ?_
    refine za0 ?_
    refine o_q rfl rfl (q_lss rfl rfl) ?_
    refine o_end ?_
    refine za1 ?_
    refine c_seq ?_
    refine zb3 (congrArg Value.bool hr5.lt) ?_
    refine zam ?_
    refine za1 ?_
    refine c_seq ?_
    refine zaj ?_
    refine c_seq ?_
    refine za0 ?_
    refine o_q rfl rfl (za2 rfl) ?_
    refine o_q rfl rfl (q_asg rfl) ?_
    refine o_end ?_
    refine za1 ?_
    refine c_seq ?_
    refine za0 ?_
    refine o_q rfl rfl (za2 rfl) ?_
    refine o_q rfl rfl (za2 rfl) ?_
    refine o_q rfl rfl (za2 rfl) ?_
    refine zas (p := Sh A0 l0.length (zp H0 l0).length) (fun w h => f_sh (dk := (gk 3 (Kd.int .i64))) h (fun w h => R0.now Z h)) (fun hq12 => ?_)
    refine o_q rfl rfl (q_ix Try.underlying60 Z25 rfl rfl hq12 (gt_zp hr5.get)) ?_
    refine zas (p := y2.length ≤ hC H0 i1) (fun w h => (K_in (R0.now Z h) hr5.get).1) (fun hc13 => ?_)
    refine o_q rfl rfl (q_lde (off := 0) Y25 rfl rfl (fun w h => R0.now Z h) (gt_zp hr5.get) (fun _ _ h => h.1) rfl) ?_
    refine za7 h (fun b15 hx14 h => ?_) rfl
    refine o_e rfl (zac 0 Z Try.func160 N160 rfl rfl rfl (fun w P1 hF hB hS hT => impl_TransposeRows_1.calls (hA H0 i1) (hC H0 i1) y2.length y2 g1_c0 A1_c0_0 c1_c0_0 l1_c0_0.length H1_c0_0 l1_c0_0 hB hF (stab_in (hS _ R0) hr5.get) hc13 (hS _ R1_c0_0) hc1_c0_0 (hS _ B1_c0) _ hx14)) (fun _ => ?_)
    refine o_end ?_
    refine za1 ?_
    refine zar _ rfl (fun hb16 => ?_) (fun hb16 => ?_)
    · skip
      replace h := bb_t hb16 h
      refine c_seq ?_
      refine za0 ?_
      refine o_q rfl rfl (za2 rfl) ?_
      refine o_q rfl rfl (q_asg rfl) ?_
      refine o_end ?_
      refine za1 ?_
      refine c_ret ?_
      refine zao ?_
      refine za9 ?_
      refine za9 ?_
      have e_ := Option.some.inj h; replace h := hR7; rw [← e_] at h; clear e_
      refine zao ?_
      refine za9 ?_
      have e0_ := Option.some.inj h; clear h
      subst e0_
      exact x_r1 () Try.results191 (zaf rfl) rfl (fun w h => za5 [] (by decide) rfl w h)
    · skip
      replace h := bb_f hb16 h
      refine zam ?_
      refine zan ?_
      refine za1 ?_
      refine za0 ?_
      refine o_q rfl rfl (q_up rfl rfl (hr5.up hm6)) ?_
      refine o_q rfl rfl (za2 rfl) ?_
      refine o_end ?_
      refine zak ys3.length (ys3, i1 + 1) (by rw [← hk11]; exact Nat.lt_succ_self _) ⟨hr5.step, rfl, h⟩ ⟨rfl, trivial⟩ (fun w h => za5 [] (by decide) rfl w h) ?_
      repeat (first | exact zad _ _ | refine zah rfl ?_ | refine zae rfl ?_ | refine zai rfl ?_)

/-! ### slices.ContainsFunc[[][]int,[]int]: function 159 -/
def slices_ContainsFunc_int_int_3.f (l0 : List (List Int)) (l1_c0_0 : List (List Int)) : Option Bool := (slices_IndexFunc_int_int_3.f l0 l1_c0_0).bind fun i2 => some (decide (0 ≤ i2))
set_option maxHeartbeats 600000 in
set_option maxRecDepth 100000 in
theorem slices_ContainsFunc_int_int_3.calls {w0 ws : World} {P0 : Nat → Prop} (A0 : Option Addr) (c0 : Nat) (n0 : Nat) (H0 : Hd) (l0 : List (List Int)) (g1_c0 : Nat) (A1_c0_0 : Option Addr) (c1_c0_0 : Nat) (n1_c0_0 : Nat) (H1_c0_0 : Hd) (l1_c0_0 : List (List Int)) (Z : Below w0.heap.size w0 ws) (hF : Fr w0 ws P0 [] ws) (R0 : Stable ws P0 (fun w => Kd.C (gk 3 (Kd.int .i64)) w A0 n0 (zp H0 l0))) (hc0 : n0 ≤ c0) (R1_c0_0 : Stable ws P0 (fun w => Kd.C (gk 3 (Kd.int .i64)) w A1_c0_0 n1_c0_0 (zp H1_c0_0 l1_c0_0))) (hc1_c0_0 : n1_c0_0 ≤ c1_c0_0) (B1_c0 : Stable ws P0 (fun w => w.heap[g1_c0]? = some (.cells #[.slice A1_c0_0 n1_c0_0 c1_c0_0] 60 (0, 0)))) (r_1 : Bool) (h : slices_ContainsFunc_int_int_3.f l0 l1_c0_0 = some r_1) :
    Calls Try.prog 159 #[.slice A0 n0 c0, .func (.func 160) #[] #[.pointer (some ⟨g1_c0, 0, none⟩)]] ws (Post1 w0 ws P0 (fun (_ : Unit) => .bool r_1) (fun (_ : Unit) => [])) := by
  unfold slices_ContainsFunc_int_int_3.f at h
  obtain rfl := (zp_len _ _).symm.trans (R0 ws (KeptB.refl _ _)).1
  obtain rfl := (zp_len _ _).symm.trans (R1_c0_0 ws (KeptB.refl _ _)).1
  refine enter Try.func159 rfl Try.ntmps159 rfl hF ?_
  refine c_seq ?_
  refine za0 ?_
  refine o_q rfl rfl (q_asg rfl) ?_
  refine o_end ?_
  refine za1 ?_
  refine c_seq ?_
  refine za0 ?_
  refine o_q rfl rfl (za2 rfl) ?_
  refine o_q rfl rfl (za2 rfl) ?_
  refine za7 h (fun i2 hx1 h => ?_) rfl
  refine o_e rfl (zac 0 Z Try.func191 N191 rfl rfl rfl (fun w P1 hF hB hS hT => slices_IndexFunc_int_int_3.calls A0 c0 l0.length H0 l0 g1_c0 A1_c0_0 c1_c0_0 l1_c0_0.length H1_c0_0 l1_c0_0 hB hF (hS _ R0) hc0 (hS _ R1_c0_0) hc1_c0_0 (hS _ B1_c0) _ hx1)) (fun _ => ?_)
  refine o_q rfl rfl (q_geq rfl rfl) ?_
  refine o_q rfl rfl (q_asg rfl) ?_
  refine o_end ?_
  refine za1 ?_
  refine c_ret ?_
  have e0_ := Option.some.inj h; clear h
  subst e0_
  exact x_r1 () Try.results159 (zaf rfl) rfl (fun w h => za5 [] (by decide) rfl w h)

/-! ### loop.example/g01098/impl.TransposeRows: function 72 -/
def impl_TransposeRows.l1 (i24 : Int) : (List (List Int)) → (List Int) → Int → Option (List Int)
  | [], l38, i41 => some l38
  | y42 :: ys43, l38, i41 => (gt y42 i24).bind fun y64 => (ap l38 ([y64] : List Int)).bind fun l68 => impl_TransposeRows.l1 i24 ys43 l68 (i41 + 1)
def impl_TransposeRows.l0 (l0 : List (List Int)) : (List Int) → (List (List Int)) → Int → Option (List (List Int))
  | [], l20, i24 => some l20
  | y25 :: ys26, l20, i24 => (impl_TransposeRows.l1 i24 l0 ([] : List Int) 0).bind fun l38 => (ap l20 ([l38] : List (List Int))).bind fun l56 => impl_TransposeRows.l0 l0 ys26 l56 (i24 + 1)
def impl_TransposeRows.f (l0 : List (List Int)) : Option ((List (List Int)) × Bool) := (impl_in.f (l0.length : Int) 1 40).bind fun b4 => if b4 = true then ((gt l0 0).bind fun y8 => if 40 < (y8.length : Int) then (some (([] : List (List Int)), false)) else ((slices_ContainsFunc_int_int_3.f l0 l0).bind fun b12 => if b12 = true then (some (([] : List (List Int)), false)) else ((gt l0 0).bind fun y18 => (impl_TransposeRows.l0 l0 y18 ([] : List (List Int)) 0).bind fun l20 => some (l20, true)))) else (some (([] : List (List Int)), false))
set_option maxHeartbeats 600000 in
set_option maxRecDepth 100000 in
theorem impl_TransposeRows.calls {w0 ws : World} {P0 : Nat → Prop} (A0 : Option Addr) (c0 : Nat) (n0 : Nat) (H0 : Hd) (l0 : List (List Int)) (Z : Below w0.heap.size w0 ws) (hF : Fr w0 ws P0 [] ws) (R0 : Stable ws P0 (fun w => Kd.C (gk 3 (Kd.int .i64)) w A0 n0 (zp H0 l0))) (hc0 : n0 ≤ c0) (r_1 : List (List Int)) (r_5 : Bool) (h : impl_TransposeRows.f l0 = some (r_1, r_5)) :
    Calls Try.prog 72 #[.slice A0 n0 c0] ws (Post1 w0 ws P0 (fun ((q_2, q_3, q_4) : (Option Addr) × Nat × Hd) => .tuple #[.slice q_2 r_1.length q_3, .bool r_5]) (fun ((q_2, q_3, q_4) : (Option Addr) × Nat × Hd) => [row (gk 3 (Kd.int .i64)) 25 (.slice q_2 r_1.length q_3) (zp q_4 r_1)])) := by
  unfold impl_TransposeRows.f at h
  obtain rfl := (zp_len _ _).symm.trans (R0 ws (KeptB.refl _ _)).1
  refine enter Try.func72 rfl Try.ntmps72 rfl hF ?_
  refine c_seq ?_
  refine za0 ?_
  refine o_e rfl (e_box rfl) (fun g1 => ?_)
  refine o_q rfl rfl (q_asg rfl) ?_
  refine o_q rfl rfl (q_asg rfl) ?_
  refine o_end ?_
  refine za1 ?_
  refine c_seq ?_
  refine c_seq ?_
  refine za0 ?_
  refine o_q rfl rfl (q_ldb Y60 rfl (fun w h => h.zaa (i := 0) rfl) rfl) ?_
  refine o_q rfl rfl (q_len Try.underlying60 rfl) ?_
  refine za7 h (fun b4 hx3 h => ?_) rfl
  refine o_e rfl (zac 0 Z Try.func87 N87 rfl rfl rfl (fun w P1 hF hB hS hT => impl_in.calls (l0.length : Int) 1 40 hB hF _ hx3)) (fun _ => ?_)
  refine o_q rfl rfl (q_not rfl) ?_
  refine o_q rfl rfl (za2 rfl) ?_
  refine byB b4 (fun hb5 => ?_) (fun hb5 => ?_)
  · replace h := bb_t hb5 h
    refine o_w (za4 rfl rfl rfl (congrArg (fun b => Value.bool (!(b))) hb5)) rfl (q_ldb Y60 rfl (fun w h => h.zaa (i := 0) rfl) rfl) ?_
    refine zas (p := Sh A0 l0.length (zp H0 l0).length) (fun w h => f_sh (dk := (gk 3 (Kd.int .i64))) h (fun w h => R0.now Z h)) (fun hq6 => ?_)
    refine za7 h (fun y8 hg7 h => ?_) rfl
    refine o_w (za4 rfl rfl rfl (congrArg (fun b => Value.bool (!(b))) hb5)) rfl (q_ix Try.underlying60 Z25 rfl rfl hq6 (gt_zp hg7)) ?_
    refine zas (p := y8.length ≤ hC H0 (0 : Int)) (fun w h => (K_in (R0.now Z h) hg7).1) (fun hc9 => ?_)
    refine o_w (za4 rfl rfl rfl (congrArg (fun b => Value.bool (!(b))) hb5)) rfl (q_lde (off := 0) Y25 rfl rfl (fun w h => R0.now Z h) (gt_zp hg7) (fun _ _ h => h.1) rfl) ?_
    refine o_w (za4 rfl rfl rfl (congrArg (fun b => Value.bool (!(b))) hb5)) rfl (q_len Try.underlying25 rfl) ?_
    refine o_w (za4 rfl rfl rfl (congrArg (fun b => Value.bool (!(b))) hb5)) rfl (q_gtr rfl rfl) ?_
    refine o_q rfl rfl (zal false (congrArg (fun b => Value.bool (!(b))) hb5) rfl) ?_
    refine o_q rfl rfl (za2 rfl) ?_
    refine byB (decide (40 < (y8.length : Int))) (fun hb10 => ?_) (fun hb10 => ?_)
    · replace h := br_t hb10 h
      refine @o_n _ _ _ _ _ _ _ _ _ _ _ 21 (za3 rfl rfl rfl (congrArg Value.bool hb10) rfl) (Eq.refl (some 21)) ?_
      refine @o_n _ _ _ _ _ _ _ _ _ _ _ 22 (za3 rfl rfl rfl (congrArg Value.bool hb10) rfl) (Eq.refl (some 22)) ?_
      refine @o_n _ _ _ _ _ _ _ _ _ _ _ 23 (za3 rfl rfl rfl (congrArg Value.bool hb10) rfl) (Eq.refl (some 23)) ?_
      refine o_q rfl rfl (zal true (congrArg Value.bool hb10) rfl) ?_
      refine o_end ?_
      refine za1 ?_
      refine zb3 rfl ?_
      refine c_seq ?_
      refine za0 ?_
      refine o_q rfl rfl (q_asg rfl) ?_
      refine o_q rfl rfl (q_asg rfl) ?_
      refine o_end ?_
      refine za1 ?_
      refine c_ret ?_
      refine za9 ?_
      refine x_nil (gk 3 (Kd.int .i64)) 25 ?_
      have e0_ := Option.some.inj h; clear h
      have d0_ := (Prod.mk.inj e0_).1; have e1_ := (Prod.mk.inj e0_).2; clear e0_; subst d0_
      subst e1_
      exact x_r2 (none, 0, ([] : Hd)) Try.results72 (zaf rfl) (zaf rfl) rfl (fun w h => za5 [0] (by decide) rfl w h)
    · replace h := br_f hb10 h
      refine o_w (za4 rfl rfl rfl (congrArg Value.bool hb10)) rfl (q_ldb Y60 rfl (fun w h => h.zaa (i := 0) rfl) rfl) ?_
      refine o_w (za4 rfl rfl rfl (congrArg Value.bool hb10)) rfl (q_func rfl rfl) ?_
      refine za7 h (fun b12 hx11 h => ?_) rfl
      refine o_ew (za4 rfl rfl rfl (congrArg Value.bool hb10)) (zac 0 Z Try.func159 N159 rfl rfl rfl (fun w P1 hF hB hS hT => slices_ContainsFunc_int_int_3.calls A0 c0 l0.length H0 l0 g1 A0 c0 l0.length H0 l0 hB hF (hS _ R0) hc0 (hS _ R0) hc0 (hT 0 _ rfl).box _ hx11)) (fun _ => ?_)
      refine o_q rfl rfl (zal false (congrArg Value.bool hb10) rfl) ?_
      refine o_end ?_
      refine za1 ?_
      refine zar _ rfl (fun hb13 => ?_) (fun hb13 => ?_)
      · skip
        replace h := bb_t hb13 h
        refine c_seq ?_
        refine za0 ?_
        refine o_q rfl rfl (q_asg rfl) ?_
        refine o_q rfl rfl (q_asg rfl) ?_
        refine o_end ?_
        refine za1 ?_
        refine c_ret ?_
        refine za9 ?_
        refine x_nil (gk 3 (Kd.int .i64)) 25 ?_
        have e0_ := Option.some.inj h; clear h
        have d0_ := (Prod.mk.inj e0_).1; have e1_ := (Prod.mk.inj e0_).2; clear e0_; subst d0_
        subst e1_
        exact x_r2 (none, 0, ([] : Hd)) Try.results72 (zaf rfl) (zaf rfl) rfl (fun w h => za5 [0] (by decide) rfl w h)
      · skip
        replace h := bb_f hb13 h
        refine zam ?_
        refine za1 ?_
        refine c_seq ?_
        refine za0 ?_
        refine o_e rfl (e_lit0 (gk 3 (Kd.int .i64)) Try.underlying60 I25) (cur2 (fun A14 c15 => ?_))
        refine o_q rfl rfl (q_asg rfl) ?_
        refine o_end ?_
        refine za1 ?_
        refine c_seq ?_
        refine c_seq ?_
        refine za0 ?_
        refine o_q rfl rfl (q_ldb Y60 rfl (fun w h => h.zaa (i := 1) rfl) rfl) ?_
        refine za7 h (fun y18 hg17 h => ?_) rfl
        refine o_q rfl rfl (q_ix Try.underlying60 Z25 rfl rfl hq6 (gt_zp hg17)) ?_
        refine zas (p := y18.length ≤ hC H0 (0 : Int)) (fun w h => (K_in (R0.now Z h) hg17).1) (fun hc19 => ?_)
        refine o_q rfl rfl (q_lde (off := 0) Y25 rfl rfl (fun w h => R0.now Z h) (gt_zp hg17) (fun _ _ h => h.1) rfl) ?_
        refine o_q rfl rfl (q_len Try.underlying25 rfl) ?_
        refine o_q rfl rfl (za2 rfl) ?_
        refine o_end ?_
        refine za1 ?_
        refine zaj ?_
        refine za7 h (fun o32 hl31 hR30 => ?_) rfl
        clear h
        refine c_fact (p := y18.length ≤ 9223372036854775807) (fun w h => (C_in (R0.now Z h) hg17).2.1) (fun hm29 => ?_)
        refine zav (σ := (List Int) × (List (List Int)) × Int × (Option Addr) × Nat × Hd) (fun k27 ((ys26, l20, i24, A21, c22, H23) : (List Int) × (List (List Int)) × Int × (Option Addr) × Nat × Hd) => Rg y18 i24 ys26 ∧ ys26.length = k27 ∧ impl_TransposeRows.l0 l0 ys26 l20 i24 = some o32) [4, 5, 6, 8, 30, 31, 32, 33, 34, 35, 36, 37, 38, 39, 40, 41, 42, 43, 44, 45, 46, 47, 48, 49, 50, 51, 52] (fun ((ys26, l20, i24, A21, c22, H23) : (List Int) × (List (List Int)) × Int × (Option Addr) × Nat × Hd) => [(4, .slice A21 l20.length c22), (30, .int .i64 i24)]) (fun ((ys26, l20, i24, A21, c22, H23) : (List Int) × (List (List Int)) × Int × (Option Addr) × Nat × Hd) => [row (gk 3 (Kd.int .i64)) 25 (.slice A21 l20.length c22) (zp H23 l20), box g1 60 #[.slice A0 l0.length c0]]) y18.length (y18, ([] : List (List Int)), 0, A14, c15, ([] : Hd)) ⟨Rg.start _, rfl, hl31⟩ ⟨rfl, rfl, trivial⟩ (fun w h => h) ?_
        refine fun k27 => cur6 (listC (fun l20 i24 A21 c22 H23 U33 hJ_ => ?_) (fun y25 ys26 l20 i24 A21 c22 H23 U33 hJ_ => ?_))
        · skip
          clear hl31
          have hr28 := hJ_.1; have hk34 := hJ_.2.1; have h := hJ_.2.2; clear hJ_
          replace h : impl_TransposeRows.l0 l0 [] l20 i24 = some o32 := h
          rw [impl_TransposeRows.l0] at h
          refine c_seq ?_
          refine za0 ?_
          refine o_q rfl rfl (q_lss rfl rfl) ?_
          refine o_end ?_
          refine za1 ?_
          refine c_seq ?_
          refine zb2 (congrArg Value.bool hr28.ge) ?_
          refine c_exit ?_
          refine za6 ?_
          refine za6 ?_
          have e_ := Option.some.inj h; replace h := hR30; rw [← e_] at h; clear e_
          refine x_hit ?_
          refine za1 ?_
          refine c_seq ?_
          refine za0 ?_
          refine o_q rfl rfl (za2 rfl) ?_
          refine o_q rfl rfl (q_asg rfl) ?_
          refine o_q rfl rfl (q_asg rfl) ?_
          refine o_end ?_
          refine za1 ?_
          refine c_ret ?_
          have e0_ := Option.some.inj h; clear h
          have d0_ := (Prod.mk.inj e0_).1; have e1_ := (Prod.mk.inj e0_).2; clear e0_; subst d0_
          subst e1_
          exact x_r2 (A21, c22, H23) Try.results72 (zaf rfl) (zaf rfl) rfl (fun w h => za5 [0] (by decide) rfl w h)
        · skip
          clear hl31
          have hr28 := hJ_.1; have hk34 := hJ_.2.1; have h := hJ_.2.2; clear hJ_
          replace h : impl_TransposeRows.l0 l0 (y25 :: ys26) l20 i24 = some o32 := h
          rw [impl_TransposeRows.l0] at h
          refine c_seq ?_
          refine za0 ?_
          refine o_q rfl rfl (q_lss rfl rfl) ?_
          refine o_end ?_
          refine za1 ?_
          refine c_seq ?_
          refine zb3 (congrArg Value.bool hr28.lt) ?_
          refine zam ?_
          refine za1 ?_
          refine c_seq ?_
          refine zaj ?_
          refine c_seq ?_
          refine za0 ?_
          refine o_q rfl rfl (za2 rfl) ?_
          refine o_q rfl rfl (q_asg rfl) ?_
          refine o_end ?_
          refine za1 ?_
          refine c_seq ?_
          refine za0 ?_
          refine o_e rfl (e_lit0 (Kd.int .i64) Try.underlying25 I3) (cur2 (fun A35 c36 => ?_))
          refine o_q rfl rfl (q_asg rfl) ?_
          refine o_end ?_
          refine za1 ?_
          refine c_seq ?_
          refine c_seq ?_
          refine za0 ?_
          refine o_q rfl rfl (q_ldb Y60 rfl (fun w h => h.zaa (i := 2) rfl) rfl) ?_
          refine o_q rfl rfl (q_len Try.underlying60 rfl) ?_
          refine o_q rfl rfl (za2 rfl) ?_
          refine o_end ?_
          refine za1 ?_
          refine zaj ?_
          refine za7 h (fun o49 hl48 hR47 => ?_) rfl
          clear h
          refine c_fact (p := l0.length ≤ 9223372036854775807) (fun w h => (R0.now Z h).2.1) (fun hm46 => ?_)
          refine zav (σ := (List (List Int)) × (List Int) × Int × (Option Addr) × Nat) (fun k44 ((ys43, l38, i41, A39, c40) : (List (List Int)) × (List Int) × Int × (Option Addr) × Nat) => Rg l0 i41 ys43 ∧ ys43.length = k44 ∧ impl_TransposeRows.l1 i24 ys43 l38 i41 = some o49) [6, 8, 36, 37, 38, 39, 40, 41, 42, 43, 44, 45, 46, 47] (fun ((ys43, l38, i41, A39, c40) : (List (List Int)) × (List Int) × Int × (Option Addr) × Nat) => [(6, .slice A39 l38.length c40), (36, .int .i64 i41)]) (fun ((ys43, l38, i41, A39, c40) : (List (List Int)) × (List Int) × Int × (Option Addr) × Nat) => [row (Kd.int .i64) 3 (.slice A39 l38.length c40) l38, row (gk 3 (Kd.int .i64)) 25 (.slice A21 l20.length c22) (zp H23 l20), box g1 60 #[.slice A0 l0.length c0]]) l0.length (l0, ([] : List Int), 0, A35, c36) ⟨Rg.start _, rfl, hl48⟩ ⟨rfl, rfl, trivial⟩ (fun w h => h) ?_
          refine fun k44 => cur5 (listC (fun l38 i41 A39 c40 U50 hJ_ => ?_) (fun y42 ys43 l38 i41 A39 c40 U50 hJ_ => ?_))
          · skip
            clear hl48
            have hr45 := hJ_.1; have hk51 := hJ_.2.1; have h := hJ_.2.2; clear hJ_
            replace h : impl_TransposeRows.l1 i24 [] l38 i41 = some o49 := h
            rw [impl_TransposeRows.l1] at h
            refine c_seq ?_
            refine za0 ?_
            refine o_q rfl rfl (q_lss rfl rfl) ?_
            refine o_end ?_
            refine za1 ?_
            refine c_seq ?_
            refine zb2 (congrArg Value.bool hr45.ge) ?_
            refine c_exit ?_
            refine za6 ?_
            refine za6 ?_
            have e_ := Option.some.inj h; replace h := hR47; rw [← e_] at h; clear e_
            refine x_hit ?_
            refine za1 ?_
            refine za0 ?_
            refine o_q rfl rfl (za2 rfl) ?_
            refine o_q rfl rfl (za2 rfl) ?_
            refine o_e rfl (e_litG (j := 0) (ue := 3) (dk := (Kd.int .i64)) (ys := l38) Try.underlying60 I25 rfl rfl rfl) (cur3 (fun A52 c53 H55 => ?_))
            refine za7 h (fun l56 ha57 h => ?_) rfl
            refine o_e rfl (e_appG (i := 2) (j := 0) Try.underlying60 I25 rfl (by decide) rfl rfl rfl rfl rfl ha57) (cur3 (fun A58 c59 H60 => ?_))
            refine o_q rfl rfl (q_asg rfl) ?_
            refine o_end ?_
            refine zan ?_
            refine za1 ?_
            refine za0 ?_
            refine o_q rfl rfl (q_up rfl rfl (hr28.up hm29)) ?_
            refine o_q rfl rfl (za2 rfl) ?_
            refine o_end ?_
            refine zak ys26.length (ys26, l56, i24 + 1, A58, c59, H60) (by rw [← hk34]; exact Nat.lt_succ_self _) ⟨hr28.step, rfl, h⟩ ⟨rfl, rfl, trivial⟩ (fun w h => za5 [2, 3] (by decide) rfl w h) ?_
            repeat (first | exact zad _ _ | refine zah rfl ?_ | refine zae rfl ?_ | refine zai rfl ?_)
          · skip
            clear hl48
            have hr45 := hJ_.1; have hk51 := hJ_.2.1; have h := hJ_.2.2; clear hJ_
            replace h : impl_TransposeRows.l1 i24 (y42 :: ys43) l38 i41 = some o49 := h
            rw [impl_TransposeRows.l1] at h
            refine c_seq ?_
            refine za0 ?_
            refine o_q rfl rfl (q_lss rfl rfl) ?_
            refine o_end ?_
            refine za1 ?_
            refine c_seq ?_
            refine zb3 (congrArg Value.bool hr45.lt) ?_
            refine zam ?_
            refine za1 ?_
            refine c_seq ?_
            refine zaj ?_
            refine c_seq ?_
            refine za0 ?_
            refine o_q rfl rfl (q_ix Try.underlying60 Z25 rfl rfl hq6 (gt_zp hr45.get)) ?_
            refine zas (p := y42.length ≤ hC H0 i41) (fun w h => (K_in (R0.now Z h) hr45.get).1) (fun hc61 => ?_)
            refine o_q rfl rfl (q_lde (off := 0) Y25 rfl rfl (fun w h => R0.now Z h) (gt_zp hr45.get) (fun _ _ h => h.1) rfl) ?_
            refine o_q rfl rfl (q_asg rfl) ?_
            refine o_end ?_
            refine za1 ?_
            refine za0 ?_
            refine o_q rfl rfl (za2 rfl) ?_
            refine o_q rfl rfl (za2 rfl) ?_
            refine o_q rfl rfl (za2 rfl) ?_
            refine zas (p := Sh (hA H0 i41) y42.length y42.length) (fun w h => f_sh (dk := (Kd.int .i64)) h (fun w h => C_in (R0.now Z h) hr45.get)) (fun hq62 => ?_)
            refine za7 h (fun y64 hg63 h => ?_) rfl
            refine o_q rfl rfl (q_ix Try.underlying25 Z3 rfl rfl hq62 hg63) ?_
            refine o_q rfl rfl (q_lde (off := 0) Y3 rfl rfl (fun w h => C_in (R0.now Z h) hr45.get) hg63 (fun _ _ h => h) rfl) ?_
            refine o_e rfl (e_lit (vs := [(0, .int .i64 y64)]) (cs := [.int .i64 y64]) (Kd.int .i64) ([y64] : List Int) Try.underlying25 I3 (by decide) rfl (by decide) rfl rfl (fun _ _ => Kd.zat _)) (cur2 (fun A65 c66 => ?_))
            refine za7 h (fun l68 ha69 h => ?_) rfl
            refine o_e rfl (e_app (i := 1) (j := 0) Try.underlying25 I3 rfl (by decide) (by decide) rfl rfl rfl rfl rfl ha69) (cur2 (fun A70 c71 => ?_))
            refine o_q rfl rfl (q_asg rfl) ?_
            refine o_end ?_
            refine zan ?_
            refine za1 ?_
            refine za0 ?_
            refine o_q rfl rfl (q_up rfl rfl (hr45.up hm46)) ?_
            refine o_q rfl rfl (za2 rfl) ?_
            refine o_end ?_
            refine zak ys43.length (ys43, l68, i41 + 1, A70, c71) (by rw [← hk51]; exact Nat.lt_succ_self _) ⟨hr45.step, rfl, h⟩ ⟨rfl, rfl, trivial⟩ (fun w h => za5 [1, 2, 3] (by decide) rfl w h) ?_
            repeat (first | exact zad _ _ | refine zah rfl ?_ | refine zae rfl ?_ | refine zai rfl ?_)
  · replace h := bb_f hb5 h
    refine @o_n _ _ _ _ _ _ _ _ _ _ _ 14 (za3 rfl rfl rfl (congrArg (fun b => Value.bool (!(b))) hb5) rfl) (Eq.refl (some 14)) ?_
    refine @o_n _ _ _ _ _ _ _ _ _ _ _ 15 (za3 rfl rfl rfl (congrArg (fun b => Value.bool (!(b))) hb5) rfl) (Eq.refl (some 15)) ?_
    refine @o_n _ _ _ _ _ _ _ _ _ _ _ 16 (za3 rfl rfl rfl (congrArg (fun b => Value.bool (!(b))) hb5) rfl) (Eq.refl (some 16)) ?_
    refine @o_n _ _ _ _ _ _ _ _ _ _ _ 17 (za3 rfl rfl rfl (congrArg (fun b => Value.bool (!(b))) hb5) rfl) (Eq.refl (some 17)) ?_
    refine @o_n _ _ _ _ _ _ _ _ _ _ _ 18 (za3 rfl rfl rfl (congrArg (fun b => Value.bool (!(b))) hb5) rfl) (Eq.refl (some 18)) ?_
    refine o_q rfl rfl (zal true (congrArg (fun b => Value.bool (!(b))) hb5) rfl) ?_
    refine o_q rfl rfl (za2 rfl) ?_
    refine @o_n _ _ _ _ _ _ _ _ _ _ _ 21 (za3 rfl rfl rfl rfl rfl) (Eq.refl (some 21)) ?_
    refine @o_n _ _ _ _ _ _ _ _ _ _ _ 22 (za3 rfl rfl rfl rfl rfl) (Eq.refl (some 22)) ?_
    refine @o_n _ _ _ _ _ _ _ _ _ _ _ 23 (za3 rfl rfl rfl rfl rfl) (Eq.refl (some 23)) ?_
    refine o_q rfl rfl (zal true rfl rfl) ?_
    refine o_end ?_
    refine za1 ?_
    refine zb3 rfl ?_
    refine c_seq ?_
    refine za0 ?_
    refine o_q rfl rfl (q_asg rfl) ?_
    refine o_q rfl rfl (q_asg rfl) ?_
    refine o_end ?_
    refine za1 ?_
    refine c_ret ?_
    refine za9 ?_
    refine x_nil (gk 3 (Kd.int .i64)) 25 ?_
    have e0_ := Option.some.inj h; clear h
    have d0_ := (Prod.mk.inj e0_).1; have e1_ := (Prod.mk.inj e0_).2; clear e0_; subst d0_
    subst e1_
    exact x_r2 (none, 0, ([] : Hd)) Try.results72 (zaf rfl) (zaf rfl) rfl (fun w h => za5 [0] (by decide) rfl w h)

/-! ### slices.Equal[[]int,int]: function 144 -/
def slices_Equal_int_int.l0 (l1 : List Int) : (List Int) → Int → Option ((Bool) ⊕ (Unit))
  | [], i2 => some (.inr ())
  | y3 :: ys4, i2 => (gt l1 i2).bind fun y16 => if y3 ≠ y16 then (some (.inl false)) else (slices_Equal_int_int.l0 l1 ys4 (i2 + 1))
def slices_Equal_int_int.f (l0 : List Int) (l1 : List Int) : Option Bool := if (l0.length : Int) ≠ (l1.length : Int) then (some false) else ((slices_Equal_int_int.l0 l1 l0 0).bind fun o_ => match o_ with | .inl r_ => some r_ | .inr _ => some true)
set_option maxHeartbeats 600000 in
set_option maxRecDepth 100000 in
theorem slices_Equal_int_int.calls {w0 ws : World} {P0 : Nat → Prop} (A0 : Option Addr) (c0 : Nat) (n0 : Nat) (l0 : List Int) (A1 : Option Addr) (c1 : Nat) (n1 : Nat) (l1 : List Int) (Z : Below w0.heap.size w0 ws) (hF : Fr w0 ws P0 [] ws) (R0 : Stable ws P0 (fun w => Kd.C (Kd.int .i64) w A0 n0 l0)) (hc0 : n0 ≤ c0) (R1 : Stable ws P0 (fun w => Kd.C (Kd.int .i64) w A1 n1 l1)) (hc1 : n1 ≤ c1) (r_1 : Bool) (h : slices_Equal_int_int.f l0 l1 = some r_1) :
    Calls Try.prog 144 #[.slice A0 n0 c0, .slice A1 n1 c1] ws (Post1 w0 ws P0 (fun (_ : Unit) => .bool r_1) (fun (_ : Unit) => [])) := by
  unfold slices_Equal_int_int.f at h
  obtain rfl := (R0 ws (KeptB.refl _ _)).1
  obtain rfl := (R1 ws (KeptB.refl _ _)).1
  refine enter Try.func144 rfl Try.ntmps144 rfl hF ?_
  refine c_seq ?_
  refine za0 ?_
  refine o_q rfl rfl (q_asg rfl) ?_
  refine o_end ?_
  refine za1 ?_
  refine c_seq ?_
  refine c_seq ?_
  refine za0 ?_
  refine o_q rfl rfl (za2 rfl) ?_
  refine o_q rfl rfl (q_len Try.underlying25 rfl) ?_
  refine o_q rfl rfl (za2 rfl) ?_
  refine o_q rfl rfl (q_len Try.underlying25 rfl) ?_
  refine o_q rfl rfl (q_neq rfl rfl) ?_
  refine o_end ?_
  refine za1 ?_
  refine zar _ rfl (fun hb1 => ?_) (fun hb1 => ?_)
  · skip
    replace h := br_t hb1 h
    refine c_seq ?_
    refine za0 ?_
    refine o_q rfl rfl (q_asg rfl) ?_
    refine o_end ?_
    refine za1 ?_
    refine c_ret ?_
    refine za9 ?_
    have e0_ := Option.some.inj h; clear h
    subst e0_
    exact x_r1 () Try.results144 (zaf rfl) rfl (fun w h => za5 [] (by decide) rfl w h)
  · skip
    replace h := br_f hb1 h
    refine zam ?_
    refine za1 ?_
    refine c_seq ?_
    refine c_seq ?_
    refine za0 ?_
    refine o_q rfl rfl (za2 rfl) ?_
    refine o_q rfl rfl (q_len Try.underlying25 rfl) ?_
    refine o_q rfl rfl (za2 rfl) ?_
    refine o_end ?_
    refine za1 ?_
    refine zaj ?_
    refine za7 h (fun o10 hl9 hR8 => ?_) rfl
    clear h
    refine c_fact (p := l0.length ≤ 9223372036854775807) (fun w h => (R0.now Z h).2.1) (fun hm7 => ?_)
    refine zav (σ := (List Int) × Int) (fun k5 ((ys4, i2) : (List Int) × Int) => Rg l0 i2 ys4 ∧ ys4.length = k5 ∧ slices_Equal_int_int.l0 l1 ys4 i2 = some o10) [4, 5, 13, 14, 15, 16, 17, 18, 19, 20, 21, 22, 23, 24, 25] (fun ((ys4, i2) : (List Int) × Int) => [(13, .int .i64 i2)]) (fun ((ys4, i2) : (List Int) × Int) => []) l0.length (l0, 0) ⟨Rg.start _, rfl, hl9⟩ ⟨rfl, trivial⟩ (fun w h => h) ?_
    refine fun k5 => cur2 (listC (fun i2 U11 hJ_ => ?_) (fun y3 ys4 i2 U11 hJ_ => ?_))
    · skip
      clear hl9
      have hr6 := hJ_.1; have hk12 := hJ_.2.1; have h := hJ_.2.2; clear hJ_
      replace h : slices_Equal_int_int.l0 l1 [] i2 = some o10 := h
      rw [slices_Equal_int_int.l0] at h
      refine c_seq ?_
      refine za0 ?_
      refine o_q rfl rfl (q_lss rfl rfl) ?_
      refine o_end ?_
      refine za1 ?_
      refine c_seq ?_
      refine zb2 (congrArg Value.bool hr6.ge) ?_
      refine c_exit ?_
      refine za6 ?_
      refine za6 ?_
      have e_ := Option.some.inj h; replace h := hR8; rw [← e_] at h; clear e_
      refine x_hit ?_
      refine za1 ?_
      refine c_seq ?_
      refine za0 ?_
      refine o_q rfl rfl (q_asg rfl) ?_
      refine o_end ?_
      refine za1 ?_
      refine c_ret ?_
      have e0_ := Option.some.inj h; clear h
      subst e0_
      exact x_r1 () Try.results144 (zaf rfl) rfl (fun w h => za5 [] (by decide) rfl w h)
    · skip
      clear hl9
      have hr6 := hJ_.1; have hk12 := hJ_.2.1; have h := hJ_.2.2; clear hJ_
      replace h : slices_Equal_int_int.l0 l1 (y3 :: ys4) i2 = some o10 := h
      rw [slices_Equal_int_int.l0] at h
      refine c_seq ?_
      refine za0 ?_
      refine o_q rfl rfl (q_lss rfl rfl) ?_
      refine o_end ?_
      refine za1 ?_
      refine c_seq ?_
      refine zb3 (congrArg Value.bool hr6.lt) ?_
      refine zam ?_
      refine za1 ?_
      refine c_seq ?_
      refine zaj ?_
      refine c_seq ?_
      refine za0 ?_
      refine o_q rfl rfl (za2 rfl) ?_
      refine o_q rfl rfl (q_asg rfl) ?_
      refine o_end ?_
      refine za1 ?_
      refine c_seq ?_
      refine a_start (ds := []) MO rfl ?_
      refine za8 0 rfl rfl rfl (by kernel_rfl) (fun _ _ _ h => h) (za2 rfl) ?_
      refine za8 1 rfl rfl rfl (by kernel_rfl) (fun _ _ _ h => h) (za2 rfl) ?_
      refine a_fact (p := Sh A0 l0.length l0.length) (fun w h => f_sh (dk := (Kd.int .i64)) h (fun w h => R0.now Z h)) (fun hq13 => ?_)
      refine za8 2 rfl rfl rfl (by kernel_rfl) (fun _ _ _ h => h) (q_ix Try.underlying25 Z3 rfl rfl hq13 hr6.get) ?_
      refine a_take 3 rfl rfl rfl (by kernel_rfl) (fun _ _ _ h => h) (fun w h => h) (q_lde (off := 0) Y3 rfl rfl (fun w h => R0.now Z h) hr6.get (fun _ _ h => h) rfl) ?_
      refine za8 4 rfl rfl rfl (by kernel_rfl) (fun _ _ _ h => h) (za2 rfl) ?_
      refine za8 5 rfl rfl rfl (by kernel_rfl) (fun _ _ _ h => h) (za2 rfl) ?_
      refine a_fact (p := Sh A1 l1.length l1.length) (fun w h => f_sh (dk := (Kd.int .i64)) h (fun w h => R1.now Z h)) (fun hq14 => ?_)
      refine za7 h (fun y16 hg15 h => ?_) rfl
      refine za8 6 rfl rfl rfl (by kernel_rfl) (fun _ _ _ h => h) (q_ix Try.underlying25 Z3 rfl rfl hq14 hg15) ?_
      refine a_take 7 rfl rfl rfl (by kernel_rfl) (fun _ _ _ h => h) (fun w h => h) (q_lde (off := 0) Y3 rfl rfl (fun w h => R1.now Z h) hg15 (fun _ _ h => h) rfl) ?_
      refine za8 8 rfl rfl rfl (by kernel_rfl) (fun _ _ _ h => h) (q_neq rfl rfl) ?_
      refine zb0 (by kernel_rfl) ?_
      refine za1 ?_
      refine zar _ rfl (fun hb17 => ?_) (fun hb17 => ?_)
      · skip
        replace h := br_t hb17 h
        refine c_seq ?_
        refine za0 ?_
        refine o_q rfl rfl (q_asg rfl) ?_
        refine o_end ?_
        refine za1 ?_
        refine c_ret ?_
        refine zao ?_
        refine za9 ?_
        refine za9 ?_
        have e_ := Option.some.inj h; replace h := hR8; rw [← e_] at h; clear e_
        refine zao ?_
        refine za9 ?_
        have e0_ := Option.some.inj h; clear h
        subst e0_
        exact x_r1 () Try.results144 (zaf rfl) rfl (fun w h => za5 [] (by decide) rfl w h)
      · skip
        replace h := br_f hb17 h
        refine zam ?_
        refine zan ?_
        refine za1 ?_
        refine za0 ?_
        refine o_q rfl rfl (q_up rfl rfl (hr6.up hm7)) ?_
        refine o_q rfl rfl (za2 rfl) ?_
        refine o_end ?_
        refine zak ys4.length (ys4, i2 + 1) (by rw [← hk12]; exact Nat.lt_succ_self _) ⟨hr6.step, rfl, h⟩ ⟨rfl, trivial⟩ (fun w h => za5 [] (by decide) rfl w h) ?_
        repeat (first | exact zad _ _ | refine zah rfl ?_ | refine zae rfl ?_ | refine zai rfl ?_)

/-! ### slices.EqualFunc[[][]int,[][]int,[]int,[]int]: function 187 -/
def slices_EqualFunc_int_int_int_int.l0 (l1 : List (List Int)) : (List (List Int)) → Int → Option ((Bool) ⊕ (Unit))
  | [], i2 => some (.inr ())
  | y3 :: ys4, i2 => (gt l1 i2).bind fun y17 => (slices_Equal_int_int.f y3 y17).bind fun b20 => if b20 = true then (slices_EqualFunc_int_int_int_int.l0 l1 ys4 (i2 + 1)) else (some (.inl false))
def slices_EqualFunc_int_int_int_int.f (l0 : List (List Int)) (l1 : List (List Int)) : Option Bool := if (l0.length : Int) ≠ (l1.length : Int) then (some false) else ((slices_EqualFunc_int_int_int_int.l0 l1 l0 0).bind fun o_ => match o_ with | .inl r_ => some r_ | .inr _ => some true)
set_option maxHeartbeats 600000 in
set_option maxRecDepth 100000 in
theorem slices_EqualFunc_int_int_int_int.calls {w0 ws : World} {P0 : Nat → Prop} (A0 : Option Addr) (c0 : Nat) (n0 : Nat) (H0 : Hd) (l0 : List (List Int)) (A1 : Option Addr) (c1 : Nat) (n1 : Nat) (H1 : Hd) (l1 : List (List Int)) (Z : Below w0.heap.size w0 ws) (hF : Fr w0 ws P0 [] ws) (R0 : Stable ws P0 (fun w => Kd.C (gk 3 (Kd.int .i64)) w A0 n0 (zp H0 l0))) (hc0 : n0 ≤ c0) (R1 : Stable ws P0 (fun w => Kd.C (gk 3 (Kd.int .i64)) w A1 n1 (zp H1 l1))) (hc1 : n1 ≤ c1) (r_1 : Bool) (h : slices_EqualFunc_int_int_int_int.f l0 l1 = some r_1) :
    Calls Try.prog 187 #[.slice A0 n0 c0, .slice A1 n1 c1, .func (.func 144) #[] #[]] ws (Post1 w0 ws P0 (fun (_ : Unit) => .bool r_1) (fun (_ : Unit) => [])) := by
  unfold slices_EqualFunc_int_int_int_int.f at h
  obtain rfl := (zp_len _ _).symm.trans (R0 ws (KeptB.refl _ _)).1
  obtain rfl := (zp_len _ _).symm.trans (R1 ws (KeptB.refl _ _)).1
  refine enter Try.func187 rfl Try.ntmps187 rfl hF ?_
  refine c_seq ?_
  refine za0 ?_
  refine o_q rfl rfl (q_asg rfl) ?_
  refine o_end ?_
  refine za1 ?_
  refine c_seq ?_
  refine c_seq ?_
  refine za0 ?_
  refine o_q rfl rfl (za2 rfl) ?_
  refine o_q rfl rfl (q_len Try.underlying60 rfl) ?_
  refine o_q rfl rfl (za2 rfl) ?_
  refine o_q rfl rfl (q_len Try.underlying60 rfl) ?_
  refine o_q rfl rfl (q_neq rfl rfl) ?_
  refine o_end ?_
  refine za1 ?_
  refine zar _ rfl (fun hb1 => ?_) (fun hb1 => ?_)
  · skip
    replace h := br_t hb1 h
    refine c_seq ?_
    refine za0 ?_
    refine o_q rfl rfl (q_asg rfl) ?_
    refine o_end ?_
    refine za1 ?_
    refine c_ret ?_
    refine za9 ?_
    have e0_ := Option.some.inj h; clear h
    subst e0_
    exact x_r1 () Try.results187 (zaf rfl) rfl (fun w h => za5 [] (by decide) rfl w h)
  · skip
    replace h := br_f hb1 h
    refine zam ?_
    refine za1 ?_
    refine c_seq ?_
    refine c_seq ?_
    refine za0 ?_
    refine o_q rfl rfl (za2 rfl) ?_
    refine o_q rfl rfl (q_len Try.underlying60 rfl) ?_
    refine o_q rfl rfl (za2 rfl) ?_
    refine o_end ?_
    refine za1 ?_
    refine zaj ?_
    refine za7 h (fun o10 hl9 hR8 => ?_) rfl
    clear h
    refine c_fact (p := l0.length ≤ 9223372036854775807) (fun w h => (R0.now Z h).2.1) (fun hm7 => ?_)
    refine zav (σ := (List (List Int)) × Int) (fun k5 ((ys4, i2) : (List (List Int)) × Int) => Rg l0 i2 ys4 ∧ ys4.length = k5 ∧ slices_EqualFunc_int_int_int_int.l0 l1 ys4 i2 = some o10) [6, 7, 8, 9, 17, 18, 19, 20, 21, 22, 23, 24, 25, 26, 27, 28, 29, 30, 31] (fun ((ys4, i2) : (List (List Int)) × Int) => [(17, .int .i64 i2)]) (fun ((ys4, i2) : (List (List Int)) × Int) => []) l0.length (l0, 0) ⟨Rg.start _, rfl, hl9⟩ ⟨rfl, trivial⟩ (fun w h => h) ?_
    refine fun k5 => cur2 (listC (fun i2 U11 hJ_ => ?_) (fun y3 ys4 i2 U11 hJ_ => ?_))
    · skip
      clear hl9
      have hr6 := hJ_.1; have hk12 := hJ_.2.1; have h := hJ_.2.2; clear hJ_
      replace h : slices_EqualFunc_int_int_int_int.l0 l1 [] i2 = some o10 := h
      rw [slices_EqualFunc_int_int_int_int.l0] at h
      refine c_seq ?_
      refine za0 ?_
      refine o_q rfl rfl (q_lss rfl rfl) ?_
      refine o_end ?_
      refine za1 ?_
      refine c_seq ?_
      refine zb2 (congrArg Value.bool hr6.ge) ?_
      refine c_exit ?_
      refine za6 ?_
      refine za6 ?_
      have e_ := Option.some.inj h; replace h := hR8; rw [← e_] at h; clear e_
      refine x_hit ?_
      refine za1 ?_
      refine c_seq ?_
      refine za0 ?_
      refine o_q rfl rfl (q_asg rfl) ?_
      refine o_end ?_
      refine za1 ?_
      refine c_ret ?_
      have e0_ := Option.some.inj h; clear h
      subst e0_
      exact x_r1 () Try.results187 (zaf rfl) rfl (fun w h => za5 [] (by decide) rfl w h)
    · skip
      clear hl9
      have hr6 := hJ_.1; have hk12 := hJ_.2.1; have h := hJ_.2.2; clear hJ_
      replace h : slices_EqualFunc_int_int_int_int.l0 l1 (y3 :: ys4) i2 = some o10 := h
      rw [slices_EqualFunc_int_int_int_int.l0] at h
      refine c_seq ?_
      refine za0 ?_
      refine o_q rfl rfl (q_lss rfl rfl) ?_
      refine o_end ?_
      refine za1 ?_
      refine c_seq ?_
      refine zb3 (congrArg Value.bool hr6.lt) ?_
      refine zam ?_
      refine za1 ?_
      refine c_seq ?_
      refine zaj ?_
      refine c_seq ?_
      refine za0 ?_
      refine o_q rfl rfl (za2 rfl) ?_
      refine zas (p := Sh A0 l0.length (zp H0 l0).length) (fun w h => f_sh (dk := (gk 3 (Kd.int .i64))) h (fun w h => R0.now Z h)) (fun hq13 => ?_)
      refine o_q rfl rfl (q_ix Try.underlying60 Z25 rfl rfl hq13 (gt_zp hr6.get)) ?_
      refine zas (p := y3.length ≤ hC H0 i2) (fun w h => (K_in (R0.now Z h) hr6.get).1) (fun hc14 => ?_)
      refine o_q rfl rfl (q_lde (off := 0) Y25 rfl rfl (fun w h => R0.now Z h) (gt_zp hr6.get) (fun _ _ h => h.1) rfl) ?_
      refine o_q rfl rfl (q_asg rfl) ?_
      refine o_q rfl rfl (q_asg rfl) ?_
      refine o_end ?_
      refine za1 ?_
      refine c_seq ?_
      refine za0 ?_
      refine o_q rfl rfl (za2 rfl) ?_
      refine o_q rfl rfl (za2 rfl) ?_
      refine zas (p := Sh A1 l1.length (zp H1 l1).length) (fun w h => f_sh (dk := (gk 3 (Kd.int .i64))) h (fun w h => R1.now Z h)) (fun hq15 => ?_)
      refine za7 h (fun y17 hg16 h => ?_) rfl
      refine o_q rfl rfl (q_ix Try.underlying60 Z25 rfl rfl hq15 (gt_zp hg16)) ?_
      refine zas (p := y17.length ≤ hC H1 i2) (fun w h => (K_in (R1.now Z h) hg16).1) (fun hc18 => ?_)
      refine o_q rfl rfl (q_lde (off := 0) Y25 rfl rfl (fun w h => R1.now Z h) (gt_zp hg16) (fun _ _ h => h.1) rfl) ?_
      refine o_q rfl rfl (q_asg rfl) ?_
      refine o_end ?_
      refine za1 ?_
      refine c_seq ?_
      refine za0 ?_
      refine o_q rfl rfl (za2 rfl) ?_
      refine o_q rfl rfl (za2 rfl) ?_
      refine o_q rfl rfl (za2 rfl) ?_
      refine za7 h (fun b20 hx19 h => ?_) rfl
      refine o_e rfl (zac 0 Z Try.func144 N144 rfl rfl rfl (fun w P1 hF hB hS hT => slices_Equal_int_int.calls (hA H0 i2) (hC H0 i2) y3.length y3 (hA H1 i2) (hC H1 i2) y17.length y17 hB hF (stab_in (hS _ R0) hr6.get) hc14 (stab_in (hS _ R1) hg16) hc18 _ hx19)) (fun _ => ?_)
      refine o_q rfl rfl (q_not rfl) ?_
      refine o_end ?_
      refine za1 ?_
      refine zar _ rfl (fun hb21 => ?_) (fun hb21 => ?_)
      · replace hb21 := nt_t hb21
        replace h := bb_f hb21 h
        refine c_seq ?_
        refine za0 ?_
        refine o_q rfl rfl (q_asg rfl) ?_
        refine o_end ?_
        refine za1 ?_
        refine c_ret ?_
        refine zao ?_
        refine za9 ?_
        refine za9 ?_
        have e_ := Option.some.inj h; replace h := hR8; rw [← e_] at h; clear e_
        refine zao ?_
        refine za9 ?_
        have e0_ := Option.some.inj h; clear h
        subst e0_
        exact x_r1 () Try.results187 (zaf rfl) rfl (fun w h => za5 [] (by decide) rfl w h)
      · replace hb21 := nt_f hb21
        replace h := bb_t hb21 h
        refine zam ?_
        refine zan ?_
        refine za1 ?_
        refine za0 ?_
        refine o_q rfl rfl (q_up rfl rfl (hr6.up hm7)) ?_
        refine o_q rfl rfl (za2 rfl) ?_
        refine o_end ?_
        refine zak ys4.length (ys4, i2 + 1) (by rw [← hk12]; exact Nat.lt_succ_self _) ⟨hr6.step, rfl, h⟩ ⟨rfl, trivial⟩ (fun w h => za5 [] (by decide) rfl w h) ?_
        repeat (first | exact zad _ _ | refine zah rfl ?_ | refine zae rfl ?_ | refine zai rfl ?_)

/-! ### loop.example/g01098/impl.samePowers: function 109 -/
def impl_samePowers.f (a0_0 : Int) (l0_1 : List SStep) (l0_2 : List Int) (a1_0 : Int) (l1_1 : List SStep) (l1_2 : List Int) : Option Bool := if a0_0 = a1_0 then ((impl_Plan_outputExponents.f a0_0 l0_1 l0_2).bind fun l3 => (impl_Plan_outputExponents.f a1_0 l1_1 l1_2).bind fun l8 => (slices_EqualFunc_int_int_int_int.f l3 l8).bind fun b13 => some b13) else (some false)
set_option maxHeartbeats 600000 in
set_option maxRecDepth 100000 in
theorem impl_samePowers.calls {w0 ws : World} {P0 : Nat → Prop} (g0 : Nat) (a0_0 : Int) (A0_1 : Option Addr) (c0_1 : Nat) (n0_1 : Nat) (l0_1 : List SStep) (A0_2 : Option Addr) (c0_2 : Nat) (n0_2 : Nat) (l0_2 : List Int) (g1 : Nat) (a1_0 : Int) (A1_1 : Option Addr) (c1_1 : Nat) (n1_1 : Nat) (l1_1 : List SStep) (A1_2 : Option Addr) (c1_2 : Nat) (n1_2 : Nat) (l1_2 : List Int) (Z : Below w0.heap.size w0 ws) (hF : Fr w0 ws P0 [] ws) (R0_1 : Stable ws P0 (fun w => Kd.C kStep w A0_1 n0_1 l0_1)) (hc0_1 : n0_1 ≤ c0_1) (R0_2 : Stable ws P0 (fun w => Kd.C (Kd.int .i64) w A0_2 n0_2 l0_2)) (hc0_2 : n0_2 ≤ c0_2) (B0 : Stable ws P0 (fun w => w.heap[g0]? = some (.cells #[.int .i64 a0_0, .slice A0_1 n0_1 c0_1, .slice A0_2 n0_2 c0_2] 27 (0, 0)))) (R1_1 : Stable ws P0 (fun w => Kd.C kStep w A1_1 n1_1 l1_1)) (hc1_1 : n1_1 ≤ c1_1) (R1_2 : Stable ws P0 (fun w => Kd.C (Kd.int .i64) w A1_2 n1_2 l1_2)) (hc1_2 : n1_2 ≤ c1_2) (B1 : Stable ws P0 (fun w => w.heap[g1]? = some (.cells #[.int .i64 a1_0, .slice A1_1 n1_1 c1_1, .slice A1_2 n1_2 c1_2] 27 (0, 0)))) (r_1 : Bool) (h : impl_samePowers.f a0_0 l0_1 l0_2 a1_0 l1_1 l1_2 = some r_1) :
    Calls Try.prog 109 #[.pointer (some ⟨g0, 0, none⟩), .pointer (some ⟨g1, 0, none⟩)] ws (Post1 w0 ws P0 (fun (_ : Unit) => .bool r_1) (fun (_ : Unit) => [])) := by
  unfold impl_samePowers.f at h
  obtain rfl := (R0_1 ws (KeptB.refl _ _)).1
  obtain rfl := (R0_2 ws (KeptB.refl _ _)).1
  obtain rfl := (R1_1 ws (KeptB.refl _ _)).1
  obtain rfl := (R1_2 ws (KeptB.refl _ _)).1
  refine enter Try.func109 rfl Try.ntmps109 rfl hF ?_
  refine c_seq ?_
  refine za0 ?_
  refine o_q rfl rfl (q_asg rfl) ?_
  refine o_end ?_
  refine za1 ?_
  refine c_seq ?_
  refine a_start (ds := []) MO rfl ?_
  refine za8 0 rfl rfl rfl (by kernel_rfl) (fun _ _ _ h => h) (za2 rfl) ?_
  refine za8 1 rfl rfl rfl (by kernel_rfl) (fun _ _ _ h => h) (q_nil rfl) ?_
  refine za8 2 rfl rfl rfl (by kernel_rfl) (fun _ _ _ h => h) (q_f F27_0 rfl) ?_
  refine a_take 3 rfl rfl rfl (by kernel_rfl) (fun _ _ _ h => h) (fun w h => h) (q_ldb Y3 rfl (fun w h => B0.now Z h) rfl) ?_
  refine za8 4 rfl rfl rfl (by kernel_rfl) (fun _ _ _ h => h) (za2 rfl) ?_
  refine za8 5 rfl rfl rfl (by kernel_rfl) (fun _ _ _ h => h) (q_nil rfl) ?_
  refine za8 6 rfl rfl rfl (by kernel_rfl) (fun _ _ _ h => h) (q_f F27_0 rfl) ?_
  refine a_take 7 rfl rfl rfl (by kernel_rfl) (fun _ _ _ h => h) (fun w h => h) (q_ldb Y3 rfl (fun w h => B1.now Z h) rfl) ?_
  refine za8 8 rfl rfl rfl (by kernel_rfl) (fun _ _ _ h => h) (q_eql rfl rfl) ?_
  refine za8 9 rfl rfl rfl (by kernel_rfl) (fun _ _ _ h => h) (za2 rfl) ?_
  refine byB (decide (a0_0 = a1_0)) (fun hb1 => ?_) (fun hb1 => ?_)
  · replace h := br_t hb1 h
    refine a_purew 10 rfl rfl (za4 rfl rfl rfl (congrArg Value.bool hb1)) (by kernel_rfl) (fun _ _ _ h => h) (za2 rfl) ?_
    refine a_purew 12 rfl rfl (za4 rfl rfl rfl (congrArg Value.bool hb1)) (by kernel_rfl) (fun _ _ _ h => h) (za2 rfl) ?_
    refine za7 h (fun l3 hx2 h => ?_) rfl
    refine a_onew 11 rfl (za4 rfl rfl rfl (congrArg Value.bool hb1)) (by kernel_rfl) rfl (zac 0 Z Try.func135 N135 rfl rfl rfl (fun w P1 hF hB hS hT => impl_Plan_outputExponents.calls g0 a0_0 A0_1 c0_1 l0_1.length l0_1 A0_2 c0_2 l0_2.length l0_2 hB hF (hS _ R0_1) hc0_1 (hS _ R0_2) hc0_2 (hS _ B0) _ hx2)) (fun s w h => zab [] (by decide) w h rfl) (cur3 (fun A4 c5 H6 => ?_))
    refine za7 h (fun l8 hx7 h => ?_) rfl
    refine a_onew 13 rfl (za4 rfl rfl rfl (congrArg Value.bool hb1)) (by kernel_rfl) rfl (zac 0 Z Try.func135 N135 rfl rfl rfl (fun w P1 hF hB hS hT => impl_Plan_outputExponents.calls g1 a1_0 A1_1 c1_1 l1_1.length l1_1 A1_2 c1_2 l1_2.length l1_2 hB hF (hS _ R1_1) hc1_1 (hS _ R1_2) hc1_2 (hS _ B1) _ hx7)) (fun s w h => zab [] (by decide) w h rfl) (cur3 (fun A9 c10 H11 => ?_))
    refine za7 h (fun b13 hx12 h => ?_) rfl
    refine a_onew 14 rfl (za4 rfl rfl rfl (congrArg Value.bool hb1)) (by kernel_rfl) rfl (zac 0 Z Try.func187 N187 rfl rfl rfl (fun w P1 hF hB hS hT => slices_EqualFunc_int_int_int_int.calls A4 c5 l3.length H6 l3 A9 c10 l8.length H11 l8 hB hF (hT 1 _ rfl).row (hT 1 _ rfl).cap (hT 0 _ rfl).row (hT 0 _ rfl).cap _ hx12)) (fun s w h => zab [] (by decide) w h rfl) (fun _ => ?_)
    refine za8 15 rfl rfl rfl (by kernel_rfl) (fun _ _ _ h => h) (zal true (congrArg Value.bool hb1) rfl) ?_
    refine za8 16 rfl rfl rfl (by kernel_rfl) (fun _ _ _ h => h) (q_asg rfl) ?_
    refine zb0 (by kernel_rfl) ?_
    refine za1 ?_
    refine c_ret ?_
    have e0_ := Option.some.inj h; clear h
    subst e0_
    exact x_r1 () Try.results109 (zaf rfl) rfl (fun w h => za5 [] (by decide) rfl w h)
  · replace h := br_f hb1 h
    refine a_no 10 rfl rfl (za3 rfl rfl rfl (congrArg Value.bool hb1) rfl) (by kernel_rfl) (fun _ _ _ h => h) ?_
    refine a_no 11 rfl rfl (za3 rfl rfl rfl (congrArg Value.bool hb1) rfl) (by kernel_rfl) (fun _ _ _ h => h) ?_
    refine a_no 12 rfl rfl (za3 rfl rfl rfl (congrArg Value.bool hb1) rfl) (by kernel_rfl) (fun _ _ _ h => h) ?_
    refine a_no 13 rfl rfl (za3 rfl rfl rfl (congrArg Value.bool hb1) rfl) (by kernel_rfl) (fun _ _ _ h => h) ?_
    refine a_no 14 rfl rfl (za3 rfl rfl rfl (congrArg Value.bool hb1) rfl) (by kernel_rfl) (fun _ _ _ h => h) ?_
    refine za8 15 rfl rfl rfl (by kernel_rfl) (fun _ _ _ h => h) (zal false (congrArg Value.bool hb1) rfl) ?_
    refine za8 16 rfl rfl rfl (by kernel_rfl) (fun _ _ _ h => h) (q_asg rfl) ?_
    refine zb0 (by kernel_rfl) ?_
    refine za1 ?_
    refine c_ret ?_
    have e0_ := Option.some.inj h; clear h
    subst e0_
    exact x_r1 () Try.results109 (zaf rfl) rfl (fun w h => za5 [] (by decide) rfl w h)

/-! ### loop.example/g01098/impl.SamePowers: function 27 -/
def impl_SamePowers.f (k : Nat) (a0_0 : Int) (l0_1 : List SStep) (l0_2 : List Int) (a1_0 : Int) (l1_1 : List SStep) (l1_2 : List Int) : Option (Bool × Bool) := (impl_IsPlan.f k a0_0 l0_1 l0_2).bind fun b6 => if b6 = true then ((impl_IsPlan.f k a1_0 l1_1 l1_2).bind fun b9 => if b9 = true then ((impl_samePowers.f a0_0 l0_1 l0_2 a1_0 l1_1 l1_2).bind fun b12 => some (b12, true)) else (some (false, false))) else (some (false, false))
set_option maxHeartbeats 600000 in
set_option maxRecDepth 100000 in
theorem impl_SamePowers.calls (k : Nat) {w0 ws : World} {P0 : Nat → Prop} (a0_0 : Int) (A0_1 : Option Addr) (c0_1 : Nat) (n0_1 : Nat) (l0_1 : List SStep) (A0_2 : Option Addr) (c0_2 : Nat) (n0_2 : Nat) (l0_2 : List Int) (a1_0 : Int) (A1_1 : Option Addr) (c1_1 : Nat) (n1_1 : Nat) (l1_1 : List SStep) (A1_2 : Option Addr) (c1_2 : Nat) (n1_2 : Nat) (l1_2 : List Int) (Z : Below w0.heap.size w0 ws) (hF : Fr w0 ws P0 [] ws) (R0_1 : Stable ws P0 (fun w => Kd.C kStep w A0_1 n0_1 l0_1)) (hc0_1 : n0_1 ≤ c0_1) (R0_2 : Stable ws P0 (fun w => Kd.C (Kd.int .i64) w A0_2 n0_2 l0_2)) (hc0_2 : n0_2 ≤ c0_2) (R1_1 : Stable ws P0 (fun w => Kd.C kStep w A1_1 n1_1 l1_1)) (hc1_1 : n1_1 ≤ c1_1) (R1_2 : Stable ws P0 (fun w => Kd.C (Kd.int .i64) w A1_2 n1_2 l1_2)) (hc1_2 : n1_2 ≤ c1_2) (r_1 : Bool) (r_2 : Bool) (h : impl_SamePowers.f k a0_0 l0_1 l0_2 a1_0 l1_1 l1_2 = some (r_1, r_2)) :
    Calls Try.prog 27 #[.agg #[.int .i64 a0_0, .slice A0_1 n0_1 c0_1, .slice A0_2 n0_2 c0_2], .agg #[.int .i64 a1_0, .slice A1_1 n1_1 c1_1, .slice A1_2 n1_2 c1_2]] ws (Post1 w0 ws P0 (fun (_ : Unit) => .tuple #[.bool r_1, .bool r_2]) (fun (_ : Unit) => [])) := by
  unfold impl_SamePowers.f at h
  obtain rfl := (R0_1 ws (KeptB.refl _ _)).1
  obtain rfl := (R0_2 ws (KeptB.refl _ _)).1
  obtain rfl := (R1_1 ws (KeptB.refl _ _)).1
  obtain rfl := (R1_2 ws (KeptB.refl _ _)).1
  refine enter Try.func27 rfl Try.ntmps27 rfl hF ?_
  refine c_seq ?_
  refine za0 ?_
  refine o_e rfl (e_box rfl) (fun g1 => ?_)
  refine o_e rfl (e_box rfl) (fun g3 => ?_)
  refine o_q rfl rfl (q_asg rfl) ?_
  refine o_q rfl rfl (q_asg rfl) ?_
  refine o_end ?_
  refine za1 ?_
  refine c_seq ?_
  refine c_seq ?_
  refine za0 ?_
  refine o_q rfl rfl (q_ldB G27 Z27 rfl (fun w h => h.zaa (i := 1) rfl) rfl) ?_
  refine za7 h (fun b6 hx5 h => ?_) rfl
  refine o_e rfl (zac 0 Z Try.func86 N86 rfl rfl rfl (fun w P1 hF hB hS hT => impl_IsPlan.calls k a0_0 A0_1 c0_1 l0_1.length l0_1 A0_2 c0_2 l0_2.length l0_2 hB hF (hS _ R0_1) hc0_1 (hS _ R0_2) hc0_2 _ hx5)) (fun _ => ?_)
  refine o_q rfl rfl (q_not rfl) ?_
  refine o_q rfl rfl (za2 rfl) ?_
  refine byB b6 (fun hb7 => ?_) (fun hb7 => ?_)
  · replace h := bb_t hb7 h
    refine o_w (za4 rfl rfl rfl (congrArg (fun b => Value.bool (!(b))) hb7)) rfl (q_ldB G27 Z27 rfl (fun w h => h.zaa (i := 0) rfl) rfl) ?_
    refine za7 h (fun b9 hx8 h => ?_) rfl
    refine o_ew (za4 rfl rfl rfl (congrArg (fun b => Value.bool (!(b))) hb7)) (zac 0 Z Try.func86 N86 rfl rfl rfl (fun w P1 hF hB hS hT => impl_IsPlan.calls k a1_0 A1_1 c1_1 l1_1.length l1_1 A1_2 c1_2 l1_2.length l1_2 hB hF (hS _ R1_1) hc1_1 (hS _ R1_2) hc1_2 _ hx8)) (fun _ => ?_)
    refine o_w (za4 rfl rfl rfl (congrArg (fun b => Value.bool (!(b))) hb7)) rfl (q_not rfl) ?_
    refine o_q rfl rfl (zal false (congrArg (fun b => Value.bool (!(b))) hb7) rfl) ?_
    refine o_end ?_
    refine za1 ?_
    refine zar _ rfl (fun hb10 => ?_) (fun hb10 => ?_)
    · replace hb10 := nt_t hb10
      replace h := bb_f hb10 h
      refine c_seq ?_
      refine za0 ?_
      refine o_q rfl rfl (q_asg rfl) ?_
      refine o_q rfl rfl (q_asg rfl) ?_
      refine o_end ?_
      refine za1 ?_
      refine c_ret ?_
      refine za9 ?_
      have e0_ := Option.some.inj h; clear h
      have d0_ := (Prod.mk.inj e0_).1; have e1_ := (Prod.mk.inj e0_).2; clear e0_; subst d0_
      subst e1_
      exact x_r2 () Try.results27 (zaf rfl) (zaf rfl) rfl (fun w h => za5 [] (by decide) rfl w h)
    · replace hb10 := nt_f hb10
      replace h := bb_t hb10 h
      refine zam ?_
      refine za1 ?_
      refine c_seq ?_
      refine za0 ?_
      refine za7 h (fun b12 hx11 h => ?_) rfl
      refine o_e rfl (zac 0 Z Try.func109 N109 rfl rfl rfl (fun w P1 hF hB hS hT => impl_samePowers.calls g1 a0_0 A0_1 c0_1 l0_1.length l0_1 A0_2 c0_2 l0_2.length l0_2 g3 a1_0 A1_1 c1_1 l1_1.length l1_1 A1_2 c1_2 l1_2.length l1_2 hB hF (hS _ R0_1) hc0_1 (hS _ R0_2) hc0_2 (hT 1 _ rfl).box (hS _ R1_1) hc1_1 (hS _ R1_2) hc1_2 (hT 0 _ rfl).box _ hx11)) (fun _ => ?_)
      refine o_q rfl rfl (q_asg rfl) ?_
      refine o_q rfl rfl (q_asg rfl) ?_
      refine o_end ?_
      refine za1 ?_
      refine c_ret ?_
      have e0_ := Option.some.inj h; clear h
      have d0_ := (Prod.mk.inj e0_).1; have e1_ := (Prod.mk.inj e0_).2; clear e0_; subst d0_
      subst e1_
      exact x_r2 () Try.results27 (zaf rfl) (zaf rfl) rfl (fun w h => za5 [] (by decide) rfl w h)
  · replace h := bb_f hb7 h
    refine @o_n _ _ _ _ _ _ _ _ _ _ _ 10 (za3 rfl rfl rfl (congrArg (fun b => Value.bool (!(b))) hb7) rfl) (Eq.refl (some 10)) ?_
    refine @o_n _ _ _ _ _ _ _ _ _ _ _ 11 (za3 rfl rfl rfl (congrArg (fun b => Value.bool (!(b))) hb7) rfl) (Eq.refl (some 11)) ?_
    refine @o_n _ _ _ _ _ _ _ _ _ _ _ 12 (za3 rfl rfl rfl (congrArg (fun b => Value.bool (!(b))) hb7) rfl) (Eq.refl (some 12)) ?_
    refine o_q rfl rfl (zal true (congrArg (fun b => Value.bool (!(b))) hb7) rfl) ?_
    refine o_end ?_
    refine za1 ?_
    refine zb3 rfl ?_
    refine c_seq ?_
    refine za0 ?_
    refine o_q rfl rfl (q_asg rfl) ?_
    refine o_q rfl rfl (q_asg rfl) ?_
    refine o_end ?_
    refine za1 ?_
    refine c_ret ?_
    refine za9 ?_
    have e0_ := Option.some.inj h; clear h
    have d0_ := (Prod.mk.inj e0_).1; have e1_ := (Prod.mk.inj e0_).2; clear e0_; subst d0_
    subst e1_
    exact x_r2 () Try.results27 (zaf rfl) (zaf rfl) rfl (fun w h => za5 [] (by decide) rfl w h)

/-! ### loop.example/g01098/laws.pSameRows: function 73 -/
def laws_pSameRows.l0 (l1 : List (List Int)) : (List (List Int)) → Int → Option ((Bool) ⊕ (Unit))
  | [], i2 => some (.inr ())
  | y3 :: ys4, i2 => (gt l1 i2).bind fun y17 => (laws_pSameInts.f y3 y17).bind fun b20 => if b20 = true then (laws_pSameRows.l0 l1 ys4 (i2 + 1)) else (some (.inl false))
def laws_pSameRows.f (l0 : List (List Int)) (l1 : List (List Int)) : Option Bool := if (l0.length : Int) ≠ (l1.length : Int) then (some false) else ((laws_pSameRows.l0 l1 l0 0).bind fun o_ => match o_ with | .inl r_ => some r_ | .inr _ => some true)
set_option maxHeartbeats 600000 in
set_option maxRecDepth 100000 in
theorem laws_pSameRows.calls {w0 ws : World} {P0 : Nat → Prop} (A0 : Option Addr) (c0 : Nat) (n0 : Nat) (H0 : Hd) (l0 : List (List Int)) (A1 : Option Addr) (c1 : Nat) (n1 : Nat) (H1 : Hd) (l1 : List (List Int)) (Z : Below w0.heap.size w0 ws) (hF : Fr w0 ws P0 [] ws) (R0 : Stable ws P0 (fun w => Kd.C (gk 3 (Kd.int .i64)) w A0 n0 (zp H0 l0))) (hc0 : n0 ≤ c0) (R1 : Stable ws P0 (fun w => Kd.C (gk 3 (Kd.int .i64)) w A1 n1 (zp H1 l1))) (hc1 : n1 ≤ c1) (r_1 : Bool) (h : laws_pSameRows.f l0 l1 = some r_1) :
    Calls Try.prog 73 #[.slice A0 n0 c0, .slice A1 n1 c1] ws (Post1 w0 ws P0 (fun (_ : Unit) => .bool r_1) (fun (_ : Unit) => [])) := by
  unfold laws_pSameRows.f at h
  obtain rfl := (zp_len _ _).symm.trans (R0 ws (KeptB.refl _ _)).1
  obtain rfl := (zp_len _ _).symm.trans (R1 ws (KeptB.refl _ _)).1
  refine enter Try.func73 rfl Try.ntmps73 rfl hF ?_
  refine c_seq ?_
  refine za0 ?_
  refine o_q rfl rfl (q_asg rfl) ?_
  refine o_end ?_
  refine za1 ?_
  refine c_seq ?_
  refine c_seq ?_
  refine za0 ?_
  refine o_q rfl rfl (za2 rfl) ?_
  refine o_q rfl rfl (q_len Try.underlying60 rfl) ?_
  refine o_q rfl rfl (za2 rfl) ?_
  refine o_q rfl rfl (q_len Try.underlying60 rfl) ?_
  refine o_q rfl rfl (q_neq rfl rfl) ?_
  refine o_end ?_
  refine za1 ?_
  refine zar _ rfl (fun hb1 => ?_) (fun hb1 => ?_)
  · skip
    replace h := br_t hb1 h
    refine c_seq ?_
    refine za0 ?_
    refine o_q rfl rfl (q_asg rfl) ?_
    refine o_end ?_
    refine za1 ?_
    refine c_ret ?_
    refine za9 ?_
    have e0_ := Option.some.inj h; clear h
    subst e0_
    exact x_r1 () Try.results73 (zaf rfl) rfl (fun w h => za5 [] (by decide) rfl w h)
  · skip
    replace h := br_f hb1 h
    refine zam ?_
    refine za1 ?_
    refine c_seq ?_
    refine c_seq ?_
    refine za0 ?_
    refine o_q rfl rfl (za2 rfl) ?_
    refine o_q rfl rfl (q_len Try.underlying60 rfl) ?_
    refine o_q rfl rfl (za2 rfl) ?_
    refine o_end ?_
    refine za1 ?_
    refine zaj ?_
    refine za7 h (fun o10 hl9 hR8 => ?_) rfl
    clear h
    refine c_fact (p := l0.length ≤ 9223372036854775807) (fun w h => (R0.now Z h).2.1) (fun hm7 => ?_)
    refine zav (σ := (List (List Int)) × Int) (fun k5 ((ys4, i2) : (List (List Int)) × Int) => Rg l0 i2 ys4 ∧ ys4.length = k5 ∧ laws_pSameRows.l0 l1 ys4 i2 = some o10) [4, 5, 13, 14, 15, 16, 17, 18, 19, 20, 21, 22, 23, 24, 25, 26] (fun ((ys4, i2) : (List (List Int)) × Int) => [(13, .int .i64 i2)]) (fun ((ys4, i2) : (List (List Int)) × Int) => []) l0.length (l0, 0) ⟨Rg.start _, rfl, hl9⟩ ⟨rfl, trivial⟩ (fun w h => h) ?_
    refine fun k5 => cur2 (listC (fun i2 U11 hJ_ => ?_) (fun y3 ys4 i2 U11 hJ_ => ?_))
    · skip
      clear hl9
      have hr6 := hJ_.1; have hk12 := hJ_.2.1; have h := hJ_.2.2; clear hJ_
      replace h : laws_pSameRows.l0 l1 [] i2 = some o10 := h
      rw [laws_pSameRows.l0] at h
      refine c_seq ?_
      refine za0 ?_
      refine o_q rfl rfl (q_lss rfl rfl) ?_
      refine o_end ?_
      refine za1 ?_
      refine c_seq ?_
      refine zb2 (congrArg Value.bool hr6.ge) ?_
      refine c_exit ?_
      refine za6 ?_
      refine za6 ?_
      have e_ := Option.some.inj h; replace h := hR8; rw [← e_] at h; clear e_
      refine x_hit ?_
      refine za1 ?_
      refine c_seq ?_
      refine za0 ?_
      refine o_q rfl rfl (q_asg rfl) ?_
      refine o_end ?_
      refine za1 ?_
      refine c_ret ?_
      have e0_ := Option.some.inj h; clear h
      subst e0_
      exact x_r1 () Try.results73 (zaf rfl) rfl (fun w h => za5 [] (by decide) rfl w h)
    · skip
      clear hl9
      have hr6 := hJ_.1; have hk12 := hJ_.2.1; have h := hJ_.2.2; clear hJ_
      replace h : laws_pSameRows.l0 l1 (y3 :: ys4) i2 = some o10 := h
      rw [laws_pSameRows.l0] at h
      refine c_seq ?_
      refine za0 ?_
      refine o_q rfl rfl (q_lss rfl rfl) ?_
      refine o_end ?_
      refine za1 ?_
      refine c_seq ?_
      refine zb3 (congrArg Value.bool hr6.lt) ?_
      refine zam ?_
      refine za1 ?_
      refine c_seq ?_
      refine zaj ?_
      refine c_seq ?_
      refine za0 ?_
      refine o_q rfl rfl (za2 rfl) ?_
      refine o_q rfl rfl (q_asg rfl) ?_
      refine o_end ?_
      refine za1 ?_
      refine c_seq ?_
      refine a_start (ds := []) MO rfl ?_
      refine za8 0 rfl rfl rfl (by kernel_rfl) (fun _ _ _ h => h) (za2 rfl) ?_
      refine za8 1 rfl rfl rfl (by kernel_rfl) (fun _ _ _ h => h) (za2 rfl) ?_
      refine a_fact (p := Sh A0 l0.length (zp H0 l0).length) (fun w h => f_sh (dk := (gk 3 (Kd.int .i64))) h (fun w h => R0.now Z h)) (fun hq13 => ?_)
      refine za8 2 rfl rfl rfl (by kernel_rfl) (fun _ _ _ h => h) (q_ix Try.underlying60 Z25 rfl rfl hq13 (gt_zp hr6.get)) ?_
      refine a_fact (p := y3.length ≤ hC H0 i2) (fun w h => (K_in (R0.now Z h) hr6.get).1) (fun hc14 => ?_)
      refine a_take 3 rfl rfl rfl (by kernel_rfl) (fun _ _ _ h => h) (fun w h => h) (q_lde (off := 0) Y25 rfl rfl (fun w h => R0.now Z h) (gt_zp hr6.get) (fun _ _ h => h.1) rfl) ?_
      refine za8 4 rfl rfl rfl (by kernel_rfl) (fun _ _ _ h => h) (za2 rfl) ?_
      refine za8 5 rfl rfl rfl (by kernel_rfl) (fun _ _ _ h => h) (za2 rfl) ?_
      refine a_fact (p := Sh A1 l1.length (zp H1 l1).length) (fun w h => f_sh (dk := (gk 3 (Kd.int .i64))) h (fun w h => R1.now Z h)) (fun hq15 => ?_)
      refine za7 h (fun y17 hg16 h => ?_) rfl
      refine za8 6 rfl rfl rfl (by kernel_rfl) (fun _ _ _ h => h) (q_ix Try.underlying60 Z25 rfl rfl hq15 (gt_zp hg16)) ?_
      refine a_fact (p := y17.length ≤ hC H1 i2) (fun w h => (K_in (R1.now Z h) hg16).1) (fun hc18 => ?_)
      refine a_take 7 rfl rfl rfl (by kernel_rfl) (fun _ _ _ h => h) (fun w h => h) (q_lde (off := 0) Y25 rfl rfl (fun w h => R1.now Z h) (gt_zp hg16) (fun _ _ h => h.1) rfl) ?_
      refine za7 h (fun b20 hx19 h => ?_) rfl
      refine a_one 8 rfl rfl (by kernel_rfl) rfl (zac 0 Z Try.func21 N21 rfl rfl rfl (fun w P1 hF hB hS hT => laws_pSameInts.calls (hA H0 i2) (hC H0 i2) y3.length y3 (hA H1 i2) (hC H1 i2) y17.length y17 hB hF (stab_in (hS _ R0) hr6.get) hc14 (stab_in (hS _ R1) hg16) hc18 _ hx19)) (fun s w h => h) (fun _ => ?_)
      refine za8 9 rfl rfl rfl (by kernel_rfl) (fun _ _ _ h => h) (q_not rfl) ?_
      refine zb0 (by kernel_rfl) ?_
      refine za1 ?_
      refine zar _ rfl (fun hb21 => ?_) (fun hb21 => ?_)
      · replace hb21 := nt_t hb21
        replace h := bb_f hb21 h
        refine c_seq ?_
        refine za0 ?_
        refine o_q rfl rfl (q_asg rfl) ?_
        refine o_end ?_
        refine za1 ?_
        refine c_ret ?_
        refine zao ?_
        refine za9 ?_
        refine za9 ?_
        have e_ := Option.some.inj h; replace h := hR8; rw [← e_] at h; clear e_
        refine zao ?_
        refine za9 ?_
        have e0_ := Option.some.inj h; clear h
        subst e0_
        exact x_r1 () Try.results73 (zaf rfl) rfl (fun w h => za5 [] (by decide) rfl w h)
      · replace hb21 := nt_f hb21
        replace h := bb_t hb21 h
        refine zam ?_
        refine zan ?_
        refine za1 ?_
        refine za0 ?_
        refine o_q rfl rfl (q_up rfl rfl (hr6.up hm7)) ?_
        refine o_q rfl rfl (za2 rfl) ?_
        refine o_end ?_
        refine zak ys4.length (ys4, i2 + 1) (by rw [← hk12]; exact Nat.lt_succ_self _) ⟨hr6.step, rfl, h⟩ ⟨rfl, trivial⟩ (fun w h => za5 [] (by decide) rfl w h) ?_
        repeat (first | exact zad _ _ | refine zah rfl ?_ | refine zae rfl ?_ | refine zai rfl ?_)

end Go.Proofs.Ytoegbcbdiggbjaa.TU
