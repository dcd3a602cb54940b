import Derived.Test.YtoegbcbdiggbjaaKFnReorderedPlansROp1
namespace Go.Proofs.Ytoegbcbdiggbjaa.RO
open Go.RowKit Go.Proofs.Ytoegbcbdiggbjaa.Frame Go.Proofs.YtoegbcbdiggbjaaW.PrintLast Go.Proofs.Ytoegbcbdiggbjaa.Hand
open Go.Proofs.YtoegbcbdiggbjaaW.PrintWords hiding mn mx
set_option linter.unusedVariables false
/-! ### loop.example/g01098/spec.plUpTo: function 105 -/
def spec_plUpTo.l0 (a0 : Int) : Nat → (List Int) → Int → Option (List Int)
  | 0, _, _ => none
  | k8 + 1, l2, i5 => if i5 < a0 then ((ap l2 ([i5] : List Int)).bind fun l20 => spec_plUpTo.l0 a0 k8 l20 (w64 (i5 + 1))) else (some l2)
def spec_plUpTo.f (k : Nat) (a0 : Int) : Option (List Int) := (spec_plUpTo.l0 a0 k ([] : List Int) 0).bind fun l2 => some l2
set_option maxHeartbeats 600000 in
set_option maxRecDepth 100000 in
theorem spec_plUpTo.calls (k : Nat) {w0 ws : World} {P0 : Nat → Prop} (a0 : Int) (Z : Below w0.heap.size w0 ws) (hF : Fr w0 ws P0 [] ws)  (r_1 : List Int) (h : spec_plUpTo.f k a0 = some r_1) :
    Calls Try.prog 105 #[.int .i64 a0] ws (Post1 w0 ws P0 (fun ((q_2, q_3) : (Option Addr) × Nat) => .slice q_2 r_1.length q_3) (fun ((q_2, q_3) : (Option Addr) × Nat) => [row (Kd.int .i64) 3 (.slice q_2 r_1.length q_3) r_1])) := by
  unfold spec_plUpTo.f at h
  refine enter Try.func105 rfl Try.ntmps105 rfl hF ?_
  refine c_seq ?_
  refine za0 ?_
  refine o_q rfl rfl (q_asg rfl) ?_
  refine o_end ?_
  refine za1 ?_
  refine c_seq ?_
  refine za0 ?_
  refine o_q rfl rfl (q_asg rfl) ?_
  refine o_end ?_
  refine za1 ?_
  refine c_seq ?_
  refine c_seq ?_
  refine za0 ?_
  refine o_q rfl rfl (q_asg rfl) ?_
  refine o_end ?_
  refine za1 ?_
  refine zal ?_
  refine c_nil (Kd.int .i64) 3 ?_
  refine za9 h (fun o13 hl12 hR11 => ?_) rfl
  clear h
  refine zax (σ := (List Int) × Int × (Option Addr) × Nat) (fun k8 ((l2, i5, A3, c4) : (List Int) × Int × (Option Addr) × Nat) => spec_plUpTo.l0 a0 k8 l2 i5 = some o13) [3, 4, 5, 6, 7, 8, 9, 10, 11, 12, 13] (fun ((l2, i5, A3, c4) : (List Int) × Int × (Option Addr) × Nat) => [(3, .slice A3 l2.length c4), (4, .int .i64 i5)]) (fun ((l2, i5, A3, c4) : (List Int) × Int × (Option Addr) × Nat) => [row (Kd.int .i64) 3 (.slice A3 l2.length c4) l2]) k (([] : List Int), 0, none, 0) hl12 ⟨rfl, rfl, trivial⟩ (fun w h => h) ?_
  refine natC (cur4 (fun l2 i5 A3 c4 => fun U14 hJ_ => ?_)) (fun k8 => (cur4 (fun l2 i5 A3 c4 => fun U14 hJ_ => ?_)))
  · skip
    replace hJ_ : spec_plUpTo.l0 a0 0 l2 i5 = some o13 := hJ_
    rw [spec_plUpTo.l0] at hJ_
    exact noneE hJ_
  · skip
    clear hl12
    have h := hJ_; clear hJ_
    replace h : spec_plUpTo.l0 a0 (k8 + 1) l2 i5 = some o13 := h
    rw [spec_plUpTo.l0] at h
    refine c_seq ?_
    refine c_seq ?_
    refine za0 ?_
    refine o_q rfl rfl (za3 rfl) ?_
    refine o_q rfl rfl (za3 rfl) ?_
    refine o_q rfl rfl (q_lss rfl rfl) ?_
    refine o_end ?_
    refine za1 ?_
    refine zas _ rfl (fun hb16 => ?_) (fun hb16 => ?_)
    · skip
      replace h := br_t hb16 h
      refine zao ?_
      refine za1 ?_
      refine c_seq ?_
      refine zal ?_
      refine za0 ?_
      refine o_q rfl rfl (za3 rfl) ?_
      refine o_q rfl rfl (za3 rfl) ?_
      refine o_e rfl (e_lit (vs := [(0, .int .i64 i5)]) (cs := [.int .i64 i5]) (Kd.int .i64) ([i5] : List Int) Try.underlying25 I3 (by decide) rfl (by decide) rfl rfl (fun _ _ => Kd.zar _)) (cur2 (fun A17 c18 => ?_))
      refine za9 h (fun l20 ha21 h => ?_) rfl
      refine o_e rfl (e_app (i := 1) (j := 0) Try.underlying25 I3 rfl (by decide) (by decide) rfl rfl rfl rfl rfl ha21) (cur2 (fun A22 c23 => ?_))
      refine o_q rfl rfl (q_asg rfl) ?_
      refine o_end ?_
      refine zan ?_
      refine za1 ?_
      refine za0 ?_
      refine o_q rfl rfl (za3 rfl) ?_
      refine o_q rfl rfl (q_add64 rfl rfl) ?_
      refine o_q rfl rfl (q_asg rfl) ?_
      refine o_end ?_
      refine zam k8 (l20, w64 (i5 + 1), A22, c23) (Nat.lt_succ_self _) h ⟨rfl, rfl, trivial⟩ (fun w h => za7 [1] (by decide) rfl w h) ?_
      repeat (first | exact zad _ _ | refine zai rfl ?_ | refine zae rfl ?_ | refine zaj rfl ?_)
    · skip
      replace h := br_f hb16 h
      refine c_exit ?_
      refine za8 ?_
      refine za8 ?_
      have e_ := Option.some.inj h; replace h := hR11; rw [← e_] at h; clear e_
      refine x_hit ?_
      refine za1 ?_
      refine c_seq ?_
      refine za0 ?_
      refine o_q rfl rfl (za3 rfl) ?_
      refine o_q rfl rfl (q_asg rfl) ?_
      refine o_end ?_
      refine za1 ?_
      refine c_ret ?_
      have e0_ := Option.some.inj h; clear h
      subst e0_
      exact x_r1 (A3, c4) Try.results105 (zaf rfl) rfl (fun w h => za7 [0] (by decide) rfl w h)

/-! ### loop.example/g01098/spec.DrawReorderSteps: function 38 -/
def spec_DrawReorderSteps.l0 (l0 : List Int) (l18 : List Int) : Nat → (List Int) → Int → Int → Int → Option (Int × Int × (List Int))
  | 0, _, _, _, _ => none
  | k77 + 1, l71, i72, i73, i74 => if 0 < i74 then (if 1 < (l18.length : Int) then ((spec_l1Cur_pick.f l0 i72 i73 (w64 ((l18.length : Int) - 1))).bind fun (i88, i89, i90) => (gt l71 i88).bind fun y93 => (gt l71 (w64 (i88 + 1))).bind fun y95 => (gt l71 i88).bind fun y97 => (st l71 i88 y95).bind fun l98 => (gt l98 (w64 (i88 + 1))).bind fun y102 => (st l98 (w64 (i88 + 1)) y93).bind fun l103 => spec_DrawReorderSteps.l0 l0 l18 k77 l103 i89 i90 (w64 (i74 - 1))) else (some (i72, i73, l71))) else (some (i72, i73, l71))
def spec_DrawReorderSteps.f (k : Nat) (l0 : List Int) : Option (Int × (List SStep) × (List Int) × (List Int)) := (spec_l1Cur_anyPlan.f k l0 0 0 3 7).bind fun (i6, l7, l8, i9, i10) => (spec_plUpTo.f k (l7.length : Int)).bind fun l18 => ((spec_l1Cur_pick.f l0 i9 i10 4).bind fun (i68, i69, i70) => (spec_DrawReorderSteps.l0 l0 l18 k l18 i69 i70 i68)).bind fun (i59, i60, l61) => ((spec_l1Cur_one.f l0 i59 i60 10).bind fun (b132, i133, i134) => if b132 = true then ((spec_l1Cur_pick.f l0 i133 i134 9).bind fun (i137, i138, i139) => (ap l61 ([w64 (i137 - 1)] : List Int)).bind fun l143 => some (l143, i138, i139)) else (some (l61, i133, i134))).bind fun (l121, i124, i125) => some (i6, l7, l8, l121)
set_option maxHeartbeats 600000 in
set_option maxRecDepth 100000 in
theorem spec_DrawReorderSteps.calls (k : Nat) {w0 ws : World} {P0 : Nat → Prop} (A0 : Option Addr) (c0 : Nat) (n0 : Nat) (l0 : List Int) (Z : Below w0.heap.size w0 ws) (hF : Fr w0 ws P0 [] ws) (R0 : Stable ws P0 (fun w => Kd.C (Kd.int .u8) w A0 n0 l0)) (hc0 : n0 ≤ c0) (r_1 : Int) (r_2 : List SStep) (r_5 : List Int) (r_8 : List Int) (h : spec_DrawReorderSteps.f k l0 = some (r_1, r_2, r_5, r_8)) :
    Calls Try.prog 38 #[.slice A0 n0 c0] ws (Post1 w0 ws P0 (fun ((q_3, q_4, q_6, q_7, q_9, q_10) : (Option Addr) × Nat × (Option Addr) × Nat × (Option Addr) × Nat) => .tuple #[.agg #[.int .i64 r_1, .slice q_3 r_2.length q_4, .slice q_6 r_5.length q_7], .slice q_9 r_8.length q_10]) (fun ((q_3, q_4, q_6, q_7, q_9, q_10) : (Option Addr) × Nat × (Option Addr) × Nat × (Option Addr) × Nat) => [row kStep 89 (.slice q_3 r_2.length q_4) r_2, row (Kd.int .i64) 3 (.slice q_6 r_5.length q_7) r_5, row (Kd.int .i64) 3 (.slice q_9 r_8.length q_10) r_8])) := by
  unfold spec_DrawReorderSteps.f at h
  obtain rfl := (R0 ws (KeptB.refl _ _)).1
  refine enter Try.func38 rfl Try.ntmps38 rfl hF ?_
  refine c_seq ?_
  refine za0 ?_
  refine o_e rfl (e_alloc V27 rfl) (fun g1 => ?_)
  refine o_q rfl rfl (q_asg rfl) ?_
  refine o_end ?_
  refine za1 ?_
  refine c_seq ?_
  refine za0 ?_
  refine o_q rfl rfl (za3 rfl) ?_
  refine o_q rfl rfl (q_build (vs := [(0, .slice A0 l0.length c0)]) (cs := [.slice A0 l0.length c0, .int .i64 0, .int .u64 0]) rfl rfl) ?_
  refine o_e rfl (e_box rfl) (fun g3 => ?_)
  refine o_q rfl rfl (q_asg rfl) ?_
  refine o_end ?_
  refine za1 ?_
  refine c_seq ?_
  refine za0 ?_
  refine o_q rfl rfl (za3 rfl) ?_
  refine bindE5 h (fun i6 l7 l8 i9 i10 hx5 h => ?_) rfl
  refine o_e rfl (zac 1 Z Try.func84 N84 rfl rfl rfl (fun w P1 hF hB hS hT => spec_l1Cur_anyPlan.calls k g3 A0 c0 l0.length l0 0 0 3 7 hB hF (hS _ R0) hc0 _ _ _ _ _ hx5)) (cur4 (fun A11 c12 A13 c14 => ?_))
  refine o_e rfl (e_alloc V27 rfl) (fun g15 => ?_)
  refine o_e rfl (zau (i := 0) rfl rfl rfl Z27 rfl rfl) (fun _ => ?_)
  refine o_end ?_
  refine za1 ?_
  refine c_seq ?_
  refine za0 ?_
  refine o_q rfl rfl (q_f F27_1 rfl) ?_
  refine o_q rfl rfl (q_ldb Y24 rfl (fun w h => h.zaa (i := 0) rfl) rfl) ?_
  refine o_q rfl rfl (q_len Try.underlying24 rfl) ?_
  refine za9 h (fun l18 hx17 h => ?_) rfl
  refine o_e rfl (zac 0 Z Try.func105 N105 rfl rfl rfl (fun w P1 hF hB hS hT => spec_plUpTo.calls k (l7.length : Int) hB hF _ hx17)) (cur2 (fun A19 c20 => ?_))
  refine o_q rfl rfl (q_asg rfl) ?_
  refine o_end ?_
  refine za1 ?_
  refine za9 h (fun o62 hl63 hR64 => ?_) rfl
  clear h
  refine c_cutJ (σ := Int × Int × (List Int)) (fun (i59, i60, l61) => some (i59, i60, l61) = some o62) [7, 8, 9, 10, 20, 21, 22, 23, 24, 25, 26, 27, 28, 29, 30, 31, 32, 33, 34, 35, 36, 37, 38, 39, 40, 41, 42, 43, 44, 45, 46, 47, 48, 49, 50, 51, 52, 53] (fun (i59, i60, l61) => []) (fun (i59, i60, l61) => [box g1 27 #[.int .i64 0, .slice none 0 0, .slice none 0 0], box g3 81 #[.slice A0 l0.length c0, .int .i64 i59, .int .u64 i60], box g15 27 #[.int .i64 i6, .slice A11 l7.length c12, .slice A13 l8.length c14], row kStep 89 (.slice A11 l7.length c12) l7, row (Kd.int .i64) 3 (.slice A13 l8.length c14) l8, row (Kd.int .i64) 3 (.slice A19 l18.length c20) l61]) ?_ ?_
  · skip
    have h := hl63; clear hl63
    clear hR64
    refine c_seq ?_
    refine za0 ?_
    refine o_q rfl rfl (za3 rfl) ?_
    refine o_pick [4, 0, 1, 2, 3, 5] (by decide) rfl ?_
    refine bindE3 h (fun i68 i69 i70 hx67 h => ?_) rfl
    refine o_e rfl (zac 1 Z Try.func85 N85 rfl rfl rfl (fun w P1 hF hB hS hT => spec_l1Cur_pick.calls g3 A0 c0 l0.length l0 i9 i10 4 hB hF (hS _ R0) hc0 _ _ _ hx67)) (fun _ => ?_)
    refine o_q rfl rfl (q_asg rfl) ?_
    refine o_end ?_
    refine za1 ?_
    refine zal ?_
    have hl81 := h; clear h
    refine zax (σ := (List Int) × Int × Int × Int) (fun k77 ((l71, i72, i73, i74) : (List Int) × Int × Int × Int) => spec_DrawReorderSteps.l0 l0 l18 k77 l71 i72 i73 i74 = some o62) [7, 8, 9, 10, 22, 23, 24, 25, 26, 27, 28, 29, 30, 31, 32, 33, 34, 35, 36, 37, 38, 39, 40, 41, 42, 43, 44, 45, 46, 47, 48, 49, 50, 51, 52, 53] (fun ((l71, i72, i73, i74) : (List Int) × Int × Int × Int) => [(7, .int .i64 i74)]) (fun ((l71, i72, i73, i74) : (List Int) × Int × Int × Int) => [box g3 81 #[.slice A0 l0.length c0, .int .i64 i72, .int .u64 i73], row (Kd.int .i64) 3 (.slice A19 l18.length c20) l71, box g15 27 #[.int .i64 i6, .slice A11 l7.length c12, .slice A13 l8.length c14], row kStep 89 (.slice A11 l7.length c12) l7, row (Kd.int .i64) 3 (.slice A13 l8.length c14) l8, box g1 27 #[.int .i64 0, .slice none 0 0, .slice none 0 0]]) k (l18, i69, i70, i68) hl81 ⟨rfl, trivial⟩ (fun w h => h) ?_
    refine natC (cur4 (fun l71 i72 i73 i74 => fun U83 hJ_ => ?_)) (fun k77 => (cur4 (fun l71 i72 i73 i74 => fun U83 hJ_ => ?_)))
    · skip
      replace hJ_ : spec_DrawReorderSteps.l0 l0 l18 0 l71 i72 i73 i74 = some o62 := hJ_
      rw [spec_DrawReorderSteps.l0] at hJ_
      exact noneE hJ_
    · skip
      clear hl81
      have h := hJ_; clear hJ_
      replace h : spec_DrawReorderSteps.l0 l0 l18 (k77 + 1) l71 i72 i73 i74 = some o62 := h
      rw [spec_DrawReorderSteps.l0] at h
      refine c_seq ?_
      refine c_seq ?_
      refine za0 ?_
      refine o_q rfl rfl (za3 rfl) ?_
      refine o_q rfl rfl (q_gtr rfl rfl) ?_
      refine o_q rfl rfl (za3 rfl) ?_
      refine byB (decide (0 < i74)) (fun hb85 => ?_) (fun hb85 => ?_)
      · replace h := br_t hb85 h
        refine o_w (za4 rfl rfl rfl (congrArg Value.bool hb85)) rfl (za3 rfl) ?_
        refine o_w (za4 rfl rfl rfl (congrArg Value.bool hb85)) rfl (q_len Try.underlying25 rfl) ?_
        refine o_w (za4 rfl rfl rfl (congrArg Value.bool hb85)) rfl (q_gtr rfl rfl) ?_
        refine o_q rfl rfl (zak true (congrArg Value.bool hb85) rfl) ?_
        refine o_end ?_
        refine za1 ?_
        refine zas _ rfl (fun hb86 => ?_) (fun hb86 => ?_)
        · skip
          replace h := br_t hb86 h
          refine zao ?_
          refine za1 ?_
          refine c_seq ?_
          refine zal ?_
          refine c_seq ?_
          refine za0 ?_
          refine o_q rfl rfl (za3 rfl) ?_
          refine o_q rfl rfl (za3 rfl) ?_
          refine o_q rfl rfl (q_len Try.underlying25 rfl) ?_
          refine o_q rfl rfl (q_sub64 rfl rfl) ?_
          refine bindE3 h (fun i88 i89 i90 hx87 h => ?_) rfl
          refine o_e rfl (zac 1 Z Try.func85 N85 rfl rfl rfl (fun w P1 hF hB hS hT => spec_l1Cur_pick.calls g3 A0 c0 l0.length l0 i72 i73 (w64 ((l18.length : Int) - 1)) hB hF (hS _ R0) hc0 _ _ _ hx87)) (fun _ => ?_)
          refine o_q rfl rfl (q_asg rfl) ?_
          refine o_end ?_
          refine za1 ?_
          refine c_seq ?_
          refine a_start (ds := []) MO rfl ?_
          refine za6 0 rfl rfl rfl (by kernel_rfl) (fun _ _ _ h => h) (za3 rfl) ?_
          refine za6 1 rfl rfl rfl (by kernel_rfl) (fun _ _ _ h => h) (za3 rfl) ?_
          refine a_fact (p := Sh A19 l18.length l71.length) (fun w h => f_sh (dk := (Kd.int .i64)) h (fun w h => h.zb0 (i := 1) rfl)) (fun hq91 => ?_)
          refine za9 h (fun y93 hg92 h => ?_) rfl
          refine za6 2 rfl rfl rfl (by kernel_rfl) (fun _ _ _ h => h) (q_ix Try.underlying25 Z3 rfl rfl hq91 hg92) ?_
          refine a_take 3 rfl rfl rfl (by kernel_rfl) (fun _ _ _ h => h) (fun w h => h) (q_lde (off := 0) Y3 rfl rfl (fun w h => h.zb0 (i := 1) rfl) hg92 (fun _ _ h => h) rfl) ?_
          refine za6 4 rfl rfl rfl (by kernel_rfl) (fun _ _ _ h => h) (za3 rfl) ?_
          refine za6 5 rfl rfl rfl (by kernel_rfl) (fun _ _ _ h => h) (za3 rfl) ?_
          refine za6 6 rfl rfl rfl (by kernel_rfl) (fun _ _ _ h => h) (q_add64 rfl rfl) ?_
          refine za9 h (fun y95 hg94 h => ?_) rfl
          refine za6 7 rfl rfl rfl (by kernel_rfl) (fun _ _ _ h => h) (q_ix Try.underlying25 Z3 rfl rfl hq91 hg94) ?_
          refine a_take 8 rfl rfl rfl (by kernel_rfl) (fun _ _ _ h => h) (fun w h => h) (q_lde (off := 0) Y3 rfl rfl (fun w h => h.zb0 (i := 1) rfl) hg94 (fun _ _ h => h) rfl) ?_
          refine za6 9 rfl rfl rfl (by kernel_rfl) (fun _ _ _ h => h) (q_asg rfl) ?_
          refine za6 10 rfl rfl rfl (by kernel_rfl) (fun _ _ _ h => h) (q_asg rfl) ?_
          refine zaw (by kernel_rfl) ?_
          refine za1 ?_
          refine c_seq ?_
          refine za0 ?_
          refine o_q rfl rfl (za3 rfl) ?_
          refine o_q rfl rfl (za3 rfl) ?_
          refine o_q rfl rfl (za3 rfl) ?_
          refine za9 h (fun y97 hg96 h => ?_) rfl
          refine o_q rfl rfl (q_ix Try.underlying25 Z3 rfl rfl hq91 hg96) ?_
          refine za9 h (fun l98 hs99 h => ?_) rfl
          refine o_e rfl (e_set (i := 1) rfl rfl rfl Z3 hs99) (fun _ => ?_)
          refine o_end ?_
          refine za1 ?_
          refine za0 ?_
          refine o_q rfl rfl (za3 rfl) ?_
          refine o_q rfl rfl (za3 rfl) ?_
          refine o_q rfl rfl (q_add64 rfl rfl) ?_
          refine o_q rfl rfl (za3 rfl) ?_
          refine o_fact (p := Sh A19 l18.length l98.length) (fun w h => f_sh (dk := (Kd.int .i64)) h (fun w h => h.zb0 (i := 1) rfl)) (fun hq100 => ?_)
          refine za9 h (fun y102 hg101 h => ?_) rfl
          refine o_q rfl rfl (q_ix Try.underlying25 Z3 rfl rfl hq100 hg101) ?_
          refine za9 h (fun l103 hs104 h => ?_) rfl
          refine o_e rfl (e_set (i := 1) rfl rfl rfl Z3 hs104) (fun _ => ?_)
          refine o_end ?_
          refine zan ?_
          refine za1 ?_
          refine za0 ?_
          refine o_q rfl rfl (za3 rfl) ?_
          refine o_q rfl rfl (q_sub64 rfl rfl) ?_
          refine o_q rfl rfl (q_asg rfl) ?_
          refine o_end ?_
          refine zam k77 (l103, i89, i90, w64 (i74 - 1)) (Nat.lt_succ_self _) h ⟨rfl, trivial⟩ (fun w h => za7 [0, 1, 2, 3, 4, 5] (by decide) rfl w h) ?_
          repeat (first | exact zad _ _ | refine zai rfl ?_ | refine zae rfl ?_ | refine zaj rfl ?_)
        · skip
          replace h := br_f hb86 h
          refine c_exit ?_
          refine za8 ?_
          refine za8 ?_
          refine x_hit ?_
          refine x_meetJ (i72, i73, l71) h trivial (fun w h => za7 [5, 0, 2, 3, 4, 1] (by decide) rfl w h) ?_
          repeat (first | exact zad _ _ | refine zai rfl ?_ | refine zae rfl ?_ | refine zaj rfl ?_)
      · replace h := br_f hb85 h
        refine @o_n _ _ _ _ _ _ _ _ _ _ _ 25 (za2 rfl rfl rfl (congrArg Value.bool hb85) rfl) (Eq.refl (some 25)) ?_
        refine @o_n _ _ _ _ _ _ _ _ _ _ _ 26 (za2 rfl rfl rfl (congrArg Value.bool hb85) rfl) (Eq.refl (some 26)) ?_
        refine @o_n _ _ _ _ _ _ _ _ _ _ _ 27 (za2 rfl rfl rfl (congrArg Value.bool hb85) rfl) (Eq.refl (some 27)) ?_
        refine o_q rfl rfl (zak false (congrArg Value.bool hb85) rfl) ?_
        refine o_end ?_
        refine za1 ?_
        refine c_false rfl ?_
        refine c_exit ?_
        refine za8 ?_
        refine za8 ?_
        refine x_hit ?_
        refine x_meetJ (i72, i73, l71) h trivial (fun w h => za7 [5, 0, 2, 3, 4, 1] (by decide) rfl w h) ?_
        repeat (first | exact zad _ _ | refine zai rfl ?_ | refine zae rfl ?_ | refine zaj rfl ?_)
  · skip
    refine (cur3 (fun i59 i60 l61 => fun U65 hJ66 => ?_))
    have e_ := Option.some.inj hJ66; have h := hR64; rw [← e_] at h; clear e_ hJ66 hR64 hl63
    refine za9 h (fun o126 hl127 hR128 => ?_) rfl
    clear h
    refine c_cutJ (σ := (List Int) × Int × Int × (Option Addr) × Nat) (fun (l121, i124, i125, A122, c123) => some (l121, i124, i125) = some o126) [6, 54, 55, 56, 57, 58, 59, 60, 61] (fun (l121, i124, i125, A122, c123) => [(6, .slice A122 l121.length c123)]) (fun (l121, i124, i125, A122, c123) => [box g1 27 #[.int .i64 0, .slice none 0 0, .slice none 0 0], box g15 27 #[.int .i64 i6, .slice A11 l7.length c12, .slice A13 l8.length c14], row kStep 89 (.slice A11 l7.length c12) l7, row (Kd.int .i64) 3 (.slice A13 l8.length c14) l8, row (Kd.int .i64) 3 (.slice A122 l121.length c123) l121, box g3 81 #[.slice A0 l0.length c0, .int .i64 i124, .int .u64 i125]]) ?_ ?_
    · skip
      have h := hl127; clear hl127
      clear hR128
      refine c_seq ?_
      refine za0 ?_
      refine o_q rfl rfl (za3 rfl) ?_
      refine o_pick [1, 0, 2, 3, 4, 5] (by decide) rfl ?_
      refine bindE3 h (fun b132 i133 i134 hx131 h => ?_) rfl
      refine o_e rfl (zac 1 Z Try.func117 N117 rfl rfl rfl (fun w P1 hF hB hS hT => spec_l1Cur_one.calls g3 A0 c0 l0.length l0 i59 i60 10 hB hF (hS _ R0) hc0 _ _ _ hx131)) (fun _ => ?_)
      refine o_end ?_
      refine za1 ?_
      refine zas _ rfl (fun hb135 => ?_) (fun hb135 => ?_)
      · skip
        replace h := bb_t hb135 h
        refine za0 ?_
        refine o_q rfl rfl (za3 rfl) ?_
        refine o_q rfl rfl (za3 rfl) ?_
        refine bindE3 h (fun i137 i138 i139 hx136 h => ?_) rfl
        refine o_e rfl (zac 1 Z Try.func85 N85 rfl rfl rfl (fun w P1 hF hB hS hT => spec_l1Cur_pick.calls g3 A0 c0 l0.length l0 i133 i134 9 hB hF (hS _ R0) hc0 _ _ _ hx136)) (fun _ => ?_)
        refine o_q rfl rfl (q_sub64 rfl rfl) ?_
        refine o_e rfl (e_lit (vs := [(0, .int .i64 (w64 (i137 - 1)))]) (cs := [.int .i64 (w64 (i137 - 1))]) (Kd.int .i64) ([w64 (i137 - 1)] : List Int) Try.underlying25 I3 (by decide) rfl (by decide) rfl rfl (fun _ _ => Kd.zar _)) (cur2 (fun A140 c141 => ?_))
        refine za9 h (fun l143 ha144 h => ?_) rfl
        refine o_e rfl (e_app (i := 6) (j := 0) Try.underlying25 I3 rfl (by decide) (by decide) rfl rfl rfl rfl rfl ha144) (cur2 (fun A145 c146 => ?_))
        refine o_q rfl rfl (q_asg rfl) ?_
        refine o_end ?_
        refine x_meetJ (l143, i138, i139, A145, c146) h ⟨rfl, trivial⟩ (fun w h => za7 [2, 3, 4, 5, 6, 1] (by decide) rfl w h) ?_
        repeat (first | exact zad _ _ | refine zai rfl ?_ | refine zae rfl ?_ | refine zaj rfl ?_)
      · skip
        replace h := bb_f hb135 h
        refine zao ?_
        refine x_fact (p := l18.length = l61.length) (fun w h => (h.row_C (i := 5) rfl).2.1) (fun hn147 => ?_)
        refine x_meetJ (l61, i133, i134, A19, c20) h ⟨(Eq.trans (b := .slice A19 l18.length c20) rfl (by (try rw [hn147]); first | done | rfl)), trivial⟩ (f_pickE (L1 := [box g3 81 #[.slice A0 l0.length c0, .int .i64 i133, .int .u64 i134], box g1 27 #[.int .i64 0, .slice none 0 0, .slice none 0 0], box g15 27 #[.int .i64 i6, .slice A11 l7.length c12, .slice A13 l8.length c14], row kStep 89 (.slice A11 l7.length c12) l7, row (Kd.int .i64) 3 (.slice A13 l8.length c14) l8, row (Kd.int .i64) 3 (.slice A19 l18.length c20) l61]) rfl [1, 2, 3, 4, 5, 0] (by decide) rfl (by (try rw [hn147]); first | done | rfl)) ?_
        repeat (first | exact zad _ _ | refine zai rfl ?_ | refine zae rfl ?_ | refine zaj rfl ?_)
    · skip
      refine (cur5 (fun l121 i124 i125 A122 c123 => fun U129 hJ130 => ?_))
      have e_ := Option.some.inj hJ130; have h := hR128; rw [← e_] at h; clear e_ hJ130 hR128 hl127
      refine c_seq ?_
      refine za0 ?_
      refine o_q rfl rfl (q_ldB G27 Z27 rfl (fun w h => h.zaa (i := 1) rfl) rfl) ?_
      refine o_q rfl rfl (za3 rfl) ?_
      refine o_e rfl (zau (i := 0) rfl rfl rfl Z27 rfl rfl) (fun _ => ?_)
      refine o_q rfl rfl (q_asg rfl) ?_
      refine o_end ?_
      refine za1 ?_
      refine c_ret ?_
      have e0_ := Option.some.inj h; clear h
      have d0_ := (Prod.mk.inj e0_).1; have e1_ := (Prod.mk.inj e0_).2; clear e0_; subst d0_
      have d1_ := (Prod.mk.inj e1_).1; have e2_ := (Prod.mk.inj e1_).2; clear e1_; subst d1_
      have d2_ := (Prod.mk.inj e2_).1; have e3_ := (Prod.mk.inj e2_).2; clear e2_; subst d2_
      subst e3_
      exact x_r2 (A11, c12, A13, c14, A122, c123) Try.results38 (rv_cell rfl G27 Z27 (fun w h => h.zaa (i := 0) rfl) rfl) (zaf rfl) rfl (fun w h => za7 [2, 3, 4] (by decide) rfl w h)

/-! ### loop.example/g01098/impl.firsts: function 103 -/
def impl_firsts.l0 : Nat → (List Int) → Int → Option (List Int)
  | 0, l4, i7 => some l4
  | k10 + 1, l4, i7 => (ap l4 ([i7] : List Int)).bind fun l22 => impl_firsts.l0 k10 l22 (i7 + 1)
def impl_firsts.f (a0 : Int) : Option (List Int) := (bd a0).bind fun _ => (impl_firsts.l0 ((a0).toNat) ([] : List Int) 0).bind fun l4 => some l4
set_option maxHeartbeats 600000 in
set_option maxRecDepth 100000 in
theorem impl_firsts.calls {w0 ws : World} {P0 : Nat → Prop} (a0 : Int) (Z : Below w0.heap.size w0 ws) (hF : Fr w0 ws P0 [] ws)  (r_1 : List Int) (h : impl_firsts.f a0 = some r_1) :
    Calls Try.prog 103 #[.int .i64 a0] ws (Post1 w0 ws P0 (fun ((q_2, q_3) : (Option Addr) × Nat) => .slice q_2 r_1.length q_3) (fun ((q_2, q_3) : (Option Addr) × Nat) => [row (Kd.int .i64) 3 (.slice q_2 r_1.length q_3) r_1])) := by
  unfold impl_firsts.f at h
  refine enter Try.func103 rfl Try.ntmps103 rfl hF ?_
  refine c_seq ?_
  refine za0 ?_
  refine o_q rfl rfl (q_asg rfl) ?_
  refine o_end ?_
  refine za1 ?_
  refine c_seq ?_
  refine za0 ?_
  refine o_e rfl (e_lit0 (Kd.int .i64) Try.underlying25 I3) (cur2 (fun A1 c2 => ?_))
  refine o_q rfl rfl (q_asg rfl) ?_
  refine o_end ?_
  refine za1 ?_
  refine c_seq ?_
  refine c_seq ?_
  refine za0 ?_
  refine o_q rfl rfl (za3 rfl) ?_
  refine o_q rfl rfl (za3 rfl) ?_
  refine o_end ?_
  refine za1 ?_
  refine zal ?_
  refine za9 h (fun _ hbd16 h => ?_) rfl
  refine za9 h (fun o15 hl14 hR13 => ?_) rfl
  clear h
  have hm12 : a0 ≤ 9223372036854775807 := bd_le hbd16
  refine zax (σ := (List Int) × Int × (Option Addr) × Nat) (fun k10 ((l4, i7, A5, c6) : (List Int) × Int × (Option Addr) × Nat) => Cn a0 i7 k10 ∧ impl_firsts.l0 k10 l4 i7 = some o15) [3, 4, 7, 8, 9, 10, 11, 12, 13, 14] (fun ((l4, i7, A5, c6) : (List Int) × Int × (Option Addr) × Nat) => [(3, .slice A5 l4.length c6), (7, .int .i64 i7)]) (fun ((l4, i7, A5, c6) : (List Int) × Int × (Option Addr) × Nat) => [row (Kd.int .i64) 3 (.slice A5 l4.length c6) l4]) (a0).toNat (([] : List Int), 0, A1, c2) ⟨Cn.start hm12, hl14⟩ ⟨rfl, rfl, trivial⟩ (fun w h => h) ?_
  refine natC (cur4 (fun l4 i7 A5 c6 => fun U17 hJ_ => ?_)) (fun k10 => (cur4 (fun l4 i7 A5 c6 => fun U17 hJ_ => ?_)))
  · skip
    clear hl14
    have hr11 := hJ_.1; have h := hJ_.2; clear hJ_
    replace h : impl_firsts.l0 0 l4 i7 = some o15 := h
    rw [impl_firsts.l0] at h
    refine c_seq ?_
    refine za0 ?_
    refine o_q rfl rfl (q_lss rfl rfl) ?_
    refine o_end ?_
    refine za1 ?_
    refine c_seq ?_
    refine c_false (congrArg Value.bool hr11.ge) ?_
    refine c_exit ?_
    refine za8 ?_
    refine za8 ?_
    have e_ := Option.some.inj h; replace h := hR13; rw [← e_] at h; clear e_
    refine x_hit ?_
    refine za1 ?_
    refine c_seq ?_
    refine za0 ?_
    refine o_q rfl rfl (za3 rfl) ?_
    refine o_q rfl rfl (q_asg rfl) ?_
    refine o_end ?_
    refine za1 ?_
    refine c_ret ?_
    have e0_ := Option.some.inj h; clear h
    subst e0_
    exact x_r1 (A5, c6) Try.results103 (zaf rfl) rfl (fun w h => za7 [0] (by decide) rfl w h)
  · skip
    clear hl14
    have hr11 := hJ_.1; have h := hJ_.2; clear hJ_
    replace h : impl_firsts.l0 (k10 + 1) l4 i7 = some o15 := h
    rw [impl_firsts.l0] at h
    refine c_seq ?_
    refine za0 ?_
    refine o_q rfl rfl (q_lss rfl rfl) ?_
    refine o_end ?_
    refine za1 ?_
    refine c_seq ?_
    refine zay (congrArg Value.bool hr11.lt) ?_
    refine zao ?_
    refine za1 ?_
    refine c_seq ?_
    refine zal ?_
    refine c_seq ?_
    refine za0 ?_
    refine o_q rfl rfl (za3 rfl) ?_
    refine o_q rfl rfl (q_asg rfl) ?_
    refine o_end ?_
    refine za1 ?_
    refine za0 ?_
    refine o_q rfl rfl (za3 rfl) ?_
    refine o_q rfl rfl (za3 rfl) ?_
    refine o_e rfl (e_lit (vs := [(0, .int .i64 i7)]) (cs := [.int .i64 i7]) (Kd.int .i64) ([i7] : List Int) Try.underlying25 I3 (by decide) rfl (by decide) rfl rfl (fun _ _ => Kd.zar _)) (cur2 (fun A19 c20 => ?_))
    refine za9 h (fun l22 ha23 h => ?_) rfl
    refine o_e rfl (e_app (i := 1) (j := 0) Try.underlying25 I3 rfl (by decide) (by decide) rfl rfl rfl rfl rfl ha23) (cur2 (fun A24 c25 => ?_))
    refine o_q rfl rfl (q_asg rfl) ?_
    refine o_end ?_
    refine zan ?_
    refine za1 ?_
    refine za0 ?_
    refine o_q rfl rfl (q_up rfl rfl hr11.up) ?_
    refine o_q rfl rfl (za3 rfl) ?_
    refine o_end ?_
    refine zam k10 (l22, i7 + 1, A24, c25) (Nat.lt_succ_self _) ⟨hr11.step, h⟩ ⟨rfl, rfl, trivial⟩ (fun w h => za7 [1] (by decide) rfl w h) ?_
    repeat (first | exact zad _ _ | refine zai rfl ?_ | refine zae rfl ?_ | refine zaj rfl ?_)

/-! ### slices.Equal[[]int,int]: function 144 -/
def slices_Equal_int_int.l0 (l1 : List Int) : (List Int) → Int → Option ((Bool) ⊕ (Unit))
  | [], i2 => some (.inr ())
  | y3 :: ys4, i2 => (gt l1 i2).bind fun y16 => if y3 ≠ y16 then (some (.inl false)) else (slices_Equal_int_int.l0 l1 ys4 (i2 + 1))
def slices_Equal_int_int.f (l0 : List Int) (l1 : List Int) : Option Bool := if (l0.length : Int) ≠ (l1.length : Int) then (some false) else ((slices_Equal_int_int.l0 l1 l0 0).bind fun o_ => match o_ with | .inl r_ => some r_ | .inr _ => some true)
set_option maxHeartbeats 600000 in
set_option maxRecDepth 100000 in
theorem slices_Equal_int_int.calls {w0 ws : World} {P0 : Nat → Prop} (A0 : Option Addr) (c0 : Nat) (n0 : Nat) (l0 : List Int) (A1 : Option Addr) (c1 : Nat) (n1 : Nat) (l1 : List Int) (Z : Below w0.heap.size w0 ws) (hF : Fr w0 ws P0 [] ws) (R0 : Stable ws P0 (fun w => Kd.C (Kd.int .i64) w A0 n0 l0)) (hc0 : n0 ≤ c0) (R1 : Stable ws P0 (fun w => Kd.C (Kd.int .i64) w A1 n1 l1)) (hc1 : n1 ≤ c1) (r_1 : Bool) (h : slices_Equal_int_int.f l0 l1 = some r_1) :
    Calls Try.prog 144 #[.slice A0 n0 c0, .slice A1 n1 c1] ws (Post1 w0 ws P0 (fun (_ : Unit) => .bool r_1) (fun (_ : Unit) => [])) := by
  unfold slices_Equal_int_int.f at h
  obtain rfl := (R0 ws (KeptB.refl _ _)).1
  obtain rfl := (R1 ws (KeptB.refl _ _)).1
  refine enter Try.func144 rfl Try.ntmps144 rfl hF ?_
  refine c_seq ?_
  refine za0 ?_
  refine o_q rfl rfl (q_asg rfl) ?_
  refine o_end ?_
  refine za1 ?_
  refine c_seq ?_
  refine c_seq ?_
  refine za0 ?_
  refine o_q rfl rfl (za3 rfl) ?_
  refine o_q rfl rfl (q_len Try.underlying25 rfl) ?_
  refine o_q rfl rfl (za3 rfl) ?_
  refine o_q rfl rfl (q_len Try.underlying25 rfl) ?_
  refine o_q rfl rfl (q_neq rfl rfl) ?_
  refine o_end ?_
  refine za1 ?_
  refine zas _ rfl (fun hb1 => ?_) (fun hb1 => ?_)
  · skip
    replace h := br_t hb1 h
    refine c_seq ?_
    refine za0 ?_
    refine o_q rfl rfl (q_asg rfl) ?_
    refine o_end ?_
    refine za1 ?_
    refine c_ret ?_
    refine za5 ?_
    have e0_ := Option.some.inj h; clear h
    subst e0_
    exact x_r1 () Try.results144 (zaf rfl) rfl (fun w h => za7 [] (by decide) rfl w h)
  · skip
    replace h := br_f hb1 h
    refine zao ?_
    refine za1 ?_
    refine c_seq ?_
    refine c_seq ?_
    refine za0 ?_
    refine o_q rfl rfl (za3 rfl) ?_
    refine o_q rfl rfl (q_len Try.underlying25 rfl) ?_
    refine o_q rfl rfl (za3 rfl) ?_
    refine o_end ?_
    refine za1 ?_
    refine zal ?_
    refine za9 h (fun o10 hl9 hR8 => ?_) rfl
    clear h
    refine c_fact (p := l0.length ≤ 9223372036854775807) (fun w h => (R0.now Z h).2.1) (fun hm7 => ?_)
    refine zax (σ := (List Int) × Int) (fun k5 ((ys4, i2) : (List Int) × Int) => Rg l0 i2 ys4 ∧ ys4.length = k5 ∧ slices_Equal_int_int.l0 l1 ys4 i2 = some o10) [4, 5, 13, 14, 15, 16, 17, 18, 19, 20, 21, 22, 23, 24, 25] (fun ((ys4, i2) : (List Int) × Int) => [(13, .int .i64 i2)]) (fun ((ys4, i2) : (List Int) × Int) => []) l0.length (l0, 0) ⟨Rg.start _, rfl, hl9⟩ ⟨rfl, trivial⟩ (fun w h => h) ?_
    refine fun k5 => cur2 (listC (fun i2 U11 hJ_ => ?_) (fun y3 ys4 i2 U11 hJ_ => ?_))
    · skip
      clear hl9
      have hr6 := hJ_.1; have hk12 := hJ_.2.1; have h := hJ_.2.2; clear hJ_
      replace h : slices_Equal_int_int.l0 l1 [] i2 = some o10 := h
      rw [slices_Equal_int_int.l0] at h
      refine c_seq ?_
      refine za0 ?_
      refine o_q rfl rfl (q_lss rfl rfl) ?_
      refine o_end ?_
      refine za1 ?_
      refine c_seq ?_
      refine c_false (congrArg Value.bool hr6.ge) ?_
      refine c_exit ?_
      refine za8 ?_
      refine za8 ?_
      have e_ := Option.some.inj h; replace h := hR8; rw [← e_] at h; clear e_
      refine x_hit ?_
      refine za1 ?_
      refine c_seq ?_
      refine za0 ?_
      refine o_q rfl rfl (q_asg rfl) ?_
      refine o_end ?_
      refine za1 ?_
      refine c_ret ?_
      have e0_ := Option.some.inj h; clear h
      subst e0_
      exact x_r1 () Try.results144 (zaf rfl) rfl (fun w h => za7 [] (by decide) rfl w h)
    · skip
      clear hl9
      have hr6 := hJ_.1; have hk12 := hJ_.2.1; have h := hJ_.2.2; clear hJ_
      replace h : slices_Equal_int_int.l0 l1 (y3 :: ys4) i2 = some o10 := h
      rw [slices_Equal_int_int.l0] at h
      refine c_seq ?_
      refine za0 ?_
      refine o_q rfl rfl (q_lss rfl rfl) ?_
      refine o_end ?_
      refine za1 ?_
      refine c_seq ?_
      refine zay (congrArg Value.bool hr6.lt) ?_
      refine zao ?_
      refine za1 ?_
      refine c_seq ?_
      refine zal ?_
      refine c_seq ?_
      refine za0 ?_
      refine o_q rfl rfl (za3 rfl) ?_
      refine o_q rfl rfl (q_asg rfl) ?_
      refine o_end ?_
      refine za1 ?_
      refine c_seq ?_
      refine a_start (ds := []) MO rfl ?_
      refine za6 0 rfl rfl rfl (by kernel_rfl) (fun _ _ _ h => h) (za3 rfl) ?_
      refine za6 1 rfl rfl rfl (by kernel_rfl) (fun _ _ _ h => h) (za3 rfl) ?_
      refine a_fact (p := Sh A0 l0.length l0.length) (fun w h => f_sh (dk := (Kd.int .i64)) h (fun w h => R0.now Z h)) (fun hq13 => ?_)
      refine za6 2 rfl rfl rfl (by kernel_rfl) (fun _ _ _ h => h) (q_ix Try.underlying25 Z3 rfl rfl hq13 hr6.get) ?_
      refine a_take 3 rfl rfl rfl (by kernel_rfl) (fun _ _ _ h => h) (fun w h => h) (q_lde (off := 0) Y3 rfl rfl (fun w h => R0.now Z h) hr6.get (fun _ _ h => h) rfl) ?_
      refine za6 4 rfl rfl rfl (by kernel_rfl) (fun _ _ _ h => h) (za3 rfl) ?_
      refine za6 5 rfl rfl rfl (by kernel_rfl) (fun _ _ _ h => h) (za3 rfl) ?_
      refine a_fact (p := Sh A1 l1.length l1.length) (fun w h => f_sh (dk := (Kd.int .i64)) h (fun w h => R1.now Z h)) (fun hq14 => ?_)
      refine za9 h (fun y16 hg15 h => ?_) rfl
      refine za6 6 rfl rfl rfl (by kernel_rfl) (fun _ _ _ h => h) (q_ix Try.underlying25 Z3 rfl rfl hq14 hg15) ?_
      refine a_take 7 rfl rfl rfl (by kernel_rfl) (fun _ _ _ h => h) (fun w h => h) (q_lde (off := 0) Y3 rfl rfl (fun w h => R1.now Z h) hg15 (fun _ _ h => h) rfl) ?_
      refine za6 8 rfl rfl rfl (by kernel_rfl) (fun _ _ _ h => h) (q_neq rfl rfl) ?_
      refine zaw (by kernel_rfl) ?_
      refine za1 ?_
      refine zas _ rfl (fun hb17 => ?_) (fun hb17 => ?_)
      · skip
        replace h := br_t hb17 h
        refine c_seq ?_
        refine za0 ?_
        refine o_q rfl rfl (q_asg rfl) ?_
        refine o_end ?_
        refine za1 ?_
        refine c_ret ?_
        refine zah ?_
        refine za5 ?_
        refine za5 ?_
        have e_ := Option.some.inj h; replace h := hR8; rw [← e_] at h; clear e_
        refine zah ?_
        refine za5 ?_
        have e0_ := Option.some.inj h; clear h
        subst e0_
        exact x_r1 () Try.results144 (zaf rfl) rfl (fun w h => za7 [] (by decide) rfl w h)
      · skip
        replace h := br_f hb17 h
        refine zao ?_
        refine zan ?_
        refine za1 ?_
        refine za0 ?_
        refine o_q rfl rfl (q_up rfl rfl (hr6.up hm7)) ?_
        refine o_q rfl rfl (za3 rfl) ?_
        refine o_end ?_
        refine zam ys4.length (ys4, i2 + 1) (by rw [← hk12]; exact Nat.lt_succ_self _) ⟨hr6.step, rfl, h⟩ ⟨rfl, trivial⟩ (fun w h => za7 [] (by decide) rfl w h) ?_
        repeat (first | exact zad _ _ | refine zai rfl ?_ | refine zae rfl ?_ | refine zaj rfl ?_)

/-! ### isOrder, by hand: the sorted list is the first numbers -/
def impl_isOrder.f (l0 : List Int) (a1 : Int) : Option Bool := if l0.length ≤ 100000000 then (impl_firsts.f a1).bind fun l2 => (slices_Equal_int_int.f (l0.mergeSort fun x y => decide (x ≤ y)) l2).bind fun b6 => some b6 else none
set_option maxHeartbeats 600000 in
set_option maxRecDepth 100000 in
theorem impl_isOrder.calls {w0 ws : World} {P0 : Nat → Prop} (A0 : Option Addr) (c0 : Nat) (n0 : Nat) (l0 : List Int) (a1 : Int) (Z : Below w0.heap.size w0 ws) (hF : Fr w0 ws P0 [] ws) (R0 : Stable ws P0 (fun w => Kd.C (Kd.int .i64) w A0 n0 l0)) (hc0 : n0 ≤ c0) (r_1 : Bool) (h : impl_isOrder.f l0 a1 = some r_1) :
    Calls Try.prog 118 #[.slice A0 n0 c0, .int .i64 a1] ws (Post1 w0 ws P0 (fun (_ : Unit) => .bool r_1) (fun (_ : Unit) => [])) := by
  unfold impl_isOrder.f at h
  obtain rfl := (R0 ws (KeptB.refl _ _)).1
  split at h
  rotate_left
  · cases h
  next hz =>
  refine enter Try.func118 rfl Try.ntmps118 rfl hF ?_
  refine c_seq ?_
  refine za0 ?_
  refine o_q rfl rfl (q_asg rfl) ?_
  refine o_end ?_
  refine za1 ?_
  refine c_seq ?_
  refine za0 ?_
  refine o_q rfl rfl (za3 rfl) ?_
  refine o_e rfl (zac 0 Z Try.func194 N194 rfl rfl rfl (fun w P1 hF hB hS hT => Srt.vlc.calls A0 l0.length c0 hF)) (fun Bs => ?_)
  refine o_e rfl (zac 0 Z Try.func193 N193 rfl rfl rfl (fun w P1 hF hB hS hT => Srt.sorted.calls Bs A0 c0 l0 hB hF (hS _ R0) (hT 0 _ rfl).box hz)) (cur2 (fun A8 c9 => ?_))
  refine o_q rfl rfl (za3 rfl) ?_
  refine za9 h (fun l2 hx1 h => ?_) rfl
  refine o_e rfl (zac 0 Z Try.func103 N103 rfl rfl rfl (fun w P1 hF hB hS hT => impl_firsts.calls a1 hB hF _ hx1)) (cur2 (fun A3 c4 => ?_))
  refine za9 h (fun b6 hx5 h => ?_) rfl
  refine o_e rfl (zac 0 Z Try.func144 N144 rfl rfl rfl (fun w P1 hF hB hS hT => slices_Equal_int_int.calls A8 c9 l0.length (l0.mergeSort fun x y => decide (x ≤ y)) A3 c4 l2.length l2 hB hF (hT 1 _ rfl).row (hT 1 _ rfl).cap (hT 0 _ rfl).row (hT 0 _ rfl).cap _ hx5)) (fun _ => ?_)
  refine o_q rfl rfl (q_asg rfl) ?_
  refine o_end ?_
  refine za1 ?_
  refine c_ret ?_
  have e0_ := Option.some.inj h; clear h
  subst e0_
  exact x_r1 () Try.results118 (zaf rfl) rfl (fun w h => za7 [] (by decide) rfl w h)

/-! ### loop.example/g01098/impl.renamed: function 92 -/
def impl_renamed.l0 (l1 : List Int) : (List Int) → (List Int) → Int → Option (List Int)
  | [], l5, i8 => some l5
  | y9 :: ys10, l5, i8 => (gt l1 y9).bind fun y22 => (ap l5 ([y22] : List Int)).bind fun l26 => impl_renamed.l0 l1 ys10 l26 (i8 + 1)
def impl_renamed.f (l0 : List Int) (l1 : List Int) : Option (List Int) := (impl_renamed.l0 l1 l0 ([] : List Int) 0).bind fun l5 => some l5
set_option maxHeartbeats 600000 in
set_option maxRecDepth 100000 in
theorem impl_renamed.calls {w0 ws : World} {P0 : Nat → Prop} (A0 : Option Addr) (c0 : Nat) (n0 : Nat) (l0 : List Int) (A1 : Option Addr) (c1 : Nat) (n1 : Nat) (l1 : List Int) (Z : Below w0.heap.size w0 ws) (hF : Fr w0 ws P0 [] ws) (R0 : Stable ws P0 (fun w => Kd.C (Kd.int .i64) w A0 n0 l0)) (hc0 : n0 ≤ c0) (R1 : Stable ws P0 (fun w => Kd.C (Kd.int .i64) w A1 n1 l1)) (hc1 : n1 ≤ c1) (r_1 : List Int) (h : impl_renamed.f l0 l1 = some r_1) :
    Calls Try.prog 92 #[.slice A0 n0 c0, .slice A1 n1 c1] ws (Post1 w0 ws P0 (fun ((q_2, q_3) : (Option Addr) × Nat) => .slice q_2 r_1.length q_3) (fun ((q_2, q_3) : (Option Addr) × Nat) => [row (Kd.int .i64) 3 (.slice q_2 r_1.length q_3) r_1])) := by
  unfold impl_renamed.f at h
  obtain rfl := (R0 ws (KeptB.refl _ _)).1
  obtain rfl := (R1 ws (KeptB.refl _ _)).1
  refine enter Try.func92 rfl Try.ntmps92 rfl hF ?_
  refine c_seq ?_
  refine za0 ?_
  refine o_q rfl rfl (q_asg rfl) ?_
  refine o_end ?_
  refine za1 ?_
  refine c_seq ?_
  refine za0 ?_
  refine o_e rfl (e_lit0 (Kd.int .i64) Try.underlying25 I3) (cur2 (fun A2 c3 => ?_))
  refine o_q rfl rfl (q_asg rfl) ?_
  refine o_end ?_
  refine za1 ?_
  refine c_seq ?_
  refine c_seq ?_
  refine za0 ?_
  refine o_q rfl rfl (za3 rfl) ?_
  refine o_q rfl rfl (q_len Try.underlying25 rfl) ?_
  refine o_q rfl rfl (za3 rfl) ?_
  refine o_end ?_
  refine za1 ?_
  refine zal ?_
  refine za9 h (fun o16 hl15 hR14 => ?_) rfl
  clear h
  refine c_fact (p := l0.length ≤ 9223372036854775807) (fun w h => (R0.now Z h).2.1) (fun hm13 => ?_)
  refine zax (σ := (List Int) × (List Int) × Int × (Option Addr) × Nat) (fun k11 ((ys10, l5, i8, A6, c7) : (List Int) × (List Int) × Int × (Option Addr) × Nat) => Rg l0 i8 ys10 ∧ ys10.length = k11 ∧ impl_renamed.l0 l1 ys10 l5 i8 = some o16) [5, 7, 11, 12, 13, 14, 15, 16, 17, 18, 19, 20, 21, 22] (fun ((ys10, l5, i8, A6, c7) : (List Int) × (List Int) × Int × (Option Addr) × Nat) => [(5, .slice A6 l5.length c7), (11, .int .i64 i8)]) (fun ((ys10, l5, i8, A6, c7) : (List Int) × (List Int) × Int × (Option Addr) × Nat) => [row (Kd.int .i64) 3 (.slice A6 l5.length c7) l5]) l0.length (l0, ([] : List Int), 0, A2, c3) ⟨Rg.start _, rfl, hl15⟩ ⟨rfl, rfl, trivial⟩ (fun w h => h) ?_
  refine fun k11 => cur5 (listC (fun l5 i8 A6 c7 U17 hJ_ => ?_) (fun y9 ys10 l5 i8 A6 c7 U17 hJ_ => ?_))
  · skip
    clear hl15
    have hr12 := hJ_.1; have hk18 := hJ_.2.1; have h := hJ_.2.2; clear hJ_
    replace h : impl_renamed.l0 l1 [] l5 i8 = some o16 := h
    rw [impl_renamed.l0] at h
    refine c_seq ?_
    refine za0 ?_
    refine o_q rfl rfl (q_lss rfl rfl) ?_
    refine o_end ?_
    refine za1 ?_
    refine c_seq ?_
    refine c_false (congrArg Value.bool hr12.ge) ?_
    refine c_exit ?_
    refine za8 ?_
    refine za8 ?_
    have e_ := Option.some.inj h; replace h := hR14; rw [← e_] at h; clear e_
    refine x_hit ?_
    refine za1 ?_
    refine c_seq ?_
    refine za0 ?_
    refine o_q rfl rfl (za3 rfl) ?_
    refine o_q rfl rfl (q_asg rfl) ?_
    refine o_end ?_
    refine za1 ?_
    refine c_ret ?_
    have e0_ := Option.some.inj h; clear h
    subst e0_
    exact x_r1 (A6, c7) Try.results92 (zaf rfl) rfl (fun w h => za7 [0] (by decide) rfl w h)
  · skip
    clear hl15
    have hr12 := hJ_.1; have hk18 := hJ_.2.1; have h := hJ_.2.2; clear hJ_
    replace h : impl_renamed.l0 l1 (y9 :: ys10) l5 i8 = some o16 := h
    rw [impl_renamed.l0] at h
    refine c_seq ?_
    refine za0 ?_
    refine o_q rfl rfl (q_lss rfl rfl) ?_
    refine o_end ?_
    refine za1 ?_
    refine c_seq ?_
    refine zay (congrArg Value.bool hr12.lt) ?_
    refine zao ?_
    refine za1 ?_
    refine c_seq ?_
    refine zal ?_
    refine c_seq ?_
    refine za0 ?_
    refine o_fact (p := Sh A0 l0.length l0.length) (fun w h => f_sh (dk := (Kd.int .i64)) h (fun w h => R0.now Z h)) (fun hq19 => ?_)
    refine o_q rfl rfl (q_ix Try.underlying25 Z3 rfl rfl hq19 hr12.get) ?_
    refine o_q rfl rfl (q_lde (off := 0) Y3 rfl rfl (fun w h => R0.now Z h) hr12.get (fun _ _ h => h) rfl) ?_
    refine o_q rfl rfl (q_asg rfl) ?_
    refine o_end ?_
    refine za1 ?_
    refine za0 ?_
    refine o_q rfl rfl (za3 rfl) ?_
    refine o_q rfl rfl (za3 rfl) ?_
    refine o_q rfl rfl (za3 rfl) ?_
    refine o_fact (p := Sh A1 l1.length l1.length) (fun w h => f_sh (dk := (Kd.int .i64)) h (fun w h => R1.now Z h)) (fun hq20 => ?_)
    refine za9 h (fun y22 hg21 h => ?_) rfl
    refine o_q rfl rfl (q_ix Try.underlying25 Z3 rfl rfl hq20 hg21) ?_
    refine o_q rfl rfl (q_lde (off := 0) Y3 rfl rfl (fun w h => R1.now Z h) hg21 (fun _ _ h => h) rfl) ?_
    refine o_e rfl (e_lit (vs := [(0, .int .i64 y22)]) (cs := [.int .i64 y22]) (Kd.int .i64) ([y22] : List Int) Try.underlying25 I3 (by decide) rfl (by decide) rfl rfl (fun _ _ => Kd.zar _)) (cur2 (fun A23 c24 => ?_))
    refine za9 h (fun l26 ha27 h => ?_) rfl
    refine o_e rfl (e_app (i := 1) (j := 0) Try.underlying25 I3 rfl (by decide) (by decide) rfl rfl rfl rfl rfl ha27) (cur2 (fun A28 c29 => ?_))
    refine o_q rfl rfl (q_asg rfl) ?_
    refine o_end ?_
    refine zan ?_
    refine za1 ?_
    refine za0 ?_
    refine o_q rfl rfl (q_up rfl rfl (hr12.up hm13)) ?_
    refine o_q rfl rfl (za3 rfl) ?_
    refine o_end ?_
    refine zam ys10.length (ys10, l26, i8 + 1, A28, c29) (by rw [← hk18]; exact Nat.lt_succ_self _) ⟨hr12.step, rfl, h⟩ ⟨rfl, rfl, trivial⟩ (fun w h => za7 [1] (by decide) rfl w h) ?_
    repeat (first | exact zad _ _ | refine zai rfl ?_ | refine zae rfl ?_ | refine zaj rfl ?_)

/-! ### loop.example/g01098/impl.step: function 91 -/
def impl_step.f (a0 : Int) (a1 : Int) : Option Unit := some ()
set_option maxHeartbeats 600000 in
set_option maxRecDepth 100000 in
theorem impl_step.calls {w0 ws : World} {P0 : Nat → Prop} (a0 : Int) (a1 : Int) (Z : Below w0.heap.size w0 ws) (hF : Fr w0 ws P0 [] ws)   (h : impl_step.f a0 a1 = some ()) :
    Calls Try.prog 91 #[.int .i64 a0, .int .i64 a1] ws (Post1 w0 ws P0 (fun (_ : Unit) => .agg #[.int .i64 (mn a0 a1), .int .i64 (mx a0 a1)]) (fun (_ : Unit) => [])) := by
  unfold impl_step.f at h
  refine enter Try.func91 rfl Try.ntmps91 rfl hF ?_
  refine c_seq ?_
  refine za0 ?_
  refine o_e rfl (e_alloc V89 rfl) (fun g1 => ?_)
  refine o_end ?_
  refine za1 ?_
  refine c_seq ?_
  refine za0 ?_
  refine o_q rfl rfl (za3 rfl) ?_
  refine o_q rfl rfl (za3 rfl) ?_
  refine o_q rfl rfl (q_min rfl rfl) ?_
  refine o_q rfl rfl (za3 rfl) ?_
  refine o_q rfl rfl (za3 rfl) ?_
  refine o_q rfl rfl (q_max rfl rfl) ?_
  refine o_q rfl rfl (q_build (vs := [(0, .int .i64 (mn a0 a1)), (1, .int .i64 (mx a0 a1))]) (cs := [.int .i64 (mn a0 a1), .int .i64 (mx a0 a1)]) rfl rfl) ?_
  refine o_e rfl (zau (i := 0) rfl rfl rfl Z89 rfl rfl) (fun _ => ?_)
  refine o_end ?_
  refine za1 ?_
  refine c_ret ?_
  exact x_r1 () Try.results91 (rv_cell rfl G89 Z89 (fun w h => h.zaa (i := 0) rfl) rfl) rfl (fun w h => za7 [] (by decide) rfl w h)

/-! ### loop.example/g01098/impl.told: function 102 -/
def impl_told.f (k : Nat) (a0_0 : Int) (l0_1 : List SStep) (l0_2 : List Int) : Option (Int × (List SStep) × (List Int) × Bool) := (impl_IsPlan.f k a0_0 l0_1 l0_2).bind fun b6 => if b6 = true then (some (a0_0, l0_1, l0_2, true)) else (some (0, ([] : List SStep), ([] : List Int), false))
set_option maxHeartbeats 600000 in
set_option maxRecDepth 100000 in
theorem impl_told.calls (k : Nat) {w0 ws : World} {P0 : Nat → Prop} (a0_0 : Int) (A0_1 : Option Addr) (c0_1 : Nat) (n0_1 : Nat) (l0_1 : List SStep) (A0_2 : Option Addr) (c0_2 : Nat) (n0_2 : Nat) (l0_2 : List Int) (Z : Below w0.heap.size w0 ws) (hF : Fr w0 ws P0 [row kStep 89 (.slice A0_1 n0_1 c0_1) l0_1, row (Kd.int .i64) 3 (.slice A0_2 n0_2 c0_2) l0_2] ws)  (r_1 : Int) (r_2 : List SStep) (r_5 : List Int) (r_8 : Bool) (h : impl_told.f k a0_0 l0_1 l0_2 = some (r_1, r_2, r_5, r_8)) :
    Calls Try.prog 102 #[.agg #[.int .i64 a0_0, .slice A0_1 n0_1 c0_1, .slice A0_2 n0_2 c0_2]] ws (Post1 w0 ws P0 (fun ((q_3, q_4, q_6, q_7) : (Option Addr) × Nat × (Option Addr) × Nat) => .tuple #[.agg #[.int .i64 r_1, .slice q_3 r_2.length q_4, .slice q_6 r_5.length q_7], .bool r_8]) (fun ((q_3, q_4, q_6, q_7) : (Option Addr) × Nat × (Option Addr) × Nat) => [row kStep 89 (.slice q_3 r_2.length q_4) r_2, row (Kd.int .i64) 3 (.slice q_6 r_5.length q_7) r_5])) := by
  unfold impl_told.f at h
  obtain rfl := (hF.row_C (i := 0) rfl).2.1
  obtain rfl := (hF.row_C (i := 1) rfl).2.1
  refine enter Try.func102 rfl Try.ntmps102 rfl hF ?_
  refine c_seq ?_
  refine za0 ?_
  refine o_e rfl (e_box rfl) (fun g1 => ?_)
  refine o_e rfl (e_alloc V27 rfl) (fun g3 => ?_)
  refine o_q rfl rfl (q_asg rfl) ?_
  refine o_end ?_
  refine za1 ?_
  refine c_seq ?_
  refine c_seq ?_
  refine za0 ?_
  refine o_q rfl rfl (q_ldB G27 Z27 rfl (fun w h => h.zaa (i := 1) rfl) rfl) ?_
  refine za9 h (fun b6 hx5 h => ?_) rfl
  refine o_e rfl (zac 0 Z Try.func86 N86 rfl rfl rfl (fun w P1 hF hB hS hT => impl_IsPlan.calls k a0_0 A0_1 c0_1 l0_1.length l0_1 A0_2 c0_2 l0_2.length l0_2 hB hF (hT 2 _ rfl).row (hT 2 _ rfl).cap (hT 3 _ rfl).row (hT 3 _ rfl).cap _ hx5)) (fun _ => ?_)
  refine o_q rfl rfl (q_not rfl) ?_
  refine o_end ?_
  refine za1 ?_
  refine zas _ rfl (fun hb7 => ?_) (fun hb7 => ?_)
  · replace hb7 := nt_t hb7
    replace h := bb_f hb7 h
    refine c_seq ?_
    refine za0 ?_
    refine o_q rfl rfl (q_build (vs := []) (cs := [.int .i64 0, .slice none 0 0, .slice none 0 0]) rfl rfl) ?_
    refine o_e rfl (zau (i := 0) rfl rfl rfl Z27 rfl rfl) (fun _ => ?_)
    refine o_q rfl rfl (q_asg rfl) ?_
    refine o_end ?_
    refine za1 ?_
    refine c_ret ?_
    refine za5 ?_
    refine x_nil kStep 89 ?_
    refine x_nil (Kd.int .i64) 3 ?_
    have e0_ := Option.some.inj h; clear h
    have d0_ := (Prod.mk.inj e0_).1; have e1_ := (Prod.mk.inj e0_).2; clear e0_; subst d0_
    have d1_ := (Prod.mk.inj e1_).1; have e2_ := (Prod.mk.inj e1_).2; clear e1_; subst d1_
    have d2_ := (Prod.mk.inj e2_).1; have e3_ := (Prod.mk.inj e2_).2; clear e2_; subst d2_
    subst e3_
    exact x_r2 (none, 0, none, 0) Try.results102 (rv_cell rfl G27 Z27 (fun w h => h.zaa (i := 2) rfl) rfl) (zaf rfl) rfl (fun w h => za7 [1, 0] (by decide) rfl w h)
  · replace hb7 := nt_f hb7
    replace h := bb_t hb7 h
    refine zao ?_
    refine za1 ?_
    refine c_seq ?_
    refine za0 ?_
    refine o_q rfl rfl (q_ldB G27 Z27 rfl (fun w h => h.zaa (i := 1) rfl) rfl) ?_
    refine o_e rfl (zau (i := 0) rfl rfl rfl Z27 rfl rfl) (fun _ => ?_)
    refine o_q rfl rfl (q_asg rfl) ?_
    refine o_end ?_
    refine za1 ?_
    refine c_ret ?_
    have e0_ := Option.some.inj h; clear h
    have d0_ := (Prod.mk.inj e0_).1; have e1_ := (Prod.mk.inj e0_).2; clear e0_; subst d0_
    have d1_ := (Prod.mk.inj e1_).1; have e2_ := (Prod.mk.inj e1_).2; clear e1_; subst d1_
    have d2_ := (Prod.mk.inj e2_).1; have e3_ := (Prod.mk.inj e2_).2; clear e2_; subst d2_
    subst e3_
    exact x_r2 (A0_1, c0_1, A0_2, c0_2) Try.results102 (rv_cell rfl G27 Z27 (fun w h => h.zaa (i := 0) rfl) rfl) (zaf rfl) rfl (fun w h => za7 [2, 3] (by decide) rfl w h)

/-! ### loop.example/g01098/impl.ReorderSteps: function 39 -/
def impl_ReorderSteps.l1 (l0_1 : List SStep) (l30 : List Int) : (List Int) → (List SStep) → Int → Option (List SStep)
  | [], l1254, i1257 => some l1254
  | y1258 :: ys1259, l1254, i1257 => (gt l0_1 y1258).bind fun y1641 => (gt l30 y1641.f0).bind fun y1821 => (gt l0_1 y1258).bind fun y2180 => (gt l30 y2180.f1).bind fun y2360 => (impl_step.f y1821 y2360).bind fun _ => (ap l1254 ([(⟨mn y1821 y2360, mx y1821 y2360⟩ : SStep)] : List SStep)).bind fun l2599 => impl_ReorderSteps.l1 l0_1 l30 ys1259 l2599 (i1257 + 1)
def impl_ReorderSteps.l0 (a0_0 : Int) : (List Int) → (List Int) → Int → Option (List Int)
  | [], l30, i31 => some l30
  | y32 :: ys33, l30, i31 => (gt l30 (w64 (a0_0 + y32))).bind fun y2842 => (st l30 (w64 (a0_0 + y32)) (w64 (a0_0 + i31))).bind fun l2843 => impl_ReorderSteps.l0 a0_0 ys33 l2843 (i31 + 1)
def impl_ReorderSteps.f (k : Nat) (a0_0 : Int) (l0_1 : List SStep) (l0_2 : List Int) (l1 : List Int) : Option (Int × (List SStep) × (List Int) × Bool) := ((impl_IsPlan.f k a0_0 l0_1 l0_2).bind fun b17 => if b17 = true then ((impl_isOrder.f l1 (l0_1.length : Int)).bind fun b20 => some (!b20)) else (some true)).bind fun b10 => if b10 = true then (some (0, ([] : List SStep), ([] : List Int), false)) else ((impl_firsts.f a0_0).bind fun l23 => (apm l23 (l0_1.length : Int)).bind fun l26 => (impl_ReorderSteps.l0 a0_0 l1 l26 0).bind fun l30 => ((impl_renamed.f l0_2 l30).bind fun l954 => some l954).bind fun l644 => (impl_ReorderSteps.l1 l0_1 l30 l1 ([] : List SStep) 0).bind fun l1254 => (impl_told.f k a0_0 l1254 l644).bind fun (i1269, l1270, l1271, b1272) => some (i1269, l1270, l1271, b1272))
set_option maxHeartbeats 600000 in
set_option maxRecDepth 100000 in
theorem impl_ReorderSteps.calls (k : Nat) {w0 ws : World} {P0 : Nat → Prop} (a0_0 : Int) (A0_1 : Option Addr) (c0_1 : Nat) (n0_1 : Nat) (l0_1 : List SStep) (A0_2 : Option Addr) (c0_2 : Nat) (n0_2 : Nat) (l0_2 : List Int) (A1 : Option Addr) (c1 : Nat) (n1 : Nat) (l1 : List Int) (Z : Below w0.heap.size w0 ws) (hF : Fr w0 ws P0 [] ws) (R0_1 : Stable ws P0 (fun w => Kd.C kStep w A0_1 n0_1 l0_1)) (hc0_1 : n0_1 ≤ c0_1) (R0_2 : Stable ws P0 (fun w => Kd.C (Kd.int .i64) w A0_2 n0_2 l0_2)) (hc0_2 : n0_2 ≤ c0_2) (R1 : Stable ws P0 (fun w => Kd.C (Kd.int .i64) w A1 n1 l1)) (hc1 : n1 ≤ c1) (r_1 : Int) (r_2 : List SStep) (r_5 : List Int) (r_8 : Bool) (h : impl_ReorderSteps.f k a0_0 l0_1 l0_2 l1 = some (r_1, r_2, r_5, r_8)) :
    Calls Try.prog 39 #[.agg #[.int .i64 a0_0, .slice A0_1 n0_1 c0_1, .slice A0_2 n0_2 c0_2], .slice A1 n1 c1] ws (Post1 w0 ws P0 (fun ((q_3, q_4, q_6, q_7) : (Option Addr) × Nat × (Option Addr) × Nat) => .tuple #[.agg #[.int .i64 r_1, .slice q_3 r_2.length q_4, .slice q_6 r_5.length q_7], .bool r_8]) (fun ((q_3, q_4, q_6, q_7) : (Option Addr) × Nat × (Option Addr) × Nat) => [row kStep 89 (.slice q_3 r_2.length q_4) r_2, row (Kd.int .i64) 3 (.slice q_6 r_5.length q_7) r_5])) := by
  unfold impl_ReorderSteps.f at h
  obtain rfl := (R0_1 ws (KeptB.refl _ _)).1
  obtain rfl := (R0_2 ws (KeptB.refl _ _)).1
  obtain rfl := (R1 ws (KeptB.refl _ _)).1
  refine enter Try.func39 rfl Try.ntmps39 rfl hF ?_
  refine c_seq ?_
  refine za0 ?_
  refine o_e rfl (e_box rfl) (fun g1 => ?_)
  refine o_e rfl (e_alloc V27 rfl) (fun g3 => ?_)
  refine o_q rfl rfl (q_asg rfl) ?_
  refine o_end ?_
  refine za1 ?_
  refine c_seq ?_
  refine za9 h (fun o11 hl12 hR13 => ?_) rfl
  clear h
  refine c_cutJ (σ := Bool) (fun b10 => some b10 = some o11) [12, 13, 14, 15, 16, 17, 18, 19, 20, 21, 22] (fun b10 => [(22, .bool b10)]) (fun b10 => [box g1 27 #[.int .i64 a0_0, .slice A0_1 l0_1.length c0_1, .slice A0_2 l0_2.length c0_2], box g3 27 #[.int .i64 0, .slice none 0 0, .slice none 0 0]]) ?_ ?_
  · skip
    have h := hl12; clear hl12
    clear hR13
    refine za0 ?_
    refine o_q rfl rfl (q_ldB G27 Z27 rfl (fun w h => h.zaa (i := 1) rfl) rfl) ?_
    refine za9 h (fun b17 hx16 h => ?_) rfl
    refine o_e rfl (zac 0 Z Try.func86 N86 rfl rfl rfl (fun w P1 hF hB hS hT => impl_IsPlan.calls k a0_0 A0_1 c0_1 l0_1.length l0_1 A0_2 c0_2 l0_2.length l0_2 hB hF (hS _ R0_1) hc0_1 (hS _ R0_2) hc0_2 _ hx16)) (fun _ => ?_)
    refine o_q rfl rfl (q_not rfl) ?_
    refine o_q rfl rfl (za3 rfl) ?_
    refine byB b17 (fun hb18 => ?_) (fun hb18 => ?_)
    · replace h := bb_t hb18 h
      refine o_w (za4 rfl rfl rfl (congrArg (fun b => Value.bool (!(b))) hb18)) rfl (za3 rfl) ?_
      refine o_w (za4 rfl rfl rfl (congrArg (fun b => Value.bool (!(b))) hb18)) rfl (q_f F27_1 rfl) ?_
      refine o_w (za4 rfl rfl rfl (congrArg (fun b => Value.bool (!(b))) hb18)) rfl (q_ldb Y24 rfl (fun w h => h.zaa (i := 1) rfl) rfl) ?_
      refine o_w (za4 rfl rfl rfl (congrArg (fun b => Value.bool (!(b))) hb18)) rfl (q_len Try.underlying24 rfl) ?_
      refine za9 h (fun b20 hx19 h => ?_) rfl
      refine o_ew (za4 rfl rfl rfl (congrArg (fun b => Value.bool (!(b))) hb18)) (zac 0 Z Try.func118 N118 rfl rfl rfl (fun w P1 hF hB hS hT => impl_isOrder.calls A1 c1 l1.length l1 (l0_1.length : Int) hB hF (hS _ R1) hc1 _ hx19)) (fun _ => ?_)
      refine o_w (za4 rfl rfl rfl (congrArg (fun b => Value.bool (!(b))) hb18)) rfl (q_not rfl) ?_
      refine o_q rfl rfl (zak false (congrArg (fun b => Value.bool (!(b))) hb18) rfl) ?_
      refine o_end ?_
      refine x_meetJ (!b20) h ⟨rfl, trivial⟩ (fun w h => za7 [1, 0] (by decide) rfl w h) ?_
      repeat (first | exact zad _ _ | refine zai rfl ?_ | refine zae rfl ?_ | refine zaj rfl ?_)
    · replace h := bb_f hb18 h
      refine @o_n _ _ _ _ _ _ _ _ _ _ _ 16 (za2 rfl rfl rfl (congrArg (fun b => Value.bool (!(b))) hb18) rfl) (Eq.refl (some 16)) ?_
      refine @o_n _ _ _ _ _ _ _ _ _ _ _ 17 (za2 rfl rfl rfl (congrArg (fun b => Value.bool (!(b))) hb18) rfl) (Eq.refl (some 17)) ?_
      refine @o_n _ _ _ _ _ _ _ _ _ _ _ 18 (za2 rfl rfl rfl (congrArg (fun b => Value.bool (!(b))) hb18) rfl) (Eq.refl (some 18)) ?_
      refine @o_n _ _ _ _ _ _ _ _ _ _ _ 19 (za2 rfl rfl rfl (congrArg (fun b => Value.bool (!(b))) hb18) rfl) (Eq.refl (some 19)) ?_
      refine @o_n _ _ _ _ _ _ _ _ _ _ _ 20 (za2 rfl rfl rfl (congrArg (fun b => Value.bool (!(b))) hb18) rfl) (Eq.refl (some 20)) ?_
      refine @o_n _ _ _ _ _ _ _ _ _ _ _ 21 (za2 rfl rfl rfl (congrArg (fun b => Value.bool (!(b))) hb18) rfl) (Eq.refl (some 21)) ?_
      refine o_q rfl rfl (zak true (congrArg (fun b => Value.bool (!(b))) hb18) rfl) ?_
      refine o_end ?_
      refine x_meetJ true h ⟨rfl, trivial⟩ (fun w h => za7 [1, 0] (by decide) rfl w h) ?_
      repeat (first | exact zad _ _ | refine zai rfl ?_ | refine zae rfl ?_ | refine zaj rfl ?_)
  · skip
    refine (fun b10 => fun U14 hJ15 => ?_)
    have e_ := Option.some.inj hJ15; have h := hR13; rw [← e_] at h; clear e_ hJ15 hR13 hl12
    refine zas _ rfl (fun hb21 => ?_) (fun hb21 => ?_)
    · skip
      replace h := bb_t hb21 h
      refine c_seq ?_
      refine za0 ?_
      refine o_q rfl rfl (q_build (vs := []) (cs := [.int .i64 0, .slice none 0 0, .slice none 0 0]) rfl rfl) ?_
      refine o_e rfl (zau (i := 1) rfl rfl rfl Z27 rfl rfl) (fun _ => ?_)
      refine o_q rfl rfl (q_asg rfl) ?_
      refine o_end ?_
      refine za1 ?_
      refine c_ret ?_
      refine za5 ?_
      refine x_nil kStep 89 ?_
      refine x_nil (Kd.int .i64) 3 ?_
      have e0_ := Option.some.inj h; clear h
      have d0_ := (Prod.mk.inj e0_).1; have e1_ := (Prod.mk.inj e0_).2; clear e0_; subst d0_
      have d1_ := (Prod.mk.inj e1_).1; have e2_ := (Prod.mk.inj e1_).2; clear e1_; subst d1_
      have d2_ := (Prod.mk.inj e2_).1; have e3_ := (Prod.mk.inj e2_).2; clear e2_; subst d2_
      subst e3_
      exact x_r2 (none, 0, none, 0) Try.results39 (rv_cell rfl G27 Z27 (fun w h => h.zaa (i := 3) rfl) rfl) (zaf rfl) rfl (fun w h => za7 [1, 0] (by decide) rfl w h)
    · skip
      replace h := bb_f hb21 h
      refine zao ?_
      refine za1 ?_
      refine c_seq ?_
      refine a_start (ds := []) MO rfl ?_
      refine za6 0 rfl rfl rfl (by kernel_rfl) (fun _ _ _ h => h) (q_f F27_0 rfl) ?_
      refine a_take 1 rfl rfl rfl (by kernel_rfl) (fun _ _ _ h => h) (fun w h => h) (q_ldb Y3 rfl (fun w h => h.zaa (i := 0) rfl) rfl) ?_
      refine za6 3 rfl rfl rfl (by kernel_rfl) (fun _ _ _ h => h) (q_f F27_1 rfl) ?_
      refine a_take 4 rfl rfl rfl (by kernel_rfl) (fun _ _ _ h => h) (fun w h => h) (q_ldb Y24 rfl (fun w h => h.zaa (i := 0) rfl) rfl) ?_
      refine za6 5 rfl rfl rfl (by kernel_rfl) (fun _ _ _ h => h) (q_len Try.underlying24 rfl) ?_
      refine za9 h (fun l23 hx22 h => ?_) rfl
      refine a_one 2 rfl rfl (by kernel_rfl) rfl (zac 0 Z Try.func103 N103 rfl rfl rfl (fun w P1 hF hB hS hT => impl_firsts.calls a0_0 hB hF _ hx22)) (fun s w h => zab [some 1, some 2] (by decide) w h rfl) (cur2 (fun A24 c25 => ?_))
      refine za9 h (fun l26 ha27 h => ?_) rfl
      refine a_one 6 rfl rfl (by kernel_rfl) rfl (e_appM (i := 0) Try.underlying25 Try.underlying3 I3 (by decide) rfl rfl ⟨_, rfl⟩ ha27) (fun s w h => zab [some 1, some 2] (by decide) w h rfl) (cur2 (fun A28 c29 => ?_))
      refine za6 7 rfl rfl rfl (by kernel_rfl) (fun _ _ _ h => h) (q_asg rfl) ?_
      refine zaw (by kernel_rfl) ?_
      refine za1 ?_
      refine c_seq ?_
      refine c_seq ?_
      refine za0 ?_
      refine o_q rfl rfl (za3 rfl) ?_
      refine o_q rfl rfl (q_len Try.underlying25 rfl) ?_
      refine o_q rfl rfl (za3 rfl) ?_
      refine o_end ?_
      refine za1 ?_
      refine zal ?_
      refine za9 h (fun o39 hl38 hR37 => ?_) rfl
      clear h
      refine c_fact (p := l1.length ≤ 9223372036854775807) (fun w h => (R1.now Z h).2.1) (fun hm36 => ?_)
      refine zax (σ := (List Int) × (List Int) × Int) (fun k34 ((ys33, l30, i31) : (List Int) × (List Int) × Int) => Rg l1 i31 ys33 ∧ ys33.length = k34 ∧ impl_ReorderSteps.l0 a0_0 ys33 l30 i31 = some o39) [7, 8, 33, 34, 35, 36, 37, 38, 39, 40, 41, 42, 43, 44, 45, 46, 47, 48] (fun ((ys33, l30, i31) : (List Int) × (List Int) × Int) => [(33, .int .i64 i31)]) (fun ((ys33, l30, i31) : (List Int) × (List Int) × Int) => [row (Kd.int .i64) 3 (.slice A28 l26.length c29) l30, box g1 27 #[.int .i64 a0_0, .slice A0_1 l0_1.length c0_1, .slice A0_2 l0_2.length c0_2], box g3 27 #[.int .i64 0, .slice none 0 0, .slice none 0 0]]) l1.length (l1, l26, 0) ⟨Rg.start _, rfl, hl38⟩ ⟨rfl, trivial⟩ (fun w h => h) ?_
      refine fun k34 => cur3 (listC (fun l30 i31 U40 hJ_ => ?_) (fun y32 ys33 l30 i31 U40 hJ_ => ?_))
      · skip
        clear hl38
        have hr35 := hJ_.1; have hk41 := hJ_.2.1; have h := hJ_.2.2; clear hJ_
        replace h : impl_ReorderSteps.l0 a0_0 [] l30 i31 = some o39 := h
        rw [impl_ReorderSteps.l0] at h
        refine c_seq ?_
        refine za0 ?_
        refine o_q rfl rfl (q_lss rfl rfl) ?_
        refine o_end ?_
        refine za1 ?_
        refine c_seq ?_
        refine c_false (congrArg Value.bool hr35.ge) ?_
        refine c_exit ?_
        refine za8 ?_
        refine za8 ?_
        have e_ := Option.some.inj h; replace h := hR37; rw [← e_] at h; clear e_
        refine x_hit ?_
        refine za1 ?_
        refine za9 h (fun o647 hl648 hR649 => ?_) rfl
        clear h
        refine c_cutJ (σ := (List Int) × Nat × (Option Addr) × Nat) (fun (l644, g643, A645, c646) => some l644 = some o647) [9, 49, 50, 51, 52, 53, 54, 55] (fun (l644, g643, A645, c646) => [(9, .pointer (some ⟨g643, 0, none⟩))]) (fun (l644, g643, A645, c646) => [box g1 27 #[.int .i64 a0_0, .slice A0_1 l0_1.length c0_1, .slice A0_2 l0_2.length c0_2], box g3 27 #[.int .i64 0, .slice none 0 0, .slice none 0 0], row (Kd.int .i64) 3 (.slice A28 l26.length c29) l30, box g643 27 #[.int .i64 a0_0, .slice none 0 0, .slice A645 l644.length c646], row (Kd.int .i64) 3 (.slice A645 l644.length c646) l644]) ?_ ?_
        · skip
          have h := hl648; clear hl648
          clear hR649
          refine za9 h (fun l954 hx953 h => ?_) rfl
          refine a_start (ds := []) MO rfl ?_
          refine za6 0 rfl rfl rfl (by kernel_rfl) (fun _ _ _ h => h) (q_f F27_0 rfl) ?_
          refine a_take 1 rfl rfl rfl (by kernel_rfl) (fun _ _ _ h => h) (fun w h => h) (q_ldb Y3 rfl (fun w h => h.zaa (i := 1) rfl) rfl) ?_
          refine za6 2 rfl rfl rfl (by kernel_rfl) (fun _ _ _ h => h) (q_f F27_2 rfl) ?_
          refine a_take 3 rfl rfl rfl (by kernel_rfl) (fun _ _ _ h => h) (fun w h => h) (q_ldb Y25 rfl (fun w h => h.zaa (i := 1) rfl) rfl) ?_
          refine za6 4 rfl rfl rfl (by kernel_rfl) (fun _ _ _ h => h) (za3 rfl) ?_
          refine a_two 5 7 rfl rfl rfl rfl (by kernel_rfl) rfl rfl (zac 0 Z Try.func92 N92 rfl rfl rfl (fun w P1 hF hB hS hT => impl_renamed.calls A0_2 c0_2 l0_2.length l0_2 A28 c29 l26.length l30 hB hF (hS _ R0_2) hc0_2 (hT 0 _ rfl).row (hT 0 _ rfl).cap _ hx953)) (fun s w h => zab [some 1, some 2, some 3] (by decide) w h rfl) (e_alloc V27 rfl) (fun s w h => zab [some 1, some 2, some 3] (by decide) w h rfl) (cur2 (fun A955 c956 => ?_)) (fun g1073 => ?_)
          · skip
            refine za6 6 rfl rfl rfl (by kernel_rfl) (fun _ _ _ h => h) (q_build (vs := [(0, .int .i64 a0_0), (2, .slice A955 l954.length c956)]) (cs := [.int .i64 a0_0, .slice none 0 0, .slice A955 l954.length c956]) rfl rfl) ?_
            refine a_one 7 rfl rfl (by kernel_rfl) rfl (e_alloc V27 rfl) (fun s w h => zab [some 2, some 3, some 4] (by decide) w h rfl) (fun g1073 => ?_)
            refine a_one 8 rfl rfl (by kernel_rfl) rfl (zau (i := 0) rfl rfl rfl Z27 rfl rfl) (fun s w h => zab [some 2, some 3, some 4] (by decide) w h rfl) (fun _ => ?_)
            refine zaw (by kernel_rfl) ?_
            refine x_meetJ (l954, g1073, A955, c956) h ⟨rfl, trivial⟩ (fun w h => za7 [3, 4, 2, 0, 1] (by decide) rfl w h) ?_
            repeat (first | exact zad _ _ | refine zai rfl ?_ | refine zae rfl ?_ | refine zaj rfl ?_)
          · skip
            refine a_one 5 rfl rfl (by kernel_rfl) rfl (zac 0 Z Try.func92 N92 rfl rfl rfl (fun w P1 hF hB hS hT => impl_renamed.calls A0_2 c0_2 l0_2.length l0_2 A28 c29 l26.length l30 hB hF (hS _ R0_2) hc0_2 (hT 1 _ rfl).row (hT 1 _ rfl).cap _ hx953)) (fun s w h => zab [some 2, some 3, some 4] (by decide) w h rfl) (cur2 (fun A955 c956 => ?_))
            refine za6 6 rfl rfl rfl (by kernel_rfl) (fun _ _ _ h => h) (q_build (vs := [(0, .int .i64 a0_0), (2, .slice A955 l954.length c956)]) (cs := [.int .i64 a0_0, .slice none 0 0, .slice A955 l954.length c956]) rfl rfl) ?_
            refine a_one 8 rfl rfl (by kernel_rfl) rfl (zau (i := 1) rfl rfl rfl Z27 rfl rfl) (fun s w h => zab [some 2, some 3, some 4] (by decide) w h rfl) (fun _ => ?_)
            refine zaw (by kernel_rfl) ?_
            refine x_meetJ (l954, g1073, A955, c956) h ⟨rfl, trivial⟩ (fun w h => za7 [3, 4, 2, 1, 0] (by decide) rfl w h) ?_
            repeat (first | exact zad _ _ | refine zai rfl ?_ | refine zae rfl ?_ | refine zaj rfl ?_)
        · skip
          refine (cur4 (fun l644 g643 A645 c646 => fun U650 hJ651 => ?_))
          have e_ := Option.some.inj hJ651; have h := hR649; rw [← e_] at h; clear e_ hJ651 hR649 hl648
          refine c_seq ?_
          refine c_seq ?_
          refine za0 ?_
          refine o_q rfl rfl (za3 rfl) ?_
          refine o_q rfl rfl (q_len Try.underlying25 rfl) ?_
          refine o_q rfl rfl (za3 rfl) ?_
          refine o_end ?_
          refine za1 ?_
          refine zal ?_
          refine c_nil kStep 89 ?_
          refine za9 h (fun o1265 hl1264 hR1263 => ?_) rfl
          clear h
          refine c_fact (p := l1.length ≤ 9223372036854775807) (fun w h => (R1.now Z h).2.1) (fun hm1262 => ?_)
          refine zax (σ := (List Int) × (List SStep) × Int × (Option Addr) × Nat) (fun k1260 ((ys1259, l1254, i1257, A1255, c1256) : (List Int) × (List SStep) × Int × (Option Addr) × Nat) => Rg l1 i1257 ys1259 ∧ ys1259.length = k1260 ∧ impl_ReorderSteps.l1 l0_1 l30 ys1259 l1254 i1257 = some o1265) [11, 58, 59, 60, 61, 62, 63, 64, 65, 66, 67, 68, 69, 70, 71, 72, 73, 74, 75, 76, 77, 78, 79, 80, 81, 82, 83, 84, 85, 86] (fun ((ys1259, l1254, i1257, A1255, c1256) : (List Int) × (List SStep) × Int × (Option Addr) × Nat) => [(58, .int .i64 i1257)]) (fun ((ys1259, l1254, i1257, A1255, c1256) : (List Int) × (List SStep) × Int × (Option Addr) × Nat) => [row kStep 89 (.slice A1255 l1254.length c1256) l1254, box g1 27 #[.int .i64 a0_0, .slice A0_1 l0_1.length c0_1, .slice A0_2 l0_2.length c0_2], box g3 27 #[.int .i64 0, .slice none 0 0, .slice none 0 0], row (Kd.int .i64) 3 (.slice A28 l26.length c29) l30, box g643 27 #[.int .i64 a0_0, .slice A1255 l1254.length c1256, .slice A645 l644.length c646], row (Kd.int .i64) 3 (.slice A645 l644.length c646) l644]) l1.length (l1, ([] : List SStep), 0, none, 0) ⟨Rg.start _, rfl, hl1264⟩ ⟨rfl, trivial⟩ (fun w h => h) ?_
          refine fun k1260 => cur5 (listC (fun l1254 i1257 A1255 c1256 U1266 hJ_ => ?_) (fun y1258 ys1259 l1254 i1257 A1255 c1256 U1266 hJ_ => ?_))
          · skip
            clear hl1264
            have hr1261 := hJ_.1; have hk1267 := hJ_.2.1; have h := hJ_.2.2; clear hJ_
            replace h : impl_ReorderSteps.l1 l0_1 l30 [] l1254 i1257 = some o1265 := h
            rw [impl_ReorderSteps.l1] at h
            refine c_seq ?_
            refine za0 ?_
            refine o_q rfl rfl (q_lss rfl rfl) ?_
            refine o_end ?_
            refine za1 ?_
            refine c_seq ?_
            refine c_false (congrArg Value.bool hr1261.ge) ?_
            refine c_exit ?_
            refine za8 ?_
            refine za8 ?_
            have e_ := Option.some.inj h; replace h := hR1263; rw [← e_] at h; clear e_
            refine x_hit ?_
            refine za1 ?_
            refine c_seq ?_
            refine za0 ?_
            refine o_q rfl rfl (q_ldB G27 Z27 rfl (fun w h => h.zaa (i := 4) rfl) rfl) ?_
            refine o_pick [0, 5, 1, 2, 3, 4] (by decide) rfl ?_
            refine bindE4 h (fun i1269 l1270 l1271 b1272 hx1268 h => ?_) rfl
            refine o_e rfl (zac 2 Z Try.func102 N102 rfl rfl rfl (fun w P1 hF hB hS hT => impl_told.calls k a0_0 A1255 c1256 l1254.length l1254 A645 c646 l644.length l644 hB hF _ _ _ _ hx1268)) (cur4 (fun A1273 c1274 A1275 c1276 => ?_))
            refine o_q rfl rfl (q_ext rfl rfl) ?_
            refine o_q rfl rfl (q_ext rfl rfl) ?_
            refine o_e rfl (zau (i := 3) rfl rfl rfl Z27 rfl rfl) (fun _ => ?_)
            refine o_q rfl rfl (q_asg rfl) ?_
            refine o_end ?_
            refine za1 ?_
            refine c_ret ?_
            have e0_ := Option.some.inj h; clear h
            have d0_ := (Prod.mk.inj e0_).1; have e1_ := (Prod.mk.inj e0_).2; clear e0_; subst d0_
            have d1_ := (Prod.mk.inj e1_).1; have e2_ := (Prod.mk.inj e1_).2; clear e1_; subst d1_
            have d2_ := (Prod.mk.inj e2_).1; have e3_ := (Prod.mk.inj e2_).2; clear e2_; subst d2_
            subst e3_
            exact x_r2 (A1273, c1274, A1275, c1276) Try.results39 (rv_cell rfl G27 Z27 (fun w h => h.zaa (i := 3) rfl) rfl) (zaf rfl) rfl (fun w h => za7 [0, 1] (by decide) rfl w h)
          · skip
            clear hl1264
            have hr1261 := hJ_.1; have hk1267 := hJ_.2.1; have h := hJ_.2.2; clear hJ_
            replace h : impl_ReorderSteps.l1 l0_1 l30 (y1258 :: ys1259) l1254 i1257 = some o1265 := h
            rw [impl_ReorderSteps.l1] at h
            refine c_seq ?_
            refine za0 ?_
            refine o_q rfl rfl (q_lss rfl rfl) ?_
            refine o_end ?_
            refine za1 ?_
            refine c_seq ?_
            refine zay (congrArg Value.bool hr1261.lt) ?_
            refine zao ?_
            refine za1 ?_
            refine c_seq ?_
            refine zal ?_
            refine c_seq ?_
            refine za0 ?_
            refine o_fact (p := Sh A1 l1.length l1.length) (fun w h => f_sh (dk := (Kd.int .i64)) h (fun w h => R1.now Z h)) (fun hq1277 => ?_)
            refine o_q rfl rfl (q_ix Try.underlying25 Z3 rfl rfl hq1277 hr1261.get) ?_
            refine o_q rfl rfl (q_lde (off := 0) Y3 rfl rfl (fun w h => R1.now Z h) hr1261.get (fun _ _ h => h) rfl) ?_
            refine o_q rfl rfl (q_asg rfl) ?_
            refine o_end ?_
            refine za1 ?_
            refine za9 h (fun y1641 hg1640 h => ?_) rfl
            refine za9 h (fun y1821 hg1820 h => ?_) rfl
            refine za9 h (fun y2180 hg2179 h => ?_) rfl
            refine za9 h (fun y2360 hg2359 h => ?_) rfl
            refine za9 h (fun _ hx2479 h => ?_) rfl
            refine za9 h (fun l2599 ha2600 h => ?_) rfl
            refine a_startS (ds := []) [none, some 1, some 2, some 3, none, some 5] MO rfl ?_
            refine za6 0 rfl rfl rfl (by kernel_rfl) (fun _ _ _ h => h) (q_f F27_1 rfl) ?_
            refine za6 2 rfl rfl rfl (by kernel_rfl) (fun _ _ _ h => h) (za3 rfl) ?_
            refine za6 3 rfl rfl rfl (by kernel_rfl) (fun _ _ _ h => h) (q_f F27_1 rfl) ?_
            refine a_take 4 rfl rfl rfl (by kernel_rfl) (fun _ _ _ h => h) (fun w h => zab [none, some 1, some 2, some 3, none, some 5] (by decide) w h rfl) (q_ldb Y24 rfl (fun w h => h.zaa (i := 1) rfl) rfl) ?_
            refine za6 5 rfl rfl rfl (by kernel_rfl) (fun _ _ _ h => h) (za3 rfl) ?_
            refine a_fact (p := Sh A0_1 l0_1.length l0_1.length) (fun w h => f_sh (dk := kStep) h (fun w h => R0_1.now Z h)) (fun hq1639 => ?_)
            refine za6 6 rfl rfl rfl (by kernel_rfl) (fun _ _ _ h => h) (q_ix Try.underlying24 Z89 rfl rfl hq1639 hg1640) ?_
            refine za6 7 rfl rfl rfl (by kernel_rfl) (fun _ _ _ h => h) (q_fe F89_0 rfl) ?_
            refine a_take 8 rfl rfl rfl (by kernel_rfl) (fun _ _ _ h => h) (fun w h => zab [none, some 1, some 2, some 3, none, some 5] (by decide) w h rfl) (q_lde (off := 0) Y3 rfl rfl (fun w h => R0_1.now Z h) hg1640 (fun _ _ h => h) rfl) ?_
            refine a_fact (p := Sh A28 l26.length l30.length) (fun w h => f_sh (dk := (Kd.int .i64)) h (fun w h => h.zb0 (i := 3) rfl)) (fun hq1819 => ?_)
            refine za6 9 rfl rfl rfl (by kernel_rfl) (fun _ _ _ h => h) (q_ix Try.underlying25 Z3 rfl rfl hq1819 hg1820) ?_
            refine a_take 10 rfl rfl rfl (by kernel_rfl) (fun _ _ _ h => h) (fun w h => zab [none, some 1, some 2, some 3, none, some 5] (by decide) w h rfl) (q_lde (off := 0) Y3 rfl rfl (fun w h => h.zb0 (i := 3) rfl) hg1820 (fun _ _ h => h) rfl) ?_
            refine za6 11 rfl rfl rfl (by kernel_rfl) (fun _ _ _ h => h) (za3 rfl) ?_
            refine za6 12 rfl rfl rfl (by kernel_rfl) (fun _ _ _ h => h) (q_f F27_1 rfl) ?_
            refine a_take 13 rfl rfl rfl (by kernel_rfl) (fun _ _ _ h => h) (fun w h => zab [none, some 1, some 2, some 3, none, some 5] (by decide) w h rfl) (q_ldb Y24 rfl (fun w h => h.zaa (i := 1) rfl) rfl) ?_
            refine za6 14 rfl rfl rfl (by kernel_rfl) (fun _ _ _ h => h) (za3 rfl) ?_
            refine za6 15 rfl rfl rfl (by kernel_rfl) (fun _ _ _ h => h) (q_ix Try.underlying24 Z89 rfl rfl hq1639 hg2179) ?_
            refine za6 16 rfl rfl rfl (by kernel_rfl) (fun _ _ _ h => h) (q_fe F89_1 rfl) ?_
            refine a_take 17 rfl rfl rfl (by kernel_rfl) (fun _ _ _ h => h) (fun w h => zab [none, some 1, some 2, some 3, none, some 5] (by decide) w h rfl) (q_lde (off := 1) Y3 rfl rfl (fun w h => R0_1.now Z h) hg2179 (fun _ _ h => h) rfl) ?_
            refine za6 18 rfl rfl rfl (by kernel_rfl) (fun _ _ _ h => h) (q_ix Try.underlying25 Z3 rfl rfl hq1819 hg2359) ?_
            refine a_take 19 rfl rfl rfl (by kernel_rfl) (fun _ _ _ h => h) (fun w h => zab [none, some 1, some 2, some 3, none, some 5] (by decide) w h rfl) (q_lde (off := 0) Y3 rfl rfl (fun w h => h.zb0 (i := 3) rfl) hg2359 (fun _ _ h => h) rfl) ?_
            refine a_two 1 20 rfl rfl rfl rfl (by kernel_rfl) rfl rfl (ev_q rfl (q_ldb Y24 rfl (fun w h => h.zaa (i := 4) rfl) rfl)) (fun s w h => zab [none, some 1, some 2, some 3, none, some 5] (by decide) w h rfl) (zac 0 Z Try.func91 N91 rfl rfl rfl (fun w P1 hF hB hS hT => impl_step.calls y1821 y2360 hB hF hx2479)) (fun s w h => zab [none, some 1, some 2, some 3, none, some 5] (by decide) w h rfl) (fun _ => ?_) (fun _ => ?_)
            · skip
              refine a_one 20 rfl rfl (by kernel_rfl) rfl (zac 0 Z Try.func91 N91 rfl rfl rfl (fun w P1 hF hB hS hT => impl_step.calls y1821 y2360 hB hF hx2479)) (fun s w h => zab [none, some 1, some 2, some 3, none, some 5] (by decide) w h rfl) (fun _ => ?_)
              refine a_one 21 rfl rfl (by kernel_rfl) rfl (e_lit (vs := [(0, .agg #[.int .i64 (mn y1821 y2360), .int .i64 (mx y1821 y2360)])]) (cs := [.int .i64 (mn y1821 y2360), .int .i64 (mx y1821 y2360)]) kStep ([(⟨mn y1821 y2360, mx y1821 y2360⟩ : SStep)] : List SStep) Try.underlying24 I89 (by decide) rfl (by decide) rfl rfl (fun _ _ => reps_flat _)) (fun s w h => zab [none, some 2, some 3, some 4, none, some 6] (by decide) w h rfl) (cur2 (fun A2539 c2540 => ?_))
              refine a_one 22 rfl rfl (by kernel_rfl) rfl (e_app (i := 1) (j := 0) Try.underlying24 I89 rfl (by decide) (by decide) rfl rfl rfl rfl rfl ha2600) (fun s w h => zab [none, some 2, some 3, some 4, none, some 6] (by decide) w h rfl) (cur2 (fun A2601 c2602 => ?_))
              refine za6 23 rfl rfl rfl (by kernel_rfl) (fun _ _ _ h => h) (q_f F27_1 rfl) ?_
              refine a_one 24 rfl rfl (by kernel_rfl) rfl (e_store (i := 5) rfl rfl rfl rfl Z24 rfl rfl) (fun s w h => zab [none, some 2, some 3, some 4, none, some 6] (by decide) w h rfl) (fun _ => ?_)
              refine zaw (by kernel_rfl) ?_
              refine zan ?_
              refine za1 ?_
              refine za0 ?_
              refine o_q rfl rfl (q_up rfl rfl (hr1261.up hm1262)) ?_
              refine o_q rfl rfl (za3 rfl) ?_
              refine o_end ?_
              refine zam ys1259.length (ys1259, l2599, i1257 + 1, A2601, c2602) (by rw [← hk1267]; exact Nat.lt_succ_self _) ⟨hr1261.step, rfl, h⟩ ⟨rfl, trivial⟩ (fun w h => za7 [1, 2, 3, 4, 5, 6] (by decide) rfl w h) ?_
              repeat (first | exact zad _ _ | refine zai rfl ?_ | refine zae rfl ?_ | refine zaj rfl ?_)
            · skip
              refine a_two 1 21 rfl rfl rfl rfl (by kernel_rfl) rfl rfl (ev_q rfl (q_ldb Y24 rfl (fun w h => h.zaa (i := 4) rfl) rfl)) (fun s w h => zab [none, some 1, some 2, some 3, none, some 5] (by decide) w h rfl) (e_lit (vs := [(0, .agg #[.int .i64 (mn y1821 y2360), .int .i64 (mx y1821 y2360)])]) (cs := [.int .i64 (mn y1821 y2360), .int .i64 (mx y1821 y2360)]) kStep ([(⟨mn y1821 y2360, mx y1821 y2360⟩ : SStep)] : List SStep) Try.underlying24 I89 (by decide) rfl (by decide) rfl rfl (fun _ _ => reps_flat _)) (fun s w h => zab [none, some 2, some 3, some 4, none, some 6] (by decide) w h rfl) (fun _ => ?_) (cur2 (fun A2539 c2540 => ?_))
              · skip
                refine a_one 21 rfl rfl (by kernel_rfl) rfl (e_lit (vs := [(0, .agg #[.int .i64 (mn y1821 y2360), .int .i64 (mx y1821 y2360)])]) (cs := [.int .i64 (mn y1821 y2360), .int .i64 (mx y1821 y2360)]) kStep ([(⟨mn y1821 y2360, mx y1821 y2360⟩ : SStep)] : List SStep) Try.underlying24 I89 (by decide) rfl (by decide) rfl rfl (fun _ _ => reps_flat _)) (fun s w h => zab [none, some 2, some 3, some 4, none, some 6] (by decide) w h rfl) (cur2 (fun A2539 c2540 => ?_))
                refine a_one 22 rfl rfl (by kernel_rfl) rfl (e_app (i := 1) (j := 0) Try.underlying24 I89 rfl (by decide) (by decide) rfl rfl rfl rfl rfl ha2600) (fun s w h => zab [none, some 2, some 3, some 4, none, some 6] (by decide) w h rfl) (cur2 (fun A2601 c2602 => ?_))
                refine za6 23 rfl rfl rfl (by kernel_rfl) (fun _ _ _ h => h) (q_f F27_1 rfl) ?_
                refine a_one 24 rfl rfl (by kernel_rfl) rfl (e_store (i := 5) rfl rfl rfl rfl Z24 rfl rfl) (fun s w h => zab [none, some 2, some 3, some 4, none, some 6] (by decide) w h rfl) (fun _ => ?_)
                refine zaw (by kernel_rfl) ?_
                refine zan ?_
                refine za1 ?_
                refine za0 ?_
                refine o_q rfl rfl (q_up rfl rfl (hr1261.up hm1262)) ?_
                refine o_q rfl rfl (za3 rfl) ?_
                refine o_end ?_
                refine zam ys1259.length (ys1259, l2599, i1257 + 1, A2601, c2602) (by rw [← hk1267]; exact Nat.lt_succ_self _) ⟨hr1261.step, rfl, h⟩ ⟨rfl, trivial⟩ (fun w h => za7 [1, 2, 3, 4, 5, 6] (by decide) rfl w h) ?_
                repeat (first | exact zad _ _ | refine zai rfl ?_ | refine zae rfl ?_ | refine zaj rfl ?_)
              · skip
                refine a_one 1 rfl rfl (by kernel_rfl) rfl (ev_q rfl (q_ldb Y24 rfl (fun w h => h.zaa (i := 5) rfl) rfl)) (fun s w h => zab [none, some 2, some 3, some 4, none, some 6] (by decide) w h rfl) (fun _ => ?_)
                refine a_one 22 rfl rfl (by kernel_rfl) rfl (e_app (i := 1) (j := 0) Try.underlying24 I89 rfl (by decide) (by decide) rfl rfl rfl rfl rfl ha2600) (fun s w h => zab [none, some 2, some 3, some 4, none, some 6] (by decide) w h rfl) (cur2 (fun A2601 c2602 => ?_))
                refine za6 23 rfl rfl rfl (by kernel_rfl) (fun _ _ _ h => h) (q_f F27_1 rfl) ?_
                refine a_one 24 rfl rfl (by kernel_rfl) rfl (e_store (i := 5) rfl rfl rfl rfl Z24 rfl rfl) (fun s w h => zab [none, some 2, some 3, some 4, none, some 6] (by decide) w h rfl) (fun _ => ?_)
                refine zaw (by kernel_rfl) ?_
                refine zan ?_
                refine za1 ?_
                refine za0 ?_
                refine o_q rfl rfl (q_up rfl rfl (hr1261.up hm1262)) ?_
                refine o_q rfl rfl (za3 rfl) ?_
                refine o_end ?_
                refine zam ys1259.length (ys1259, l2599, i1257 + 1, A2601, c2602) (by rw [← hk1267]; exact Nat.lt_succ_self _) ⟨hr1261.step, rfl, h⟩ ⟨rfl, trivial⟩ (fun w h => za7 [1, 2, 3, 4, 5, 6] (by decide) rfl w h) ?_
                repeat (first | exact zad _ _ | refine zai rfl ?_ | refine zae rfl ?_ | refine zaj rfl ?_)
      · skip
        clear hl38
        have hr35 := hJ_.1; have hk41 := hJ_.2.1; have h := hJ_.2.2; clear hJ_
        replace h : impl_ReorderSteps.l0 a0_0 (y32 :: ys33) l30 i31 = some o39 := h
        rw [impl_ReorderSteps.l0] at h
        refine c_seq ?_
        refine za0 ?_
        refine o_q rfl rfl (q_lss rfl rfl) ?_
        refine o_end ?_
        refine za1 ?_
        refine c_seq ?_
        refine zay (congrArg Value.bool hr35.lt) ?_
        refine zao ?_
        refine za1 ?_
        refine c_seq ?_
        refine zal ?_
        refine c_seq ?_
        refine za0 ?_
        refine o_q rfl rfl (za3 rfl) ?_
        refine o_fact (p := Sh A1 l1.length l1.length) (fun w h => f_sh (dk := (Kd.int .i64)) h (fun w h => R1.now Z h)) (fun hq2839 => ?_)
        refine o_q rfl rfl (q_ix Try.underlying25 Z3 rfl rfl hq2839 hr35.get) ?_
        refine o_q rfl rfl (q_lde (off := 0) Y3 rfl rfl (fun w h => R1.now Z h) hr35.get (fun _ _ h => h) rfl) ?_
        refine o_q rfl rfl (q_asg rfl) ?_
        refine o_q rfl rfl (q_asg rfl) ?_
        refine o_end ?_
        refine za1 ?_
        refine za0 ?_
        refine o_q rfl rfl (za3 rfl) ?_
        refine o_q rfl rfl (q_f F27_0 rfl) ?_
        refine o_q rfl rfl (q_ldb Y3 rfl (fun w h => h.zaa (i := 1) rfl) rfl) ?_
        refine o_q rfl rfl (za3 rfl) ?_
        refine o_q rfl rfl (q_add64 rfl rfl) ?_
        refine o_q rfl rfl (q_f F27_0 rfl) ?_
        refine o_q rfl rfl (q_ldb Y3 rfl (fun w h => h.zaa (i := 1) rfl) rfl) ?_
        refine o_q rfl rfl (za3 rfl) ?_
        refine o_q rfl rfl (q_add64 rfl rfl) ?_
        refine o_fact (p := Sh A28 l26.length l30.length) (fun w h => f_sh (dk := (Kd.int .i64)) h (fun w h => h.zb0 (i := 0) rfl)) (fun hq2840 => ?_)
        refine za9 h (fun y2842 hg2841 h => ?_) rfl
        refine o_q rfl rfl (q_ix Try.underlying25 Z3 rfl rfl hq2840 hg2841) ?_
        refine za9 h (fun l2843 hs2844 h => ?_) rfl
        refine o_e rfl (e_set (i := 0) rfl rfl rfl Z3 hs2844) (fun _ => ?_)
        refine o_end ?_
        refine zan ?_
        refine za1 ?_
        refine za0 ?_
        refine o_q rfl rfl (q_up rfl rfl (hr35.up hm36)) ?_
        refine o_q rfl rfl (za3 rfl) ?_
        refine o_end ?_
        refine zam ys33.length (ys33, l2843, i31 + 1) (by rw [← hk41]; exact Nat.lt_succ_self _) ⟨hr35.step, rfl, h⟩ ⟨rfl, trivial⟩ (fun w h => za7 [0, 1, 2] (by decide) rfl w h) ?_
        repeat (first | exact zad _ _ | refine zai rfl ?_ | refine zae rfl ?_ | refine zaj rfl ?_)

/-! ### loop.example/g01098/spec.l1In: function 94 -/
def spec_l1In.f (a0 : Int) (a1 : Int) (a2 : Int) : Option Bool := if a1 ≤ a0 then (some (decide (a0 ≤ a2))) else (some false)
set_option maxHeartbeats 600000 in
set_option maxRecDepth 100000 in
theorem spec_l1In.calls {w0 ws : World} {P0 : Nat → Prop} (a0 : Int) (a1 : Int) (a2 : Int) (Z : Below w0.heap.size w0 ws) (hF : Fr w0 ws P0 [] ws)  (r_1 : Bool) (h : spec_l1In.f a0 a1 a2 = some r_1) :
    Calls Try.prog 94 #[.int .i64 a0, .int .i64 a1, .int .i64 a2] ws (Post1 w0 ws P0 (fun (_ : Unit) => .bool r_1) (fun (_ : Unit) => [])) := by
  unfold spec_l1In.f at h
  refine enter Try.func94 rfl Try.ntmps94 rfl hF ?_
  refine c_seq ?_
  refine za0 ?_
  refine o_q rfl rfl (q_asg rfl) ?_
  refine o_end ?_
  refine za1 ?_
  refine c_seq ?_
  refine za0 ?_
  refine o_q rfl rfl (za3 rfl) ?_
  refine o_q rfl rfl (za3 rfl) ?_
  refine o_q rfl rfl (q_geq rfl rfl) ?_
  refine o_q rfl rfl (za3 rfl) ?_
  refine byB (decide (a1 ≤ a0)) (fun hb1 => ?_) (fun hb1 => ?_)
  · replace h := br_t hb1 h
    refine o_w (za4 rfl rfl rfl (congrArg Value.bool hb1)) rfl (za3 rfl) ?_
    refine o_w (za4 rfl rfl rfl (congrArg Value.bool hb1)) rfl (za3 rfl) ?_
    refine o_w (za4 rfl rfl rfl (congrArg Value.bool hb1)) rfl (q_leq rfl rfl) ?_
    refine o_q rfl rfl (zak true (congrArg Value.bool hb1) rfl) ?_
    refine o_q rfl rfl (q_asg rfl) ?_
    refine o_end ?_
    refine za1 ?_
    refine c_ret ?_
    have e0_ := Option.some.inj h; clear h
    subst e0_
    exact x_r1 () Try.results94 (zaf rfl) rfl (fun w h => za7 [] (by decide) rfl w h)
  · replace h := br_f hb1 h
    refine @o_n _ _ _ _ _ _ _ _ _ _ _ 11 (za2 rfl rfl rfl (congrArg Value.bool hb1) rfl) (Eq.refl (some 11)) ?_
    refine @o_n _ _ _ _ _ _ _ _ _ _ _ 12 (za2 rfl rfl rfl (congrArg Value.bool hb1) rfl) (Eq.refl (some 12)) ?_
    refine @o_n _ _ _ _ _ _ _ _ _ _ _ 13 (za2 rfl rfl rfl (congrArg Value.bool hb1) rfl) (Eq.refl (some 13)) ?_
    refine o_q rfl rfl (zak false (congrArg Value.bool hb1) rfl) ?_
    refine o_q rfl rfl (q_asg rfl) ?_
    refine o_end ?_
    refine za1 ?_
    refine c_ret ?_
    have e0_ := Option.some.inj h; clear h
    subst e0_
    exact x_r1 () Try.results94 (zaf rfl) rfl (fun w h => za7 [] (by decide) rfl w h)

/-! ### loop.example/g01098/spec.plSum: function 221 -/
def spec_plSum.l0 (l1 : List Int) : (List Int) → (List Int) → Int → Option (List Int)
  | [], l3, i6 => some l3
  | y7 :: ys8, l3, i6 => (gt l1 i6).bind fun y20 => (spec_l1Least.f (w64 (y7 + y20)) 1000001).bind fun i22 => (ap l3 ([i22] : List Int)).bind fun l26 => spec_plSum.l0 l1 ys8 l26 (i6 + 1)
def spec_plSum.f (l0 : List Int) (l1 : List Int) : Option (List Int) := (spec_plSum.l0 l1 l0 ([] : List Int) 0).bind fun l3 => some l3
set_option maxHeartbeats 600000 in
set_option maxRecDepth 100000 in
theorem spec_plSum.calls {w0 ws : World} {P0 : Nat → Prop} (A0 : Option Addr) (c0 : Nat) (n0 : Nat) (l0 : List Int) (A1 : Option Addr) (c1 : Nat) (n1 : Nat) (l1 : List Int) (Z : Below w0.heap.size w0 ws) (hF : Fr w0 ws P0 [] ws) (R0 : Stable ws P0 (fun w => Kd.C (Kd.int .i64) w A0 n0 l0)) (hc0 : n0 ≤ c0) (R1 : Stable ws P0 (fun w => Kd.C (Kd.int .i64) w A1 n1 l1)) (hc1 : n1 ≤ c1) (r_1 : List Int) (h : spec_plSum.f l0 l1 = some r_1) :
    Calls Try.prog 221 #[.slice A0 n0 c0, .slice A1 n1 c1] ws (Post1 w0 ws P0 (fun ((q_2, q_3) : (Option Addr) × Nat) => .slice q_2 r_1.length q_3) (fun ((q_2, q_3) : (Option Addr) × Nat) => [row (Kd.int .i64) 3 (.slice q_2 r_1.length q_3) r_1])) := by
  unfold spec_plSum.f at h
  obtain rfl := (R0 ws (KeptB.refl _ _)).1
  obtain rfl := (R1 ws (KeptB.refl _ _)).1
  refine enter Try.func221 rfl Try.ntmps221 rfl hF ?_
  refine c_seq ?_
  refine za0 ?_
  refine o_q rfl rfl (q_asg rfl) ?_
  refine o_end ?_
  refine za1 ?_
  refine c_seq ?_
  refine za0 ?_
  refine o_q rfl rfl (q_asg rfl) ?_
  refine o_end ?_
  refine za1 ?_
  refine c_seq ?_
  refine c_seq ?_
  refine za0 ?_
  refine o_q rfl rfl (za3 rfl) ?_
  refine o_q rfl rfl (q_len Try.underlying25 rfl) ?_
  refine o_q rfl rfl (za3 rfl) ?_
  refine o_end ?_
  refine za1 ?_
  refine zal ?_
  refine c_nil (Kd.int .i64) 3 ?_
  refine za9 h (fun o14 hl13 hR12 => ?_) rfl
  clear h
  refine c_fact (p := l0.length ≤ 9223372036854775807) (fun w h => (R0.now Z h).2.1) (fun hm11 => ?_)
  refine zax (σ := (List Int) × (List Int) × Int × (Option Addr) × Nat) (fun k9 ((ys8, l3, i6, A4, c5) : (List Int) × (List Int) × Int × (Option Addr) × Nat) => Rg l0 i6 ys8 ∧ ys8.length = k9 ∧ spec_plSum.l0 l1 ys8 l3 i6 = some o14) [5, 6, 9, 10, 11, 12, 13, 14, 15, 16, 17, 18, 19, 20, 21, 22, 23, 24, 25] (fun ((ys8, l3, i6, A4, c5) : (List Int) × (List Int) × Int × (Option Addr) × Nat) => [(5, .slice A4 l3.length c5), (9, .int .i64 i6)]) (fun ((ys8, l3, i6, A4, c5) : (List Int) × (List Int) × Int × (Option Addr) × Nat) => [row (Kd.int .i64) 3 (.slice A4 l3.length c5) l3]) l0.length (l0, ([] : List Int), 0, none, 0) ⟨Rg.start _, rfl, hl13⟩ ⟨rfl, rfl, trivial⟩ (fun w h => h) ?_
  refine fun k9 => cur5 (listC (fun l3 i6 A4 c5 U15 hJ_ => ?_) (fun y7 ys8 l3 i6 A4 c5 U15 hJ_ => ?_))
  · skip
    clear hl13
    have hr10 := hJ_.1; have hk16 := hJ_.2.1; have h := hJ_.2.2; clear hJ_
    replace h : spec_plSum.l0 l1 [] l3 i6 = some o14 := h
    rw [spec_plSum.l0] at h
    refine c_seq ?_
    refine za0 ?_
    refine o_q rfl rfl (q_lss rfl rfl) ?_
    refine o_end ?_
    refine za1 ?_
    refine c_seq ?_
    refine c_false (congrArg Value.bool hr10.ge) ?_
    refine c_exit ?_
    refine za8 ?_
    refine za8 ?_
    have e_ := Option.some.inj h; replace h := hR12; rw [← e_] at h; clear e_
    refine x_hit ?_
    refine za1 ?_
    refine c_seq ?_
    refine za0 ?_
    refine o_q rfl rfl (za3 rfl) ?_
    refine o_q rfl rfl (q_asg rfl) ?_
    refine o_end ?_
    refine za1 ?_
    refine c_ret ?_
    have e0_ := Option.some.inj h; clear h
    subst e0_
    exact x_r1 (A4, c5) Try.results221 (zaf rfl) rfl (fun w h => za7 [0] (by decide) rfl w h)
  · skip
    clear hl13
    have hr10 := hJ_.1; have hk16 := hJ_.2.1; have h := hJ_.2.2; clear hJ_
    replace h : spec_plSum.l0 l1 (y7 :: ys8) l3 i6 = some o14 := h
    rw [spec_plSum.l0] at h
    refine c_seq ?_
    refine za0 ?_
    refine o_q rfl rfl (q_lss rfl rfl) ?_
    refine o_end ?_
    refine za1 ?_
    refine c_seq ?_
    refine zay (congrArg Value.bool hr10.lt) ?_
    refine zao ?_
    refine za1 ?_
    refine c_seq ?_
    refine zal ?_
    refine c_seq ?_
    refine za0 ?_
    refine o_q rfl rfl (za3 rfl) ?_
    refine o_q rfl rfl (q_asg rfl) ?_
    refine o_end ?_
    refine za1 ?_
    refine a_startS (ds := []) [none] MO rfl ?_
    refine za6 0 rfl rfl rfl (by kernel_rfl) (fun _ _ _ h => h) (za3 rfl) ?_
    refine za6 1 rfl rfl rfl (by kernel_rfl) (fun _ _ _ h => h) (za3 rfl) ?_
    refine za6 2 rfl rfl rfl (by kernel_rfl) (fun _ _ _ h => h) (za3 rfl) ?_
    refine a_fact (p := Sh A0 l0.length l0.length) (fun w h => f_sh (dk := (Kd.int .i64)) h (fun w h => R0.now Z h)) (fun hq17 => ?_)
    refine za6 3 rfl rfl rfl (by kernel_rfl) (fun _ _ _ h => h) (q_ix Try.underlying25 Z3 rfl rfl hq17 hr10.get) ?_
    refine a_take 4 rfl rfl rfl (by kernel_rfl) (fun _ _ _ h => h) (fun w h => zab [none] (by decide) w h rfl) (q_lde (off := 0) Y3 rfl rfl (fun w h => R0.now Z h) hr10.get (fun _ _ h => h) rfl) ?_
    refine za6 5 rfl rfl rfl (by kernel_rfl) (fun _ _ _ h => h) (za3 rfl) ?_
    refine za6 6 rfl rfl rfl (by kernel_rfl) (fun _ _ _ h => h) (za3 rfl) ?_
    refine a_fact (p := Sh A1 l1.length l1.length) (fun w h => f_sh (dk := (Kd.int .i64)) h (fun w h => R1.now Z h)) (fun hq18 => ?_)
    refine za9 h (fun y20 hg19 h => ?_) rfl
    refine za6 7 rfl rfl rfl (by kernel_rfl) (fun _ _ _ h => h) (q_ix Try.underlying25 Z3 rfl rfl hq18 hg19) ?_
    refine a_take 8 rfl rfl rfl (by kernel_rfl) (fun _ _ _ h => h) (fun w h => zab [none] (by decide) w h rfl) (q_lde (off := 0) Y3 rfl rfl (fun w h => R1.now Z h) hg19 (fun _ _ h => h) rfl) ?_
    refine za6 9 rfl rfl rfl (by kernel_rfl) (fun _ _ _ h => h) (q_add64 rfl rfl) ?_
    refine za9 h (fun i22 hx21 h => ?_) rfl
    refine a_one 10 rfl rfl (by kernel_rfl) rfl (zac 0 Z Try.func124 N124 rfl rfl rfl (fun w P1 hF hB hS hT => spec_l1Least.calls (w64 (y7 + y20)) 1000001 hB hF _ hx21)) (fun s w h => zab [none] (by decide) w h rfl) (fun _ => ?_)
    refine a_one 11 rfl rfl (by kernel_rfl) rfl (e_lit (vs := [(0, .int .i64 i22)]) (cs := [.int .i64 i22]) (Kd.int .i64) ([i22] : List Int) Try.underlying25 I3 (by decide) rfl (by decide) rfl rfl (fun _ _ => Kd.zar _)) (fun s w h => zab [none] (by decide) w h rfl) (cur2 (fun A23 c24 => ?_))
    refine za9 h (fun l26 ha27 h => ?_) rfl
    refine a_one 12 rfl rfl (by kernel_rfl) rfl (e_app (i := 1) (j := 0) Try.underlying25 I3 rfl (by decide) (by decide) rfl rfl rfl rfl rfl ha27) (fun s w h => zab [none] (by decide) w h rfl) (cur2 (fun A28 c29 => ?_))
    refine za6 13 rfl rfl rfl (by kernel_rfl) (fun _ _ _ h => h) (q_asg rfl) ?_
    refine zaw (by kernel_rfl) ?_
    refine zan ?_
    refine za1 ?_
    refine za0 ?_
    refine o_q rfl rfl (q_up rfl rfl (hr10.up hm11)) ?_
    refine o_q rfl rfl (za3 rfl) ?_
    refine o_end ?_
    refine zam ys8.length (ys8, l26, i6 + 1, A28, c29) (by rw [← hk16]; exact Nat.lt_succ_self _) ⟨hr10.step, rfl, h⟩ ⟨rfl, rfl, trivial⟩ (fun w h => za7 [1] (by decide) rfl w h) ?_
    repeat (first | exact zad _ _ | refine zai rfl ?_ | refine zae rfl ?_ | refine zaj rfl ?_)

/-! ### loop.example/g01098/spec.plExponents: function 183 -/
def spec_plExponents.l1 : (List SStep) → (List (List Int)) → Int → Option (List (List Int))
  | [], l39, i43 => some l39
  | y44 :: ys45, l39, i43 => (gt l39 y44.f0).bind fun y300 => (gt l39 y44.f1).bind fun y599 => (spec_plSum.f y300 y599).bind fun l719 => (ap l39 ([l719] : List (List Int))).bind fun l838 => spec_plExponents.l1 ys45 l838 (i43 + 1)
def spec_plExponents.l0 (a0_0 : Int) : Nat → (List (List Int)) → Int → Option (List (List Int))
  | 0, _, _ => none
  | k11 + 1, l4, i8 => if i8 < a0_0 then ((mk0 a0_0 (0 : Int)).bind fun l20 => (gt l20 i8).bind fun y27 => (st l20 i8 1).bind fun l28 => (ap l4 ([l28] : List (List Int))).bind fun l34 => spec_plExponents.l0 a0_0 k11 l34 (w64 (i8 + 1))) else (some l4)
def spec_plExponents.f (k : Nat) (a0_0 : Int) (l0_1 : List SStep) (l0_2 : List Int) : Option (List (List Int)) := (spec_plExponents.l0 a0_0 k ([] : List (List Int)) 0).bind fun l4 => (spec_plExponents.l1 l0_1 l4 0).bind fun l39 => some l39
set_option maxHeartbeats 600000 in
set_option maxRecDepth 100000 in
theorem spec_plExponents.calls (k : Nat) {w0 ws : World} {P0 : Nat → Prop} (a0_0 : Int) (A0_1 : Option Addr) (c0_1 : Nat) (n0_1 : Nat) (l0_1 : List SStep) (A0_2 : Option Addr) (c0_2 : Nat) (n0_2 : Nat) (l0_2 : List Int) (Z : Below w0.heap.size w0 ws) (hF : Fr w0 ws P0 [] ws) (R0_1 : Stable ws P0 (fun w => Kd.C kStep w A0_1 n0_1 l0_1)) (hc0_1 : n0_1 ≤ c0_1) (R0_2 : Stable ws P0 (fun w => Kd.C (Kd.int .i64) w A0_2 n0_2 l0_2)) (hc0_2 : n0_2 ≤ c0_2) (r_1 : List (List Int)) (h : spec_plExponents.f k a0_0 l0_1 l0_2 = some r_1) :
    Calls Try.prog 183 #[.agg #[.int .i64 a0_0, .slice A0_1 n0_1 c0_1, .slice A0_2 n0_2 c0_2]] ws (Post1 w0 ws P0 (fun ((q_2, q_3, q_4) : (Option Addr) × Nat × Hd) => .slice q_2 r_1.length q_3) (fun ((q_2, q_3, q_4) : (Option Addr) × Nat × Hd) => [row (gk 3 (Kd.int .i64)) 25 (.slice q_2 r_1.length q_3) (zp q_4 r_1)])) := by
  unfold spec_plExponents.f at h
  obtain rfl := (R0_1 ws (KeptB.refl _ _)).1
  obtain rfl := (R0_2 ws (KeptB.refl _ _)).1
  refine enter Try.func183 rfl Try.ntmps183 rfl hF ?_
  refine c_seq ?_
  refine za0 ?_
  refine o_e rfl (e_box rfl) (fun g1 => ?_)
  refine o_q rfl rfl (q_asg rfl) ?_
  refine o_end ?_
  refine za1 ?_
  refine c_seq ?_
  refine za0 ?_
  refine o_q rfl rfl (q_asg rfl) ?_
  refine o_end ?_
  refine za1 ?_
  refine c_seq ?_
  refine c_seq ?_
  refine za0 ?_
  refine o_q rfl rfl (q_asg rfl) ?_
  refine o_end ?_
  refine za1 ?_
  refine zal ?_
  refine c_nil (gk 3 (Kd.int .i64)) 25 ?_
  refine za9 h (fun o16 hl15 hR14 => ?_) rfl
  clear h
  refine zax (σ := (List (List Int)) × Int × (Option Addr) × Nat × Hd) (fun k11 ((l4, i8, A5, c6, H7) : (List (List Int)) × Int × (Option Addr) × Nat × Hd) => spec_plExponents.l0 a0_0 k11 l4 i8 = some o16) [3, 4, 5, 8, 9, 10, 11, 12, 13, 14, 15, 16, 17, 18, 19, 20, 21, 22, 23] (fun ((l4, i8, A5, c6, H7) : (List (List Int)) × Int × (Option Addr) × Nat × Hd) => [(3, .slice A5 l4.length c6), (4, .int .i64 i8)]) (fun ((l4, i8, A5, c6, H7) : (List (List Int)) × Int × (Option Addr) × Nat × Hd) => [row (gk 3 (Kd.int .i64)) 25 (.slice A5 l4.length c6) (zp H7 l4), box g1 27 #[.int .i64 a0_0, .slice A0_1 l0_1.length c0_1, .slice A0_2 l0_2.length c0_2]]) k (([] : List (List Int)), 0, none, 0, ([] : Hd)) hl15 ⟨rfl, rfl, trivial⟩ (fun w h => h) ?_
  refine natC (cur5 (fun l4 i8 A5 c6 H7 => fun U17 hJ_ => ?_)) (fun k11 => (cur5 (fun l4 i8 A5 c6 H7 => fun U17 hJ_ => ?_)))
  · skip
    replace hJ_ : spec_plExponents.l0 a0_0 0 l4 i8 = some o16 := hJ_
    rw [spec_plExponents.l0] at hJ_
    exact noneE hJ_
  · skip
    clear hl15
    have h := hJ_; clear hJ_
    replace h : spec_plExponents.l0 a0_0 (k11 + 1) l4 i8 = some o16 := h
    rw [spec_plExponents.l0] at h
    refine c_seq ?_
    refine c_seq ?_
    refine za0 ?_
    refine o_q rfl rfl (za3 rfl) ?_
    refine o_q rfl rfl (q_f F27_0 rfl) ?_
    refine o_q rfl rfl (q_ldb Y3 rfl (fun w h => h.zaa (i := 1) rfl) rfl) ?_
    refine o_q rfl rfl (q_lss rfl rfl) ?_
    refine o_end ?_
    refine za1 ?_
    refine zas _ rfl (fun hb19 => ?_) (fun hb19 => ?_)
    · skip
      replace h := br_t hb19 h
      refine zao ?_
      refine za1 ?_
      refine c_seq ?_
      refine zal ?_
      refine c_seq ?_
      refine za0 ?_
      refine o_q rfl rfl (q_f F27_0 rfl) ?_
      refine o_q rfl rfl (q_ldb Y3 rfl (fun w h => h.zaa (i := 1) rfl) rfl) ?_
      refine za9 h (fun l20 hm21 h => ?_) rfl
      refine o_e rfl (e_make (Kd.int .i64) (0 : Int) Try.underlying25 I3 rfl (by decide) (by decide) (fun _ _ => rfl) rfl rfl hm21) (cur2 (fun A22 c23 => ?_))
      refine o_q rfl rfl (q_asg rfl) ?_
      refine o_end ?_
      refine za1 ?_
      refine c_seq ?_
      refine za0 ?_
      refine o_q rfl rfl (za3 rfl) ?_
      refine o_q rfl rfl (za3 rfl) ?_
      refine o_fact (p := Sh A22 l20.length l20.length) (fun w h => f_sh (dk := (Kd.int .i64)) h (fun w h => h.zb0 (i := 0) rfl)) (fun hq25 => ?_)
      refine za9 h (fun y27 hg26 h => ?_) rfl
      refine o_q rfl rfl (q_ix Try.underlying25 Z3 rfl rfl hq25 hg26) ?_
      refine za9 h (fun l28 hs29 h => ?_) rfl
      refine o_e rfl (e_set (i := 0) rfl rfl rfl Z3 hs29) (fun _ => ?_)
      refine o_end ?_
      refine za1 ?_
      refine za0 ?_
      refine o_q rfl rfl (za3 rfl) ?_
      refine o_q rfl rfl (za3 rfl) ?_
      refine o_e rfl (e_litG (j := 0) (ue := 3) (dk := (Kd.int .i64)) (ys := l28) Try.underlying60 I25 rfl rfl rfl) (cur3 (fun A30 c31 H33 => ?_))
      refine za9 h (fun l34 ha35 h => ?_) rfl
      refine o_e rfl (e_appG (i := 2) (j := 0) Try.underlying60 I25 rfl (by decide) rfl rfl rfl rfl rfl ha35) (cur3 (fun A36 c37 H38 => ?_))
      refine o_q rfl rfl (q_asg rfl) ?_
      refine o_end ?_
      refine zan ?_
      refine za1 ?_
      refine za0 ?_
      refine o_q rfl rfl (za3 rfl) ?_
      refine o_q rfl rfl (q_add64 rfl rfl) ?_
      refine o_q rfl rfl (q_asg rfl) ?_
      refine o_end ?_
      refine zam k11 (l34, w64 (i8 + 1), A36, c37, H38) (Nat.lt_succ_self _) h ⟨rfl, rfl, trivial⟩ (fun w h => za7 [2, 3] (by decide) rfl w h) ?_
      repeat (first | exact zad _ _ | refine zai rfl ?_ | refine zae rfl ?_ | refine zaj rfl ?_)
    · skip
      replace h := br_f hb19 h
      refine c_exit ?_
      refine za8 ?_
      refine za8 ?_
      have e_ := Option.some.inj h; replace h := hR14; rw [← e_] at h; clear e_
      refine x_hit ?_
      refine za1 ?_
      refine c_seq ?_
      refine c_seq ?_
      refine za0 ?_
      refine o_q rfl rfl (q_f F27_1 rfl) ?_
      refine o_q rfl rfl (q_ldb Y24 rfl (fun w h => h.zaa (i := 1) rfl) rfl) ?_
      refine o_q rfl rfl (q_len Try.underlying24 rfl) ?_
      refine o_q rfl rfl (za3 rfl) ?_
      refine o_end ?_
      refine za1 ?_
      refine zal ?_
      refine za9 h (fun o51 hl50 hR49 => ?_) rfl
      clear h
      refine c_fact (p := l0_1.length ≤ 9223372036854775807) (fun w h => (R0_1.now Z h).2.1) (fun hm48 => ?_)
      refine zax (σ := (List SStep) × (List (List Int)) × Int × (Option Addr) × Nat × Hd) (fun k46 ((ys45, l39, i43, A40, c41, H42) : (List SStep) × (List (List Int)) × Int × (Option Addr) × Nat × Hd) => Rg l0_1 i43 ys45 ∧ ys45.length = k46 ∧ spec_plExponents.l1 ys45 l39 i43 = some o51) [3, 7, 27, 28, 29, 30, 31, 32, 33, 34, 35, 36, 37, 38, 39, 40, 41, 42, 43, 44, 45] (fun ((ys45, l39, i43, A40, c41, H42) : (List SStep) × (List (List Int)) × Int × (Option Addr) × Nat × Hd) => [(3, .slice A40 l39.length c41), (27, .int .i64 i43)]) (fun ((ys45, l39, i43, A40, c41, H42) : (List SStep) × (List (List Int)) × Int × (Option Addr) × Nat × Hd) => [row (gk 3 (Kd.int .i64)) 25 (.slice A40 l39.length c41) (zp H42 l39), box g1 27 #[.int .i64 a0_0, .slice A0_1 l0_1.length c0_1, .slice A0_2 l0_2.length c0_2]]) l0_1.length (l0_1, l4, 0, A5, c6, H7) ⟨Rg.start _, rfl, hl50⟩ ⟨rfl, rfl, trivial⟩ (fun w h => h) ?_
      refine fun k46 => cur6 (listC (fun l39 i43 A40 c41 H42 U52 hJ_ => ?_) (fun y44 ys45 l39 i43 A40 c41 H42 U52 hJ_ => ?_))
      · skip
        clear hl50
        have hr47 := hJ_.1; have hk53 := hJ_.2.1; have h := hJ_.2.2; clear hJ_
        replace h : spec_plExponents.l1 [] l39 i43 = some o51 := h
        rw [spec_plExponents.l1] at h
        refine c_seq ?_
        refine za0 ?_
        refine o_q rfl rfl (q_lss rfl rfl) ?_
        refine o_end ?_
        refine za1 ?_
        refine c_seq ?_
        refine c_false (congrArg Value.bool hr47.ge) ?_
        refine c_exit ?_
        refine za8 ?_
        refine za8 ?_
        have e_ := Option.some.inj h; replace h := hR49; rw [← e_] at h; clear e_
        refine x_hit ?_
        refine za1 ?_
        refine c_seq ?_
        refine za0 ?_
        refine o_q rfl rfl (za3 rfl) ?_
        refine o_q rfl rfl (q_asg rfl) ?_
        refine o_end ?_
        refine za1 ?_
        refine c_ret ?_
        have e0_ := Option.some.inj h; clear h
        subst e0_
        exact x_r1 (A40, c41, H42) Try.results183 (zaf rfl) rfl (fun w h => za7 [0] (by decide) rfl w h)
      · skip
        clear hl50
        have hr47 := hJ_.1; have hk53 := hJ_.2.1; have h := hJ_.2.2; clear hJ_
        replace h : spec_plExponents.l1 (y44 :: ys45) l39 i43 = some o51 := h
        rw [spec_plExponents.l1] at h
        refine c_seq ?_
        refine za0 ?_
        refine o_q rfl rfl (q_lss rfl rfl) ?_
        refine o_end ?_
        refine za1 ?_
        refine c_seq ?_
        refine zay (congrArg Value.bool hr47.lt) ?_
        refine zao ?_
        refine za1 ?_
        refine c_seq ?_
        refine zal ?_
        refine c_seq ?_
        refine za0 ?_
        refine o_fact (p := Sh A0_1 l0_1.length l0_1.length) (fun w h => f_sh (dk := kStep) h (fun w h => R0_1.now Z h)) (fun hq54 => ?_)
        refine o_q rfl rfl (q_ix Try.underlying24 Z89 rfl rfl hq54 hr47.get) ?_
        refine o_q rfl rfl (q_ldE G89 Z89 rfl rfl (fun w h => R0_1.now Z h) hr47.get (fun _ _ h => h) rfl) ?_
        refine o_e rfl (e_alloc V89 rfl) (fun g55 => ?_)
        refine o_e rfl (zau (i := 0) rfl rfl rfl Z89 rfl rfl) (fun _ => ?_)
        refine o_end ?_
        refine za1 ?_
        refine za9 h (fun y300 hg299 h => ?_) rfl
        refine za9 h (fun y599 hg598 h => ?_) rfl
        refine za9 h (fun l719 hx718 h => ?_) rfl
        refine za9 h (fun l838 ha839 h => ?_) rfl
        refine a_startS (ds := []) [some 0, none, some 2] MO rfl ?_
        refine za6 0 rfl rfl rfl (by kernel_rfl) (fun _ _ _ h => h) (za3 rfl) ?_
        refine za6 1 rfl rfl rfl (by kernel_rfl) (fun _ _ _ h => h) (za3 rfl) ?_
        refine za6 2 rfl rfl rfl (by kernel_rfl) (fun _ _ _ h => h) (q_f F89_0 rfl) ?_
        refine a_take 3 rfl rfl rfl (by kernel_rfl) (fun _ _ _ h => h) (fun w h => zab [some 0, none, some 2] (by decide) w h rfl) (q_ldb Y3 rfl (fun w h => h.zaa (i := 0) rfl) rfl) ?_
        refine a_fact (p := Sh A40 l39.length (zp H42 l39).length) (fun w h => f_sh (dk := (gk 3 (Kd.int .i64))) h (fun w h => h.zb0 (i := 1) rfl)) (fun hq298 => ?_)
        refine za6 4 rfl rfl rfl (by kernel_rfl) (fun _ _ _ h => h) (q_ix Try.underlying60 Z25 rfl rfl hq298 (gt_zp hg299)) ?_
        refine za6 6 rfl rfl rfl (by kernel_rfl) (fun _ _ _ h => h) (za3 rfl) ?_
        refine za6 7 rfl rfl rfl (by kernel_rfl) (fun _ _ _ h => h) (q_f F89_1 rfl) ?_
        refine a_take 8 rfl rfl rfl (by kernel_rfl) (fun _ _ _ h => h) (fun w h => zab [some 0, none, some 2] (by decide) w h rfl) (q_ldb Y3 rfl (fun w h => h.zaa (i := 0) rfl) rfl) ?_
        refine za6 9 rfl rfl rfl (by kernel_rfl) (fun _ _ _ h => h) (q_ix Try.underlying60 Z25 rfl rfl hq298 (gt_zp hg598)) ?_
        refine a_fact (p := y300.length ≤ hC H42 y44.f0) (fun w h => (K_in (h.zb0 (i := 1) rfl) hg299).1) (fun hc358 => ?_)
        refine a_fact (p := y599.length ≤ hC H42 y44.f1) (fun w h => (K_in (h.zb0 (i := 1) rfl) hg598).1) (fun hc658 => ?_)
        refine a_two 5 10 rfl rfl rfl rfl (by kernel_rfl) rfl rfl (ev_q rfl (q_lde (off := 0) Y25 rfl rfl (fun w h => h.zb0 (i := 1) rfl) (gt_zp hg299) (fun _ _ h => h.1) rfl)) (fun s w h => zab [some 0, none, some 2] (by decide) w h rfl) (ev_q rfl (q_lde (off := 0) Y25 rfl rfl (fun w h => h.zb0 (i := 1) rfl) (gt_zp hg598) (fun _ _ h => h.1) rfl)) (fun s w h => zab [some 0, none, some 2] (by decide) w h rfl) (fun _ => ?_) (fun _ => ?_)
        · skip
          refine a_fact (p := y599.length ≤ hC H42 y44.f1) (fun w h => (K_in (h.zb0 (i := 1) rfl) hg598).1) (fun hc658 => ?_)
          refine a_one 10 rfl rfl (by kernel_rfl) rfl (ev_q rfl (q_lde (off := 0) Y25 rfl rfl (fun w h => h.zb0 (i := 1) rfl) (gt_zp hg598) (fun _ _ h => h.1) rfl)) (fun s w h => zab [some 0, none, some 2] (by decide) w h rfl) (fun _ => ?_)
          refine a_one 11 rfl rfl (by kernel_rfl) rfl (zac 0 Z Try.func221 N221 rfl rfl rfl (fun w P1 hF hB hS hT => spec_plSum.calls (hA H42 y44.f0) (hC H42 y44.f0) y300.length y300 (hA H42 y44.f1) (hC H42 y44.f1) y599.length y599 hB hF (stab_in (hT 1 _ rfl).row hg299) hc358 (stab_in (hT 1 _ rfl).row hg598) hc658 _ hx718)) (fun s w h => zab [some 1, none, some 3] (by decide) w h rfl) (cur2 (fun A720 c721 => ?_))
          refine a_one 12 rfl rfl (by kernel_rfl) rfl (e_litG (j := 0) (ue := 3) (dk := (Kd.int .i64)) (ys := l719) Try.underlying60 I25 rfl rfl rfl) (fun s w h => zab [some 2, none, some 4] (by decide) w h rfl) (cur3 (fun A778 c779 H781 => ?_))
          refine a_one 13 rfl rfl (by kernel_rfl) rfl (e_appG (i := 3) (j := 0) Try.underlying60 I25 rfl (by decide) rfl rfl rfl rfl rfl ha839) (fun s w h => zab [some 2, none, some 4] (by decide) w h rfl) (cur3 (fun A840 c841 H842 => ?_))
          refine za6 14 rfl rfl rfl (by kernel_rfl) (fun _ _ _ h => h) (q_asg rfl) ?_
          refine zaw (by kernel_rfl) ?_
          refine zan ?_
          refine za1 ?_
          refine za0 ?_
          refine o_q rfl rfl (q_up rfl rfl (hr47.up hm48)) ?_
          refine o_q rfl rfl (za3 rfl) ?_
          refine o_end ?_
          refine zam ys45.length (ys45, l838, i43 + 1, A840, c841, H842) (by rw [← hk53]; exact Nat.lt_succ_self _) ⟨hr47.step, rfl, h⟩ ⟨rfl, rfl, trivial⟩ (fun w h => za7 [3, 4] (by decide) rfl w h) ?_
          repeat (first | exact zad _ _ | refine zai rfl ?_ | refine zae rfl ?_ | refine zaj rfl ?_)
        · skip
          refine a_fact (p := y300.length ≤ hC H42 y44.f0) (fun w h => (K_in (h.zb0 (i := 1) rfl) hg299).1) (fun hc358 => ?_)
          refine a_one 5 rfl rfl (by kernel_rfl) rfl (ev_q rfl (q_lde (off := 0) Y25 rfl rfl (fun w h => h.zb0 (i := 1) rfl) (gt_zp hg299) (fun _ _ h => h.1) rfl)) (fun s w h => zab [some 0, none, some 2] (by decide) w h rfl) (fun _ => ?_)
          refine a_one 11 rfl rfl (by kernel_rfl) rfl (zac 0 Z Try.func221 N221 rfl rfl rfl (fun w P1 hF hB hS hT => spec_plSum.calls (hA H42 y44.f0) (hC H42 y44.f0) y300.length y300 (hA H42 y44.f1) (hC H42 y44.f1) y599.length y599 hB hF (stab_in (hT 1 _ rfl).row hg299) hc358 (stab_in (hT 1 _ rfl).row hg598) hc658 _ hx718)) (fun s w h => zab [some 1, none, some 3] (by decide) w h rfl) (cur2 (fun A720 c721 => ?_))
          refine a_one 12 rfl rfl (by kernel_rfl) rfl (e_litG (j := 0) (ue := 3) (dk := (Kd.int .i64)) (ys := l719) Try.underlying60 I25 rfl rfl rfl) (fun s w h => zab [some 2, none, some 4] (by decide) w h rfl) (cur3 (fun A778 c779 H781 => ?_))
          refine a_one 13 rfl rfl (by kernel_rfl) rfl (e_appG (i := 3) (j := 0) Try.underlying60 I25 rfl (by decide) rfl rfl rfl rfl rfl ha839) (fun s w h => zab [some 2, none, some 4] (by decide) w h rfl) (cur3 (fun A840 c841 H842 => ?_))
          refine za6 14 rfl rfl rfl (by kernel_rfl) (fun _ _ _ h => h) (q_asg rfl) ?_
          refine zaw (by kernel_rfl) ?_
          refine zan ?_
          refine za1 ?_
          refine za0 ?_
          refine o_q rfl rfl (q_up rfl rfl (hr47.up hm48)) ?_
          refine o_q rfl rfl (za3 rfl) ?_
          refine o_end ?_
          refine zam ys45.length (ys45, l838, i43 + 1, A840, c841, H842) (by rw [← hk53]; exact Nat.lt_succ_self _) ⟨hr47.step, rfl, h⟩ ⟨rfl, rfl, trivial⟩ (fun w h => za7 [3, 4] (by decide) rfl w h) ?_
          repeat (first | exact zad _ _ | refine zai rfl ?_ | refine zae rfl ?_ | refine zaj rfl ?_)

/-! ### loop.example/g01098/spec.l1All: function 133 -/
def spec_l1All.l0 (a1 : Int) (a2 : Int) : (List Int) → Int → Option ((Bool) ⊕ (Unit))
  | [], i1 => some (.inr ())
  | y2 :: ys3, i1 => (spec_l1In.f y2 a1 a2).bind fun b14 => if b14 = true then (spec_l1All.l0 a1 a2 ys3 (i1 + 1)) else (some (.inl false))
def spec_l1All.f (l0 : List Int) (a1 : Int) (a2 : Int) : Option Bool := (spec_l1All.l0 a1 a2 l0 0).bind fun o_ => match o_ with | .inl r_ => some r_ | .inr _ => some true
set_option maxHeartbeats 600000 in
set_option maxRecDepth 100000 in
theorem spec_l1All.calls {w0 ws : World} {P0 : Nat → Prop} (A0 : Option Addr) (c0 : Nat) (n0 : Nat) (l0 : List Int) (a1 : Int) (a2 : Int) (Z : Below w0.heap.size w0 ws) (hF : Fr w0 ws P0 [] ws) (R0 : Stable ws P0 (fun w => Kd.C (Kd.int .i64) w A0 n0 l0)) (hc0 : n0 ≤ c0) (r_1 : Bool) (h : spec_l1All.f l0 a1 a2 = some r_1) :
    Calls Try.prog 133 #[.slice A0 n0 c0, .int .i64 a1, .int .i64 a2] ws (Post1 w0 ws P0 (fun (_ : Unit) => .bool r_1) (fun (_ : Unit) => [])) := by
  unfold spec_l1All.f at h
  obtain rfl := (R0 ws (KeptB.refl _ _)).1
  refine enter Try.func133 rfl Try.ntmps133 rfl hF ?_
  refine c_seq ?_
  refine za0 ?_
  refine o_q rfl rfl (q_asg rfl) ?_
  refine o_end ?_
  refine za1 ?_
  refine c_seq ?_
  refine c_seq ?_
  refine za0 ?_
  refine o_q rfl rfl (za3 rfl) ?_
  refine o_q rfl rfl (q_len Try.underlying25 rfl) ?_
  refine o_q rfl rfl (za3 rfl) ?_
  refine o_end ?_
  refine za1 ?_
  refine zal ?_
  refine za9 h (fun o9 hl8 hR7 => ?_) rfl
  clear h
  refine c_fact (p := l0.length ≤ 9223372036854775807) (fun w h => (R0.now Z h).2.1) (fun hm6 => ?_)
  refine zax (σ := (List Int) × Int) (fun k4 ((ys3, i1) : (List Int) × Int) => Rg l0 i1 ys3 ∧ ys3.length = k4 ∧ spec_l1All.l0 a1 a2 ys3 i1 = some o9) [6, 8, 11, 12, 13, 14, 15, 16, 17, 18, 19, 20] (fun ((ys3, i1) : (List Int) × Int) => [(11, .int .i64 i1)]) (fun ((ys3, i1) : (List Int) × Int) => []) l0.length (l0, 0) ⟨Rg.start _, rfl, hl8⟩ ⟨rfl, trivial⟩ (fun w h => h) ?_
  refine fun k4 => cur2 (listC (fun i1 U10 hJ_ => ?_) (fun y2 ys3 i1 U10 hJ_ => ?_))
  · skip
    clear hl8
    have hr5 := hJ_.1; have hk11 := hJ_.2.1; have h := hJ_.2.2; clear hJ_
    replace h : spec_l1All.l0 a1 a2 [] i1 = some o9 := h
    rw [spec_l1All.l0] at h
    refine c_seq ?_
    refine za0 ?_
    refine o_q rfl rfl (q_lss rfl rfl) ?_
    refine o_end ?_
    refine za1 ?_
    refine c_seq ?_
    refine c_false (congrArg Value.bool hr5.ge) ?_
    refine c_exit ?_
    refine za8 ?_
    refine za8 ?_
    have e_ := Option.some.inj h; replace h := hR7; rw [← e_] at h; clear e_
    refine x_hit ?_
    refine za1 ?_
    refine c_seq ?_
    refine za0 ?_
    refine o_q rfl rfl (q_asg rfl) ?_
    refine o_end ?_
    refine za1 ?_
    refine c_ret ?_
    have e0_ := Option.some.inj h; clear h
    subst e0_
    exact x_r1 () Try.results133 (zaf rfl) rfl (fun w h => za7 [] (by decide) rfl w h)
  · skip
    clear hl8
    have hr5 := hJ_.1; have hk11 := hJ_.2.1; have h := hJ_.2.2; clear hJ_
    replace h : spec_l1All.l0 a1 a2 (y2 :: ys3) i1 = some o9 := h
    rw [spec_l1All.l0] at h
    refine c_seq ?_
    refine za0 ?_
    refine o_q rfl rfl (q_lss rfl rfl) ?_
    refine o_end ?_
    refine za1 ?_
    refine c_seq ?_
    refine zay (congrArg Value.bool hr5.lt) ?_
    refine zao ?_
    refine za1 ?_
    refine c_seq ?_
    refine zal ?_
    refine c_seq ?_
    refine za0 ?_
    refine o_fact (p := Sh A0 l0.length l0.length) (fun w h => f_sh (dk := (Kd.int .i64)) h (fun w h => R0.now Z h)) (fun hq12 => ?_)
    refine o_q rfl rfl (q_ix Try.underlying25 Z3 rfl rfl hq12 hr5.get) ?_
    refine o_q rfl rfl (q_lde (off := 0) Y3 rfl rfl (fun w h => R0.now Z h) hr5.get (fun _ _ h => h) rfl) ?_
    refine o_q rfl rfl (q_asg rfl) ?_
    refine o_end ?_
    refine za1 ?_
    refine c_seq ?_
    refine za0 ?_
    refine o_q rfl rfl (za3 rfl) ?_
    refine o_q rfl rfl (za3 rfl) ?_
    refine o_q rfl rfl (za3 rfl) ?_
    refine za9 h (fun b14 hx13 h => ?_) rfl
    refine o_e rfl (zac 0 Z Try.func94 N94 rfl rfl rfl (fun w P1 hF hB hS hT => spec_l1In.calls y2 a1 a2 hB hF _ hx13)) (fun _ => ?_)
    refine o_q rfl rfl (q_not rfl) ?_
    refine o_end ?_
    refine za1 ?_
    refine zas _ rfl (fun hb15 => ?_) (fun hb15 => ?_)
    · replace hb15 := nt_t hb15
      replace h := bb_f hb15 h
      refine c_seq ?_
      refine za0 ?_
      refine o_q rfl rfl (q_asg rfl) ?_
      refine o_end ?_
      refine za1 ?_
      refine c_ret ?_
      refine zah ?_
      refine za5 ?_
      refine za5 ?_
      have e_ := Option.some.inj h; replace h := hR7; rw [← e_] at h; clear e_
      refine zah ?_
      refine za5 ?_
      have e0_ := Option.some.inj h; clear h
      subst e0_
      exact x_r1 () Try.results133 (zaf rfl) rfl (fun w h => za7 [] (by decide) rfl w h)
    · replace hb15 := nt_f hb15
      replace h := bb_t hb15 h
      refine zao ?_
      refine zan ?_
      refine za1 ?_
      refine za0 ?_
      refine o_q rfl rfl (q_up rfl rfl (hr5.up hm6)) ?_
      refine o_q rfl rfl (za3 rfl) ?_
      refine o_end ?_
      refine zam ys3.length (ys3, i1 + 1) (by rw [← hk11]; exact Nat.lt_succ_self _) ⟨hr5.step, rfl, h⟩ ⟨rfl, trivial⟩ (fun w h => za7 [] (by decide) rfl w h) ?_
      repeat (first | exact zad _ _ | refine zai rfl ?_ | refine zae rfl ?_ | refine zaj rfl ?_)

/-! ### loop.example/g01098/spec.plGood: function 93 -/
def spec_plGood.l1 : (List (List Int)) → Int → Option ((Bool) ⊕ (Unit))
  | [], i24 => some (.inr ())
  | y25 :: ys26, i24 => (spec_l1All.f y25 0 1000000).bind fun b40 => if b40 = true then (spec_plGood.l1 ys26 (i24 + 1)) else (some (.inl false))
def spec_plGood.l0 (a0_0 : Int) : (List SStep) → Int → Option ((Bool) ⊕ (Unit))
  | [], i8 => some (.inr ())
  | y9 :: ys10, i8 => (spec_l1In.f y9.f0 0 y9.f1).bind fun b46 => if b46 = true then (if w64 (a0_0 + i8) ≤ y9.f1 then (some (.inl false)) else (spec_plGood.l0 a0_0 ys10 (i8 + 1))) else (some (.inl false))
def spec_plGood.f (k : Nat) (a0_0 : Int) (l0_1 : List SStep) (l0_2 : List Int) : Option Bool := (spec_l1In.f a0_0 1 6).bind fun b4 => if b4 = true then (if 40 < (l0_1.length : Int) then (some false) else (if 6 < (l0_2.length : Int) then (some false) else ((spec_plGood.l0 a0_0 l0_1 0).bind fun o_ => match o_ with | .inl r_ => some r_ | .inr _ => (spec_plExponents.f k a0_0 l0_1 l0_2).bind fun l20 => (spec_plGood.l1 l20 0).bind fun o_ => match o_ with | .inl r_ => some r_ | .inr _ => (spec_l1All.f l0_2 0 (w64 (w64 (a0_0 + (l0_1.length : Int)) - 1))).bind fun b36 => some b36))) else (some false)
set_option maxHeartbeats 600000 in
set_option maxRecDepth 100000 in
theorem spec_plGood.calls (k : Nat) {w0 ws : World} {P0 : Nat → Prop} (a0_0 : Int) (A0_1 : Option Addr) (c0_1 : Nat) (n0_1 : Nat) (l0_1 : List SStep) (A0_2 : Option Addr) (c0_2 : Nat) (n0_2 : Nat) (l0_2 : List Int) (Z : Below w0.heap.size w0 ws) (hF : Fr w0 ws P0 [] ws) (R0_1 : Stable ws P0 (fun w => Kd.C kStep w A0_1 n0_1 l0_1)) (hc0_1 : n0_1 ≤ c0_1) (R0_2 : Stable ws P0 (fun w => Kd.C (Kd.int .i64) w A0_2 n0_2 l0_2)) (hc0_2 : n0_2 ≤ c0_2) (r_1 : Bool) (h : spec_plGood.f k a0_0 l0_1 l0_2 = some r_1) :
    Calls Try.prog 93 #[.agg #[.int .i64 a0_0, .slice A0_1 n0_1 c0_1, .slice A0_2 n0_2 c0_2]] ws (Post1 w0 ws P0 (fun (_ : Unit) => .bool r_1) (fun (_ : Unit) => [])) := by
  unfold spec_plGood.f at h
  obtain rfl := (R0_1 ws (KeptB.refl _ _)).1
  obtain rfl := (R0_2 ws (KeptB.refl _ _)).1
  refine enter Try.func93 rfl Try.ntmps93 rfl hF ?_
  refine c_seq ?_
  refine za0 ?_
  refine o_e rfl (e_box rfl) (fun g1 => ?_)
  refine o_q rfl rfl (q_asg rfl) ?_
  refine o_end ?_
  refine za1 ?_
  refine c_seq ?_
  refine c_seq ?_
  refine za0 ?_
  refine o_q rfl rfl (q_f F27_0 rfl) ?_
  refine o_q rfl rfl (q_ldb Y3 rfl (fun w h => h.zaa (i := 0) rfl) rfl) ?_
  refine za9 h (fun b4 hx3 h => ?_) rfl
  refine o_e rfl (zac 0 Z Try.func94 N94 rfl rfl rfl (fun w P1 hF hB hS hT => spec_l1In.calls a0_0 1 6 hB hF _ hx3)) (fun _ => ?_)
  refine o_q rfl rfl (q_not rfl) ?_
  refine o_q rfl rfl (za3 rfl) ?_
  refine byB b4 (fun hb5 => ?_) (fun hb5 => ?_)
  · replace h := bb_t hb5 h
    refine o_w (za4 rfl rfl rfl (congrArg (fun b => Value.bool (!(b))) hb5)) rfl (q_f F27_1 rfl) ?_
    refine o_w (za4 rfl rfl rfl (congrArg (fun b => Value.bool (!(b))) hb5)) rfl (q_ldb Y24 rfl (fun w h => h.zaa (i := 0) rfl) rfl) ?_
    refine o_w (za4 rfl rfl rfl (congrArg (fun b => Value.bool (!(b))) hb5)) rfl (q_len Try.underlying24 rfl) ?_
    refine o_w (za4 rfl rfl rfl (congrArg (fun b => Value.bool (!(b))) hb5)) rfl (q_gtr rfl rfl) ?_
    refine o_q rfl rfl (zak false (congrArg (fun b => Value.bool (!(b))) hb5) rfl) ?_
    refine o_q rfl rfl (za3 rfl) ?_
    refine byB (decide (40 < (l0_1.length : Int))) (fun hb6 => ?_) (fun hb6 => ?_)
    · replace h := br_t hb6 h
      refine @o_n _ _ _ _ _ _ _ _ _ _ _ 18 (za2 rfl rfl rfl (congrArg Value.bool hb6) rfl) (Eq.refl (some 18)) ?_
      refine @o_n _ _ _ _ _ _ _ _ _ _ _ 19 (za2 rfl rfl rfl (congrArg Value.bool hb6) rfl) (Eq.refl (some 19)) ?_
      refine @o_n _ _ _ _ _ _ _ _ _ _ _ 20 (za2 rfl rfl rfl (congrArg Value.bool hb6) rfl) (Eq.refl (some 20)) ?_
      refine @o_n _ _ _ _ _ _ _ _ _ _ _ 21 (za2 rfl rfl rfl (congrArg Value.bool hb6) rfl) (Eq.refl (some 21)) ?_
      refine o_q rfl rfl (zak true (congrArg Value.bool hb6) rfl) ?_
      refine o_end ?_
      refine za1 ?_
      refine zay rfl ?_
      refine c_seq ?_
      refine za0 ?_
      refine o_q rfl rfl (q_asg rfl) ?_
      refine o_end ?_
      refine za1 ?_
      refine c_ret ?_
      refine za5 ?_
      have e0_ := Option.some.inj h; clear h
      subst e0_
      exact x_r1 () Try.results93 (zaf rfl) rfl (fun w h => za7 [] (by decide) rfl w h)
    · replace h := br_f hb6 h
      refine o_w (za4 rfl rfl rfl (congrArg Value.bool hb6)) rfl (q_f F27_2 rfl) ?_
      refine o_w (za4 rfl rfl rfl (congrArg Value.bool hb6)) rfl (q_ldb Y25 rfl (fun w h => h.zaa (i := 0) rfl) rfl) ?_
      refine o_w (za4 rfl rfl rfl (congrArg Value.bool hb6)) rfl (q_len Try.underlying25 rfl) ?_
      refine o_w (za4 rfl rfl rfl (congrArg Value.bool hb6)) rfl (q_gtr rfl rfl) ?_
      refine o_q rfl rfl (zak false (congrArg Value.bool hb6) rfl) ?_
      refine o_end ?_
      refine za1 ?_
      refine zas _ rfl (fun hb7 => ?_) (fun hb7 => ?_)
      · skip
        replace h := br_t hb7 h
        refine c_seq ?_
        refine za0 ?_
        refine o_q rfl rfl (q_asg rfl) ?_
        refine o_end ?_
        refine za1 ?_
        refine c_ret ?_
        refine za5 ?_
        have e0_ := Option.some.inj h; clear h
        subst e0_
        exact x_r1 () Try.results93 (zaf rfl) rfl (fun w h => za7 [] (by decide) rfl w h)
      · skip
        replace h := br_f hb7 h
        refine zao ?_
        refine za1 ?_
        refine c_seq ?_
        refine c_seq ?_
        refine za0 ?_
        refine o_q rfl rfl (q_f F27_1 rfl) ?_
        refine o_q rfl rfl (q_ldb Y24 rfl (fun w h => h.zaa (i := 0) rfl) rfl) ?_
        refine o_q rfl rfl (q_len Try.underlying24 rfl) ?_
        refine o_q rfl rfl (za3 rfl) ?_
        refine o_end ?_
        refine za1 ?_
        refine zal ?_
        refine za9 h (fun o16 hl15 hR14 => ?_) rfl
        clear h
        refine c_fact (p := l0_1.length ≤ 9223372036854775807) (fun w h => (R0_1.now Z h).2.1) (fun hm13 => ?_)
        refine zax (σ := (List SStep) × Int) (fun k11 ((ys10, i8) : (List SStep) × Int) => Rg l0_1 i8 ys10 ∧ ys10.length = k11 ∧ spec_plGood.l0 a0_0 ys10 i8 = some o16) [2, 3, 4, 26, 27, 28, 29, 30, 31, 32, 33, 34, 35, 36, 37, 38, 39, 40, 41, 42, 43, 44, 45, 46] (fun ((ys10, i8) : (List SStep) × Int) => [(26, .int .i64 i8)]) (fun ((ys10, i8) : (List SStep) × Int) => [box g1 27 #[.int .i64 a0_0, .slice A0_1 l0_1.length c0_1, .slice A0_2 l0_2.length c0_2]]) l0_1.length (l0_1, 0) ⟨Rg.start _, rfl, hl15⟩ ⟨rfl, trivial⟩ (fun w h => h) ?_
        refine fun k11 => cur2 (listC (fun i8 U17 hJ_ => ?_) (fun y9 ys10 i8 U17 hJ_ => ?_))
        · skip
          clear hl15
          have hr12 := hJ_.1; have hk18 := hJ_.2.1; have h := hJ_.2.2; clear hJ_
          replace h : spec_plGood.l0 a0_0 [] i8 = some o16 := h
          rw [spec_plGood.l0] at h
          refine c_seq ?_
          refine za0 ?_
          refine o_q rfl rfl (q_lss rfl rfl) ?_
          refine o_end ?_
          refine za1 ?_
          refine c_seq ?_
          refine c_false (congrArg Value.bool hr12.ge) ?_
          refine c_exit ?_
          refine za8 ?_
          refine za8 ?_
          have e_ := Option.some.inj h; replace h := hR14; rw [← e_] at h; clear e_
          refine x_hit ?_
          refine za1 ?_
          refine c_seq ?_
          refine c_seq ?_
          refine za0 ?_
          refine o_q rfl rfl (q_ldB G27 Z27 rfl (fun w h => h.zaa (i := 0) rfl) rfl) ?_
          refine za9 h (fun l20 hx19 h => ?_) rfl
          refine o_e rfl (zac 0 Z Try.func183 N183 rfl rfl rfl (fun w P1 hF hB hS hT => spec_plExponents.calls k a0_0 A0_1 c0_1 l0_1.length l0_1 A0_2 c0_2 l0_2.length l0_2 hB hF (hS _ R0_1) hc0_1 (hS _ R0_2) hc0_2 _ hx19)) (cur3 (fun A21 c22 H23 => ?_))
          refine o_q rfl rfl (q_len Try.underlying60 rfl) ?_
          refine o_q rfl rfl (za3 rfl) ?_
          refine o_end ?_
          refine za1 ?_
          refine zal ?_
          refine za9 h (fun o32 hl31 hR30 => ?_) rfl
          clear h
          refine c_fact (p := l20.length ≤ 9223372036854775807) (fun w h => (h.zb0 (i := 0) rfl).2.1) (fun hm29 => ?_)
          refine zax (σ := (List (List Int)) × Int) (fun k27 ((ys26, i24) : (List (List Int)) × Int) => Rg l20 i24 ys26 ∧ ys26.length = k27 ∧ spec_plGood.l1 ys26 i24 = some o32) [2, 6, 50, 51, 52, 53, 54, 55, 56, 57] (fun ((ys26, i24) : (List (List Int)) × Int) => [(50, .int .i64 i24)]) (fun ((ys26, i24) : (List (List Int)) × Int) => [row (gk 3 (Kd.int .i64)) 25 (.slice A21 l20.length c22) (zp H23 l20), box g1 27 #[.int .i64 a0_0, .slice A0_1 l0_1.length c0_1, .slice A0_2 l0_2.length c0_2]]) l20.length (l20, 0) ⟨Rg.start _, rfl, hl31⟩ ⟨rfl, trivial⟩ (fun w h => h) ?_
          refine fun k27 => cur2 (listC (fun i24 U33 hJ_ => ?_) (fun y25 ys26 i24 U33 hJ_ => ?_))
          · skip
            clear hl31
            have hr28 := hJ_.1; have hk34 := hJ_.2.1; have h := hJ_.2.2; clear hJ_
            replace h : spec_plGood.l1 [] i24 = some o32 := h
            rw [spec_plGood.l1] at h
            refine c_seq ?_
            refine za0 ?_
            refine o_q rfl rfl (q_lss rfl rfl) ?_
            refine o_end ?_
            refine za1 ?_
            refine c_seq ?_
            refine c_false (congrArg Value.bool hr28.ge) ?_
            refine c_exit ?_
            refine za8 ?_
            refine za8 ?_
            have e_ := Option.some.inj h; replace h := hR30; rw [← e_] at h; clear e_
            refine x_hit ?_
            refine za1 ?_
            refine c_seq ?_
            refine za0 ?_
            refine o_q rfl rfl (q_f F27_2 rfl) ?_
            refine o_q rfl rfl (q_ldb Y25 rfl (fun w h => h.zaa (i := 1) rfl) rfl) ?_
            refine o_q rfl rfl (q_f F27_0 rfl) ?_
            refine o_q rfl rfl (q_ldb Y3 rfl (fun w h => h.zaa (i := 1) rfl) rfl) ?_
            refine o_q rfl rfl (q_f F27_1 rfl) ?_
            refine o_q rfl rfl (q_ldb Y24 rfl (fun w h => h.zaa (i := 1) rfl) rfl) ?_
            refine o_q rfl rfl (q_len Try.underlying24 rfl) ?_
            refine o_q rfl rfl (q_add64 rfl rfl) ?_
            refine o_q rfl rfl (q_sub64 rfl rfl) ?_
            refine za9 h (fun b36 hx35 h => ?_) rfl
            refine o_e rfl (zac 0 Z Try.func133 N133 rfl rfl rfl (fun w P1 hF hB hS hT => spec_l1All.calls A0_2 c0_2 l0_2.length l0_2 0 (w64 (w64 (a0_0 + (l0_1.length : Int)) - 1)) hB hF (hS _ R0_2) hc0_2 _ hx35)) (fun _ => ?_)
            refine o_q rfl rfl (q_asg rfl) ?_
            refine o_end ?_
            refine za1 ?_
            refine c_ret ?_
            have e0_ := Option.some.inj h; clear h
            subst e0_
            exact x_r1 () Try.results93 (zaf rfl) rfl (fun w h => za7 [] (by decide) rfl w h)
          · skip
            clear hl31
            have hr28 := hJ_.1; have hk34 := hJ_.2.1; have h := hJ_.2.2; clear hJ_
            replace h : spec_plGood.l1 (y25 :: ys26) i24 = some o32 := h
            rw [spec_plGood.l1] at h
            refine c_seq ?_
            refine za0 ?_
            refine o_q rfl rfl (q_lss rfl rfl) ?_
            refine o_end ?_
            refine za1 ?_
            refine c_seq ?_
            refine zay (congrArg Value.bool hr28.lt) ?_
            refine zao ?_
            refine za1 ?_
            refine c_seq ?_
            refine zal ?_
            refine c_seq ?_
            refine za0 ?_
            refine o_fact (p := Sh A21 l20.length (zp H23 l20).length) (fun w h => f_sh (dk := (gk 3 (Kd.int .i64))) h (fun w h => h.zb0 (i := 0) rfl)) (fun hq37 => ?_)
            refine o_q rfl rfl (q_ix Try.underlying60 Z25 rfl rfl hq37 (gt_zp hr28.get)) ?_
            refine o_fact (p := y25.length ≤ hC H23 i24) (fun w h => (K_in (h.zb0 (i := 0) rfl) hr28.get).1) (fun hc38 => ?_)
            refine o_q rfl rfl (q_lde (off := 0) Y25 rfl rfl (fun w h => h.zb0 (i := 0) rfl) (gt_zp hr28.get) (fun _ _ h => h.1) rfl) ?_
            refine o_q rfl rfl (q_asg rfl) ?_
            refine o_end ?_
            refine za1 ?_
            refine c_seq ?_
            refine za0 ?_
            refine o_q rfl rfl (za3 rfl) ?_
            refine za9 h (fun b40 hx39 h => ?_) rfl
            refine o_e rfl (zac 0 Z Try.func133 N133 rfl rfl rfl (fun w P1 hF hB hS hT => spec_l1All.calls (hA H23 i24) (hC H23 i24) y25.length y25 0 1000000 hB hF (stab_in (hT 0 _ rfl).row hr28.get) hc38 _ hx39)) (fun _ => ?_)
            refine o_q rfl rfl (q_not rfl) ?_
            refine o_end ?_
            refine za1 ?_
            refine zas _ rfl (fun hb41 => ?_) (fun hb41 => ?_)
            · replace hb41 := nt_t hb41
              replace h := bb_f hb41 h
              refine c_seq ?_
              refine za0 ?_
              refine o_q rfl rfl (q_asg rfl) ?_
              refine o_end ?_
              refine za1 ?_
              refine c_ret ?_
              refine zah ?_
              refine za5 ?_
              refine za5 ?_
              have e_ := Option.some.inj h; replace h := hR30; rw [← e_] at h; clear e_
              refine zah ?_
              refine za5 ?_
              have e0_ := Option.some.inj h; clear h
              subst e0_
              exact x_r1 () Try.results93 (zaf rfl) rfl (fun w h => za7 [] (by decide) rfl w h)
            · replace hb41 := nt_f hb41
              replace h := bb_t hb41 h
              refine zao ?_
              refine zan ?_
              refine za1 ?_
              refine za0 ?_
              refine o_q rfl rfl (q_up rfl rfl (hr28.up hm29)) ?_
              refine o_q rfl rfl (za3 rfl) ?_
              refine o_end ?_
              refine zam ys26.length (ys26, i24 + 1) (by rw [← hk34]; exact Nat.lt_succ_self _) ⟨hr28.step, rfl, h⟩ ⟨rfl, trivial⟩ (fun w h => za7 [0, 1] (by decide) rfl w h) ?_
              repeat (first | exact zad _ _ | refine zai rfl ?_ | refine zae rfl ?_ | refine zaj rfl ?_)
        · skip
          clear hl15
          have hr12 := hJ_.1; have hk18 := hJ_.2.1; have h := hJ_.2.2; clear hJ_
          replace h : spec_plGood.l0 a0_0 (y9 :: ys10) i8 = some o16 := h
          rw [spec_plGood.l0] at h
          refine c_seq ?_
          refine za0 ?_
          refine o_q rfl rfl (q_lss rfl rfl) ?_
          refine o_end ?_
          refine za1 ?_
          refine c_seq ?_
          refine zay (congrArg Value.bool hr12.lt) ?_
          refine zao ?_
          refine za1 ?_
          refine c_seq ?_
          refine zal ?_
          refine c_seq ?_
          refine za0 ?_
          refine o_q rfl rfl (za3 rfl) ?_
          refine o_fact (p := Sh A0_1 l0_1.length l0_1.length) (fun w h => f_sh (dk := kStep) h (fun w h => R0_1.now Z h)) (fun hq42 => ?_)
          refine o_q rfl rfl (q_ix Try.underlying24 Z89 rfl rfl hq42 hr12.get) ?_
          refine o_q rfl rfl (q_ldE G89 Z89 rfl rfl (fun w h => R0_1.now Z h) hr12.get (fun _ _ h => h) rfl) ?_
          refine o_e rfl (e_alloc V89 rfl) (fun g43 => ?_)
          refine o_q rfl rfl (q_asg rfl) ?_
          refine o_e rfl (zau (i := 0) rfl rfl rfl Z89 rfl rfl) (fun _ => ?_)
          refine o_end ?_
          refine za1 ?_
          refine c_seq ?_
          refine za0 ?_
          refine o_q rfl rfl (q_f F89_0 rfl) ?_
          refine o_q rfl rfl (q_ldb Y3 rfl (fun w h => h.zaa (i := 0) rfl) rfl) ?_
          refine o_q rfl rfl (q_f F89_1 rfl) ?_
          refine o_q rfl rfl (q_ldb Y3 rfl (fun w h => h.zaa (i := 0) rfl) rfl) ?_
          refine za9 h (fun b46 hx45 h => ?_) rfl
          refine o_e rfl (zac 0 Z Try.func94 N94 rfl rfl rfl (fun w P1 hF hB hS hT => spec_l1In.calls y9.f0 0 y9.f1 hB hF _ hx45)) (fun _ => ?_)
          refine o_q rfl rfl (q_not rfl) ?_
          refine o_q rfl rfl (za3 rfl) ?_
          refine byB b46 (fun hb47 => ?_) (fun hb47 => ?_)
          · replace h := bb_t hb47 h
            refine o_w (za4 rfl rfl rfl (congrArg (fun b => Value.bool (!(b))) hb47)) rfl (q_f F89_1 rfl) ?_
            refine o_w (za4 rfl rfl rfl (congrArg (fun b => Value.bool (!(b))) hb47)) rfl (q_ldb Y3 rfl (fun w h => h.zaa (i := 0) rfl) rfl) ?_
            refine o_w (za4 rfl rfl rfl (congrArg (fun b => Value.bool (!(b))) hb47)) rfl (q_f F27_0 rfl) ?_
            refine o_w (za4 rfl rfl rfl (congrArg (fun b => Value.bool (!(b))) hb47)) rfl (q_ldb Y3 rfl (fun w h => h.zaa (i := 1) rfl) rfl) ?_
            refine o_w (za4 rfl rfl rfl (congrArg (fun b => Value.bool (!(b))) hb47)) rfl (za3 rfl) ?_
            refine o_w (za4 rfl rfl rfl (congrArg (fun b => Value.bool (!(b))) hb47)) rfl (q_add64 rfl rfl) ?_
            refine o_w (za4 rfl rfl rfl (congrArg (fun b => Value.bool (!(b))) hb47)) rfl (q_geq rfl rfl) ?_
            refine o_q rfl rfl (zak false (congrArg (fun b => Value.bool (!(b))) hb47) rfl) ?_
            refine o_end ?_
            refine za1 ?_
            refine zas _ rfl (fun hb48 => ?_) (fun hb48 => ?_)
            · skip
              replace h := br_t hb48 h
              refine c_seq ?_
              refine za0 ?_
              refine o_q rfl rfl (q_asg rfl) ?_
              refine o_end ?_
              refine za1 ?_
              refine c_ret ?_
              refine zah ?_
              refine za5 ?_
              refine za5 ?_
              have e_ := Option.some.inj h; replace h := hR14; rw [← e_] at h; clear e_
              refine zah ?_
              refine za5 ?_
              have e0_ := Option.some.inj h; clear h
              subst e0_
              exact x_r1 () Try.results93 (zaf rfl) rfl (fun w h => za7 [] (by decide) rfl w h)
            · skip
              replace h := br_f hb48 h
              refine zao ?_
              refine zan ?_
              refine za1 ?_
              refine za0 ?_
              refine o_q rfl rfl (q_up rfl rfl (hr12.up hm13)) ?_
              refine o_q rfl rfl (za3 rfl) ?_
              refine o_end ?_
              refine zam ys10.length (ys10, i8 + 1) (by rw [← hk18]; exact Nat.lt_succ_self _) ⟨hr12.step, rfl, h⟩ ⟨rfl, trivial⟩ (fun w h => za7 [1] (by decide) rfl w h) ?_
              repeat (first | exact zad _ _ | refine zai rfl ?_ | refine zae rfl ?_ | refine zaj rfl ?_)
          · replace h := bb_f hb47 h
            refine @o_n _ _ _ _ _ _ _ _ _ _ _ 38 (za2 rfl rfl rfl (congrArg (fun b => Value.bool (!(b))) hb47) rfl) (Eq.refl (some 38)) ?_
            refine @o_n _ _ _ _ _ _ _ _ _ _ _ 39 (za2 rfl rfl rfl (congrArg (fun b => Value.bool (!(b))) hb47) rfl) (Eq.refl (some 39)) ?_
            refine @o_n _ _ _ _ _ _ _ _ _ _ _ 40 (za2 rfl rfl rfl (congrArg (fun b => Value.bool (!(b))) hb47) rfl) (Eq.refl (some 40)) ?_
            refine @o_n _ _ _ _ _ _ _ _ _ _ _ 41 (za2 rfl rfl rfl (congrArg (fun b => Value.bool (!(b))) hb47) rfl) (Eq.refl (some 41)) ?_
            refine @o_n _ _ _ _ _ _ _ _ _ _ _ 42 (za2 rfl rfl rfl (congrArg (fun b => Value.bool (!(b))) hb47) rfl) (Eq.refl (some 42)) ?_
            refine @o_n _ _ _ _ _ _ _ _ _ _ _ 43 (za2 rfl rfl rfl (congrArg (fun b => Value.bool (!(b))) hb47) rfl) (Eq.refl (some 43)) ?_
            refine @o_n _ _ _ _ _ _ _ _ _ _ _ 44 (za2 rfl rfl rfl (congrArg (fun b => Value.bool (!(b))) hb47) rfl) (Eq.refl (some 44)) ?_
            refine o_q rfl rfl (zak true (congrArg (fun b => Value.bool (!(b))) hb47) rfl) ?_
            refine o_end ?_
            refine za1 ?_
            refine zay rfl ?_
            refine c_seq ?_
            refine za0 ?_
            refine o_q rfl rfl (q_asg rfl) ?_
            refine o_end ?_
            refine za1 ?_
            refine c_ret ?_
            refine zah ?_
            refine za5 ?_
            refine za5 ?_
            have e_ := Option.some.inj h; replace h := hR14; rw [← e_] at h; clear e_
            refine zah ?_
            refine za5 ?_
            have e0_ := Option.some.inj h; clear h
            subst e0_
            exact x_r1 () Try.results93 (zaf rfl) rfl (fun w h => za7 [] (by decide) rfl w h)
  · replace h := bb_f hb5 h
    refine @o_n _ _ _ _ _ _ _ _ _ _ _ 12 (za2 rfl rfl rfl (congrArg (fun b => Value.bool (!(b))) hb5) rfl) (Eq.refl (some 12)) ?_
    refine @o_n _ _ _ _ _ _ _ _ _ _ _ 13 (za2 rfl rfl rfl (congrArg (fun b => Value.bool (!(b))) hb5) rfl) (Eq.refl (some 13)) ?_
    refine @o_n _ _ _ _ _ _ _ _ _ _ _ 14 (za2 rfl rfl rfl (congrArg (fun b => Value.bool (!(b))) hb5) rfl) (Eq.refl (some 14)) ?_
    refine @o_n _ _ _ _ _ _ _ _ _ _ _ 15 (za2 rfl rfl rfl (congrArg (fun b => Value.bool (!(b))) hb5) rfl) (Eq.refl (some 15)) ?_
    refine o_q rfl rfl (zak true (congrArg (fun b => Value.bool (!(b))) hb5) rfl) ?_
    refine o_q rfl rfl (za3 rfl) ?_
    refine @o_n _ _ _ _ _ _ _ _ _ _ _ 18 (za2 rfl rfl rfl rfl rfl) (Eq.refl (some 18)) ?_
    refine @o_n _ _ _ _ _ _ _ _ _ _ _ 19 (za2 rfl rfl rfl rfl rfl) (Eq.refl (some 19)) ?_
    refine @o_n _ _ _ _ _ _ _ _ _ _ _ 20 (za2 rfl rfl rfl rfl rfl) (Eq.refl (some 20)) ?_
    refine @o_n _ _ _ _ _ _ _ _ _ _ _ 21 (za2 rfl rfl rfl rfl rfl) (Eq.refl (some 21)) ?_
    refine o_q rfl rfl (zak true rfl rfl) ?_
    refine o_end ?_
    refine za1 ?_
    refine zay rfl ?_
    refine c_seq ?_
    refine za0 ?_
    refine o_q rfl rfl (q_asg rfl) ?_
    refine o_end ?_
    refine za1 ?_
    refine c_ret ?_
    refine za5 ?_
    have e0_ := Option.some.inj h; clear h
    subst e0_
    exact x_r1 () Try.results93 (zaf rfl) rfl (fun w h => za7 [] (by decide) rfl w h)

/-! ### loop.example/g01098/spec.l1Has: function 189 -/
def spec_l1Has.l0 (a1 : Int) : (List Int) → Int → Option ((Bool) ⊕ (Unit))
  | [], i1 => some (.inr ())
  | y2 :: ys3, i1 => if y2 = a1 then (some (.inl true)) else (spec_l1Has.l0 a1 ys3 (i1 + 1))
def spec_l1Has.f (l0 : List Int) (a1 : Int) : Option Bool := (spec_l1Has.l0 a1 l0 0).bind fun o_ => match o_ with | .inl r_ => some r_ | .inr _ => some false
set_option maxHeartbeats 600000 in
set_option maxRecDepth 100000 in
theorem spec_l1Has.calls {w0 ws : World} {P0 : Nat → Prop} (A0 : Option Addr) (c0 : Nat) (n0 : Nat) (l0 : List Int) (a1 : Int) (Z : Below w0.heap.size w0 ws) (hF : Fr w0 ws P0 [] ws) (R0 : Stable ws P0 (fun w => Kd.C (Kd.int .i64) w A0 n0 l0)) (hc0 : n0 ≤ c0) (r_1 : Bool) (h : spec_l1Has.f l0 a1 = some r_1) :
    Calls Try.prog 189 #[.slice A0 n0 c0, .int .i64 a1] ws (Post1 w0 ws P0 (fun (_ : Unit) => .bool r_1) (fun (_ : Unit) => [])) := by
  unfold spec_l1Has.f at h
  obtain rfl := (R0 ws (KeptB.refl _ _)).1
  refine enter Try.func189 rfl Try.ntmps189 rfl hF ?_
  refine c_seq ?_
  refine za0 ?_
  refine o_q rfl rfl (q_asg rfl) ?_
  refine o_end ?_
  refine za1 ?_
  refine c_seq ?_
  refine c_seq ?_
  refine za0 ?_
  refine o_q rfl rfl (za3 rfl) ?_
  refine o_q rfl rfl (q_len Try.underlying25 rfl) ?_
  refine o_q rfl rfl (za3 rfl) ?_
  refine o_end ?_
  refine za1 ?_
  refine zal ?_
  refine za9 h (fun o9 hl8 hR7 => ?_) rfl
  clear h
  refine c_fact (p := l0.length ≤ 9223372036854775807) (fun w h => (R0.now Z h).2.1) (fun hm6 => ?_)
  refine zax (σ := (List Int) × Int) (fun k4 ((ys3, i1) : (List Int) × Int) => Rg l0 i1 ys3 ∧ ys3.length = k4 ∧ spec_l1Has.l0 a1 ys3 i1 = some o9) [4, 6, 9, 10, 11, 12, 13, 14, 15, 16] (fun ((ys3, i1) : (List Int) × Int) => [(9, .int .i64 i1)]) (fun ((ys3, i1) : (List Int) × Int) => []) l0.length (l0, 0) ⟨Rg.start _, rfl, hl8⟩ ⟨rfl, trivial⟩ (fun w h => h) ?_
  refine fun k4 => cur2 (listC (fun i1 U10 hJ_ => ?_) (fun y2 ys3 i1 U10 hJ_ => ?_))
  · skip
    clear hl8
    have hr5 := hJ_.1; have hk11 := hJ_.2.1; have h := hJ_.2.2; clear hJ_
    replace h : spec_l1Has.l0 a1 [] i1 = some o9 := h
    rw [spec_l1Has.l0] at h
    refine c_seq ?_
    refine za0 ?_
    refine o_q rfl rfl (q_lss rfl rfl) ?_
    refine o_end ?_
    refine za1 ?_
    refine c_seq ?_
    refine c_false (congrArg Value.bool hr5.ge) ?_
    refine c_exit ?_
    refine za8 ?_
    refine za8 ?_
    have e_ := Option.some.inj h; replace h := hR7; rw [← e_] at h; clear e_
    refine x_hit ?_
    refine za1 ?_
    refine c_seq ?_
    refine za0 ?_
    refine o_q rfl rfl (q_asg rfl) ?_
    refine o_end ?_
    refine za1 ?_
    refine c_ret ?_
    have e0_ := Option.some.inj h; clear h
    subst e0_
    exact x_r1 () Try.results189 (zaf rfl) rfl (fun w h => za7 [] (by decide) rfl w h)
  · skip
    clear hl8
    have hr5 := hJ_.1; have hk11 := hJ_.2.1; have h := hJ_.2.2; clear hJ_
    replace h : spec_l1Has.l0 a1 (y2 :: ys3) i1 = some o9 := h
    rw [spec_l1Has.l0] at h
    refine c_seq ?_
    refine za0 ?_
    refine o_q rfl rfl (q_lss rfl rfl) ?_
    refine o_end ?_
    refine za1 ?_
    refine c_seq ?_
    refine zay (congrArg Value.bool hr5.lt) ?_
    refine zao ?_
    refine za1 ?_
    refine c_seq ?_
    refine zal ?_
    refine c_seq ?_
    refine za0 ?_
    refine o_fact (p := Sh A0 l0.length l0.length) (fun w h => f_sh (dk := (Kd.int .i64)) h (fun w h => R0.now Z h)) (fun hq12 => ?_)
    refine o_q rfl rfl (q_ix Try.underlying25 Z3 rfl rfl hq12 hr5.get) ?_
    refine o_q rfl rfl (q_lde (off := 0) Y3 rfl rfl (fun w h => R0.now Z h) hr5.get (fun _ _ h => h) rfl) ?_
    refine o_q rfl rfl (q_asg rfl) ?_
    refine o_end ?_
    refine za1 ?_
    refine c_seq ?_
    refine za0 ?_
    refine o_q rfl rfl (za3 rfl) ?_
    refine o_q rfl rfl (za3 rfl) ?_
    refine o_q rfl rfl (q_eql rfl rfl) ?_
    refine o_end ?_
    refine za1 ?_
    refine zas _ rfl (fun hb13 => ?_) (fun hb13 => ?_)
    · skip
      replace h := br_t hb13 h
      refine c_seq ?_
      refine za0 ?_
      refine o_q rfl rfl (q_asg rfl) ?_
      refine o_end ?_
      refine za1 ?_
      refine c_ret ?_
      refine zah ?_
      refine za5 ?_
      refine za5 ?_
      have e_ := Option.some.inj h; replace h := hR7; rw [← e_] at h; clear e_
      refine zah ?_
      refine za5 ?_
      have e0_ := Option.some.inj h; clear h
      subst e0_
      exact x_r1 () Try.results189 (zaf rfl) rfl (fun w h => za7 [] (by decide) rfl w h)
    · skip
      replace h := br_f hb13 h
      refine zao ?_
      refine zan ?_
      refine za1 ?_
      refine za0 ?_
      refine o_q rfl rfl (q_up rfl rfl (hr5.up hm6)) ?_
      refine o_q rfl rfl (za3 rfl) ?_
      refine o_end ?_
      refine zam ys3.length (ys3, i1 + 1) (by rw [← hk11]; exact Nat.lt_succ_self _) ⟨hr5.step, rfl, h⟩ ⟨rfl, trivial⟩ (fun w h => za7 [] (by decide) rfl w h) ?_
      repeat (first | exact zad _ _ | refine zai rfl ?_ | refine zae rfl ?_ | refine zaj rfl ?_)

/-! ### loop.example/g01098/spec.plOrder: function 119 -/
def spec_plOrder.l0 (a0_0 : Int) (l0_1 : List SStep) (l1 : List Int) : (List Int) → Int → Option ((Bool) ⊕ (Unit))
  | [], i4 => some (.inr ())
  | y5 :: ys6, i4 => (spec_l1In.f y5 0 (w64 ((l0_1.length : Int) - 1))).bind fun b17 => if b17 = true then ((ct l1 (0 : Int) i4).bind fun l19 => (spec_l1Has.f l19 y5).bind fun b22 => if b22 = true then (some (.inl false)) else ((gt l0_1 y5).bind fun y26 => if a0_0 ≤ y26.f0 then ((ct l1 (0 : Int) i4).bind fun l30 => (spec_l1Has.f l30 (w64 (y26.f0 - a0_0))).bind fun b33 => if b33 = true then (if a0_0 ≤ y26.f1 then ((ct l1 (0 : Int) i4).bind fun l36 => (spec_l1Has.f l36 (w64 (y26.f1 - a0_0))).bind fun b39 => if b39 = true then (spec_plOrder.l0 a0_0 l0_1 l1 ys6 (i4 + 1)) else (some (.inl false))) else (spec_plOrder.l0 a0_0 l0_1 l1 ys6 (i4 + 1))) else (some (.inl false))) else (if a0_0 ≤ y26.f1 then ((ct l1 (0 : Int) i4).bind fun l42 => (spec_l1Has.f l42 (w64 (y26.f1 - a0_0))).bind fun b45 => if b45 = true then (spec_plOrder.l0 a0_0 l0_1 l1 ys6 (i4 + 1)) else (some (.inl false))) else (spec_plOrder.l0 a0_0 l0_1 l1 ys6 (i4 + 1))))) else (some (.inl false))
def spec_plOrder.f (a0_0 : Int) (l0_1 : List SStep) (l0_2 : List Int) (l1 : List Int) : Option Bool := if (l1.length : Int) ≠ (l0_1.length : Int) then (some false) else ((spec_plOrder.l0 a0_0 l0_1 l1 l1 0).bind fun o_ => match o_ with | .inl r_ => some r_ | .inr _ => some true)
set_option maxHeartbeats 600000 in
set_option maxRecDepth 100000 in
theorem spec_plOrder.calls {w0 ws : World} {P0 : Nat → Prop} (a0_0 : Int) (A0_1 : Option Addr) (c0_1 : Nat) (n0_1 : Nat) (l0_1 : List SStep) (A0_2 : Option Addr) (c0_2 : Nat) (n0_2 : Nat) (l0_2 : List Int) (A1 : Option Addr) (c1 : Nat) (n1 : Nat) (l1 : List Int) (Z : Below w0.heap.size w0 ws) (hF : Fr w0 ws P0 [] ws) (R0_1 : Stable ws P0 (fun w => Kd.C kStep w A0_1 n0_1 l0_1)) (hc0_1 : n0_1 ≤ c0_1) (R0_2 : Stable ws P0 (fun w => Kd.C (Kd.int .i64) w A0_2 n0_2 l0_2)) (hc0_2 : n0_2 ≤ c0_2) (R1 : Stable ws P0 (fun w => Kd.C (Kd.int .i64) w A1 n1 l1)) (hc1 : n1 ≤ c1) (r_1 : Bool) (h : spec_plOrder.f a0_0 l0_1 l0_2 l1 = some r_1) :
    Calls Try.prog 119 #[.agg #[.int .i64 a0_0, .slice A0_1 n0_1 c0_1, .slice A0_2 n0_2 c0_2], .slice A1 n1 c1] ws (Post1 w0 ws P0 (fun (_ : Unit) => .bool r_1) (fun (_ : Unit) => [])) := by
  unfold spec_plOrder.f at h
  obtain rfl := (R0_1 ws (KeptB.refl _ _)).1
  obtain rfl := (R0_2 ws (KeptB.refl _ _)).1
  obtain rfl := (R1 ws (KeptB.refl _ _)).1
  refine enter Try.func119 rfl Try.ntmps119 rfl hF ?_
  refine c_seq ?_
  refine za0 ?_
  refine o_e rfl (e_box rfl) (fun g1 => ?_)
  refine o_q rfl rfl (q_asg rfl) ?_
  refine o_end ?_
  refine za1 ?_
  refine c_seq ?_
  refine c_seq ?_
  refine za0 ?_
  refine o_q rfl rfl (za3 rfl) ?_
  refine o_q rfl rfl (q_len Try.underlying25 rfl) ?_
  refine o_q rfl rfl (q_f F27_1 rfl) ?_
  refine o_q rfl rfl (q_ldb Y24 rfl (fun w h => h.zaa (i := 0) rfl) rfl) ?_
  refine o_q rfl rfl (q_len Try.underlying24 rfl) ?_
  refine o_q rfl rfl (q_neq rfl rfl) ?_
  refine o_end ?_
  refine za1 ?_
  refine zas _ rfl (fun hb3 => ?_) (fun hb3 => ?_)
  · skip
    replace h := br_t hb3 h
    refine c_seq ?_
    refine za0 ?_
    refine o_q rfl rfl (q_asg rfl) ?_
    refine o_end ?_
    refine za1 ?_
    refine c_ret ?_
    refine za5 ?_
    have e0_ := Option.some.inj h; clear h
    subst e0_
    exact x_r1 () Try.results119 (zaf rfl) rfl (fun w h => za7 [] (by decide) rfl w h)
  · skip
    replace h := br_f hb3 h
    refine zao ?_
    refine za1 ?_
    refine c_seq ?_
    refine c_seq ?_
    refine za0 ?_
    refine o_q rfl rfl (za3 rfl) ?_
    refine o_q rfl rfl (q_len Try.underlying25 rfl) ?_
    refine o_q rfl rfl (za3 rfl) ?_
    refine o_end ?_
    refine za1 ?_
    refine zal ?_
    refine za9 h (fun o12 hl11 hR10 => ?_) rfl
    clear h
    refine c_fact (p := l1.length ≤ 9223372036854775807) (fun w h => (R1.now Z h).2.1) (fun hm9 => ?_)
    refine zax (σ := (List Int) × Int) (fun k7 ((ys6, i4) : (List Int) × Int) => Rg l1 i4 ys6 ∧ ys6.length = k7 ∧ spec_plOrder.l0 a0_0 l0_1 l1 ys6 i4 = some o12) [4, 5, 6, 7, 16, 17, 18, 19, 20, 21, 22, 23, 24, 25, 26, 27, 28, 29, 30, 31, 32, 33, 34, 35, 36, 37, 38, 39, 40, 41, 42, 43, 44, 45, 46, 47, 48, 49, 50, 51, 52, 53, 54, 55, 56, 57, 58, 59, 60, 61, 62, 63, 64, 65, 66, 67, 68, 69, 70, 71, 72, 73, 74, 75, 76] (fun ((ys6, i4) : (List Int) × Int) => [(16, .int .i64 i4)]) (fun ((ys6, i4) : (List Int) × Int) => [box g1 27 #[.int .i64 a0_0, .slice A0_1 l0_1.length c0_1, .slice A0_2 l0_2.length c0_2]]) l1.length (l1, 0) ⟨Rg.start _, rfl, hl11⟩ ⟨rfl, trivial⟩ (fun w h => h) ?_
    refine fun k7 => cur2 (listC (fun i4 U13 hJ_ => ?_) (fun y5 ys6 i4 U13 hJ_ => ?_))
    · skip
      clear hl11
      have hr8 := hJ_.1; have hk14 := hJ_.2.1; have h := hJ_.2.2; clear hJ_
      replace h : spec_plOrder.l0 a0_0 l0_1 l1 [] i4 = some o12 := h
      rw [spec_plOrder.l0] at h
      refine c_seq ?_
      refine za0 ?_
      refine o_q rfl rfl (q_lss rfl rfl) ?_
      refine o_end ?_
      refine za1 ?_
      refine c_seq ?_
      refine c_false (congrArg Value.bool hr8.ge) ?_
      refine c_exit ?_
      refine za8 ?_
      refine za8 ?_
      have e_ := Option.some.inj h; replace h := hR10; rw [← e_] at h; clear e_
      refine x_hit ?_
      refine za1 ?_
      refine c_seq ?_
      refine za0 ?_
      refine o_q rfl rfl (q_asg rfl) ?_
      refine o_end ?_
      refine za1 ?_
      refine c_ret ?_
      have e0_ := Option.some.inj h; clear h
      subst e0_
      exact x_r1 () Try.results119 (zaf rfl) rfl (fun w h => za7 [] (by decide) rfl w h)
    · skip
      clear hl11
      have hr8 := hJ_.1; have hk14 := hJ_.2.1; have h := hJ_.2.2; clear hJ_
      replace h : spec_plOrder.l0 a0_0 l0_1 l1 (y5 :: ys6) i4 = some o12 := h
      rw [spec_plOrder.l0] at h
      refine c_seq ?_
      refine za0 ?_
      refine o_q rfl rfl (q_lss rfl rfl) ?_
      refine o_end ?_
      refine za1 ?_
      refine c_seq ?_
      refine zay (congrArg Value.bool hr8.lt) ?_
      refine zao ?_
      refine za1 ?_
      refine c_seq ?_
      refine zal ?_
      refine c_seq ?_
      refine za0 ?_
      refine o_q rfl rfl (za3 rfl) ?_
      refine o_fact (p := Sh A1 l1.length l1.length) (fun w h => f_sh (dk := (Kd.int .i64)) h (fun w h => R1.now Z h)) (fun hq15 => ?_)
      refine o_q rfl rfl (q_ix Try.underlying25 Z3 rfl rfl hq15 hr8.get) ?_
      refine o_q rfl rfl (q_lde (off := 0) Y3 rfl rfl (fun w h => R1.now Z h) hr8.get (fun _ _ h => h) rfl) ?_
      refine o_q rfl rfl (q_asg rfl) ?_
      refine o_q rfl rfl (q_asg rfl) ?_
      refine o_end ?_
      refine za1 ?_
      refine c_seq ?_
      refine c_seq ?_
      refine za0 ?_
      refine o_q rfl rfl (za3 rfl) ?_
      refine o_q rfl rfl (q_f F27_1 rfl) ?_
      refine o_q rfl rfl (q_ldb Y24 rfl (fun w h => h.zaa (i := 0) rfl) rfl) ?_
      refine o_q rfl rfl (q_len Try.underlying24 rfl) ?_
      refine o_q rfl rfl (q_sub64 rfl rfl) ?_
      refine za9 h (fun b17 hx16 h => ?_) rfl
      refine o_e rfl (zac 0 Z Try.func94 N94 rfl rfl rfl (fun w P1 hF hB hS hT => spec_l1In.calls y5 0 (w64 ((l0_1.length : Int) - 1)) hB hF _ hx16)) (fun _ => ?_)
      refine o_q rfl rfl (q_not rfl) ?_
      refine o_q rfl rfl (za3 rfl) ?_
      refine byB b17 (fun hb18 => ?_) (fun hb18 => ?_)
      · replace h := bb_t hb18 h
        refine o_w (za4 rfl rfl rfl (congrArg (fun b => Value.bool (!(b))) hb18)) rfl (za3 rfl) ?_
        refine o_w (za4 rfl rfl rfl (congrArg (fun b => Value.bool (!(b))) hb18)) rfl (za3 rfl) ?_
        refine za9 h (fun l19 hz20 h => ?_) rfl
        refine o_w (za4 rfl rfl rfl (congrArg (fun b => Value.bool (!(b))) hb18)) rfl (q_ctv Try.underlying25 Z3 rfl rfl ⟨_, rfl⟩ rfl hc1 hz20) ?_
        refine o_w (za4 rfl rfl rfl (congrArg (fun b => Value.bool (!(b))) hb18)) rfl (za3 rfl) ?_
        refine za9 h (fun b22 hx21 h => ?_) rfl
        refine o_ew (za4 rfl rfl rfl (congrArg (fun b => Value.bool (!(b))) hb18)) (zac 0 Z Try.func189 N189 rfl rfl rfl (fun w P1 hF hB hS hT => spec_l1Has.calls (cutA A1 c1 (0 : Int).toNat 1) (c1 - (0 : Int).toNat) l19.length l19 y5 hB hF (stab_cut (dk := (Kd.int .i64)) rfl hz20 hc1 (hS _ R1)) (ct_cap hz20 rfl hc1) _ hx21)) (fun _ => ?_)
        refine o_q rfl rfl (zak false (congrArg (fun b => Value.bool (!(b))) hb18) rfl) ?_
        refine o_end ?_
        refine za1 ?_
        refine zas _ rfl (fun hb23 => ?_) (fun hb23 => ?_)
        · skip
          replace h := bb_t hb23 h
          refine c_seq ?_
          refine za0 ?_
          refine o_q rfl rfl (q_asg rfl) ?_
          refine o_end ?_
          refine za1 ?_
          refine c_ret ?_
          refine za5 ?_
          refine zah ?_
          refine za5 ?_
          refine za5 ?_
          have e_ := Option.some.inj h; replace h := hR10; rw [← e_] at h; clear e_
          refine zah ?_
          refine za5 ?_
          have e0_ := Option.some.inj h; clear h
          subst e0_
          exact x_r1 () Try.results119 (zaf rfl) rfl (fun w h => za7 [] (by decide) rfl w h)
        · skip
          replace h := bb_f hb23 h
          refine zao ?_
          refine za1 ?_
          refine c_seq ?_
          refine za0 ?_
          refine o_q rfl rfl (q_f F27_1 rfl) ?_
          refine o_q rfl rfl (q_ldb Y24 rfl (fun w h => h.zaa (i := 0) rfl) rfl) ?_
          refine o_q rfl rfl (za3 rfl) ?_
          refine o_fact (p := Sh A0_1 l0_1.length l0_1.length) (fun w h => f_sh (dk := kStep) h (fun w h => R0_1.now Z h)) (fun hq24 => ?_)
          refine za9 h (fun y26 hg25 h => ?_) rfl
          refine o_q rfl rfl (q_ix Try.underlying24 Z89 rfl rfl hq24 hg25) ?_
          refine o_q rfl rfl (q_ldE G89 Z89 rfl rfl (fun w h => R0_1.now Z h) hg25 (fun _ _ h => h) rfl) ?_
          refine o_e rfl (e_alloc V89 rfl) (fun g27 => ?_)
          refine o_e rfl (zau (i := 0) rfl rfl rfl Z89 rfl rfl) (fun _ => ?_)
          refine o_end ?_
          refine za1 ?_
          refine c_seq ?_
          refine a_start (ds := []) MO rfl ?_
          refine za6 0 rfl rfl rfl (by kernel_rfl) (fun _ _ _ h => h) (q_f F89_0 rfl) ?_
          refine a_take 1 rfl rfl rfl (by kernel_rfl) (fun _ _ _ h => h) (fun w h => h) (q_ldb Y3 rfl (fun w h => h.zaa (i := 0) rfl) rfl) ?_
          refine za6 2 rfl rfl rfl (by kernel_rfl) (fun _ _ _ h => h) (q_f F27_0 rfl) ?_
          refine a_take 3 rfl rfl rfl (by kernel_rfl) (fun _ _ _ h => h) (fun w h => h) (q_ldb Y3 rfl (fun w h => h.zaa (i := 1) rfl) rfl) ?_
          refine za6 4 rfl rfl rfl (by kernel_rfl) (fun _ _ _ h => h) (q_geq rfl rfl) ?_
          refine za6 5 rfl rfl rfl (by kernel_rfl) (fun _ _ _ h => h) (za3 rfl) ?_
          refine byB (decide (a0_0 ≤ y26.f0)) (fun hb29 => ?_) (fun hb29 => ?_)
          · replace h := br_t hb29 h
            refine zat 6 rfl rfl (za4 rfl rfl rfl (congrArg Value.bool hb29)) (by kernel_rfl) (fun _ _ _ h => h) (za3 rfl) ?_
            refine zat 7 rfl rfl (za4 rfl rfl rfl (congrArg Value.bool hb29)) (by kernel_rfl) (fun _ _ _ h => h) (za3 rfl) ?_
            refine za9 h (fun l30 hz31 h => ?_) rfl
            refine zat 8 rfl rfl (za4 rfl rfl rfl (congrArg Value.bool hb29)) (by kernel_rfl) (fun _ _ _ h => h) (q_ctv Try.underlying25 Z3 rfl rfl ⟨_, rfl⟩ rfl hc1 hz31) ?_
            refine zat 9 rfl rfl (za4 rfl rfl rfl (congrArg Value.bool hb29)) (by kernel_rfl) (fun _ _ _ h => h) (q_f F89_0 rfl) ?_
            refine a_takew 10 rfl rfl (za4 rfl rfl rfl (congrArg Value.bool hb29)) (by kernel_rfl) (fun _ _ _ h => h) (fun w h => h) (q_ldb Y3 rfl (fun w h => h.zaa (i := 0) rfl) rfl) ?_
            refine zat 11 rfl rfl (za4 rfl rfl rfl (congrArg Value.bool hb29)) (by kernel_rfl) (fun _ _ _ h => h) (q_f F27_0 rfl) ?_
            refine a_takew 12 rfl rfl (za4 rfl rfl rfl (congrArg Value.bool hb29)) (by kernel_rfl) (fun _ _ _ h => h) (fun w h => h) (q_ldb Y3 rfl (fun w h => h.zaa (i := 1) rfl) rfl) ?_
            refine zat 13 rfl rfl (za4 rfl rfl rfl (congrArg Value.bool hb29)) (by kernel_rfl) (fun _ _ _ h => h) (q_sub64 rfl rfl) ?_
            refine za9 h (fun b33 hx32 h => ?_) rfl
            refine a_onew 14 rfl (za4 rfl rfl rfl (congrArg Value.bool hb29)) (by kernel_rfl) rfl (zac 0 Z Try.func189 N189 rfl rfl rfl (fun w P1 hF hB hS hT => spec_l1Has.calls (cutA A1 c1 (0 : Int).toNat 1) (c1 - (0 : Int).toNat) l30.length l30 (w64 (y26.f0 - a0_0)) hB hF (stab_cut (dk := (Kd.int .i64)) rfl hz31 hc1 (hS _ R1)) (ct_cap hz31 rfl hc1) _ hx32)) (fun s w h => h) (fun _ => ?_)
            refine zat 15 rfl rfl (za4 rfl rfl rfl (congrArg Value.bool hb29)) (by kernel_rfl) (fun _ _ _ h => h) (q_not rfl) ?_
            refine za6 16 rfl rfl rfl (by kernel_rfl) (fun _ _ _ h => h) (zak true (congrArg Value.bool hb29) rfl) ?_
            refine za6 17 rfl rfl rfl (by kernel_rfl) (fun _ _ _ h => h) (za3 rfl) ?_
            refine byB b33 (fun hb34 => ?_) (fun hb34 => ?_)
            · replace h := bb_t hb34 h
              refine zat 18 rfl rfl (za4 rfl rfl rfl (congrArg (fun b => Value.bool (!(b))) hb34)) (by kernel_rfl) (fun _ _ _ h => h) (q_f F89_1 rfl) ?_
              refine a_takew 19 rfl rfl (za4 rfl rfl rfl (congrArg (fun b => Value.bool (!(b))) hb34)) (by kernel_rfl) (fun _ _ _ h => h) (fun w h => h) (q_ldb Y3 rfl (fun w h => h.zaa (i := 0) rfl) rfl) ?_
              refine zat 20 rfl rfl (za4 rfl rfl rfl (congrArg (fun b => Value.bool (!(b))) hb34)) (by kernel_rfl) (fun _ _ _ h => h) (q_f F27_0 rfl) ?_
              refine a_takew 21 rfl rfl (za4 rfl rfl rfl (congrArg (fun b => Value.bool (!(b))) hb34)) (by kernel_rfl) (fun _ _ _ h => h) (fun w h => h) (q_ldb Y3 rfl (fun w h => h.zaa (i := 1) rfl) rfl) ?_
              refine zat 22 rfl rfl (za4 rfl rfl rfl (congrArg (fun b => Value.bool (!(b))) hb34)) (by kernel_rfl) (fun _ _ _ h => h) (q_geq rfl rfl) ?_
              refine zat 23 rfl rfl (za4 rfl rfl rfl (congrArg (fun b => Value.bool (!(b))) hb34)) (by kernel_rfl) (fun _ _ _ h => h) (za3 rfl) ?_
              refine byB (decide (a0_0 ≤ y26.f1)) (fun hb35 => ?_) (fun hb35 => ?_)
              · replace h := br_t hb35 h
                refine zat 24 rfl rfl (za4 rfl rfl rfl (congrArg Value.bool hb35)) (by kernel_rfl) (fun _ _ _ h => h) (za3 rfl) ?_
                refine zat 25 rfl rfl (za4 rfl rfl rfl (congrArg Value.bool hb35)) (by kernel_rfl) (fun _ _ _ h => h) (za3 rfl) ?_
                refine za9 h (fun l36 hz37 h => ?_) rfl
                refine zat 26 rfl rfl (za4 rfl rfl rfl (congrArg Value.bool hb35)) (by kernel_rfl) (fun _ _ _ h => h) (q_ctv Try.underlying25 Z3 rfl rfl ⟨_, rfl⟩ rfl hc1 hz37) ?_
                refine zat 27 rfl rfl (za4 rfl rfl rfl (congrArg Value.bool hb35)) (by kernel_rfl) (fun _ _ _ h => h) (q_f F89_1 rfl) ?_
                refine a_takew 28 rfl rfl (za4 rfl rfl rfl (congrArg Value.bool hb35)) (by kernel_rfl) (fun _ _ _ h => h) (fun w h => h) (q_ldb Y3 rfl (fun w h => h.zaa (i := 0) rfl) rfl) ?_
                refine zat 29 rfl rfl (za4 rfl rfl rfl (congrArg Value.bool hb35)) (by kernel_rfl) (fun _ _ _ h => h) (q_f F27_0 rfl) ?_
                refine a_takew 30 rfl rfl (za4 rfl rfl rfl (congrArg Value.bool hb35)) (by kernel_rfl) (fun _ _ _ h => h) (fun w h => h) (q_ldb Y3 rfl (fun w h => h.zaa (i := 1) rfl) rfl) ?_
                refine zat 31 rfl rfl (za4 rfl rfl rfl (congrArg Value.bool hb35)) (by kernel_rfl) (fun _ _ _ h => h) (q_sub64 rfl rfl) ?_
                refine za9 h (fun b39 hx38 h => ?_) rfl
                refine a_onew 32 rfl (za4 rfl rfl rfl (congrArg Value.bool hb35)) (by kernel_rfl) rfl (zac 0 Z Try.func189 N189 rfl rfl rfl (fun w P1 hF hB hS hT => spec_l1Has.calls (cutA A1 c1 (0 : Int).toNat 1) (c1 - (0 : Int).toNat) l36.length l36 (w64 (y26.f1 - a0_0)) hB hF (stab_cut (dk := (Kd.int .i64)) rfl hz37 hc1 (hS _ R1)) (ct_cap hz37 rfl hc1) _ hx38)) (fun s w h => h) (fun _ => ?_)
                refine zat 33 rfl rfl (za4 rfl rfl rfl (congrArg Value.bool hb35)) (by kernel_rfl) (fun _ _ _ h => h) (q_not rfl) ?_
                refine zat 34 rfl rfl (za4 rfl rfl rfl (congrArg (fun b => Value.bool (!(b))) hb34)) (by kernel_rfl) (fun _ _ _ h => h) (zak true (congrArg Value.bool hb35) rfl) ?_
                refine za6 35 rfl rfl rfl (by kernel_rfl) (fun _ _ _ h => h) (zak false (congrArg (fun b => Value.bool (!(b))) hb34) rfl) ?_
                refine zaw (by kernel_rfl) ?_
                refine za1 ?_
                refine zas _ rfl (fun hb40 => ?_) (fun hb40 => ?_)
                · replace hb40 := nt_t hb40
                  replace h := bb_f hb40 h
                  refine c_seq ?_
                  refine za0 ?_
                  refine o_q rfl rfl (q_asg rfl) ?_
                  refine o_end ?_
                  refine za1 ?_
                  refine c_ret ?_
                  refine zah ?_
                  refine za5 ?_
                  refine za5 ?_
                  have e_ := Option.some.inj h; replace h := hR10; rw [← e_] at h; clear e_
                  refine zah ?_
                  refine za5 ?_
                  have e0_ := Option.some.inj h; clear h
                  subst e0_
                  exact x_r1 () Try.results119 (zaf rfl) rfl (fun w h => za7 [] (by decide) rfl w h)
                · replace hb40 := nt_f hb40
                  replace h := bb_t hb40 h
                  refine zao ?_
                  refine zan ?_
                  refine za1 ?_
                  refine za0 ?_
                  refine o_q rfl rfl (q_up rfl rfl (hr8.up hm9)) ?_
                  refine o_q rfl rfl (za3 rfl) ?_
                  refine o_end ?_
                  refine zam ys6.length (ys6, i4 + 1) (by rw [← hk14]; exact Nat.lt_succ_self _) ⟨hr8.step, rfl, h⟩ ⟨rfl, trivial⟩ (fun w h => za7 [1] (by decide) rfl w h) ?_
                  repeat (first | exact zad _ _ | refine zai rfl ?_ | refine zae rfl ?_ | refine zaj rfl ?_)
              · replace h := br_f hb35 h
                refine a_no 24 rfl rfl (za2 rfl rfl rfl (congrArg Value.bool hb35) rfl) (by kernel_rfl) (fun _ _ _ h => h) ?_
                refine a_no 25 rfl rfl (za2 rfl rfl rfl (congrArg Value.bool hb35) rfl) (by kernel_rfl) (fun _ _ _ h => h) ?_
                refine a_no 26 rfl rfl (za2 rfl rfl rfl (congrArg Value.bool hb35) rfl) (by kernel_rfl) (fun _ _ _ h => h) ?_
                refine a_no 27 rfl rfl (za2 rfl rfl rfl (congrArg Value.bool hb35) rfl) (by kernel_rfl) (fun _ _ _ h => h) ?_
                refine a_no 28 rfl rfl (za2 rfl rfl rfl (congrArg Value.bool hb35) rfl) (by kernel_rfl) (fun _ _ _ h => h) ?_
                refine a_no 29 rfl rfl (za2 rfl rfl rfl (congrArg Value.bool hb35) rfl) (by kernel_rfl) (fun _ _ _ h => h) ?_
                refine a_no 30 rfl rfl (za2 rfl rfl rfl (congrArg Value.bool hb35) rfl) (by kernel_rfl) (fun _ _ _ h => h) ?_
                refine a_no 31 rfl rfl (za2 rfl rfl rfl (congrArg Value.bool hb35) rfl) (by kernel_rfl) (fun _ _ _ h => h) ?_
                refine a_no 32 rfl rfl (za2 rfl rfl rfl (congrArg Value.bool hb35) rfl) (by kernel_rfl) (fun _ _ _ h => h) ?_
                refine a_no 33 rfl rfl (za2 rfl rfl rfl (congrArg Value.bool hb35) rfl) (by kernel_rfl) (fun _ _ _ h => h) ?_
                refine zat 34 rfl rfl (za4 rfl rfl rfl (congrArg (fun b => Value.bool (!(b))) hb34)) (by kernel_rfl) (fun _ _ _ h => h) (zak false (congrArg Value.bool hb35) rfl) ?_
                refine za6 35 rfl rfl rfl (by kernel_rfl) (fun _ _ _ h => h) (zak false (congrArg (fun b => Value.bool (!(b))) hb34) rfl) ?_
                refine zaw (by kernel_rfl) ?_
                refine za1 ?_
                refine c_false rfl ?_
                refine zao ?_
                refine zan ?_
                refine za1 ?_
                refine za0 ?_
                refine o_q rfl rfl (q_up rfl rfl (hr8.up hm9)) ?_
                refine o_q rfl rfl (za3 rfl) ?_
                refine o_end ?_
                refine zam ys6.length (ys6, i4 + 1) (by rw [← hk14]; exact Nat.lt_succ_self _) ⟨hr8.step, rfl, h⟩ ⟨rfl, trivial⟩ (fun w h => za7 [1] (by decide) rfl w h) ?_
                repeat (first | exact zad _ _ | refine zai rfl ?_ | refine zae rfl ?_ | refine zaj rfl ?_)
            · replace h := bb_f hb34 h
              refine a_no 18 rfl rfl (za2 rfl rfl rfl (congrArg (fun b => Value.bool (!(b))) hb34) rfl) (by kernel_rfl) (fun _ _ _ h => h) ?_
              refine a_no 19 rfl rfl (za2 rfl rfl rfl (congrArg (fun b => Value.bool (!(b))) hb34) rfl) (by kernel_rfl) (fun _ _ _ h => h) ?_
              refine a_no 20 rfl rfl (za2 rfl rfl rfl (congrArg (fun b => Value.bool (!(b))) hb34) rfl) (by kernel_rfl) (fun _ _ _ h => h) ?_
              refine a_no 21 rfl rfl (za2 rfl rfl rfl (congrArg (fun b => Value.bool (!(b))) hb34) rfl) (by kernel_rfl) (fun _ _ _ h => h) ?_
              refine a_no 22 rfl rfl (za2 rfl rfl rfl (congrArg (fun b => Value.bool (!(b))) hb34) rfl) (by kernel_rfl) (fun _ _ _ h => h) ?_
              refine a_no 23 rfl rfl (za2 rfl rfl rfl (congrArg (fun b => Value.bool (!(b))) hb34) rfl) (by kernel_rfl) (fun _ _ _ h => h) ?_
              refine a_no 24 rfl rfl (wanted_un rfl rfl rfl rfl) (by kernel_rfl) (fun _ _ _ h => h) ?_
              refine a_no 25 rfl rfl (wanted_un rfl rfl rfl rfl) (by kernel_rfl) (fun _ _ _ h => h) ?_
              refine a_no 26 rfl rfl (wanted_un rfl rfl rfl rfl) (by kernel_rfl) (fun _ _ _ h => h) ?_
              refine a_no 27 rfl rfl (wanted_un rfl rfl rfl rfl) (by kernel_rfl) (fun _ _ _ h => h) ?_
              refine a_no 28 rfl rfl (wanted_un rfl rfl rfl rfl) (by kernel_rfl) (fun _ _ _ h => h) ?_
              refine a_no 29 rfl rfl (wanted_un rfl rfl rfl rfl) (by kernel_rfl) (fun _ _ _ h => h) ?_
              refine a_no 30 rfl rfl (wanted_un rfl rfl rfl rfl) (by kernel_rfl) (fun _ _ _ h => h) ?_
              refine a_no 31 rfl rfl (wanted_un rfl rfl rfl rfl) (by kernel_rfl) (fun _ _ _ h => h) ?_
              refine a_no 32 rfl rfl (wanted_un rfl rfl rfl rfl) (by kernel_rfl) (fun _ _ _ h => h) ?_
              refine a_no 33 rfl rfl (wanted_un rfl rfl rfl rfl) (by kernel_rfl) (fun _ _ _ h => h) ?_
              refine a_no 34 rfl rfl (za2 rfl rfl rfl (congrArg (fun b => Value.bool (!(b))) hb34) rfl) (by kernel_rfl) (fun _ _ _ h => h) ?_
              refine za6 35 rfl rfl rfl (by kernel_rfl) (fun _ _ _ h => h) (zak true (congrArg (fun b => Value.bool (!(b))) hb34) rfl) ?_
              refine zaw (by kernel_rfl) ?_
              refine za1 ?_
              refine zay rfl ?_
              refine c_seq ?_
              refine za0 ?_
              refine o_q rfl rfl (q_asg rfl) ?_
              refine o_end ?_
              refine za1 ?_
              refine c_ret ?_
              refine zah ?_
              refine za5 ?_
              refine za5 ?_
              have e_ := Option.some.inj h; replace h := hR10; rw [← e_] at h; clear e_
              refine zah ?_
              refine za5 ?_
              have e0_ := Option.some.inj h; clear h
              subst e0_
              exact x_r1 () Try.results119 (zaf rfl) rfl (fun w h => za7 [] (by decide) rfl w h)
          · replace h := br_f hb29 h
            refine a_no 6 rfl rfl (za2 rfl rfl rfl (congrArg Value.bool hb29) rfl) (by kernel_rfl) (fun _ _ _ h => h) ?_
            refine a_no 7 rfl rfl (za2 rfl rfl rfl (congrArg Value.bool hb29) rfl) (by kernel_rfl) (fun _ _ _ h => h) ?_
            refine a_no 8 rfl rfl (za2 rfl rfl rfl (congrArg Value.bool hb29) rfl) (by kernel_rfl) (fun _ _ _ h => h) ?_
            refine a_no 9 rfl rfl (za2 rfl rfl rfl (congrArg Value.bool hb29) rfl) (by kernel_rfl) (fun _ _ _ h => h) ?_
            refine a_no 10 rfl rfl (za2 rfl rfl rfl (congrArg Value.bool hb29) rfl) (by kernel_rfl) (fun _ _ _ h => h) ?_
            refine a_no 11 rfl rfl (za2 rfl rfl rfl (congrArg Value.bool hb29) rfl) (by kernel_rfl) (fun _ _ _ h => h) ?_
            refine a_no 12 rfl rfl (za2 rfl rfl rfl (congrArg Value.bool hb29) rfl) (by kernel_rfl) (fun _ _ _ h => h) ?_
            refine a_no 13 rfl rfl (za2 rfl rfl rfl (congrArg Value.bool hb29) rfl) (by kernel_rfl) (fun _ _ _ h => h) ?_
            refine a_no 14 rfl rfl (za2 rfl rfl rfl (congrArg Value.bool hb29) rfl) (by kernel_rfl) (fun _ _ _ h => h) ?_
            refine a_no 15 rfl rfl (za2 rfl rfl rfl (congrArg Value.bool hb29) rfl) (by kernel_rfl) (fun _ _ _ h => h) ?_
            refine za6 16 rfl rfl rfl (by kernel_rfl) (fun _ _ _ h => h) (zak false (congrArg Value.bool hb29) rfl) ?_
            refine za6 17 rfl rfl rfl (by kernel_rfl) (fun _ _ _ h => h) (za3 rfl) ?_
            refine zat 18 rfl rfl (za4 rfl rfl rfl rfl) (by kernel_rfl) (fun _ _ _ h => h) (q_f F89_1 rfl) ?_
            refine a_takew 19 rfl rfl (za4 rfl rfl rfl rfl) (by kernel_rfl) (fun _ _ _ h => h) (fun w h => h) (q_ldb Y3 rfl (fun w h => h.zaa (i := 0) rfl) rfl) ?_
            refine zat 20 rfl rfl (za4 rfl rfl rfl rfl) (by kernel_rfl) (fun _ _ _ h => h) (q_f F27_0 rfl) ?_
            refine a_takew 21 rfl rfl (za4 rfl rfl rfl rfl) (by kernel_rfl) (fun _ _ _ h => h) (fun w h => h) (q_ldb Y3 rfl (fun w h => h.zaa (i := 1) rfl) rfl) ?_
            refine zat 22 rfl rfl (za4 rfl rfl rfl rfl) (by kernel_rfl) (fun _ _ _ h => h) (q_geq rfl rfl) ?_
            refine zat 23 rfl rfl (za4 rfl rfl rfl rfl) (by kernel_rfl) (fun _ _ _ h => h) (za3 rfl) ?_
            refine byB (decide (a0_0 ≤ y26.f1)) (fun hb41 => ?_) (fun hb41 => ?_)
            · replace h := br_t hb41 h
              refine zat 24 rfl rfl (za4 rfl rfl rfl (congrArg Value.bool hb41)) (by kernel_rfl) (fun _ _ _ h => h) (za3 rfl) ?_
              refine zat 25 rfl rfl (za4 rfl rfl rfl (congrArg Value.bool hb41)) (by kernel_rfl) (fun _ _ _ h => h) (za3 rfl) ?_
              refine za9 h (fun l42 hz43 h => ?_) rfl
              refine zat 26 rfl rfl (za4 rfl rfl rfl (congrArg Value.bool hb41)) (by kernel_rfl) (fun _ _ _ h => h) (q_ctv Try.underlying25 Z3 rfl rfl ⟨_, rfl⟩ rfl hc1 hz43) ?_
              refine zat 27 rfl rfl (za4 rfl rfl rfl (congrArg Value.bool hb41)) (by kernel_rfl) (fun _ _ _ h => h) (q_f F89_1 rfl) ?_
              refine a_takew 28 rfl rfl (za4 rfl rfl rfl (congrArg Value.bool hb41)) (by kernel_rfl) (fun _ _ _ h => h) (fun w h => h) (q_ldb Y3 rfl (fun w h => h.zaa (i := 0) rfl) rfl) ?_
              refine zat 29 rfl rfl (za4 rfl rfl rfl (congrArg Value.bool hb41)) (by kernel_rfl) (fun _ _ _ h => h) (q_f F27_0 rfl) ?_
              refine a_takew 30 rfl rfl (za4 rfl rfl rfl (congrArg Value.bool hb41)) (by kernel_rfl) (fun _ _ _ h => h) (fun w h => h) (q_ldb Y3 rfl (fun w h => h.zaa (i := 1) rfl) rfl) ?_
              refine zat 31 rfl rfl (za4 rfl rfl rfl (congrArg Value.bool hb41)) (by kernel_rfl) (fun _ _ _ h => h) (q_sub64 rfl rfl) ?_
              refine za9 h (fun b45 hx44 h => ?_) rfl
              refine a_onew 32 rfl (za4 rfl rfl rfl (congrArg Value.bool hb41)) (by kernel_rfl) rfl (zac 0 Z Try.func189 N189 rfl rfl rfl (fun w P1 hF hB hS hT => spec_l1Has.calls (cutA A1 c1 (0 : Int).toNat 1) (c1 - (0 : Int).toNat) l42.length l42 (w64 (y26.f1 - a0_0)) hB hF (stab_cut (dk := (Kd.int .i64)) rfl hz43 hc1 (hS _ R1)) (ct_cap hz43 rfl hc1) _ hx44)) (fun s w h => h) (fun _ => ?_)
              refine zat 33 rfl rfl (za4 rfl rfl rfl (congrArg Value.bool hb41)) (by kernel_rfl) (fun _ _ _ h => h) (q_not rfl) ?_
              refine zat 34 rfl rfl (za4 rfl rfl rfl rfl) (by kernel_rfl) (fun _ _ _ h => h) (zak true (congrArg Value.bool hb41) rfl) ?_
              refine za6 35 rfl rfl rfl (by kernel_rfl) (fun _ _ _ h => h) (zak false rfl rfl) ?_
              refine zaw (by kernel_rfl) ?_
              refine za1 ?_
              refine zas _ rfl (fun hb46 => ?_) (fun hb46 => ?_)
              · replace hb46 := nt_t hb46
                replace h := bb_f hb46 h
                refine c_seq ?_
                refine za0 ?_
                refine o_q rfl rfl (q_asg rfl) ?_
                refine o_end ?_
                refine za1 ?_
                refine c_ret ?_
                refine zah ?_
                refine za5 ?_
                refine za5 ?_
                have e_ := Option.some.inj h; replace h := hR10; rw [← e_] at h; clear e_
                refine zah ?_
                refine za5 ?_
                have e0_ := Option.some.inj h; clear h
                subst e0_
                exact x_r1 () Try.results119 (zaf rfl) rfl (fun w h => za7 [] (by decide) rfl w h)
              · replace hb46 := nt_f hb46
                replace h := bb_t hb46 h
                refine zao ?_
                refine zan ?_
                refine za1 ?_
                refine za0 ?_
                refine o_q rfl rfl (q_up rfl rfl (hr8.up hm9)) ?_
                refine o_q rfl rfl (za3 rfl) ?_
                refine o_end ?_
                refine zam ys6.length (ys6, i4 + 1) (by rw [← hk14]; exact Nat.lt_succ_self _) ⟨hr8.step, rfl, h⟩ ⟨rfl, trivial⟩ (fun w h => za7 [1] (by decide) rfl w h) ?_
                repeat (first | exact zad _ _ | refine zai rfl ?_ | refine zae rfl ?_ | refine zaj rfl ?_)
            · replace h := br_f hb41 h
              refine a_no 24 rfl rfl (za2 rfl rfl rfl (congrArg Value.bool hb41) rfl) (by kernel_rfl) (fun _ _ _ h => h) ?_
              refine a_no 25 rfl rfl (za2 rfl rfl rfl (congrArg Value.bool hb41) rfl) (by kernel_rfl) (fun _ _ _ h => h) ?_
              refine a_no 26 rfl rfl (za2 rfl rfl rfl (congrArg Value.bool hb41) rfl) (by kernel_rfl) (fun _ _ _ h => h) ?_
              refine a_no 27 rfl rfl (za2 rfl rfl rfl (congrArg Value.bool hb41) rfl) (by kernel_rfl) (fun _ _ _ h => h) ?_
              refine a_no 28 rfl rfl (za2 rfl rfl rfl (congrArg Value.bool hb41) rfl) (by kernel_rfl) (fun _ _ _ h => h) ?_
              refine a_no 29 rfl rfl (za2 rfl rfl rfl (congrArg Value.bool hb41) rfl) (by kernel_rfl) (fun _ _ _ h => h) ?_
              refine a_no 30 rfl rfl (za2 rfl rfl rfl (congrArg Value.bool hb41) rfl) (by kernel_rfl) (fun _ _ _ h => h) ?_
              refine a_no 31 rfl rfl (za2 rfl rfl rfl (congrArg Value.bool hb41) rfl) (by kernel_rfl) (fun _ _ _ h => h) ?_
              refine a_no 32 rfl rfl (za2 rfl rfl rfl (congrArg Value.bool hb41) rfl) (by kernel_rfl) (fun _ _ _ h => h) ?_
              refine a_no 33 rfl rfl (za2 rfl rfl rfl (congrArg Value.bool hb41) rfl) (by kernel_rfl) (fun _ _ _ h => h) ?_
              refine zat 34 rfl rfl (za4 rfl rfl rfl rfl) (by kernel_rfl) (fun _ _ _ h => h) (zak false (congrArg Value.bool hb41) rfl) ?_
              refine za6 35 rfl rfl rfl (by kernel_rfl) (fun _ _ _ h => h) (zak false rfl rfl) ?_
              refine zaw (by kernel_rfl) ?_
              refine za1 ?_
              refine c_false rfl ?_
              refine zao ?_
              refine zan ?_
              refine za1 ?_
              refine za0 ?_
              refine o_q rfl rfl (q_up rfl rfl (hr8.up hm9)) ?_
              refine o_q rfl rfl (za3 rfl) ?_
              refine o_end ?_
              refine zam ys6.length (ys6, i4 + 1) (by rw [← hk14]; exact Nat.lt_succ_self _) ⟨hr8.step, rfl, h⟩ ⟨rfl, trivial⟩ (fun w h => za7 [1] (by decide) rfl w h) ?_
              repeat (first | exact zad _ _ | refine zai rfl ?_ | refine zae rfl ?_ | refine zaj rfl ?_)
      · replace h := bb_f hb18 h
        refine @o_n _ _ _ _ _ _ _ _ _ _ _ 29 (za2 rfl rfl rfl (congrArg (fun b => Value.bool (!(b))) hb18) rfl) (Eq.refl (some 29)) ?_
        refine @o_n _ _ _ _ _ _ _ _ _ _ _ 30 (za2 rfl rfl rfl (congrArg (fun b => Value.bool (!(b))) hb18) rfl) (Eq.refl (some 30)) ?_
        refine @o_n _ _ _ _ _ _ _ _ _ _ _ 31 (za2 rfl rfl rfl (congrArg (fun b => Value.bool (!(b))) hb18) rfl) (Eq.refl (some 31)) ?_
        refine @o_n _ _ _ _ _ _ _ _ _ _ _ 32 (za2 rfl rfl rfl (congrArg (fun b => Value.bool (!(b))) hb18) rfl) (Eq.refl (some 32)) ?_
        refine @o_n _ _ _ _ _ _ _ _ _ _ _ 33 (za2 rfl rfl rfl (congrArg (fun b => Value.bool (!(b))) hb18) rfl) (Eq.refl (some 33)) ?_
        refine o_q rfl rfl (zak true (congrArg (fun b => Value.bool (!(b))) hb18) rfl) ?_
        refine o_end ?_
        refine za1 ?_
        refine zay rfl ?_
        refine c_seq ?_
        refine za0 ?_
        refine o_q rfl rfl (q_asg rfl) ?_
        refine o_end ?_
        refine za1 ?_
        refine c_ret ?_
        refine za5 ?_
        refine zah ?_
        refine za5 ?_
        refine za5 ?_
        have e_ := Option.some.inj h; replace h := hR10; rw [← e_] at h; clear e_
        refine zah ?_
        refine za5 ?_
        have e0_ := Option.some.inj h; clear h
        subst e0_
        exact x_r1 () Try.results119 (zaf rfl) rfl (fun w h => za7 [] (by decide) rfl w h)

end Go.Proofs.Ytoegbcbdiggbjaa.RO
