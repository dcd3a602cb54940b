import Derived.Test.YtdicngjloiphkaaKFnOrdersWithinL1p3
namespace Go.Proofs.Ytdicngjloiphkaa.L1
open Go.RowKit Go.Proofs.Ytdicngjloiphkaa.Frame Go.Proofs.YtdicngjloiphkaaW.PrintLast Go.Proofs.Ytdicngjloiphkaa.Hand
open Go.Proofs.YtdicngjloiphkaaW.PrintWords hiding mn mx
set_option linter.unusedVariables false
/-! ### loop.example/g01098/spec.OrdersWithin: function 11 -/
def spec_OrdersWithin.l0 (k : Nat) (a0_0 : Int) (l0_1 : List SStep) (l0_2 : List Int) (a1 : Int) : (List (List Int)) → Int → Int → Option Int
  | [], i14, i15 => some i15
  | y16 :: ys17, i14, i15 => (spec_rePressure.f k a0_0 l0_1 l0_2 y16).bind fun i29 => if i29 ≤ a1 then (spec_OrdersWithin.l0 k a0_0 l0_1 l0_2 a1 ys17 (i14 + 1) (w64 (i15 + 1))) else (spec_OrdersWithin.l0 k a0_0 l0_1 l0_2 a1 ys17 (i14 + 1) i15)
def spec_OrdersWithin.f (k : Nat) (a0_0 : Int) (l0_1 : List SStep) (l0_2 : List Int) (a1 : Int) : Option (Int × Bool) := (spec_reFew.f k a0_0 l0_1 l0_2).bind fun b4 => if b4 = true then ((spec_l1In.f a1 0 46).bind fun b7 => if b7 = true then ((spec_reOrders.f k a0_0 l0_1 l0_2 []).bind fun l10 => (spec_OrdersWithin.l0 k a0_0 l0_1 l0_2 a1 l10 0 0).bind fun i15 => some (i15, true)) else (some (0, false))) else (some (0, false))
set_option maxHeartbeats 600000 in
set_option maxRecDepth 100000 in
theorem spec_OrdersWithin.calls (k : Nat) {w0 ws : World} {P0 : Nat → Prop} (a0_0 : Int) (A0_1 : Option Addr) (c0_1 : Nat) (n0_1 : Nat) (l0_1 : List SStep) (A0_2 : Option Addr) (c0_2 : Nat) (n0_2 : Nat) (l0_2 : List Int) (a1 : Int) (Z : Below w0.heap.size w0 ws) (hF : Fr w0 ws P0 [] ws) (R0_1 : Stable ws P0 (fun w => Kd.C kStep w A0_1 n0_1 l0_1)) (hc0_1 : n0_1 ≤ c0_1) (R0_2 : Stable ws P0 (fun w => Kd.C (Kd.int .i64) w A0_2 n0_2 l0_2)) (hc0_2 : n0_2 ≤ c0_2) (r_1 : Int) (r_2 : Bool) (h : spec_OrdersWithin.f k a0_0 l0_1 l0_2 a1 = some (r_1, r_2)) :
    Calls Try.prog 11 #[.agg #[.int .i64 a0_0, .slice A0_1 n0_1 c0_1, .slice A0_2 n0_2 c0_2], .int .i64 a1] ws (Post1 w0 ws P0 (fun (_ : Unit) => .tuple #[.int .i64 r_1, .bool r_2]) (fun (_ : Unit) => [])) := by
  unfold spec_OrdersWithin.f at h
  obtain rfl := (R0_1 ws (KeptB.refl _ _)).1
  obtain rfl := (R0_2 ws (KeptB.refl _ _)).1
  refine enter Try.func11 rfl Try.ntmps11 rfl hF ?_
  refine c_seq ?_
  refine za0 ?_
  refine o_e rfl (e_box rfl) (fun g1 => ?_)
  refine o_q rfl rfl (q_asg rfl) ?_
  refine o_q rfl rfl (q_asg rfl) ?_
  refine o_end ?_
  refine za1 ?_
  refine c_seq ?_
  refine c_seq ?_
  refine za0 ?_
  refine o_q rfl rfl (q_ldB G27 Z27 rfl (fun w h => h.zae (i := 0) rfl) rfl) ?_
  refine za7 h (fun b4 hx3 h => ?_) rfl
  refine o_e rfl (za9 0 Z Try.func60 N60 rfl rfl rfl (fun w P1 hF hB hS hT => spec_reFew.calls k a0_0 A0_1 c0_1 l0_1.length l0_1 A0_2 c0_2 l0_2.length l0_2 hB hF (hS _ R0_1) hc0_1 (hS _ R0_2) hc0_2 _ hx3)) (fun _ => ?_)
  refine o_q rfl rfl (q_not rfl) ?_
  refine o_q rfl rfl (za2 rfl) ?_
  refine byB b4 (fun hb5 => ?_) (fun hb5 => ?_)
  · replace h := bb_t hb5 h
    refine o_w (za3 rfl rfl rfl (congrArg (fun b => Value.bool (!(b))) hb5)) rfl (za2 rfl) ?_
    refine za7 h (fun b7 hx6 h => ?_) rfl
    refine o_ew (za3 rfl rfl rfl (congrArg (fun b => Value.bool (!(b))) hb5)) (za9 0 Z Try.func61 N61 rfl rfl rfl (fun w P1 hF hB hS hT => spec_l1In.calls a1 0 46 hB hF _ hx6)) (fun _ => ?_)
    refine o_w (za3 rfl rfl rfl (congrArg (fun b => Value.bool (!(b))) hb5)) rfl (q_not rfl) ?_
    refine o_q rfl rfl (zaq false (congrArg (fun b => Value.bool (!(b))) hb5) rfl) ?_
    refine o_end ?_
    refine za1 ?_
    refine zat _ rfl (fun hb8 => ?_) (fun hb8 => ?_)
    · replace hb8 := nt_t hb8
      replace h := bb_f hb8 h
      refine c_seq ?_
      refine za0 ?_
      refine o_q rfl rfl (q_asg rfl) ?_
      refine o_q rfl rfl (q_asg rfl) ?_
      refine o_end ?_
      refine za1 ?_
      refine c_ret ?_
      refine zaa ?_
      have e0_ := Option.some.inj h; clear h
      have d0_ := (Prod.mk.inj e0_).1; have e1_ := (Prod.mk.inj e0_).2; clear e0_; subst d0_
      subst e1_
      exact x_r2 () Try.results11 (zaj rfl) (zaj rfl) rfl (fun w h => za6 [] (by decide) rfl w h)
    · replace hb8 := nt_f hb8
      replace h := bb_t hb8 h
      refine zan ?_
      refine za1 ?_
      refine c_seq ?_
      refine za0 ?_
      refine o_q rfl rfl (q_asg rfl) ?_
      refine o_end ?_
      refine za1 ?_
      refine c_seq ?_
      refine c_seq ?_
      refine za0 ?_
      refine o_q rfl rfl (q_ldB G27 Z27 rfl (fun w h => h.zae (i := 0) rfl) rfl) ?_
      refine za7 h (fun l10 hx9 h => ?_) rfl
      refine o_e rfl (za9 0 Z Try.func62 N62 rfl rfl rfl (fun w P1 hF hB hS hT => spec_reOrders.calls k a0_0 A0_1 c0_1 l0_1.length l0_1 A0_2 c0_2 l0_2.length l0_2 none 0 0 [] hB hF (hS _ R0_1) hc0_1 (hS _ R0_2) hc0_2 (stab_nil _) (Nat.le_refl 0) _ hx9)) (cur3 (fun A11 c12 H13 => ?_))
      refine o_q rfl rfl (q_len Try.underlying73 rfl) ?_
      refine o_q rfl rfl (za2 rfl) ?_
      refine o_end ?_
      refine za1 ?_
      refine zak ?_
      refine za7 h (fun o23 hl22 hR21 => ?_) rfl
      clear h
      refine c_fact (p := l10.length ≤ 9223372036854775807) (fun w h => (h.zau (i := 0) rfl).2.1) (fun hm20 => ?_)
      refine zav (σ := (List (List Int)) × Int × Int) (fun k18 ((ys17, i14, i15) : (List (List Int)) × Int × Int) => Rg l10 i14 ys17 ∧ ys17.length = k18 ∧ spec_OrdersWithin.l0 k a0_0 l0_1 l0_2 a1 ys17 i14 i15 = some o23) [6, 8, 20, 21, 22, 23, 24, 25, 26, 27, 28, 29, 30, 31] (fun ((ys17, i14, i15) : (List (List Int)) × Int × Int) => [(6, .int .i64 i15), (20, .int .i64 i14)]) (fun ((ys17, i14, i15) : (List (List Int)) × Int × Int) => [row (gk 3 (Kd.int .i64)) 25 (.slice A11 l10.length c12) (zp H13 l10), box g1 27 #[.int .i64 a0_0, .slice A0_1 l0_1.length c0_1, .slice A0_2 l0_2.length c0_2]]) l10.length (l10, 0, 0) ⟨Rg.start _, rfl, hl22⟩ ⟨rfl, rfl, trivial⟩ (fun w h => h) ?_
      refine fun k18 => cur3 (listC (fun i14 i15 U24 hJ_ => ?_) (fun y16 ys17 i14 i15 U24 hJ_ => ?_))
      · skip
        clear hl22
        have hr19 := hJ_.1; have hk25 := hJ_.2.1; have h := hJ_.2.2; clear hJ_
        replace h : spec_OrdersWithin.l0 k a0_0 l0_1 l0_2 a1 [] i14 i15 = some o23 := h
        rw [spec_OrdersWithin.l0] at h
        refine c_seq ?_
        refine za0 ?_
        refine o_q rfl rfl (q_lss rfl rfl) ?_
        refine o_end ?_
        refine za1 ?_
        refine c_seq ?_
        refine c_false (congrArg Value.bool hr19.ge) ?_
        refine c_exit ?_
        refine za5 ?_
        refine za5 ?_
        have e_ := Option.some.inj h; replace h := hR21; rw [← e_] at h; clear e_
        refine x_hit ?_
        refine za1 ?_
        refine c_seq ?_
        refine za0 ?_
        refine o_q rfl rfl (za2 rfl) ?_
        refine o_q rfl rfl (q_asg rfl) ?_
        refine o_q rfl rfl (q_asg rfl) ?_
        refine o_end ?_
        refine za1 ?_
        refine c_ret ?_
        have e0_ := Option.some.inj h; clear h
        have d0_ := (Prod.mk.inj e0_).1; have e1_ := (Prod.mk.inj e0_).2; clear e0_; subst d0_
        subst e1_
        exact x_r2 () Try.results11 (zaj rfl) (zaj rfl) rfl (fun w h => za6 [] (by decide) rfl w h)
      · skip
        clear hl22
        have hr19 := hJ_.1; have hk25 := hJ_.2.1; have h := hJ_.2.2; clear hJ_
        replace h : spec_OrdersWithin.l0 k a0_0 l0_1 l0_2 a1 (y16 :: ys17) i14 i15 = some o23 := h
        rw [spec_OrdersWithin.l0] at h
        refine c_seq ?_
        refine za0 ?_
        refine o_q rfl rfl (q_lss rfl rfl) ?_
        refine o_end ?_
        refine za1 ?_
        refine c_seq ?_
        refine c_true (congrArg Value.bool hr19.lt) ?_
        refine zan ?_
        refine za1 ?_
        refine c_seq ?_
        refine zak ?_
        refine c_seq ?_
        refine za0 ?_
        refine o_fact (p := Sh A11 l10.length (zp H13 l10).length) (fun w h => f_sh (dk := (gk 3 (Kd.int .i64))) h (fun w h => h.zau (i := 0) rfl)) (fun hq26 => ?_)
        refine o_q rfl rfl (q_ix Try.underlying73 Z25 rfl rfl hq26 (gt_zp hr19.get)) ?_
        refine o_fact (p := y16.length ≤ hC H13 i14) (fun w h => (K_in (h.zau (i := 0) rfl) hr19.get).1) (fun hc27 => ?_)
        refine o_q rfl rfl (q_lde (off := 0) Y25 rfl rfl (fun w h => h.zau (i := 0) rfl) (gt_zp hr19.get) (fun _ _ h => h.1) rfl) ?_
        refine o_q rfl rfl (q_asg rfl) ?_
        refine o_end ?_
        refine za1 ?_
        refine c_seq ?_
        refine za0 ?_
        refine o_q rfl rfl (q_ldB G27 Z27 rfl (fun w h => h.zae (i := 1) rfl) rfl) ?_
        refine o_q rfl rfl (za2 rfl) ?_
        refine za7 h (fun i29 hx28 h => ?_) rfl
        refine o_e rfl (za9 0 Z Try.func63 N63 rfl rfl rfl (fun w P1 hF hB hS hT => spec_rePressure.calls k a0_0 A0_1 c0_1 l0_1.length l0_1 A0_2 c0_2 l0_2.length l0_2 (hA H13 i14) (hC H13 i14) y16.length y16 hB hF (hS _ R0_1) hc0_1 (hS _ R0_2) hc0_2 (stab_in (hT 0 _ rfl).row hr19.get) hc27 _ hx28)) (fun _ => ?_)
        refine o_q rfl rfl (za2 rfl) ?_
        refine o_q rfl rfl (q_leq rfl rfl) ?_
        refine o_end ?_
        refine za1 ?_
        refine zat _ rfl (fun hb30 => ?_) (fun hb30 => ?_)
        · skip
          replace h := br_t hb30 h
          refine za0 ?_
          refine o_q rfl rfl (za2 rfl) ?_
          refine o_q rfl rfl (q_add64 rfl rfl) ?_
          refine o_q rfl rfl (q_asg rfl) ?_
          refine o_end ?_
          refine zal ?_
          refine za1 ?_
          refine za0 ?_
          refine o_q rfl rfl (q_up rfl rfl (hr19.up hm20)) ?_
          refine o_q rfl rfl (za2 rfl) ?_
          refine o_end ?_
          refine zai ys17.length (ys17, i14 + 1, w64 (i15 + 1)) (by rw [← hk25]; exact Nat.lt_succ_self _) ⟨hr19.step, rfl, h⟩ ⟨rfl, rfl, trivial⟩ (fun w h => za6 [0, 1] (by decide) rfl w h) ?_
          repeat (first | exact zab _ _ | refine zaf rfl ?_ | refine zac rfl ?_ | refine zah rfl ?_)
        · skip
          replace h := br_f hb30 h
          refine zan ?_
          refine zal ?_
          refine za1 ?_
          refine za0 ?_
          refine o_q rfl rfl (q_up rfl rfl (hr19.up hm20)) ?_
          refine o_q rfl rfl (za2 rfl) ?_
          refine o_end ?_
          refine zai ys17.length (ys17, i14 + 1, i15) (by rw [← hk25]; exact Nat.lt_succ_self _) ⟨hr19.step, rfl, h⟩ ⟨rfl, rfl, trivial⟩ (fun w h => za6 [0, 1] (by decide) rfl w h) ?_
          repeat (first | exact zab _ _ | refine zaf rfl ?_ | refine zac rfl ?_ | refine zah rfl ?_)
  · replace h := bb_f hb5 h
    refine @o_n _ _ _ _ _ _ _ _ _ _ _ 13 (za4 rfl rfl rfl (congrArg (fun b => Value.bool (!(b))) hb5) rfl) (Eq.refl (some 13)) ?_
    refine @o_n _ _ _ _ _ _ _ _ _ _ _ 14 (za4 rfl rfl rfl (congrArg (fun b => Value.bool (!(b))) hb5) rfl) (Eq.refl (some 14)) ?_
    refine @o_n _ _ _ _ _ _ _ _ _ _ _ 15 (za4 rfl rfl rfl (congrArg (fun b => Value.bool (!(b))) hb5) rfl) (Eq.refl (some 15)) ?_
    refine o_q rfl rfl (zaq true (congrArg (fun b => Value.bool (!(b))) hb5) rfl) ?_
    refine o_end ?_
    refine za1 ?_
    refine c_true rfl ?_
    refine c_seq ?_
    refine za0 ?_
    refine o_q rfl rfl (q_asg rfl) ?_
    refine o_q rfl rfl (q_asg rfl) ?_
    refine o_end ?_
    refine za1 ?_
    refine c_ret ?_
    refine zaa ?_
    have e0_ := Option.some.inj h; clear h
    have d0_ := (Prod.mk.inj e0_).1; have e1_ := (Prod.mk.inj e0_).2; clear e0_; subst d0_
    subst e1_
    exact x_r2 () Try.results11 (zaj rfl) (zaj rfl) rfl (fun w h => za6 [] (by decide) rfl w h)

/-! ### loop.example/g01098/spec.DrawNeededAfter: function 12 -/
def spec_DrawNeededAfter.f (k : Nat) (l0 : List Int) : Option (Int × (List SStep) × (List Int) × Int) := (spec_l1Cur_inputs.f l0 0 0).bind fun (i6, i7, i8) => (spec_l1Cur_among.f l0 i7 i8 ([3, 6, 10] : List Int)).bind fun (i13, i14, i15) => (spec_l1Cur_anyPlan.f k l0 i14 i15 i6 i13).bind fun (i17, l18, l19, i20, i21) => (spec_l1Cur_pick.f l0 i20 i21 (w64 ((l18.length : Int) + 3))).bind fun (i29, i30, i31) => some (i17, l18, l19, w64 (i29 - 1))
set_option maxHeartbeats 600000 in
set_option maxRecDepth 100000 in
theorem spec_DrawNeededAfter.calls (k : Nat) {w0 ws : World} {P0 : Nat → Prop} (A0 : Option Addr) (c0 : Nat) (n0 : Nat) (l0 : List Int) (Z : Below w0.heap.size w0 ws) (hF : Fr w0 ws P0 [] ws) (R0 : Stable ws P0 (fun w => Kd.C (Kd.int .u8) w A0 n0 l0)) (hc0 : n0 ≤ c0) (r_1 : Int) (r_2 : List SStep) (r_5 : List Int) (r_8 : Int) (h : spec_DrawNeededAfter.f k l0 = some (r_1, r_2, r_5, r_8)) :
    Calls Try.prog 12 #[.slice A0 n0 c0] ws (Post1 w0 ws P0 (fun ((q_3, q_4, q_6, q_7) : (Option Addr) × Nat × (Option Addr) × Nat) => .tuple #[.agg #[.int .i64 r_1, .slice q_3 r_2.length q_4, .slice q_6 r_5.length q_7], .int .i64 r_8]) (fun ((q_3, q_4, q_6, q_7) : (Option Addr) × Nat × (Option Addr) × Nat) => [row kStep 88 (.slice q_3 r_2.length q_4) r_2, row (Kd.int .i64) 3 (.slice q_6 r_5.length q_7) r_5])) := by
  unfold spec_DrawNeededAfter.f at h
  obtain rfl := (R0 ws (KeptB.refl _ _)).1
  refine enter Try.func12 rfl Try.ntmps12 rfl hF ?_
  refine c_seq ?_
  refine za0 ?_
  refine o_e rfl (e_alloc V27 rfl) (fun g1 => ?_)
  refine o_q rfl rfl (q_asg rfl) ?_
  refine o_end ?_
  refine za1 ?_
  refine c_seq ?_
  refine za0 ?_
  refine o_q rfl rfl (za2 rfl) ?_
  refine o_q rfl rfl (q_build (vs := [(0, .slice A0 l0.length c0)]) (cs := [.slice A0 l0.length c0, .int .i64 0, .int .u64 0]) rfl rfl) ?_
  refine o_e rfl (e_box rfl) (fun g3 => ?_)
  refine o_q rfl rfl (q_asg rfl) ?_
  refine o_end ?_
  refine za1 ?_
  refine c_seq ?_
  refine za0 ?_
  refine o_q rfl rfl (za2 rfl) ?_
  refine o_q rfl rfl (za2 rfl) ?_
  refine bindE3 h (fun i6 i7 i8 hx5 h => ?_) rfl
  refine o_e rfl (za9 1 Z Try.func65 N65 rfl rfl rfl (fun w P1 hF hB hS hT => spec_l1Cur_inputs.calls g3 A0 c0 l0.length l0 0 0 hB hF (hS _ R0) hc0 _ _ _ hx5)) (fun _ => ?_)
  refine o_q rfl rfl (za2 rfl) ?_
  refine o_e rfl (e_lit (vs := [(0, .int .i64 3), (1, .int .i64 6), (2, .int .i64 10)]) (cs := [.int .i64 3, .int .i64 6, .int .i64 10]) (Kd.int .i64) ([3, 6, 10] : List Int) Try.underlying25 I3 (by decide) rfl (by decide) rfl rfl (fun _ _ => Kd.zao _)) (cur2 (fun A9 c10 => ?_))
  refine o_pick [1, 0, 2] (by decide) rfl ?_
  refine bindE3 h (fun i13 i14 i15 hx12 h => ?_) rfl
  refine o_e rfl (za9 1 Z Try.func56 N56 rfl rfl rfl (fun w P1 hF hB hS hT => spec_l1Cur_among.calls g3 A0 c0 l0.length l0 i7 i8 A9 c10 (([3, 6, 10] : List Int).length) ([3, 6, 10] : List Int) hB hF (hS _ R0) hc0 (hT 0 _ rfl).row (hT 0 _ rfl).cap _ _ _ hx12)) (fun _ => ?_)
  refine bindE5 h (fun i17 l18 l19 i20 i21 hx16 h => ?_) rfl
  refine o_e rfl (za9 1 Z Try.func64 N64 rfl rfl rfl (fun w P1 hF hB hS hT => spec_l1Cur_anyPlan.calls k g3 A0 c0 l0.length l0 i14 i15 i6 i13 hB hF (hS _ R0) hc0 _ _ _ _ _ hx16)) (cur4 (fun A22 c23 A24 c25 => ?_))
  refine o_e rfl (e_alloc V27 rfl) (fun g26 => ?_)
  refine o_e rfl (e_storeA (i := 0) rfl rfl rfl Z27 rfl rfl) (fun _ => ?_)
  refine o_end ?_
  refine za1 ?_
  refine c_seq ?_
  refine a_startS (ds := []) [some 0, some 1, some 2, none, some 4, none] MO rfl ?_
  refine a_take 0 rfl rfl rfl (by kernel_rfl) (fun _ _ _ h => h) (fun w h => zad [some 0, some 1, some 2, none, some 4, none] (by decide) w h rfl) (q_ldB G27 Z27 rfl (fun w h => h.zae (i := 0) rfl) rfl) ?_
  refine za8 1 rfl rfl rfl (by kernel_rfl) (fun _ _ _ h => h) (za2 rfl) ?_
  refine za8 2 rfl rfl rfl (by kernel_rfl) (fun _ _ _ h => h) (q_f F27_1 rfl) ?_
  refine a_take 3 rfl rfl rfl (by kernel_rfl) (fun _ _ _ h => h) (fun w h => zad [some 0, some 1, some 2, none, some 4, none] (by decide) w h rfl) (q_ldb Y24 rfl (fun w h => h.zae (i := 0) rfl) rfl) ?_
  refine za8 4 rfl rfl rfl (by kernel_rfl) (fun _ _ _ h => h) (q_len Try.underlying24 rfl) ?_
  refine za8 5 rfl rfl rfl (by kernel_rfl) (fun _ _ _ h => h) (q_add64 rfl rfl) ?_
  refine a_pick [3, 0, 1, 2, 4, 5] (by decide) rfl ?_
  refine bindE3 h (fun i29 i30 i31 hx28 h => ?_) rfl
  refine a_one 6 rfl rfl (by kernel_rfl) rfl (za9 1 Z Try.func66 N66 rfl rfl rfl (fun w P1 hF hB hS hT => spec_l1Cur_pick.calls g3 A0 c0 l0.length l0 i20 i21 (w64 ((l18.length : Int) + 3)) hB hF (hS _ R0) hc0 _ _ _ hx28)) (fun s w h => zad [some 1, some 2, some 3, none, some 4, none] (by decide) w h rfl) (fun _ => ?_)
  refine za8 7 rfl rfl rfl (by kernel_rfl) (fun _ _ _ h => h) (q_sub64 rfl rfl) ?_
  refine a_one 8 rfl rfl (by kernel_rfl) rfl (e_storeA (i := 5) rfl rfl rfl Z27 rfl rfl) (fun s w h => zad [some 1, some 2, some 3, none, some 4, none] (by decide) w h rfl) (fun _ => ?_)
  refine za8 9 rfl rfl rfl (by kernel_rfl) (fun _ _ _ h => h) (q_asg rfl) ?_
  refine a_done (by kernel_rfl) ?_
  refine za1 ?_
  refine c_ret ?_
  have e0_ := Option.some.inj h; clear h
  have d0_ := (Prod.mk.inj e0_).1; have e1_ := (Prod.mk.inj e0_).2; clear e0_; subst d0_
  have d1_ := (Prod.mk.inj e1_).1; have e2_ := (Prod.mk.inj e1_).2; clear e1_; subst d1_
  have d2_ := (Prod.mk.inj e2_).1; have e3_ := (Prod.mk.inj e2_).2; clear e2_; subst d2_
  subst e3_
  exact x_r2 (A22, c23, A24, c25) Try.results12 (rv_cell rfl G27 Z27 (fun w h => h.zae (i := 5) rfl) rfl) (zaj rfl) rfl (fun w h => za6 [2, 3] (by decide) rfl w h)

/-! ### (*loop.example/g01098/impl.Plan).doneFirst: function 69 -/
def impl_Plan_doneFirst.l0 : Nat → (List Bool) → Int → Option (List Bool)
  | 0, l6, i7 => some l6
  | k10 + 1, l6, i7 => (gt l6 i7).bind fun y22 => (st l6 i7 true).bind fun l23 => impl_Plan_doneFirst.l0 k10 l23 (i7 + 1)
def impl_Plan_doneFirst.f (a0_0 : Int) (l0_1 : List SStep) (l0_2 : List Int) (a1 : Int) : Option (List Bool) := (mk0 (l0_1.length : Int) false).bind fun l1 => (bd a1).bind fun _ => (impl_Plan_doneFirst.l0 ((a1).toNat) l1 0).bind fun l6 => some l6
set_option maxHeartbeats 600000 in
set_option maxRecDepth 100000 in
theorem impl_Plan_doneFirst.calls {w0 ws : World} {P0 : Nat → Prop} (g0 : Nat) (a0_0 : Int) (A0_1 : Option Addr) (c0_1 : Nat) (n0_1 : Nat) (l0_1 : List SStep) (A0_2 : Option Addr) (c0_2 : Nat) (n0_2 : Nat) (l0_2 : List Int) (a1 : Int) (Z : Below w0.heap.size w0 ws) (hF : Fr w0 ws P0 [] ws) (R0_1 : Stable ws P0 (fun w => Kd.C kStep w A0_1 n0_1 l0_1)) (hc0_1 : n0_1 ≤ c0_1) (R0_2 : Stable ws P0 (fun w => Kd.C (Kd.int .i64) w A0_2 n0_2 l0_2)) (hc0_2 : n0_2 ≤ c0_2) (B0 : Stable ws P0 (fun w => w.heap[g0]? = some (.cells #[.int .i64 a0_0, .slice A0_1 n0_1 c0_1, .slice A0_2 n0_2 c0_2] 27 (0, 0)))) (r_1 : List Bool) (h : impl_Plan_doneFirst.f a0_0 l0_1 l0_2 a1 = some r_1) :
    Calls Try.prog 69 #[.pointer (some ⟨g0, 0, none⟩), .int .i64 a1] ws (Post1 w0 ws P0 (fun ((q_2, q_3) : (Option Addr) × Nat) => .slice q_2 r_1.length q_3) (fun ((q_2, q_3) : (Option Addr) × Nat) => [row Kd.bool 4 (.slice q_2 r_1.length q_3) r_1])) := by
  unfold impl_Plan_doneFirst.f at h
  obtain rfl := (R0_1 ws (KeptB.refl _ _)).1
  obtain rfl := (R0_2 ws (KeptB.refl _ _)).1
  refine enter Try.func69 rfl Try.ntmps69 rfl hF ?_
  refine c_seq ?_
  refine za0 ?_
  refine o_q rfl rfl (q_asg rfl) ?_
  refine o_end ?_
  refine za1 ?_
  refine c_seq ?_
  refine za0 ?_
  refine o_q rfl rfl (za2 rfl) ?_
  refine o_q rfl rfl (q_nil rfl) ?_
  refine o_q rfl rfl (q_f F27_1 rfl) ?_
  refine o_q rfl rfl (q_ldb Y24 rfl (fun w h => B0.now Z h) rfl) ?_
  refine o_q rfl rfl (q_len Try.underlying24 rfl) ?_
  refine za7 h (fun l1 hm2 h => ?_) rfl
  refine o_e rfl (e_make Kd.bool false Try.underlying78 I4 rfl (by decide) (by decide) (fun _ _ => rfl) rfl rfl hm2) (cur2 (fun A3 c4 => ?_))
  refine o_q rfl rfl (q_asg rfl) ?_
  refine o_end ?_
  refine za1 ?_
  refine c_seq ?_
  refine c_seq ?_
  refine za0 ?_
  refine o_q rfl rfl (za2 rfl) ?_
  refine o_q rfl rfl (za2 rfl) ?_
  refine o_end ?_
  refine za1 ?_
  refine zak ?_
  refine za7 h (fun _ hbd16 h => ?_) rfl
  refine za7 h (fun o15 hl14 hR13 => ?_) rfl
  clear h
  have hm12 : a1 ≤ 9223372036854775807 := bd_le hbd16
  refine zav (σ := (List Bool) × Int) (fun k10 ((l6, i7) : (List Bool) × Int) => Cn a1 i7 k10 ∧ impl_Plan_doneFirst.l0 k10 l6 i7 = some o15) [6, 14, 15, 16, 17, 18, 19, 20] (fun ((l6, i7) : (List Bool) × Int) => [(14, .int .i64 i7)]) (fun ((l6, i7) : (List Bool) × Int) => [row Kd.bool 4 (.slice A3 l1.length c4) l6]) (a1).toNat (l1, 0) ⟨Cn.start hm12, hl14⟩ ⟨rfl, trivial⟩ (fun w h => h) ?_
  refine natC (cur2 (fun l6 i7 => fun U17 hJ_ => ?_)) (fun k10 => (cur2 (fun l6 i7 => fun U17 hJ_ => ?_)))
  · skip
    clear hl14
    have hr11 := hJ_.1; have h := hJ_.2; clear hJ_
    replace h : impl_Plan_doneFirst.l0 0 l6 i7 = some o15 := h
    rw [impl_Plan_doneFirst.l0] at h
    refine c_seq ?_
    refine za0 ?_
    refine o_q rfl rfl (q_lss rfl rfl) ?_
    refine o_end ?_
    refine za1 ?_
    refine c_seq ?_
    refine c_false (congrArg Value.bool hr11.ge) ?_
    refine c_exit ?_
    refine za5 ?_
    refine za5 ?_
    have e_ := Option.some.inj h; replace h := hR13; rw [← e_] at h; clear e_
    refine x_hit ?_
    refine za1 ?_
    refine c_seq ?_
    refine za0 ?_
    refine o_q rfl rfl (za2 rfl) ?_
    refine o_q rfl rfl (q_asg rfl) ?_
    refine o_end ?_
    refine za1 ?_
    refine c_ret ?_
    refine x_fact (p := l1.length = l6.length) (fun w h => (h.row_C (i := 0) rfl).2.1) (fun hn19 => ?_)
    have e0_ := Option.some.inj h; clear h
    subst e0_
    exact x_r1 (A3, c4) Try.results69 (zaj (v := .slice A3 l1.length c4) rfl) (by (try rw [hn19]); first | done | rfl) (f_pickE (L1 := [row Kd.bool 4 (.slice A3 l1.length c4) l6]) rfl [0] (by decide) rfl (by (try rw [hn19]); first | done | rfl))
  · skip
    clear hl14
    have hr11 := hJ_.1; have h := hJ_.2; clear hJ_
    replace h : impl_Plan_doneFirst.l0 (k10 + 1) l6 i7 = some o15 := h
    rw [impl_Plan_doneFirst.l0] at h
    refine c_seq ?_
    refine za0 ?_
    refine o_q rfl rfl (q_lss rfl rfl) ?_
    refine o_end ?_
    refine za1 ?_
    refine c_seq ?_
    refine c_true (congrArg Value.bool hr11.lt) ?_
    refine zan ?_
    refine za1 ?_
    refine c_seq ?_
    refine zak ?_
    refine c_seq ?_
    refine za0 ?_
    refine o_q rfl rfl (za2 rfl) ?_
    refine o_q rfl rfl (q_asg rfl) ?_
    refine o_end ?_
    refine za1 ?_
    refine za0 ?_
    refine o_q rfl rfl (za2 rfl) ?_
    refine o_q rfl rfl (za2 rfl) ?_
    refine o_fact (p := Sh A3 l1.length l6.length) (fun w h => f_sh (dk := Kd.bool) h (fun w h => h.zau (i := 0) rfl)) (fun hq20 => ?_)
    refine za7 h (fun y22 hg21 h => ?_) rfl
    refine o_q rfl rfl (q_ix Try.underlying78 Z4 rfl rfl hq20 hg21) ?_
    refine za7 h (fun l23 hs24 h => ?_) rfl
    refine o_e rfl (e_set (i := 0) rfl rfl rfl Z4 hs24) (fun _ => ?_)
    refine o_end ?_
    refine zal ?_
    refine za1 ?_
    refine za0 ?_
    refine o_q rfl rfl (q_up rfl rfl hr11.up) ?_
    refine o_q rfl rfl (za2 rfl) ?_
    refine o_end ?_
    refine zai k10 (l23, i7 + 1) (Nat.lt_succ_self _) ⟨hr11.step, h⟩ ⟨rfl, trivial⟩ (fun w h => za6 [0] (by decide) rfl w h) ?_
    repeat (first | exact zab _ _ | refine zaf rfl ?_ | refine zac rfl ?_ | refine zah rfl ?_)

/-! ### loop.example/g01098/impl.NeededAfter: function 13 -/
def impl_NeededAfter.l0 : (List Bool) → (List Int) → Int → Option (List Int)
  | [], l20, i23 => some l20
  | y24 :: ys25, l20, i23 => if y24 = true then ((ap l20 ([i23] : List Int)).bind fun l39 => impl_NeededAfter.l0 ys25 l39 (i23 + 1)) else (impl_NeededAfter.l0 ys25 l20 (i23 + 1))
def impl_NeededAfter.f (k : Nat) (a0_0 : Int) (l0_1 : List SStep) (l0_2 : List Int) (a1 : Int) : Option ((List Int) × Bool) := (impl_IsPlan.f k a0_0 l0_1 l0_2).bind fun b4 => if b4 = true then ((impl_in.f a1 0 (l0_1.length : Int)).bind fun b7 => if b7 = true then ((impl_Plan_doneFirst.f a0_0 l0_1 l0_2 a1).bind fun l13 => (impl_Plan_needed.f a0_0 l0_1 l0_2 l13).bind fun l17 => (impl_NeededAfter.l0 l17 ([] : List Int) 0).bind fun l20 => some (l20, true)) else (some (([] : List Int), false))) else (some (([] : List Int), false))
set_option maxHeartbeats 600000 in
set_option maxRecDepth 100000 in
theorem impl_NeededAfter.calls (k : Nat) {w0 ws : World} {P0 : Nat → Prop} (a0_0 : Int) (A0_1 : Option Addr) (c0_1 : Nat) (n0_1 : Nat) (l0_1 : List SStep) (A0_2 : Option Addr) (c0_2 : Nat) (n0_2 : Nat) (l0_2 : List Int) (a1 : Int) (Z : Below w0.heap.size w0 ws) (hF : Fr w0 ws P0 [] ws) (R0_1 : Stable ws P0 (fun w => Kd.C kStep w A0_1 n0_1 l0_1)) (hc0_1 : n0_1 ≤ c0_1) (R0_2 : Stable ws P0 (fun w => Kd.C (Kd.int .i64) w A0_2 n0_2 l0_2)) (hc0_2 : n0_2 ≤ c0_2) (r_1 : List Int) (r_4 : Bool) (h : impl_NeededAfter.f k a0_0 l0_1 l0_2 a1 = some (r_1, r_4)) :
    Calls Try.prog 13 #[.agg #[.int .i64 a0_0, .slice A0_1 n0_1 c0_1, .slice A0_2 n0_2 c0_2], .int .i64 a1] ws (Post1 w0 ws P0 (fun ((q_2, q_3) : (Option Addr) × Nat) => .tuple #[.slice q_2 r_1.length q_3, .bool r_4]) (fun ((q_2, q_3) : (Option Addr) × Nat) => [row (Kd.int .i64) 3 (.slice q_2 r_1.length q_3) r_1])) := by
  unfold impl_NeededAfter.f at h
  obtain rfl := (R0_1 ws (KeptB.refl _ _)).1
  obtain rfl := (R0_2 ws (KeptB.refl _ _)).1
  refine enter Try.func13 rfl Try.ntmps13 rfl hF ?_
  refine c_seq ?_
  refine za0 ?_
  refine o_e rfl (e_box rfl) (fun g1 => ?_)
  refine o_q rfl rfl (q_asg rfl) ?_
  refine o_q rfl rfl (q_asg rfl) ?_
  refine o_end ?_
  refine za1 ?_
  refine c_seq ?_
  refine c_seq ?_
  refine za0 ?_
  refine o_q rfl rfl (q_ldB G27 Z27 rfl (fun w h => h.zae (i := 0) rfl) rfl) ?_
  refine za7 h (fun b4 hx3 h => ?_) rfl
  refine o_e rfl (za9 0 Z Try.func67 N67 rfl rfl rfl (fun w P1 hF hB hS hT => impl_IsPlan.calls k a0_0 A0_1 c0_1 l0_1.length l0_1 A0_2 c0_2 l0_2.length l0_2 hB hF (hS _ R0_1) hc0_1 (hS _ R0_2) hc0_2 _ hx3)) (fun _ => ?_)
  refine o_q rfl rfl (q_not rfl) ?_
  refine o_q rfl rfl (za2 rfl) ?_
  refine byB b4 (fun hb5 => ?_) (fun hb5 => ?_)
  · replace h := bb_t hb5 h
    refine o_w (za3 rfl rfl rfl (congrArg (fun b => Value.bool (!(b))) hb5)) rfl (za2 rfl) ?_
    refine o_w (za3 rfl rfl rfl (congrArg (fun b => Value.bool (!(b))) hb5)) rfl (q_f F27_1 rfl) ?_
    refine o_w (za3 rfl rfl rfl (congrArg (fun b => Value.bool (!(b))) hb5)) rfl (q_ldb Y24 rfl (fun w h => h.zae (i := 0) rfl) rfl) ?_
    refine o_w (za3 rfl rfl rfl (congrArg (fun b => Value.bool (!(b))) hb5)) rfl (q_len Try.underlying24 rfl) ?_
    refine za7 h (fun b7 hx6 h => ?_) rfl
    refine o_ew (za3 rfl rfl rfl (congrArg (fun b => Value.bool (!(b))) hb5)) (za9 0 Z Try.func58 N58 rfl rfl rfl (fun w P1 hF hB hS hT => impl_in.calls a1 0 (l0_1.length : Int) hB hF _ hx6)) (fun _ => ?_)
    refine o_w (za3 rfl rfl rfl (congrArg (fun b => Value.bool (!(b))) hb5)) rfl (q_not rfl) ?_
    refine o_q rfl rfl (zaq false (congrArg (fun b => Value.bool (!(b))) hb5) rfl) ?_
    refine o_end ?_
    refine za1 ?_
    refine zat _ rfl (fun hb8 => ?_) (fun hb8 => ?_)
    · replace hb8 := nt_t hb8
      replace h := bb_f hb8 h
      refine c_seq ?_
      refine za0 ?_
      refine o_q rfl rfl (q_asg rfl) ?_
      refine o_q rfl rfl (q_asg rfl) ?_
      refine o_end ?_
      refine za1 ?_
      refine c_ret ?_
      refine zaa ?_
      refine x_nil (Kd.int .i64) 3 ?_
      have e0_ := Option.some.inj h; clear h
      have d0_ := (Prod.mk.inj e0_).1; have e1_ := (Prod.mk.inj e0_).2; clear e0_; subst d0_
      subst e1_
      exact x_r2 (none, 0) Try.results13 (zaj rfl) (zaj rfl) rfl (fun w h => za6 [0] (by decide) rfl w h)
    · replace hb8 := nt_f hb8
      replace h := bb_t hb8 h
      refine zan ?_
      refine za1 ?_
      refine c_seq ?_
      refine za0 ?_
      refine o_e rfl (e_lit0 (Kd.int .i64) Try.underlying25 I3) (cur2 (fun A9 c10 => ?_))
      refine o_q rfl rfl (q_asg rfl) ?_
      refine o_end ?_
      refine za1 ?_
      refine c_seq ?_
      refine c_seq ?_
      refine za0 ?_
      refine o_q rfl rfl (za2 rfl) ?_
      refine za7 h (fun l13 hx12 h => ?_) rfl
      refine o_e rfl (za9 0 Z Try.func69 N69 rfl rfl rfl (fun w P1 hF hB hS hT => impl_Plan_doneFirst.calls g1 a0_0 A0_1 c0_1 l0_1.length l0_1 A0_2 c0_2 l0_2.length l0_2 a1 hB hF (hS _ R0_1) hc0_1 (hS _ R0_2) hc0_2 (hT 1 _ rfl).box _ hx12)) (cur2 (fun A14 c15 => ?_))
      refine za7 h (fun l17 hx16 h => ?_) rfl
      refine o_e rfl (za9 0 Z Try.func68 N68 rfl rfl rfl (fun w P1 hF hB hS hT => impl_Plan_needed.calls g1 a0_0 A0_1 c0_1 l0_1.length l0_1 A0_2 c0_2 l0_2.length l0_2 A14 c15 l13.length l13 hB hF (hS _ R0_1) hc0_1 (hS _ R0_2) hc0_2 (hT 2 _ rfl).box (hT 0 _ rfl).row (hT 0 _ rfl).cap _ hx16)) (cur2 (fun A18 c19 => ?_))
      refine o_q rfl rfl (q_len Try.underlying78 rfl) ?_
      refine o_q rfl rfl (za2 rfl) ?_
      refine o_end ?_
      refine za1 ?_
      refine zak ?_
      refine za7 h (fun o31 hl30 hR29 => ?_) rfl
      clear h
      refine c_fact (p := l17.length ≤ 9223372036854775807) (fun w h => (h.zau (i := 0) rfl).2.1) (fun hm28 => ?_)
      refine zav (σ := (List Bool) × (List Int) × Int × (Option Addr) × Nat) (fun k26 ((ys25, l20, i23, A21, c22) : (List Bool) × (List Int) × Int × (Option Addr) × Nat) => Rg l17 i23 ys25 ∧ ys25.length = k26 ∧ impl_NeededAfter.l0 ys25 l20 i23 = some o31) [6, 7, 8, 25, 26, 27, 28, 29, 30, 31, 32, 33, 34, 35] (fun ((ys25, l20, i23, A21, c22) : (List Bool) × (List Int) × Int × (Option Addr) × Nat) => [(6, .slice A21 l20.length c22), (25, .int .i64 i23)]) (fun ((ys25, l20, i23, A21, c22) : (List Bool) × (List Int) × Int × (Option Addr) × Nat) => [row Kd.bool 4 (.slice A18 l17.length c19) l17, row Kd.bool 4 (.slice A14 l13.length c15) l13, row (Kd.int .i64) 3 (.slice A21 l20.length c22) l20, box g1 27 #[.int .i64 a0_0, .slice A0_1 l0_1.length c0_1, .slice A0_2 l0_2.length c0_2]]) l17.length (l17, ([] : List Int), 0, A9, c10) ⟨Rg.start _, rfl, hl30⟩ ⟨rfl, rfl, trivial⟩ (fun w h => h) ?_
      refine fun k26 => cur5 (listC (fun l20 i23 A21 c22 U32 hJ_ => ?_) (fun y24 ys25 l20 i23 A21 c22 U32 hJ_ => ?_))
      · skip
        clear hl30
        have hr27 := hJ_.1; have hk33 := hJ_.2.1; have h := hJ_.2.2; clear hJ_
        replace h : impl_NeededAfter.l0 [] l20 i23 = some o31 := h
        rw [impl_NeededAfter.l0] at h
        refine c_seq ?_
        refine za0 ?_
        refine o_q rfl rfl (q_lss rfl rfl) ?_
        refine o_end ?_
        refine za1 ?_
        refine c_seq ?_
        refine c_false (congrArg Value.bool hr27.ge) ?_
        refine c_exit ?_
        refine za5 ?_
        refine za5 ?_
        have e_ := Option.some.inj h; replace h := hR29; rw [← e_] at h; clear e_
        refine x_hit ?_
        refine za1 ?_
        refine c_seq ?_
        refine za0 ?_
        refine o_q rfl rfl (za2 rfl) ?_
        refine o_q rfl rfl (q_asg rfl) ?_
        refine o_q rfl rfl (q_asg rfl) ?_
        refine o_end ?_
        refine za1 ?_
        refine c_ret ?_
        have e0_ := Option.some.inj h; clear h
        have d0_ := (Prod.mk.inj e0_).1; have e1_ := (Prod.mk.inj e0_).2; clear e0_; subst d0_
        subst e1_
        exact x_r2 (A21, c22) Try.results13 (zaj rfl) (zaj rfl) rfl (fun w h => za6 [2] (by decide) rfl w h)
      · skip
        clear hl30
        have hr27 := hJ_.1; have hk33 := hJ_.2.1; have h := hJ_.2.2; clear hJ_
        replace h : impl_NeededAfter.l0 (y24 :: ys25) l20 i23 = some o31 := h
        rw [impl_NeededAfter.l0] at h
        refine c_seq ?_
        refine za0 ?_
        refine o_q rfl rfl (q_lss rfl rfl) ?_
        refine o_end ?_
        refine za1 ?_
        refine c_seq ?_
        refine c_true (congrArg Value.bool hr27.lt) ?_
        refine zan ?_
        refine za1 ?_
        refine c_seq ?_
        refine zak ?_
        refine c_seq ?_
        refine za0 ?_
        refine o_q rfl rfl (za2 rfl) ?_
        refine o_fact (p := Sh A18 l17.length l17.length) (fun w h => f_sh (dk := Kd.bool) h (fun w h => h.zau (i := 0) rfl)) (fun hq34 => ?_)
        refine o_q rfl rfl (q_ix Try.underlying78 Z4 rfl rfl hq34 hr27.get) ?_
        refine o_q rfl rfl (q_lde (off := 0) Y4 rfl rfl (fun w h => h.zau (i := 0) rfl) hr27.get (fun _ _ h => h) rfl) ?_
        refine o_q rfl rfl (q_asg rfl) ?_
        refine o_q rfl rfl (q_asg rfl) ?_
        refine o_end ?_
        refine za1 ?_
        refine c_seq ?_
        refine za0 ?_
        refine o_q rfl rfl (za2 rfl) ?_
        refine o_end ?_
        refine za1 ?_
        refine zat _ rfl (fun hb35 => ?_) (fun hb35 => ?_)
        · skip
          replace h := bb_t hb35 h
          refine za0 ?_
          refine o_q rfl rfl (za2 rfl) ?_
          refine o_q rfl rfl (za2 rfl) ?_
          refine o_e rfl (e_lit (vs := [(0, .int .i64 i23)]) (cs := [.int .i64 i23]) (Kd.int .i64) ([i23] : List Int) Try.underlying25 I3 (by decide) rfl (by decide) rfl rfl (fun _ _ => Kd.zao _)) (cur2 (fun A36 c37 => ?_))
          refine za7 h (fun l39 ha40 h => ?_) rfl
          refine o_e rfl (e_app (i := 3) (j := 0) Try.underlying25 I3 rfl (by decide) (by decide) rfl rfl rfl rfl rfl ha40) (cur2 (fun A41 c42 => ?_))
          refine o_q rfl rfl (q_asg rfl) ?_
          refine o_end ?_
          refine zal ?_
          refine za1 ?_
          refine za0 ?_
          refine o_q rfl rfl (q_up rfl rfl (hr27.up hm28)) ?_
          refine o_q rfl rfl (za2 rfl) ?_
          refine o_end ?_
          refine zai ys25.length (ys25, l39, i23 + 1, A41, c42) (by rw [← hk33]; exact Nat.lt_succ_self _) ⟨hr27.step, rfl, h⟩ ⟨rfl, rfl, trivial⟩ (fun w h => za6 [1, 2, 3, 4] (by decide) rfl w h) ?_
          repeat (first | exact zab _ _ | refine zaf rfl ?_ | refine zac rfl ?_ | refine zah rfl ?_)
        · skip
          replace h := bb_f hb35 h
          refine zan ?_
          refine zal ?_
          refine za1 ?_
          refine za0 ?_
          refine o_q rfl rfl (q_up rfl rfl (hr27.up hm28)) ?_
          refine o_q rfl rfl (za2 rfl) ?_
          refine o_end ?_
          refine zai ys25.length (ys25, l20, i23 + 1, A21, c22) (by rw [← hk33]; exact Nat.lt_succ_self _) ⟨hr27.step, rfl, h⟩ ⟨rfl, rfl, trivial⟩ (fun w h => za6 [0, 1, 2, 3] (by decide) rfl w h) ?_
          repeat (first | exact zab _ _ | refine zaf rfl ?_ | refine zac rfl ?_ | refine zah rfl ?_)
  · replace h := bb_f hb5 h
    refine @o_n _ _ _ _ _ _ _ _ _ _ _ 13 (za4 rfl rfl rfl (congrArg (fun b => Value.bool (!(b))) hb5) rfl) (Eq.refl (some 13)) ?_
    refine @o_n _ _ _ _ _ _ _ _ _ _ _ 14 (za4 rfl rfl rfl (congrArg (fun b => Value.bool (!(b))) hb5) rfl) (Eq.refl (some 14)) ?_
    refine @o_n _ _ _ _ _ _ _ _ _ _ _ 15 (za4 rfl rfl rfl (congrArg (fun b => Value.bool (!(b))) hb5) rfl) (Eq.refl (some 15)) ?_
    refine @o_n _ _ _ _ _ _ _ _ _ _ _ 16 (za4 rfl rfl rfl (congrArg (fun b => Value.bool (!(b))) hb5) rfl) (Eq.refl (some 16)) ?_
    refine @o_n _ _ _ _ _ _ _ _ _ _ _ 17 (za4 rfl rfl rfl (congrArg (fun b => Value.bool (!(b))) hb5) rfl) (Eq.refl (some 17)) ?_
    refine @o_n _ _ _ _ _ _ _ _ _ _ _ 18 (za4 rfl rfl rfl (congrArg (fun b => Value.bool (!(b))) hb5) rfl) (Eq.refl (some 18)) ?_
    refine o_q rfl rfl (zaq true (congrArg (fun b => Value.bool (!(b))) hb5) rfl) ?_
    refine o_end ?_
    refine za1 ?_
    refine c_true rfl ?_
    refine c_seq ?_
    refine za0 ?_
    refine o_q rfl rfl (q_asg rfl) ?_
    refine o_q rfl rfl (q_asg rfl) ?_
    refine o_end ?_
    refine za1 ?_
    refine c_ret ?_
    refine zaa ?_
    refine x_nil (Kd.int .i64) 3 ?_
    have e0_ := Option.some.inj h; clear h
    have d0_ := (Prod.mk.inj e0_).1; have e1_ := (Prod.mk.inj e0_).2; clear e0_; subst d0_
    subst e1_
    exact x_r2 (none, 0) Try.results13 (zaj rfl) (zaj rfl) rfl (fun w h => za6 [0] (by decide) rfl w h)

/-! ### loop.example/g01098/spec.plUpTo: function 72 -/
def spec_plUpTo.l0 (a0 : Int) : Nat → (List Int) → Int → Option (List Int)
  | 0, _, _ => none
  | k8 + 1, l2, i5 => if i5 < a0 then ((ap l2 ([i5] : List Int)).bind fun l20 => spec_plUpTo.l0 a0 k8 l20 (w64 (i5 + 1))) else (some l2)
def spec_plUpTo.f (k : Nat) (a0 : Int) : Option (List Int) := (spec_plUpTo.l0 a0 k ([] : List Int) 0).bind fun l2 => some l2
set_option maxHeartbeats 600000 in
set_option maxRecDepth 100000 in
theorem spec_plUpTo.calls (k : Nat) {w0 ws : World} {P0 : Nat → Prop} (a0 : Int) (Z : Below w0.heap.size w0 ws) (hF : Fr w0 ws P0 [] ws)  (r_1 : List Int) (h : spec_plUpTo.f k a0 = some r_1) :
    Calls Try.prog 72 #[.int .i64 a0] ws (Post1 w0 ws P0 (fun ((q_2, q_3) : (Option Addr) × Nat) => .slice q_2 r_1.length q_3) (fun ((q_2, q_3) : (Option Addr) × Nat) => [row (Kd.int .i64) 3 (.slice q_2 r_1.length q_3) r_1])) := by
  unfold spec_plUpTo.f at h
  refine enter Try.func72 rfl Try.ntmps72 rfl hF ?_
  refine c_seq ?_
  refine za0 ?_
  refine o_q rfl rfl (q_asg rfl) ?_
  refine o_end ?_
  refine za1 ?_
  refine c_seq ?_
  refine za0 ?_
  refine o_q rfl rfl (q_asg rfl) ?_
  refine o_end ?_
  refine za1 ?_
  refine c_seq ?_
  refine c_seq ?_
  refine za0 ?_
  refine o_q rfl rfl (q_asg rfl) ?_
  refine o_end ?_
  refine za1 ?_
  refine zak ?_
  refine c_nil (Kd.int .i64) 3 ?_
  refine za7 h (fun o13 hl12 hR11 => ?_) rfl
  clear h
  refine zav (σ := (List Int) × Int × (Option Addr) × Nat) (fun k8 ((l2, i5, A3, c4) : (List Int) × Int × (Option Addr) × Nat) => spec_plUpTo.l0 a0 k8 l2 i5 = some o13) [3, 4, 5, 6, 7, 8, 9, 10, 11, 12, 13] (fun ((l2, i5, A3, c4) : (List Int) × Int × (Option Addr) × Nat) => [(3, .slice A3 l2.length c4), (4, .int .i64 i5)]) (fun ((l2, i5, A3, c4) : (List Int) × Int × (Option Addr) × Nat) => [row (Kd.int .i64) 3 (.slice A3 l2.length c4) l2]) k (([] : List Int), 0, none, 0) hl12 ⟨rfl, rfl, trivial⟩ (fun w h => h) ?_
  refine natC (cur4 (fun l2 i5 A3 c4 => fun U14 hJ_ => ?_)) (fun k8 => (cur4 (fun l2 i5 A3 c4 => fun U14 hJ_ => ?_)))
  · skip
    replace hJ_ : spec_plUpTo.l0 a0 0 l2 i5 = some o13 := hJ_
    rw [spec_plUpTo.l0] at hJ_
    exact noneE hJ_
  · skip
    clear hl12
    have h := hJ_; clear hJ_
    replace h : spec_plUpTo.l0 a0 (k8 + 1) l2 i5 = some o13 := h
    rw [spec_plUpTo.l0] at h
    refine c_seq ?_
    refine c_seq ?_
    refine za0 ?_
    refine o_q rfl rfl (za2 rfl) ?_
    refine o_q rfl rfl (za2 rfl) ?_
    refine o_q rfl rfl (q_lss rfl rfl) ?_
    refine o_end ?_
    refine za1 ?_
    refine zat _ rfl (fun hb16 => ?_) (fun hb16 => ?_)
    · skip
      replace h := br_t hb16 h
      refine zan ?_
      refine za1 ?_
      refine c_seq ?_
      refine zak ?_
      refine za0 ?_
      refine o_q rfl rfl (za2 rfl) ?_
      refine o_q rfl rfl (za2 rfl) ?_
      refine o_e rfl (e_lit (vs := [(0, .int .i64 i5)]) (cs := [.int .i64 i5]) (Kd.int .i64) ([i5] : List Int) Try.underlying25 I3 (by decide) rfl (by decide) rfl rfl (fun _ _ => Kd.zao _)) (cur2 (fun A17 c18 => ?_))
      refine za7 h (fun l20 ha21 h => ?_) rfl
      refine o_e rfl (e_app (i := 1) (j := 0) Try.underlying25 I3 rfl (by decide) (by decide) rfl rfl rfl rfl rfl ha21) (cur2 (fun A22 c23 => ?_))
      refine o_q rfl rfl (q_asg rfl) ?_
      refine o_end ?_
      refine zal ?_
      refine za1 ?_
      refine za0 ?_
      refine o_q rfl rfl (za2 rfl) ?_
      refine o_q rfl rfl (q_add64 rfl rfl) ?_
      refine o_q rfl rfl (q_asg rfl) ?_
      refine o_end ?_
      refine zai k8 (l20, w64 (i5 + 1), A22, c23) (Nat.lt_succ_self _) h ⟨rfl, rfl, trivial⟩ (fun w h => za6 [1] (by decide) rfl w h) ?_
      repeat (first | exact zab _ _ | refine zaf rfl ?_ | refine zac rfl ?_ | refine zah rfl ?_)
    · skip
      replace h := br_f hb16 h
      refine c_exit ?_
      refine za5 ?_
      refine za5 ?_
      have e_ := Option.some.inj h; replace h := hR11; rw [← e_] at h; clear e_
      refine x_hit ?_
      refine za1 ?_
      refine c_seq ?_
      refine za0 ?_
      refine o_q rfl rfl (za2 rfl) ?_
      refine o_q rfl rfl (q_asg rfl) ?_
      refine o_end ?_
      refine za1 ?_
      refine c_ret ?_
      have e0_ := Option.some.inj h; clear h
      subst e0_
      exact x_r1 (A3, c4) Try.results72 (zaj rfl) rfl (fun w h => za6 [0] (by decide) rfl w h)

/-! ### loop.example/g01098/spec.NeededAfter: function 14 -/
def spec_NeededAfter.f (k : Nat) (a0_0 : Int) (l0_1 : List SStep) (l0_2 : List Int) (a1 : Int) : Option ((List Int) × Bool) := (spec_plGood.f k a0_0 l0_1 l0_2).bind fun b4 => if b4 = true then ((spec_l1In.f a1 0 (l0_1.length : Int)).bind fun b7 => if b7 = true then ((spec_plUpTo.f k a1).bind fun l10 => (spec_reNeeded.f k a0_0 l0_1 l0_2 l10).bind fun l14 => some (l14, true)) else (some (([] : List Int), false))) else (some (([] : List Int), false))
set_option maxHeartbeats 600000 in
set_option maxRecDepth 100000 in
theorem spec_NeededAfter.calls (k : Nat) {w0 ws : World} {P0 : Nat → Prop} (a0_0 : Int) (A0_1 : Option Addr) (c0_1 : Nat) (n0_1 : Nat) (l0_1 : List SStep) (A0_2 : Option Addr) (c0_2 : Nat) (n0_2 : Nat) (l0_2 : List Int) (a1 : Int) (Z : Below w0.heap.size w0 ws) (hF : Fr w0 ws P0 [] ws) (R0_1 : Stable ws P0 (fun w => Kd.C kStep w A0_1 n0_1 l0_1)) (hc0_1 : n0_1 ≤ c0_1) (R0_2 : Stable ws P0 (fun w => Kd.C (Kd.int .i64) w A0_2 n0_2 l0_2)) (hc0_2 : n0_2 ≤ c0_2) (r_1 : List Int) (r_4 : Bool) (h : spec_NeededAfter.f k a0_0 l0_1 l0_2 a1 = some (r_1, r_4)) :
    Calls Try.prog 14 #[.agg #[.int .i64 a0_0, .slice A0_1 n0_1 c0_1, .slice A0_2 n0_2 c0_2], .int .i64 a1] ws (Post1 w0 ws P0 (fun ((q_2, q_3) : (Option Addr) × Nat) => .tuple #[.slice q_2 r_1.length q_3, .bool r_4]) (fun ((q_2, q_3) : (Option Addr) × Nat) => [row (Kd.int .i64) 3 (.slice q_2 r_1.length q_3) r_1])) := by
  unfold spec_NeededAfter.f at h
  obtain rfl := (R0_1 ws (KeptB.refl _ _)).1
  obtain rfl := (R0_2 ws (KeptB.refl _ _)).1
  refine enter Try.func14 rfl Try.ntmps14 rfl hF ?_
  refine c_seq ?_
  refine za0 ?_
  refine o_e rfl (e_box rfl) (fun g1 => ?_)
  refine o_q rfl rfl (q_asg rfl) ?_
  refine o_q rfl rfl (q_asg rfl) ?_
  refine o_end ?_
  refine za1 ?_
  refine c_seq ?_
  refine c_seq ?_
  refine za0 ?_
  refine o_q rfl rfl (q_ldB G27 Z27 rfl (fun w h => h.zae (i := 0) rfl) rfl) ?_
  refine za7 h (fun b4 hx3 h => ?_) rfl
  refine o_e rfl (za9 0 Z Try.func70 N70 rfl rfl rfl (fun w P1 hF hB hS hT => spec_plGood.calls k a0_0 A0_1 c0_1 l0_1.length l0_1 A0_2 c0_2 l0_2.length l0_2 hB hF (hS _ R0_1) hc0_1 (hS _ R0_2) hc0_2 _ hx3)) (fun _ => ?_)
  refine o_q rfl rfl (q_not rfl) ?_
  refine o_q rfl rfl (za2 rfl) ?_
  refine byB b4 (fun hb5 => ?_) (fun hb5 => ?_)
  · replace h := bb_t hb5 h
    refine o_w (za3 rfl rfl rfl (congrArg (fun b => Value.bool (!(b))) hb5)) rfl (za2 rfl) ?_
    refine o_w (za3 rfl rfl rfl (congrArg (fun b => Value.bool (!(b))) hb5)) rfl (q_f F27_1 rfl) ?_
    refine o_w (za3 rfl rfl rfl (congrArg (fun b => Value.bool (!(b))) hb5)) rfl (q_ldb Y24 rfl (fun w h => h.zae (i := 0) rfl) rfl) ?_
    refine o_w (za3 rfl rfl rfl (congrArg (fun b => Value.bool (!(b))) hb5)) rfl (q_len Try.underlying24 rfl) ?_
    refine za7 h (fun b7 hx6 h => ?_) rfl
    refine o_ew (za3 rfl rfl rfl (congrArg (fun b => Value.bool (!(b))) hb5)) (za9 0 Z Try.func61 N61 rfl rfl rfl (fun w P1 hF hB hS hT => spec_l1In.calls a1 0 (l0_1.length : Int) hB hF _ hx6)) (fun _ => ?_)
    refine o_w (za3 rfl rfl rfl (congrArg (fun b => Value.bool (!(b))) hb5)) rfl (q_not rfl) ?_
    refine o_q rfl rfl (zaq false (congrArg (fun b => Value.bool (!(b))) hb5) rfl) ?_
    refine o_end ?_
    refine za1 ?_
    refine zat _ rfl (fun hb8 => ?_) (fun hb8 => ?_)
    · replace hb8 := nt_t hb8
      replace h := bb_f hb8 h
      refine c_seq ?_
      refine za0 ?_
      refine o_q rfl rfl (q_asg rfl) ?_
      refine o_q rfl rfl (q_asg rfl) ?_
      refine o_end ?_
      refine za1 ?_
      refine c_ret ?_
      refine zaa ?_
      refine x_nil (Kd.int .i64) 3 ?_
      have e0_ := Option.some.inj h; clear h
      have d0_ := (Prod.mk.inj e0_).1; have e1_ := (Prod.mk.inj e0_).2; clear e0_; subst d0_
      subst e1_
      exact x_r2 (none, 0) Try.results14 (zaj rfl) (zaj rfl) rfl (fun w h => za6 [0] (by decide) rfl w h)
    · replace hb8 := nt_f hb8
      replace h := bb_t hb8 h
      refine zan ?_
      refine za1 ?_
      refine c_seq ?_
      refine a_start (ds := []) MO rfl ?_
      refine a_take 0 rfl rfl rfl (by kernel_rfl) (fun _ _ _ h => h) (fun w h => h) (q_ldB G27 Z27 rfl (fun w h => h.zae (i := 0) rfl) rfl) ?_
      refine za8 1 rfl rfl rfl (by kernel_rfl) (fun _ _ _ h => h) (za2 rfl) ?_
      refine za7 h (fun l10 hx9 h => ?_) rfl
      refine a_one 2 rfl rfl (by kernel_rfl) rfl (za9 0 Z Try.func72 N72 rfl rfl rfl (fun w P1 hF hB hS hT => spec_plUpTo.calls k a1 hB hF _ hx9)) (fun s w h => zad [some 1] (by decide) w h rfl) (cur2 (fun A11 c12 => ?_))
      refine za7 h (fun l14 hx13 h => ?_) rfl
      refine a_one 3 rfl rfl (by kernel_rfl) rfl (za9 0 Z Try.func71 N71 rfl rfl rfl (fun w P1 hF hB hS hT => spec_reNeeded.calls k a0_0 A0_1 c0_1 l0_1.length l0_1 A0_2 c0_2 l0_2.length l0_2 A11 c12 l10.length l10 hB hF (hS _ R0_1) hc0_1 (hS _ R0_2) hc0_2 (hT 0 _ rfl).row (hT 0 _ rfl).cap _ hx13)) (fun s w h => zad [some 2] (by decide) w h rfl) (cur2 (fun A15 c16 => ?_))
      refine za8 4 rfl rfl rfl (by kernel_rfl) (fun _ _ _ h => h) (q_asg rfl) ?_
      refine za8 5 rfl rfl rfl (by kernel_rfl) (fun _ _ _ h => h) (q_asg rfl) ?_
      refine a_done (by kernel_rfl) ?_
      refine za1 ?_
      refine c_ret ?_
      have e0_ := Option.some.inj h; clear h
      have d0_ := (Prod.mk.inj e0_).1; have e1_ := (Prod.mk.inj e0_).2; clear e0_; subst d0_
      subst e1_
      exact x_r2 (A15, c16) Try.results14 (zaj rfl) (zaj rfl) rfl (fun w h => za6 [0] (by decide) rfl w h)
  · replace h := bb_f hb5 h
    refine @o_n _ _ _ _ _ _ _ _ _ _ _ 10 (za4 rfl rfl rfl (congrArg (fun b => Value.bool (!(b))) hb5) rfl) (Eq.refl (some 10)) ?_
    refine @o_n _ _ _ _ _ _ _ _ _ _ _ 11 (za4 rfl rfl rfl (congrArg (fun b => Value.bool (!(b))) hb5) rfl) (Eq.refl (some 11)) ?_
    refine @o_n _ _ _ _ _ _ _ _ _ _ _ 12 (za4 rfl rfl rfl (congrArg (fun b => Value.bool (!(b))) hb5) rfl) (Eq.refl (some 12)) ?_
    refine @o_n _ _ _ _ _ _ _ _ _ _ _ 13 (za4 rfl rfl rfl (congrArg (fun b => Value.bool (!(b))) hb5) rfl) (Eq.refl (some 13)) ?_
    refine @o_n _ _ _ _ _ _ _ _ _ _ _ 14 (za4 rfl rfl rfl (congrArg (fun b => Value.bool (!(b))) hb5) rfl) (Eq.refl (some 14)) ?_
    refine @o_n _ _ _ _ _ _ _ _ _ _ _ 15 (za4 rfl rfl rfl (congrArg (fun b => Value.bool (!(b))) hb5) rfl) (Eq.refl (some 15)) ?_
    refine o_q rfl rfl (zaq true (congrArg (fun b => Value.bool (!(b))) hb5) rfl) ?_
    refine o_end ?_
    refine za1 ?_
    refine c_true rfl ?_
    refine c_seq ?_
    refine za0 ?_
    refine o_q rfl rfl (q_asg rfl) ?_
    refine o_q rfl rfl (q_asg rfl) ?_
    refine o_end ?_
    refine za1 ?_
    refine c_ret ?_
    refine zaa ?_
    refine x_nil (Kd.int .i64) 3 ?_
    have e0_ := Option.some.inj h; clear h
    have d0_ := (Prod.mk.inj e0_).1; have e1_ := (Prod.mk.inj e0_).2; clear e0_; subst d0_
    subst e1_
    exact x_r2 (none, 0) Try.results14 (zaj rfl) (zaj rfl) rfl (fun w h => za6 [0] (by decide) rfl w h)

/-! ### loop.example/g01098/laws.rSame: function 15 -/
def laws_rSame.l0 (l1 : List Int) : (List Int) → Int → Option ((Bool) ⊕ (Unit))
  | [], i2 => some (.inr ())
  | y3 :: ys4, i2 => (gt l1 i2).bind fun y16 => if y3 ≠ y16 then (some (.inl false)) else (laws_rSame.l0 l1 ys4 (i2 + 1))
def laws_rSame.f (l0 : List Int) (l1 : List Int) : Option Bool := if (l0.length : Int) ≠ (l1.length : Int) then (some false) else ((laws_rSame.l0 l1 l0 0).bind fun o_ => match o_ with | .inl r_ => some r_ | .inr _ => some true)
set_option maxHeartbeats 600000 in
set_option maxRecDepth 100000 in
theorem laws_rSame.calls {w0 ws : World} {P0 : Nat → Prop} (A0 : Option Addr) (c0 : Nat) (n0 : Nat) (l0 : List Int) (A1 : Option Addr) (c1 : Nat) (n1 : Nat) (l1 : List Int) (Z : Below w0.heap.size w0 ws) (hF : Fr w0 ws P0 [] ws) (R0 : Stable ws P0 (fun w => Kd.C (Kd.int .i64) w A0 n0 l0)) (hc0 : n0 ≤ c0) (R1 : Stable ws P0 (fun w => Kd.C (Kd.int .i64) w A1 n1 l1)) (hc1 : n1 ≤ c1) (r_1 : Bool) (h : laws_rSame.f l0 l1 = some r_1) :
    Calls Try.prog 15 #[.slice A0 n0 c0, .slice A1 n1 c1] ws (Post1 w0 ws P0 (fun (_ : Unit) => .bool r_1) (fun (_ : Unit) => [])) := by
  unfold laws_rSame.f at h
  obtain rfl := (R0 ws (KeptB.refl _ _)).1
  obtain rfl := (R1 ws (KeptB.refl _ _)).1
  refine enter Try.func15 rfl Try.ntmps15 rfl hF ?_
  refine c_seq ?_
  refine za0 ?_
  refine o_q rfl rfl (q_asg rfl) ?_
  refine o_end ?_
  refine za1 ?_
  refine c_seq ?_
  refine c_seq ?_
  refine za0 ?_
  refine o_q rfl rfl (za2 rfl) ?_
  refine o_q rfl rfl (q_len Try.underlying25 rfl) ?_
  refine o_q rfl rfl (za2 rfl) ?_
  refine o_q rfl rfl (q_len Try.underlying25 rfl) ?_
  refine o_q rfl rfl (q_neq rfl rfl) ?_
  refine o_end ?_
  refine za1 ?_
  refine zat _ rfl (fun hb1 => ?_) (fun hb1 => ?_)
  · skip
    replace h := br_t hb1 h
    refine c_seq ?_
    refine za0 ?_
    refine o_q rfl rfl (q_asg rfl) ?_
    refine o_end ?_
    refine za1 ?_
    refine c_ret ?_
    refine zaa ?_
    have e0_ := Option.some.inj h; clear h
    subst e0_
    exact x_r1 () Try.results15 (zaj rfl) rfl (fun w h => za6 [] (by decide) rfl w h)
  · skip
    replace h := br_f hb1 h
    refine zan ?_
    refine za1 ?_
    refine c_seq ?_
    refine c_seq ?_
    refine za0 ?_
    refine o_q rfl rfl (za2 rfl) ?_
    refine o_q rfl rfl (q_len Try.underlying25 rfl) ?_
    refine o_q rfl rfl (za2 rfl) ?_
    refine o_end ?_
    refine za1 ?_
    refine zak ?_
    refine za7 h (fun o10 hl9 hR8 => ?_) rfl
    clear h
    refine c_fact (p := l0.length ≤ 9223372036854775807) (fun w h => (R0.now Z h).2.1) (fun hm7 => ?_)
    refine zav (σ := (List Int) × Int) (fun k5 ((ys4, i2) : (List Int) × Int) => Rg l0 i2 ys4 ∧ ys4.length = k5 ∧ laws_rSame.l0 l1 ys4 i2 = some o10) [4, 5, 13, 14, 15, 16, 17, 18, 19, 20, 21, 22, 23, 24, 25] (fun ((ys4, i2) : (List Int) × Int) => [(13, .int .i64 i2)]) (fun ((ys4, i2) : (List Int) × Int) => []) l0.length (l0, 0) ⟨Rg.start _, rfl, hl9⟩ ⟨rfl, trivial⟩ (fun w h => h) ?_
    refine fun k5 => cur2 (listC (fun i2 U11 hJ_ => ?_) (fun y3 ys4 i2 U11 hJ_ => ?_))
    · skip
      clear hl9
      have hr6 := hJ_.1; have hk12 := hJ_.2.1; have h := hJ_.2.2; clear hJ_
      replace h : laws_rSame.l0 l1 [] i2 = some o10 := h
      rw [laws_rSame.l0] at h
      refine c_seq ?_
      refine za0 ?_
      refine o_q rfl rfl (q_lss rfl rfl) ?_
      refine o_end ?_
      refine za1 ?_
      refine c_seq ?_
      refine c_false (congrArg Value.bool hr6.ge) ?_
      refine c_exit ?_
      refine za5 ?_
      refine za5 ?_
      have e_ := Option.some.inj h; replace h := hR8; rw [← e_] at h; clear e_
      refine x_hit ?_
      refine za1 ?_
      refine c_seq ?_
      refine za0 ?_
      refine o_q rfl rfl (q_asg rfl) ?_
      refine o_end ?_
      refine za1 ?_
      refine c_ret ?_
      have e0_ := Option.some.inj h; clear h
      subst e0_
      exact x_r1 () Try.results15 (zaj rfl) rfl (fun w h => za6 [] (by decide) rfl w h)
    · skip
      clear hl9
      have hr6 := hJ_.1; have hk12 := hJ_.2.1; have h := hJ_.2.2; clear hJ_
      replace h : laws_rSame.l0 l1 (y3 :: ys4) i2 = some o10 := h
      rw [laws_rSame.l0] at h
      refine c_seq ?_
      refine za0 ?_
      refine o_q rfl rfl (q_lss rfl rfl) ?_
      refine o_end ?_
      refine za1 ?_
      refine c_seq ?_
      refine c_true (congrArg Value.bool hr6.lt) ?_
      refine zan ?_
      refine za1 ?_
      refine c_seq ?_
      refine zak ?_
      refine c_seq ?_
      refine za0 ?_
      refine o_q rfl rfl (za2 rfl) ?_
      refine o_q rfl rfl (q_asg rfl) ?_
      refine o_end ?_
      refine za1 ?_
      refine c_seq ?_
      refine a_start (ds := []) MO rfl ?_
      refine za8 0 rfl rfl rfl (by kernel_rfl) (fun _ _ _ h => h) (za2 rfl) ?_
      refine za8 1 rfl rfl rfl (by kernel_rfl) (fun _ _ _ h => h) (za2 rfl) ?_
      refine a_fact (p := Sh A0 l0.length l0.length) (fun w h => f_sh (dk := (Kd.int .i64)) h (fun w h => R0.now Z h)) (fun hq13 => ?_)
      refine za8 2 rfl rfl rfl (by kernel_rfl) (fun _ _ _ h => h) (q_ix Try.underlying25 Z3 rfl rfl hq13 hr6.get) ?_
      refine a_take 3 rfl rfl rfl (by kernel_rfl) (fun _ _ _ h => h) (fun w h => h) (q_lde (off := 0) Y3 rfl rfl (fun w h => R0.now Z h) hr6.get (fun _ _ h => h) rfl) ?_
      refine za8 4 rfl rfl rfl (by kernel_rfl) (fun _ _ _ h => h) (za2 rfl) ?_
      refine za8 5 rfl rfl rfl (by kernel_rfl) (fun _ _ _ h => h) (za2 rfl) ?_
      refine a_fact (p := Sh A1 l1.length l1.length) (fun w h => f_sh (dk := (Kd.int .i64)) h (fun w h => R1.now Z h)) (fun hq14 => ?_)
      refine za7 h (fun y16 hg15 h => ?_) rfl
      refine za8 6 rfl rfl rfl (by kernel_rfl) (fun _ _ _ h => h) (q_ix Try.underlying25 Z3 rfl rfl hq14 hg15) ?_
      refine a_take 7 rfl rfl rfl (by kernel_rfl) (fun _ _ _ h => h) (fun w h => h) (q_lde (off := 0) Y3 rfl rfl (fun w h => R1.now Z h) hg15 (fun _ _ h => h) rfl) ?_
      refine za8 8 rfl rfl rfl (by kernel_rfl) (fun _ _ _ h => h) (q_neq rfl rfl) ?_
      refine a_done (by kernel_rfl) ?_
      refine za1 ?_
      refine zat _ rfl (fun hb17 => ?_) (fun hb17 => ?_)
      · skip
        replace h := br_t hb17 h
        refine c_seq ?_
        refine za0 ?_
        refine o_q rfl rfl (q_asg rfl) ?_
        refine o_end ?_
        refine za1 ?_
        refine c_ret ?_
        refine zar ?_
        refine zaa ?_
        refine zaa ?_
        have e_ := Option.some.inj h; replace h := hR8; rw [← e_] at h; clear e_
        refine zar ?_
        refine zaa ?_
        have e0_ := Option.some.inj h; clear h
        subst e0_
        exact x_r1 () Try.results15 (zaj rfl) rfl (fun w h => za6 [] (by decide) rfl w h)
      · skip
        replace h := br_f hb17 h
        refine zan ?_
        refine zal ?_
        refine za1 ?_
        refine za0 ?_
        refine o_q rfl rfl (q_up rfl rfl (hr6.up hm7)) ?_
        refine o_q rfl rfl (za2 rfl) ?_
        refine o_end ?_
        refine zai ys4.length (ys4, i2 + 1) (by rw [← hk12]; exact Nat.lt_succ_self _) ⟨hr6.step, rfl, h⟩ ⟨rfl, trivial⟩ (fun w h => za6 [] (by decide) rfl w h) ?_
        repeat (first | exact zab _ _ | refine zaf rfl ?_ | refine zac rfl ?_ | refine zah rfl ?_)

/-! ### loop.example/g01098/laws.rHas: function 16 -/
def laws_rHas.l0 (a1 : Int) : (List Int) → Int → Option ((Bool) ⊕ (Unit))
  | [], i1 => some (.inr ())
  | y2 :: ys3, i1 => if y2 = a1 then (some (.inl true)) else (laws_rHas.l0 a1 ys3 (i1 + 1))
def laws_rHas.f (l0 : List Int) (a1 : Int) : Option Bool := (laws_rHas.l0 a1 l0 0).bind fun o_ => match o_ with | .inl r_ => some r_ | .inr _ => some false
set_option maxHeartbeats 600000 in
set_option maxRecDepth 100000 in
theorem laws_rHas.calls {w0 ws : World} {P0 : Nat → Prop} (A0 : Option Addr) (c0 : Nat) (n0 : Nat) (l0 : List Int) (a1 : Int) (Z : Below w0.heap.size w0 ws) (hF : Fr w0 ws P0 [] ws) (R0 : Stable ws P0 (fun w => Kd.C (Kd.int .i64) w A0 n0 l0)) (hc0 : n0 ≤ c0) (r_1 : Bool) (h : laws_rHas.f l0 a1 = some r_1) :
    Calls Try.prog 16 #[.slice A0 n0 c0, .int .i64 a1] ws (Post1 w0 ws P0 (fun (_ : Unit) => .bool r_1) (fun (_ : Unit) => [])) := by
  unfold laws_rHas.f at h
  obtain rfl := (R0 ws (KeptB.refl _ _)).1
  refine enter Try.func16 rfl Try.ntmps16 rfl hF ?_
  refine c_seq ?_
  refine za0 ?_
  refine o_q rfl rfl (q_asg rfl) ?_
  refine o_end ?_
  refine za1 ?_
  refine c_seq ?_
  refine c_seq ?_
  refine za0 ?_
  refine o_q rfl rfl (za2 rfl) ?_
  refine o_q rfl rfl (q_len Try.underlying25 rfl) ?_
  refine o_q rfl rfl (za2 rfl) ?_
  refine o_end ?_
  refine za1 ?_
  refine zak ?_
  refine za7 h (fun o9 hl8 hR7 => ?_) rfl
  clear h
  refine c_fact (p := l0.length ≤ 9223372036854775807) (fun w h => (R0.now Z h).2.1) (fun hm6 => ?_)
  refine zav (σ := (List Int) × Int) (fun k4 ((ys3, i1) : (List Int) × Int) => Rg l0 i1 ys3 ∧ ys3.length = k4 ∧ laws_rHas.l0 a1 ys3 i1 = some o9) [4, 6, 9, 10, 11, 12, 13, 14, 15, 16] (fun ((ys3, i1) : (List Int) × Int) => [(9, .int .i64 i1)]) (fun ((ys3, i1) : (List Int) × Int) => []) l0.length (l0, 0) ⟨Rg.start _, rfl, hl8⟩ ⟨rfl, trivial⟩ (fun w h => h) ?_
  refine fun k4 => cur2 (listC (fun i1 U10 hJ_ => ?_) (fun y2 ys3 i1 U10 hJ_ => ?_))
  · skip
    clear hl8
    have hr5 := hJ_.1; have hk11 := hJ_.2.1; have h := hJ_.2.2; clear hJ_
    replace h : laws_rHas.l0 a1 [] i1 = some o9 := h
    rw [laws_rHas.l0] at h
    refine c_seq ?_
    refine za0 ?_
    refine o_q rfl rfl (q_lss rfl rfl) ?_
    refine o_end ?_
    refine za1 ?_
    refine c_seq ?_
    refine c_false (congrArg Value.bool hr5.ge) ?_
    refine c_exit ?_
    refine za5 ?_
    refine za5 ?_
    have e_ := Option.some.inj h; replace h := hR7; rw [← e_] at h; clear e_
    refine x_hit ?_
    refine za1 ?_
    refine c_seq ?_
    refine za0 ?_
    refine o_q rfl rfl (q_asg rfl) ?_
    refine o_end ?_
    refine za1 ?_
    refine c_ret ?_
    have e0_ := Option.some.inj h; clear h
    subst e0_
    exact x_r1 () Try.results16 (zaj rfl) rfl (fun w h => za6 [] (by decide) rfl w h)
  · skip
    clear hl8
    have hr5 := hJ_.1; have hk11 := hJ_.2.1; have h := hJ_.2.2; clear hJ_
    replace h : laws_rHas.l0 a1 (y2 :: ys3) i1 = some o9 := h
    rw [laws_rHas.l0] at h
    refine c_seq ?_
    refine za0 ?_
    refine o_q rfl rfl (q_lss rfl rfl) ?_
    refine o_end ?_
    refine za1 ?_
    refine c_seq ?_
    refine c_true (congrArg Value.bool hr5.lt) ?_
    refine zan ?_
    refine za1 ?_
    refine c_seq ?_
    refine zak ?_
    refine c_seq ?_
    refine za0 ?_
    refine o_fact (p := Sh A0 l0.length l0.length) (fun w h => f_sh (dk := (Kd.int .i64)) h (fun w h => R0.now Z h)) (fun hq12 => ?_)
    refine o_q rfl rfl (q_ix Try.underlying25 Z3 rfl rfl hq12 hr5.get) ?_
    refine o_q rfl rfl (q_lde (off := 0) Y3 rfl rfl (fun w h => R0.now Z h) hr5.get (fun _ _ h => h) rfl) ?_
    refine o_q rfl rfl (q_asg rfl) ?_
    refine o_end ?_
    refine za1 ?_
    refine c_seq ?_
    refine za0 ?_
    refine o_q rfl rfl (za2 rfl) ?_
    refine o_q rfl rfl (za2 rfl) ?_
    refine o_q rfl rfl (q_eql rfl rfl) ?_
    refine o_end ?_
    refine za1 ?_
    refine zat _ rfl (fun hb13 => ?_) (fun hb13 => ?_)
    · skip
      replace h := br_t hb13 h
      refine c_seq ?_
      refine za0 ?_
      refine o_q rfl rfl (q_asg rfl) ?_
      refine o_end ?_
      refine za1 ?_
      refine c_ret ?_
      refine zar ?_
      refine zaa ?_
      refine zaa ?_
      have e_ := Option.some.inj h; replace h := hR7; rw [← e_] at h; clear e_
      refine zar ?_
      refine zaa ?_
      have e0_ := Option.some.inj h; clear h
      subst e0_
      exact x_r1 () Try.results16 (zaj rfl) rfl (fun w h => za6 [] (by decide) rfl w h)
    · skip
      replace h := br_f hb13 h
      refine zan ?_
      refine zal ?_
      refine za1 ?_
      refine za0 ?_
      refine o_q rfl rfl (q_up rfl rfl (hr5.up hm6)) ?_
      refine o_q rfl rfl (za2 rfl) ?_
      refine o_end ?_
      refine zai ys3.length (ys3, i1 + 1) (by rw [← hk11]; exact Nat.lt_succ_self _) ⟨hr5.step, rfl, h⟩ ⟨rfl, trivial⟩ (fun w h => za6 [] (by decide) rfl w h) ?_
      repeat (first | exact zab _ _ | refine zaf rfl ?_ | refine zac rfl ?_ | refine zah rfl ?_)

/-! ### loop.example/g01098/laws.FnOrdersWithin: function 3 -/
def laws_FnOrdersWithin.l1 (l68 : List Int) : (List Int) → Int → Option ((Bool) ⊕ (Unit))
  | [], i101 => some (.inr ())
  | y102 :: ys103, i101 => (laws_rHas.f l68 y102).bind fun b114 => if b114 = true then (laws_FnOrdersWithin.l1 l68 ys103 (i101 + 1)) else (some (.inl false))
def laws_FnOrdersWithin.l0 (l59 : List Int) : (List Int) → Int → Option ((Bool) ⊕ (Unit))
  | [], i90 => some (.inr ())
  | y91 :: ys92, i90 => (laws_rHas.f l59 y91).bind fun b118 => if b118 = true then (laws_FnOrdersWithin.l0 l59 ys92 (i90 + 1)) else (some (.inl false))
def laws_FnOrdersWithin.f (k : Nat) (l0 : List Int) (l1 : List Int) : Option Bool := (laws_big.f l0 l1).bind fun b2 => if b2 = true then (some true) else ((spec_DrawOrdersWithin.f k l0).bind fun (i5, l6, l7, i8) => (impl_OrdersWithin.f k i5 l6 l7 i8).bind fun (i16, b17) => (spec_OrdersWithin.f k i5 l6 l7 i8).bind fun (i19, b20) => if (b17 != b20) = true then (some false) else (if i16 ≠ i19 then (some false) else (((if b17 = true then (some (decide (i8 < 46))) else (some false)).bind fun b43 => if b43 = true then ((impl_OrdersWithin.f k i5 l6 l7 (w64 (i8 + 1))).bind fun (i52, b53) => if b53 = true then (if i52 < i16 then (some (.inl false)) else (some (.inr ()))) else (some (.inl false))) else (some (.inr ())) : Option ((Bool) ⊕ (Unit))).bind fun o_ => match o_ with | .inl r_ => some r_ | .inr _ => (spec_DrawNeededAfter.f k l1).bind fun (i57, l58, l59, i60) => (impl_NeededAfter.f k i57 l58 l59 i60).bind fun (l68, b69) => (spec_NeededAfter.f k i57 l58 l59 i60).bind fun (l73, b74) => if (b69 != b74) = true then (some false) else ((laws_rSame.f l68 l73).bind fun b79 => if b79 = true then ((if b69 = true then (some (decide (i60 = (l58.length : Int)))) else (some false)).bind fun b82 => if b82 = true then ((laws_FnOrdersWithin.l0 l59 l68 0).bind fun o_ => match o_ with | .inl r_ => some r_ | .inr _ => (laws_FnOrdersWithin.l1 l68 l59 0).bind fun o_ => match o_ with | .inl r_ => some r_ | .inr _ => some true) else (some true)) else (some false)))))
set_option maxHeartbeats 600000 in
set_option maxRecDepth 100000 in
theorem laws_FnOrdersWithin.calls (k : Nat) {w0 ws : World} {P0 : Nat → Prop} (A0 : Option Addr) (c0 : Nat) (n0 : Nat) (l0 : List Int) (A1 : Option Addr) (c1 : Nat) (n1 : Nat) (l1 : List Int) (Z : Below w0.heap.size w0 ws) (hF : Fr w0 ws P0 [] ws) (R0 : Stable ws P0 (fun w => Kd.C (Kd.int .u8) w A0 n0 l0)) (hc0 : n0 ≤ c0) (R1 : Stable ws P0 (fun w => Kd.C (Kd.int .u8) w A1 n1 l1)) (hc1 : n1 ≤ c1) (r_1 : Bool) (h : laws_FnOrdersWithin.f k l0 l1 = some r_1) :
    Calls Try.prog 3 #[.slice A0 n0 c0, .slice A1 n1 c1] ws (Post1 w0 ws P0 (fun (_ : Unit) => .bool r_1) (fun (_ : Unit) => [])) := by
  unfold laws_FnOrdersWithin.f at h
  obtain rfl := (R0 ws (KeptB.refl _ _)).1
  obtain rfl := (R1 ws (KeptB.refl _ _)).1
  refine enter Try.func3 rfl Try.ntmps3 rfl hF ?_
  refine c_seq ?_
  refine za0 ?_
  refine o_q rfl rfl (q_asg rfl) ?_
  refine o_end ?_
  refine za1 ?_
  refine c_seq ?_
  refine c_seq ?_
  refine za0 ?_
  refine o_q rfl rfl (za2 rfl) ?_
  refine o_q rfl rfl (za2 rfl) ?_
  refine za7 h (fun b2 hx1 h => ?_) rfl
  refine o_e rfl (za9 0 Z Try.func8 N8 rfl rfl rfl (fun w P1 hF hB hS hT => laws_big.calls A0 c0 l0.length l0 A1 c1 l1.length l1 hB hF (hS _ R0) hc0 (hS _ R1) hc1 _ hx1)) (fun _ => ?_)
  refine o_end ?_
  refine za1 ?_
  refine zat _ rfl (fun hb3 => ?_) (fun hb3 => ?_)
  · skip
    replace h := bb_t hb3 h
    refine c_seq ?_
    refine za0 ?_
    refine o_q rfl rfl (q_asg rfl) ?_
    refine o_end ?_
    refine za1 ?_
    refine c_ret ?_
    refine zaa ?_
    have e0_ := Option.some.inj h; clear h
    subst e0_
    exact x_r1 () Try.results3 (zaj rfl) rfl (fun w h => za6 [] (by decide) rfl w h)
  · skip
    replace h := bb_f hb3 h
    refine zan ?_
    refine za1 ?_
    refine c_seq ?_
    refine za0 ?_
    refine o_q rfl rfl (za2 rfl) ?_
    refine bindE4 h (fun i5 l6 l7 i8 hx4 h => ?_) rfl
    refine o_e rfl (za9 0 Z Try.func9 N9 rfl rfl rfl (fun w P1 hF hB hS hT => spec_DrawOrdersWithin.calls k A0 c0 l0.length l0 hB hF (hS _ R0) hc0 _ _ _ _ hx4)) (cur4 (fun A9 c10 A11 c12 => ?_))
    refine o_q rfl rfl (za2 rfl) ?_
    refine o_q rfl rfl (q_ext rfl rfl) ?_
    refine o_q rfl rfl (q_ext rfl rfl) ?_
    refine o_e rfl (e_alloc V27 rfl) (fun g13 => ?_)
    refine o_e rfl (e_storeA (i := 0) rfl rfl rfl Z27 rfl rfl) (fun _ => ?_)
    refine o_q rfl rfl (q_asg rfl) ?_
    refine o_end ?_
    refine za1 ?_
    refine c_seq ?_
    refine za0 ?_
    refine o_q rfl rfl (q_ldB G27 Z27 rfl (fun w h => h.zae (i := 0) rfl) rfl) ?_
    refine o_q rfl rfl (za2 rfl) ?_
    refine bindE2 h (fun i16 b17 hx15 h => ?_) rfl
    refine o_e rfl (za9 0 Z Try.func10 N10 rfl rfl rfl (fun w P1 hF hB hS hT => impl_OrdersWithin.calls k i5 A9 c10 l6.length l6 A11 c12 l7.length l7 i8 hB hF (hT 1 _ rfl).row (hT 1 _ rfl).cap (hT 2 _ rfl).row (hT 2 _ rfl).cap _ _ hx15)) (fun _ => ?_)
    refine o_q rfl rfl (za2 rfl) ?_
    refine o_q rfl rfl (q_ext rfl rfl) ?_
    refine o_q rfl rfl (q_ext rfl rfl) ?_
    refine o_q rfl rfl (q_asg rfl) ?_
    refine o_q rfl rfl (q_asg rfl) ?_
    refine o_end ?_
    refine za1 ?_
    refine c_seq ?_
    refine za0 ?_
    refine o_q rfl rfl (q_ldB G27 Z27 rfl (fun w h => h.zae (i := 0) rfl) rfl) ?_
    refine o_q rfl rfl (za2 rfl) ?_
    refine bindE2 h (fun i19 b20 hx18 h => ?_) rfl
    refine o_e rfl (za9 0 Z Try.func11 N11 rfl rfl rfl (fun w P1 hF hB hS hT => spec_OrdersWithin.calls k i5 A9 c10 l6.length l6 A11 c12 l7.length l7 i8 hB hF (hT 1 _ rfl).row (hT 1 _ rfl).cap (hT 2 _ rfl).row (hT 2 _ rfl).cap _ _ hx18)) (fun _ => ?_)
    refine o_q rfl rfl (za2 rfl) ?_
    refine o_q rfl rfl (q_ext rfl rfl) ?_
    refine o_q rfl rfl (q_ext rfl rfl) ?_
    refine o_q rfl rfl (q_asg rfl) ?_
    refine o_q rfl rfl (q_asg rfl) ?_
    refine o_end ?_
    refine za1 ?_
    refine c_seq ?_
    refine c_seq ?_
    refine za0 ?_
    refine o_q rfl rfl (za2 rfl) ?_
    refine o_q rfl rfl (za2 rfl) ?_
    refine o_q rfl rfl (q_bneq Try.underlying4 rfl rfl) ?_
    refine o_q rfl rfl (za2 rfl) ?_
    refine byB (b17 != b20) (fun hb21 => ?_) (fun hb21 => ?_)
    · replace h := bb_t hb21 h
      refine @o_n _ _ _ _ _ _ _ _ _ _ _ 47 (za4 rfl rfl rfl (congrArg Value.bool hb21) rfl) (Eq.refl (some 47)) ?_
      refine @o_n _ _ _ _ _ _ _ _ _ _ _ 48 (za4 rfl rfl rfl (congrArg Value.bool hb21) rfl) (Eq.refl (some 48)) ?_
      refine @o_n _ _ _ _ _ _ _ _ _ _ _ 49 (za4 rfl rfl rfl (congrArg Value.bool hb21) rfl) (Eq.refl (some 49)) ?_
      refine o_q rfl rfl (zaq true (congrArg Value.bool hb21) rfl) ?_
      refine o_end ?_
      refine za1 ?_
      refine c_true rfl ?_
      refine c_seq ?_
      refine za0 ?_
      refine o_q rfl rfl (q_asg rfl) ?_
      refine o_end ?_
      refine za1 ?_
      refine c_ret ?_
      refine zaa ?_
      have e0_ := Option.some.inj h; clear h
      subst e0_
      exact x_r1 () Try.results3 (zaj rfl) rfl (fun w h => za6 [] (by decide) rfl w h)
    · replace h := bb_f hb21 h
      refine o_w (za3 rfl rfl rfl (congrArg Value.bool hb21)) rfl (za2 rfl) ?_
      refine o_w (za3 rfl rfl rfl (congrArg Value.bool hb21)) rfl (za2 rfl) ?_
      refine o_w (za3 rfl rfl rfl (congrArg Value.bool hb21)) rfl (q_neq rfl rfl) ?_
      refine o_q rfl rfl (zaq false (congrArg Value.bool hb21) rfl) ?_
      refine o_end ?_
      refine za1 ?_
      refine zat _ rfl (fun hb22 => ?_) (fun hb22 => ?_)
      · skip
        replace h := br_t hb22 h
        refine c_seq ?_
        refine za0 ?_
        refine o_q rfl rfl (q_asg rfl) ?_
        refine o_end ?_
        refine za1 ?_
        refine c_ret ?_
        refine zaa ?_
        have e0_ := Option.some.inj h; clear h
        subst e0_
        exact x_r1 () Try.results3 (zaj rfl) rfl (fun w h => za6 [] (by decide) rfl w h)
      · skip
        replace h := br_f hb22 h
        refine zan ?_
        refine za1 ?_
        refine za7 h (fun o37 hl38 hR39 => ?_) rfl
        clear h
        refine c_cutJ (σ := Unit) (fun _ => some (.inr ()) = some o37) [4, 11, 12, 51, 52, 53, 54, 55, 56, 57, 58, 59, 60, 61, 62, 63, 64, 65, 66, 67, 68, 69] (fun _ => []) (fun _ => [box g13 27 #[.int .i64 i5, .slice A9 l6.length c10, .slice A11 l7.length c12], row kStep 88 (.slice A9 l6.length c10) l6, row (Kd.int .i64) 3 (.slice A11 l7.length c12) l7]) ?_ ?_
        · skip
          have h := hl38; clear hl38
          refine za7 h (fun o44 hl45 hR46 => ?_) rfl
          clear h
          refine c_cutJ (σ := Bool) (fun b43 => some b43 = some o44) [51, 52, 53, 54, 55] (fun b43 => [(55, .bool b43)]) (fun b43 => [box g13 27 #[.int .i64 i5, .slice A9 l6.length c10, .slice A11 l7.length c12], row kStep 88 (.slice A9 l6.length c10) l6, row (Kd.int .i64) 3 (.slice A11 l7.length c12) l7]) ?_ ?_
          · skip
            have h := hl45; clear hl45
            clear hR46
            refine za0 ?_
            refine o_q rfl rfl (za2 rfl) ?_
            refine o_q rfl rfl (za2 rfl) ?_
            refine byB b17 (fun hb49 => ?_) (fun hb49 => ?_)
            · replace h := bb_t hb49 h
              refine o_w (za3 rfl rfl rfl (congrArg Value.bool hb49)) rfl (za2 rfl) ?_
              refine o_w (za3 rfl rfl rfl (congrArg Value.bool hb49)) rfl (q_lss rfl rfl) ?_
              refine o_q rfl rfl (zaq true (congrArg Value.bool hb49) rfl) ?_
              refine o_end ?_
              refine x_meetJ (decide (i8 < 46)) h ⟨rfl, trivial⟩ (fun w h => za6 [0, 1, 2] (by decide) rfl w h) ?_
              repeat (first | exact zab _ _ | refine zaf rfl ?_ | refine zac rfl ?_ | refine zah rfl ?_)
            · replace h := bb_f hb49 h
              refine @o_n _ _ _ _ _ _ _ _ _ _ _ 53 (za4 rfl rfl rfl (congrArg Value.bool hb49) rfl) (Eq.refl (some 53)) ?_
              refine @o_n _ _ _ _ _ _ _ _ _ _ _ 54 (za4 rfl rfl rfl (congrArg Value.bool hb49) rfl) (Eq.refl (some 54)) ?_
              refine o_q rfl rfl (zaq false (congrArg Value.bool hb49) rfl) ?_
              refine o_end ?_
              refine x_meetJ false h ⟨rfl, trivial⟩ (fun w h => za6 [0, 1, 2] (by decide) rfl w h) ?_
              repeat (first | exact zab _ _ | refine zaf rfl ?_ | refine zac rfl ?_ | refine zah rfl ?_)
          · skip
            refine (fun b43 => fun U47 hJ48 => ?_)
            have e_ := Option.some.inj hJ48; have h := hR46; rw [← e_] at h; clear e_ hJ48 hR46 hl45
            refine zat _ rfl (fun hb50 => ?_) (fun hb50 => ?_)
            · skip
              replace h := bb_t hb50 h
              refine c_seq ?_
              refine za0 ?_
              refine o_q rfl rfl (q_ldB G27 Z27 rfl (fun w h => h.zae (i := 0) rfl) rfl) ?_
              refine o_q rfl rfl (za2 rfl) ?_
              refine o_q rfl rfl (q_add64 rfl rfl) ?_
              refine bindE2 h (fun i52 b53 hx51 h => ?_) rfl
              refine o_e rfl (za9 0 Z Try.func10 N10 rfl rfl rfl (fun w P1 hF hB hS hT => impl_OrdersWithin.calls k i5 A9 c10 l6.length l6 A11 c12 l7.length l7 (w64 (i8 + 1)) hB hF (hT 1 _ rfl).row (hT 1 _ rfl).cap (hT 2 _ rfl).row (hT 2 _ rfl).cap _ _ hx51)) (fun _ => ?_)
              refine o_q rfl rfl (za2 rfl) ?_
              refine o_q rfl rfl (q_ext rfl rfl) ?_
              refine o_q rfl rfl (q_ext rfl rfl) ?_
              refine o_q rfl rfl (q_asg rfl) ?_
              refine o_q rfl rfl (q_asg rfl) ?_
              refine o_end ?_
              refine za1 ?_
              refine c_seq ?_
              refine za0 ?_
              refine o_q rfl rfl (za2 rfl) ?_
              refine o_q rfl rfl (q_not rfl) ?_
              refine o_q rfl rfl (za2 rfl) ?_
              refine byB b53 (fun hb54 => ?_) (fun hb54 => ?_)
              · replace h := bb_t hb54 h
                refine o_w (za3 rfl rfl rfl (congrArg (fun b => Value.bool (!(b))) hb54)) rfl (za2 rfl) ?_
                refine o_w (za3 rfl rfl rfl (congrArg (fun b => Value.bool (!(b))) hb54)) rfl (za2 rfl) ?_
                refine o_w (za3 rfl rfl rfl (congrArg (fun b => Value.bool (!(b))) hb54)) rfl (q_lss rfl rfl) ?_
                refine o_q rfl rfl (zaq false (congrArg (fun b => Value.bool (!(b))) hb54) rfl) ?_
                refine o_end ?_
                refine za1 ?_
                refine zat _ rfl (fun hb55 => ?_) (fun hb55 => ?_)
                · skip
                  replace h := br_t hb55 h
                  refine c_seq ?_
                  refine za0 ?_
                  refine o_q rfl rfl (q_asg rfl) ?_
                  refine o_end ?_
                  refine za1 ?_
                  refine c_ret ?_
                  refine zaa ?_
                  have e_ := Option.some.inj h; replace h := hR39; rw [← e_] at h; clear e_
                  have e0_ := Option.some.inj h; clear h
                  subst e0_
                  exact x_r1 () Try.results3 (zaj rfl) rfl (fun w h => za6 [] (by decide) rfl w h)
                · skip
                  replace h := br_f hb55 h
                  refine zan ?_
                  refine x_meetJ () h trivial (fun w h => za6 [0, 1, 2] (by decide) rfl w h) ?_
                  repeat (first | exact zab _ _ | refine zaf rfl ?_ | refine zac rfl ?_ | refine zah rfl ?_)
              · replace h := bb_f hb54 h
                refine @o_n _ _ _ _ _ _ _ _ _ _ _ 66 (za4 rfl rfl rfl (congrArg (fun b => Value.bool (!(b))) hb54) rfl) (Eq.refl (some 66)) ?_
                refine @o_n _ _ _ _ _ _ _ _ _ _ _ 67 (za4 rfl rfl rfl (congrArg (fun b => Value.bool (!(b))) hb54) rfl) (Eq.refl (some 67)) ?_
                refine @o_n _ _ _ _ _ _ _ _ _ _ _ 68 (za4 rfl rfl rfl (congrArg (fun b => Value.bool (!(b))) hb54) rfl) (Eq.refl (some 68)) ?_
                refine o_q rfl rfl (zaq true (congrArg (fun b => Value.bool (!(b))) hb54) rfl) ?_
                refine o_end ?_
                refine za1 ?_
                refine c_true rfl ?_
                refine c_seq ?_
                refine za0 ?_
                refine o_q rfl rfl (q_asg rfl) ?_
                refine o_end ?_
                refine za1 ?_
                refine c_ret ?_
                refine zaa ?_
                have e_ := Option.some.inj h; replace h := hR39; rw [← e_] at h; clear e_
                have e0_ := Option.some.inj h; clear h
                subst e0_
                exact x_r1 () Try.results3 (zaj rfl) rfl (fun w h => za6 [] (by decide) rfl w h)
            · skip
              replace h := bb_f hb50 h
              refine zan ?_
              refine x_meetJ () h trivial (fun w h => za6 [0, 1, 2] (by decide) rfl w h) ?_
              repeat (first | exact zab _ _ | refine zaf rfl ?_ | refine zac rfl ?_ | refine zah rfl ?_)
        · skip
          refine (fun _ => fun U40 hJ41 => ?_)
          have e_ := Option.some.inj hJ41; have h := hR39; rw [← e_] at h; clear e_ hJ41 hR39 hl38
          refine c_seq ?_
          refine za0 ?_
          refine o_q rfl rfl (za2 rfl) ?_
          refine bindE4 h (fun i57 l58 l59 i60 hx56 h => ?_) rfl
          refine o_e rfl (za9 0 Z Try.func12 N12 rfl rfl rfl (fun w P1 hF hB hS hT => spec_DrawNeededAfter.calls k A1 c1 l1.length l1 hB hF (hS _ R1) hc1 _ _ _ _ hx56)) (cur4 (fun A61 c62 A63 c64 => ?_))
          refine o_q rfl rfl (za2 rfl) ?_
          refine o_q rfl rfl (q_ext rfl rfl) ?_
          refine o_q rfl rfl (q_ext rfl rfl) ?_
          refine o_e rfl (e_alloc V27 rfl) (fun g65 => ?_)
          refine o_e rfl (e_storeA (i := 0) rfl rfl rfl Z27 rfl rfl) (fun _ => ?_)
          refine o_q rfl rfl (q_asg rfl) ?_
          refine o_end ?_
          refine za1 ?_
          refine c_seq ?_
          refine za0 ?_
          refine o_q rfl rfl (q_ldB G27 Z27 rfl (fun w h => h.zae (i := 0) rfl) rfl) ?_
          refine o_q rfl rfl (za2 rfl) ?_
          refine bindE2 h (fun l68 b69 hx67 h => ?_) rfl
          refine o_e rfl (za9 0 Z Try.func13 N13 rfl rfl rfl (fun w P1 hF hB hS hT => impl_NeededAfter.calls k i57 A61 c62 l58.length l58 A63 c64 l59.length l59 i60 hB hF (hT 1 _ rfl).row (hT 1 _ rfl).cap (hT 2 _ rfl).row (hT 2 _ rfl).cap _ _ hx67)) (cur2 (fun A70 c71 => ?_))
          refine o_q rfl rfl (za2 rfl) ?_
          refine o_q rfl rfl (q_ext rfl rfl) ?_
          refine o_q rfl rfl (q_ext rfl rfl) ?_
          refine o_q rfl rfl (q_asg rfl) ?_
          refine o_q rfl rfl (q_asg rfl) ?_
          refine o_end ?_
          refine za1 ?_
          refine c_seq ?_
          refine za0 ?_
          refine o_q rfl rfl (q_ldB G27 Z27 rfl (fun w h => h.zae (i := 1) rfl) rfl) ?_
          refine o_q rfl rfl (za2 rfl) ?_
          refine bindE2 h (fun l73 b74 hx72 h => ?_) rfl
          refine o_e rfl (za9 0 Z Try.func14 N14 rfl rfl rfl (fun w P1 hF hB hS hT => spec_NeededAfter.calls k i57 A61 c62 l58.length l58 A63 c64 l59.length l59 i60 hB hF (hT 2 _ rfl).row (hT 2 _ rfl).cap (hT 3 _ rfl).row (hT 3 _ rfl).cap _ _ hx72)) (cur2 (fun A75 c76 => ?_))
          refine o_q rfl rfl (za2 rfl) ?_
          refine o_q rfl rfl (q_ext rfl rfl) ?_
          refine o_q rfl rfl (q_ext rfl rfl) ?_
          refine o_q rfl rfl (q_asg rfl) ?_
          refine o_q rfl rfl (q_asg rfl) ?_
          refine o_end ?_
          refine za1 ?_
          refine c_seq ?_
          refine c_seq ?_
          refine za0 ?_
          refine o_q rfl rfl (za2 rfl) ?_
          refine o_q rfl rfl (za2 rfl) ?_
          refine o_q rfl rfl (q_bneq Try.underlying4 rfl rfl) ?_
          refine o_q rfl rfl (za2 rfl) ?_
          refine byB (b69 != b74) (fun hb77 => ?_) (fun hb77 => ?_)
          · replace h := bb_t hb77 h
            refine @o_n _ _ _ _ _ _ _ _ _ _ _ 91 (za4 rfl rfl rfl (congrArg Value.bool hb77) rfl) (Eq.refl (some 91)) ?_
            refine @o_n _ _ _ _ _ _ _ _ _ _ _ 92 (za4 rfl rfl rfl (congrArg Value.bool hb77) rfl) (Eq.refl (some 92)) ?_
            refine @o_n _ _ _ _ _ _ _ _ _ _ _ 93 (za4 rfl rfl rfl (congrArg Value.bool hb77) rfl) (Eq.refl (some 93)) ?_
            refine @o_n _ _ _ _ _ _ _ _ _ _ _ 94 (za4 rfl rfl rfl (congrArg Value.bool hb77) rfl) (Eq.refl (some 94)) ?_
            refine o_q rfl rfl (zaq true (congrArg Value.bool hb77) rfl) ?_
            refine o_end ?_
            refine za1 ?_
            refine c_true rfl ?_
            refine c_seq ?_
            refine za0 ?_
            refine o_q rfl rfl (q_asg rfl) ?_
            refine o_end ?_
            refine za1 ?_
            refine c_ret ?_
            refine zaa ?_
            have e0_ := Option.some.inj h; clear h
            subst e0_
            exact x_r1 () Try.results3 (zaj rfl) rfl (fun w h => za6 [] (by decide) rfl w h)
          · replace h := bb_f hb77 h
            refine o_w (za3 rfl rfl rfl (congrArg Value.bool hb77)) rfl (za2 rfl) ?_
            refine o_w (za3 rfl rfl rfl (congrArg Value.bool hb77)) rfl (za2 rfl) ?_
            refine za7 h (fun b79 hx78 h => ?_) rfl
            refine o_ew (za3 rfl rfl rfl (congrArg Value.bool hb77)) (za9 0 Z Try.func15 N15 rfl rfl rfl (fun w P1 hF hB hS hT => laws_rSame.calls A70 c71 l68.length l68 A75 c76 l73.length l73 hB hF (hT 1 _ rfl).row (hT 1 _ rfl).cap (hT 0 _ rfl).row (hT 0 _ rfl).cap _ hx78)) (fun _ => ?_)
            refine o_w (za3 rfl rfl rfl (congrArg Value.bool hb77)) rfl (q_not rfl) ?_
            refine o_q rfl rfl (zaq false (congrArg Value.bool hb77) rfl) ?_
            refine o_end ?_
            refine za1 ?_
            refine zat _ rfl (fun hb80 => ?_) (fun hb80 => ?_)
            · replace hb80 := nt_t hb80
              replace h := bb_f hb80 h
              refine c_seq ?_
              refine za0 ?_
              refine o_q rfl rfl (q_asg rfl) ?_
              refine o_end ?_
              refine za1 ?_
              refine c_ret ?_
              refine zaa ?_
              have e0_ := Option.some.inj h; clear h
              subst e0_
              exact x_r1 () Try.results3 (zaj rfl) rfl (fun w h => za6 [] (by decide) rfl w h)
            · replace hb80 := nt_f hb80
              replace h := bb_t hb80 h
              refine zan ?_
              refine za1 ?_
              refine c_seq ?_
              refine za7 h (fun o83 hl84 hR85 => ?_) rfl
              clear h
              refine c_cutJ (σ := Bool) (fun b82 => some b82 = some o83) [96, 97, 98, 99, 100, 101, 102, 103] (fun b82 => [(103, .bool b82)]) (fun b82 => [box g65 27 #[.int .i64 i57, .slice A61 l58.length c62, .slice A63 l59.length c64], row kStep 88 (.slice A61 l58.length c62) l58, row (Kd.int .i64) 3 (.slice A63 l59.length c64) l59, row (Kd.int .i64) 3 (.slice A70 l68.length c71) l68, row (Kd.int .i64) 3 (.slice A75 l73.length c76) l73, box g13 27 #[.int .i64 i5, .slice A9 l6.length c10, .slice A11 l7.length c12], row kStep 88 (.slice A9 l6.length c10) l6, row (Kd.int .i64) 3 (.slice A11 l7.length c12) l7]) ?_ ?_
              · skip
                have h := hl84; clear hl84
                clear hR85
                refine za0 ?_
                refine o_q rfl rfl (za2 rfl) ?_
                refine o_q rfl rfl (za2 rfl) ?_
                refine byB b69 (fun hb88 => ?_) (fun hb88 => ?_)
                · replace h := bb_t hb88 h
                  refine o_w (za3 rfl rfl rfl (congrArg Value.bool hb88)) rfl (za2 rfl) ?_
                  refine o_w (za3 rfl rfl rfl (congrArg Value.bool hb88)) rfl (q_f F27_1 rfl) ?_
                  refine o_w (za3 rfl rfl rfl (congrArg Value.bool hb88)) rfl (q_ldb Y24 rfl (fun w h => h.zae (i := 2) rfl) rfl) ?_
                  refine o_w (za3 rfl rfl rfl (congrArg Value.bool hb88)) rfl (q_len Try.underlying24 rfl) ?_
                  refine o_w (za3 rfl rfl rfl (congrArg Value.bool hb88)) rfl (q_eql rfl rfl) ?_
                  refine o_q rfl rfl (zaq true (congrArg Value.bool hb88) rfl) ?_
                  refine o_end ?_
                  refine x_meetJ (decide (i60 = (l58.length : Int))) h ⟨rfl, trivial⟩ (fun w h => za6 [2, 3, 4, 1, 0, 5, 6, 7] (by decide) rfl w h) ?_
                  repeat (first | exact zab _ _ | refine zaf rfl ?_ | refine zac rfl ?_ | refine zah rfl ?_)
                · replace h := bb_f hb88 h
                  refine @o_n _ _ _ _ _ _ _ _ _ _ _ 98 (za4 rfl rfl rfl (congrArg Value.bool hb88) rfl) (Eq.refl (some 98)) ?_
                  refine @o_n _ _ _ _ _ _ _ _ _ _ _ 99 (za4 rfl rfl rfl (congrArg Value.bool hb88) rfl) (Eq.refl (some 99)) ?_
                  refine @o_n _ _ _ _ _ _ _ _ _ _ _ 100 (za4 rfl rfl rfl (congrArg Value.bool hb88) rfl) (Eq.refl (some 100)) ?_
                  refine @o_n _ _ _ _ _ _ _ _ _ _ _ 101 (za4 rfl rfl rfl (congrArg Value.bool hb88) rfl) (Eq.refl (some 101)) ?_
                  refine @o_n _ _ _ _ _ _ _ _ _ _ _ 102 (za4 rfl rfl rfl (congrArg Value.bool hb88) rfl) (Eq.refl (some 102)) ?_
                  refine o_q rfl rfl (zaq false (congrArg Value.bool hb88) rfl) ?_
                  refine o_end ?_
                  refine x_meetJ false h ⟨rfl, trivial⟩ (fun w h => za6 [2, 3, 4, 1, 0, 5, 6, 7] (by decide) rfl w h) ?_
                  repeat (first | exact zab _ _ | refine zaf rfl ?_ | refine zac rfl ?_ | refine zah rfl ?_)
              · skip
                refine (fun b82 => fun U86 hJ87 => ?_)
                have e_ := Option.some.inj hJ87; have h := hR85; rw [← e_] at h; clear e_ hJ87 hR85 hl84
                refine zat _ rfl (fun hb89 => ?_) (fun hb89 => ?_)
                · skip
                  replace h := bb_t hb89 h
                  refine c_seq ?_
                  refine c_seq ?_
                  refine za0 ?_
                  refine o_q rfl rfl (za2 rfl) ?_
                  refine o_q rfl rfl (q_len Try.underlying25 rfl) ?_
                  refine o_q rfl rfl (za2 rfl) ?_
                  refine o_end ?_
                  refine za1 ?_
                  refine zak ?_
                  refine za7 h (fun o98 hl97 hR96 => ?_) rfl
                  clear h
                  refine c_fact (p := l68.length ≤ 9223372036854775807) (fun w h => (h.zau (i := 3) rfl).2.1) (fun hm95 => ?_)
                  refine zav (σ := (List Int) × Int) (fun k93 ((ys92, i90) : (List Int) × Int) => Rg l68 i90 ys92 ∧ ys92.length = k93 ∧ laws_FnOrdersWithin.l0 l59 ys92 i90 = some o98) [4, 20, 106, 107, 108, 109, 110, 111, 112, 113, 114, 115] (fun ((ys92, i90) : (List Int) × Int) => [(106, .int .i64 i90)]) (fun ((ys92, i90) : (List Int) × Int) => [box g65 27 #[.int .i64 i57, .slice A61 l58.length c62, .slice A63 l59.length c64], row kStep 88 (.slice A61 l58.length c62) l58, row (Kd.int .i64) 3 (.slice A63 l59.length c64) l59, row (Kd.int .i64) 3 (.slice A70 l68.length c71) l68, row (Kd.int .i64) 3 (.slice A75 l73.length c76) l73, box g13 27 #[.int .i64 i5, .slice A9 l6.length c10, .slice A11 l7.length c12], row kStep 88 (.slice A9 l6.length c10) l6, row (Kd.int .i64) 3 (.slice A11 l7.length c12) l7]) l68.length (l68, 0) ⟨Rg.start _, rfl, hl97⟩ ⟨rfl, trivial⟩ (fun w h => h) ?_
                  refine fun k93 => cur2 (listC (fun i90 U99 hJ_ => ?_) (fun y91 ys92 i90 U99 hJ_ => ?_))
                  · skip
                    clear hl97
                    have hr94 := hJ_.1; have hk100 := hJ_.2.1; have h := hJ_.2.2; clear hJ_
                    replace h : laws_FnOrdersWithin.l0 l59 [] i90 = some o98 := h
                    rw [laws_FnOrdersWithin.l0] at h
                    refine c_seq ?_
                    refine za0 ?_
                    refine o_q rfl rfl (q_lss rfl rfl) ?_
                    refine o_end ?_
                    refine za1 ?_
                    refine c_seq ?_
                    refine c_false (congrArg Value.bool hr94.ge) ?_
                    refine c_exit ?_
                    refine za5 ?_
                    refine za5 ?_
                    have e_ := Option.some.inj h; replace h := hR96; rw [← e_] at h; clear e_
                    refine x_hit ?_
                    refine za1 ?_
                    refine c_seq ?_
                    refine za0 ?_
                    refine o_q rfl rfl (q_f F27_2 rfl) ?_
                    refine o_q rfl rfl (q_ldb Y25 rfl (fun w h => h.zae (i := 0) rfl) rfl) ?_
                    refine o_q rfl rfl (q_len Try.underlying25 rfl) ?_
                    refine o_q rfl rfl (za2 rfl) ?_
                    refine o_end ?_
                    refine za1 ?_
                    refine zak ?_
                    refine za7 h (fun o109 hl108 hR107 => ?_) rfl
                    clear h
                    refine c_fact (p := l59.length ≤ 9223372036854775807) (fun w h => (h.zau (i := 2) rfl).2.1) (fun hm106 => ?_)
                    refine zav (σ := (List Int) × Int) (fun k104 ((ys103, i101) : (List Int) × Int) => Rg l59 i101 ys103 ∧ ys103.length = k104 ∧ laws_FnOrdersWithin.l1 l68 ys103 i101 = some o109) [4, 22, 119, 120, 121, 122, 123, 124, 125, 126, 127] (fun ((ys103, i101) : (List Int) × Int) => [(119, .int .i64 i101)]) (fun ((ys103, i101) : (List Int) × Int) => [box g65 27 #[.int .i64 i57, .slice A61 l58.length c62, .slice A63 l59.length c64], row kStep 88 (.slice A61 l58.length c62) l58, row (Kd.int .i64) 3 (.slice A63 l59.length c64) l59, row (Kd.int .i64) 3 (.slice A70 l68.length c71) l68, row (Kd.int .i64) 3 (.slice A75 l73.length c76) l73, box g13 27 #[.int .i64 i5, .slice A9 l6.length c10, .slice A11 l7.length c12], row kStep 88 (.slice A9 l6.length c10) l6, row (Kd.int .i64) 3 (.slice A11 l7.length c12) l7]) l59.length (l59, 0) ⟨Rg.start _, rfl, hl108⟩ ⟨rfl, trivial⟩ (fun w h => h) ?_
                    refine fun k104 => cur2 (listC (fun i101 U110 hJ_ => ?_) (fun y102 ys103 i101 U110 hJ_ => ?_))
                    · skip
                      clear hl108
                      have hr105 := hJ_.1; have hk111 := hJ_.2.1; have h := hJ_.2.2; clear hJ_
                      replace h : laws_FnOrdersWithin.l1 l68 [] i101 = some o109 := h
                      rw [laws_FnOrdersWithin.l1] at h
                      refine c_seq ?_
                      refine za0 ?_
                      refine o_q rfl rfl (q_lss rfl rfl) ?_
                      refine o_end ?_
                      refine za1 ?_
                      refine c_seq ?_
                      refine c_false (congrArg Value.bool hr105.ge) ?_
                      refine c_exit ?_
                      refine za5 ?_
                      refine za5 ?_
                      have e_ := Option.some.inj h; replace h := hR107; rw [← e_] at h; clear e_
                      refine x_hit ?_
                      refine za1 ?_
                      refine c_seq ?_
                      refine za0 ?_
                      refine o_q rfl rfl (q_asg rfl) ?_
                      refine o_end ?_
                      refine za1 ?_
                      refine c_ret ?_
                      have e0_ := Option.some.inj h; clear h
                      subst e0_
                      exact x_r1 () Try.results3 (zaj rfl) rfl (fun w h => za6 [] (by decide) rfl w h)
                    · skip
                      clear hl108
                      have hr105 := hJ_.1; have hk111 := hJ_.2.1; have h := hJ_.2.2; clear hJ_
                      replace h : laws_FnOrdersWithin.l1 l68 (y102 :: ys103) i101 = some o109 := h
                      rw [laws_FnOrdersWithin.l1] at h
                      refine c_seq ?_
                      refine za0 ?_
                      refine o_q rfl rfl (q_lss rfl rfl) ?_
                      refine o_end ?_
                      refine za1 ?_
                      refine c_seq ?_
                      refine c_true (congrArg Value.bool hr105.lt) ?_
                      refine zan ?_
                      refine za1 ?_
                      refine c_seq ?_
                      refine zak ?_
                      refine c_seq ?_
                      refine za0 ?_
                      refine o_fact (p := Sh A63 l59.length l59.length) (fun w h => f_sh (dk := (Kd.int .i64)) h (fun w h => h.zau (i := 2) rfl)) (fun hq112 => ?_)
                      refine o_q rfl rfl (q_ix Try.underlying25 Z3 rfl rfl hq112 hr105.get) ?_
                      refine o_q rfl rfl (q_lde (off := 0) Y3 rfl rfl (fun w h => h.zau (i := 2) rfl) hr105.get (fun _ _ h => h) rfl) ?_
                      refine o_q rfl rfl (q_asg rfl) ?_
                      refine o_end ?_
                      refine za1 ?_
                      refine c_seq ?_
                      refine za0 ?_
                      refine o_q rfl rfl (za2 rfl) ?_
                      refine o_q rfl rfl (za2 rfl) ?_
                      refine za7 h (fun b114 hx113 h => ?_) rfl
                      refine o_e rfl (za9 0 Z Try.func16 N16 rfl rfl rfl (fun w P1 hF hB hS hT => laws_rHas.calls A70 c71 l68.length l68 y102 hB hF (hT 3 _ rfl).row (hT 3 _ rfl).cap _ hx113)) (fun _ => ?_)
                      refine o_q rfl rfl (q_not rfl) ?_
                      refine o_end ?_
                      refine za1 ?_
                      refine zat _ rfl (fun hb115 => ?_) (fun hb115 => ?_)
                      · replace hb115 := nt_t hb115
                        replace h := bb_f hb115 h
                        refine c_seq ?_
                        refine za0 ?_
                        refine o_q rfl rfl (q_asg rfl) ?_
                        refine o_end ?_
                        refine za1 ?_
                        refine c_ret ?_
                        refine zar ?_
                        refine zaa ?_
                        refine zaa ?_
                        have e_ := Option.some.inj h; replace h := hR107; rw [← e_] at h; clear e_
                        refine zar ?_
                        refine zaa ?_
                        have e0_ := Option.some.inj h; clear h
                        subst e0_
                        exact x_r1 () Try.results3 (zaj rfl) rfl (fun w h => za6 [] (by decide) rfl w h)
                      · replace hb115 := nt_f hb115
                        replace h := bb_t hb115 h
                        refine zan ?_
                        refine zal ?_
                        refine za1 ?_
                        refine za0 ?_
                        refine o_q rfl rfl (q_up rfl rfl (hr105.up hm106)) ?_
                        refine o_q rfl rfl (za2 rfl) ?_
                        refine o_end ?_
                        refine zai ys103.length (ys103, i101 + 1) (by rw [← hk111]; exact Nat.lt_succ_self _) ⟨hr105.step, rfl, h⟩ ⟨rfl, trivial⟩ (fun w h => za6 [0, 1, 2, 3, 4, 5, 6, 7] (by decide) rfl w h) ?_
                        repeat (first | exact zab _ _ | refine zaf rfl ?_ | refine zac rfl ?_ | refine zah rfl ?_)
                  · skip
                    clear hl97
                    have hr94 := hJ_.1; have hk100 := hJ_.2.1; have h := hJ_.2.2; clear hJ_
                    replace h : laws_FnOrdersWithin.l0 l59 (y91 :: ys92) i90 = some o98 := h
                    rw [laws_FnOrdersWithin.l0] at h
                    refine c_seq ?_
                    refine za0 ?_
                    refine o_q rfl rfl (q_lss rfl rfl) ?_
                    refine o_end ?_
                    refine za1 ?_
                    refine c_seq ?_
                    refine c_true (congrArg Value.bool hr94.lt) ?_
                    refine zan ?_
                    refine za1 ?_
                    refine c_seq ?_
                    refine zak ?_
                    refine c_seq ?_
                    refine za0 ?_
                    refine o_fact (p := Sh A70 l68.length l68.length) (fun w h => f_sh (dk := (Kd.int .i64)) h (fun w h => h.zau (i := 3) rfl)) (fun hq116 => ?_)
                    refine o_q rfl rfl (q_ix Try.underlying25 Z3 rfl rfl hq116 hr94.get) ?_
                    refine o_q rfl rfl (q_lde (off := 0) Y3 rfl rfl (fun w h => h.zau (i := 3) rfl) hr94.get (fun _ _ h => h) rfl) ?_
                    refine o_q rfl rfl (q_asg rfl) ?_
                    refine o_end ?_
                    refine za1 ?_
                    refine c_seq ?_
                    refine za0 ?_
                    refine o_q rfl rfl (q_f F27_2 rfl) ?_
                    refine o_q rfl rfl (q_ldb Y25 rfl (fun w h => h.zae (i := 0) rfl) rfl) ?_
                    refine o_q rfl rfl (za2 rfl) ?_
                    refine za7 h (fun b118 hx117 h => ?_) rfl
                    refine o_e rfl (za9 0 Z Try.func16 N16 rfl rfl rfl (fun w P1 hF hB hS hT => laws_rHas.calls A63 c64 l59.length l59 y91 hB hF (hT 2 _ rfl).row (hT 2 _ rfl).cap _ hx117)) (fun _ => ?_)
                    refine o_q rfl rfl (q_not rfl) ?_
                    refine o_end ?_
                    refine za1 ?_
                    refine zat _ rfl (fun hb119 => ?_) (fun hb119 => ?_)
                    · replace hb119 := nt_t hb119
                      replace h := bb_f hb119 h
                      refine c_seq ?_
                      refine za0 ?_
                      refine o_q rfl rfl (q_asg rfl) ?_
                      refine o_end ?_
                      refine za1 ?_
                      refine c_ret ?_
                      refine zar ?_
                      refine zaa ?_
                      refine zaa ?_
                      have e_ := Option.some.inj h; replace h := hR96; rw [← e_] at h; clear e_
                      refine zar ?_
                      refine zaa ?_
                      refine zaa ?_
                      have e0_ := Option.some.inj h; clear h
                      subst e0_
                      exact x_r1 () Try.results3 (zaj rfl) rfl (fun w h => za6 [] (by decide) rfl w h)
                    · replace hb119 := nt_f hb119
                      replace h := bb_t hb119 h
                      refine zan ?_
                      refine zal ?_
                      refine za1 ?_
                      refine za0 ?_
                      refine o_q rfl rfl (q_up rfl rfl (hr94.up hm95)) ?_
                      refine o_q rfl rfl (za2 rfl) ?_
                      refine o_end ?_
                      refine zai ys92.length (ys92, i90 + 1) (by rw [← hk100]; exact Nat.lt_succ_self _) ⟨hr94.step, rfl, h⟩ ⟨rfl, trivial⟩ (fun w h => za6 [0, 1, 2, 3, 4, 5, 6, 7] (by decide) rfl w h) ?_
                      repeat (first | exact zab _ _ | refine zaf rfl ?_ | refine zac rfl ?_ | refine zah rfl ?_)
                · skip
                  replace h := bb_f hb89 h
                  refine zan ?_
                  refine za1 ?_
                  refine c_seq ?_
                  refine za0 ?_
                  refine o_q rfl rfl (q_asg rfl) ?_
                  refine o_end ?_
                  refine za1 ?_
                  refine c_ret ?_
                  have e0_ := Option.some.inj h; clear h
                  subst e0_
                  exact x_r1 () Try.results3 (zaj rfl) rfl (fun w h => za6 [] (by decide) rfl w h)

/-- THE ONE PURE STATEMENT of laws_FnOrdersWithin. -/
def laws_FnOrdersWithin.Pure : Prop := ∀ (l0 : List Int) (l1 : List Int), l0.length ≤ maxLen → (∀ y ∈ l0, (Lit.int .u8 y).wf = true) → l1.length ≤ maxLen → (∀ y ∈ l1, (Lit.int .u8 y).wf = true) → ∃ k, laws_FnOrdersWithin.f k l0 l1 = some true
theorem laws_FnOrdersWithin.walk (P : laws_FnOrdersWithin.Pure) (A0 : Option Addr) (c0 : Nat) (l0 : List Int) (A1 : Option Addr) (c1 : Nat) (l1 : List Int) (w : World) (hr0 : Kd.C (Kd.int .u8) w A0 l0.length l0) (hc0 : l0.length ≤ c0) (hr1 : Kd.C (Kd.int .u8) w A1 l1.length l1) (hc1 : l1.length ≤ c1) (q0 : l0.length ≤ maxLen) (q1 : (∀ y ∈ l0, (Lit.int .u8 y).wf = true)) (q2 : l1.length ≤ maxLen) (q3 : (∀ y ∈ l1, (Lit.int .u8 y).wf = true)) :
    Calls Try.prog 3 #[.slice A0 l0.length c0, .slice A1 l1.length c1] w fun e w' => e = .returned (.bool true) ∧ Below w.heap.size w w' := by
  obtain ⟨k, h⟩ := P l0 l1 q0 q1 q2 q3
  refine (laws_FnOrdersWithin.calls k A0 c0 l0.length l0 A1 c1 l1.length l1 (Below.refl _ _) (Fr.start w) (fun W hW => Kd.C_below hr0 hW.below) hc0 (fun W hW => Kd.C_below hr1 hW.below) hc1 true h).mono ?_
  rintro e w' ⟨s, rfl, hF⟩
  exact ⟨rfl, hF.bel⟩
end Go.Proofs.Ytdicngjloiphkaa.L1
