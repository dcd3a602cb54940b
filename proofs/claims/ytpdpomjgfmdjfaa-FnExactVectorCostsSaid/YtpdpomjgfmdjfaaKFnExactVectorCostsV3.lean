import Derived.Test.YtpdpomjgfmdjfaaKFnExactVectorCostsV3p3
namespace Go.Proofs.Ytpdpomjgfmdjfaa.V3
open Go.RowKit Go.Proofs.Ytpdpomjgfmdjfaa.Frame Go.Proofs.YtpdpomjgfmdjfaaW.PrintLast Go.Proofs.Ytpdpomjgfmdjfaa.Hand
open Go.Proofs.YtpdpomjgfmdjfaaW.PrintWords hiding mn mx
set_option linter.unusedVariables false
/-! ### loop.example/g01098/impl.told: function 92 -/
def impl_told_2.f (k : Nat) (a0_0 : Int) (l0_1 : List SStep) (l0_2 : List Int) (k0_2 : Nat) : Option (Int × (List SStep) × (List Int) × Nat × Bool) := (impl_IsPlan.f k a0_0 l0_1 (l0_2.take k0_2)).bind fun b6 => if b6 = true then (some (a0_0, l0_1, l0_2, k0_2, true)) else (some (0, ([] : List SStep), ([] : List Int), 0, false))
set_option maxHeartbeats 600000 in
set_option maxRecDepth 100000 in
theorem impl_told_2.calls (k : Nat) {w0 ws : World} {P0 : Nat → Prop} (a0_0 : Int) (A0_1 : Option Addr) (c0_1 : Nat) (n0_1 : Nat) (l0_1 : List SStep) (A0_2 : Option Addr) (c0_2 : Nat) (n0_2 : Nat) (l0_2 : List Int) (k0_2 : Nat) (Z : Below w0.heap.size w0 ws) (hF : Fr w0 ws P0 [row kStep 117 (.slice A0_1 n0_1 c0_1) l0_1, row (Kd.int .i64) 3 (.slice A0_2 n0_2 c0_2) l0_2] ws)  (r_1 : Int) (r_2 : List SStep) (r_5 : List Int) (q_8 : Nat) (r_9 : Bool) (h : impl_told_2.f k a0_0 l0_1 l0_2 k0_2 = some (r_1, r_2, r_5, q_8, r_9)) :
    Calls Try.prog 92 #[.agg #[.int .i64 a0_0, .slice A0_1 n0_1 c0_1, .slice A0_2 (tl k0_2 n0_2) (tl k0_2 n0_2)]] ws (Post1 w0 ws P0 (fun ((q_3, q_4, q_6, q_7) : (Option Addr) × Nat × (Option Addr) × Nat) => .tuple #[.agg #[.int .i64 r_1, .slice q_3 r_2.length q_4, .slice q_6 (tl q_8 r_5.length) (tl q_8 r_5.length)], .bool r_9]) (fun ((q_3, q_4, q_6, q_7) : (Option Addr) × Nat × (Option Addr) × Nat) => [row kStep 117 (.slice q_3 r_2.length q_4) r_2, row (Kd.int .i64) 3 (.slice q_6 r_5.length q_7) r_5])) := by
  unfold impl_told_2.f at h
  obtain rfl := (hF.row_C (i := 0) rfl).2.1
  obtain rfl := (hF.row_C (i := 1) rfl).2.1
  refine enter Try.func92 rfl Try.ntmps92 rfl hF ?_
  refine c_seq ?_
  refine za0 ?_
  refine o_e rfl (e_box rfl) (fun g1 => ?_)
  refine o_e rfl (zau V36 rfl) (fun g3 => ?_)
  refine o_q rfl rfl (q_asg rfl) ?_
  refine o_end ?_
  refine za1 ?_
  refine c_seq ?_
  refine c_seq ?_
  refine za0 ?_
  refine o_q rfl rfl (q_ldB G36 Z36 rfl (fun w h => h.zae (i := 1) rfl) rfl) ?_
  refine za5 h (fun b6 hx5 h => ?_) rfl
  refine o_e rfl (za9 0 Z Try.func75 N75 rfl rfl rfl (fun w P1 hF hB hS hT => impl_IsPlan.calls k a0_0 A0_1 c0_1 l0_1.length l0_1 A0_2 (tl k0_2 l0_2.length) (tl k0_2 l0_2.length) (l0_2.take k0_2) hB hF (hT 2 _ rfl).row (hT 2 _ rfl).cap (stab_tk k0_2 (hT 3 _ rfl).row) (Nat.le_refl _) _ hx5)) (fun _ => ?_)
  refine o_q rfl rfl (q_not rfl) ?_
  refine o_end ?_
  refine za1 ?_
  refine zar _ rfl (fun hb7 => ?_) (fun hb7 => ?_)
  · replace hb7 := nt_t hb7
    replace h := bb_f hb7 h
    refine c_seq ?_
    refine za0 ?_
    refine o_q rfl rfl (q_build (vs := []) (cs := [.int .i64 0, .slice none 0 0, .slice none 0 0]) rfl rfl) ?_
    refine o_e rfl (zaj (i := 0) rfl rfl rfl Z36 rfl rfl) (fun _ => ?_)
    refine o_q rfl rfl (q_asg rfl) ?_
    refine o_end ?_
    refine za1 ?_
    refine c_ret ?_
    refine za8 ?_
    refine x_nil kStep 117 ?_
    refine x_nil (Kd.int .i64) 3 ?_
    have e0_ := Option.some.inj h; clear h
    have d0_ := (Prod.mk.inj e0_).1; have e1_ := (Prod.mk.inj e0_).2; clear e0_; subst d0_
    have d1_ := (Prod.mk.inj e1_).1; have e2_ := (Prod.mk.inj e1_).2; clear e1_; subst d1_
    have d2_ := (Prod.mk.inj e2_).1; have e3_ := (Prod.mk.inj e2_).2; clear e2_; subst d2_
    have d3_ := (Prod.mk.inj e3_).1; have e4_ := (Prod.mk.inj e3_).2; clear e3_; subst d3_
    subst e4_
    exact x_r2 (none, 0, none, 0) Try.results92 (rv_cell rfl G36 Z36 (fun w h => h.zae (i := 2) rfl) rfl) (zah rfl) rfl (fun w h => za7 [1, 0] (by decide) rfl w h)
  · replace hb7 := nt_f hb7
    replace h := bb_t hb7 h
    refine zal ?_
    refine za1 ?_
    refine c_seq ?_
    refine za0 ?_
    refine o_q rfl rfl (q_ldB G36 Z36 rfl (fun w h => h.zae (i := 1) rfl) rfl) ?_
    refine o_e rfl (zaj (i := 0) rfl rfl rfl Z36 rfl rfl) (fun _ => ?_)
    refine o_q rfl rfl (q_asg rfl) ?_
    refine o_end ?_
    refine za1 ?_
    refine c_ret ?_
    have e0_ := Option.some.inj h; clear h
    have d0_ := (Prod.mk.inj e0_).1; have e1_ := (Prod.mk.inj e0_).2; clear e0_; subst d0_
    have d1_ := (Prod.mk.inj e1_).1; have e2_ := (Prod.mk.inj e1_).2; clear e1_; subst d1_
    have d2_ := (Prod.mk.inj e2_).1; have e3_ := (Prod.mk.inj e2_).2; clear e2_; subst d2_
    have d3_ := (Prod.mk.inj e3_).1; have e4_ := (Prod.mk.inj e3_).2; clear e3_; subst d3_
    subst e4_
    exact x_r2 (A0_1, c0_1, A0_2, c0_2) Try.results92 (rv_cell rfl G36 Z36 (fun w h => h.zae (i := 0) rfl) rfl) (zah rfl) rfl (fun w h => za7 [2, 3] (by decide) rfl w h)

/-! ### loop.example/g01098/impl.TurnPlan: function 40 -/
def impl_TurnPlan.f (k : Nat) (a0_0 : Int) (l0_1 : List SStep) (l0_2 : List Int) : Option (Int × (List SStep) × (List Int) × Nat × Bool) := ((impl_IsPlan.f k a0_0 l0_1 l0_2).bind fun b17 => if b17 = true then ((impl_Plan_canTurn.f a0_0 l0_1 l0_2).bind fun b20 => some (!b20)) else (some true)).bind fun b10 => if b10 = true then (some (0, ([] : List SStep), ([] : List Int), 0, false)) else ((impl_Plan_turned.f k a0_0 l0_1 l0_2).bind fun (l23, l24) => (impl_told_2.f k (l0_2.length : Int) l23 l24 ((a0_0 : Int).toNat)).bind fun (i30, l31, l32, z33, b34) => some (i30, l31, l32, z33, b34))
set_option maxHeartbeats 600000 in
set_option maxRecDepth 100000 in
theorem impl_TurnPlan.calls (k : Nat) {w0 ws : World} {P0 : Nat → Prop} (a0_0 : Int) (A0_1 : Option Addr) (c0_1 : Nat) (n0_1 : Nat) (l0_1 : List SStep) (A0_2 : Option Addr) (c0_2 : Nat) (n0_2 : Nat) (l0_2 : List Int) (Z : Below w0.heap.size w0 ws) (hF : Fr w0 ws P0 [] ws) (R0_1 : Stable ws P0 (fun w => Kd.C kStep w A0_1 n0_1 l0_1)) (hc0_1 : n0_1 ≤ c0_1) (R0_2 : Stable ws P0 (fun w => Kd.C (Kd.int .i64) w A0_2 n0_2 l0_2)) (hc0_2 : n0_2 ≤ c0_2) (r_1 : Int) (r_2 : List SStep) (r_5 : List Int) (q_8 : Nat) (r_9 : Bool) (h : impl_TurnPlan.f k a0_0 l0_1 l0_2 = some (r_1, r_2, r_5, q_8, r_9)) :
    Calls Try.prog 40 #[.agg #[.int .i64 a0_0, .slice A0_1 n0_1 c0_1, .slice A0_2 n0_2 c0_2]] ws (Post1 w0 ws P0 (fun ((q_3, q_4, q_6, q_7) : (Option Addr) × Nat × (Option Addr) × Nat) => .tuple #[.agg #[.int .i64 r_1, .slice q_3 r_2.length q_4, .slice q_6 (tl q_8 r_5.length) (tl q_8 r_5.length)], .bool r_9]) (fun ((q_3, q_4, q_6, q_7) : (Option Addr) × Nat × (Option Addr) × Nat) => [row kStep 117 (.slice q_3 r_2.length q_4) r_2, row (Kd.int .i64) 3 (.slice q_6 r_5.length q_7) r_5])) := by
  unfold impl_TurnPlan.f at h
  obtain rfl := (R0_1 ws (KeptB.refl _ _)).1
  obtain rfl := (R0_2 ws (KeptB.refl _ _)).1
  refine enter Try.func40 rfl Try.ntmps40 rfl hF ?_
  refine c_seq ?_
  refine za0 ?_
  refine o_e rfl (e_box rfl) (fun g1 => ?_)
  refine o_e rfl (zau V36 rfl) (fun g3 => ?_)
  refine o_q rfl rfl (q_asg rfl) ?_
  refine o_end ?_
  refine za1 ?_
  refine c_seq ?_
  refine za5 h (fun o11 hl12 hR13 => ?_) rfl
  clear h
  refine c_cutJ (σ := Bool) (fun b10 => some b10 = some o11) [4, 5, 6, 7, 8, 9, 10] (fun b10 => [(10, .bool b10)]) (fun b10 => [box g1 36 #[.int .i64 a0_0, .slice A0_1 l0_1.length c0_1, .slice A0_2 l0_2.length c0_2], box g3 36 #[.int .i64 0, .slice none 0 0, .slice none 0 0]]) ?_ ?_
  · skip
    have h := hl12; clear hl12
    clear hR13
    refine za0 ?_
    refine o_q rfl rfl (q_ldB G36 Z36 rfl (fun w h => h.zae (i := 1) rfl) rfl) ?_
    refine za5 h (fun b17 hx16 h => ?_) rfl
    refine o_e rfl (za9 0 Z Try.func75 N75 rfl rfl rfl (fun w P1 hF hB hS hT => impl_IsPlan.calls k a0_0 A0_1 c0_1 l0_1.length l0_1 A0_2 c0_2 l0_2.length l0_2 hB hF (hS _ R0_1) hc0_1 (hS _ R0_2) hc0_2 _ hx16)) (fun _ => ?_)
    refine o_q rfl rfl (q_not rfl) ?_
    refine o_q rfl rfl (za2 rfl) ?_
    refine byB b17 (fun hb18 => ?_) (fun hb18 => ?_)
    · replace h := bb_t hb18 h
      refine za5 h (fun b20 hx19 h => ?_) rfl
      refine o_ew (za6 rfl rfl rfl (congrArg (fun b => Value.bool (!(b))) hb18)) (za9 0 Z Try.func96 N96 rfl rfl rfl (fun w P1 hF hB hS hT => impl_Plan_canTurn.calls g1 a0_0 A0_1 c0_1 l0_1.length l0_1 A0_2 c0_2 l0_2.length l0_2 hB hF (hS _ R0_1) hc0_1 (hS _ R0_2) hc0_2 (hT 1 _ rfl).box _ hx19)) (fun _ => ?_)
      refine o_w (za6 rfl rfl rfl (congrArg (fun b => Value.bool (!(b))) hb18)) rfl (q_not rfl) ?_
      refine o_q rfl rfl (zav false (congrArg (fun b => Value.bool (!(b))) hb18) rfl) ?_
      refine o_end ?_
      refine x_meetJ (!b20) h ⟨rfl, trivial⟩ (fun w h => za7 [1, 0] (by decide) rfl w h) ?_
      repeat (first | exact zaa _ _ | refine zac rfl ?_ | refine zab rfl ?_ | refine zad rfl ?_)
    · replace h := bb_f hb18 h
      refine @o_n _ _ _ _ _ _ _ _ _ _ _ 8 (za3 rfl rfl rfl (congrArg (fun b => Value.bool (!(b))) hb18) rfl) (Eq.refl (some 8)) ?_
      refine @o_n _ _ _ _ _ _ _ _ _ _ _ 9 (za3 rfl rfl rfl (congrArg (fun b => Value.bool (!(b))) hb18) rfl) (Eq.refl (some 9)) ?_
      refine o_q rfl rfl (zav true (congrArg (fun b => Value.bool (!(b))) hb18) rfl) ?_
      refine o_end ?_
      refine x_meetJ true h ⟨rfl, trivial⟩ (fun w h => za7 [1, 0] (by decide) rfl w h) ?_
      repeat (first | exact zaa _ _ | refine zac rfl ?_ | refine zab rfl ?_ | refine zad rfl ?_)
  · skip
    refine (fun b10 => fun U14 hJ15 => ?_)
    have e_ := Option.some.inj hJ15; have h := hR13; rw [← e_] at h; clear e_ hJ15 hR13 hl12
    refine zar _ rfl (fun hb21 => ?_) (fun hb21 => ?_)
    · skip
      replace h := bb_t hb21 h
      refine c_seq ?_
      refine za0 ?_
      refine o_q rfl rfl (q_build (vs := []) (cs := [.int .i64 0, .slice none 0 0, .slice none 0 0]) rfl rfl) ?_
      refine o_e rfl (zaj (i := 1) rfl rfl rfl Z36 rfl rfl) (fun _ => ?_)
      refine o_q rfl rfl (q_asg rfl) ?_
      refine o_end ?_
      refine za1 ?_
      refine c_ret ?_
      refine za8 ?_
      refine x_nil kStep 117 ?_
      refine x_nil (Kd.int .i64) 3 ?_
      have e0_ := Option.some.inj h; clear h
      have d0_ := (Prod.mk.inj e0_).1; have e1_ := (Prod.mk.inj e0_).2; clear e0_; subst d0_
      have d1_ := (Prod.mk.inj e1_).1; have e2_ := (Prod.mk.inj e1_).2; clear e1_; subst d1_
      have d2_ := (Prod.mk.inj e2_).1; have e3_ := (Prod.mk.inj e2_).2; clear e2_; subst d2_
      have d3_ := (Prod.mk.inj e3_).1; have e4_ := (Prod.mk.inj e3_).2; clear e3_; subst d3_
      subst e4_
      exact x_r2 (none, 0, none, 0) Try.results40 (rv_cell rfl G36 Z36 (fun w h => h.zae (i := 3) rfl) rfl) (zah rfl) rfl (fun w h => za7 [1, 0] (by decide) rfl w h)
    · skip
      replace h := bb_f hb21 h
      refine zal ?_
      refine za1 ?_
      refine c_seq ?_
      refine za0 ?_
      refine bindE2 h (fun l23 l24 hx22 h => ?_) rfl
      refine o_e rfl (za9 0 Z Try.func97 N97 rfl rfl rfl (fun w P1 hF hB hS hT => impl_Plan_turned.calls k g1 a0_0 A0_1 c0_1 l0_1.length l0_1 A0_2 c0_2 l0_2.length l0_2 hB hF (hS _ R0_1) hc0_1 (hS _ R0_2) hc0_2 (hT 0 _ rfl).box _ _ hx22)) (cur4 (fun A25 c26 A27 c28 => ?_))
      refine bindE5 h (fun i30 l31 l32 z33 b34 hx29 h => ?_) rfl
      refine o_e rfl (za9 2 Z Try.func92 N92 rfl rfl rfl (fun w P1 hF hB hS hT => impl_told_2.calls k (l0_2.length : Int) A25 c26 l23.length l23 A27 c28 l24.length l24 ((a0_0 : Int).toNat) hB hF _ _ _ _ _ hx29)) (cur4 (fun A35 c36 A37 c38 => ?_))
      refine o_q rfl rfl (q_ext rfl rfl) ?_
      refine o_q rfl rfl (q_ext rfl rfl) ?_
      refine o_e rfl (zaj (i := 3) rfl rfl rfl Z36 rfl rfl) (fun _ => ?_)
      refine o_q rfl rfl (q_asg rfl) ?_
      refine o_end ?_
      refine za1 ?_
      refine c_ret ?_
      have e0_ := Option.some.inj h; clear h
      have d0_ := (Prod.mk.inj e0_).1; have e1_ := (Prod.mk.inj e0_).2; clear e0_; subst d0_
      have d1_ := (Prod.mk.inj e1_).1; have e2_ := (Prod.mk.inj e1_).2; clear e1_; subst d1_
      have d2_ := (Prod.mk.inj e2_).1; have e3_ := (Prod.mk.inj e2_).2; clear e2_; subst d2_
      have d3_ := (Prod.mk.inj e3_).1; have e4_ := (Prod.mk.inj e3_).2; clear e3_; subst d3_
      subst e4_
      exact x_r2 (A35, c36, A37, c38) Try.results40 (rv_cell rfl G36 Z36 (fun w h => h.zae (i := 3) rfl) rfl) (zah rfl) rfl (fun w h => za7 [0, 1] (by decide) rfl w h)

/-! ### loop.example/g01098/impl.VectorPlan: function 42 -/
def impl_VectorPlan.f (k : Nat) (l0 : List Int) : Option (Int × (List SStep) × (List Int) × Nat × Bool) := (impl_SquaresPlan.f k l0).bind fun (i4, l5, l6, b7) => if b7 = true then ((impl_TurnPlan.f k i4 l5 l6).bind fun (i16, l17, l18, z19, b20) => some (i16, l17, l18, z19, b20)) else (some (0, ([] : List SStep), ([] : List Int), 0, false))
set_option maxHeartbeats 600000 in
set_option maxRecDepth 100000 in
theorem impl_VectorPlan.calls (k : Nat) {w0 ws : World} {P0 : Nat → Prop} (A0 : Option Addr) (c0 : Nat) (n0 : Nat) (l0 : List Int) (Z : Below w0.heap.size w0 ws) (hF : Fr w0 ws P0 [] ws) (R0 : Stable ws P0 (fun w => Kd.C (Kd.int .i64) w A0 n0 l0)) (hc0 : n0 ≤ c0) (r_1 : Int) (r_2 : List SStep) (r_5 : List Int) (q_8 : Nat) (r_9 : Bool) (h : impl_VectorPlan.f k l0 = some (r_1, r_2, r_5, q_8, r_9)) :
    Calls Try.prog 42 #[.slice A0 n0 c0] ws (Post1 w0 ws P0 (fun ((q_3, q_4, q_6, q_7) : (Option Addr) × Nat × (Option Addr) × Nat) => .tuple #[.agg #[.int .i64 r_1, .slice q_3 r_2.length q_4, .slice q_6 (tl q_8 r_5.length) (tl q_8 r_5.length)], .bool r_9]) (fun ((q_3, q_4, q_6, q_7) : (Option Addr) × Nat × (Option Addr) × Nat) => [row kStep 117 (.slice q_3 r_2.length q_4) r_2, row (Kd.int .i64) 3 (.slice q_6 r_5.length q_7) r_5])) := by
  unfold impl_VectorPlan.f at h
  obtain rfl := (R0 ws (KeptB.refl _ _)).1
  refine enter Try.func42 rfl Try.ntmps42 rfl hF ?_
  refine c_seq ?_
  refine za0 ?_
  refine o_e rfl (zau V36 rfl) (fun g1 => ?_)
  refine o_q rfl rfl (q_asg rfl) ?_
  refine o_end ?_
  refine za1 ?_
  refine c_seq ?_
  refine za0 ?_
  refine o_q rfl rfl (za2 rfl) ?_
  refine bindE4 h (fun i4 l5 l6 b7 hx3 h => ?_) rfl
  refine o_e rfl (za9 0 Z Try.func38 N38 rfl rfl rfl (fun w P1 hF hB hS hT => impl_SquaresPlan.calls k A0 c0 l0.length l0 hB hF (hS _ R0) hc0 _ _ _ _ hx3)) (cur4 (fun A8 c9 A10 c11 => ?_))
  refine o_q rfl rfl (za2 rfl) ?_
  refine o_q rfl rfl (q_ext rfl rfl) ?_
  refine o_q rfl rfl (q_ext rfl rfl) ?_
  refine o_e rfl (zau V36 rfl) (fun g12 => ?_)
  refine o_e rfl (zaj (i := 0) rfl rfl rfl Z36 rfl rfl) (fun _ => ?_)
  refine o_q rfl rfl (q_asg rfl) ?_
  refine o_end ?_
  refine za1 ?_
  refine c_seq ?_
  refine c_seq ?_
  refine za0 ?_
  refine o_q rfl rfl (za2 rfl) ?_
  refine o_q rfl rfl (q_not rfl) ?_
  refine o_end ?_
  refine za1 ?_
  refine zar _ rfl (fun hb14 => ?_) (fun hb14 => ?_)
  · replace hb14 := nt_t hb14
    replace h := bb_f hb14 h
    refine c_seq ?_
    refine za0 ?_
    refine o_q rfl rfl (q_build (vs := []) (cs := [.int .i64 0, .slice none 0 0, .slice none 0 0]) rfl rfl) ?_
    refine o_e rfl (zaj (i := 3) rfl rfl rfl Z36 rfl rfl) (fun _ => ?_)
    refine o_q rfl rfl (q_asg rfl) ?_
    refine o_end ?_
    refine za1 ?_
    refine c_ret ?_
    refine za8 ?_
    refine x_nil kStep 117 ?_
    refine x_nil (Kd.int .i64) 3 ?_
    have e0_ := Option.some.inj h; clear h
    have d0_ := (Prod.mk.inj e0_).1; have e1_ := (Prod.mk.inj e0_).2; clear e0_; subst d0_
    have d1_ := (Prod.mk.inj e1_).1; have e2_ := (Prod.mk.inj e1_).2; clear e1_; subst d1_
    have d2_ := (Prod.mk.inj e2_).1; have e3_ := (Prod.mk.inj e2_).2; clear e2_; subst d2_
    have d3_ := (Prod.mk.inj e3_).1; have e4_ := (Prod.mk.inj e3_).2; clear e3_; subst d3_
    subst e4_
    exact x_r2 (none, 0, none, 0) Try.results42 (rv_cell rfl G36 Z36 (fun w h => h.zae (i := 5) rfl) rfl) (zah rfl) rfl (fun w h => za7 [1, 0] (by decide) rfl w h)
  · replace hb14 := nt_f hb14
    replace h := bb_t hb14 h
    refine zal ?_
    refine za1 ?_
    refine c_seq ?_
    refine za0 ?_
    refine o_q rfl rfl (q_ldB G36 Z36 rfl (fun w h => h.zae (i := 0) rfl) rfl) ?_
    refine bindE5 h (fun i16 l17 l18 z19 b20 hx15 h => ?_) rfl
    refine o_e rfl (za9 0 Z Try.func40 N40 rfl rfl rfl (fun w P1 hF hB hS hT => impl_TurnPlan.calls k i4 A8 c9 l5.length l5 A10 c11 l6.length l6 hB hF (hT 1 _ rfl).row (hT 1 _ rfl).cap (hT 2 _ rfl).row (hT 2 _ rfl).cap _ _ _ _ _ hx15)) (cur4 (fun A21 c22 A23 c24 => ?_))
    refine o_q rfl rfl (q_ext rfl rfl) ?_
    refine o_q rfl rfl (q_ext rfl rfl) ?_
    refine o_e rfl (zaj (i := 5) rfl rfl rfl Z36 rfl rfl) (fun _ => ?_)
    refine o_q rfl rfl (q_asg rfl) ?_
    refine o_end ?_
    refine za1 ?_
    refine c_ret ?_
    have e0_ := Option.some.inj h; clear h
    have d0_ := (Prod.mk.inj e0_).1; have e1_ := (Prod.mk.inj e0_).2; clear e0_; subst d0_
    have d1_ := (Prod.mk.inj e1_).1; have e2_ := (Prod.mk.inj e1_).2; clear e1_; subst d1_
    have d2_ := (Prod.mk.inj e2_).1; have e3_ := (Prod.mk.inj e2_).2; clear e2_; subst d2_
    have d3_ := (Prod.mk.inj e3_).1; have e4_ := (Prod.mk.inj e3_).2; clear e3_; subst d3_
    subst e4_
    exact x_r2 (A21, c22, A23, c24) Try.results42 (rv_cell rfl G36 Z36 (fun w h => h.zae (i := 5) rfl) rfl) (zah rfl) rfl (fun w h => za7 [0, 1] (by decide) rfl w h)

/-! ### loop.example/g01098/impl.VectorCosts: function 44 -/
def impl_VectorCosts.f (k : Nat) (l0 : List Int) : Option (Int × Int × Bool) := (impl_TogetherPlan.f k l0).bind fun (i2, l3, l4, b5) => (impl_VectorPlan.f k l0).bind fun (i13, l14, l15, z16, b17) => (if b5 = true then (some (!b17)) else (some true)).bind fun b25 => if b25 = true then (some (0, 0, false)) else (some ((l3.length : Int), (l14.length : Int), true))
set_option maxHeartbeats 600000 in
set_option maxRecDepth 100000 in
theorem impl_VectorCosts.calls (k : Nat) {w0 ws : World} {P0 : Nat → Prop} (A0 : Option Addr) (c0 : Nat) (n0 : Nat) (l0 : List Int) (Z : Below w0.heap.size w0 ws) (hF : Fr w0 ws P0 [] ws) (R0 : Stable ws P0 (fun w => Kd.C (Kd.int .i64) w A0 n0 l0)) (hc0 : n0 ≤ c0) (r_1 : Int) (r_2 : Int) (r_3 : Bool) (h : impl_VectorCosts.f k l0 = some (r_1, r_2, r_3)) :
    Calls Try.prog 44 #[.slice A0 n0 c0] ws (Post1 w0 ws P0 (fun (_ : Unit) => .tuple #[.int .i64 r_1, .int .i64 r_2, .bool r_3]) (fun (_ : Unit) => [])) := by
  unfold impl_VectorCosts.f at h
  obtain rfl := (R0 ws (KeptB.refl _ _)).1
  refine enter Try.func44 rfl Try.ntmps44 rfl hF ?_
  refine c_seq ?_
  refine za0 ?_
  refine o_q rfl rfl (q_asg rfl) ?_
  refine o_q rfl rfl (q_asg rfl) ?_
  refine o_q rfl rfl (q_asg rfl) ?_
  refine o_end ?_
  refine za1 ?_
  refine c_seq ?_
  refine za0 ?_
  refine o_q rfl rfl (za2 rfl) ?_
  refine bindE4 h (fun i2 l3 l4 b5 hx1 h => ?_) rfl
  refine o_e rfl (za9 0 Z Try.func99 N99 rfl rfl rfl (fun w P1 hF hB hS hT => impl_TogetherPlan.calls k A0 c0 l0.length l0 hB hF (hS _ R0) hc0 _ _ _ _ hx1)) (cur4 (fun A6 c7 A8 c9 => ?_))
  refine o_q rfl rfl (za2 rfl) ?_
  refine o_q rfl rfl (q_ext rfl rfl) ?_
  refine o_q rfl rfl (q_ext rfl rfl) ?_
  refine o_e rfl (zau V36 rfl) (fun g10 => ?_)
  refine o_e rfl (zaj (i := 0) rfl rfl rfl Z36 rfl rfl) (fun _ => ?_)
  refine o_q rfl rfl (q_asg rfl) ?_
  refine o_end ?_
  refine za1 ?_
  refine c_seq ?_
  refine za0 ?_
  refine o_q rfl rfl (za2 rfl) ?_
  refine bindE5 h (fun i13 l14 l15 z16 b17 hx12 h => ?_) rfl
  refine o_e rfl (za9 0 Z Try.func42 N42 rfl rfl rfl (fun w P1 hF hB hS hT => impl_VectorPlan.calls k A0 c0 l0.length l0 hB hF (hS _ R0) hc0 _ _ _ _ _ hx12)) (cur4 (fun A18 c19 A20 c21 => ?_))
  refine o_q rfl rfl (za2 rfl) ?_
  refine o_q rfl rfl (q_ext rfl rfl) ?_
  refine o_q rfl rfl (q_ext rfl rfl) ?_
  refine o_e rfl (zau V36 rfl) (fun g22 => ?_)
  refine o_e rfl (zaj (i := 0) rfl rfl rfl Z36 rfl rfl) (fun _ => ?_)
  refine o_q rfl rfl (q_asg rfl) ?_
  refine o_end ?_
  refine za1 ?_
  refine c_seq ?_
  refine za5 h (fun o26 hl27 hR28 => ?_) rfl
  clear h
  refine c_cutJ (σ := Bool) (fun b25 => some b25 = some o26) [19, 20, 21, 22, 23, 24] (fun b25 => [(24, .bool b25)]) (fun b25 => [box g10 36 #[.int .i64 i2, .slice A6 l3.length c7, .slice A8 l4.length c9], row kStep 117 (.slice A6 l3.length c7) l3, row (Kd.int .i64) 3 (.slice A8 l4.length c9) l4, box g22 36 #[.int .i64 i13, .slice A18 l14.length c19, .slice A20 (tl z16 l15.length) (tl z16 l15.length)], row kStep 117 (.slice A18 l14.length c19) l14, row (Kd.int .i64) 3 (.slice A20 l15.length c21) l15]) ?_ ?_
  · skip
    have h := hl27; clear hl27
    clear hR28
    refine za0 ?_
    refine o_q rfl rfl (za2 rfl) ?_
    refine o_q rfl rfl (q_not rfl) ?_
    refine o_q rfl rfl (za2 rfl) ?_
    refine byB b5 (fun hb31 => ?_) (fun hb31 => ?_)
    · replace h := bb_t hb31 h
      refine o_w (za6 rfl rfl rfl (congrArg (fun b => Value.bool (!(b))) hb31)) rfl (za2 rfl) ?_
      refine o_w (za6 rfl rfl rfl (congrArg (fun b => Value.bool (!(b))) hb31)) rfl (q_not rfl) ?_
      refine o_q rfl rfl (zav false (congrArg (fun b => Value.bool (!(b))) hb31) rfl) ?_
      refine o_end ?_
      refine x_meetJ (!b17) h ⟨rfl, trivial⟩ (fun w h => za7 [3, 4, 5, 0, 1, 2] (by decide) rfl w h) ?_
      repeat (first | exact zaa _ _ | refine zac rfl ?_ | refine zab rfl ?_ | refine zad rfl ?_)
    · replace h := bb_f hb31 h
      refine @o_n _ _ _ _ _ _ _ _ _ _ _ 22 (za3 rfl rfl rfl (congrArg (fun b => Value.bool (!(b))) hb31) rfl) (Eq.refl (some 22)) ?_
      refine @o_n _ _ _ _ _ _ _ _ _ _ _ 23 (za3 rfl rfl rfl (congrArg (fun b => Value.bool (!(b))) hb31) rfl) (Eq.refl (some 23)) ?_
      refine o_q rfl rfl (zav true (congrArg (fun b => Value.bool (!(b))) hb31) rfl) ?_
      refine o_end ?_
      refine x_meetJ true h ⟨rfl, trivial⟩ (fun w h => za7 [3, 4, 5, 0, 1, 2] (by decide) rfl w h) ?_
      repeat (first | exact zaa _ _ | refine zac rfl ?_ | refine zab rfl ?_ | refine zad rfl ?_)
  · skip
    refine (fun b25 => fun U29 hJ30 => ?_)
    have e_ := Option.some.inj hJ30; have h := hR28; rw [← e_] at h; clear e_ hJ30 hR28 hl27
    refine zar _ rfl (fun hb32 => ?_) (fun hb32 => ?_)
    · skip
      replace h := bb_t hb32 h
      refine c_seq ?_
      refine za0 ?_
      refine o_q rfl rfl (q_asg rfl) ?_
      refine o_q rfl rfl (q_asg rfl) ?_
      refine o_q rfl rfl (q_asg rfl) ?_
      refine o_end ?_
      refine za1 ?_
      refine c_ret ?_
      refine za8 ?_
      have e0_ := Option.some.inj h; clear h
      have d0_ := (Prod.mk.inj e0_).1; have e1_ := (Prod.mk.inj e0_).2; clear e0_; subst d0_
      have d1_ := (Prod.mk.inj e1_).1; have e2_ := (Prod.mk.inj e1_).2; clear e1_; subst d1_
      subst e2_
      exact x_r3 () Try.results44 (zah rfl) (zah rfl) (zah rfl) rfl (fun w h => za7 [] (by decide) rfl w h)
    · skip
      replace h := bb_f hb32 h
      refine zal ?_
      refine za1 ?_
      refine c_seq ?_
      refine a_start (ds := []) MO rfl ?_
      refine zai 0 rfl rfl rfl (by kernel_rfl) (fun _ _ _ h => h) (q_f F36_1 rfl) ?_
      refine a_take 1 rfl rfl rfl (by kernel_rfl) (fun _ _ _ h => h) (fun w h => h) (q_ldb Y34 rfl (fun w h => h.zae (i := 0) rfl) rfl) ?_
      refine zai 2 rfl rfl rfl (by kernel_rfl) (fun _ _ _ h => h) (q_len Try.underlying34 rfl) ?_
      refine zai 3 rfl rfl rfl (by kernel_rfl) (fun _ _ _ h => h) (q_f F36_1 rfl) ?_
      refine a_take 4 rfl rfl rfl (by kernel_rfl) (fun _ _ _ h => h) (fun w h => h) (q_ldb Y34 rfl (fun w h => h.zae (i := 3) rfl) rfl) ?_
      refine zai 5 rfl rfl rfl (by kernel_rfl) (fun _ _ _ h => h) (q_len Try.underlying34 rfl) ?_
      refine zai 6 rfl rfl rfl (by kernel_rfl) (fun _ _ _ h => h) (q_asg rfl) ?_
      refine zai 7 rfl rfl rfl (by kernel_rfl) (fun _ _ _ h => h) (q_asg rfl) ?_
      refine zai 8 rfl rfl rfl (by kernel_rfl) (fun _ _ _ h => h) (q_asg rfl) ?_
      refine a_done (by kernel_rfl) ?_
      refine za1 ?_
      refine c_ret ?_
      have e0_ := Option.some.inj h; clear h
      have d0_ := (Prod.mk.inj e0_).1; have e1_ := (Prod.mk.inj e0_).2; clear e0_; subst d0_
      have d1_ := (Prod.mk.inj e1_).1; have e2_ := (Prod.mk.inj e1_).2; clear e1_; subst d1_
      subst e2_
      exact x_r3 () Try.results44 (zah rfl) (zah rfl) (zah rfl) rfl (fun w h => za7 [] (by decide) rfl w h)

/-! ### loop.example/g01098/laws.eqIntS: function 30 -/
def laws_eqIntS.l0 (l0 : List Int) (l1 : List Int) : Nat → Int → Option ((Bool) ⊕ (Unit))
  | 0, _ => none
  | k5 + 1, i2 => if i2 < (l0.length : Int) then ((gt l0 i2).bind fun y16 => (gt l1 i2).bind fun y19 => if y16 ≠ y19 then (some (.inl false)) else (laws_eqIntS.l0 l0 l1 k5 (w64 (i2 + 1)))) else (some (.inr ()))
def laws_eqIntS.f (k : Nat) (l0 : List Int) (l1 : List Int) : Option Bool := if (l0.length : Int) ≠ (l1.length : Int) then (some false) else ((laws_eqIntS.l0 l0 l1 k 0).bind fun o_ => match o_ with | .inl r_ => some r_ | .inr _ => some true)
set_option maxHeartbeats 600000 in
set_option maxRecDepth 100000 in
theorem laws_eqIntS.calls (k : Nat) {w0 ws : World} {P0 : Nat → Prop} (A0 : Option Addr) (c0 : Nat) (n0 : Nat) (l0 : List Int) (A1 : Option Addr) (c1 : Nat) (n1 : Nat) (l1 : List Int) (Z : Below w0.heap.size w0 ws) (hF : Fr w0 ws P0 [] ws) (R0 : Stable ws P0 (fun w => Kd.C (Kd.int .i64) w A0 n0 l0)) (hc0 : n0 ≤ c0) (R1 : Stable ws P0 (fun w => Kd.C (Kd.int .i64) w A1 n1 l1)) (hc1 : n1 ≤ c1) (r_1 : Bool) (h : laws_eqIntS.f k l0 l1 = some r_1) :
    Calls Try.prog 30 #[.slice A0 n0 c0, .slice A1 n1 c1] ws (Post1 w0 ws P0 (fun (_ : Unit) => .bool r_1) (fun (_ : Unit) => [])) := by
  unfold laws_eqIntS.f at h
  obtain rfl := (R0 ws (KeptB.refl _ _)).1
  obtain rfl := (R1 ws (KeptB.refl _ _)).1
  refine enter Try.func30 rfl Try.ntmps30 rfl hF ?_
  refine c_seq ?_
  refine za0 ?_
  refine o_q rfl rfl (q_asg rfl) ?_
  refine o_end ?_
  refine za1 ?_
  refine c_seq ?_
  refine c_seq ?_
  refine za0 ?_
  refine o_q rfl rfl (za2 rfl) ?_
  refine o_q rfl rfl (q_len Try.underlying22 rfl) ?_
  refine o_q rfl rfl (za2 rfl) ?_
  refine o_q rfl rfl (q_len Try.underlying22 rfl) ?_
  refine o_q rfl rfl (q_neq rfl rfl) ?_
  refine o_end ?_
  refine za1 ?_
  refine zar _ rfl (fun hb1 => ?_) (fun hb1 => ?_)
  · skip
    replace h := br_t hb1 h
    refine c_seq ?_
    refine za0 ?_
    refine o_q rfl rfl (q_asg rfl) ?_
    refine o_end ?_
    refine za1 ?_
    refine c_ret ?_
    refine za8 ?_
    have e0_ := Option.some.inj h; clear h
    subst e0_
    exact x_r1 () Try.results30 (zah rfl) rfl (fun w h => za7 [] (by decide) rfl w h)
  · skip
    replace h := br_f hb1 h
    refine zal ?_
    refine za1 ?_
    refine c_seq ?_
    refine c_seq ?_
    refine za0 ?_
    refine o_q rfl rfl (q_asg rfl) ?_
    refine o_end ?_
    refine za1 ?_
    refine zaf ?_
    refine za5 h (fun o10 hl9 hR8 => ?_) rfl
    clear h
    refine zas (σ := Int) (fun k5 (i2 : Int) => laws_eqIntS.l0 l0 l1 k5 i2 = some o10) [4, 5, 11, 12, 13, 14, 15, 16, 17, 18, 19, 20, 21, 22, 23, 24, 25] (fun (i2 : Int) => [(5, .int .i64 i2)]) (fun (i2 : Int) => []) k 0 hl9 ⟨rfl, trivial⟩ (fun w h => h) ?_
    refine natC (fun i2 => fun U11 hJ_ => ?_) (fun k5 => (fun i2 => fun U11 hJ_ => ?_))
    · skip
      replace hJ_ : laws_eqIntS.l0 l0 l1 0 i2 = some o10 := hJ_
      rw [laws_eqIntS.l0] at hJ_
      exact noneE hJ_
    · skip
      clear hl9
      have h := hJ_; clear hJ_
      replace h : laws_eqIntS.l0 l0 l1 (k5 + 1) i2 = some o10 := h
      rw [laws_eqIntS.l0] at h
      refine c_seq ?_
      refine c_seq ?_
      refine za0 ?_
      refine o_q rfl rfl (za2 rfl) ?_
      refine o_q rfl rfl (za2 rfl) ?_
      refine o_q rfl rfl (q_len Try.underlying22 rfl) ?_
      refine o_q rfl rfl (q_lss rfl rfl) ?_
      refine o_end ?_
      refine za1 ?_
      refine zar _ rfl (fun hb13 => ?_) (fun hb13 => ?_)
      · skip
        replace h := br_t hb13 h
        refine zal ?_
        refine za1 ?_
        refine c_seq ?_
        refine zaf ?_
        refine c_seq ?_
        refine a_start (ds := []) MO rfl ?_
        refine zai 0 rfl rfl rfl (by kernel_rfl) (fun _ _ _ h => h) (za2 rfl) ?_
        refine zai 1 rfl rfl rfl (by kernel_rfl) (fun _ _ _ h => h) (za2 rfl) ?_
        refine a_fact (p := Sh A0 l0.length l0.length) (fun w h => f_sh (dk := (Kd.int .i64)) h (fun w h => R0.now Z h)) (fun hq14 => ?_)
        refine za5 h (fun y16 hg15 h => ?_) rfl
        refine zai 2 rfl rfl rfl (by kernel_rfl) (fun _ _ _ h => h) (q_ix Try.underlying22 Z3 rfl rfl hq14 hg15) ?_
        refine a_take 3 rfl rfl rfl (by kernel_rfl) (fun _ _ _ h => h) (fun w h => h) (q_lde (off := 0) Y3 rfl rfl (fun w h => R0.now Z h) hg15 (fun _ _ h => h) rfl) ?_
        refine zai 4 rfl rfl rfl (by kernel_rfl) (fun _ _ _ h => h) (za2 rfl) ?_
        refine zai 5 rfl rfl rfl (by kernel_rfl) (fun _ _ _ h => h) (za2 rfl) ?_
        refine a_fact (p := Sh A1 l1.length l1.length) (fun w h => f_sh (dk := (Kd.int .i64)) h (fun w h => R1.now Z h)) (fun hq17 => ?_)
        refine za5 h (fun y19 hg18 h => ?_) rfl
        refine zai 6 rfl rfl rfl (by kernel_rfl) (fun _ _ _ h => h) (q_ix Try.underlying22 Z3 rfl rfl hq17 hg18) ?_
        refine a_take 7 rfl rfl rfl (by kernel_rfl) (fun _ _ _ h => h) (fun w h => h) (q_lde (off := 0) Y3 rfl rfl (fun w h => R1.now Z h) hg18 (fun _ _ h => h) rfl) ?_
        refine zai 8 rfl rfl rfl (by kernel_rfl) (fun _ _ _ h => h) (q_neq rfl rfl) ?_
        refine a_done (by kernel_rfl) ?_
        refine za1 ?_
        refine zar _ rfl (fun hb20 => ?_) (fun hb20 => ?_)
        · skip
          replace h := br_t hb20 h
          refine c_seq ?_
          refine za0 ?_
          refine o_q rfl rfl (q_asg rfl) ?_
          refine o_end ?_
          refine za1 ?_
          refine c_ret ?_
          refine zam ?_
          refine za8 ?_
          refine za8 ?_
          have e_ := Option.some.inj h; replace h := hR8; rw [← e_] at h; clear e_
          refine zam ?_
          refine za8 ?_
          have e0_ := Option.some.inj h; clear h
          subst e0_
          exact x_r1 () Try.results30 (zah rfl) rfl (fun w h => za7 [] (by decide) rfl w h)
        · skip
          replace h := br_f hb20 h
          refine zal ?_
          refine zaq ?_
          refine za1 ?_
          refine za0 ?_
          refine o_q rfl rfl (za2 rfl) ?_
          refine o_q rfl rfl (q_add64 rfl rfl) ?_
          refine o_q rfl rfl (q_asg rfl) ?_
          refine o_end ?_
          refine zak k5 (w64 (i2 + 1)) (Nat.lt_succ_self _) h ⟨rfl, trivial⟩ (fun w h => za7 [] (by decide) rfl w h) ?_
          repeat (first | exact zaa _ _ | refine zac rfl ?_ | refine zab rfl ?_ | refine zad rfl ?_)
      · skip
        replace h := br_f hb13 h
        refine c_exit ?_
        refine za4 ?_
        refine za4 ?_
        have e_ := Option.some.inj h; replace h := hR8; rw [← e_] at h; clear e_
        refine x_hit ?_
        refine za1 ?_
        refine c_seq ?_
        refine za0 ?_
        refine o_q rfl rfl (q_asg rfl) ?_
        refine o_end ?_
        refine za1 ?_
        refine c_ret ?_
        have e0_ := Option.some.inj h; clear h
        subst e0_
        exact x_r1 () Try.results30 (zah rfl) rfl (fun w h => za7 [] (by decide) rfl w h)

/-! ### loop.example/g01098/laws.FnExactVectorCosts: function 10 -/
def laws_FnExactVectorCosts.f (k : Nat) (l0 : List Int) : Option Bool := if 1048576 < (l0.length : Int) then (some true) else ((laws_toIntS.f k l0).bind fun l3 => (spec_VectorCosts.f k l3).bind fun (i7, i8, b9) => (laws_toIntS.f k l0).bind fun l11 => (impl_VectorCosts.f k l11).bind fun (i15, i16, b17) => if i15 ≠ i7 then (some false) else (if i16 ≠ i8 then (some false) else (if (b17 != b9) = true then (some false) else ((laws_toIntS.f k l0).bind fun l22 => (laws_eqIntS.f k l11 l22).bind fun b26 => if b26 = true then (some true) else (some false)))))
set_option maxHeartbeats 600000 in
set_option maxRecDepth 100000 in
theorem laws_FnExactVectorCosts.calls (k : Nat) {w0 ws : World} {P0 : Nat → Prop} (A0 : Option Addr) (c0 : Nat) (n0 : Nat) (l0 : List Int) (Z : Below w0.heap.size w0 ws) (hF : Fr w0 ws P0 [] ws) (R0 : Stable ws P0 (fun w => Kd.C (Kd.int .i64) w A0 n0 l0)) (hc0 : n0 ≤ c0) (r_1 : Bool) (h : laws_FnExactVectorCosts.f k l0 = some r_1) :
    Calls Try.prog 10 #[.slice A0 n0 c0] ws (Post1 w0 ws P0 (fun (_ : Unit) => .bool r_1) (fun (_ : Unit) => [])) := by
  unfold laws_FnExactVectorCosts.f at h
  obtain rfl := (R0 ws (KeptB.refl _ _)).1
  refine enter Try.func10 rfl Try.ntmps10 rfl hF ?_
  refine c_seq ?_
  refine za0 ?_
  refine o_q rfl rfl (q_asg rfl) ?_
  refine o_end ?_
  refine za1 ?_
  refine c_seq ?_
  refine c_seq ?_
  refine za0 ?_
  refine o_q rfl rfl (za2 rfl) ?_
  refine o_q rfl rfl (q_len Try.underlying22 rfl) ?_
  refine o_q rfl rfl (q_gtr rfl rfl) ?_
  refine o_end ?_
  refine za1 ?_
  refine zar _ rfl (fun hb1 => ?_) (fun hb1 => ?_)
  · skip
    replace h := br_t hb1 h
    refine c_seq ?_
    refine za0 ?_
    refine o_q rfl rfl (q_asg rfl) ?_
    refine o_end ?_
    refine za1 ?_
    refine c_ret ?_
    refine za8 ?_
    have e0_ := Option.some.inj h; clear h
    subst e0_
    exact x_r1 () Try.results10 (zah rfl) rfl (fun w h => za7 [] (by decide) rfl w h)
  · skip
    replace h := br_f hb1 h
    refine zal ?_
    refine za1 ?_
    refine c_seq ?_
    refine za0 ?_
    refine o_q rfl rfl (za2 rfl) ?_
    refine za5 h (fun l3 hx2 h => ?_) rfl
    refine o_e rfl (za9 0 Z Try.func28 N28 rfl rfl rfl (fun w P1 hF hB hS hT => laws_toIntS.calls k A0 c0 l0.length l0 hB hF (hS _ R0) hc0 _ hx2)) (cur2 (fun A4 c5 => ?_))
    refine bindE3 h (fun i7 i8 b9 hx6 h => ?_) rfl
    refine o_e rfl (za9 0 Z Try.func43 N43 rfl rfl rfl (fun w P1 hF hB hS hT => spec_VectorCosts.calls k A4 c5 l3.length l3 hB hF (hT 0 _ rfl).row (hT 0 _ rfl).cap _ _ _ hx6)) (fun _ => ?_)
    refine o_q rfl rfl (za2 rfl) ?_
    refine o_q rfl rfl (q_ext rfl rfl) ?_
    refine o_q rfl rfl (q_ext rfl rfl) ?_
    refine o_q rfl rfl (q_ext rfl rfl) ?_
    refine o_q rfl rfl (q_asg rfl) ?_
    refine o_q rfl rfl (q_asg rfl) ?_
    refine o_q rfl rfl (q_asg rfl) ?_
    refine o_end ?_
    refine za1 ?_
    refine c_seq ?_
    refine za0 ?_
    refine o_q rfl rfl (za2 rfl) ?_
    refine za5 h (fun l11 hx10 h => ?_) rfl
    refine o_e rfl (za9 0 Z Try.func28 N28 rfl rfl rfl (fun w P1 hF hB hS hT => laws_toIntS.calls k A0 c0 l0.length l0 hB hF (hS _ R0) hc0 _ hx10)) (cur2 (fun A12 c13 => ?_))
    refine o_q rfl rfl (q_asg rfl) ?_
    refine o_end ?_
    refine za1 ?_
    refine c_seq ?_
    refine za0 ?_
    refine o_q rfl rfl (za2 rfl) ?_
    refine bindE3 h (fun i15 i16 b17 hx14 h => ?_) rfl
    refine o_e rfl (za9 0 Z Try.func44 N44 rfl rfl rfl (fun w P1 hF hB hS hT => impl_VectorCosts.calls k A12 c13 l11.length l11 hB hF (hT 0 _ rfl).row (hT 0 _ rfl).cap _ _ _ hx14)) (fun _ => ?_)
    refine o_q rfl rfl (za2 rfl) ?_
    refine o_q rfl rfl (q_ext rfl rfl) ?_
    refine o_q rfl rfl (q_ext rfl rfl) ?_
    refine o_q rfl rfl (q_ext rfl rfl) ?_
    refine o_q rfl rfl (q_asg rfl) ?_
    refine o_q rfl rfl (q_asg rfl) ?_
    refine o_q rfl rfl (q_asg rfl) ?_
    refine o_end ?_
    refine za1 ?_
    refine c_seq ?_
    refine c_seq ?_
    refine za0 ?_
    refine o_q rfl rfl (za2 rfl) ?_
    refine o_q rfl rfl (za2 rfl) ?_
    refine o_q rfl rfl (q_neq rfl rfl) ?_
    refine o_q rfl rfl (za2 rfl) ?_
    refine byB (decide (i15 ≠ i7)) (fun hb18 => ?_) (fun hb18 => ?_)
    · replace h := br_t hb18 h
      refine @o_n _ _ _ _ _ _ _ _ _ _ _ 32 (za3 rfl rfl rfl (congrArg Value.bool hb18) rfl) (Eq.refl (some 32)) ?_
      refine @o_n _ _ _ _ _ _ _ _ _ _ _ 33 (za3 rfl rfl rfl (congrArg Value.bool hb18) rfl) (Eq.refl (some 33)) ?_
      refine @o_n _ _ _ _ _ _ _ _ _ _ _ 34 (za3 rfl rfl rfl (congrArg Value.bool hb18) rfl) (Eq.refl (some 34)) ?_
      refine o_q rfl rfl (zav true (congrArg Value.bool hb18) rfl) ?_
      refine o_q rfl rfl (za2 rfl) ?_
      refine @o_n _ _ _ _ _ _ _ _ _ _ _ 37 (za3 rfl rfl rfl rfl rfl) (Eq.refl (some 37)) ?_
      refine @o_n _ _ _ _ _ _ _ _ _ _ _ 38 (za3 rfl rfl rfl rfl rfl) (Eq.refl (some 38)) ?_
      refine @o_n _ _ _ _ _ _ _ _ _ _ _ 39 (za3 rfl rfl rfl rfl rfl) (Eq.refl (some 39)) ?_
      refine o_q rfl rfl (zav true rfl rfl) ?_
      refine o_end ?_
      refine za1 ?_
      refine c_true rfl ?_
      refine c_seq ?_
      refine za0 ?_
      refine o_q rfl rfl (q_asg rfl) ?_
      refine o_end ?_
      refine za1 ?_
      refine c_ret ?_
      refine za8 ?_
      have e0_ := Option.some.inj h; clear h
      subst e0_
      exact x_r1 () Try.results10 (zah rfl) rfl (fun w h => za7 [] (by decide) rfl w h)
    · replace h := br_f hb18 h
      refine o_w (za6 rfl rfl rfl (congrArg Value.bool hb18)) rfl (za2 rfl) ?_
      refine o_w (za6 rfl rfl rfl (congrArg Value.bool hb18)) rfl (za2 rfl) ?_
      refine o_w (za6 rfl rfl rfl (congrArg Value.bool hb18)) rfl (q_neq rfl rfl) ?_
      refine o_q rfl rfl (zav false (congrArg Value.bool hb18) rfl) ?_
      refine o_q rfl rfl (za2 rfl) ?_
      refine byB (decide (i16 ≠ i8)) (fun hb19 => ?_) (fun hb19 => ?_)
      · replace h := br_t hb19 h
        refine @o_n _ _ _ _ _ _ _ _ _ _ _ 37 (za3 rfl rfl rfl (congrArg Value.bool hb19) rfl) (Eq.refl (some 37)) ?_
        refine @o_n _ _ _ _ _ _ _ _ _ _ _ 38 (za3 rfl rfl rfl (congrArg Value.bool hb19) rfl) (Eq.refl (some 38)) ?_
        refine @o_n _ _ _ _ _ _ _ _ _ _ _ 39 (za3 rfl rfl rfl (congrArg Value.bool hb19) rfl) (Eq.refl (some 39)) ?_
        refine o_q rfl rfl (zav true (congrArg Value.bool hb19) rfl) ?_
        refine o_end ?_
        refine za1 ?_
        refine c_true rfl ?_
        refine c_seq ?_
        refine za0 ?_
        refine o_q rfl rfl (q_asg rfl) ?_
        refine o_end ?_
        refine za1 ?_
        refine c_ret ?_
        refine za8 ?_
        have e0_ := Option.some.inj h; clear h
        subst e0_
        exact x_r1 () Try.results10 (zah rfl) rfl (fun w h => za7 [] (by decide) rfl w h)
      · replace h := br_f hb19 h
        refine o_w (za6 rfl rfl rfl (congrArg Value.bool hb19)) rfl (za2 rfl) ?_
        refine o_w (za6 rfl rfl rfl (congrArg Value.bool hb19)) rfl (za2 rfl) ?_
        refine o_w (za6 rfl rfl rfl (congrArg Value.bool hb19)) rfl (q_bneq Try.underlying4 rfl rfl) ?_
        refine o_q rfl rfl (zav false (congrArg Value.bool hb19) rfl) ?_
        refine o_end ?_
        refine za1 ?_
        refine zar _ rfl (fun hb20 => ?_) (fun hb20 => ?_)
        · skip
          replace h := bb_t hb20 h
          refine c_seq ?_
          refine za0 ?_
          refine o_q rfl rfl (q_asg rfl) ?_
          refine o_end ?_
          refine za1 ?_
          refine c_ret ?_
          refine za8 ?_
          have e0_ := Option.some.inj h; clear h
          subst e0_
          exact x_r1 () Try.results10 (zah rfl) rfl (fun w h => za7 [] (by decide) rfl w h)
        · skip
          replace h := bb_f hb20 h
          refine zal ?_
          refine za1 ?_
          refine c_seq ?_
          refine c_seq ?_
          refine za0 ?_
          refine o_q rfl rfl (za2 rfl) ?_
          refine o_q rfl rfl (za2 rfl) ?_
          refine za5 h (fun l22 hx21 h => ?_) rfl
          refine o_e rfl (za9 0 Z Try.func28 N28 rfl rfl rfl (fun w P1 hF hB hS hT => laws_toIntS.calls k A0 c0 l0.length l0 hB hF (hS _ R0) hc0 _ hx21)) (cur2 (fun A23 c24 => ?_))
          refine za5 h (fun b26 hx25 h => ?_) rfl
          refine o_e rfl (za9 0 Z Try.func30 N30 rfl rfl rfl (fun w P1 hF hB hS hT => laws_eqIntS.calls k A12 c13 l11.length l11 A23 c24 l22.length l22 hB hF (hT 1 _ rfl).row (hT 1 _ rfl).cap (hT 0 _ rfl).row (hT 0 _ rfl).cap _ hx25)) (fun _ => ?_)
          refine o_q rfl rfl (q_not rfl) ?_
          refine o_end ?_
          refine za1 ?_
          refine zar _ rfl (fun hb27 => ?_) (fun hb27 => ?_)
          · replace hb27 := nt_t hb27
            replace h := bb_f hb27 h
            refine c_seq ?_
            refine za0 ?_
            refine o_q rfl rfl (q_asg rfl) ?_
            refine o_end ?_
            refine za1 ?_
            refine c_ret ?_
            refine za8 ?_
            have e0_ := Option.some.inj h; clear h
            subst e0_
            exact x_r1 () Try.results10 (zah rfl) rfl (fun w h => za7 [] (by decide) rfl w h)
          · replace hb27 := nt_f hb27
            replace h := bb_t hb27 h
            refine zal ?_
            refine za1 ?_
            refine c_seq ?_
            refine za0 ?_
            refine o_q rfl rfl (q_asg rfl) ?_
            refine o_end ?_
            refine za1 ?_
            refine c_ret ?_
            have e0_ := Option.some.inj h; clear h
            subst e0_
            exact x_r1 () Try.results10 (zah rfl) rfl (fun w h => za7 [] (by decide) rfl w h)

/-- THE ONE PURE STATEMENT of laws_FnExactVectorCosts. -/
def laws_FnExactVectorCosts.Pure : Prop := ∀ (l0 : List Int), l0.length ≤ maxLen → (∀ y ∈ l0, (Lit.int .i64 y).wf = true) → ∃ k, laws_FnExactVectorCosts.f k l0 = some true
theorem laws_FnExactVectorCosts.walk (P : laws_FnExactVectorCosts.Pure) (A0 : Option Addr) (c0 : Nat) (l0 : List Int) (w : World) (hr0 : Kd.C (Kd.int .i64) w A0 l0.length l0) (hc0 : l0.length ≤ c0) (q0 : l0.length ≤ maxLen) (q1 : (∀ y ∈ l0, (Lit.int .i64 y).wf = true)) :
    Calls Try.prog 10 #[.slice A0 l0.length c0] w fun e w' => e = .returned (.bool true) ∧ Below w.heap.size w w' := by
  obtain ⟨k, h⟩ := P l0 q0 q1
  refine (laws_FnExactVectorCosts.calls k A0 c0 l0.length l0 (Below.refl _ _) (Fr.start w) (fun W hW => Kd.C_below hr0 hW.below) hc0 true h).mono ?_
  rintro e w' ⟨s, rfl, hF⟩
  exact ⟨rfl, hF.bel⟩
end Go.Proofs.Ytpdpomjgfmdjfaa.V3
