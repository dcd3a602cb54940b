import Derived.Test.YtnnlfipcoahcnaaDoorKFnExactRegCodeTextP3p2
namespace Go.Proofs.YtnnlfipcoahcnaaDoor.P3
open Go.RowKit Go.Proofs.YtnnlfipcoahcnaaDoor.Frame Go.Proofs.YtnnlfipcoahcnaaDoorW.PrintLast Go.Proofs.YtnnlfipcoahcnaaDoor.Hand
open Go.Proofs.YtnnlfipcoahcnaaDoorW.PrintWords hiding mn mx
set_option linter.unusedVariables false
/-! ### loop.example/g01098/impl.told: function 84 -/
def impl_told.f (k : Nat) (a0_0 : Int) (l0_1 : List SStep) (l0_2 : List Int) : Option (Int × (List SStep) × (List Int) × Bool) := (impl_IsPlan.f k a0_0 l0_1 l0_2).bind fun b6 => if b6 = true then (some (a0_0, l0_1, l0_2, true)) else (some (0, ([] : List SStep), ([] : List Int), false))
set_option maxHeartbeats 600000 in
set_option maxRecDepth 100000 in
theorem impl_told.calls (k : Nat) {w0 ws : World} {P0 : Nat → Prop} (a0_0 : Int) (A0_1 : Option Addr) (c0_1 : Nat) (n0_1 : Nat) (l0_1 : List SStep) (A0_2 : Option Addr) (c0_2 : Nat) (n0_2 : Nat) (l0_2 : List Int) (Z : Below w0.heap.size w0 ws) (hF : Fr w0 ws P0 [row kStep 69 (.slice A0_1 n0_1 c0_1) l0_1, row (Kd.int .i64) 3 (.slice A0_2 n0_2 c0_2) l0_2] ws)  (r_1 : Int) (r_2 : List SStep) (r_5 : List Int) (r_8 : Bool) (h : impl_told.f k a0_0 l0_1 l0_2 = some (r_1, r_2, r_5, r_8)) :
    Calls Tryd.prog 84 #[.agg #[.int .i64 a0_0, .slice A0_1 n0_1 c0_1, .slice A0_2 n0_2 c0_2]] ws (Post1 w0 ws P0 (fun ((q_3, q_4, q_6, q_7) : (Option Addr) × Nat × (Option Addr) × Nat) => .tuple #[.agg #[.int .i64 r_1, .slice q_3 r_2.length q_4, .slice q_6 r_5.length q_7], .bool r_8]) (fun ((q_3, q_4, q_6, q_7) : (Option Addr) × Nat × (Option Addr) × Nat) => [row kStep 69 (.slice q_3 r_2.length q_4) r_2, row (Kd.int .i64) 3 (.slice q_6 r_5.length q_7) r_5])) := by
  unfold impl_told.f at h
  obtain rfl := (hF.row_C (i := 0) rfl).2.1
  obtain rfl := (hF.row_C (i := 1) rfl).2.1
  refine enter Tryd.func84 rfl Tryd.ntmps84 rfl hF ?_
  refine c_seq ?_
  refine za0 ?_
  refine o_e rfl (e_box rfl) (fun g1 => ?_)
  refine o_e rfl (zas V31 rfl) (fun g3 => ?_)
  refine o_q rfl rfl (q_asg rfl) ?_
  refine o_end ?_
  refine za1 ?_
  refine c_seq ?_
  refine c_seq ?_
  refine za0 ?_
  refine o_q rfl rfl (q_ldB G31 Z31 rfl (fun w h => h.zaa (i := 1) rfl) rfl) ?_
  refine za6 h (fun b6 hx5 h => ?_) rfl
  refine o_e rfl (zac 0 Z Tryd.func26 N26 rfl rfl rfl (fun w P1 hF hB hS hT => impl_IsPlan.calls k a0_0 A0_1 c0_1 l0_1.length l0_1 A0_2 c0_2 l0_2.length l0_2 hB hF (hT 2 _ rfl).row (hT 2 _ rfl).cap (hT 3 _ rfl).row (hT 3 _ rfl).cap _ hx5)) (fun _ => ?_)
  refine o_q rfl rfl (q_not rfl) ?_
  refine o_end ?_
  refine za1 ?_
  refine zaq _ rfl (fun hb7 => ?_) (fun hb7 => ?_)
  · replace hb7 := nt_t hb7
    replace h := bb_f hb7 h
    refine c_seq ?_
    refine za0 ?_
    refine o_q rfl rfl (q_build (vs := []) (cs := [.int .i64 0, .slice none 0 0, .slice none 0 0]) rfl rfl) ?_
    refine o_e rfl (zan (i := 0) rfl rfl rfl Z31 rfl rfl) (fun _ => ?_)
    refine o_q rfl rfl (q_asg rfl) ?_
    refine o_end ?_
    refine za1 ?_
    refine c_ret ?_
    refine za5 ?_
    refine x_nil kStep 69 ?_
    refine x_nil (Kd.int .i64) 3 ?_
    have e0_ := Option.some.inj h; clear h
    have d0_ := (Prod.mk.inj e0_).1; have e1_ := (Prod.mk.inj e0_).2; clear e0_; subst d0_
    have d1_ := (Prod.mk.inj e1_).1; have e2_ := (Prod.mk.inj e1_).2; clear e1_; subst d1_
    have d2_ := (Prod.mk.inj e2_).1; have e3_ := (Prod.mk.inj e2_).2; clear e2_; subst d2_
    subst e3_
    exact x_r2 (none, 0, none, 0) Tryd.results84 (rv_cell rfl G31 Z31 (fun w h => h.zaa (i := 2) rfl) rfl) (zad rfl) rfl (fun w h => za7 [1, 0] (by decide) rfl w h)
  · replace hb7 := nt_f hb7
    replace h := bb_t hb7 h
    refine zal ?_
    refine za1 ?_
    refine c_seq ?_
    refine za0 ?_
    refine o_q rfl rfl (q_ldB G31 Z31 rfl (fun w h => h.zaa (i := 1) rfl) rfl) ?_
    refine o_e rfl (zan (i := 0) rfl rfl rfl Z31 rfl rfl) (fun _ => ?_)
    refine o_q rfl rfl (q_asg rfl) ?_
    refine o_end ?_
    refine za1 ?_
    refine c_ret ?_
    have e0_ := Option.some.inj h; clear h
    have d0_ := (Prod.mk.inj e0_).1; have e1_ := (Prod.mk.inj e0_).2; clear e0_; subst d0_
    have d1_ := (Prod.mk.inj e1_).1; have e2_ := (Prod.mk.inj e1_).2; clear e1_; subst d1_
    have d2_ := (Prod.mk.inj e2_).1; have e3_ := (Prod.mk.inj e2_).2; clear e2_; subst d2_
    subst e3_
    exact x_r2 (A0_1, c0_1, A0_2, c0_2) Tryd.results84 (rv_cell rfl G31 Z31 (fun w h => h.zaa (i := 0) rfl) rfl) (zad rfl) rfl (fun w h => za7 [2, 3] (by decide) rfl w h)

/-! ### (*loop.example/g01098/impl.RegCode).plan: function 68 -/
def impl_RegCode_plan.f (k : Nat) (a0_0 : Int) (l0_1 : List Int) (l0_2 : List SRegOp) (l0_3 : List Int) : Option (Int × (List SStep) × (List Int) × Bool) := (if 6 < (l0_1.length : Int) then (some true) else (if 40 < (l0_2.length : Int) then (some true) else (some (decide (6 < (l0_3.length : Int)))))).bind fun b5 => if b5 = true then (some (0, ([] : List SStep), ([] : List Int), false)) else ((impl_RegCode_read.f a0_0 l0_1 l0_2 l0_3).bind fun (i15, l16, l17, b18) => if b18 = true then ((impl_told.f k i15 l16 l17).bind fun (i27, l28, l29, b30) => some (i27, l28, l29, b30)) else (some (0, ([] : List SStep), ([] : List Int), false)))
set_option maxHeartbeats 600000 in
set_option maxRecDepth 100000 in
theorem impl_RegCode_plan.calls (k : Nat) {w0 ws : World} {P0 : Nat → Prop} (g0 : Nat) (a0_0 : Int) (A0_1 : Option Addr) (c0_1 : Nat) (n0_1 : Nat) (l0_1 : List Int) (A0_2 : Option Addr) (c0_2 : Nat) (n0_2 : Nat) (l0_2 : List SRegOp) (A0_3 : Option Addr) (c0_3 : Nat) (n0_3 : Nat) (l0_3 : List Int) (Z : Below w0.heap.size w0 ws) (hF : Fr w0 ws P0 [] ws) (R0_1 : Stable ws P0 (fun w => Kd.C (Kd.int .i64) w A0_1 n0_1 l0_1)) (hc0_1 : n0_1 ≤ c0_1) (R0_2 : Stable ws P0 (fun w => Kd.C kRegOp w A0_2 n0_2 l0_2)) (hc0_2 : n0_2 ≤ c0_2) (R0_3 : Stable ws P0 (fun w => Kd.C (Kd.int .i64) w A0_3 n0_3 l0_3)) (hc0_3 : n0_3 ≤ c0_3) (B0 : Stable ws P0 (fun w => w.heap[g0]? = some (.cells #[.int .i64 a0_0, .slice A0_1 n0_1 c0_1, .slice A0_2 n0_2 c0_2, .slice A0_3 n0_3 c0_3] 42 (0, 0)))) (r_1 : Int) (r_2 : List SStep) (r_5 : List Int) (r_8 : Bool) (h : impl_RegCode_plan.f k a0_0 l0_1 l0_2 l0_3 = some (r_1, r_2, r_5, r_8)) :
    Calls Tryd.prog 68 #[.pointer (some ⟨g0, 0, none⟩)] ws (Post1 w0 ws P0 (fun ((q_3, q_4, q_6, q_7) : (Option Addr) × Nat × (Option Addr) × Nat) => .tuple #[.agg #[.int .i64 r_1, .slice q_3 r_2.length q_4, .slice q_6 r_5.length q_7], .bool r_8]) (fun ((q_3, q_4, q_6, q_7) : (Option Addr) × Nat × (Option Addr) × Nat) => [row kStep 69 (.slice q_3 r_2.length q_4) r_2, row (Kd.int .i64) 3 (.slice q_6 r_5.length q_7) r_5])) := by
  unfold impl_RegCode_plan.f at h
  obtain rfl := (R0_1 ws (KeptB.refl _ _)).1
  obtain rfl := (R0_2 ws (KeptB.refl _ _)).1
  obtain rfl := (R0_3 ws (KeptB.refl _ _)).1
  refine enter Tryd.func68 rfl Tryd.ntmps68 rfl hF ?_
  refine c_seq ?_
  refine za0 ?_
  refine o_e rfl (zas V31 rfl) (fun g1 => ?_)
  refine o_q rfl rfl (q_asg rfl) ?_
  refine o_end ?_
  refine za1 ?_
  refine c_seq ?_
  refine za6 h (fun o6 hl7 hR8 => ?_) rfl
  clear h
  refine c_cutJ (σ := Bool) (fun b5 => some b5 = some o6) [6, 7, 8, 9, 10, 11, 12, 13, 14, 15, 16, 17, 18, 19, 20, 21, 22, 23, 24, 25, 26, 27] (fun b5 => [(27, .bool b5)]) (fun b5 => [box g1 31 #[.int .i64 0, .slice none 0 0, .slice none 0 0]]) ?_ ?_
  · skip
    have h := hl7; clear hl7
    clear hR8
    refine za0 ?_
    refine o_q rfl rfl (za3 rfl) ?_
    refine o_q rfl rfl (q_nil rfl) ?_
    refine o_q rfl rfl (q_f F42_1 rfl) ?_
    refine o_q rfl rfl (q_ldb Y23 rfl (fun w h => B0.now Z h) rfl) ?_
    refine o_q rfl rfl (q_len Tryd.underlying23 rfl) ?_
    refine o_q rfl rfl (q_gtr rfl rfl) ?_
    refine o_q rfl rfl (za3 rfl) ?_
    refine byB (decide (6 < (l0_1.length : Int))) (fun hb11 => ?_) (fun hb11 => ?_)
    · replace h := br_t hb11 h
      refine @o_n _ _ _ _ _ _ _ _ _ _ _ 13 (za2 rfl rfl rfl (congrArg Value.bool hb11) rfl) (Eq.refl (some 13)) ?_
      refine @o_n _ _ _ _ _ _ _ _ _ _ _ 14 (za2 rfl rfl rfl (congrArg Value.bool hb11) rfl) (Eq.refl (some 14)) ?_
      refine @o_n _ _ _ _ _ _ _ _ _ _ _ 15 (za2 rfl rfl rfl (congrArg Value.bool hb11) rfl) (Eq.refl (some 15)) ?_
      refine @o_n _ _ _ _ _ _ _ _ _ _ _ 16 (za2 rfl rfl rfl (congrArg Value.bool hb11) rfl) (Eq.refl (some 16)) ?_
      refine @o_n _ _ _ _ _ _ _ _ _ _ _ 17 (za2 rfl rfl rfl (congrArg Value.bool hb11) rfl) (Eq.refl (some 17)) ?_
      refine @o_n _ _ _ _ _ _ _ _ _ _ _ 18 (za2 rfl rfl rfl (congrArg Value.bool hb11) rfl) (Eq.refl (some 18)) ?_
      refine o_q rfl rfl (zao true (congrArg Value.bool hb11) rfl) ?_
      refine o_q rfl rfl (za3 rfl) ?_
      refine @o_n _ _ _ _ _ _ _ _ _ _ _ 21 (za2 rfl rfl rfl rfl rfl) (Eq.refl (some 21)) ?_
      refine @o_n _ _ _ _ _ _ _ _ _ _ _ 22 (za2 rfl rfl rfl rfl rfl) (Eq.refl (some 22)) ?_
      refine @o_n _ _ _ _ _ _ _ _ _ _ _ 23 (za2 rfl rfl rfl rfl rfl) (Eq.refl (some 23)) ?_
      refine @o_n _ _ _ _ _ _ _ _ _ _ _ 24 (za2 rfl rfl rfl rfl rfl) (Eq.refl (some 24)) ?_
      refine @o_n _ _ _ _ _ _ _ _ _ _ _ 25 (za2 rfl rfl rfl rfl rfl) (Eq.refl (some 25)) ?_
      refine @o_n _ _ _ _ _ _ _ _ _ _ _ 26 (za2 rfl rfl rfl rfl rfl) (Eq.refl (some 26)) ?_
      refine o_q rfl rfl (zao true rfl rfl) ?_
      refine o_end ?_
      refine x_meetJ true h ⟨rfl, trivial⟩ (fun w h => za7 [0] (by decide) rfl w h) ?_
      repeat (first | exact zae _ _ | refine zai rfl ?_ | refine zaf rfl ?_ | refine zaj rfl ?_)
    · replace h := br_f hb11 h
      refine o_w (za4 rfl rfl rfl (congrArg Value.bool hb11)) rfl (za3 rfl) ?_
      refine o_w (za4 rfl rfl rfl (congrArg Value.bool hb11)) rfl (q_nil rfl) ?_
      refine o_w (za4 rfl rfl rfl (congrArg Value.bool hb11)) rfl (q_f F42_2 rfl) ?_
      refine o_w (za4 rfl rfl rfl (congrArg Value.bool hb11)) rfl (q_ldb Y40 rfl (fun w h => B0.now Z h) rfl) ?_
      refine o_w (za4 rfl rfl rfl (congrArg Value.bool hb11)) rfl (q_len Tryd.underlying40 rfl) ?_
      refine o_w (za4 rfl rfl rfl (congrArg Value.bool hb11)) rfl (q_gtr rfl rfl) ?_
      refine o_q rfl rfl (zao false (congrArg Value.bool hb11) rfl) ?_
      refine o_q rfl rfl (za3 rfl) ?_
      refine byB (decide (40 < (l0_2.length : Int))) (fun hb12 => ?_) (fun hb12 => ?_)
      · replace h := br_t hb12 h
        refine @o_n _ _ _ _ _ _ _ _ _ _ _ 21 (za2 rfl rfl rfl (congrArg Value.bool hb12) rfl) (Eq.refl (some 21)) ?_
        refine @o_n _ _ _ _ _ _ _ _ _ _ _ 22 (za2 rfl rfl rfl (congrArg Value.bool hb12) rfl) (Eq.refl (some 22)) ?_
        refine @o_n _ _ _ _ _ _ _ _ _ _ _ 23 (za2 rfl rfl rfl (congrArg Value.bool hb12) rfl) (Eq.refl (some 23)) ?_
        refine @o_n _ _ _ _ _ _ _ _ _ _ _ 24 (za2 rfl rfl rfl (congrArg Value.bool hb12) rfl) (Eq.refl (some 24)) ?_
        refine @o_n _ _ _ _ _ _ _ _ _ _ _ 25 (za2 rfl rfl rfl (congrArg Value.bool hb12) rfl) (Eq.refl (some 25)) ?_
        refine @o_n _ _ _ _ _ _ _ _ _ _ _ 26 (za2 rfl rfl rfl (congrArg Value.bool hb12) rfl) (Eq.refl (some 26)) ?_
        refine o_q rfl rfl (zao true (congrArg Value.bool hb12) rfl) ?_
        refine o_end ?_
        refine x_meetJ true h ⟨rfl, trivial⟩ (fun w h => za7 [0] (by decide) rfl w h) ?_
        repeat (first | exact zae _ _ | refine zai rfl ?_ | refine zaf rfl ?_ | refine zaj rfl ?_)
      · replace h := br_f hb12 h
        refine o_w (za4 rfl rfl rfl (congrArg Value.bool hb12)) rfl (za3 rfl) ?_
        refine o_w (za4 rfl rfl rfl (congrArg Value.bool hb12)) rfl (q_nil rfl) ?_
        refine o_w (za4 rfl rfl rfl (congrArg Value.bool hb12)) rfl (q_f F42_3 rfl) ?_
        refine o_w (za4 rfl rfl rfl (congrArg Value.bool hb12)) rfl (q_ldb Y23 rfl (fun w h => B0.now Z h) rfl) ?_
        refine o_w (za4 rfl rfl rfl (congrArg Value.bool hb12)) rfl (q_len Tryd.underlying23 rfl) ?_
        refine o_w (za4 rfl rfl rfl (congrArg Value.bool hb12)) rfl (q_gtr rfl rfl) ?_
        refine o_q rfl rfl (zao false (congrArg Value.bool hb12) rfl) ?_
        refine o_end ?_
        refine x_meetJ (decide (6 < (l0_3.length : Int))) h ⟨rfl, trivial⟩ (fun w h => za7 [0] (by decide) rfl w h) ?_
        repeat (first | exact zae _ _ | refine zai rfl ?_ | refine zaf rfl ?_ | refine zaj rfl ?_)
  · skip
    refine (fun b5 => fun U9 hJ10 => ?_)
    have e_ := Option.some.inj hJ10; have h := hR8; rw [← e_] at h; clear e_ hJ10 hR8 hl7
    refine zaq _ rfl (fun hb13 => ?_) (fun hb13 => ?_)
    · skip
      replace h := bb_t hb13 h
      refine c_seq ?_
      refine za0 ?_
      refine o_q rfl rfl (q_build (vs := []) (cs := [.int .i64 0, .slice none 0 0, .slice none 0 0]) rfl rfl) ?_
      refine o_e rfl (zan (i := 0) rfl rfl rfl Z31 rfl rfl) (fun _ => ?_)
      refine o_q rfl rfl (q_asg rfl) ?_
      refine o_end ?_
      refine za1 ?_
      refine c_ret ?_
      refine za5 ?_
      refine x_nil kStep 69 ?_
      refine x_nil (Kd.int .i64) 3 ?_
      have e0_ := Option.some.inj h; clear h
      have d0_ := (Prod.mk.inj e0_).1; have e1_ := (Prod.mk.inj e0_).2; clear e0_; subst d0_
      have d1_ := (Prod.mk.inj e1_).1; have e2_ := (Prod.mk.inj e1_).2; clear e1_; subst d1_
      have d2_ := (Prod.mk.inj e2_).1; have e3_ := (Prod.mk.inj e2_).2; clear e2_; subst d2_
      subst e3_
      exact x_r2 (none, 0, none, 0) Tryd.results68 (rv_cell rfl G31 Z31 (fun w h => h.zaa (i := 2) rfl) rfl) (zad rfl) rfl (fun w h => za7 [1, 0] (by decide) rfl w h)
    · skip
      replace h := bb_f hb13 h
      refine zal ?_
      refine za1 ?_
      refine c_seq ?_
      refine za0 ?_
      refine o_q rfl rfl (za3 rfl) ?_
      refine bindE4 h (fun i15 l16 l17 b18 hx14 h => ?_) rfl
      refine o_e rfl (zac 0 Z Tryd.func83 N83 rfl rfl rfl (fun w P1 hF hB hS hT => impl_RegCode_read.calls g0 a0_0 A0_1 c0_1 l0_1.length l0_1 A0_2 c0_2 l0_2.length l0_2 A0_3 c0_3 l0_3.length l0_3 hB hF (hS _ R0_1) hc0_1 (hS _ R0_2) hc0_2 (hS _ R0_3) hc0_3 (hS _ B0) _ _ _ _ hx14)) (cur4 (fun A19 c20 A21 c22 => ?_))
      refine o_q rfl rfl (za3 rfl) ?_
      refine o_q rfl rfl (q_ext rfl rfl) ?_
      refine o_q rfl rfl (q_ext rfl rfl) ?_
      refine o_e rfl (zas V31 rfl) (fun g23 => ?_)
      refine o_e rfl (zan (i := 0) rfl rfl rfl Z31 rfl rfl) (fun _ => ?_)
      refine o_q rfl rfl (q_asg rfl) ?_
      refine o_end ?_
      refine za1 ?_
      refine c_seq ?_
      refine c_seq ?_
      refine za0 ?_
      refine o_q rfl rfl (za3 rfl) ?_
      refine o_q rfl rfl (q_not rfl) ?_
      refine o_end ?_
      refine za1 ?_
      refine zaq _ rfl (fun hb25 => ?_) (fun hb25 => ?_)
      · replace hb25 := nt_t hb25
        replace h := bb_f hb25 h
        refine c_seq ?_
        refine za0 ?_
        refine o_q rfl rfl (q_build (vs := []) (cs := [.int .i64 0, .slice none 0 0, .slice none 0 0]) rfl rfl) ?_
        refine o_e rfl (zan (i := 3) rfl rfl rfl Z31 rfl rfl) (fun _ => ?_)
        refine o_q rfl rfl (q_asg rfl) ?_
        refine o_end ?_
        refine za1 ?_
        refine c_ret ?_
        refine za5 ?_
        refine x_nil kStep 69 ?_
        refine x_nil (Kd.int .i64) 3 ?_
        have e0_ := Option.some.inj h; clear h
        have d0_ := (Prod.mk.inj e0_).1; have e1_ := (Prod.mk.inj e0_).2; clear e0_; subst d0_
        have d1_ := (Prod.mk.inj e1_).1; have e2_ := (Prod.mk.inj e1_).2; clear e1_; subst d1_
        have d2_ := (Prod.mk.inj e2_).1; have e3_ := (Prod.mk.inj e2_).2; clear e2_; subst d2_
        subst e3_
        exact x_r2 (none, 0, none, 0) Tryd.results68 (rv_cell rfl G31 Z31 (fun w h => h.zaa (i := 5) rfl) rfl) (zad rfl) rfl (fun w h => za7 [1, 0] (by decide) rfl w h)
      · replace hb25 := nt_f hb25
        replace h := bb_t hb25 h
        refine zal ?_
        refine za1 ?_
        refine c_seq ?_
        refine za0 ?_
        refine o_q rfl rfl (q_ldB G31 Z31 rfl (fun w h => h.zaa (i := 0) rfl) rfl) ?_
        refine o_pick [1, 2, 0, 3] (by decide) rfl ?_
        refine bindE4 h (fun i27 l28 l29 b30 hx26 h => ?_) rfl
        refine o_e rfl (zac 2 Z Tryd.func84 N84 rfl rfl rfl (fun w P1 hF hB hS hT => impl_told.calls k i15 A19 c20 l16.length l16 A21 c22 l17.length l17 hB hF _ _ _ _ hx26)) (cur4 (fun A31 c32 A33 c34 => ?_))
        refine o_q rfl rfl (q_ext rfl rfl) ?_
        refine o_q rfl rfl (q_ext rfl rfl) ?_
        refine o_e rfl (zan (i := 3) rfl rfl rfl Z31 rfl rfl) (fun _ => ?_)
        refine o_q rfl rfl (q_asg rfl) ?_
        refine o_end ?_
        refine za1 ?_
        refine c_ret ?_
        have e0_ := Option.some.inj h; clear h
        have d0_ := (Prod.mk.inj e0_).1; have e1_ := (Prod.mk.inj e0_).2; clear e0_; subst d0_
        have d1_ := (Prod.mk.inj e1_).1; have e2_ := (Prod.mk.inj e1_).2; clear e1_; subst d1_
        have d2_ := (Prod.mk.inj e2_).1; have e3_ := (Prod.mk.inj e2_).2; clear e2_; subst d2_
        subst e3_
        exact x_r2 (A31, c32, A33, c34) Tryd.results68 (rv_cell rfl G31 Z31 (fun w h => h.zaa (i := 3) rfl) rfl) (zad rfl) rfl (fun w h => za7 [0, 1] (by decide) rfl w h)

/-! ### loop.example/g01098/impl.IsRegCode: function 34 -/
def impl_IsRegCode.f (k : Nat) (a0_0 : Int) (l0_1 : List Int) (l0_2 : List SRegOp) (l0_3 : List Int) : Option Bool := (impl_RegCode_plan.f k a0_0 l0_1 l0_2 l0_3).bind fun (i4, l5, l6, b7) => some b7
set_option maxHeartbeats 600000 in
set_option maxRecDepth 100000 in
theorem impl_IsRegCode.calls (k : Nat) {w0 ws : World} {P0 : Nat → Prop} (a0_0 : Int) (A0_1 : Option Addr) (c0_1 : Nat) (n0_1 : Nat) (l0_1 : List Int) (A0_2 : Option Addr) (c0_2 : Nat) (n0_2 : Nat) (l0_2 : List SRegOp) (A0_3 : Option Addr) (c0_3 : Nat) (n0_3 : Nat) (l0_3 : List Int) (Z : Below w0.heap.size w0 ws) (hF : Fr w0 ws P0 [] ws) (R0_1 : Stable ws P0 (fun w => Kd.C (Kd.int .i64) w A0_1 n0_1 l0_1)) (hc0_1 : n0_1 ≤ c0_1) (R0_2 : Stable ws P0 (fun w => Kd.C kRegOp w A0_2 n0_2 l0_2)) (hc0_2 : n0_2 ≤ c0_2) (R0_3 : Stable ws P0 (fun w => Kd.C (Kd.int .i64) w A0_3 n0_3 l0_3)) (hc0_3 : n0_3 ≤ c0_3) (r_1 : Bool) (h : impl_IsRegCode.f k a0_0 l0_1 l0_2 l0_3 = some r_1) :
    Calls Tryd.prog 34 #[.agg #[.int .i64 a0_0, .slice A0_1 n0_1 c0_1, .slice A0_2 n0_2 c0_2, .slice A0_3 n0_3 c0_3]] ws (Post1 w0 ws P0 (fun (_ : Unit) => .bool r_1) (fun (_ : Unit) => [])) := by
  unfold impl_IsRegCode.f at h
  obtain rfl := (R0_1 ws (KeptB.refl _ _)).1
  obtain rfl := (R0_2 ws (KeptB.refl _ _)).1
  obtain rfl := (R0_3 ws (KeptB.refl _ _)).1
  refine enter Tryd.func34 rfl Tryd.ntmps34 rfl hF ?_
  refine c_seq ?_
  refine za0 ?_
  refine o_e rfl (e_box rfl) (fun g1 => ?_)
  refine o_q rfl rfl (q_asg rfl) ?_
  refine o_end ?_
  refine za1 ?_
  refine c_seq ?_
  refine za0 ?_
  refine bindE4 h (fun i4 l5 l6 b7 hx3 h => ?_) rfl
  refine o_e rfl (zac 0 Z Tryd.func68 N68 rfl rfl rfl (fun w P1 hF hB hS hT => impl_RegCode_plan.calls k g1 a0_0 A0_1 c0_1 l0_1.length l0_1 A0_2 c0_2 l0_2.length l0_2 A0_3 c0_3 l0_3.length l0_3 hB hF (hS _ R0_1) hc0_1 (hS _ R0_2) hc0_2 (hS _ R0_3) hc0_3 (hT 0 _ rfl).box _ _ _ _ hx3)) (cur4 (fun A8 c9 A10 c11 => ?_))
  refine o_q rfl rfl (za3 rfl) ?_
  refine o_q rfl rfl (q_ext rfl rfl) ?_
  refine o_q rfl rfl (q_ext rfl rfl) ?_
  refine o_e rfl (zas V31 rfl) (fun g12 => ?_)
  refine o_e rfl (zan (i := 0) rfl rfl rfl Z31 rfl rfl) (fun _ => ?_)
  refine o_q rfl rfl (q_asg rfl) ?_
  refine o_end ?_
  refine za1 ?_
  refine c_seq ?_
  refine za0 ?_
  refine o_q rfl rfl (za3 rfl) ?_
  refine o_q rfl rfl (q_asg rfl) ?_
  refine o_end ?_
  refine za1 ?_
  refine c_ret ?_
  have e0_ := Option.some.inj h; clear h
  subst e0_
  exact x_r1 () Tryd.results34 (zad rfl) rfl (fun w h => za7 [] (by decide) rfl w h)

/-! ### loop.example/g01098/impl.listed: function 62 -/
def impl_listed.f (l0 : List ByteArray) : Option ByteArray := if (l0.length : Int) = 0 then (some (⟨#[45]⟩ : ByteArray)) else ((strings_Join.f l0 (⟨#[44]⟩ : ByteArray)).bind fun s3 => some s3)
set_option maxHeartbeats 600000 in
set_option maxRecDepth 100000 in
theorem impl_listed.calls {w0 ws : World} {P0 : Nat → Prop} (A0 : Option Addr) (c0 : Nat) (n0 : Nat) (l0 : List ByteArray) (Z : Below w0.heap.size w0 ws) (hF : Fr w0 ws P0 [] ws) (R0 : Stable ws P0 (fun w => Kd.C Kd.string w A0 n0 l0)) (hc0 : n0 ≤ c0) (r_1 : ByteArray) (h : impl_listed.f l0 = some r_1) :
    Calls Tryd.prog 62 #[.slice A0 n0 c0] ws (Post1 w0 ws P0 (fun (_ : Unit) => .string r_1) (fun (_ : Unit) => [])) := by
  unfold impl_listed.f at h
  obtain rfl := (R0 ws (KeptB.refl _ _)).1
  refine enter Tryd.func62 rfl Tryd.ntmps62 rfl hF ?_
  refine c_seq ?_
  refine za0 ?_
  refine o_q rfl rfl (q_asg rfl) ?_
  refine o_end ?_
  refine za1 ?_
  refine c_seq ?_
  refine c_seq ?_
  refine za0 ?_
  refine o_q rfl rfl (za3 rfl) ?_
  refine o_q rfl rfl (q_len Tryd.underlying64 rfl) ?_
  refine o_q rfl rfl (q_eql rfl rfl) ?_
  refine o_end ?_
  refine za1 ?_
  refine zaq _ rfl (fun hb1 => ?_) (fun hb1 => ?_)
  · skip
    replace h := br_t hb1 h
    refine c_seq ?_
    refine za0 ?_
    refine o_q rfl rfl (q_asg rfl) ?_
    refine o_end ?_
    refine za1 ?_
    refine c_ret ?_
    refine za5 ?_
    have e0_ := Option.some.inj h; clear h
    subst e0_
    exact x_r1 () Tryd.results62 (zad rfl) rfl (fun w h => za7 [] (by decide) rfl w h)
  · skip
    replace h := br_f hb1 h
    refine zal ?_
    refine za1 ?_
    refine c_seq ?_
    refine za0 ?_
    refine o_q rfl rfl (za3 rfl) ?_
    refine za6 h (fun s3 hx2 h => ?_) rfl
    refine o_e rfl (zac 0 Z Tryd.func69 N69 rfl rfl rfl (fun w P1 hF hB hS hT => strings_Join.calls A0 c0 l0.length l0 (⟨#[44]⟩ : ByteArray) hB hF (hS _ R0) hc0 _ hx2)) (fun _ => ?_)
    refine o_q rfl rfl (q_asg rfl) ?_
    refine o_end ?_
    refine za1 ?_
    refine c_ret ?_
    have e0_ := Option.some.inj h; clear h
    subst e0_
    exact x_r1 () Tryd.results62 (zad rfl) rfl (fun w h => za7 [] (by decide) rfl w h)

/-! ### loop.example/g01098/impl.numbersText: function 63 -/
def impl_numbersText.l0 : (List Int) → (List ByteArray) → Int → Option (List ByteArray)
  | [], l4, i7 => some l4
  | y8 :: ys9, l4, i7 => (strconv_Itoa.f y8).bind fun s22 => (ap l4 ([s22] : List ByteArray)).bind fun l26 => impl_numbersText.l0 ys9 l26 (i7 + 1)
def impl_numbersText.f (l0 : List Int) : Option ByteArray := (impl_numbersText.l0 l0 ([] : List ByteArray) 0).bind fun l4 => (impl_listed.f l4).bind fun s19 => some s19
set_option maxHeartbeats 600000 in
set_option maxRecDepth 100000 in
theorem impl_numbersText.calls {w0 ws : World} {P0 : Nat → Prop} (A0 : Option Addr) (c0 : Nat) (n0 : Nat) (l0 : List Int) (Z : Below w0.heap.size w0 ws) (hF : Fr w0 ws P0 [] ws) (R0 : Stable ws P0 (fun w => Kd.C (Kd.int .i64) w A0 n0 l0)) (hc0 : n0 ≤ c0) (r_1 : ByteArray) (h : impl_numbersText.f l0 = some r_1) :
    Calls Tryd.prog 63 #[.slice A0 n0 c0] ws (Post1 w0 ws P0 (fun (_ : Unit) => .string r_1) (fun (_ : Unit) => [])) := by
  unfold impl_numbersText.f at h
  obtain rfl := (R0 ws (KeptB.refl _ _)).1
  refine enter Tryd.func63 rfl Tryd.ntmps63 rfl hF ?_
  refine c_seq ?_
  refine za0 ?_
  refine o_q rfl rfl (q_asg rfl) ?_
  refine o_end ?_
  refine za1 ?_
  refine c_seq ?_
  refine za0 ?_
  refine o_e rfl (e_lit0 Kd.string Tryd.underlying64 I9) (cur2 (fun A1 c2 => ?_))
  refine o_q rfl rfl (q_asg rfl) ?_
  refine o_end ?_
  refine za1 ?_
  refine c_seq ?_
  refine c_seq ?_
  refine za0 ?_
  refine o_q rfl rfl (za3 rfl) ?_
  refine o_q rfl rfl (q_len Tryd.underlying23 rfl) ?_
  refine o_q rfl rfl (za3 rfl) ?_
  refine o_end ?_
  refine za1 ?_
  refine zak ?_
  refine za6 h (fun o15 hl14 hR13 => ?_) rfl
  clear h
  refine c_fact (p := l0.length ≤ 9223372036854775807) (fun w h => (R0.now Z h).2.1) (fun hm12 => ?_)
  refine c_loopL (σ := (List Int) × (List ByteArray) × Int × (Option Addr) × Nat) (fun k10 ((ys9, l4, i7, A5, c6) : (List Int) × (List ByteArray) × Int × (Option Addr) × Nat) => Rg l0 i7 ys9 ∧ ys9.length = k10 ∧ impl_numbersText.l0 ys9 l4 i7 = some o15) [3, 5, 9, 10, 11, 12, 13, 14, 15, 16, 17, 18] (fun ((ys9, l4, i7, A5, c6) : (List Int) × (List ByteArray) × Int × (Option Addr) × Nat) => [(3, .slice A5 l4.length c6), (9, .int .i64 i7)]) (fun ((ys9, l4, i7, A5, c6) : (List Int) × (List ByteArray) × Int × (Option Addr) × Nat) => [row Kd.string 9 (.slice A5 l4.length c6) l4]) l0.length (l0, ([] : List ByteArray), 0, A1, c2) ⟨Rg.start _, rfl, hl14⟩ ⟨rfl, rfl, trivial⟩ (fun w h => h) ?_
  refine fun k10 => cur5 (listC (fun l4 i7 A5 c6 U16 hJ_ => ?_) (fun y8 ys9 l4 i7 A5 c6 U16 hJ_ => ?_))
  · skip
    clear hl14
    have hr11 := hJ_.1; have hk17 := hJ_.2.1; have h := hJ_.2.2; clear hJ_
    replace h : impl_numbersText.l0 [] l4 i7 = some o15 := h
    rw [impl_numbersText.l0] at h
    refine c_seq ?_
    refine za0 ?_
    refine o_q rfl rfl (q_lss rfl rfl) ?_
    refine o_end ?_
    refine za1 ?_
    refine c_seq ?_
    refine c_false (congrArg Value.bool hr11.ge) ?_
    refine c_exit ?_
    refine za8 ?_
    refine za8 ?_
    have e_ := Option.some.inj h; replace h := hR13; rw [← e_] at h; clear e_
    refine x_hit ?_
    refine za1 ?_
    refine c_seq ?_
    refine za0 ?_
    refine o_q rfl rfl (za3 rfl) ?_
    refine za6 h (fun s19 hx18 h => ?_) rfl
    refine o_e rfl (zac 0 Z Tryd.func62 N62 rfl rfl rfl (fun w P1 hF hB hS hT => impl_listed.calls A5 c6 l4.length l4 hB hF (hT 0 _ rfl).row (hT 0 _ rfl).cap _ hx18)) (fun _ => ?_)
    refine o_q rfl rfl (q_asg rfl) ?_
    refine o_end ?_
    refine za1 ?_
    refine c_ret ?_
    have e0_ := Option.some.inj h; clear h
    subst e0_
    exact x_r1 () Tryd.results63 (zad rfl) rfl (fun w h => za7 [] (by decide) rfl w h)
  · skip
    clear hl14
    have hr11 := hJ_.1; have hk17 := hJ_.2.1; have h := hJ_.2.2; clear hJ_
    replace h : impl_numbersText.l0 (y8 :: ys9) l4 i7 = some o15 := h
    rw [impl_numbersText.l0] at h
    refine c_seq ?_
    refine za0 ?_
    refine o_q rfl rfl (q_lss rfl rfl) ?_
    refine o_end ?_
    refine za1 ?_
    refine c_seq ?_
    refine c_true (congrArg Value.bool hr11.lt) ?_
    refine zal ?_
    refine za1 ?_
    refine c_seq ?_
    refine zak ?_
    refine c_seq ?_
    refine za0 ?_
    refine o_fact (p := Sh A0 l0.length l0.length) (fun w h => f_sh (dk := (Kd.int .i64)) h (fun w h => R0.now Z h)) (fun hq20 => ?_)
    refine o_q rfl rfl (q_ix Tryd.underlying23 Z3 rfl rfl hq20 hr11.get) ?_
    refine o_q rfl rfl (q_lde (off := 0) Y3 rfl rfl (fun w h => R0.now Z h) hr11.get (fun _ _ h => h) rfl) ?_
    refine o_q rfl rfl (q_asg rfl) ?_
    refine o_end ?_
    refine za1 ?_
    refine za0 ?_
    refine o_q rfl rfl (za3 rfl) ?_
    refine o_q rfl rfl (za3 rfl) ?_
    refine za6 h (fun s22 hx21 h => ?_) rfl
    refine o_e rfl (zac 0 Z Tryd.func61 N61 rfl rfl rfl (fun w P1 hF hB hS hT => strconv_Itoa.calls y8 hB hF _ hx21)) (fun _ => ?_)
    refine o_e rfl (e_lit (vs := [(0, .string s22)]) (cs := [.string s22]) Kd.string ([s22] : List ByteArray) Tryd.underlying64 I9 (by decide) rfl (by decide) rfl rfl (fun _ _ => Kd.zau _)) (cur2 (fun A23 c24 => ?_))
    refine za6 h (fun l26 ha27 h => ?_) rfl
    refine o_e rfl (e_app (i := 1) (j := 0) Tryd.underlying64 I9 rfl (by decide) (by decide) rfl rfl rfl rfl rfl ha27) (cur2 (fun A28 c29 => ?_))
    refine o_q rfl rfl (q_asg rfl) ?_
    refine o_end ?_
    refine x_block ?_
    refine za1 ?_
    refine za0 ?_
    refine o_q rfl rfl (q_up rfl rfl (hr11.up hm12)) ?_
    refine o_q rfl rfl (za3 rfl) ?_
    refine o_end ?_
    refine zar ys9.length (ys9, l26, i7 + 1, A28, c29) (by rw [← hk17]; exact Nat.lt_succ_self _) ⟨hr11.step, rfl, h⟩ ⟨rfl, rfl, trivial⟩ (fun w h => za7 [1] (by decide) rfl w h) ?_
    repeat (first | exact zae _ _ | refine zai rfl ?_ | refine zaf rfl ?_ | refine zaj rfl ?_)

/-! ### (*loop.example/g01098/impl.RegCode).text: function 35 -/
def impl_RegCode_text.l0 : (List SRegOp) → (List ByteArray) → Int → Option (List ByteArray)
  | [], l4, i7 => some l4
  | y8 :: ys9, l4, i7 => (strconv_Itoa.f y8.f0).bind fun s35 => (sap s35 (⟨#[61]⟩ : ByteArray)).bind fun s37 => (strconv_Itoa.f y8.f1).bind fun s39 => (sap s37 s39).bind fun s41 => (sap s41 (⟨#[42]⟩ : ByteArray)).bind fun s43 => (strconv_Itoa.f y8.f2).bind fun s45 => (sap s43 s45).bind fun s47 => (ap l4 ([s47] : List ByteArray)).bind fun l51 => impl_RegCode_text.l0 ys9 l51 (i7 + 1)
def impl_RegCode_text.f (a0_0 : Int) (l0_1 : List Int) (l0_2 : List SRegOp) (l0_3 : List Int) : Option ByteArray := (impl_RegCode_text.l0 l0_2 ([] : List ByteArray) 0).bind fun l4 => (strconv_Itoa.f a0_0).bind fun s19 => (impl_numbersText.f l0_1).bind fun s21 => (impl_listed.f l4).bind fun s23 => (impl_numbersText.f l0_3).bind fun s25 => (strings_Join.f ([s19, s21, s23, s25] : List ByteArray) (⟨#[58]⟩ : ByteArray)).bind fun s30 => some s30
set_option maxHeartbeats 600000 in
set_option maxRecDepth 100000 in
theorem impl_RegCode_text.calls {w0 ws : World} {P0 : Nat → Prop} (g0 : Nat) (a0_0 : Int) (A0_1 : Option Addr) (c0_1 : Nat) (n0_1 : Nat) (l0_1 : List Int) (A0_2 : Option Addr) (c0_2 : Nat) (n0_2 : Nat) (l0_2 : List SRegOp) (A0_3 : Option Addr) (c0_3 : Nat) (n0_3 : Nat) (l0_3 : List Int) (Z : Below w0.heap.size w0 ws) (hF : Fr w0 ws P0 [] ws) (R0_1 : Stable ws P0 (fun w => Kd.C (Kd.int .i64) w A0_1 n0_1 l0_1)) (hc0_1 : n0_1 ≤ c0_1) (R0_2 : Stable ws P0 (fun w => Kd.C kRegOp w A0_2 n0_2 l0_2)) (hc0_2 : n0_2 ≤ c0_2) (R0_3 : Stable ws P0 (fun w => Kd.C (Kd.int .i64) w A0_3 n0_3 l0_3)) (hc0_3 : n0_3 ≤ c0_3) (B0 : Stable ws P0 (fun w => w.heap[g0]? = some (.cells #[.int .i64 a0_0, .slice A0_1 n0_1 c0_1, .slice A0_2 n0_2 c0_2, .slice A0_3 n0_3 c0_3] 42 (0, 0)))) (r_1 : ByteArray) (h : impl_RegCode_text.f a0_0 l0_1 l0_2 l0_3 = some r_1) :
    Calls Tryd.prog 35 #[.pointer (some ⟨g0, 0, none⟩)] ws (Post1 w0 ws P0 (fun (_ : Unit) => .string r_1) (fun (_ : Unit) => [])) := by
  unfold impl_RegCode_text.f at h
  obtain rfl := (R0_1 ws (KeptB.refl _ _)).1
  obtain rfl := (R0_2 ws (KeptB.refl _ _)).1
  obtain rfl := (R0_3 ws (KeptB.refl _ _)).1
  refine enter Tryd.func35 rfl Tryd.ntmps35 rfl hF ?_
  refine c_seq ?_
  refine za0 ?_
  refine o_q rfl rfl (q_asg rfl) ?_
  refine o_end ?_
  refine za1 ?_
  refine c_seq ?_
  refine za0 ?_
  refine o_e rfl (e_lit0 Kd.string Tryd.underlying64 I9) (cur2 (fun A1 c2 => ?_))
  refine o_q rfl rfl (q_asg rfl) ?_
  refine o_end ?_
  refine za1 ?_
  refine c_seq ?_
  refine c_seq ?_
  refine za0 ?_
  refine o_q rfl rfl (za3 rfl) ?_
  refine o_q rfl rfl (q_nil rfl) ?_
  refine o_q rfl rfl (q_f F42_2 rfl) ?_
  refine o_q rfl rfl (q_ldb Y40 rfl (fun w h => B0.now Z h) rfl) ?_
  refine o_q rfl rfl (q_len Tryd.underlying40 rfl) ?_
  refine o_q rfl rfl (za3 rfl) ?_
  refine o_end ?_
  refine za1 ?_
  refine zak ?_
  refine za6 h (fun o15 hl14 hR13 => ?_) rfl
  clear h
  refine c_fact (p := l0_2.length ≤ 9223372036854775807) (fun w h => (R0_2.now Z h).2.1) (fun hm12 => ?_)
  refine c_loopL (σ := (List SRegOp) × (List ByteArray) × Int × (Option Addr) × Nat) (fun k10 ((ys9, l4, i7, A5, c6) : (List SRegOp) × (List ByteArray) × Int × (Option Addr) × Nat) => Rg l0_2 i7 ys9 ∧ ys9.length = k10 ∧ impl_RegCode_text.l0 ys9 l4 i7 = some o15) [3, 5, 12, 13, 14, 15, 16, 17, 18, 19, 20, 21, 22, 23, 24, 25, 26, 27, 28, 29, 30, 31, 32] (fun ((ys9, l4, i7, A5, c6) : (List SRegOp) × (List ByteArray) × Int × (Option Addr) × Nat) => [(3, .slice A5 l4.length c6), (12, .int .i64 i7)]) (fun ((ys9, l4, i7, A5, c6) : (List SRegOp) × (List ByteArray) × Int × (Option Addr) × Nat) => [row Kd.string 9 (.slice A5 l4.length c6) l4]) l0_2.length (l0_2, ([] : List ByteArray), 0, A1, c2) ⟨Rg.start _, rfl, hl14⟩ ⟨rfl, rfl, trivial⟩ (fun w h => h) ?_
  refine fun k10 => cur5 (listC (fun l4 i7 A5 c6 U16 hJ_ => ?_) (fun y8 ys9 l4 i7 A5 c6 U16 hJ_ => ?_))
  · skip
    clear hl14
    have hr11 := hJ_.1; have hk17 := hJ_.2.1; have h := hJ_.2.2; clear hJ_
    replace h : impl_RegCode_text.l0 [] l4 i7 = some o15 := h
    rw [impl_RegCode_text.l0] at h
    refine c_seq ?_
    refine za0 ?_
    refine o_q rfl rfl (q_lss rfl rfl) ?_
    refine o_end ?_
    refine za1 ?_
    refine c_seq ?_
    refine c_false (congrArg Value.bool hr11.ge) ?_
    refine c_exit ?_
    refine za8 ?_
    refine za8 ?_
    have e_ := Option.some.inj h; replace h := hR13; rw [← e_] at h; clear e_
    refine x_hit ?_
    refine za1 ?_
    refine c_seq ?_
    refine a_start (ds := []) MO rfl ?_
    refine zab 0 rfl rfl rfl (by kernel_rfl) (fun _ _ _ h => h) (za3 rfl) ?_
    refine zab 1 rfl rfl rfl (by kernel_rfl) (fun _ _ _ h => h) (q_nil rfl) ?_
    refine zab 2 rfl rfl rfl (by kernel_rfl) (fun _ _ _ h => h) (q_f F42_0 rfl) ?_
    refine a_take 3 rfl rfl rfl (by kernel_rfl) (fun _ _ _ h => h) (fun w h => h) (q_ldb Y3 rfl (fun w h => B0.now Z h) rfl) ?_
    refine zab 5 rfl rfl rfl (by kernel_rfl) (fun _ _ _ h => h) (za3 rfl) ?_
    refine zab 6 rfl rfl rfl (by kernel_rfl) (fun _ _ _ h => h) (q_nil rfl) ?_
    refine zab 7 rfl rfl rfl (by kernel_rfl) (fun _ _ _ h => h) (q_f F42_1 rfl) ?_
    refine a_take 8 rfl rfl rfl (by kernel_rfl) (fun _ _ _ h => h) (fun w h => h) (q_ldb Y23 rfl (fun w h => B0.now Z h) rfl) ?_
    refine zab 10 rfl rfl rfl (by kernel_rfl) (fun _ _ _ h => h) (za3 rfl) ?_
    refine zab 12 rfl rfl rfl (by kernel_rfl) (fun _ _ _ h => h) (za3 rfl) ?_
    refine zab 13 rfl rfl rfl (by kernel_rfl) (fun _ _ _ h => h) (q_nil rfl) ?_
    refine zab 14 rfl rfl rfl (by kernel_rfl) (fun _ _ _ h => h) (q_f F42_3 rfl) ?_
    refine a_take 15 rfl rfl rfl (by kernel_rfl) (fun _ _ _ h => h) (fun w h => h) (q_ldb Y23 rfl (fun w h => B0.now Z h) rfl) ?_
    refine za6 h (fun s19 hx18 h => ?_) rfl
    refine a_one 4 rfl rfl (by kernel_rfl) rfl (zac 0 Z Tryd.func61 N61 rfl rfl rfl (fun w P1 hF hB hS hT => strconv_Itoa.calls a0_0 hB hF _ hx18)) (fun s w h => h) (fun _ => ?_)
    refine za6 h (fun s21 hx20 h => ?_) rfl
    refine a_one 9 rfl rfl (by kernel_rfl) rfl (zac 0 Z Tryd.func63 N63 rfl rfl rfl (fun w P1 hF hB hS hT => impl_numbersText.calls A0_1 c0_1 l0_1.length l0_1 hB hF (hS _ R0_1) hc0_1 _ hx20)) (fun s w h => h) (fun _ => ?_)
    refine za6 h (fun s23 hx22 h => ?_) rfl
    refine a_one 11 rfl rfl (by kernel_rfl) rfl (zac 0 Z Tryd.func62 N62 rfl rfl rfl (fun w P1 hF hB hS hT => impl_listed.calls A5 c6 l4.length l4 hB hF (hT 0 _ rfl).row (hT 0 _ rfl).cap _ hx22)) (fun s w h => h) (fun _ => ?_)
    refine za6 h (fun s25 hx24 h => ?_) rfl
    refine a_one 16 rfl rfl (by kernel_rfl) rfl (zac 0 Z Tryd.func63 N63 rfl rfl rfl (fun w P1 hF hB hS hT => impl_numbersText.calls A0_3 c0_3 l0_3.length l0_3 hB hF (hS _ R0_3) hc0_3 _ hx24)) (fun s w h => h) (fun _ => ?_)
    refine a_one 17 rfl rfl (by kernel_rfl) rfl (e_lit (vs := [(0, .string s19), (1, .string s21), (2, .string s23), (3, .string s25)]) (cs := [.string s19, .string s21, .string s23, .string s25]) Kd.string ([s19, s21, s23, s25] : List ByteArray) Tryd.underlying64 I9 (by decide) rfl (by decide) rfl rfl (fun _ _ => Kd.zau _)) (fun s w h => za9 [some 1] (by decide) w h rfl) (cur2 (fun A26 c27 => ?_))
    refine za6 h (fun s30 hx29 h => ?_) rfl
    refine a_one 18 rfl rfl (by kernel_rfl) rfl (zac 0 Z Tryd.func69 N69 rfl rfl rfl (fun w P1 hF hB hS hT => strings_Join.calls A26 c27 (([s19, s21, s23, s25] : List ByteArray).length) ([s19, s21, s23, s25] : List ByteArray) (⟨#[58]⟩ : ByteArray) hB hF (hT 0 _ rfl).row (hT 0 _ rfl).cap _ hx29)) (fun s w h => za9 [some 1] (by decide) w h rfl) (fun _ => ?_)
    refine zab 19 rfl rfl rfl (by kernel_rfl) (fun _ _ _ h => h) (q_asg rfl) ?_
    refine a_done (by kernel_rfl) ?_
    refine za1 ?_
    refine c_ret ?_
    have e0_ := Option.some.inj h; clear h
    subst e0_
    exact x_r1 () Tryd.results35 (zad rfl) rfl (fun w h => za7 [] (by decide) rfl w h)
  · skip
    clear hl14
    have hr11 := hJ_.1; have hk17 := hJ_.2.1; have h := hJ_.2.2; clear hJ_
    replace h : impl_RegCode_text.l0 (y8 :: ys9) l4 i7 = some o15 := h
    rw [impl_RegCode_text.l0] at h
    refine c_seq ?_
    refine za0 ?_
    refine o_q rfl rfl (q_lss rfl rfl) ?_
    refine o_end ?_
    refine za1 ?_
    refine c_seq ?_
    refine c_true (congrArg Value.bool hr11.lt) ?_
    refine zal ?_
    refine za1 ?_
    refine c_seq ?_
    refine zak ?_
    refine c_seq ?_
    refine za0 ?_
    refine o_fact (p := Sh A0_2 l0_2.length l0_2.length) (fun w h => f_sh (dk := kRegOp) h (fun w h => R0_2.now Z h)) (fun hq31 => ?_)
    refine o_q rfl rfl (q_ix Tryd.underlying40 Z95 rfl rfl hq31 hr11.get) ?_
    refine o_q rfl rfl (q_ldE G95 Z95 rfl rfl (fun w h => R0_2.now Z h) hr11.get (fun _ _ h => h) rfl) ?_
    refine o_e rfl (zas V95 rfl) (fun g32 => ?_)
    refine o_e rfl (zan (i := 0) rfl rfl rfl Z95 rfl rfl) (fun _ => ?_)
    refine o_end ?_
    refine za1 ?_
    refine a_startS (ds := []) [some 0, none] MO rfl ?_
    refine zab 0 rfl rfl rfl (by kernel_rfl) (fun _ _ _ h => h) (za3 rfl) ?_
    refine zab 1 rfl rfl rfl (by kernel_rfl) (fun _ _ _ h => h) (q_f F95_0 rfl) ?_
    refine a_take 2 rfl rfl rfl (by kernel_rfl) (fun _ _ _ h => h) (fun w h => za9 [some 0, none] (by decide) w h rfl) (q_ldb Y3 rfl (fun w h => h.zaa (i := 0) rfl) rfl) ?_
    refine zab 5 rfl rfl rfl (by kernel_rfl) (fun _ _ _ h => h) (q_f F95_1 rfl) ?_
    refine a_take 6 rfl rfl rfl (by kernel_rfl) (fun _ _ _ h => h) (fun w h => za9 [some 0, none] (by decide) w h rfl) (q_ldb Y3 rfl (fun w h => h.zaa (i := 0) rfl) rfl) ?_
    refine zab 10 rfl rfl rfl (by kernel_rfl) (fun _ _ _ h => h) (q_f F95_2 rfl) ?_
    refine a_take 11 rfl rfl rfl (by kernel_rfl) (fun _ _ _ h => h) (fun w h => za9 [some 0, none] (by decide) w h rfl) (q_ldb Y3 rfl (fun w h => h.zaa (i := 0) rfl) rfl) ?_
    refine za6 h (fun s35 hx34 h => ?_) rfl
    refine a_one 3 rfl rfl (by kernel_rfl) rfl (zac 0 Z Tryd.func61 N61 rfl rfl rfl (fun w P1 hF hB hS hT => strconv_Itoa.calls y8.f0 hB hF _ hx34)) (fun s w h => za9 [some 0, none] (by decide) w h rfl) (fun _ => ?_)
    refine za6 h (fun s37 hs36 h => ?_) rfl
    refine zab 4 rfl rfl rfl (by kernel_rfl) (fun _ _ _ h => h) (q_sap rfl rfl hs36) ?_
    refine za6 h (fun s39 hx38 h => ?_) rfl
    refine a_one 7 rfl rfl (by kernel_rfl) rfl (zac 0 Z Tryd.func61 N61 rfl rfl rfl (fun w P1 hF hB hS hT => strconv_Itoa.calls y8.f1 hB hF _ hx38)) (fun s w h => za9 [some 0, none] (by decide) w h rfl) (fun _ => ?_)
    refine za6 h (fun s41 hs40 h => ?_) rfl
    refine zab 8 rfl rfl rfl (by kernel_rfl) (fun _ _ _ h => h) (q_sap rfl rfl hs40) ?_
    refine za6 h (fun s43 hs42 h => ?_) rfl
    refine zab 9 rfl rfl rfl (by kernel_rfl) (fun _ _ _ h => h) (q_sap rfl rfl hs42) ?_
    refine za6 h (fun s45 hx44 h => ?_) rfl
    refine a_one 12 rfl rfl (by kernel_rfl) rfl (zac 0 Z Tryd.func61 N61 rfl rfl rfl (fun w P1 hF hB hS hT => strconv_Itoa.calls y8.f2 hB hF _ hx44)) (fun s w h => za9 [some 0, none] (by decide) w h rfl) (fun _ => ?_)
    refine za6 h (fun s47 hs46 h => ?_) rfl
    refine zab 13 rfl rfl rfl (by kernel_rfl) (fun _ _ _ h => h) (q_sap rfl rfl hs46) ?_
    refine a_one 14 rfl rfl (by kernel_rfl) rfl (e_lit (vs := [(0, .string s47)]) (cs := [.string s47]) Kd.string ([s47] : List ByteArray) Tryd.underlying64 I9 (by decide) rfl (by decide) rfl rfl (fun _ _ => Kd.zau _)) (fun s w h => za9 [some 1, none] (by decide) w h rfl) (cur2 (fun A48 c49 => ?_))
    refine za6 h (fun l51 ha52 h => ?_) rfl
    refine a_one 15 rfl rfl (by kernel_rfl) rfl (e_app (i := 2) (j := 0) Tryd.underlying64 I9 rfl (by decide) (by decide) rfl rfl rfl rfl rfl ha52) (fun s w h => za9 [some 1, none] (by decide) w h rfl) (cur2 (fun A53 c54 => ?_))
    refine zab 16 rfl rfl rfl (by kernel_rfl) (fun _ _ _ h => h) (q_asg rfl) ?_
    refine a_done (by kernel_rfl) ?_
    refine x_block ?_
    refine za1 ?_
    refine za0 ?_
    refine o_q rfl rfl (q_up rfl rfl (hr11.up hm12)) ?_
    refine o_q rfl rfl (za3 rfl) ?_
    refine o_end ?_
    refine zar ys9.length (ys9, l51, i7 + 1, A53, c54) (by rw [← hk17]; exact Nat.lt_succ_self _) ⟨hr11.step, rfl, h⟩ ⟨rfl, rfl, trivial⟩ (fun w h => za7 [2] (by decide) rfl w h) ?_
    repeat (first | exact zae _ _ | refine zai rfl ?_ | refine zaf rfl ?_ | refine zaj rfl ?_)

/-! ### loop.example/g01098/impl.RegCodeText: function 14 -/
def impl_RegCodeText.f (k : Nat) (a0_0 : Int) (l0_1 : List Int) (l0_2 : List SRegOp) (l0_3 : List Int) : Option (ByteArray × Bool) := (impl_IsRegCode.f k a0_0 l0_1 l0_2 l0_3).bind fun b4 => if b4 = true then ((impl_RegCode_text.f a0_0 l0_1 l0_2 l0_3).bind fun s7 => some (s7, true)) else (some ((⟨#[]⟩ : ByteArray), false))
set_option maxHeartbeats 600000 in
set_option maxRecDepth 100000 in
theorem impl_RegCodeText.calls (k : Nat) {w0 ws : World} {P0 : Nat → Prop} (a0_0 : Int) (A0_1 : Option Addr) (c0_1 : Nat) (n0_1 : Nat) (l0_1 : List Int) (A0_2 : Option Addr) (c0_2 : Nat) (n0_2 : Nat) (l0_2 : List SRegOp) (A0_3 : Option Addr) (c0_3 : Nat) (n0_3 : Nat) (l0_3 : List Int) (Z : Below w0.heap.size w0 ws) (hF : Fr w0 ws P0 [] ws) (R0_1 : Stable ws P0 (fun w => Kd.C (Kd.int .i64) w A0_1 n0_1 l0_1)) (hc0_1 : n0_1 ≤ c0_1) (R0_2 : Stable ws P0 (fun w => Kd.C kRegOp w A0_2 n0_2 l0_2)) (hc0_2 : n0_2 ≤ c0_2) (R0_3 : Stable ws P0 (fun w => Kd.C (Kd.int .i64) w A0_3 n0_3 l0_3)) (hc0_3 : n0_3 ≤ c0_3) (r_1 : ByteArray) (r_2 : Bool) (h : impl_RegCodeText.f k a0_0 l0_1 l0_2 l0_3 = some (r_1, r_2)) :
    Calls Tryd.prog 14 #[.agg #[.int .i64 a0_0, .slice A0_1 n0_1 c0_1, .slice A0_2 n0_2 c0_2, .slice A0_3 n0_3 c0_3]] ws (Post1 w0 ws P0 (fun (_ : Unit) => .tuple #[.string r_1, .bool r_2]) (fun (_ : Unit) => [])) := by
  unfold impl_RegCodeText.f at h
  obtain rfl := (R0_1 ws (KeptB.refl _ _)).1
  obtain rfl := (R0_2 ws (KeptB.refl _ _)).1
  obtain rfl := (R0_3 ws (KeptB.refl _ _)).1
  refine enter Tryd.func14 rfl Tryd.ntmps14 rfl hF ?_
  refine c_seq ?_
  refine za0 ?_
  refine o_e rfl (e_box rfl) (fun g1 => ?_)
  refine o_q rfl rfl (q_asg rfl) ?_
  refine o_q rfl rfl (q_asg rfl) ?_
  refine o_end ?_
  refine za1 ?_
  refine c_seq ?_
  refine c_seq ?_
  refine za0 ?_
  refine o_q rfl rfl (q_ldB G42 Z42 rfl (fun w h => h.zaa (i := 0) rfl) rfl) ?_
  refine za6 h (fun b4 hx3 h => ?_) rfl
  refine o_e rfl (zac 0 Z Tryd.func34 N34 rfl rfl rfl (fun w P1 hF hB hS hT => impl_IsRegCode.calls k a0_0 A0_1 c0_1 l0_1.length l0_1 A0_2 c0_2 l0_2.length l0_2 A0_3 c0_3 l0_3.length l0_3 hB hF (hS _ R0_1) hc0_1 (hS _ R0_2) hc0_2 (hS _ R0_3) hc0_3 _ hx3)) (fun _ => ?_)
  refine o_q rfl rfl (q_not rfl) ?_
  refine o_end ?_
  refine za1 ?_
  refine zaq _ rfl (fun hb5 => ?_) (fun hb5 => ?_)
  · replace hb5 := nt_t hb5
    replace h := bb_f hb5 h
    refine c_seq ?_
    refine za0 ?_
    refine o_q rfl rfl (q_asg rfl) ?_
    refine o_q rfl rfl (q_asg rfl) ?_
    refine o_end ?_
    refine za1 ?_
    refine c_ret ?_
    refine za5 ?_
    have e0_ := Option.some.inj h; clear h
    have d0_ := (Prod.mk.inj e0_).1; have e1_ := (Prod.mk.inj e0_).2; clear e0_; subst d0_
    subst e1_
    exact x_r2 () Tryd.results14 (zad rfl) (zad rfl) rfl (fun w h => za7 [] (by decide) rfl w h)
  · replace hb5 := nt_f hb5
    replace h := bb_t hb5 h
    refine zal ?_
    refine za1 ?_
    refine c_seq ?_
    refine za0 ?_
    refine za6 h (fun s7 hx6 h => ?_) rfl
    refine o_e rfl (zac 0 Z Tryd.func35 N35 rfl rfl rfl (fun w P1 hF hB hS hT => impl_RegCode_text.calls g1 a0_0 A0_1 c0_1 l0_1.length l0_1 A0_2 c0_2 l0_2.length l0_2 A0_3 c0_3 l0_3.length l0_3 hB hF (hS _ R0_1) hc0_1 (hS _ R0_2) hc0_2 (hS _ R0_3) hc0_3 (hT 0 _ rfl).box _ hx6)) (fun _ => ?_)
    refine o_q rfl rfl (q_asg rfl) ?_
    refine o_q rfl rfl (q_asg rfl) ?_
    refine o_end ?_
    refine za1 ?_
    refine c_ret ?_
    have e0_ := Option.some.inj h; clear h
    have d0_ := (Prod.mk.inj e0_).1; have e1_ := (Prod.mk.inj e0_).2; clear e0_; subst d0_
    subst e1_
    exact x_r2 () Tryd.results14 (zad rfl) (zad rfl) rfl (fun w h => za7 [] (by decide) rfl w h)

/-! ### loop.example/g01098/laws.eqIntS: function 29 -/
def laws_eqIntS.l0 (l0 : List Int) (l1 : List Int) : Nat → Int → Option ((Bool) ⊕ (Unit))
  | 0, _ => none
  | k5 + 1, i2 => if i2 < (l0.length : Int) then ((gt l0 i2).bind fun y16 => (gt l1 i2).bind fun y19 => if y16 ≠ y19 then (some (.inl false)) else (laws_eqIntS.l0 l0 l1 k5 (w64 (i2 + 1)))) else (some (.inr ()))
def laws_eqIntS.f (k : Nat) (l0 : List Int) (l1 : List Int) : Option Bool := if (l0.length : Int) ≠ (l1.length : Int) then (some false) else ((laws_eqIntS.l0 l0 l1 k 0).bind fun o_ => match o_ with | .inl r_ => some r_ | .inr _ => some true)
set_option maxHeartbeats 600000 in
set_option maxRecDepth 100000 in
theorem laws_eqIntS.calls (k : Nat) {w0 ws : World} {P0 : Nat → Prop} (A0 : Option Addr) (c0 : Nat) (n0 : Nat) (l0 : List Int) (A1 : Option Addr) (c1 : Nat) (n1 : Nat) (l1 : List Int) (Z : Below w0.heap.size w0 ws) (hF : Fr w0 ws P0 [] ws) (R0 : Stable ws P0 (fun w => Kd.C (Kd.int .i64) w A0 n0 l0)) (hc0 : n0 ≤ c0) (R1 : Stable ws P0 (fun w => Kd.C (Kd.int .i64) w A1 n1 l1)) (hc1 : n1 ≤ c1) (r_1 : Bool) (h : laws_eqIntS.f k l0 l1 = some r_1) :
    Calls Tryd.prog 29 #[.slice A0 n0 c0, .slice A1 n1 c1] ws (Post1 w0 ws P0 (fun (_ : Unit) => .bool r_1) (fun (_ : Unit) => [])) := by
  unfold laws_eqIntS.f at h
  obtain rfl := (R0 ws (KeptB.refl _ _)).1
  obtain rfl := (R1 ws (KeptB.refl _ _)).1
  refine enter Tryd.func29 rfl Tryd.ntmps29 rfl hF ?_
  refine c_seq ?_
  refine za0 ?_
  refine o_q rfl rfl (q_asg rfl) ?_
  refine o_end ?_
  refine za1 ?_
  refine c_seq ?_
  refine c_seq ?_
  refine za0 ?_
  refine o_q rfl rfl (za3 rfl) ?_
  refine o_q rfl rfl (q_len Tryd.underlying23 rfl) ?_
  refine o_q rfl rfl (za3 rfl) ?_
  refine o_q rfl rfl (q_len Tryd.underlying23 rfl) ?_
  refine o_q rfl rfl (q_neq rfl rfl) ?_
  refine o_end ?_
  refine za1 ?_
  refine zaq _ rfl (fun hb1 => ?_) (fun hb1 => ?_)
  · skip
    replace h := br_t hb1 h
    refine c_seq ?_
    refine za0 ?_
    refine o_q rfl rfl (q_asg rfl) ?_
    refine o_end ?_
    refine za1 ?_
    refine c_ret ?_
    refine za5 ?_
    have e0_ := Option.some.inj h; clear h
    subst e0_
    exact x_r1 () Tryd.results29 (zad rfl) rfl (fun w h => za7 [] (by decide) rfl w h)
  · skip
    replace h := br_f hb1 h
    refine zal ?_
    refine za1 ?_
    refine c_seq ?_
    refine c_seq ?_
    refine za0 ?_
    refine o_q rfl rfl (q_asg rfl) ?_
    refine o_end ?_
    refine za1 ?_
    refine zak ?_
    refine za6 h (fun o10 hl9 hR8 => ?_) rfl
    clear h
    refine c_loopL (σ := Int) (fun k5 (i2 : Int) => laws_eqIntS.l0 l0 l1 k5 i2 = some o10) [4, 5, 11, 12, 13, 14, 15, 16, 17, 18, 19, 20, 21, 22, 23, 24, 25] (fun (i2 : Int) => [(5, .int .i64 i2)]) (fun (i2 : Int) => []) k 0 hl9 ⟨rfl, trivial⟩ (fun w h => h) ?_
    refine natC (fun i2 => fun U11 hJ_ => ?_) (fun k5 => (fun i2 => fun U11 hJ_ => ?_))
    · skip
      replace hJ_ : laws_eqIntS.l0 l0 l1 0 i2 = some o10 := hJ_
      rw [laws_eqIntS.l0] at hJ_
      exact noneE hJ_
    · skip
      clear hl9
      have h := hJ_; clear hJ_
      replace h : laws_eqIntS.l0 l0 l1 (k5 + 1) i2 = some o10 := h
      rw [laws_eqIntS.l0] at h
      refine c_seq ?_
      refine c_seq ?_
      refine za0 ?_
      refine o_q rfl rfl (za3 rfl) ?_
      refine o_q rfl rfl (za3 rfl) ?_
      refine o_q rfl rfl (q_len Tryd.underlying23 rfl) ?_
      refine o_q rfl rfl (q_lss rfl rfl) ?_
      refine o_end ?_
      refine za1 ?_
      refine zaq _ rfl (fun hb13 => ?_) (fun hb13 => ?_)
      · skip
        replace h := br_t hb13 h
        refine zal ?_
        refine za1 ?_
        refine c_seq ?_
        refine zak ?_
        refine c_seq ?_
        refine a_start (ds := []) MO rfl ?_
        refine zab 0 rfl rfl rfl (by kernel_rfl) (fun _ _ _ h => h) (za3 rfl) ?_
        refine zab 1 rfl rfl rfl (by kernel_rfl) (fun _ _ _ h => h) (za3 rfl) ?_
        refine a_fact (p := Sh A0 l0.length l0.length) (fun w h => f_sh (dk := (Kd.int .i64)) h (fun w h => R0.now Z h)) (fun hq14 => ?_)
        refine za6 h (fun y16 hg15 h => ?_) rfl
        refine zab 2 rfl rfl rfl (by kernel_rfl) (fun _ _ _ h => h) (q_ix Tryd.underlying23 Z3 rfl rfl hq14 hg15) ?_
        refine a_take 3 rfl rfl rfl (by kernel_rfl) (fun _ _ _ h => h) (fun w h => h) (q_lde (off := 0) Y3 rfl rfl (fun w h => R0.now Z h) hg15 (fun _ _ h => h) rfl) ?_
        refine zab 4 rfl rfl rfl (by kernel_rfl) (fun _ _ _ h => h) (za3 rfl) ?_
        refine zab 5 rfl rfl rfl (by kernel_rfl) (fun _ _ _ h => h) (za3 rfl) ?_
        refine a_fact (p := Sh A1 l1.length l1.length) (fun w h => f_sh (dk := (Kd.int .i64)) h (fun w h => R1.now Z h)) (fun hq17 => ?_)
        refine za6 h (fun y19 hg18 h => ?_) rfl
        refine zab 6 rfl rfl rfl (by kernel_rfl) (fun _ _ _ h => h) (q_ix Tryd.underlying23 Z3 rfl rfl hq17 hg18) ?_
        refine a_take 7 rfl rfl rfl (by kernel_rfl) (fun _ _ _ h => h) (fun w h => h) (q_lde (off := 0) Y3 rfl rfl (fun w h => R1.now Z h) hg18 (fun _ _ h => h) rfl) ?_
        refine zab 8 rfl rfl rfl (by kernel_rfl) (fun _ _ _ h => h) (q_neq rfl rfl) ?_
        refine a_done (by kernel_rfl) ?_
        refine za1 ?_
        refine zaq _ rfl (fun hb20 => ?_) (fun hb20 => ?_)
        · skip
          replace h := br_t hb20 h
          refine c_seq ?_
          refine za0 ?_
          refine o_q rfl rfl (q_asg rfl) ?_
          refine o_end ?_
          refine za1 ?_
          refine c_ret ?_
          refine zah ?_
          refine za5 ?_
          refine za5 ?_
          have e_ := Option.some.inj h; replace h := hR8; rw [← e_] at h; clear e_
          refine zah ?_
          refine za5 ?_
          have e0_ := Option.some.inj h; clear h
          subst e0_
          exact x_r1 () Tryd.results29 (zad rfl) rfl (fun w h => za7 [] (by decide) rfl w h)
        · skip
          replace h := br_f hb20 h
          refine zal ?_
          refine x_block ?_
          refine za1 ?_
          refine za0 ?_
          refine o_q rfl rfl (za3 rfl) ?_
          refine o_q rfl rfl (q_add64 rfl rfl) ?_
          refine o_q rfl rfl (q_asg rfl) ?_
          refine o_end ?_
          refine zar k5 (w64 (i2 + 1)) (Nat.lt_succ_self _) h ⟨rfl, trivial⟩ (fun w h => za7 [] (by decide) rfl w h) ?_
          repeat (first | exact zae _ _ | refine zai rfl ?_ | refine zaf rfl ?_ | refine zaj rfl ?_)
      · skip
        replace h := br_f hb13 h
        refine c_exit ?_
        refine za8 ?_
        refine za8 ?_
        have e_ := Option.some.inj h; replace h := hR8; rw [← e_] at h; clear e_
        refine x_hit ?_
        refine za1 ?_
        refine c_seq ?_
        refine za0 ?_
        refine o_q rfl rfl (q_asg rfl) ?_
        refine o_end ?_
        refine za1 ?_
        refine c_ret ?_
        have e0_ := Option.some.inj h; clear h
        subst e0_
        exact x_r1 () Tryd.results29 (zad rfl) rfl (fun w h => za7 [] (by decide) rfl w h)

/-! ### loop.example/g01098/laws.eqRegOp: function 70 -/
def laws_eqRegOp.f (a0 : SRegOp) (a1 : SRegOp) : Option Bool := if a0.f0 ≠ a1.f0 then (some false) else (if a0.f1 ≠ a1.f1 then (some false) else (if a0.f2 ≠ a1.f2 then (some false) else (some true)))
set_option maxHeartbeats 600000 in
set_option maxRecDepth 100000 in
theorem laws_eqRegOp.calls {w0 ws : World} {P0 : Nat → Prop} (a0 : SRegOp) (a1 : SRegOp) (Z : Below w0.heap.size w0 ws) (hF : Fr w0 ws P0 [] ws)  (r_1 : Bool) (h : laws_eqRegOp.f a0 a1 = some r_1) :
    Calls Tryd.prog 70 #[.agg #[.int .i64 a0.f0, .int .i64 a0.f1, .int .i64 a0.f2], .agg #[.int .i64 a1.f0, .int .i64 a1.f1, .int .i64 a1.f2]] ws (Post1 w0 ws P0 (fun (_ : Unit) => .bool r_1) (fun (_ : Unit) => [])) := by
  unfold laws_eqRegOp.f at h
  refine enter Tryd.func70 rfl Tryd.ntmps70 rfl hF ?_
  refine c_seq ?_
  refine za0 ?_
  refine o_e rfl (e_box rfl) (fun g1 => ?_)
  refine o_e rfl (e_box rfl) (fun g3 => ?_)
  refine o_q rfl rfl (q_asg rfl) ?_
  refine o_end ?_
  refine za1 ?_
  refine c_seq ?_
  refine c_seq ?_
  refine za0 ?_
  refine o_q rfl rfl (q_f F95_0 rfl) ?_
  refine o_q rfl rfl (q_ldb Y3 rfl (fun w h => h.zaa (i := 1) rfl) rfl) ?_
  refine o_q rfl rfl (q_f F95_0 rfl) ?_
  refine o_q rfl rfl (q_ldb Y3 rfl (fun w h => h.zaa (i := 0) rfl) rfl) ?_
  refine o_q rfl rfl (q_neq rfl rfl) ?_
  refine o_end ?_
  refine za1 ?_
  refine zaq _ rfl (fun hb5 => ?_) (fun hb5 => ?_)
  · skip
    replace h := br_t hb5 h
    refine c_seq ?_
    refine za0 ?_
    refine o_q rfl rfl (q_asg rfl) ?_
    refine o_end ?_
    refine za1 ?_
    refine c_ret ?_
    refine za5 ?_
    have e0_ := Option.some.inj h; clear h
    subst e0_
    exact x_r1 () Tryd.results70 (zad rfl) rfl (fun w h => za7 [] (by decide) rfl w h)
  · skip
    replace h := br_f hb5 h
    refine zal ?_
    refine za1 ?_
    refine c_seq ?_
    refine c_seq ?_
    refine za0 ?_
    refine o_q rfl rfl (q_f F95_1 rfl) ?_
    refine o_q rfl rfl (q_ldb Y3 rfl (fun w h => h.zaa (i := 1) rfl) rfl) ?_
    refine o_q rfl rfl (q_f F95_1 rfl) ?_
    refine o_q rfl rfl (q_ldb Y3 rfl (fun w h => h.zaa (i := 0) rfl) rfl) ?_
    refine o_q rfl rfl (q_neq rfl rfl) ?_
    refine o_end ?_
    refine za1 ?_
    refine zaq _ rfl (fun hb6 => ?_) (fun hb6 => ?_)
    · skip
      replace h := br_t hb6 h
      refine c_seq ?_
      refine za0 ?_
      refine o_q rfl rfl (q_asg rfl) ?_
      refine o_end ?_
      refine za1 ?_
      refine c_ret ?_
      refine za5 ?_
      have e0_ := Option.some.inj h; clear h
      subst e0_
      exact x_r1 () Tryd.results70 (zad rfl) rfl (fun w h => za7 [] (by decide) rfl w h)
    · skip
      replace h := br_f hb6 h
      refine zal ?_
      refine za1 ?_
      refine c_seq ?_
      refine c_seq ?_
      refine za0 ?_
      refine o_q rfl rfl (q_f F95_2 rfl) ?_
      refine o_q rfl rfl (q_ldb Y3 rfl (fun w h => h.zaa (i := 1) rfl) rfl) ?_
      refine o_q rfl rfl (q_f F95_2 rfl) ?_
      refine o_q rfl rfl (q_ldb Y3 rfl (fun w h => h.zaa (i := 0) rfl) rfl) ?_
      refine o_q rfl rfl (q_neq rfl rfl) ?_
      refine o_end ?_
      refine za1 ?_
      refine zaq _ rfl (fun hb7 => ?_) (fun hb7 => ?_)
      · skip
        replace h := br_t hb7 h
        refine c_seq ?_
        refine za0 ?_
        refine o_q rfl rfl (q_asg rfl) ?_
        refine o_end ?_
        refine za1 ?_
        refine c_ret ?_
        refine za5 ?_
        have e0_ := Option.some.inj h; clear h
        subst e0_
        exact x_r1 () Tryd.results70 (zad rfl) rfl (fun w h => za7 [] (by decide) rfl w h)
      · skip
        replace h := br_f hb7 h
        refine zal ?_
        refine za1 ?_
        refine c_seq ?_
        refine za0 ?_
        refine o_q rfl rfl (q_asg rfl) ?_
        refine o_end ?_
        refine za1 ?_
        refine c_ret ?_
        have e0_ := Option.some.inj h; clear h
        subst e0_
        exact x_r1 () Tryd.results70 (zad rfl) rfl (fun w h => za7 [] (by decide) rfl w h)

/-! ### loop.example/g01098/laws.eqRegOpS: function 36 -/
def laws_eqRegOpS.l0 (l0 : List SRegOp) (l1 : List SRegOp) : Nat → Int → Option ((Bool) ⊕ (Unit))
  | 0, _ => none
  | k5 + 1, i2 => if i2 < (l0.length : Int) then ((gt l0 i2).bind fun y16 => (gt l1 i2).bind fun y19 => (laws_eqRegOp.f y16 y19).bind fun b21 => if b21 = true then (laws_eqRegOpS.l0 l0 l1 k5 (w64 (i2 + 1))) else (some (.inl false))) else (some (.inr ()))
def laws_eqRegOpS.f (k : Nat) (l0 : List SRegOp) (l1 : List SRegOp) : Option Bool := if (l0.length : Int) ≠ (l1.length : Int) then (some false) else ((laws_eqRegOpS.l0 l0 l1 k 0).bind fun o_ => match o_ with | .inl r_ => some r_ | .inr _ => some true)
set_option maxHeartbeats 600000 in
set_option maxRecDepth 100000 in
theorem laws_eqRegOpS.calls (k : Nat) {w0 ws : World} {P0 : Nat → Prop} (A0 : Option Addr) (c0 : Nat) (n0 : Nat) (l0 : List SRegOp) (A1 : Option Addr) (c1 : Nat) (n1 : Nat) (l1 : List SRegOp) (Z : Below w0.heap.size w0 ws) (hF : Fr w0 ws P0 [] ws) (R0 : Stable ws P0 (fun w => Kd.C kRegOp w A0 n0 l0)) (hc0 : n0 ≤ c0) (R1 : Stable ws P0 (fun w => Kd.C kRegOp w A1 n1 l1)) (hc1 : n1 ≤ c1) (r_1 : Bool) (h : laws_eqRegOpS.f k l0 l1 = some r_1) :
    Calls Tryd.prog 36 #[.slice A0 n0 c0, .slice A1 n1 c1] ws (Post1 w0 ws P0 (fun (_ : Unit) => .bool r_1) (fun (_ : Unit) => [])) := by
  unfold laws_eqRegOpS.f at h
  obtain rfl := (R0 ws (KeptB.refl _ _)).1
  obtain rfl := (R1 ws (KeptB.refl _ _)).1
  refine enter Tryd.func36 rfl Tryd.ntmps36 rfl hF ?_
  refine c_seq ?_
  refine za0 ?_
  refine o_q rfl rfl (q_asg rfl) ?_
  refine o_end ?_
  refine za1 ?_
  refine c_seq ?_
  refine c_seq ?_
  refine za0 ?_
  refine o_q rfl rfl (za3 rfl) ?_
  refine o_q rfl rfl (q_len Tryd.underlying40 rfl) ?_
  refine o_q rfl rfl (za3 rfl) ?_
  refine o_q rfl rfl (q_len Tryd.underlying40 rfl) ?_
  refine o_q rfl rfl (q_neq rfl rfl) ?_
  refine o_end ?_
  refine za1 ?_
  refine zaq _ rfl (fun hb1 => ?_) (fun hb1 => ?_)
  · skip
    replace h := br_t hb1 h
    refine c_seq ?_
    refine za0 ?_
    refine o_q rfl rfl (q_asg rfl) ?_
    refine o_end ?_
    refine za1 ?_
    refine c_ret ?_
    refine za5 ?_
    have e0_ := Option.some.inj h; clear h
    subst e0_
    exact x_r1 () Tryd.results36 (zad rfl) rfl (fun w h => za7 [] (by decide) rfl w h)
  · skip
    replace h := br_f hb1 h
    refine zal ?_
    refine za1 ?_
    refine c_seq ?_
    refine c_seq ?_
    refine za0 ?_
    refine o_q rfl rfl (q_asg rfl) ?_
    refine o_end ?_
    refine za1 ?_
    refine zak ?_
    refine za6 h (fun o10 hl9 hR8 => ?_) rfl
    clear h
    refine c_loopL (σ := Int) (fun k5 (i2 : Int) => laws_eqRegOpS.l0 l0 l1 k5 i2 = some o10) [4, 5, 11, 12, 13, 14, 15, 16, 17, 18, 19, 20, 21, 22, 23, 24, 25, 26] (fun (i2 : Int) => [(5, .int .i64 i2)]) (fun (i2 : Int) => []) k 0 hl9 ⟨rfl, trivial⟩ (fun w h => h) ?_
    refine natC (fun i2 => fun U11 hJ_ => ?_) (fun k5 => (fun i2 => fun U11 hJ_ => ?_))
    · skip
      replace hJ_ : laws_eqRegOpS.l0 l0 l1 0 i2 = some o10 := hJ_
      rw [laws_eqRegOpS.l0] at hJ_
      exact noneE hJ_
    · skip
      clear hl9
      have h := hJ_; clear hJ_
      replace h : laws_eqRegOpS.l0 l0 l1 (k5 + 1) i2 = some o10 := h
      rw [laws_eqRegOpS.l0] at h
      refine c_seq ?_
      refine c_seq ?_
      refine za0 ?_
      refine o_q rfl rfl (za3 rfl) ?_
      refine o_q rfl rfl (za3 rfl) ?_
      refine o_q rfl rfl (q_len Tryd.underlying40 rfl) ?_
      refine o_q rfl rfl (q_lss rfl rfl) ?_
      refine o_end ?_
      refine za1 ?_
      refine zaq _ rfl (fun hb13 => ?_) (fun hb13 => ?_)
      · skip
        replace h := br_t hb13 h
        refine zal ?_
        refine za1 ?_
        refine c_seq ?_
        refine zak ?_
        refine c_seq ?_
        refine a_start (ds := []) MO rfl ?_
        refine zab 0 rfl rfl rfl (by kernel_rfl) (fun _ _ _ h => h) (za3 rfl) ?_
        refine zab 1 rfl rfl rfl (by kernel_rfl) (fun _ _ _ h => h) (za3 rfl) ?_
        refine a_fact (p := Sh A0 l0.length l0.length) (fun w h => f_sh (dk := kRegOp) h (fun w h => R0.now Z h)) (fun hq14 => ?_)
        refine za6 h (fun y16 hg15 h => ?_) rfl
        refine zab 2 rfl rfl rfl (by kernel_rfl) (fun _ _ _ h => h) (q_ix Tryd.underlying40 Z95 rfl rfl hq14 hg15) ?_
        refine a_take 3 rfl rfl rfl (by kernel_rfl) (fun _ _ _ h => h) (fun w h => h) (q_ldE G95 Z95 rfl rfl (fun w h => R0.now Z h) hg15 (fun _ _ h => h) rfl) ?_
        refine zab 4 rfl rfl rfl (by kernel_rfl) (fun _ _ _ h => h) (za3 rfl) ?_
        refine zab 5 rfl rfl rfl (by kernel_rfl) (fun _ _ _ h => h) (za3 rfl) ?_
        refine a_fact (p := Sh A1 l1.length l1.length) (fun w h => f_sh (dk := kRegOp) h (fun w h => R1.now Z h)) (fun hq17 => ?_)
        refine za6 h (fun y19 hg18 h => ?_) rfl
        refine zab 6 rfl rfl rfl (by kernel_rfl) (fun _ _ _ h => h) (q_ix Tryd.underlying40 Z95 rfl rfl hq17 hg18) ?_
        refine a_take 7 rfl rfl rfl (by kernel_rfl) (fun _ _ _ h => h) (fun w h => h) (q_ldE G95 Z95 rfl rfl (fun w h => R1.now Z h) hg18 (fun _ _ h => h) rfl) ?_
        refine za6 h (fun b21 hx20 h => ?_) rfl
        refine a_one 8 rfl rfl (by kernel_rfl) rfl (zac 0 Z Tryd.func70 N70 rfl rfl rfl (fun w P1 hF hB hS hT => laws_eqRegOp.calls y16 y19 hB hF _ hx20)) (fun s w h => h) (fun _ => ?_)
        refine zab 9 rfl rfl rfl (by kernel_rfl) (fun _ _ _ h => h) (q_not rfl) ?_
        refine a_done (by kernel_rfl) ?_
        refine za1 ?_
        refine zaq _ rfl (fun hb22 => ?_) (fun hb22 => ?_)
        · replace hb22 := nt_t hb22
          replace h := bb_f hb22 h
          refine c_seq ?_
          refine za0 ?_
          refine o_q rfl rfl (q_asg rfl) ?_
          refine o_end ?_
          refine za1 ?_
          refine c_ret ?_
          refine zah ?_
          refine za5 ?_
          refine za5 ?_
          have e_ := Option.some.inj h; replace h := hR8; rw [← e_] at h; clear e_
          refine zah ?_
          refine za5 ?_
          have e0_ := Option.some.inj h; clear h
          subst e0_
          exact x_r1 () Tryd.results36 (zad rfl) rfl (fun w h => za7 [] (by decide) rfl w h)
        · replace hb22 := nt_f hb22
          replace h := bb_t hb22 h
          refine zal ?_
          refine x_block ?_
          refine za1 ?_
          refine za0 ?_
          refine o_q rfl rfl (za3 rfl) ?_
          refine o_q rfl rfl (q_add64 rfl rfl) ?_
          refine o_q rfl rfl (q_asg rfl) ?_
          refine o_end ?_
          refine zar k5 (w64 (i2 + 1)) (Nat.lt_succ_self _) h ⟨rfl, trivial⟩ (fun w h => za7 [] (by decide) rfl w h) ?_
          repeat (first | exact zae _ _ | refine zai rfl ?_ | refine zaf rfl ?_ | refine zaj rfl ?_)
      · skip
        replace h := br_f hb13 h
        refine c_exit ?_
        refine za8 ?_
        refine za8 ?_
        have e_ := Option.some.inj h; replace h := hR8; rw [← e_] at h; clear e_
        refine x_hit ?_
        refine za1 ?_
        refine c_seq ?_
        refine za0 ?_
        refine o_q rfl rfl (q_asg rfl) ?_
        refine o_end ?_
        refine za1 ?_
        refine c_ret ?_
        have e0_ := Option.some.inj h; clear h
        subst e0_
        exact x_r1 () Tryd.results36 (zad rfl) rfl (fun w h => za7 [] (by decide) rfl w h)

/-! ### loop.example/g01098/laws.eqRegCode: function 15 -/
def laws_eqRegCode.f (k : Nat) (a0_0 : Int) (l0_1 : List Int) (l0_2 : List SRegOp) (l0_3 : List Int) (a1_0 : Int) (l1_1 : List Int) (l1_2 : List SRegOp) (l1_3 : List Int) : Option Bool := if a0_0 ≠ a1_0 then (some false) else ((laws_eqIntS.f k l0_1 l1_1).bind fun b7 => if b7 = true then ((laws_eqRegOpS.f k l0_2 l1_2).bind fun b10 => if b10 = true then ((laws_eqIntS.f k l0_3 l1_3).bind fun b13 => if b13 = true then (some true) else (some false)) else (some false)) else (some false))
set_option maxHeartbeats 600000 in
set_option maxRecDepth 100000 in
theorem laws_eqRegCode.calls (k : Nat) {w0 ws : World} {P0 : Nat → Prop} (a0_0 : Int) (A0_1 : Option Addr) (c0_1 : Nat) (n0_1 : Nat) (l0_1 : List Int) (A0_2 : Option Addr) (c0_2 : Nat) (n0_2 : Nat) (l0_2 : List SRegOp) (A0_3 : Option Addr) (c0_3 : Nat) (n0_3 : Nat) (l0_3 : List Int) (a1_0 : Int) (A1_1 : Option Addr) (c1_1 : Nat) (n1_1 : Nat) (l1_1 : List Int) (A1_2 : Option Addr) (c1_2 : Nat) (n1_2 : Nat) (l1_2 : List SRegOp) (A1_3 : Option Addr) (c1_3 : Nat) (n1_3 : Nat) (l1_3 : List Int) (Z : Below w0.heap.size w0 ws) (hF : Fr w0 ws P0 [] ws) (R0_1 : Stable ws P0 (fun w => Kd.C (Kd.int .i64) w A0_1 n0_1 l0_1)) (hc0_1 : n0_1 ≤ c0_1) (R0_2 : Stable ws P0 (fun w => Kd.C kRegOp w A0_2 n0_2 l0_2)) (hc0_2 : n0_2 ≤ c0_2) (R0_3 : Stable ws P0 (fun w => Kd.C (Kd.int .i64) w A0_3 n0_3 l0_3)) (hc0_3 : n0_3 ≤ c0_3) (R1_1 : Stable ws P0 (fun w => Kd.C (Kd.int .i64) w A1_1 n1_1 l1_1)) (hc1_1 : n1_1 ≤ c1_1) (R1_2 : Stable ws P0 (fun w => Kd.C kRegOp w A1_2 n1_2 l1_2)) (hc1_2 : n1_2 ≤ c1_2) (R1_3 : Stable ws P0 (fun w => Kd.C (Kd.int .i64) w A1_3 n1_3 l1_3)) (hc1_3 : n1_3 ≤ c1_3) (r_1 : Bool) (h : laws_eqRegCode.f k a0_0 l0_1 l0_2 l0_3 a1_0 l1_1 l1_2 l1_3 = some r_1) :
    Calls Tryd.prog 15 #[.agg #[.int .i64 a0_0, .slice A0_1 n0_1 c0_1, .slice A0_2 n0_2 c0_2, .slice A0_3 n0_3 c0_3], .agg #[.int .i64 a1_0, .slice A1_1 n1_1 c1_1, .slice A1_2 n1_2 c1_2, .slice A1_3 n1_3 c1_3]] ws (Post1 w0 ws P0 (fun (_ : Unit) => .bool r_1) (fun (_ : Unit) => [])) := by
  unfold laws_eqRegCode.f at h
  obtain rfl := (R0_1 ws (KeptB.refl _ _)).1
  obtain rfl := (R0_2 ws (KeptB.refl _ _)).1
  obtain rfl := (R0_3 ws (KeptB.refl _ _)).1
  obtain rfl := (R1_1 ws (KeptB.refl _ _)).1
  obtain rfl := (R1_2 ws (KeptB.refl _ _)).1
  obtain rfl := (R1_3 ws (KeptB.refl _ _)).1
  refine enter Tryd.func15 rfl Tryd.ntmps15 rfl hF ?_
  refine c_seq ?_
  refine za0 ?_
  refine o_e rfl (e_box rfl) (fun g1 => ?_)
  refine o_e rfl (e_box rfl) (fun g3 => ?_)
  refine o_q rfl rfl (q_asg rfl) ?_
  refine o_end ?_
  refine za1 ?_
  refine c_seq ?_
  refine c_seq ?_
  refine za0 ?_
  refine o_q rfl rfl (q_f F42_0 rfl) ?_
  refine o_q rfl rfl (q_ldb Y3 rfl (fun w h => h.zaa (i := 1) rfl) rfl) ?_
  refine o_q rfl rfl (q_f F42_0 rfl) ?_
  refine o_q rfl rfl (q_ldb Y3 rfl (fun w h => h.zaa (i := 0) rfl) rfl) ?_
  refine o_q rfl rfl (q_neq rfl rfl) ?_
  refine o_end ?_
  refine za1 ?_
  refine zaq _ rfl (fun hb5 => ?_) (fun hb5 => ?_)
  · skip
    replace h := br_t hb5 h
    refine c_seq ?_
    refine za0 ?_
    refine o_q rfl rfl (q_asg rfl) ?_
    refine o_end ?_
    refine za1 ?_
    refine c_ret ?_
    refine za5 ?_
    have e0_ := Option.some.inj h; clear h
    subst e0_
    exact x_r1 () Tryd.results15 (zad rfl) rfl (fun w h => za7 [] (by decide) rfl w h)
  · skip
    replace h := br_f hb5 h
    refine zal ?_
    refine za1 ?_
    refine c_seq ?_
    refine c_seq ?_
    refine za0 ?_
    refine o_q rfl rfl (q_f F42_1 rfl) ?_
    refine o_q rfl rfl (q_ldb Y23 rfl (fun w h => h.zaa (i := 1) rfl) rfl) ?_
    refine o_q rfl rfl (q_f F42_1 rfl) ?_
    refine o_q rfl rfl (q_ldb Y23 rfl (fun w h => h.zaa (i := 0) rfl) rfl) ?_
    refine za6 h (fun b7 hx6 h => ?_) rfl
    refine o_e rfl (zac 0 Z Tryd.func29 N29 rfl rfl rfl (fun w P1 hF hB hS hT => laws_eqIntS.calls k A0_1 c0_1 l0_1.length l0_1 A1_1 c1_1 l1_1.length l1_1 hB hF (hS _ R0_1) hc0_1 (hS _ R1_1) hc1_1 _ hx6)) (fun _ => ?_)
    refine o_q rfl rfl (q_not rfl) ?_
    refine o_end ?_
    refine za1 ?_
    refine zaq _ rfl (fun hb8 => ?_) (fun hb8 => ?_)
    · replace hb8 := nt_t hb8
      replace h := bb_f hb8 h
      refine c_seq ?_
      refine za0 ?_
      refine o_q rfl rfl (q_asg rfl) ?_
      refine o_end ?_
      refine za1 ?_
      refine c_ret ?_
      refine za5 ?_
      have e0_ := Option.some.inj h; clear h
      subst e0_
      exact x_r1 () Tryd.results15 (zad rfl) rfl (fun w h => za7 [] (by decide) rfl w h)
    · replace hb8 := nt_f hb8
      replace h := bb_t hb8 h
      refine zal ?_
      refine za1 ?_
      refine c_seq ?_
      refine c_seq ?_
      refine za0 ?_
      refine o_q rfl rfl (q_f F42_2 rfl) ?_
      refine o_q rfl rfl (q_ldb Y40 rfl (fun w h => h.zaa (i := 1) rfl) rfl) ?_
      refine o_q rfl rfl (q_f F42_2 rfl) ?_
      refine o_q rfl rfl (q_ldb Y40 rfl (fun w h => h.zaa (i := 0) rfl) rfl) ?_
      refine za6 h (fun b10 hx9 h => ?_) rfl
      refine o_e rfl (zac 0 Z Tryd.func36 N36 rfl rfl rfl (fun w P1 hF hB hS hT => laws_eqRegOpS.calls k A0_2 c0_2 l0_2.length l0_2 A1_2 c1_2 l1_2.length l1_2 hB hF (hS _ R0_2) hc0_2 (hS _ R1_2) hc1_2 _ hx9)) (fun _ => ?_)
      refine o_q rfl rfl (q_not rfl) ?_
      refine o_end ?_
      refine za1 ?_
      refine zaq _ rfl (fun hb11 => ?_) (fun hb11 => ?_)
      · replace hb11 := nt_t hb11
        replace h := bb_f hb11 h
        refine c_seq ?_
        refine za0 ?_
        refine o_q rfl rfl (q_asg rfl) ?_
        refine o_end ?_
        refine za1 ?_
        refine c_ret ?_
        refine za5 ?_
        have e0_ := Option.some.inj h; clear h
        subst e0_
        exact x_r1 () Tryd.results15 (zad rfl) rfl (fun w h => za7 [] (by decide) rfl w h)
      · replace hb11 := nt_f hb11
        replace h := bb_t hb11 h
        refine zal ?_
        refine za1 ?_
        refine c_seq ?_
        refine c_seq ?_
        refine za0 ?_
        refine o_q rfl rfl (q_f F42_3 rfl) ?_
        refine o_q rfl rfl (q_ldb Y23 rfl (fun w h => h.zaa (i := 1) rfl) rfl) ?_
        refine o_q rfl rfl (q_f F42_3 rfl) ?_
        refine o_q rfl rfl (q_ldb Y23 rfl (fun w h => h.zaa (i := 0) rfl) rfl) ?_
        refine za6 h (fun b13 hx12 h => ?_) rfl
        refine o_e rfl (zac 0 Z Tryd.func29 N29 rfl rfl rfl (fun w P1 hF hB hS hT => laws_eqIntS.calls k A0_3 c0_3 l0_3.length l0_3 A1_3 c1_3 l1_3.length l1_3 hB hF (hS _ R0_3) hc0_3 (hS _ R1_3) hc1_3 _ hx12)) (fun _ => ?_)
        refine o_q rfl rfl (q_not rfl) ?_
        refine o_end ?_
        refine za1 ?_
        refine zaq _ rfl (fun hb14 => ?_) (fun hb14 => ?_)
        · replace hb14 := nt_t hb14
          replace h := bb_f hb14 h
          refine c_seq ?_
          refine za0 ?_
          refine o_q rfl rfl (q_asg rfl) ?_
          refine o_end ?_
          refine za1 ?_
          refine c_ret ?_
          refine za5 ?_
          have e0_ := Option.some.inj h; clear h
          subst e0_
          exact x_r1 () Tryd.results15 (zad rfl) rfl (fun w h => za7 [] (by decide) rfl w h)
        · replace hb14 := nt_f hb14
          replace h := bb_t hb14 h
          refine zal ?_
          refine za1 ?_
          refine c_seq ?_
          refine za0 ?_
          refine o_q rfl rfl (q_asg rfl) ?_
          refine o_end ?_
          refine za1 ?_
          refine c_ret ?_
          have e0_ := Option.some.inj h; clear h
          subst e0_
          exact x_r1 () Tryd.results15 (zad rfl) rfl (fun w h => za7 [] (by decide) rfl w h)

/-! ### loop.example/g01098/laws.FnExactRegCodeText: function 4 -/
def laws_FnExactRegCodeText.f (k : Nat) (a0_0 : Int) (l0_1 : List Int) (l0_2 : List SRegOp) (l0_3 : List Int) : Option Bool := (laws_szRegCode.f a0_0 l0_1 l0_2 l0_3 1048576).bind fun i4 => if i4 < 0 then (some true) else ((laws_toRegCode.f k a0_0 l0_1 l0_2 l0_3).bind fun (l7, l8, l9) => (spec_RegCodeText.f k a0_0 l7 l8 l9).bind fun (s17, b18) => (laws_toRegCode.f k a0_0 l0_1 l0_2 l0_3).bind fun (l20, l21, l22) => (impl_RegCodeText.f k a0_0 l20 l21 l22).bind fun (s32, b33) => if s32 ≠ s17 then (some false) else (if (b33 != b18) = true then (some false) else ((laws_toRegCode.f k a0_0 l0_1 l0_2 l0_3).bind fun (l37, l38, l39) => (laws_eqRegCode.f k a0_0 l20 l21 l22 a0_0 l37 l38 l39).bind fun b47 => if b47 = true then (some true) else (some false))))
set_option maxHeartbeats 600000 in
set_option maxRecDepth 100000 in
theorem laws_FnExactRegCodeText.calls (k : Nat) {w0 ws : World} {P0 : Nat → Prop} (a0_0 : Int) (A0_1 : Option Addr) (c0_1 : Nat) (n0_1 : Nat) (l0_1 : List Int) (A0_2 : Option Addr) (c0_2 : Nat) (n0_2 : Nat) (l0_2 : List SRegOp) (A0_3 : Option Addr) (c0_3 : Nat) (n0_3 : Nat) (l0_3 : List Int) (Z : Below w0.heap.size w0 ws) (hF : Fr w0 ws P0 [] ws) (R0_1 : Stable ws P0 (fun w => Kd.C (Kd.int .i64) w A0_1 n0_1 l0_1)) (hc0_1 : n0_1 ≤ c0_1) (R0_2 : Stable ws P0 (fun w => Kd.C kRegOp w A0_2 n0_2 l0_2)) (hc0_2 : n0_2 ≤ c0_2) (R0_3 : Stable ws P0 (fun w => Kd.C (Kd.int .i64) w A0_3 n0_3 l0_3)) (hc0_3 : n0_3 ≤ c0_3) (r_1 : Bool) (h : laws_FnExactRegCodeText.f k a0_0 l0_1 l0_2 l0_3 = some r_1) :
    Calls Tryd.prog 4 #[.agg #[.int .i64 a0_0, .slice A0_1 n0_1 c0_1, .slice A0_2 n0_2 c0_2, .slice A0_3 n0_3 c0_3]] ws (Post1 w0 ws P0 (fun (_ : Unit) => .bool r_1) (fun (_ : Unit) => [])) := by
  unfold laws_FnExactRegCodeText.f at h
  obtain rfl := (R0_1 ws (KeptB.refl _ _)).1
  obtain rfl := (R0_2 ws (KeptB.refl _ _)).1
  obtain rfl := (R0_3 ws (KeptB.refl _ _)).1
  refine enter Tryd.func4 rfl Tryd.ntmps4 rfl hF ?_
  refine c_seq ?_
  refine za0 ?_
  refine o_e rfl (e_box rfl) (fun g1 => ?_)
  refine o_q rfl rfl (q_asg rfl) ?_
  refine o_end ?_
  refine za1 ?_
  refine c_seq ?_
  refine za0 ?_
  refine o_q rfl rfl (q_asg rfl) ?_
  refine o_end ?_
  refine za1 ?_
  refine c_seq ?_
  refine za0 ?_
  refine o_q rfl rfl (q_ldB G37 Z37 rfl (fun w h => h.zaa (i := 0) rfl) rfl) ?_
  refine o_q rfl rfl (za3 rfl) ?_
  refine za6 h (fun i4 hx3 h => ?_) rfl
  refine o_e rfl (zac 0 Z Tryd.func11 N11 rfl rfl rfl (fun w P1 hF hB hS hT => laws_szRegCode.calls a0_0 A0_1 c0_1 l0_1.length l0_1 A0_2 c0_2 l0_2.length l0_2 A0_3 c0_3 l0_3.length l0_3 1048576 hB hF (hS _ R0_1) hc0_1 (hS _ R0_2) hc0_2 (hS _ R0_3) hc0_3 _ hx3)) (fun _ => ?_)
  refine o_q rfl rfl (q_asg rfl) ?_
  refine o_end ?_
  refine za1 ?_
  refine c_seq ?_
  refine c_seq ?_
  refine za0 ?_
  refine o_q rfl rfl (za3 rfl) ?_
  refine o_q rfl rfl (q_lss rfl rfl) ?_
  refine o_end ?_
  refine za1 ?_
  refine zaq _ rfl (fun hb5 => ?_) (fun hb5 => ?_)
  · skip
    replace h := br_t hb5 h
    refine c_seq ?_
    refine za0 ?_
    refine o_q rfl rfl (q_asg rfl) ?_
    refine o_end ?_
    refine za1 ?_
    refine c_ret ?_
    refine za5 ?_
    have e0_ := Option.some.inj h; clear h
    subst e0_
    exact x_r1 () Tryd.results4 (zad rfl) rfl (fun w h => za7 [] (by decide) rfl w h)
  · skip
    replace h := br_f hb5 h
    refine zal ?_
    refine za1 ?_
    refine c_seq ?_
    refine za0 ?_
    refine o_q rfl rfl (q_ldB G37 Z37 rfl (fun w h => h.zaa (i := 0) rfl) rfl) ?_
    refine bindE3 h (fun l7 l8 l9 hx6 h => ?_) rfl
    refine o_e rfl (zac 0 Z Tryd.func13 N13 rfl rfl rfl (fun w P1 hF hB hS hT => laws_toRegCode.calls k a0_0 A0_1 c0_1 l0_1.length l0_1 A0_2 c0_2 l0_2.length l0_2 A0_3 c0_3 l0_3.length l0_3 hB hF (hS _ R0_1) hc0_1 (hS _ R0_2) hc0_2 (hS _ R0_3) hc0_3 _ _ _ hx6)) (cur6 (fun A10 c11 A12 c13 A14 c15 => ?_))
    refine bindE2 h (fun s17 b18 hx16 h => ?_) rfl
    refine o_e rfl (zac 0 Z Tryd.func12 N12 rfl rfl rfl (fun w P1 hF hB hS hT => spec_RegCodeText.calls k a0_0 A10 c11 l7.length l7 A12 c13 l8.length l8 A14 c15 l9.length l9 hB hF (hT 0 _ rfl).row (hT 0 _ rfl).cap (hT 1 _ rfl).row (hT 1 _ rfl).cap (hT 2 _ rfl).row (hT 2 _ rfl).cap _ _ hx16)) (fun _ => ?_)
    refine o_q rfl rfl (za3 rfl) ?_
    refine o_q rfl rfl (q_ext rfl rfl) ?_
    refine o_q rfl rfl (q_ext rfl rfl) ?_
    refine o_q rfl rfl (q_asg rfl) ?_
    refine o_q rfl rfl (q_asg rfl) ?_
    refine o_end ?_
    refine za1 ?_
    refine c_seq ?_
    refine za0 ?_
    refine o_q rfl rfl (q_ldB G37 Z37 rfl (fun w h => h.zaa (i := 3) rfl) rfl) ?_
    refine bindE3 h (fun l20 l21 l22 hx19 h => ?_) rfl
    refine o_e rfl (zac 0 Z Tryd.func13 N13 rfl rfl rfl (fun w P1 hF hB hS hT => laws_toRegCode.calls k a0_0 A0_1 c0_1 l0_1.length l0_1 A0_2 c0_2 l0_2.length l0_2 A0_3 c0_3 l0_3.length l0_3 hB hF (hS _ R0_1) hc0_1 (hS _ R0_2) hc0_2 (hS _ R0_3) hc0_3 _ _ _ hx19)) (cur6 (fun A23 c24 A25 c26 A27 c28 => ?_))
    refine o_e rfl (zas V42 rfl) (fun g29 => ?_)
    refine o_e rfl (zan (i := 0) rfl rfl rfl Z42 rfl rfl) (fun _ => ?_)
    refine o_end ?_
    refine za1 ?_
    refine c_seq ?_
    refine za0 ?_
    refine o_q rfl rfl (q_ldB G42 Z42 rfl (fun w h => h.zaa (i := 0) rfl) rfl) ?_
    refine bindE2 h (fun s32 b33 hx31 h => ?_) rfl
    refine o_e rfl (zac 0 Z Tryd.func14 N14 rfl rfl rfl (fun w P1 hF hB hS hT => impl_RegCodeText.calls k a0_0 A23 c24 l20.length l20 A25 c26 l21.length l21 A27 c28 l22.length l22 hB hF (hT 1 _ rfl).row (hT 1 _ rfl).cap (hT 2 _ rfl).row (hT 2 _ rfl).cap (hT 3 _ rfl).row (hT 3 _ rfl).cap _ _ hx31)) (fun _ => ?_)
    refine o_q rfl rfl (za3 rfl) ?_
    refine o_q rfl rfl (q_ext rfl rfl) ?_
    refine o_q rfl rfl (q_ext rfl rfl) ?_
    refine o_q rfl rfl (q_asg rfl) ?_
    refine o_q rfl rfl (q_asg rfl) ?_
    refine o_end ?_
    refine za1 ?_
    refine c_seq ?_
    refine c_seq ?_
    refine za0 ?_
    refine o_q rfl rfl (za3 rfl) ?_
    refine o_q rfl rfl (za3 rfl) ?_
    refine o_q rfl rfl (q_sneq rfl rfl) ?_
    refine o_q rfl rfl (za3 rfl) ?_
    refine byB (decide (s32 ≠ s17)) (fun hb34 => ?_) (fun hb34 => ?_)
    · replace h := br_t hb34 h
      refine @o_n _ _ _ _ _ _ _ _ _ _ _ 31 (za2 rfl rfl rfl (congrArg Value.bool hb34) rfl) (Eq.refl (some 31)) ?_
      refine @o_n _ _ _ _ _ _ _ _ _ _ _ 32 (za2 rfl rfl rfl (congrArg Value.bool hb34) rfl) (Eq.refl (some 32)) ?_
      refine @o_n _ _ _ _ _ _ _ _ _ _ _ 33 (za2 rfl rfl rfl (congrArg Value.bool hb34) rfl) (Eq.refl (some 33)) ?_
      refine o_q rfl rfl (zao true (congrArg Value.bool hb34) rfl) ?_
      refine o_end ?_
      refine za1 ?_
      refine c_true rfl ?_
      refine c_seq ?_
      refine za0 ?_
      refine o_q rfl rfl (q_asg rfl) ?_
      refine o_end ?_
      refine za1 ?_
      refine c_ret ?_
      refine za5 ?_
      have e0_ := Option.some.inj h; clear h
      subst e0_
      exact x_r1 () Tryd.results4 (zad rfl) rfl (fun w h => za7 [] (by decide) rfl w h)
    · replace h := br_f hb34 h
      refine o_w (za4 rfl rfl rfl (congrArg Value.bool hb34)) rfl (za3 rfl) ?_
      refine o_w (za4 rfl rfl rfl (congrArg Value.bool hb34)) rfl (za3 rfl) ?_
      refine o_w (za4 rfl rfl rfl (congrArg Value.bool hb34)) rfl (q_bneq Tryd.underlying4 rfl rfl) ?_
      refine o_q rfl rfl (zao false (congrArg Value.bool hb34) rfl) ?_
      refine o_end ?_
      refine za1 ?_
      refine zaq _ rfl (fun hb35 => ?_) (fun hb35 => ?_)
      · skip
        replace h := bb_t hb35 h
        refine c_seq ?_
        refine za0 ?_
        refine o_q rfl rfl (q_asg rfl) ?_
        refine o_end ?_
        refine za1 ?_
        refine c_ret ?_
        refine za5 ?_
        have e0_ := Option.some.inj h; clear h
        subst e0_
        exact x_r1 () Tryd.results4 (zad rfl) rfl (fun w h => za7 [] (by decide) rfl w h)
      · skip
        replace h := bb_f hb35 h
        refine zal ?_
        refine za1 ?_
        refine c_seq ?_
        refine c_seq ?_
        refine a_start (ds := []) MO rfl ?_
        refine a_take 0 rfl rfl rfl (by kernel_rfl) (fun _ _ _ h => h) (fun w h => h) (q_ldB G42 Z42 rfl (fun w h => h.zaa (i := 0) rfl) rfl) ?_
        refine a_take 1 rfl rfl rfl (by kernel_rfl) (fun _ _ _ h => h) (fun w h => h) (q_ldB G37 Z37 rfl (fun w h => h.zaa (i := 7) rfl) rfl) ?_
        refine bindE3 h (fun l37 l38 l39 hx36 h => ?_) rfl
        refine a_one 2 rfl rfl (by kernel_rfl) rfl (zac 0 Z Tryd.func13 N13 rfl rfl rfl (fun w P1 hF hB hS hT => laws_toRegCode.calls k a0_0 A0_1 c0_1 l0_1.length l0_1 A0_2 c0_2 l0_2.length l0_2 A0_3 c0_3 l0_3.length l0_3 hB hF (hS _ R0_1) hc0_1 (hS _ R0_2) hc0_2 (hS _ R0_3) hc0_3 _ _ _ hx36)) (fun s w h => za9 [some 3, some 4, some 5, some 6, some 7, some 8, some 9, some 10] (by decide) w h rfl) (cur6 (fun A40 c41 A42 c43 A44 c45 => ?_))
        refine za6 h (fun b47 hx46 h => ?_) rfl
        refine a_one 3 rfl rfl (by kernel_rfl) rfl (zac 0 Z Tryd.func15 N15 rfl rfl rfl (fun w P1 hF hB hS hT => laws_eqRegCode.calls k a0_0 A23 c24 l20.length l20 A25 c26 l21.length l21 A27 c28 l22.length l22 a0_0 A40 c41 l37.length l37 A42 c43 l38.length l38 A44 c45 l39.length l39 hB hF (hT 4 _ rfl).row (hT 4 _ rfl).cap (hT 5 _ rfl).row (hT 5 _ rfl).cap (hT 6 _ rfl).row (hT 6 _ rfl).cap (hT 0 _ rfl).row (hT 0 _ rfl).cap (hT 1 _ rfl).row (hT 1 _ rfl).cap (hT 2 _ rfl).row (hT 2 _ rfl).cap _ hx46)) (fun s w h => za9 [some 3, some 4, some 5, some 6, some 7, some 8, some 9, some 10] (by decide) w h rfl) (fun _ => ?_)
        refine zab 4 rfl rfl rfl (by kernel_rfl) (fun _ _ _ h => h) (q_not rfl) ?_
        refine a_done (by kernel_rfl) ?_
        refine za1 ?_
        refine zaq _ rfl (fun hb48 => ?_) (fun hb48 => ?_)
        · replace hb48 := nt_t hb48
          replace h := bb_f hb48 h
          refine c_seq ?_
          refine za0 ?_
          refine o_q rfl rfl (q_asg rfl) ?_
          refine o_end ?_
          refine za1 ?_
          refine c_ret ?_
          refine za5 ?_
          have e0_ := Option.some.inj h; clear h
          subst e0_
          exact x_r1 () Tryd.results4 (zad rfl) rfl (fun w h => za7 [] (by decide) rfl w h)
        · replace hb48 := nt_f hb48
          replace h := bb_t hb48 h
          refine zal ?_
          refine za1 ?_
          refine c_seq ?_
          refine za0 ?_
          refine o_q rfl rfl (q_asg rfl) ?_
          refine o_end ?_
          refine za1 ?_
          refine c_ret ?_
          have e0_ := Option.some.inj h; clear h
          subst e0_
          exact x_r1 () Tryd.results4 (zad rfl) rfl (fun w h => za7 [] (by decide) rfl w h)

/-- THE ONE PURE STATEMENT of laws_FnExactRegCodeText. -/
def laws_FnExactRegCodeText.Pure : Prop := ∀ (a0_0 : Int) (l0_1 : List Int) (l0_2 : List SRegOp) (l0_3 : List Int), (Lit.int .i64 a0_0).wf = true → l0_1.length ≤ maxLen → (∀ y ∈ l0_1, (Lit.int .i64 y).wf = true) → l0_2.length ≤ maxLen → (∀ y ∈ l0_2, (Lit.int .i64 y.f0).wf = true ∧ (Lit.int .i64 y.f1).wf = true ∧ (Lit.int .i64 y.f2).wf = true) → l0_3.length ≤ maxLen → (∀ y ∈ l0_3, (Lit.int .i64 y).wf = true) → ∃ k, laws_FnExactRegCodeText.f k a0_0 l0_1 l0_2 l0_3 = some true
theorem laws_FnExactRegCodeText.walk (P : laws_FnExactRegCodeText.Pure) (a0_0 : Int) (A0_1 : Option Addr) (c0_1 : Nat) (l0_1 : List Int) (A0_2 : Option Addr) (c0_2 : Nat) (l0_2 : List SRegOp) (A0_3 : Option Addr) (c0_3 : Nat) (l0_3 : List Int) (w : World) (hr0_1 : Kd.C (Kd.int .i64) w A0_1 l0_1.length l0_1) (hc0_1 : l0_1.length ≤ c0_1) (hr0_2 : Kd.C kRegOp w A0_2 l0_2.length l0_2) (hc0_2 : l0_2.length ≤ c0_2) (hr0_3 : Kd.C (Kd.int .i64) w A0_3 l0_3.length l0_3) (hc0_3 : l0_3.length ≤ c0_3) (q0 : (Lit.int .i64 a0_0).wf = true) (q1 : l0_1.length ≤ maxLen) (q2 : (∀ y ∈ l0_1, (Lit.int .i64 y).wf = true)) (q3 : l0_2.length ≤ maxLen) (q4 : (∀ y ∈ l0_2, (Lit.int .i64 y.f0).wf = true ∧ (Lit.int .i64 y.f1).wf = true ∧ (Lit.int .i64 y.f2).wf = true)) (q5 : l0_3.length ≤ maxLen) (q6 : (∀ y ∈ l0_3, (Lit.int .i64 y).wf = true)) :
    Calls Tryd.prog 4 #[.agg #[.int .i64 a0_0, .slice A0_1 l0_1.length c0_1, .slice A0_2 l0_2.length c0_2, .slice A0_3 l0_3.length c0_3]] w fun e w' => e = .returned (.bool true) ∧ Below w.heap.size w w' := by
  obtain ⟨k, h⟩ := P a0_0 l0_1 l0_2 l0_3 q0 q1 q2 q3 q4 q5 q6
  refine (laws_FnExactRegCodeText.calls k a0_0 A0_1 c0_1 l0_1.length l0_1 A0_2 c0_2 l0_2.length l0_2 A0_3 c0_3 l0_3.length l0_3 (Below.refl _ _) (Fr.start w) (fun W hW => Kd.C_below hr0_1 hW.below) hc0_1 (fun W hW => Kd.C_below hr0_2 hW.below) hc0_2 (fun W hW => Kd.C_below hr0_3 hW.below) hc0_3 true h).mono ?_
  rintro e w' ⟨s, rfl, hF⟩
  exact ⟨rfl, hF.bel⟩
end Go.Proofs.YtnnlfipcoahcnaaDoor.P3
