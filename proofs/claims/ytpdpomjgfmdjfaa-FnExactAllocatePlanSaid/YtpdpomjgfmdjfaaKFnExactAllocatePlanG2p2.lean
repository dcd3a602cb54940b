import Derived.Test.YtpdpomjgfmdjfaaKFnExactAllocatePlanG2p1
namespace Go.Proofs.Ytpdpomjgfmdjfaa.G2
open Go.RowKit Go.Proofs.Ytpdpomjgfmdjfaa.Frame Go.Proofs.YtpdpomjgfmdjfaaW.PrintLast Go.Proofs.Ytpdpomjgfmdjfaa.Hand
open Go.Proofs.YtpdpomjgfmdjfaaW.PrintWords hiding mn mx
set_option linter.unusedVariables false
/-! ### loop.example/g01098/spec.rePlan: function 62 -/
def spec_rePlan.l0 (l9 : List Int) : (List Int) → (List Int) → Int → Option ((Int × (List SStep) × (List Int) × Bool) ⊕ ((List Int)))
  | [], l20, i23 => some (.inr l20)
  | y24 :: ys25, l20, i23 => (gt l9 y24).bind fun y39 => if y39 < 0 then (some (.inl (0, ([] : List SStep), ([] : List Int), false))) else ((gt l9 y24).bind fun y283 => (ap l20 ([y283] : List Int)).bind fun l462 => spec_rePlan.l0 l9 ys25 l462 (i23 + 1))
def spec_rePlan.f (k : Nat) (a0_0 : Int) (l0_1 : List Int) (l0_2 : List SRegOp) (l0_3 : List Int) : Option (Int × (List SStep) × (List Int) × Bool) := (spec_reShape.f a0_0 l0_1 l0_2 l0_3).bind fun b6 => if b6 = true then ((spec_reValues.f k a0_0 l0_1 l0_2 l0_3 (l0_2.length : Int)).bind fun (l9, l10, b11) => if b11 = true then ((spec_rePlan.l0 l9 l0_3 ([] : List Int) 0).bind fun o_ => match o_ with | .inl r_ => some r_ | .inr l20 => (spec_plGood.f k (l0_1.length : Int) l10 l20).bind fun b35 => some ((l0_1.length : Int), l10, l20, b35)) else (some (0, ([] : List SStep), ([] : List Int), false))) else (some (0, ([] : List SStep), ([] : List Int), false))
set_option maxHeartbeats 600000 in
set_option maxRecDepth 100000 in
theorem spec_rePlan.calls (k : Nat) {w0 ws : World} {P0 : Nat → Prop} (a0_0 : Int) (A0_1 : Option Addr) (c0_1 : Nat) (n0_1 : Nat) (l0_1 : List Int) (A0_2 : Option Addr) (c0_2 : Nat) (n0_2 : Nat) (l0_2 : List SRegOp) (A0_3 : Option Addr) (c0_3 : Nat) (n0_3 : Nat) (l0_3 : List Int) (Z : Below w0.heap.size w0 ws) (hF : Fr w0 ws P0 [] ws) (R0_1 : Stable ws P0 (fun w => Kd.C (Kd.int .i64) w A0_1 n0_1 l0_1)) (hc0_1 : n0_1 ≤ c0_1) (R0_2 : Stable ws P0 (fun w => Kd.C zb4 w A0_2 n0_2 l0_2)) (hc0_2 : n0_2 ≤ c0_2) (R0_3 : Stable ws P0 (fun w => Kd.C (Kd.int .i64) w A0_3 n0_3 l0_3)) (hc0_3 : n0_3 ≤ c0_3) (r_1 : Int) (r_2 : List SStep) (r_5 : List Int) (r_8 : Bool) (h : spec_rePlan.f k a0_0 l0_1 l0_2 l0_3 = some (r_1, r_2, r_5, r_8)) :
    Calls Try.prog 62 #[.agg #[.int .i64 a0_0, .slice A0_1 n0_1 c0_1, .slice A0_2 n0_2 c0_2, .slice A0_3 n0_3 c0_3]] ws (Post1 w0 ws P0 (fun ((q_3, q_4, q_6, q_7) : (Option Addr) × Nat × (Option Addr) × Nat) => .tuple #[.agg #[.int .i64 r_1, .slice q_3 r_2.length q_4, .slice q_6 r_5.length q_7], .bool r_8]) (fun ((q_3, q_4, q_6, q_7) : (Option Addr) × Nat × (Option Addr) × Nat) => [row kStep 117 (.slice q_3 r_2.length q_4) r_2, row (Kd.int .i64) 3 (.slice q_6 r_5.length q_7) r_5])) := by
  unfold spec_rePlan.f at h
  obtain rfl := (R0_1 ws (KeptB.refl _ _)).1
  obtain rfl := (R0_2 ws (KeptB.refl _ _)).1
  obtain rfl := (R0_3 ws (KeptB.refl _ _)).1
  refine enter Try.func62 rfl Try.ntmps62 rfl hF ?_
  refine c_seq ?_
  refine za0 ?_
  refine o_e rfl (e_box rfl) (fun g1 => ?_)
  refine o_e rfl (zat V36 rfl) (fun g3 => ?_)
  refine o_q rfl rfl (q_asg rfl) ?_
  refine o_end ?_
  refine za1 ?_
  refine c_seq ?_
  refine c_seq ?_
  refine za0 ?_
  refine o_q rfl rfl (q_ldB G30 Z30 rfl (fun w h => h.za9 (i := 1) rfl) rfl) ?_
  refine za6 h (fun b6 hx5 h => ?_) rfl
  refine o_e rfl (zaa 0 Z Try.func128 N128 rfl rfl rfl (fun w P1 hF hB hS hT => spec_reShape.calls a0_0 A0_1 c0_1 l0_1.length l0_1 A0_2 c0_2 l0_2.length l0_2 A0_3 c0_3 l0_3.length l0_3 hB hF (hS _ R0_1) hc0_1 (hS _ R0_2) hc0_2 (hS _ R0_3) hc0_3 _ hx5)) (fun _ => ?_)
  refine o_q rfl rfl (q_not rfl) ?_
  refine o_end ?_
  refine za1 ?_
  refine zar _ rfl (fun hb7 => ?_) (fun hb7 => ?_)
  · replace hb7 := nt_t hb7
    replace h := bb_f hb7 h
    refine c_seq ?_
    refine za0 ?_
    refine o_q rfl rfl (q_build (vs := []) (cs := [.int .i64 0, .slice none 0 0, .slice none 0 0]) rfl rfl) ?_
    refine o_e rfl (zao (i := 0) rfl rfl rfl Z36 rfl rfl) (fun _ => ?_)
    refine o_q rfl rfl (q_asg rfl) ?_
    refine o_end ?_
    refine za1 ?_
    refine c_ret ?_
    refine za5 ?_
    refine x_nil kStep 117 ?_
    refine x_nil (Kd.int .i64) 3 ?_
    have e0_ := Option.some.inj h; clear h
    have d0_ := (Prod.mk.inj e0_).1; have e1_ := (Prod.mk.inj e0_).2; clear e0_; subst d0_
    have d1_ := (Prod.mk.inj e1_).1; have e2_ := (Prod.mk.inj e1_).2; clear e1_; subst d1_
    have d2_ := (Prod.mk.inj e2_).1; have e3_ := (Prod.mk.inj e2_).2; clear e2_; subst d2_
    subst e3_
    exact x_r2 (none, 0, none, 0) Try.results62 (rv_cell rfl G36 Z36 (fun w h => h.za9 (i := 2) rfl) rfl) (zaf rfl) rfl (fun w h => za8 [1, 0] (by decide) rfl w h)
  · replace hb7 := nt_f hb7
    replace h := bb_t hb7 h
    refine zak ?_
    refine za1 ?_
    refine c_seq ?_
    refine za0 ?_
    refine o_q rfl rfl (q_ldB G30 Z30 rfl (fun w h => h.za9 (i := 1) rfl) rfl) ?_
    refine o_q rfl rfl (q_f F30_2 rfl) ?_
    refine o_q rfl rfl (q_ldb Y28 rfl (fun w h => h.za9 (i := 1) rfl) rfl) ?_
    refine o_q rfl rfl (q_len Try.underlying28 rfl) ?_
    refine bindE3 h (fun l9 l10 b11 hx8 h => ?_) rfl
    refine o_e rfl (zaa 0 Z Try.func129 N129 rfl rfl rfl (fun w P1 hF hB hS hT => spec_reValues.calls k a0_0 A0_1 c0_1 l0_1.length l0_1 A0_2 c0_2 l0_2.length l0_2 A0_3 c0_3 l0_3.length l0_3 (l0_2.length : Int) hB hF (hS _ R0_1) hc0_1 (hS _ R0_2) hc0_2 (hS _ R0_3) hc0_3 _ _ _ hx8)) (cur4 (fun A12 c13 A14 c15 => ?_))
    refine o_q rfl rfl (za2 rfl) ?_
    refine o_q rfl rfl (q_ext rfl rfl) ?_
    refine o_q rfl rfl (q_ext rfl rfl) ?_
    refine o_q rfl rfl (q_ext rfl rfl) ?_
    refine o_q rfl rfl (q_asg rfl) ?_
    refine o_q rfl rfl (q_asg rfl) ?_
    refine o_q rfl rfl (q_asg rfl) ?_
    refine o_end ?_
    refine za1 ?_
    refine c_seq ?_
    refine c_seq ?_
    refine za0 ?_
    refine o_q rfl rfl (za2 rfl) ?_
    refine o_q rfl rfl (q_not rfl) ?_
    refine o_end ?_
    refine za1 ?_
    refine zar _ rfl (fun hb16 => ?_) (fun hb16 => ?_)
    · replace hb16 := nt_t hb16
      replace h := bb_f hb16 h
      refine c_seq ?_
      refine za0 ?_
      refine o_q rfl rfl (q_build (vs := []) (cs := [.int .i64 0, .slice none 0 0, .slice none 0 0]) rfl rfl) ?_
      refine o_e rfl (zao (i := 2) rfl rfl rfl Z36 rfl rfl) (fun _ => ?_)
      refine o_q rfl rfl (q_asg rfl) ?_
      refine o_end ?_
      refine za1 ?_
      refine c_ret ?_
      refine za5 ?_
      refine x_nil kStep 117 ?_
      refine x_nil (Kd.int .i64) 3 ?_
      have e0_ := Option.some.inj h; clear h
      have d0_ := (Prod.mk.inj e0_).1; have e1_ := (Prod.mk.inj e0_).2; clear e0_; subst d0_
      have d1_ := (Prod.mk.inj e1_).1; have e2_ := (Prod.mk.inj e1_).2; clear e1_; subst d1_
      have d2_ := (Prod.mk.inj e2_).1; have e3_ := (Prod.mk.inj e2_).2; clear e2_; subst d2_
      subst e3_
      exact x_r2 (none, 0, none, 0) Try.results62 (rv_cell rfl G36 Z36 (fun w h => h.za9 (i := 4) rfl) rfl) (zaf rfl) rfl (fun w h => za8 [1, 0] (by decide) rfl w h)
    · replace hb16 := nt_f hb16
      replace h := bb_t hb16 h
      refine zak ?_
      refine za1 ?_
      refine c_seq ?_
      refine za0 ?_
      refine o_q rfl rfl (q_f F30_1 rfl) ?_
      refine o_q rfl rfl (q_ldb Y22 rfl (fun w h => h.za9 (i := 3) rfl) rfl) ?_
      refine o_q rfl rfl (q_len Try.underlying22 rfl) ?_
      refine o_q rfl rfl (za2 rfl) ?_
      refine o_q rfl rfl (q_build (vs := [(0, .int .i64 (l0_1.length : Int)), (1, .slice A14 l10.length c15)]) (cs := [.int .i64 (l0_1.length : Int), .slice A14 l10.length c15, .slice none 0 0]) rfl rfl) ?_
      refine o_e rfl (zat V36 rfl) (fun g17 => ?_)
      refine o_e rfl (zao (i := 0) rfl rfl rfl Z36 rfl rfl) (fun _ => ?_)
      refine o_end ?_
      refine za1 ?_
      refine c_seq ?_
      refine c_seq ?_
      refine za0 ?_
      refine o_q rfl rfl (q_f F30_3 rfl) ?_
      refine o_q rfl rfl (q_ldb Y22 rfl (fun w h => h.za9 (i := 4) rfl) rfl) ?_
      refine o_q rfl rfl (q_len Try.underlying22 rfl) ?_
      refine o_q rfl rfl (za2 rfl) ?_
      refine o_end ?_
      refine za1 ?_
      refine zaj ?_
      refine c_nil (Kd.int .i64) 3 ?_
      refine za6 h (fun o31 hl30 hR29 => ?_) rfl
      clear h
      refine c_fact (p := l0_3.length ≤ 9223372036854775807) (fun w h => (R0_3.now Z h).2.1) (fun hm28 => ?_)
      refine zav (σ := (List Int) × (List Int) × Int × (Option Addr) × Nat) (fun k26 ((ys25, l20, i23, A21, c22) : (List Int) × (List Int) × Int × (Option Addr) × Nat) => Rg l0_3 i23 ys25 ∧ ys25.length = k26 ∧ spec_rePlan.l0 l9 ys25 l20 i23 = some o31) [3, 9, 34, 35, 36, 37, 38, 39, 40, 41, 42, 43, 44, 45, 46, 47, 48, 49, 50, 51, 52, 53] (fun ((ys25, l20, i23, A21, c22) : (List Int) × (List Int) × Int × (Option Addr) × Nat) => [(34, .int .i64 i23)]) (fun ((ys25, l20, i23, A21, c22) : (List Int) × (List Int) × Int × (Option Addr) × Nat) => [row (Kd.int .i64) 3 (.slice A21 l20.length c22) l20, box g17 36 #[.int .i64 (l0_1.length : Int), .slice A14 l10.length c15, .slice A21 l20.length c22], row (Kd.int .i64) 3 (.slice A12 l9.length c13) l9, row kStep 117 (.slice A14 l10.length c15) l10, box g3 36 #[.int .i64 0, .slice none 0 0, .slice none 0 0], box g1 30 #[.int .i64 a0_0, .slice A0_1 l0_1.length c0_1, .slice A0_2 l0_2.length c0_2, .slice A0_3 l0_3.length c0_3]]) l0_3.length (l0_3, ([] : List Int), 0, none, 0) ⟨Rg.start _, rfl, hl30⟩ ⟨rfl, trivial⟩ (fun w h => h) ?_
      refine fun k26 => cur5 (listC (fun l20 i23 A21 c22 U32 hJ_ => ?_) (fun y24 ys25 l20 i23 A21 c22 U32 hJ_ => ?_))
      · skip
        clear hl30
        have hr27 := hJ_.1; have hk33 := hJ_.2.1; have h := hJ_.2.2; clear hJ_
        replace h : spec_rePlan.l0 l9 [] l20 i23 = some o31 := h
        rw [spec_rePlan.l0] at h
        refine c_seq ?_
        refine za0 ?_
        refine o_q rfl rfl (q_lss rfl rfl) ?_
        refine o_end ?_
        refine za1 ?_
        refine c_seq ?_
        refine zaz (congrArg Value.bool hr27.ge) ?_
        refine zb1 ?_
        refine za7 ?_
        refine za7 ?_
        have e_ := Option.some.inj h; replace h := hR29; rw [← e_] at h; clear e_
        refine x_hit ?_
        refine za1 ?_
        refine c_seq ?_
        refine a_startS (ds := []) [some 0, some 1, some 2, some 3, none, some 5] MO rfl ?_
        refine zb3 0 rfl rfl rfl (by kernel_rfl) (fun _ _ _ h => h) (fun w h => zab [some 0, some 1, some 2, some 3, none, some 5] (by decide) w h rfl) (q_ldB G36 Z36 rfl (fun w h => h.za9 (i := 1) rfl) rfl) ?_
        refine zb3 1 rfl rfl rfl (by kernel_rfl) (fun _ _ _ h => h) (fun w h => zab [some 0, some 1, some 2, some 3, none, some 5] (by decide) w h rfl) (q_ldB G36 Z36 rfl (fun w h => h.za9 (i := 1) rfl) rfl) ?_
        refine za6 h (fun b35 hx34 h => ?_) rfl
        refine a_one 2 rfl rfl (by kernel_rfl) rfl (zaa 0 Z Try.func72 N72 rfl rfl rfl (fun w P1 hF hB hS hT => spec_plGood.calls k (l0_1.length : Int) A14 c15 l10.length l10 A21 c22 l20.length l20 hB hF (hT 3 _ rfl).row (hT 3 _ rfl).cap (hT 0 _ rfl).row (hT 0 _ rfl).cap _ hx34)) (fun s w h => zab [some 0, some 1, some 2, some 3, none, some 5] (by decide) w h rfl) (fun _ => ?_)
        refine a_one 3 rfl rfl (by kernel_rfl) rfl (zao (i := 4) rfl rfl rfl Z36 rfl rfl) (fun s w h => zab [some 0, some 1, some 2, some 3, none, some 5] (by decide) w h rfl) (fun _ => ?_)
        refine zae 4 rfl rfl rfl (by kernel_rfl) (fun _ _ _ h => h) (q_asg rfl) ?_
        refine zb5 (by kernel_rfl) ?_
        refine za1 ?_
        refine c_ret ?_
        have e0_ := Option.some.inj h; clear h
        have d0_ := (Prod.mk.inj e0_).1; have e1_ := (Prod.mk.inj e0_).2; clear e0_; subst d0_
        have d1_ := (Prod.mk.inj e1_).1; have e2_ := (Prod.mk.inj e1_).2; clear e1_; subst d1_
        have d2_ := (Prod.mk.inj e2_).1; have e3_ := (Prod.mk.inj e2_).2; clear e2_; subst d2_
        subst e3_
        exact x_r2 (A14, c15, A21, c22) Try.results62 (rv_cell rfl G36 Z36 (fun w h => h.za9 (i := 4) rfl) rfl) (zaf rfl) rfl (fun w h => za8 [3, 0] (by decide) rfl w h)
      · skip
        clear hl30
        have hr27 := hJ_.1; have hk33 := hJ_.2.1; have h := hJ_.2.2; clear hJ_
        replace h : spec_rePlan.l0 l9 (y24 :: ys25) l20 i23 = some o31 := h
        rw [spec_rePlan.l0] at h
        refine c_seq ?_
        refine za0 ?_
        refine o_q rfl rfl (q_lss rfl rfl) ?_
        refine o_end ?_
        refine za1 ?_
        refine c_seq ?_
        refine zay (congrArg Value.bool hr27.lt) ?_
        refine zak ?_
        refine za1 ?_
        refine c_seq ?_
        refine zaj ?_
        refine c_seq ?_
        refine za0 ?_
        refine zau (p := Sh A0_3 l0_3.length l0_3.length) (fun w h => f_sh (dk := (Kd.int .i64)) h (fun w h => R0_3.now Z h)) (fun hq36 => ?_)
        refine o_q rfl rfl (q_ix Try.underlying22 Z3 rfl rfl hq36 hr27.get) ?_
        refine o_q rfl rfl (q_lde (off := 0) Y3 rfl rfl (fun w h => R0_3.now Z h) hr27.get (fun _ _ h => h) rfl) ?_
        refine o_q rfl rfl (q_asg rfl) ?_
        refine o_end ?_
        refine za1 ?_
        refine c_seq ?_
        refine c_seq ?_
        refine za0 ?_
        refine o_q rfl rfl (za2 rfl) ?_
        refine o_q rfl rfl (za2 rfl) ?_
        refine zau (p := Sh A12 l9.length l9.length) (fun w h => f_sh (dk := (Kd.int .i64)) h (fun w h => h.zas (i := 2) rfl)) (fun hq37 => ?_)
        refine za6 h (fun y39 hg38 h => ?_) rfl
        refine o_q rfl rfl (q_ix Try.underlying22 Z3 rfl rfl hq37 hg38) ?_
        refine o_q rfl rfl (q_lde (off := 0) Y3 rfl rfl (fun w h => h.zas (i := 2) rfl) hg38 (fun _ _ h => h) rfl) ?_
        refine o_q rfl rfl (q_lss rfl rfl) ?_
        refine o_end ?_
        refine za1 ?_
        refine zar _ rfl (fun hb40 => ?_) (fun hb40 => ?_)
        · skip
          replace h := br_t hb40 h
          refine c_seq ?_
          refine za0 ?_
          refine o_q rfl rfl (q_build (vs := []) (cs := [.int .i64 0, .slice none 0 0, .slice none 0 0]) rfl rfl) ?_
          refine o_e rfl (zao (i := 4) rfl rfl rfl Z36 rfl rfl) (fun _ => ?_)
          refine o_q rfl rfl (q_asg rfl) ?_
          refine o_end ?_
          refine za1 ?_
          refine c_ret ?_
          refine za5 ?_
          refine zal ?_
          refine za5 ?_
          refine za5 ?_
          have e_ := Option.some.inj h; replace h := hR29; rw [← e_] at h; clear e_
          refine zal ?_
          refine za5 ?_
          refine x_nil kStep 117 ?_
          refine x_nil (Kd.int .i64) 3 ?_
          have e0_ := Option.some.inj h; clear h
          have d0_ := (Prod.mk.inj e0_).1; have e1_ := (Prod.mk.inj e0_).2; clear e0_; subst d0_
          have d1_ := (Prod.mk.inj e1_).1; have e2_ := (Prod.mk.inj e1_).2; clear e1_; subst d1_
          have d2_ := (Prod.mk.inj e2_).1; have e3_ := (Prod.mk.inj e2_).2; clear e2_; subst d2_
          subst e3_
          exact x_r2 (none, 0, none, 0) Try.results62 (rv_cell rfl G36 Z36 (fun w h => h.za9 (i := 6) rfl) rfl) (zaf rfl) rfl (fun w h => za8 [1, 0] (by decide) rfl w h)
        · skip
          replace h := br_f hb40 h
          refine zak ?_
          refine za1 ?_
          refine za6 h (fun y283 hg282 h => ?_) rfl
          refine za6 h (fun l462 ha463 h => ?_) rfl
          refine a_startS (ds := []) [none, none, some 2, some 3, some 4, some 5] MO rfl ?_
          refine zae 0 rfl rfl rfl (by kernel_rfl) (fun _ _ _ h => h) (q_f F36_2 rfl) ?_
          refine zae 2 rfl rfl rfl (by kernel_rfl) (fun _ _ _ h => h) (za2 rfl) ?_
          refine zae 3 rfl rfl rfl (by kernel_rfl) (fun _ _ _ h => h) (za2 rfl) ?_
          refine zae 4 rfl rfl rfl (by kernel_rfl) (fun _ _ _ h => h) (q_ix Try.underlying22 Z3 rfl rfl hq37 hg282) ?_
          refine zb3 5 rfl rfl rfl (by kernel_rfl) (fun _ _ _ h => h) (fun w h => zab [none, none, some 2, some 3, some 4, some 5] (by decide) w h rfl) (q_lde (off := 0) Y3 rfl rfl (fun w h => h.zas (i := 2) rfl) hg282 (fun _ _ h => h) rfl) ?_
          refine a_two 1 6 rfl rfl rfl rfl (by kernel_rfl) rfl rfl (ev_q rfl (q_ldb Y22 rfl (fun w h => h.za9 (i := 1) rfl) rfl)) (fun s w h => zab [none, none, some 2, some 3, some 4, some 5] (by decide) w h rfl) (e_lit (vs := [(0, .int .i64 y283)]) (cs := [.int .i64 y283]) (Kd.int .i64) ([y283] : List Int) Try.underlying22 I3 (by decide) rfl (by decide) rfl rfl (fun _ _ => Kd.zaw _)) (fun s w h => zab [none, none, some 3, some 4, some 5, some 6] (by decide) w h rfl) (fun _ => ?_) (cur2 (fun A402 c403 => ?_))
          · skip
            refine a_one 6 rfl rfl (by kernel_rfl) rfl (e_lit (vs := [(0, .int .i64 y283)]) (cs := [.int .i64 y283]) (Kd.int .i64) ([y283] : List Int) Try.underlying22 I3 (by decide) rfl (by decide) rfl rfl (fun _ _ => Kd.zaw _)) (fun s w h => zab [none, none, some 3, some 4, some 5, some 6] (by decide) w h rfl) (cur2 (fun A402 c403 => ?_))
            refine a_one 7 rfl rfl (by kernel_rfl) rfl (e_app (i := 1) (j := 0) Try.underlying22 I3 rfl (by decide) (by decide) rfl rfl rfl rfl rfl ha463) (fun s w h => zab [none, none, some 3, some 4, some 5, some 6] (by decide) w h rfl) (cur2 (fun A464 c465 => ?_))
            refine zae 8 rfl rfl rfl (by kernel_rfl) (fun _ _ _ h => h) (q_f F36_2 rfl) ?_
            refine a_one 9 rfl rfl (by kernel_rfl) rfl (zb7 (i := 2) rfl rfl rfl rfl Z22 rfl rfl) (fun s w h => zab [none, none, some 3, some 4, some 5, some 6] (by decide) w h rfl) (fun _ => ?_)
            refine zb5 (by kernel_rfl) ?_
            refine zaq ?_
            refine za1 ?_
            refine za0 ?_
            refine o_q rfl rfl (q_up rfl rfl (hr27.up hm28)) ?_
            refine o_q rfl rfl (za2 rfl) ?_
            refine o_end ?_
            refine zam ys25.length (ys25, l462, i23 + 1, A464, c465) (by rw [← hk33]; exact Nat.lt_succ_self _) ⟨hr27.step, rfl, h⟩ ⟨rfl, trivial⟩ (fun w h => za8 [1, 2, 3, 4, 5, 6] (by decide) rfl w h) ?_
            repeat (first | exact zac _ _ | refine zah rfl ?_ | refine zad rfl ?_ | refine zai rfl ?_)
          · skip
            refine a_one 1 rfl rfl (by kernel_rfl) rfl (ev_q rfl (q_ldb Y22 rfl (fun w h => h.za9 (i := 2) rfl) rfl)) (fun s w h => zab [none, none, some 3, some 4, some 5, some 6] (by decide) w h rfl) (fun _ => ?_)
            refine a_one 7 rfl rfl (by kernel_rfl) rfl (e_app (i := 1) (j := 0) Try.underlying22 I3 rfl (by decide) (by decide) rfl rfl rfl rfl rfl ha463) (fun s w h => zab [none, none, some 3, some 4, some 5, some 6] (by decide) w h rfl) (cur2 (fun A464 c465 => ?_))
            refine zae 8 rfl rfl rfl (by kernel_rfl) (fun _ _ _ h => h) (q_f F36_2 rfl) ?_
            refine a_one 9 rfl rfl (by kernel_rfl) rfl (zb7 (i := 2) rfl rfl rfl rfl Z22 rfl rfl) (fun s w h => zab [none, none, some 3, some 4, some 5, some 6] (by decide) w h rfl) (fun _ => ?_)
            refine zb5 (by kernel_rfl) ?_
            refine zaq ?_
            refine za1 ?_
            refine za0 ?_
            refine o_q rfl rfl (q_up rfl rfl (hr27.up hm28)) ?_
            refine o_q rfl rfl (za2 rfl) ?_
            refine o_end ?_
            refine zam ys25.length (ys25, l462, i23 + 1, A464, c465) (by rw [← hk33]; exact Nat.lt_succ_self _) ⟨hr27.step, rfl, h⟩ ⟨rfl, trivial⟩ (fun w h => za8 [1, 2, 3, 4, 5, 6] (by decide) rfl w h) ?_
            repeat (first | exact zac _ _ | refine zah rfl ?_ | refine zad rfl ?_ | refine zai rfl ?_)

/-! ### loop.example/g01098/spec.reCode: function 58 -/
def spec_reCode.f (k : Nat) (a0_0 : Int) (l0_1 : List Int) (l0_2 : List SRegOp) (l0_3 : List Int) : Option Bool := (spec_rePlan.f k a0_0 l0_1 l0_2 l0_3).bind fun (i4, l5, l6, b7) => some b7
set_option maxHeartbeats 600000 in
set_option maxRecDepth 100000 in
theorem spec_reCode.calls (k : Nat) {w0 ws : World} {P0 : Nat → Prop} (a0_0 : Int) (A0_1 : Option Addr) (c0_1 : Nat) (n0_1 : Nat) (l0_1 : List Int) (A0_2 : Option Addr) (c0_2 : Nat) (n0_2 : Nat) (l0_2 : List SRegOp) (A0_3 : Option Addr) (c0_3 : Nat) (n0_3 : Nat) (l0_3 : List Int) (Z : Below w0.heap.size w0 ws) (hF : Fr w0 ws P0 [] ws) (R0_1 : Stable ws P0 (fun w => Kd.C (Kd.int .i64) w A0_1 n0_1 l0_1)) (hc0_1 : n0_1 ≤ c0_1) (R0_2 : Stable ws P0 (fun w => Kd.C zb4 w A0_2 n0_2 l0_2)) (hc0_2 : n0_2 ≤ c0_2) (R0_3 : Stable ws P0 (fun w => Kd.C (Kd.int .i64) w A0_3 n0_3 l0_3)) (hc0_3 : n0_3 ≤ c0_3) (r_1 : Bool) (h : spec_reCode.f k a0_0 l0_1 l0_2 l0_3 = some r_1) :
    Calls Try.prog 58 #[.agg #[.int .i64 a0_0, .slice A0_1 n0_1 c0_1, .slice A0_2 n0_2 c0_2, .slice A0_3 n0_3 c0_3]] ws (Post1 w0 ws P0 (fun (_ : Unit) => .bool r_1) (fun (_ : Unit) => [])) := by
  unfold spec_reCode.f at h
  obtain rfl := (R0_1 ws (KeptB.refl _ _)).1
  obtain rfl := (R0_2 ws (KeptB.refl _ _)).1
  obtain rfl := (R0_3 ws (KeptB.refl _ _)).1
  refine enter Try.func58 rfl Try.ntmps58 rfl hF ?_
  refine c_seq ?_
  refine za0 ?_
  refine o_e rfl (e_box rfl) (fun g1 => ?_)
  refine o_q rfl rfl (q_asg rfl) ?_
  refine o_end ?_
  refine za1 ?_
  refine c_seq ?_
  refine za0 ?_
  refine o_q rfl rfl (q_ldB G30 Z30 rfl (fun w h => h.za9 (i := 0) rfl) rfl) ?_
  refine bindE4 h (fun i4 l5 l6 b7 hx3 h => ?_) rfl
  refine o_e rfl (zaa 0 Z Try.func62 N62 rfl rfl rfl (fun w P1 hF hB hS hT => spec_rePlan.calls k a0_0 A0_1 c0_1 l0_1.length l0_1 A0_2 c0_2 l0_2.length l0_2 A0_3 c0_3 l0_3.length l0_3 hB hF (hS _ R0_1) hc0_1 (hS _ R0_2) hc0_2 (hS _ R0_3) hc0_3 _ _ _ _ hx3)) (cur4 (fun A8 c9 A10 c11 => ?_))
  refine o_q rfl rfl (za2 rfl) ?_
  refine o_q rfl rfl (q_ext rfl rfl) ?_
  refine o_q rfl rfl (q_ext rfl rfl) ?_
  refine o_e rfl (zat V36 rfl) (fun g12 => ?_)
  refine o_e rfl (zao (i := 0) rfl rfl rfl Z36 rfl rfl) (fun _ => ?_)
  refine o_q rfl rfl (q_asg rfl) ?_
  refine o_end ?_
  refine za1 ?_
  refine c_seq ?_
  refine za0 ?_
  refine o_q rfl rfl (za2 rfl) ?_
  refine o_q rfl rfl (q_asg rfl) ?_
  refine o_end ?_
  refine za1 ?_
  refine c_ret ?_
  have e0_ := Option.some.inj h; clear h
  subst e0_
  exact x_r1 () Try.results58 (zaf rfl) rfl (fun w h => za8 [] (by decide) rfl w h)

/-! ### loop.example/g01098/spec.moModulus: function 67 -/
def spec_moModulus.f (a0 : Int) : Option Bool := (spec_l1In.f a0 2 10000).bind fun b2 => some b2
set_option maxHeartbeats 600000 in
set_option maxRecDepth 100000 in
theorem spec_moModulus.calls {w0 ws : World} {P0 : Nat → Prop} (a0 : Int) (Z : Below w0.heap.size w0 ws) (hF : Fr w0 ws P0 [] ws)  (r_1 : Bool) (h : spec_moModulus.f a0 = some r_1) :
    Calls Try.prog 67 #[.int .i64 a0] ws (Post1 w0 ws P0 (fun (_ : Unit) => .bool r_1) (fun (_ : Unit) => [])) := by
  unfold spec_moModulus.f at h
  refine enter Try.func67 rfl Try.ntmps67 rfl hF ?_
  refine c_seq ?_
  refine za0 ?_
  refine o_q rfl rfl (q_asg rfl) ?_
  refine o_end ?_
  refine za1 ?_
  refine c_seq ?_
  refine za0 ?_
  refine o_q rfl rfl (za2 rfl) ?_
  refine za6 h (fun b2 hx1 h => ?_) rfl
  refine o_e rfl (zaa 0 Z Try.func77 N77 rfl rfl rfl (fun w P1 hF hB hS hT => spec_l1In.calls a0 2 10000 hB hF _ hx1)) (fun _ => ?_)
  refine o_q rfl rfl (q_asg rfl) ?_
  refine o_end ?_
  refine za1 ?_
  refine c_ret ?_
  have e0_ := Option.some.inj h; clear h
  subst e0_
  exact x_r1 () Try.results67 (zaf rfl) rfl (fun w h => za8 [] (by decide) rfl w h)

/-! ### loop.example/g01098/spec.moPick: function 69 -/
def spec_moPick.l0 (l0 : List Int) : (List Int) → (List Int) → Int → Option (List Int)
  | [], l3, i6 => some l3
  | y7 :: ys8, l3, i6 => (gt l0 y7).bind fun y20 => (ap l3 ([y20] : List Int)).bind fun l24 => spec_moPick.l0 l0 ys8 l24 (i6 + 1)
def spec_moPick.f (l0 : List Int) (l1 : List Int) : Option (List Int) := (spec_moPick.l0 l0 l1 ([] : List Int) 0).bind fun l3 => some l3
set_option maxHeartbeats 600000 in
set_option maxRecDepth 100000 in
theorem spec_moPick.calls {w0 ws : World} {P0 : Nat → Prop} (A0 : Option Addr) (c0 : Nat) (n0 : Nat) (l0 : List Int) (A1 : Option Addr) (c1 : Nat) (n1 : Nat) (l1 : List Int) (Z : Below w0.heap.size w0 ws) (hF : Fr w0 ws P0 [] ws) (R0 : Stable ws P0 (fun w => Kd.C (Kd.int .i64) w A0 n0 l0)) (hc0 : n0 ≤ c0) (R1 : Stable ws P0 (fun w => Kd.C (Kd.int .i64) w A1 n1 l1)) (hc1 : n1 ≤ c1) (r_1 : List Int) (h : spec_moPick.f l0 l1 = some r_1) :
    Calls Try.prog 69 #[.slice A0 n0 c0, .slice A1 n1 c1] ws (Post1 w0 ws P0 (fun ((q_2, q_3) : (Option Addr) × Nat) => .slice q_2 r_1.length q_3) (fun ((q_2, q_3) : (Option Addr) × Nat) => [row (Kd.int .i64) 3 (.slice q_2 r_1.length q_3) r_1])) := by
  unfold spec_moPick.f at h
  obtain rfl := (R0 ws (KeptB.refl _ _)).1
  obtain rfl := (R1 ws (KeptB.refl _ _)).1
  refine enter Try.func69 rfl Try.ntmps69 rfl hF ?_
  refine c_seq ?_
  refine za0 ?_
  refine o_q rfl rfl (q_asg rfl) ?_
  refine o_end ?_
  refine za1 ?_
  refine c_seq ?_
  refine za0 ?_
  refine o_q rfl rfl (q_asg rfl) ?_
  refine o_end ?_
  refine za1 ?_
  refine c_seq ?_
  refine c_seq ?_
  refine za0 ?_
  refine o_q rfl rfl (za2 rfl) ?_
  refine o_q rfl rfl (q_len Try.underlying22 rfl) ?_
  refine o_q rfl rfl (za2 rfl) ?_
  refine o_end ?_
  refine za1 ?_
  refine zaj ?_
  refine c_nil (Kd.int .i64) 3 ?_
  refine za6 h (fun o14 hl13 hR12 => ?_) rfl
  clear h
  refine c_fact (p := l1.length ≤ 9223372036854775807) (fun w h => (R1.now Z h).2.1) (fun hm11 => ?_)
  refine zav (σ := (List Int) × (List Int) × Int × (Option Addr) × Nat) (fun k9 ((ys8, l3, i6, A4, c5) : (List Int) × (List Int) × Int × (Option Addr) × Nat) => Rg l1 i6 ys8 ∧ ys8.length = k9 ∧ spec_moPick.l0 l0 ys8 l3 i6 = some o14) [5, 7, 10, 11, 12, 13, 14, 15, 16, 17, 18, 19, 20, 21] (fun ((ys8, l3, i6, A4, c5) : (List Int) × (List Int) × Int × (Option Addr) × Nat) => [(5, .slice A4 l3.length c5), (10, .int .i64 i6)]) (fun ((ys8, l3, i6, A4, c5) : (List Int) × (List Int) × Int × (Option Addr) × Nat) => [row (Kd.int .i64) 3 (.slice A4 l3.length c5) l3]) l1.length (l1, ([] : List Int), 0, none, 0) ⟨Rg.start _, rfl, hl13⟩ ⟨rfl, rfl, trivial⟩ (fun w h => h) ?_
  refine fun k9 => cur5 (listC (fun l3 i6 A4 c5 U15 hJ_ => ?_) (fun y7 ys8 l3 i6 A4 c5 U15 hJ_ => ?_))
  · skip
    clear hl13
    have hr10 := hJ_.1; have hk16 := hJ_.2.1; have h := hJ_.2.2; clear hJ_
    replace h : spec_moPick.l0 l0 [] l3 i6 = some o14 := h
    rw [spec_moPick.l0] at h
    refine c_seq ?_
    refine za0 ?_
    refine o_q rfl rfl (q_lss rfl rfl) ?_
    refine o_end ?_
    refine za1 ?_
    refine c_seq ?_
    refine zaz (congrArg Value.bool hr10.ge) ?_
    refine zb1 ?_
    refine za7 ?_
    refine za7 ?_
    have e_ := Option.some.inj h; replace h := hR12; rw [← e_] at h; clear e_
    refine x_hit ?_
    refine za1 ?_
    refine c_seq ?_
    refine za0 ?_
    refine o_q rfl rfl (za2 rfl) ?_
    refine o_q rfl rfl (q_asg rfl) ?_
    refine o_end ?_
    refine za1 ?_
    refine c_ret ?_
    have e0_ := Option.some.inj h; clear h
    subst e0_
    exact x_r1 (A4, c5) Try.results69 (zaf rfl) rfl (fun w h => za8 [0] (by decide) rfl w h)
  · skip
    clear hl13
    have hr10 := hJ_.1; have hk16 := hJ_.2.1; have h := hJ_.2.2; clear hJ_
    replace h : spec_moPick.l0 l0 (y7 :: ys8) l3 i6 = some o14 := h
    rw [spec_moPick.l0] at h
    refine c_seq ?_
    refine za0 ?_
    refine o_q rfl rfl (q_lss rfl rfl) ?_
    refine o_end ?_
    refine za1 ?_
    refine c_seq ?_
    refine zay (congrArg Value.bool hr10.lt) ?_
    refine zak ?_
    refine za1 ?_
    refine c_seq ?_
    refine zaj ?_
    refine c_seq ?_
    refine za0 ?_
    refine zau (p := Sh A1 l1.length l1.length) (fun w h => f_sh (dk := (Kd.int .i64)) h (fun w h => R1.now Z h)) (fun hq17 => ?_)
    refine o_q rfl rfl (q_ix Try.underlying22 Z3 rfl rfl hq17 hr10.get) ?_
    refine o_q rfl rfl (q_lde (off := 0) Y3 rfl rfl (fun w h => R1.now Z h) hr10.get (fun _ _ h => h) rfl) ?_
    refine o_q rfl rfl (q_asg rfl) ?_
    refine o_end ?_
    refine za1 ?_
    refine za0 ?_
    refine o_q rfl rfl (za2 rfl) ?_
    refine o_q rfl rfl (za2 rfl) ?_
    refine o_q rfl rfl (za2 rfl) ?_
    refine zau (p := Sh A0 l0.length l0.length) (fun w h => f_sh (dk := (Kd.int .i64)) h (fun w h => R0.now Z h)) (fun hq18 => ?_)
    refine za6 h (fun y20 hg19 h => ?_) rfl
    refine o_q rfl rfl (q_ix Try.underlying22 Z3 rfl rfl hq18 hg19) ?_
    refine o_q rfl rfl (q_lde (off := 0) Y3 rfl rfl (fun w h => R0.now Z h) hg19 (fun _ _ h => h) rfl) ?_
    refine o_e rfl (e_lit (vs := [(0, .int .i64 y20)]) (cs := [.int .i64 y20]) (Kd.int .i64) ([y20] : List Int) Try.underlying22 I3 (by decide) rfl (by decide) rfl rfl (fun _ _ => Kd.zaw _)) (cur2 (fun A21 c22 => ?_))
    refine za6 h (fun l24 ha25 h => ?_) rfl
    refine o_e rfl (e_app (i := 1) (j := 0) Try.underlying22 I3 rfl (by decide) (by decide) rfl rfl rfl rfl rfl ha25) (cur2 (fun A26 c27 => ?_))
    refine o_q rfl rfl (q_asg rfl) ?_
    refine o_end ?_
    refine zaq ?_
    refine za1 ?_
    refine za0 ?_
    refine o_q rfl rfl (q_up rfl rfl (hr10.up hm11)) ?_
    refine o_q rfl rfl (za2 rfl) ?_
    refine o_end ?_
    refine zam ys8.length (ys8, l24, i6 + 1, A26, c27) (by rw [← hk16]; exact Nat.lt_succ_self _) ⟨hr10.step, rfl, h⟩ ⟨rfl, rfl, trivial⟩ (fun w h => za8 [1] (by decide) rfl w h) ?_
    repeat (first | exact zac _ _ | refine zah rfl ?_ | refine zad rfl ?_ | refine zai rfl ?_)

/-! ### loop.example/g01098/spec.RunRegCode: function 27 -/
def spec_RunRegCode.l1 (a1 : Int) : (List SRegOp) → (List Int) → Int → Option (List Int)
  | [], l30, i31 => some l30
  | y32 :: ys33, l30, i31 => (gt l30 y32.f1).bind fun y412 => (gt l30 y32.f2).bind fun y711 => (nz a1).bind fun _ => (gt l30 y32.f0).bind fun y1011 => (st l30 y32.f0 ((w64 (y412 * y711)).tmod a1)).bind fun l1070 => spec_RunRegCode.l1 a1 ys33 l1070 (i31 + 1)
def spec_RunRegCode.l0 (l2 : List Int) : (List Int) → (List Int) → Int → Option (List Int)
  | [], l18, i19 => some l18
  | y20 :: ys21, l18, i19 => (gt l2 i19).bind fun y1193 => (gt l18 y20).bind fun y1196 => (st l18 y20 y1193).bind fun l1197 => spec_RunRegCode.l0 l2 ys21 l1197 (i19 + 1)
def spec_RunRegCode.f (k : Nat) (a0_0 : Int) (l0_1 : List Int) (l0_2 : List SRegOp) (l0_3 : List Int) (a1 : Int) (l2 : List Int) : Option ((List Int) × Bool) := (spec_reCode.f k a0_0 l0_1 l0_2 l0_3).bind fun b4 => if b4 = true then ((spec_moModulus.f a1).bind fun b7 => if b7 = true then (if (l2.length : Int) ≠ (l0_1.length : Int) then (some (([] : List Int), false)) else ((spec_l1All.f l2 0 (w64 (a1 - 1))).bind fun b11 => if b11 = true then ((mk0 a0_0 (0 : Int)).bind fun l13 => (spec_RunRegCode.l0 l2 l0_1 l13 0).bind fun l18 => (spec_RunRegCode.l1 a1 l0_2 l18 0).bind fun l30 => (spec_moPick.f l30 l0_3).bind fun l43 => some (l43, true)) else (some (([] : List Int), false)))) else (some (([] : List Int), false))) else (some (([] : List Int), false))
set_option maxHeartbeats 600000 in
set_option maxRecDepth 100000 in
theorem spec_RunRegCode.calls (k : Nat) {w0 ws : World} {P0 : Nat → Prop} (a0_0 : Int) (A0_1 : Option Addr) (c0_1 : Nat) (n0_1 : Nat) (l0_1 : List Int) (A0_2 : Option Addr) (c0_2 : Nat) (n0_2 : Nat) (l0_2 : List SRegOp) (A0_3 : Option Addr) (c0_3 : Nat) (n0_3 : Nat) (l0_3 : List Int) (a1 : Int) (A2 : Option Addr) (c2 : Nat) (n2 : Nat) (l2 : List Int) (Z : Below w0.heap.size w0 ws) (hF : Fr w0 ws P0 [] ws) (R0_1 : Stable ws P0 (fun w => Kd.C (Kd.int .i64) w A0_1 n0_1 l0_1)) (hc0_1 : n0_1 ≤ c0_1) (R0_2 : Stable ws P0 (fun w => Kd.C zb4 w A0_2 n0_2 l0_2)) (hc0_2 : n0_2 ≤ c0_2) (R0_3 : Stable ws P0 (fun w => Kd.C (Kd.int .i64) w A0_3 n0_3 l0_3)) (hc0_3 : n0_3 ≤ c0_3) (R2 : Stable ws P0 (fun w => Kd.C (Kd.int .i64) w A2 n2 l2)) (hc2 : n2 ≤ c2) (r_1 : List Int) (r_4 : Bool) (h : spec_RunRegCode.f k a0_0 l0_1 l0_2 l0_3 a1 l2 = some (r_1, r_4)) :
    Calls Try.prog 27 #[.agg #[.int .i64 a0_0, .slice A0_1 n0_1 c0_1, .slice A0_2 n0_2 c0_2, .slice A0_3 n0_3 c0_3], .int .i64 a1, .slice A2 n2 c2] ws (Post1 w0 ws P0 (fun ((q_2, q_3) : (Option Addr) × Nat) => .tuple #[.slice q_2 r_1.length q_3, .bool r_4]) (fun ((q_2, q_3) : (Option Addr) × Nat) => [row (Kd.int .i64) 3 (.slice q_2 r_1.length q_3) r_1])) := by
  unfold spec_RunRegCode.f at h
  obtain rfl := (R0_1 ws (KeptB.refl _ _)).1
  obtain rfl := (R0_2 ws (KeptB.refl _ _)).1
  obtain rfl := (R0_3 ws (KeptB.refl _ _)).1
  obtain rfl := (R2 ws (KeptB.refl _ _)).1
  refine enter Try.func27 rfl Try.ntmps27 rfl hF ?_
  refine c_seq ?_
  refine za0 ?_
  refine o_e rfl (e_box rfl) (fun g1 => ?_)
  refine o_q rfl rfl (q_asg rfl) ?_
  refine o_q rfl rfl (q_asg rfl) ?_
  refine o_end ?_
  refine za1 ?_
  refine c_seq ?_
  refine c_seq ?_
  refine za0 ?_
  refine o_q rfl rfl (q_ldB G30 Z30 rfl (fun w h => h.za9 (i := 0) rfl) rfl) ?_
  refine za6 h (fun b4 hx3 h => ?_) rfl
  refine o_e rfl (zaa 0 Z Try.func58 N58 rfl rfl rfl (fun w P1 hF hB hS hT => spec_reCode.calls k a0_0 A0_1 c0_1 l0_1.length l0_1 A0_2 c0_2 l0_2.length l0_2 A0_3 c0_3 l0_3.length l0_3 hB hF (hS _ R0_1) hc0_1 (hS _ R0_2) hc0_2 (hS _ R0_3) hc0_3 _ hx3)) (fun _ => ?_)
  refine o_q rfl rfl (q_not rfl) ?_
  refine o_q rfl rfl (za2 rfl) ?_
  refine byB b4 (fun hb5 => ?_) (fun hb5 => ?_)
  · replace h := bb_t hb5 h
    refine o_w (za4 rfl rfl rfl (congrArg (fun b => Value.bool (!(b))) hb5)) rfl (za2 rfl) ?_
    refine za6 h (fun b7 hx6 h => ?_) rfl
    refine o_ew (za4 rfl rfl rfl (congrArg (fun b => Value.bool (!(b))) hb5)) (zaa 0 Z Try.func67 N67 rfl rfl rfl (fun w P1 hF hB hS hT => spec_moModulus.calls a1 hB hF _ hx6)) (fun _ => ?_)
    refine o_w (za4 rfl rfl rfl (congrArg (fun b => Value.bool (!(b))) hb5)) rfl (q_not rfl) ?_
    refine o_q rfl rfl (zan false (congrArg (fun b => Value.bool (!(b))) hb5) rfl) ?_
    refine o_q rfl rfl (za2 rfl) ?_
    refine byB b7 (fun hb8 => ?_) (fun hb8 => ?_)
    · replace h := bb_t hb8 h
      refine o_w (za4 rfl rfl rfl (congrArg (fun b => Value.bool (!(b))) hb8)) rfl (za2 rfl) ?_
      refine o_w (za4 rfl rfl rfl (congrArg (fun b => Value.bool (!(b))) hb8)) rfl (q_len Try.underlying22 rfl) ?_
      refine o_w (za4 rfl rfl rfl (congrArg (fun b => Value.bool (!(b))) hb8)) rfl (q_f F30_1 rfl) ?_
      refine o_w (za4 rfl rfl rfl (congrArg (fun b => Value.bool (!(b))) hb8)) rfl (q_ldb Y22 rfl (fun w h => h.za9 (i := 0) rfl) rfl) ?_
      refine o_w (za4 rfl rfl rfl (congrArg (fun b => Value.bool (!(b))) hb8)) rfl (q_len Try.underlying22 rfl) ?_
      refine o_w (za4 rfl rfl rfl (congrArg (fun b => Value.bool (!(b))) hb8)) rfl (q_neq rfl rfl) ?_
      refine o_q rfl rfl (zan false (congrArg (fun b => Value.bool (!(b))) hb8) rfl) ?_
      refine o_q rfl rfl (za2 rfl) ?_
      refine byB (decide ((l2.length : Int) ≠ (l0_1.length : Int))) (fun hb9 => ?_) (fun hb9 => ?_)
      · replace h := br_t hb9 h
        refine @o_n _ _ _ _ _ _ _ _ _ _ _ 30 (za3 rfl rfl rfl (congrArg Value.bool hb9) rfl) (Eq.refl (some 30)) ?_
        refine @o_n _ _ _ _ _ _ _ _ _ _ _ 31 (za3 rfl rfl rfl (congrArg Value.bool hb9) rfl) (Eq.refl (some 31)) ?_
        refine @o_n _ _ _ _ _ _ _ _ _ _ _ 32 (za3 rfl rfl rfl (congrArg Value.bool hb9) rfl) (Eq.refl (some 32)) ?_
        refine @o_n _ _ _ _ _ _ _ _ _ _ _ 33 (za3 rfl rfl rfl (congrArg Value.bool hb9) rfl) (Eq.refl (some 33)) ?_
        refine @o_n _ _ _ _ _ _ _ _ _ _ _ 34 (za3 rfl rfl rfl (congrArg Value.bool hb9) rfl) (Eq.refl (some 34)) ?_
        refine o_q rfl rfl (zan true (congrArg Value.bool hb9) rfl) ?_
        refine o_end ?_
        refine za1 ?_
        refine zay rfl ?_
        refine c_seq ?_
        refine za0 ?_
        refine o_q rfl rfl (q_asg rfl) ?_
        refine o_q rfl rfl (q_asg rfl) ?_
        refine o_end ?_
        refine za1 ?_
        refine c_ret ?_
        refine za5 ?_
        refine x_nil (Kd.int .i64) 3 ?_
        have e0_ := Option.some.inj h; clear h
        have d0_ := (Prod.mk.inj e0_).1; have e1_ := (Prod.mk.inj e0_).2; clear e0_; subst d0_
        subst e1_
        exact x_r2 (none, 0) Try.results27 (zaf rfl) (zaf rfl) rfl (fun w h => za8 [0] (by decide) rfl w h)
      · replace h := br_f hb9 h
        refine o_w (za4 rfl rfl rfl (congrArg Value.bool hb9)) rfl (za2 rfl) ?_
        refine o_w (za4 rfl rfl rfl (congrArg Value.bool hb9)) rfl (za2 rfl) ?_
        refine o_w (za4 rfl rfl rfl (congrArg Value.bool hb9)) rfl (q_sub64 rfl rfl) ?_
        refine za6 h (fun b11 hx10 h => ?_) rfl
        refine o_ew (za4 rfl rfl rfl (congrArg Value.bool hb9)) (zaa 0 Z Try.func68 N68 rfl rfl rfl (fun w P1 hF hB hS hT => spec_l1All.calls A2 c2 l2.length l2 0 (w64 (a1 - 1)) hB hF (hS _ R2) hc2 _ hx10)) (fun _ => ?_)
        refine o_w (za4 rfl rfl rfl (congrArg Value.bool hb9)) rfl (q_not rfl) ?_
        refine o_q rfl rfl (zan false (congrArg Value.bool hb9) rfl) ?_
        refine o_end ?_
        refine za1 ?_
        refine zar _ rfl (fun hb12 => ?_) (fun hb12 => ?_)
        · replace hb12 := nt_t hb12
          replace h := bb_f hb12 h
          refine c_seq ?_
          refine za0 ?_
          refine o_q rfl rfl (q_asg rfl) ?_
          refine o_q rfl rfl (q_asg rfl) ?_
          refine o_end ?_
          refine za1 ?_
          refine c_ret ?_
          refine za5 ?_
          refine x_nil (Kd.int .i64) 3 ?_
          have e0_ := Option.some.inj h; clear h
          have d0_ := (Prod.mk.inj e0_).1; have e1_ := (Prod.mk.inj e0_).2; clear e0_; subst d0_
          subst e1_
          exact x_r2 (none, 0) Try.results27 (zaf rfl) (zaf rfl) rfl (fun w h => za8 [0] (by decide) rfl w h)
        · replace hb12 := nt_f hb12
          replace h := bb_t hb12 h
          refine zak ?_
          refine za1 ?_
          refine c_seq ?_
          refine za0 ?_
          refine o_q rfl rfl (q_f F30_0 rfl) ?_
          refine o_q rfl rfl (q_ldb Y3 rfl (fun w h => h.za9 (i := 0) rfl) rfl) ?_
          refine za6 h (fun l13 hm14 h => ?_) rfl
          refine o_e rfl (e_make (Kd.int .i64) (0 : Int) Try.underlying22 I3 rfl (by decide) (by decide) (fun _ _ => rfl) rfl rfl hm14) (cur2 (fun A15 c16 => ?_))
          refine o_q rfl rfl (q_asg rfl) ?_
          refine o_end ?_
          refine za1 ?_
          refine c_seq ?_
          refine c_seq ?_
          refine za0 ?_
          refine o_q rfl rfl (q_f F30_1 rfl) ?_
          refine o_q rfl rfl (q_ldb Y22 rfl (fun w h => h.za9 (i := 1) rfl) rfl) ?_
          refine o_q rfl rfl (q_len Try.underlying22 rfl) ?_
          refine o_q rfl rfl (za2 rfl) ?_
          refine o_end ?_
          refine za1 ?_
          refine zaj ?_
          refine za6 h (fun o27 hl26 hR25 => ?_) rfl
          clear h
          refine c_fact (p := l0_1.length ≤ 9223372036854775807) (fun w h => (R0_1.now Z h).2.1) (fun hm24 => ?_)
          refine zav (σ := (List Int) × (List Int) × Int) (fun k22 ((ys21, l18, i19) : (List Int) × (List Int) × Int) => Rg l0_1 i19 ys21 ∧ ys21.length = k22 ∧ spec_RunRegCode.l0 l2 ys21 l18 i19 = some o27) [9, 10, 42, 43, 44, 45, 46, 47, 48, 49, 50, 51, 52, 53, 54] (fun ((ys21, l18, i19) : (List Int) × (List Int) × Int) => [(42, .int .i64 i19)]) (fun ((ys21, l18, i19) : (List Int) × (List Int) × Int) => [row (Kd.int .i64) 3 (.slice A15 l13.length c16) l18, box g1 30 #[.int .i64 a0_0, .slice A0_1 l0_1.length c0_1, .slice A0_2 l0_2.length c0_2, .slice A0_3 l0_3.length c0_3]]) l0_1.length (l0_1, l13, 0) ⟨Rg.start _, rfl, hl26⟩ ⟨rfl, trivial⟩ (fun w h => h) ?_
          refine fun k22 => cur3 (listC (fun l18 i19 U28 hJ_ => ?_) (fun y20 ys21 l18 i19 U28 hJ_ => ?_))
          · skip
            clear hl26
            have hr23 := hJ_.1; have hk29 := hJ_.2.1; have h := hJ_.2.2; clear hJ_
            replace h : spec_RunRegCode.l0 l2 [] l18 i19 = some o27 := h
            rw [spec_RunRegCode.l0] at h
            refine c_seq ?_
            refine za0 ?_
            refine o_q rfl rfl (q_lss rfl rfl) ?_
            refine o_end ?_
            refine za1 ?_
            refine c_seq ?_
            refine zaz (congrArg Value.bool hr23.ge) ?_
            refine zb1 ?_
            refine za7 ?_
            refine za7 ?_
            have e_ := Option.some.inj h; replace h := hR25; rw [← e_] at h; clear e_
            refine x_hit ?_
            refine za1 ?_
            refine c_seq ?_
            refine c_seq ?_
            refine za0 ?_
            refine o_q rfl rfl (q_f F30_2 rfl) ?_
            refine o_q rfl rfl (q_ldb Y28 rfl (fun w h => h.za9 (i := 1) rfl) rfl) ?_
            refine o_q rfl rfl (q_len Try.underlying28 rfl) ?_
            refine o_q rfl rfl (za2 rfl) ?_
            refine o_end ?_
            refine za1 ?_
            refine zaj ?_
            refine za6 h (fun o39 hl38 hR37 => ?_) rfl
            clear h
            refine c_fact (p := l0_2.length ≤ 9223372036854775807) (fun w h => (R0_2.now Z h).2.1) (fun hm36 => ?_)
            refine zav (σ := (List SRegOp) × (List Int) × Int) (fun k34 ((ys33, l30, i31) : (List SRegOp) × (List Int) × Int) => Rg l0_2 i31 ys33 ∧ ys33.length = k34 ∧ spec_RunRegCode.l1 a1 ys33 l30 i31 = some o39) [12, 58, 59, 60, 61, 62, 63, 64, 65, 66, 67, 68, 69, 70, 71, 72, 73, 74, 75, 76, 77, 78, 79] (fun ((ys33, l30, i31) : (List SRegOp) × (List Int) × Int) => [(58, .int .i64 i31)]) (fun ((ys33, l30, i31) : (List SRegOp) × (List Int) × Int) => [row (Kd.int .i64) 3 (.slice A15 l13.length c16) l30, box g1 30 #[.int .i64 a0_0, .slice A0_1 l0_1.length c0_1, .slice A0_2 l0_2.length c0_2, .slice A0_3 l0_3.length c0_3]]) l0_2.length (l0_2, l18, 0) ⟨Rg.start _, rfl, hl38⟩ ⟨rfl, trivial⟩ (fun w h => h) ?_
            refine fun k34 => cur3 (listC (fun l30 i31 U40 hJ_ => ?_) (fun y32 ys33 l30 i31 U40 hJ_ => ?_))
            · skip
              clear hl38
              have hr35 := hJ_.1; have hk41 := hJ_.2.1; have h := hJ_.2.2; clear hJ_
              replace h : spec_RunRegCode.l1 a1 [] l30 i31 = some o39 := h
              rw [spec_RunRegCode.l1] at h
              refine c_seq ?_
              refine za0 ?_
              refine o_q rfl rfl (q_lss rfl rfl) ?_
              refine o_end ?_
              refine za1 ?_
              refine c_seq ?_
              refine zaz (congrArg Value.bool hr35.ge) ?_
              refine zb1 ?_
              refine za7 ?_
              refine za7 ?_
              have e_ := Option.some.inj h; replace h := hR37; rw [← e_] at h; clear e_
              refine x_hit ?_
              refine za1 ?_
              refine c_seq ?_
              refine za0 ?_
              refine o_q rfl rfl (za2 rfl) ?_
              refine o_q rfl rfl (q_f F30_3 rfl) ?_
              refine o_q rfl rfl (q_ldb Y22 rfl (fun w h => h.za9 (i := 1) rfl) rfl) ?_
              refine za6 h (fun l43 hx42 h => ?_) rfl
              refine o_e rfl (zaa 0 Z Try.func69 N69 rfl rfl rfl (fun w P1 hF hB hS hT => spec_moPick.calls A15 c16 l13.length l30 A0_3 c0_3 l0_3.length l0_3 hB hF (hT 0 _ rfl).row (hT 0 _ rfl).cap (hS _ R0_3) hc0_3 _ hx42)) (cur2 (fun A44 c45 => ?_))
              refine o_q rfl rfl (q_asg rfl) ?_
              refine o_q rfl rfl (q_asg rfl) ?_
              refine o_end ?_
              refine za1 ?_
              refine c_ret ?_
              have e0_ := Option.some.inj h; clear h
              have d0_ := (Prod.mk.inj e0_).1; have e1_ := (Prod.mk.inj e0_).2; clear e0_; subst d0_
              subst e1_
              exact x_r2 (A44, c45) Try.results27 (zaf rfl) (zaf rfl) rfl (fun w h => za8 [0] (by decide) rfl w h)
            · skip
              clear hl38
              have hr35 := hJ_.1; have hk41 := hJ_.2.1; have h := hJ_.2.2; clear hJ_
              replace h : spec_RunRegCode.l1 a1 (y32 :: ys33) l30 i31 = some o39 := h
              rw [spec_RunRegCode.l1] at h
              refine c_seq ?_
              refine za0 ?_
              refine o_q rfl rfl (q_lss rfl rfl) ?_
              refine o_end ?_
              refine za1 ?_
              refine c_seq ?_
              refine zay (congrArg Value.bool hr35.lt) ?_
              refine zak ?_
              refine za1 ?_
              refine c_seq ?_
              refine zaj ?_
              refine c_seq ?_
              refine za0 ?_
              refine zau (p := Sh A0_2 l0_2.length l0_2.length) (fun w h => f_sh (dk := zb4) h (fun w h => R0_2.now Z h)) (fun hq46 => ?_)
              refine o_q rfl rfl (q_ix Try.underlying28 Z80 rfl rfl hq46 hr35.get) ?_
              refine o_q rfl rfl (q_ldE G80 Z80 rfl rfl (fun w h => R0_2.now Z h) hr35.get (fun _ _ h => h) rfl) ?_
              refine o_e rfl (zat V80 rfl) (fun g47 => ?_)
              refine o_e rfl (zao (i := 0) rfl rfl rfl Z80 rfl rfl) (fun _ => ?_)
              refine o_end ?_
              refine za1 ?_
              refine za6 h (fun y412 hg411 h => ?_) rfl
              refine za6 h (fun y711 hg710 h => ?_) rfl
              refine za6 h (fun _ hz950 h => ?_) rfl
              refine za6 h (fun y1011 hg1010 h => ?_) rfl
              refine za6 h (fun l1070 hs1071 h => ?_) rfl
              refine a_startS (ds := []) [some 0, none, some 2] MO rfl ?_
              refine zae 0 rfl rfl rfl (by kernel_rfl) (fun _ _ _ h => h) (za2 rfl) ?_
              refine zae 1 rfl rfl rfl (by kernel_rfl) (fun _ _ _ h => h) (q_f F80_0 rfl) ?_
              refine zb3 2 rfl rfl rfl (by kernel_rfl) (fun _ _ _ h => h) (fun w h => zab [some 0, none, some 2] (by decide) w h rfl) (q_ldb Y3 rfl (fun w h => h.za9 (i := 0) rfl) rfl) ?_
              refine zae 3 rfl rfl rfl (by kernel_rfl) (fun _ _ _ h => h) (za2 rfl) ?_
              refine zae 4 rfl rfl rfl (by kernel_rfl) (fun _ _ _ h => h) (q_f F80_1 rfl) ?_
              refine zb3 5 rfl rfl rfl (by kernel_rfl) (fun _ _ _ h => h) (fun w h => zab [some 0, none, some 2] (by decide) w h rfl) (q_ldb Y3 rfl (fun w h => h.za9 (i := 0) rfl) rfl) ?_
              refine a_fact (p := Sh A15 l13.length l30.length) (fun w h => f_sh (dk := (Kd.int .i64)) h (fun w h => h.zas (i := 1) rfl)) (fun hq410 => ?_)
              refine zae 6 rfl rfl rfl (by kernel_rfl) (fun _ _ _ h => h) (q_ix Try.underlying22 Z3 rfl rfl hq410 hg411) ?_
              refine zae 8 rfl rfl rfl (by kernel_rfl) (fun _ _ _ h => h) (za2 rfl) ?_
              refine zae 9 rfl rfl rfl (by kernel_rfl) (fun _ _ _ h => h) (q_f F80_2 rfl) ?_
              refine zb3 10 rfl rfl rfl (by kernel_rfl) (fun _ _ _ h => h) (fun w h => zab [some 0, none, some 2] (by decide) w h rfl) (q_ldb Y3 rfl (fun w h => h.za9 (i := 0) rfl) rfl) ?_
              refine zae 11 rfl rfl rfl (by kernel_rfl) (fun _ _ _ h => h) (q_ix Try.underlying22 Z3 rfl rfl hq410 hg710) ?_
              refine zae 14 rfl rfl rfl (by kernel_rfl) (fun _ _ _ h => h) (za2 rfl) ?_
              refine a_two 7 12 rfl rfl rfl rfl (by kernel_rfl) rfl rfl (ev_q rfl (q_lde (off := 0) Y3 rfl rfl (fun w h => h.zas (i := 1) rfl) hg411 (fun _ _ h => h) rfl)) (fun s w h => zab [some 0, none, some 2] (by decide) w h rfl) (ev_q rfl (q_lde (off := 0) Y3 rfl rfl (fun w h => h.zas (i := 1) rfl) hg710 (fun _ _ h => h) rfl)) (fun s w h => zab [some 0, none, some 2] (by decide) w h rfl) (fun _ => ?_) (fun _ => ?_)
              · skip
                refine a_one 12 rfl rfl (by kernel_rfl) rfl (ev_q rfl (q_lde (off := 0) Y3 rfl rfl (fun w h => h.zas (i := 1) rfl) hg710 (fun _ _ h => h) rfl)) (fun s w h => zab [some 0, none, some 2] (by decide) w h rfl) (fun _ => ?_)
                refine zae 13 rfl rfl rfl (by kernel_rfl) (fun _ _ _ h => h) (q_mul64 rfl rfl) ?_
                refine zae 15 rfl rfl rfl (by kernel_rfl) (fun _ _ _ h => h) (q_rem rfl rfl (nz_ne hz950)) ?_
                refine zae 16 rfl rfl rfl (by kernel_rfl) (fun _ _ _ h => h) (q_ix Try.underlying22 Z3 rfl rfl hq410 hg1010) ?_
                refine a_one 17 rfl rfl (by kernel_rfl) rfl (e_set (i := 1) rfl rfl rfl Z3 hs1071) (fun s w h => zab [some 0, none, some 2] (by decide) w h rfl) (fun _ => ?_)
                refine zb5 (by kernel_rfl) ?_
                refine zaq ?_
                refine za1 ?_
                refine za0 ?_
                refine o_q rfl rfl (q_up rfl rfl (hr35.up hm36)) ?_
                refine o_q rfl rfl (za2 rfl) ?_
                refine o_end ?_
                refine zam ys33.length (ys33, l1070, i31 + 1) (by rw [← hk41]; exact Nat.lt_succ_self _) ⟨hr35.step, rfl, h⟩ ⟨rfl, trivial⟩ (fun w h => za8 [1, 2] (by decide) rfl w h) ?_
                repeat (first | exact zac _ _ | refine zah rfl ?_ | refine zad rfl ?_ | refine zai rfl ?_)
              · skip
                refine a_one 7 rfl rfl (by kernel_rfl) rfl (ev_q rfl (q_lde (off := 0) Y3 rfl rfl (fun w h => h.zas (i := 1) rfl) hg411 (fun _ _ h => h) rfl)) (fun s w h => zab [some 0, none, some 2] (by decide) w h rfl) (fun _ => ?_)
                refine zae 13 rfl rfl rfl (by kernel_rfl) (fun _ _ _ h => h) (q_mul64 rfl rfl) ?_
                refine zae 15 rfl rfl rfl (by kernel_rfl) (fun _ _ _ h => h) (q_rem rfl rfl (nz_ne hz950)) ?_
                refine zae 16 rfl rfl rfl (by kernel_rfl) (fun _ _ _ h => h) (q_ix Try.underlying22 Z3 rfl rfl hq410 hg1010) ?_
                refine a_one 17 rfl rfl (by kernel_rfl) rfl (e_set (i := 1) rfl rfl rfl Z3 hs1071) (fun s w h => zab [some 0, none, some 2] (by decide) w h rfl) (fun _ => ?_)
                refine zb5 (by kernel_rfl) ?_
                refine zaq ?_
                refine za1 ?_
                refine za0 ?_
                refine o_q rfl rfl (q_up rfl rfl (hr35.up hm36)) ?_
                refine o_q rfl rfl (za2 rfl) ?_
                refine o_end ?_
                refine zam ys33.length (ys33, l1070, i31 + 1) (by rw [← hk41]; exact Nat.lt_succ_self _) ⟨hr35.step, rfl, h⟩ ⟨rfl, trivial⟩ (fun w h => za8 [1, 2] (by decide) rfl w h) ?_
                repeat (first | exact zac _ _ | refine zah rfl ?_ | refine zad rfl ?_ | refine zai rfl ?_)
          · skip
            clear hl26
            have hr23 := hJ_.1; have hk29 := hJ_.2.1; have h := hJ_.2.2; clear hJ_
            replace h : spec_RunRegCode.l0 l2 (y20 :: ys21) l18 i19 = some o27 := h
            rw [spec_RunRegCode.l0] at h
            refine c_seq ?_
            refine za0 ?_
            refine o_q rfl rfl (q_lss rfl rfl) ?_
            refine o_end ?_
            refine za1 ?_
            refine c_seq ?_
            refine zay (congrArg Value.bool hr23.lt) ?_
            refine zak ?_
            refine za1 ?_
            refine c_seq ?_
            refine zaj ?_
            refine c_seq ?_
            refine za0 ?_
            refine o_q rfl rfl (za2 rfl) ?_
            refine zau (p := Sh A0_1 l0_1.length l0_1.length) (fun w h => f_sh (dk := (Kd.int .i64)) h (fun w h => R0_1.now Z h)) (fun hq1190 => ?_)
            refine o_q rfl rfl (q_ix Try.underlying22 Z3 rfl rfl hq1190 hr23.get) ?_
            refine o_q rfl rfl (q_lde (off := 0) Y3 rfl rfl (fun w h => R0_1.now Z h) hr23.get (fun _ _ h => h) rfl) ?_
            refine o_q rfl rfl (q_asg rfl) ?_
            refine o_q rfl rfl (q_asg rfl) ?_
            refine o_end ?_
            refine za1 ?_
            refine za0 ?_
            refine o_q rfl rfl (za2 rfl) ?_
            refine o_q rfl rfl (za2 rfl) ?_
            refine o_q rfl rfl (za2 rfl) ?_
            refine o_q rfl rfl (za2 rfl) ?_
            refine zau (p := Sh A2 l2.length l2.length) (fun w h => f_sh (dk := (Kd.int .i64)) h (fun w h => R2.now Z h)) (fun hq1191 => ?_)
            refine za6 h (fun y1193 hg1192 h => ?_) rfl
            refine o_q rfl rfl (q_ix Try.underlying22 Z3 rfl rfl hq1191 hg1192) ?_
            refine o_q rfl rfl (q_lde (off := 0) Y3 rfl rfl (fun w h => R2.now Z h) hg1192 (fun _ _ h => h) rfl) ?_
            refine zau (p := Sh A15 l13.length l18.length) (fun w h => f_sh (dk := (Kd.int .i64)) h (fun w h => h.zas (i := 0) rfl)) (fun hq1194 => ?_)
            refine za6 h (fun y1196 hg1195 h => ?_) rfl
            refine o_q rfl rfl (q_ix Try.underlying22 Z3 rfl rfl hq1194 hg1195) ?_
            refine za6 h (fun l1197 hs1198 h => ?_) rfl
            refine o_e rfl (e_set (i := 0) rfl rfl rfl Z3 hs1198) (fun _ => ?_)
            refine o_end ?_
            refine zaq ?_
            refine za1 ?_
            refine za0 ?_
            refine o_q rfl rfl (q_up rfl rfl (hr23.up hm24)) ?_
            refine o_q rfl rfl (za2 rfl) ?_
            refine o_end ?_
            refine zam ys21.length (ys21, l1197, i19 + 1) (by rw [← hk29]; exact Nat.lt_succ_self _) ⟨hr23.step, rfl, h⟩ ⟨rfl, trivial⟩ (fun w h => za8 [0, 1] (by decide) rfl w h) ?_
            repeat (first | exact zac _ _ | refine zah rfl ?_ | refine zad rfl ?_ | refine zai rfl ?_)
    · replace h := bb_f hb8 h
      refine @o_n _ _ _ _ _ _ _ _ _ _ _ 22 (za3 rfl rfl rfl (congrArg (fun b => Value.bool (!(b))) hb8) rfl) (Eq.refl (some 22)) ?_
      refine @o_n _ _ _ _ _ _ _ _ _ _ _ 23 (za3 rfl rfl rfl (congrArg (fun b => Value.bool (!(b))) hb8) rfl) (Eq.refl (some 23)) ?_
      refine @o_n _ _ _ _ _ _ _ _ _ _ _ 24 (za3 rfl rfl rfl (congrArg (fun b => Value.bool (!(b))) hb8) rfl) (Eq.refl (some 24)) ?_
      refine @o_n _ _ _ _ _ _ _ _ _ _ _ 25 (za3 rfl rfl rfl (congrArg (fun b => Value.bool (!(b))) hb8) rfl) (Eq.refl (some 25)) ?_
      refine @o_n _ _ _ _ _ _ _ _ _ _ _ 26 (za3 rfl rfl rfl (congrArg (fun b => Value.bool (!(b))) hb8) rfl) (Eq.refl (some 26)) ?_
      refine @o_n _ _ _ _ _ _ _ _ _ _ _ 27 (za3 rfl rfl rfl (congrArg (fun b => Value.bool (!(b))) hb8) rfl) (Eq.refl (some 27)) ?_
      refine o_q rfl rfl (zan true (congrArg (fun b => Value.bool (!(b))) hb8) rfl) ?_
      refine o_q rfl rfl (za2 rfl) ?_
      refine @o_n _ _ _ _ _ _ _ _ _ _ _ 30 (za3 rfl rfl rfl rfl rfl) (Eq.refl (some 30)) ?_
      refine @o_n _ _ _ _ _ _ _ _ _ _ _ 31 (za3 rfl rfl rfl rfl rfl) (Eq.refl (some 31)) ?_
      refine @o_n _ _ _ _ _ _ _ _ _ _ _ 32 (za3 rfl rfl rfl rfl rfl) (Eq.refl (some 32)) ?_
      refine @o_n _ _ _ _ _ _ _ _ _ _ _ 33 (za3 rfl rfl rfl rfl rfl) (Eq.refl (some 33)) ?_
      refine @o_n _ _ _ _ _ _ _ _ _ _ _ 34 (za3 rfl rfl rfl rfl rfl) (Eq.refl (some 34)) ?_
      refine o_q rfl rfl (zan true rfl rfl) ?_
      refine o_end ?_
      refine za1 ?_
      refine zay rfl ?_
      refine c_seq ?_
      refine za0 ?_
      refine o_q rfl rfl (q_asg rfl) ?_
      refine o_q rfl rfl (q_asg rfl) ?_
      refine o_end ?_
      refine za1 ?_
      refine c_ret ?_
      refine za5 ?_
      refine x_nil (Kd.int .i64) 3 ?_
      have e0_ := Option.some.inj h; clear h
      have d0_ := (Prod.mk.inj e0_).1; have e1_ := (Prod.mk.inj e0_).2; clear e0_; subst d0_
      subst e1_
      exact x_r2 (none, 0) Try.results27 (zaf rfl) (zaf rfl) rfl (fun w h => za8 [0] (by decide) rfl w h)
  · replace h := bb_f hb5 h
    refine @o_n _ _ _ _ _ _ _ _ _ _ _ 17 (za3 rfl rfl rfl (congrArg (fun b => Value.bool (!(b))) hb5) rfl) (Eq.refl (some 17)) ?_
    refine @o_n _ _ _ _ _ _ _ _ _ _ _ 18 (za3 rfl rfl rfl (congrArg (fun b => Value.bool (!(b))) hb5) rfl) (Eq.refl (some 18)) ?_
    refine @o_n _ _ _ _ _ _ _ _ _ _ _ 19 (za3 rfl rfl rfl (congrArg (fun b => Value.bool (!(b))) hb5) rfl) (Eq.refl (some 19)) ?_
    refine o_q rfl rfl (zan true (congrArg (fun b => Value.bool (!(b))) hb5) rfl) ?_
    refine o_q rfl rfl (za2 rfl) ?_
    refine @o_n _ _ _ _ _ _ _ _ _ _ _ 22 (za3 rfl rfl rfl rfl rfl) (Eq.refl (some 22)) ?_
    refine @o_n _ _ _ _ _ _ _ _ _ _ _ 23 (za3 rfl rfl rfl rfl rfl) (Eq.refl (some 23)) ?_
    refine @o_n _ _ _ _ _ _ _ _ _ _ _ 24 (za3 rfl rfl rfl rfl rfl) (Eq.refl (some 24)) ?_
    refine @o_n _ _ _ _ _ _ _ _ _ _ _ 25 (za3 rfl rfl rfl rfl rfl) (Eq.refl (some 25)) ?_
    refine @o_n _ _ _ _ _ _ _ _ _ _ _ 26 (za3 rfl rfl rfl rfl rfl) (Eq.refl (some 26)) ?_
    refine @o_n _ _ _ _ _ _ _ _ _ _ _ 27 (za3 rfl rfl rfl rfl rfl) (Eq.refl (some 27)) ?_
    refine o_q rfl rfl (zan true rfl rfl) ?_
    refine o_q rfl rfl (za2 rfl) ?_
    refine @o_n _ _ _ _ _ _ _ _ _ _ _ 30 (za3 rfl rfl rfl rfl rfl) (Eq.refl (some 30)) ?_
    refine @o_n _ _ _ _ _ _ _ _ _ _ _ 31 (za3 rfl rfl rfl rfl rfl) (Eq.refl (some 31)) ?_
    refine @o_n _ _ _ _ _ _ _ _ _ _ _ 32 (za3 rfl rfl rfl rfl rfl) (Eq.refl (some 32)) ?_
    refine @o_n _ _ _ _ _ _ _ _ _ _ _ 33 (za3 rfl rfl rfl rfl rfl) (Eq.refl (some 33)) ?_
    refine @o_n _ _ _ _ _ _ _ _ _ _ _ 34 (za3 rfl rfl rfl rfl rfl) (Eq.refl (some 34)) ?_
    refine o_q rfl rfl (zan true rfl rfl) ?_
    refine o_end ?_
    refine za1 ?_
    refine zay rfl ?_
    refine c_seq ?_
    refine za0 ?_
    refine o_q rfl rfl (q_asg rfl) ?_
    refine o_q rfl rfl (q_asg rfl) ?_
    refine o_end ?_
    refine za1 ?_
    refine c_ret ?_
    refine za5 ?_
    refine x_nil (Kd.int .i64) 3 ?_
    have e0_ := Option.some.inj h; clear h
    have d0_ := (Prod.mk.inj e0_).1; have e1_ := (Prod.mk.inj e0_).2; clear e0_; subst d0_
    subst e1_
    exact x_r2 (none, 0) Try.results27 (zaf rfl) (zaf rfl) rfl (fun w h => za8 [0] (by decide) rfl w h)

/-! ### loop.example/g01098/impl.in: function 83 -/
def impl_in.f (a0 : Int) (a1 : Int) (a2 : Int) : Option Bool := if a1 ≤ a0 then (some (decide (a0 ≤ a2))) else (some false)
set_option maxHeartbeats 600000 in
set_option maxRecDepth 100000 in
theorem impl_in.calls {w0 ws : World} {P0 : Nat → Prop} (a0 : Int) (a1 : Int) (a2 : Int) (Z : Below w0.heap.size w0 ws) (hF : Fr w0 ws P0 [] ws)  (r_1 : Bool) (h : impl_in.f a0 a1 a2 = some r_1) :
    Calls Try.prog 83 #[.int .i64 a0, .int .i64 a1, .int .i64 a2] ws (Post1 w0 ws P0 (fun (_ : Unit) => .bool r_1) (fun (_ : Unit) => [])) := by
  unfold impl_in.f at h
  refine enter Try.func83 rfl Try.ntmps83 rfl hF ?_
  refine c_seq ?_
  refine za0 ?_
  refine o_q rfl rfl (q_asg rfl) ?_
  refine o_end ?_
  refine za1 ?_
  refine c_seq ?_
  refine za0 ?_
  refine o_q rfl rfl (za2 rfl) ?_
  refine o_q rfl rfl (za2 rfl) ?_
  refine o_q rfl rfl (q_geq rfl rfl) ?_
  refine o_q rfl rfl (za2 rfl) ?_
  refine byB (decide (a1 ≤ a0)) (fun hb1 => ?_) (fun hb1 => ?_)
  · replace h := br_t hb1 h
    refine o_w (za4 rfl rfl rfl (congrArg Value.bool hb1)) rfl (za2 rfl) ?_
    refine o_w (za4 rfl rfl rfl (congrArg Value.bool hb1)) rfl (za2 rfl) ?_
    refine o_w (za4 rfl rfl rfl (congrArg Value.bool hb1)) rfl (q_leq rfl rfl) ?_
    refine o_q rfl rfl (zan true (congrArg Value.bool hb1) rfl) ?_
    refine o_q rfl rfl (q_asg rfl) ?_
    refine o_end ?_
    refine za1 ?_
    refine c_ret ?_
    have e0_ := Option.some.inj h; clear h
    subst e0_
    exact x_r1 () Try.results83 (zaf rfl) rfl (fun w h => za8 [] (by decide) rfl w h)
  · replace h := br_f hb1 h
    refine @o_n _ _ _ _ _ _ _ _ _ _ _ 11 (za3 rfl rfl rfl (congrArg Value.bool hb1) rfl) (Eq.refl (some 11)) ?_
    refine @o_n _ _ _ _ _ _ _ _ _ _ _ 12 (za3 rfl rfl rfl (congrArg Value.bool hb1) rfl) (Eq.refl (some 12)) ?_
    refine @o_n _ _ _ _ _ _ _ _ _ _ _ 13 (za3 rfl rfl rfl (congrArg Value.bool hb1) rfl) (Eq.refl (some 13)) ?_
    refine o_q rfl rfl (zan false (congrArg Value.bool hb1) rfl) ?_
    refine o_q rfl rfl (q_asg rfl) ?_
    refine o_end ?_
    refine za1 ?_
    refine c_ret ?_
    have e0_ := Option.some.inj h; clear h
    subst e0_
    exact x_r1 () Try.results83 (zaf rfl) rfl (fun w h => za8 [] (by decide) rfl w h)

/-! ### (*loop.example/g01098/impl.RegCode).read$1: function 170 -/
def impl_RegCode_read_1.f (a0 : Int) (l1_0 : List Int) : Option Bool := (impl_in.f a0 0 (w64 ((l1_0.length : Int) - 1))).bind fun b2 => some b2
set_option maxHeartbeats 600000 in
set_option maxRecDepth 100000 in
theorem impl_RegCode_read_1.calls {w0 ws : World} {P0 : Nat → Prop} (a0 : Int) (g1 : Nat) (A1_0 : Option Addr) (c1_0 : Nat) (n1_0 : Nat) (l1_0 : List Int) (Z : Below w0.heap.size w0 ws) (hF : Fr w0 ws P0 [] ws) (R1_0 : Stable ws P0 (fun w => Kd.C (Kd.int .i64) w A1_0 n1_0 l1_0)) (hc1_0 : n1_0 ≤ c1_0) (B1 : Stable ws P0 (fun w => w.heap[g1]? = some (.cells #[.slice A1_0 n1_0 c1_0] 22 (0, 0)))) (r_1 : Bool) (h : impl_RegCode_read_1.f a0 l1_0 = some r_1) :
    Calls Try.prog 170 #[.int .i64 a0, .pointer (some ⟨g1, 0, none⟩)] ws (Post1 w0 ws P0 (fun (_ : Unit) => .bool r_1) (fun (_ : Unit) => [])) := by
  unfold impl_RegCode_read_1.f at h
  obtain rfl := (R1_0 ws (KeptB.refl _ _)).1
  refine enter Try.func170 rfl Try.ntmps170 rfl hF ?_
  refine c_seq ?_
  refine za0 ?_
  refine o_q rfl rfl (q_asg rfl) ?_
  refine o_end ?_
  refine za1 ?_
  refine c_seq ?_
  refine za0 ?_
  refine o_q rfl rfl (za2 rfl) ?_
  refine o_q rfl rfl (q_ldb Y22 rfl (fun w h => B1.now Z h) rfl) ?_
  refine o_q rfl rfl (q_len Try.underlying22 rfl) ?_
  refine o_q rfl rfl (q_sub64 rfl rfl) ?_
  refine za6 h (fun b2 hx1 h => ?_) rfl
  refine o_e rfl (zaa 0 Z Try.func83 N83 rfl rfl rfl (fun w P1 hF hB hS hT => impl_in.calls a0 0 (w64 ((l1_0.length : Int) - 1)) hB hF _ hx1)) (fun _ => ?_)
  refine o_q rfl rfl (q_asg rfl) ?_
  refine o_end ?_
  refine za1 ?_
  refine c_ret ?_
  have e0_ := Option.some.inj h; clear h
  subst e0_
  exact x_r1 () Try.results170 (zaf rfl) rfl (fun w h => za8 [] (by decide) rfl w h)

/-! ### loop.example/g01098/impl.step: function 151 -/
def impl_step.f (a0 : Int) (a1 : Int) : Option Unit := some ()
set_option maxHeartbeats 600000 in
set_option maxRecDepth 100000 in
theorem impl_step.calls {w0 ws : World} {P0 : Nat → Prop} (a0 : Int) (a1 : Int) (Z : Below w0.heap.size w0 ws) (hF : Fr w0 ws P0 [] ws)   (h : impl_step.f a0 a1 = some ()) :
    Calls Try.prog 151 #[.int .i64 a0, .int .i64 a1] ws (Post1 w0 ws P0 (fun (_ : Unit) => .agg #[.int .i64 (mn a0 a1), .int .i64 (mx a0 a1)]) (fun (_ : Unit) => [])) := by
  unfold impl_step.f at h
  refine enter Try.func151 rfl Try.ntmps151 rfl hF ?_
  refine c_seq ?_
  refine za0 ?_
  refine o_e rfl (zat V117 rfl) (fun g1 => ?_)
  refine o_end ?_
  refine za1 ?_
  refine c_seq ?_
  refine za0 ?_
  refine o_q rfl rfl (za2 rfl) ?_
  refine o_q rfl rfl (za2 rfl) ?_
  refine o_q rfl rfl (q_min rfl rfl) ?_
  refine o_q rfl rfl (za2 rfl) ?_
  refine o_q rfl rfl (za2 rfl) ?_
  refine o_q rfl rfl (q_max rfl rfl) ?_
  refine o_q rfl rfl (q_build (vs := [(0, .int .i64 (mn a0 a1)), (1, .int .i64 (mx a0 a1))]) (cs := [.int .i64 (mn a0 a1), .int .i64 (mx a0 a1)]) rfl rfl) ?_
  refine o_e rfl (zao (i := 0) rfl rfl rfl Z117 rfl rfl) (fun _ => ?_)
  refine o_end ?_
  refine za1 ?_
  refine c_ret ?_
  exact x_r1 () Try.results151 (rv_cell rfl G117 Z117 (fun w h => h.za9 (i := 0) rfl) rfl) rfl (fun w h => za8 [] (by decide) rfl w h)

/-! ### (*loop.example/g01098/impl.Plan).many: function 119 -/
def impl_Plan_many.f (a0_0 : Int) (l0_1 : List SStep) (l0_2 : List Int) : Option Unit := some ()
set_option maxHeartbeats 600000 in
set_option maxRecDepth 100000 in
theorem impl_Plan_many.calls {w0 ws : World} {P0 : Nat → Prop} (g0 : Nat) (a0_0 : Int) (A0_1 : Option Addr) (c0_1 : Nat) (n0_1 : Nat) (l0_1 : List SStep) (A0_2 : Option Addr) (c0_2 : Nat) (n0_2 : Nat) (l0_2 : List Int) (Z : Below w0.heap.size w0 ws) (hF : Fr w0 ws P0 [] ws) (R0_1 : Stable ws P0 (fun w => Kd.C kStep w A0_1 n0_1 l0_1)) (hc0_1 : n0_1 ≤ c0_1) (R0_2 : Stable ws P0 (fun w => Kd.C (Kd.int .i64) w A0_2 n0_2 l0_2)) (hc0_2 : n0_2 ≤ c0_2) (B0 : Stable ws P0 (fun w => w.heap[g0]? = some (.cells #[.int .i64 a0_0, .slice A0_1 n0_1 c0_1, .slice A0_2 n0_2 c0_2] 36 (0, 0))))  (h : impl_Plan_many.f a0_0 l0_1 l0_2 = some ()) :
    Calls Try.prog 119 #[.pointer (some ⟨g0, 0, none⟩)] ws (Post1 w0 ws P0 (fun (_ : Unit) => .int .i64 (w64 (a0_0 + (l0_1.length : Int)))) (fun (_ : Unit) => [])) := by
  unfold impl_Plan_many.f at h
  obtain rfl := (R0_1 ws (KeptB.refl _ _)).1
  obtain rfl := (R0_2 ws (KeptB.refl _ _)).1
  refine enter Try.func119 rfl Try.ntmps119 rfl hF ?_
  refine c_seq ?_
  refine za0 ?_
  refine o_q rfl rfl (q_asg rfl) ?_
  refine o_end ?_
  refine za1 ?_
  refine c_seq ?_
  refine a_start (ds := []) MO rfl ?_
  refine zae 0 rfl rfl rfl (by kernel_rfl) (fun _ _ _ h => h) (za2 rfl) ?_
  refine zae 1 rfl rfl rfl (by kernel_rfl) (fun _ _ _ h => h) (q_nil rfl) ?_
  refine zae 2 rfl rfl rfl (by kernel_rfl) (fun _ _ _ h => h) (q_f F36_0 rfl) ?_
  refine zb3 3 rfl rfl rfl (by kernel_rfl) (fun _ _ _ h => h) (fun w h => h) (q_ldb Y3 rfl (fun w h => B0.now Z h) rfl) ?_
  refine zae 4 rfl rfl rfl (by kernel_rfl) (fun _ _ _ h => h) (za2 rfl) ?_
  refine zae 5 rfl rfl rfl (by kernel_rfl) (fun _ _ _ h => h) (q_nil rfl) ?_
  refine zae 6 rfl rfl rfl (by kernel_rfl) (fun _ _ _ h => h) (q_f F36_1 rfl) ?_
  refine zb3 7 rfl rfl rfl (by kernel_rfl) (fun _ _ _ h => h) (fun w h => h) (q_ldb Y34 rfl (fun w h => B0.now Z h) rfl) ?_
  refine zae 8 rfl rfl rfl (by kernel_rfl) (fun _ _ _ h => h) (q_len Try.underlying34 rfl) ?_
  refine zae 9 rfl rfl rfl (by kernel_rfl) (fun _ _ _ h => h) (zb0 rfl rfl) ?_
  refine zae 10 rfl rfl rfl (by kernel_rfl) (fun _ _ _ h => h) (q_asg rfl) ?_
  refine zb5 (by kernel_rfl) ?_
  refine za1 ?_
  refine c_ret ?_
  exact x_r1 () Try.results119 (zaf rfl) rfl (fun w h => za8 [] (by decide) rfl w h)

/-! ### (*loop.example/g01098/impl.RegCode).read: function 126 -/
def impl_RegCode_read.l2 (l2308 : List Int) : (List Int) → (List Int) → Int → Option ((Int × (List SStep) × (List Int) × Bool) ⊕ ((List Int)))
  | [], l2324, i2327 => some (.inr l2324)
  | y2328 :: ys2329, l2324, i2327 => ((impl_RegCode_read_1.f y2328 l2308).bind fun b2354 => if b2354 = true then ((gt l2308 y2328).bind fun y2358 => some (decide (y2358 = (-1)))) else (some true)).bind fun b2347 => if b2347 = true then (some (.inl (0, ([] : List SStep), ([] : List Int), false))) else ((gt l2308 y2328).bind fun y2603 => (ap l2324 ([y2603] : List Int)).bind fun l2781 => impl_RegCode_read.l2 l2308 ys2329 l2781 (i2327 + 1))
def impl_RegCode_read.l1 (l0_1 : List Int) : (List SRegOp) → (List Int) → (List SStep) → Int → Option ((Int × (List SStep) × (List Int) × Bool) ⊕ ((List Int) × (List SStep)))
  | [], l2308, l2309, i2312 => some (.inr (l2308, l2309))
  | y2313 :: ys2314, l2308, l2309, i2312 => ((impl_RegCode_read_1.f y2313.f0 l2308).bind fun b3046 => if b3046 = true then ((impl_RegCode_read_1.f y2313.f1 l2308).bind fun b3049 => if b3049 = true then ((impl_RegCode_read_1.f y2313.f2 l2308).bind fun b3052 => if b3052 = true then ((gt l2308 y2313.f1).bind fun y3056 => if y3056 = (-1) then (some true) else ((gt l2308 y2313.f2).bind fun y3059 => some (decide (y3059 = (-1))))) else (some true)) else (some true)) else (some true)).bind fun b3039 => if b3039 = true then (some (.inl (0, ([] : List SStep), ([] : List Int), false))) else (((gt l2308 y2313.f1).bind fun y4453 => (gt l2308 y2313.f2).bind fun y4752 => (impl_step.f y4453 y4752).bind fun _ => (ap l2309 ([(⟨mn y4453 y4752, mx y4453 y4752⟩ : SStep)] : List SStep)).bind fun l4991 => some l4991).bind fun l4142 => (impl_Plan_many.f (l0_1.length : Int) l4142 []).bind fun _ => (gt l2308 y2313.f0).bind fun y5234 => (st l2308 y2313.f0 (w64 (w64 ((l0_1.length : Int) + (l4142.length : Int)) - 1))).bind fun l5235 => impl_RegCode_read.l1 l0_1 ys2314 l5235 l4142 (i2312 + 1))
def impl_RegCode_read.l0 : (List Int) → (List Int) → Int → Option ((Int × (List SStep) × (List Int) × Bool) ⊕ ((List Int)))
  | [], l2295, i2296 => some (.inr l2295)
  | y2297 :: ys2298, l2295, i2296 => ((impl_RegCode_read_1.f y2297 l2295).bind fun b5251 => if b5251 = true then ((gt l2295 y2297).bind fun y5255 => some (decide (y5255 ≠ (-1)))) else (some true)).bind fun b5244 => if b5244 = true then (some (.inl (0, ([] : List SStep), ([] : List Int), false))) else ((gt l2295 y2297).bind fun y5259 => (st l2295 y2297 i2296).bind fun l5260 => impl_RegCode_read.l0 ys2298 l5260 (i2296 + 1))
def impl_RegCode_read.f (a0_0 : Int) (l0_1 : List Int) (l0_2 : List SRegOp) (l0_3 : List Int) : Option (Int × (List SStep) × (List Int) × Bool) := ((slices_Repeat_int_int.f ([(-1)] : List Int) (mx (mn a0_0 46) 0)).bind fun l1936 => some l1936).bind fun l1146 => (impl_RegCode_read.l0 l0_1 l1146 0).bind fun o_ => match o_ with | .inl r_ => some r_ | .inr l2295 => (impl_RegCode_read.l1 l0_1 l0_2 l2295 ([] : List SStep) 0).bind fun o_ => match o_ with | .inl r_ => some r_ | .inr (l2308, l2309) => (impl_RegCode_read.l2 l2308 l0_3 ([] : List Int) 0).bind fun o_ => match o_ with | .inl r_ => some r_ | .inr l2324 => (impl_in.f a0_0 1 46).bind fun b2339 => some ((l0_1.length : Int), l2309, l2324, b2339)
set_option maxHeartbeats 600000 in
set_option maxRecDepth 100000 in
theorem impl_RegCode_read.calls {w0 ws : World} {P0 : Nat → Prop} (g0 : Nat) (a0_0 : Int) (A0_1 : Option Addr) (c0_1 : Nat) (n0_1 : Nat) (l0_1 : List Int) (A0_2 : Option Addr) (c0_2 : Nat) (n0_2 : Nat) (l0_2 : List SRegOp) (A0_3 : Option Addr) (c0_3 : Nat) (n0_3 : Nat) (l0_3 : List Int) (Z : Below w0.heap.size w0 ws) (hF : Fr w0 ws P0 [] ws) (R0_1 : Stable ws P0 (fun w => Kd.C (Kd.int .i64) w A0_1 n0_1 l0_1)) (hc0_1 : n0_1 ≤ c0_1) (R0_2 : Stable ws P0 (fun w => Kd.C zb4 w A0_2 n0_2 l0_2)) (hc0_2 : n0_2 ≤ c0_2) (R0_3 : Stable ws P0 (fun w => Kd.C (Kd.int .i64) w A0_3 n0_3 l0_3)) (hc0_3 : n0_3 ≤ c0_3) (B0 : Stable ws P0 (fun w => w.heap[g0]? = some (.cells #[.int .i64 a0_0, .slice A0_1 n0_1 c0_1, .slice A0_2 n0_2 c0_2, .slice A0_3 n0_3 c0_3] 30 (0, 0)))) (r_1 : Int) (r_2 : List SStep) (r_5 : List Int) (r_8 : Bool) (h : impl_RegCode_read.f a0_0 l0_1 l0_2 l0_3 = some (r_1, r_2, r_5, r_8)) :
    Calls Try.prog 126 #[.pointer (some ⟨g0, 0, none⟩)] ws (Post1 w0 ws P0 (fun ((q_3, q_4, q_6, q_7) : (Option Addr) × Nat × (Option Addr) × Nat) => .tuple #[.agg #[.int .i64 r_1, .slice q_3 r_2.length q_4, .slice q_6 r_5.length q_7], .bool r_8]) (fun ((q_3, q_4, q_6, q_7) : (Option Addr) × Nat × (Option Addr) × Nat) => [row kStep 117 (.slice q_3 r_2.length q_4) r_2, row (Kd.int .i64) 3 (.slice q_6 r_5.length q_7) r_5])) := by
  unfold impl_RegCode_read.f at h
  obtain rfl := (R0_1 ws (KeptB.refl _ _)).1
  obtain rfl := (R0_2 ws (KeptB.refl _ _)).1
  obtain rfl := (R0_3 ws (KeptB.refl _ _)).1
  refine enter Try.func126 rfl Try.ntmps126 rfl hF ?_
  refine c_seq ?_
  refine za0 ?_
  refine o_e rfl (zat V36 rfl) (fun g1 => ?_)
  refine o_q rfl rfl (q_asg rfl) ?_
  refine o_end ?_
  refine za1 ?_
  refine za6 h (fun o1149 hl1150 hR1151 => ?_) rfl
  clear h
  refine c_cutJ (σ := (List Int) × Nat × Nat × (Option Addr) × Nat) (fun (l1146, g1144, g1145, A1147, c1148) => some l1146 = some o1149) [4, 5, 13, 14, 15, 16, 17, 18, 19, 20, 21, 22, 23, 24, 25, 26] (fun (l1146, g1144, g1145, A1147, c1148) => [(4, .pointer (some ⟨g1144, 0, none⟩)), (5, .pointer (some ⟨g1145, 0, none⟩))]) (fun (l1146, g1144, g1145, A1147, c1148) => [box g1 36 #[.int .i64 0, .slice none 0 0, .slice none 0 0], box g1144 36 #[.int .i64 (l0_1.length : Int), .slice none 0 0, .slice none 0 0], box g1145 22 #[.slice A1147 l1146.length c1148], row (Kd.int .i64) 3 (.slice A1147 l1146.length c1148) l1146]) ?_ ?_
  · skip
    have h := hl1150; clear hl1150
    clear hR1151
    refine za6 h (fun l1936 hx1935 h => ?_) rfl
    refine a_start (ds := []) MO rfl ?_
    refine zae 0 rfl rfl rfl (by kernel_rfl) (fun _ _ _ h => h) (za2 rfl) ?_
    refine zae 1 rfl rfl rfl (by kernel_rfl) (fun _ _ _ h => h) (q_nil rfl) ?_
    refine zae 2 rfl rfl rfl (by kernel_rfl) (fun _ _ _ h => h) (q_f F30_1 rfl) ?_
    refine zb3 3 rfl rfl rfl (by kernel_rfl) (fun _ _ _ h => h) (fun w h => h) (q_ldb Y22 rfl (fun w h => B0.now Z h) rfl) ?_
    refine zae 4 rfl rfl rfl (by kernel_rfl) (fun _ _ _ h => h) (q_len Try.underlying22 rfl) ?_
    refine zae 5 rfl rfl rfl (by kernel_rfl) (fun _ _ _ h => h) (q_build (vs := [(0, .int .i64 (l0_1.length : Int))]) (cs := [.int .i64 (l0_1.length : Int), .slice none 0 0, .slice none 0 0]) rfl rfl) ?_
    refine zae 7 rfl rfl rfl (by kernel_rfl) (fun _ _ _ h => h) (za2 rfl) ?_
    refine zae 8 rfl rfl rfl (by kernel_rfl) (fun _ _ _ h => h) (q_nil rfl) ?_
    refine zae 9 rfl rfl rfl (by kernel_rfl) (fun _ _ _ h => h) (q_f F30_0 rfl) ?_
    refine zb3 10 rfl rfl rfl (by kernel_rfl) (fun _ _ _ h => h) (fun w h => h) (q_ldb Y3 rfl (fun w h => B0.now Z h) rfl) ?_
    refine zae 11 rfl rfl rfl (by kernel_rfl) (fun _ _ _ h => h) (q_min rfl rfl) ?_
    refine zae 12 rfl rfl rfl (by kernel_rfl) (fun _ _ _ h => h) (q_max rfl rfl) ?_
    refine a_three 6 14 15 rfl rfl rfl rfl rfl rfl (by kernel_rfl) rfl rfl rfl (e_lit (vs := [(0, .int .i64 (-1))]) (cs := [.int .i64 (-1)]) (Kd.int .i64) ([(-1)] : List Int) Try.underlying22 I3 (by decide) rfl (by decide) rfl rfl (fun _ _ => Kd.zaw _)) (fun s w h => zab [some 1] (by decide) w h rfl) (zat V36 rfl) (fun s w h => zab [some 1] (by decide) w h rfl) (zat V22 rfl) (fun s w h => zab [some 1] (by decide) w h rfl) (cur2 (fun A1515 c1516 => ?_)) (fun g1995 => ?_) (fun g2055 => ?_)
    · skip
      refine a_three 13 14 15 rfl rfl rfl rfl rfl rfl (by kernel_rfl) rfl rfl rfl (zaa 0 Z Try.func118 N118 rfl rfl rfl (fun w P1 hF hB hS hT => slices_Repeat_int_int.calls A1515 c1516 (([(-1)] : List Int).length) ([(-1)] : List Int) (mx (mn a0_0 46) 0) hB hF (hT 0 _ rfl).row (hT 0 _ rfl).cap _ hx1935)) (fun s w h => zab [some 2] (by decide) w h rfl) (zat V36 rfl) (fun s w h => zab [some 2] (by decide) w h rfl) (zat V22 rfl) (fun s w h => zab [some 2] (by decide) w h rfl) (cur2 (fun A1937 c1938 => ?_)) (fun g1995 => ?_) (fun g2055 => ?_)
      · skip
        refine a_two 14 15 rfl rfl rfl rfl (by kernel_rfl) rfl rfl (zat V36 rfl) (fun s w h => zab [some 3] (by decide) w h rfl) (zat V22 rfl) (fun s w h => zab [some 3] (by decide) w h rfl) (fun g1995 => ?_) (fun g2055 => ?_)
        · skip
          refine a_one 15 rfl rfl (by kernel_rfl) rfl (zat V22 rfl) (fun s w h => zab [some 4] (by decide) w h rfl) (fun g2055 => ?_)
          refine a_one 16 rfl rfl (by kernel_rfl) rfl (zao (i := 1) rfl rfl rfl Z36 rfl rfl) (fun s w h => zab [some 4] (by decide) w h rfl) (fun _ => ?_)
          refine a_one 17 rfl rfl (by kernel_rfl) rfl (zb7 (i := 0) rfl rfl rfl rfl Z22 rfl rfl) (fun s w h => zab [some 4] (by decide) w h rfl) (fun _ => ?_)
          refine zb5 (by kernel_rfl) ?_
          refine zb2 (l1936, g1995, g2055, A1937, c1938) h ⟨rfl, rfl, trivial⟩ (fun w h => za8 [4, 1, 0, 2] (by decide) rfl w h) ?_
          repeat (first | exact zac _ _ | refine zah rfl ?_ | refine zad rfl ?_ | refine zai rfl ?_)
        · skip
          refine a_one 14 rfl rfl (by kernel_rfl) rfl (zat V36 rfl) (fun s w h => zab [some 4] (by decide) w h rfl) (fun g1995 => ?_)
          refine a_one 16 rfl rfl (by kernel_rfl) rfl (zao (i := 0) rfl rfl rfl Z36 rfl rfl) (fun s w h => zab [some 4] (by decide) w h rfl) (fun _ => ?_)
          refine a_one 17 rfl rfl (by kernel_rfl) rfl (zb7 (i := 1) rfl rfl rfl rfl Z22 rfl rfl) (fun s w h => zab [some 4] (by decide) w h rfl) (fun _ => ?_)
          refine zb5 (by kernel_rfl) ?_
          refine zb2 (l1936, g1995, g2055, A1937, c1938) h ⟨rfl, rfl, trivial⟩ (fun w h => za8 [4, 0, 1, 2] (by decide) rfl w h) ?_
          repeat (first | exact zac _ _ | refine zah rfl ?_ | refine zad rfl ?_ | refine zai rfl ?_)
      · skip
        refine a_two 13 15 rfl rfl rfl rfl (by kernel_rfl) rfl rfl (zaa 0 Z Try.func118 N118 rfl rfl rfl (fun w P1 hF hB hS hT => slices_Repeat_int_int.calls A1515 c1516 (([(-1)] : List Int).length) ([(-1)] : List Int) (mx (mn a0_0 46) 0) hB hF (hT 1 _ rfl).row (hT 1 _ rfl).cap _ hx1935)) (fun s w h => zab [some 3] (by decide) w h rfl) (zat V22 rfl) (fun s w h => zab [some 3] (by decide) w h rfl) (cur2 (fun A1937 c1938 => ?_)) (fun g2055 => ?_)
        · skip
          refine a_one 15 rfl rfl (by kernel_rfl) rfl (zat V22 rfl) (fun s w h => zab [some 4] (by decide) w h rfl) (fun g2055 => ?_)
          refine a_one 16 rfl rfl (by kernel_rfl) rfl (zao (i := 2) rfl rfl rfl Z36 rfl rfl) (fun s w h => zab [some 4] (by decide) w h rfl) (fun _ => ?_)
          refine a_one 17 rfl rfl (by kernel_rfl) rfl (zb7 (i := 0) rfl rfl rfl rfl Z22 rfl rfl) (fun s w h => zab [some 4] (by decide) w h rfl) (fun _ => ?_)
          refine zb5 (by kernel_rfl) ?_
          refine zb2 (l1936, g1995, g2055, A1937, c1938) h ⟨rfl, rfl, trivial⟩ (fun w h => za8 [4, 2, 0, 1] (by decide) rfl w h) ?_
          repeat (first | exact zac _ _ | refine zah rfl ?_ | refine zad rfl ?_ | refine zai rfl ?_)
        · skip
          refine a_one 13 rfl rfl (by kernel_rfl) rfl (zaa 0 Z Try.func118 N118 rfl rfl rfl (fun w P1 hF hB hS hT => slices_Repeat_int_int.calls A1515 c1516 (([(-1)] : List Int).length) ([(-1)] : List Int) (mx (mn a0_0 46) 0) hB hF (hT 2 _ rfl).row (hT 2 _ rfl).cap _ hx1935)) (fun s w h => zab [some 4] (by decide) w h rfl) (cur2 (fun A1937 c1938 => ?_))
          refine a_one 16 rfl rfl (by kernel_rfl) rfl (zao (i := 2) rfl rfl rfl Z36 rfl rfl) (fun s w h => zab [some 4] (by decide) w h rfl) (fun _ => ?_)
          refine a_one 17 rfl rfl (by kernel_rfl) rfl (zb7 (i := 1) rfl rfl rfl rfl Z22 rfl rfl) (fun s w h => zab [some 4] (by decide) w h rfl) (fun _ => ?_)
          refine zb5 (by kernel_rfl) ?_
          refine zb2 (l1936, g1995, g2055, A1937, c1938) h ⟨rfl, rfl, trivial⟩ (fun w h => za8 [4, 2, 1, 0] (by decide) rfl w h) ?_
          repeat (first | exact zac _ _ | refine zah rfl ?_ | refine zad rfl ?_ | refine zai rfl ?_)
      · skip
        refine a_two 13 14 rfl rfl rfl rfl (by kernel_rfl) rfl rfl (zaa 0 Z Try.func118 N118 rfl rfl rfl (fun w P1 hF hB hS hT => slices_Repeat_int_int.calls A1515 c1516 (([(-1)] : List Int).length) ([(-1)] : List Int) (mx (mn a0_0 46) 0) hB hF (hT 1 _ rfl).row (hT 1 _ rfl).cap _ hx1935)) (fun s w h => zab [some 3] (by decide) w h rfl) (zat V36 rfl) (fun s w h => zab [some 3] (by decide) w h rfl) (cur2 (fun A1937 c1938 => ?_)) (fun g1995 => ?_)
        · skip
          refine a_one 14 rfl rfl (by kernel_rfl) rfl (zat V36 rfl) (fun s w h => zab [some 4] (by decide) w h rfl) (fun g1995 => ?_)
          refine a_one 16 rfl rfl (by kernel_rfl) rfl (zao (i := 0) rfl rfl rfl Z36 rfl rfl) (fun s w h => zab [some 4] (by decide) w h rfl) (fun _ => ?_)
          refine a_one 17 rfl rfl (by kernel_rfl) rfl (zb7 (i := 2) rfl rfl rfl rfl Z22 rfl rfl) (fun s w h => zab [some 4] (by decide) w h rfl) (fun _ => ?_)
          refine zb5 (by kernel_rfl) ?_
          refine zb2 (l1936, g1995, g2055, A1937, c1938) h ⟨rfl, rfl, trivial⟩ (fun w h => za8 [4, 0, 2, 1] (by decide) rfl w h) ?_
          repeat (first | exact zac _ _ | refine zah rfl ?_ | refine zad rfl ?_ | refine zai rfl ?_)
        · skip
          refine a_one 13 rfl rfl (by kernel_rfl) rfl (zaa 0 Z Try.func118 N118 rfl rfl rfl (fun w P1 hF hB hS hT => slices_Repeat_int_int.calls A1515 c1516 (([(-1)] : List Int).length) ([(-1)] : List Int) (mx (mn a0_0 46) 0) hB hF (hT 2 _ rfl).row (hT 2 _ rfl).cap _ hx1935)) (fun s w h => zab [some 4] (by decide) w h rfl) (cur2 (fun A1937 c1938 => ?_))
          refine a_one 16 rfl rfl (by kernel_rfl) rfl (zao (i := 1) rfl rfl rfl Z36 rfl rfl) (fun s w h => zab [some 4] (by decide) w h rfl) (fun _ => ?_)
          refine a_one 17 rfl rfl (by kernel_rfl) rfl (zb7 (i := 2) rfl rfl rfl rfl Z22 rfl rfl) (fun s w h => zab [some 4] (by decide) w h rfl) (fun _ => ?_)
          refine zb5 (by kernel_rfl) ?_
          refine zb2 (l1936, g1995, g2055, A1937, c1938) h ⟨rfl, rfl, trivial⟩ (fun w h => za8 [4, 1, 2, 0] (by decide) rfl w h) ?_
          repeat (first | exact zac _ _ | refine zah rfl ?_ | refine zad rfl ?_ | refine zai rfl ?_)
    · skip
      refine a_two 6 15 rfl rfl rfl rfl (by kernel_rfl) rfl rfl (e_lit (vs := [(0, .int .i64 (-1))]) (cs := [.int .i64 (-1)]) (Kd.int .i64) ([(-1)] : List Int) Try.underlying22 I3 (by decide) rfl (by decide) rfl rfl (fun _ _ => Kd.zaw _)) (fun s w h => zab [some 2] (by decide) w h rfl) (zat V22 rfl) (fun s w h => zab [some 2] (by decide) w h rfl) (cur2 (fun A1515 c1516 => ?_)) (fun g2055 => ?_)
      · skip
        refine a_two 13 15 rfl rfl rfl rfl (by kernel_rfl) rfl rfl (zaa 0 Z Try.func118 N118 rfl rfl rfl (fun w P1 hF hB hS hT => slices_Repeat_int_int.calls A1515 c1516 (([(-1)] : List Int).length) ([(-1)] : List Int) (mx (mn a0_0 46) 0) hB hF (hT 0 _ rfl).row (hT 0 _ rfl).cap _ hx1935)) (fun s w h => zab [some 3] (by decide) w h rfl) (zat V22 rfl) (fun s w h => zab [some 3] (by decide) w h rfl) (cur2 (fun A1937 c1938 => ?_)) (fun g2055 => ?_)
        · skip
          refine a_one 15 rfl rfl (by kernel_rfl) rfl (zat V22 rfl) (fun s w h => zab [some 4] (by decide) w h rfl) (fun g2055 => ?_)
          refine a_one 16 rfl rfl (by kernel_rfl) rfl (zao (i := 3) rfl rfl rfl Z36 rfl rfl) (fun s w h => zab [some 4] (by decide) w h rfl) (fun _ => ?_)
          refine a_one 17 rfl rfl (by kernel_rfl) rfl (zb7 (i := 0) rfl rfl rfl rfl Z22 rfl rfl) (fun s w h => zab [some 4] (by decide) w h rfl) (fun _ => ?_)
          refine zb5 (by kernel_rfl) ?_
          refine zb2 (l1936, g1995, g2055, A1937, c1938) h ⟨rfl, rfl, trivial⟩ (fun w h => za8 [4, 3, 0, 1] (by decide) rfl w h) ?_
          repeat (first | exact zac _ _ | refine zah rfl ?_ | refine zad rfl ?_ | refine zai rfl ?_)
        · skip
          refine a_one 13 rfl rfl (by kernel_rfl) rfl (zaa 0 Z Try.func118 N118 rfl rfl rfl (fun w P1 hF hB hS hT => slices_Repeat_int_int.calls A1515 c1516 (([(-1)] : List Int).length) ([(-1)] : List Int) (mx (mn a0_0 46) 0) hB hF (hT 1 _ rfl).row (hT 1 _ rfl).cap _ hx1935)) (fun s w h => zab [some 4] (by decide) w h rfl) (cur2 (fun A1937 c1938 => ?_))
          refine a_one 16 rfl rfl (by kernel_rfl) rfl (zao (i := 3) rfl rfl rfl Z36 rfl rfl) (fun s w h => zab [some 4] (by decide) w h rfl) (fun _ => ?_)
          refine a_one 17 rfl rfl (by kernel_rfl) rfl (zb7 (i := 1) rfl rfl rfl rfl Z22 rfl rfl) (fun s w h => zab [some 4] (by decide) w h rfl) (fun _ => ?_)
          refine zb5 (by kernel_rfl) ?_
          refine zb2 (l1936, g1995, g2055, A1937, c1938) h ⟨rfl, rfl, trivial⟩ (fun w h => za8 [4, 3, 1, 0] (by decide) rfl w h) ?_
          repeat (first | exact zac _ _ | refine zah rfl ?_ | refine zad rfl ?_ | refine zai rfl ?_)
      · skip
        refine a_one 6 rfl rfl (by kernel_rfl) rfl (e_lit (vs := [(0, .int .i64 (-1))]) (cs := [.int .i64 (-1)]) (Kd.int .i64) ([(-1)] : List Int) Try.underlying22 I3 (by decide) rfl (by decide) rfl rfl (fun _ _ => Kd.zaw _)) (fun s w h => zab [some 3] (by decide) w h rfl) (cur2 (fun A1515 c1516 => ?_))
        refine a_one 13 rfl rfl (by kernel_rfl) rfl (zaa 0 Z Try.func118 N118 rfl rfl rfl (fun w P1 hF hB hS hT => slices_Repeat_int_int.calls A1515 c1516 (([(-1)] : List Int).length) ([(-1)] : List Int) (mx (mn a0_0 46) 0) hB hF (hT 0 _ rfl).row (hT 0 _ rfl).cap _ hx1935)) (fun s w h => zab [some 4] (by decide) w h rfl) (cur2 (fun A1937 c1938 => ?_))
        refine a_one 16 rfl rfl (by kernel_rfl) rfl (zao (i := 3) rfl rfl rfl Z36 rfl rfl) (fun s w h => zab [some 4] (by decide) w h rfl) (fun _ => ?_)
        refine a_one 17 rfl rfl (by kernel_rfl) rfl (zb7 (i := 2) rfl rfl rfl rfl Z22 rfl rfl) (fun s w h => zab [some 4] (by decide) w h rfl) (fun _ => ?_)
        refine zb5 (by kernel_rfl) ?_
        refine zb2 (l1936, g1995, g2055, A1937, c1938) h ⟨rfl, rfl, trivial⟩ (fun w h => za8 [4, 3, 2, 0] (by decide) rfl w h) ?_
        repeat (first | exact zac _ _ | refine zah rfl ?_ | refine zad rfl ?_ | refine zai rfl ?_)
    · skip
      refine a_two 6 14 rfl rfl rfl rfl (by kernel_rfl) rfl rfl (e_lit (vs := [(0, .int .i64 (-1))]) (cs := [.int .i64 (-1)]) (Kd.int .i64) ([(-1)] : List Int) Try.underlying22 I3 (by decide) rfl (by decide) rfl rfl (fun _ _ => Kd.zaw _)) (fun s w h => zab [some 2] (by decide) w h rfl) (zat V36 rfl) (fun s w h => zab [some 2] (by decide) w h rfl) (cur2 (fun A1515 c1516 => ?_)) (fun g1995 => ?_)
      · skip
        refine a_two 13 14 rfl rfl rfl rfl (by kernel_rfl) rfl rfl (zaa 0 Z Try.func118 N118 rfl rfl rfl (fun w P1 hF hB hS hT => slices_Repeat_int_int.calls A1515 c1516 (([(-1)] : List Int).length) ([(-1)] : List Int) (mx (mn a0_0 46) 0) hB hF (hT 0 _ rfl).row (hT 0 _ rfl).cap _ hx1935)) (fun s w h => zab [some 3] (by decide) w h rfl) (zat V36 rfl) (fun s w h => zab [some 3] (by decide) w h rfl) (cur2 (fun A1937 c1938 => ?_)) (fun g1995 => ?_)
        · skip
          refine a_one 14 rfl rfl (by kernel_rfl) rfl (zat V36 rfl) (fun s w h => zab [some 4] (by decide) w h rfl) (fun g1995 => ?_)
          refine a_one 16 rfl rfl (by kernel_rfl) rfl (zao (i := 0) rfl rfl rfl Z36 rfl rfl) (fun s w h => zab [some 4] (by decide) w h rfl) (fun _ => ?_)
          refine a_one 17 rfl rfl (by kernel_rfl) rfl (zb7 (i := 3) rfl rfl rfl rfl Z22 rfl rfl) (fun s w h => zab [some 4] (by decide) w h rfl) (fun _ => ?_)
          refine zb5 (by kernel_rfl) ?_
          refine zb2 (l1936, g1995, g2055, A1937, c1938) h ⟨rfl, rfl, trivial⟩ (fun w h => za8 [4, 0, 3, 1] (by decide) rfl w h) ?_
          repeat (first | exact zac _ _ | refine zah rfl ?_ | refine zad rfl ?_ | refine zai rfl ?_)
        · skip
          refine a_one 13 rfl rfl (by kernel_rfl) rfl (zaa 0 Z Try.func118 N118 rfl rfl rfl (fun w P1 hF hB hS hT => slices_Repeat_int_int.calls A1515 c1516 (([(-1)] : List Int).length) ([(-1)] : List Int) (mx (mn a0_0 46) 0) hB hF (hT 1 _ rfl).row (hT 1 _ rfl).cap _ hx1935)) (fun s w h => zab [some 4] (by decide) w h rfl) (cur2 (fun A1937 c1938 => ?_))
          refine a_one 16 rfl rfl (by kernel_rfl) rfl (zao (i := 1) rfl rfl rfl Z36 rfl rfl) (fun s w h => zab [some 4] (by decide) w h rfl) (fun _ => ?_)
          refine a_one 17 rfl rfl (by kernel_rfl) rfl (zb7 (i := 3) rfl rfl rfl rfl Z22 rfl rfl) (fun s w h => zab [some 4] (by decide) w h rfl) (fun _ => ?_)
          refine zb5 (by kernel_rfl) ?_
          refine zb2 (l1936, g1995, g2055, A1937, c1938) h ⟨rfl, rfl, trivial⟩ (fun w h => za8 [4, 1, 3, 0] (by decide) rfl w h) ?_
          repeat (first | exact zac _ _ | refine zah rfl ?_ | refine zad rfl ?_ | refine zai rfl ?_)
      · skip
        refine a_one 6 rfl rfl (by kernel_rfl) rfl (e_lit (vs := [(0, .int .i64 (-1))]) (cs := [.int .i64 (-1)]) (Kd.int .i64) ([(-1)] : List Int) Try.underlying22 I3 (by decide) rfl (by decide) rfl rfl (fun _ _ => Kd.zaw _)) (fun s w h => zab [some 3] (by decide) w h rfl) (cur2 (fun A1515 c1516 => ?_))
        refine a_one 13 rfl rfl (by kernel_rfl) rfl (zaa 0 Z Try.func118 N118 rfl rfl rfl (fun w P1 hF hB hS hT => slices_Repeat_int_int.calls A1515 c1516 (([(-1)] : List Int).length) ([(-1)] : List Int) (mx (mn a0_0 46) 0) hB hF (hT 0 _ rfl).row (hT 0 _ rfl).cap _ hx1935)) (fun s w h => zab [some 4] (by decide) w h rfl) (cur2 (fun A1937 c1938 => ?_))
        refine a_one 16 rfl rfl (by kernel_rfl) rfl (zao (i := 2) rfl rfl rfl Z36 rfl rfl) (fun s w h => zab [some 4] (by decide) w h rfl) (fun _ => ?_)
        refine a_one 17 rfl rfl (by kernel_rfl) rfl (zb7 (i := 3) rfl rfl rfl rfl Z22 rfl rfl) (fun s w h => zab [some 4] (by decide) w h rfl) (fun _ => ?_)
        refine zb5 (by kernel_rfl) ?_
        refine zb2 (l1936, g1995, g2055, A1937, c1938) h ⟨rfl, rfl, trivial⟩ (fun w h => za8 [4, 2, 3, 0] (by decide) rfl w h) ?_
        repeat (first | exact zac _ _ | refine zah rfl ?_ | refine zad rfl ?_ | refine zai rfl ?_)
  · skip
    refine (cur5 (fun l1146 g1144 g1145 A1147 c1148 => fun U1152 hJ1153 => ?_))
    have e_ := Option.some.inj hJ1153; have h := hR1151; rw [← e_] at h; clear e_ hJ1153 hR1151 hl1150
    refine c_seq ?_
    refine za0 ?_
    refine o_q rfl rfl (q_func rfl rfl) ?_
    refine o_q rfl rfl (q_asg rfl) ?_
    refine o_end ?_
    refine za1 ?_
    refine c_seq ?_
    refine c_seq ?_
    refine za0 ?_
    refine o_q rfl rfl (za2 rfl) ?_
    refine o_q rfl rfl (q_nil rfl) ?_
    refine o_q rfl rfl (q_f F30_1 rfl) ?_
    refine o_q rfl rfl (q_ldb Y22 rfl (fun w h => B0.now Z h) rfl) ?_
    refine o_q rfl rfl (q_len Try.underlying22 rfl) ?_
    refine o_q rfl rfl (za2 rfl) ?_
    refine o_end ?_
    refine za1 ?_
    refine zaj ?_
    refine za6 h (fun o2304 hl2303 hR2302 => ?_) rfl
    clear h
    refine c_fact (p := l0_1.length ≤ 9223372036854775807) (fun w h => (R0_1.now Z h).2.1) (fun hm2301 => ?_)
    refine zav (σ := (List Int) × (List Int) × Int) (fun k2299 ((ys2298, l2295, i2296) : (List Int) × (List Int) × Int) => Rg l0_1 i2296 ys2298 ∧ ys2298.length = k2299 ∧ impl_RegCode_read.l0 ys2298 l2295 i2296 = some o2304) [3, 7, 8, 33, 34, 35, 36, 37, 38, 39, 40, 41, 42, 43, 44, 45, 46, 47, 48, 49, 50, 51, 52, 53, 54] (fun ((ys2298, l2295, i2296) : (List Int) × (List Int) × Int) => [(33, .int .i64 i2296)]) (fun ((ys2298, l2295, i2296) : (List Int) × (List Int) × Int) => [box g1 36 #[.int .i64 0, .slice none 0 0, .slice none 0 0], box g1144 36 #[.int .i64 (l0_1.length : Int), .slice none 0 0, .slice none 0 0], box g1145 22 #[.slice A1147 l1146.length c1148], row (Kd.int .i64) 3 (.slice A1147 l1146.length c1148) l2295]) l0_1.length (l0_1, l1146, 0) ⟨Rg.start _, rfl, hl2303⟩ ⟨rfl, trivial⟩ (fun w h => h) ?_
    refine fun k2299 => cur3 (listC (fun l2295 i2296 U2305 hJ_ => ?_) (fun y2297 ys2298 l2295 i2296 U2305 hJ_ => ?_))
    · skip
      clear hl2303
      have hr2300 := hJ_.1; have hk2306 := hJ_.2.1; have h := hJ_.2.2; clear hJ_
      replace h : impl_RegCode_read.l0 [] l2295 i2296 = some o2304 := h
      rw [impl_RegCode_read.l0] at h
      refine c_seq ?_
      refine za0 ?_
      refine o_q rfl rfl (q_lss rfl rfl) ?_
      refine o_end ?_
      refine za1 ?_
      refine c_seq ?_
      refine zaz (congrArg Value.bool hr2300.ge) ?_
      refine zb1 ?_
      refine za7 ?_
      refine za7 ?_
      have e_ := Option.some.inj h; replace h := hR2302; rw [← e_] at h; clear e_
      refine x_hit ?_
      refine za1 ?_
      refine c_seq ?_
      refine c_seq ?_
      refine za0 ?_
      refine o_q rfl rfl (za2 rfl) ?_
      refine o_q rfl rfl (q_nil rfl) ?_
      refine o_q rfl rfl (q_f F30_2 rfl) ?_
      refine o_q rfl rfl (q_ldb Y28 rfl (fun w h => B0.now Z h) rfl) ?_
      refine o_q rfl rfl (q_len Try.underlying28 rfl) ?_
      refine o_q rfl rfl (za2 rfl) ?_
      refine o_end ?_
      refine za1 ?_
      refine zaj ?_
      refine c_nil kStep 117 ?_
      refine za6 h (fun o2320 hl2319 hR2318 => ?_) rfl
      clear h
      refine c_fact (p := l0_2.length ≤ 9223372036854775807) (fun w h => (R0_2.now Z h).2.1) (fun hm2317 => ?_)
      refine zav (σ := (List SRegOp) × (List Int) × (List SStep) × Int × (Option Addr) × Nat) (fun k2315 ((ys2314, l2308, l2309, i2312, A2310, c2311) : (List SRegOp) × (List Int) × (List SStep) × Int × (Option Addr) × Nat) => Rg l0_2 i2312 ys2314 ∧ ys2314.length = k2315 ∧ impl_RegCode_read.l1 l0_1 ys2314 l2308 l2309 i2312 = some o2320) [3, 10, 60, 61, 62, 63, 64, 65, 66, 67, 68, 69, 70, 71, 72, 73, 74, 75, 76, 77, 78, 79, 80, 81, 82, 83, 84, 85, 86, 87, 88, 89, 90, 91, 92, 93, 94, 95, 96, 97, 98, 99, 100, 101, 102, 103, 104, 105, 106, 107, 108, 109, 110, 111, 112, 113, 114, 115, 116, 117, 118, 119, 120, 121, 122] (fun ((ys2314, l2308, l2309, i2312, A2310, c2311) : (List SRegOp) × (List Int) × (List SStep) × Int × (Option Addr) × Nat) => [(60, .int .i64 i2312)]) (fun ((ys2314, l2308, l2309, i2312, A2310, c2311) : (List SRegOp) × (List Int) × (List SStep) × Int × (Option Addr) × Nat) => [row kStep 117 (.slice A2310 l2309.length c2311) l2309, box g1 36 #[.int .i64 0, .slice none 0 0, .slice none 0 0], box g1144 36 #[.int .i64 (l0_1.length : Int), .slice A2310 l2309.length c2311, .slice none 0 0], box g1145 22 #[.slice A1147 l1146.length c1148], row (Kd.int .i64) 3 (.slice A1147 l1146.length c1148) l2308]) l0_2.length (l0_2, l2295, ([] : List SStep), 0, none, 0) ⟨Rg.start _, rfl, hl2319⟩ ⟨rfl, trivial⟩ (fun w h => h) ?_
      refine fun k2315 => cur6 (listC (fun l2308 l2309 i2312 A2310 c2311 U2321 hJ_ => ?_) (fun y2313 ys2314 l2308 l2309 i2312 A2310 c2311 U2321 hJ_ => ?_))
      · skip
        clear hl2319
        have hr2316 := hJ_.1; have hk2322 := hJ_.2.1; have h := hJ_.2.2; clear hJ_
        replace h : impl_RegCode_read.l1 l0_1 [] l2308 l2309 i2312 = some o2320 := h
        rw [impl_RegCode_read.l1] at h
        refine c_seq ?_
        refine za0 ?_
        refine o_q rfl rfl (q_lss rfl rfl) ?_
        refine o_end ?_
        refine za1 ?_
        refine c_seq ?_
        refine zaz (congrArg Value.bool hr2316.ge) ?_
        refine zb1 ?_
        refine za7 ?_
        refine za7 ?_
        have e_ := Option.some.inj h; replace h := hR2318; rw [← e_] at h; clear e_
        refine x_hit ?_
        refine za1 ?_
        refine c_seq ?_
        refine c_seq ?_
        refine za0 ?_
        refine o_q rfl rfl (za2 rfl) ?_
        refine o_q rfl rfl (q_nil rfl) ?_
        refine o_q rfl rfl (q_f F30_3 rfl) ?_
        refine o_q rfl rfl (q_ldb Y22 rfl (fun w h => B0.now Z h) rfl) ?_
        refine o_q rfl rfl (q_len Try.underlying22 rfl) ?_
        refine o_q rfl rfl (za2 rfl) ?_
        refine o_end ?_
        refine za1 ?_
        refine zaj ?_
        refine c_nil (Kd.int .i64) 3 ?_
        refine za6 h (fun o2335 hl2334 hR2333 => ?_) rfl
        clear h
        refine c_fact (p := l0_3.length ≤ 9223372036854775807) (fun w h => (R0_3.now Z h).2.1) (fun hm2332 => ?_)
        refine zav (σ := (List Int) × (List Int) × Int × (Option Addr) × Nat) (fun k2330 ((ys2329, l2324, i2327, A2325, c2326) : (List Int) × (List Int) × Int × (Option Addr) × Nat) => Rg l0_3 i2327 ys2329 ∧ ys2329.length = k2330 ∧ impl_RegCode_read.l2 l2308 ys2329 l2324 i2327 = some o2335) [3, 12, 128, 129, 130, 131, 132, 133, 134, 135, 136, 137, 138, 139, 140, 141, 142, 143, 144, 145, 146, 147, 148, 149, 150, 151, 152, 153] (fun ((ys2329, l2324, i2327, A2325, c2326) : (List Int) × (List Int) × Int × (Option Addr) × Nat) => [(128, .int .i64 i2327)]) (fun ((ys2329, l2324, i2327, A2325, c2326) : (List Int) × (List Int) × Int × (Option Addr) × Nat) => [row (Kd.int .i64) 3 (.slice A2325 l2324.length c2326) l2324, row kStep 117 (.slice A2310 l2309.length c2311) l2309, box g1 36 #[.int .i64 0, .slice none 0 0, .slice none 0 0], box g1144 36 #[.int .i64 (l0_1.length : Int), .slice A2310 l2309.length c2311, .slice A2325 l2324.length c2326], box g1145 22 #[.slice A1147 l1146.length c1148], row (Kd.int .i64) 3 (.slice A1147 l1146.length c1148) l2308]) l0_3.length (l0_3, ([] : List Int), 0, none, 0) ⟨Rg.start _, rfl, hl2334⟩ ⟨rfl, trivial⟩ (fun w h => h) ?_
        refine fun k2330 => cur5 (listC (fun l2324 i2327 A2325 c2326 U2336 hJ_ => ?_) (fun y2328 ys2329 l2324 i2327 A2325 c2326 U2336 hJ_ => ?_))
        · skip
          clear hl2334
          have hr2331 := hJ_.1; have hk2337 := hJ_.2.1; have h := hJ_.2.2; clear hJ_
          replace h : impl_RegCode_read.l2 l2308 [] l2324 i2327 = some o2335 := h
          rw [impl_RegCode_read.l2] at h
          refine c_seq ?_
          refine za0 ?_
          refine o_q rfl rfl (q_lss rfl rfl) ?_
          refine o_end ?_
          refine za1 ?_
          refine c_seq ?_
          refine zaz (congrArg Value.bool hr2331.ge) ?_
          refine zb1 ?_
          refine za7 ?_
          refine za7 ?_
          have e_ := Option.some.inj h; replace h := hR2333; rw [← e_] at h; clear e_
          refine x_hit ?_
          refine za1 ?_
          refine c_seq ?_
          refine a_startS (ds := []) [some 0, some 1, none, some 3, some 4, some 5] MO rfl ?_
          refine zb3 0 rfl rfl rfl (by kernel_rfl) (fun _ _ _ h => h) (fun w h => zab [some 0, some 1, none, some 3, some 4, some 5] (by decide) w h rfl) (q_ldB G36 Z36 rfl (fun w h => h.za9 (i := 3) rfl) rfl) ?_
          refine zae 1 rfl rfl rfl (by kernel_rfl) (fun _ _ _ h => h) (za2 rfl) ?_
          refine zae 2 rfl rfl rfl (by kernel_rfl) (fun _ _ _ h => h) (q_nil rfl) ?_
          refine zae 3 rfl rfl rfl (by kernel_rfl) (fun _ _ _ h => h) (q_f F30_0 rfl) ?_
          refine zb3 4 rfl rfl rfl (by kernel_rfl) (fun _ _ _ h => h) (fun w h => zab [some 0, some 1, none, some 3, some 4, some 5] (by decide) w h rfl) (q_ldb Y3 rfl (fun w h => B0.now Z h) rfl) ?_
          refine za6 h (fun b2339 hx2338 h => ?_) rfl
          refine a_one 5 rfl rfl (by kernel_rfl) rfl (zaa 0 Z Try.func83 N83 rfl rfl rfl (fun w P1 hF hB hS hT => impl_in.calls a0_0 1 46 hB hF _ hx2338)) (fun s w h => zab [some 0, some 1, none, some 3, some 4, some 5] (by decide) w h rfl) (fun _ => ?_)
          refine a_one 6 rfl rfl (by kernel_rfl) rfl (zao (i := 2) rfl rfl rfl Z36 rfl rfl) (fun s w h => zab [some 0, some 1, none, some 3, some 4, some 5] (by decide) w h rfl) (fun _ => ?_)
          refine zae 7 rfl rfl rfl (by kernel_rfl) (fun _ _ _ h => h) (q_asg rfl) ?_
          refine zb5 (by kernel_rfl) ?_
          refine za1 ?_
          refine c_ret ?_
          have e0_ := Option.some.inj h; clear h
          have d0_ := (Prod.mk.inj e0_).1; have e1_ := (Prod.mk.inj e0_).2; clear e0_; subst d0_
          have d1_ := (Prod.mk.inj e1_).1; have e2_ := (Prod.mk.inj e1_).2; clear e1_; subst d1_
          have d2_ := (Prod.mk.inj e2_).1; have e3_ := (Prod.mk.inj e2_).2; clear e2_; subst d2_
          subst e3_
          exact x_r2 (A2310, c2311, A2325, c2326) Try.results126 (rv_cell rfl G36 Z36 (fun w h => h.za9 (i := 2) rfl) rfl) (zaf rfl) rfl (fun w h => za8 [1, 0] (by decide) rfl w h)
        · skip
          clear hl2334
          have hr2331 := hJ_.1; have hk2337 := hJ_.2.1; have h := hJ_.2.2; clear hJ_
          replace h : impl_RegCode_read.l2 l2308 (y2328 :: ys2329) l2324 i2327 = some o2335 := h
          rw [impl_RegCode_read.l2] at h
          refine c_seq ?_
          refine za0 ?_
          refine o_q rfl rfl (q_lss rfl rfl) ?_
          refine o_end ?_
          refine za1 ?_
          refine c_seq ?_
          refine zay (congrArg Value.bool hr2331.lt) ?_
          refine zak ?_
          refine za1 ?_
          refine c_seq ?_
          refine zaj ?_
          refine c_seq ?_
          refine za0 ?_
          refine zau (p := Sh A0_3 l0_3.length l0_3.length) (fun w h => f_sh (dk := (Kd.int .i64)) h (fun w h => R0_3.now Z h)) (fun hq2340 => ?_)
          refine o_q rfl rfl (q_ix Try.underlying22 Z3 rfl rfl hq2340 hr2331.get) ?_
          refine o_q rfl rfl (q_lde (off := 0) Y3 rfl rfl (fun w h => R0_3.now Z h) hr2331.get (fun _ _ h => h) rfl) ?_
          refine o_q rfl rfl (q_asg rfl) ?_
          refine o_end ?_
          refine za1 ?_
          refine c_seq ?_
          refine za6 h (fun o2348 hl2349 hR2350 => ?_) rfl
          clear h
          refine c_cutJ (σ := Bool) (fun b2347 => some b2347 = some o2348) [132, 133, 134, 135, 136, 137, 138, 139, 140, 141, 142] (fun b2347 => [(142, .bool b2347)]) (fun b2347 => [box g1 36 #[.int .i64 0, .slice none 0 0, .slice none 0 0], box g1144 36 #[.int .i64 (l0_1.length : Int), .slice A2310 l2309.length c2311, .slice A2325 l2324.length c2326], row kStep 117 (.slice A2310 l2309.length c2311) l2309, row (Kd.int .i64) 3 (.slice A2325 l2324.length c2326) l2324, box g1145 22 #[.slice A1147 l1146.length c1148], row (Kd.int .i64) 3 (.slice A1147 l1146.length c1148) l2308]) ?_ ?_
          · skip
            have h := hl2349; clear hl2349
            clear hR2350
            refine za0 ?_
            refine o_q rfl rfl (za2 rfl) ?_
            refine o_q rfl rfl (za2 rfl) ?_
            refine za6 h (fun b2354 hx2353 h => ?_) rfl
            refine o_e rfl (zaa 0 Z Try.func170 N170 rfl rfl rfl (fun w P1 hF hB hS hT => impl_RegCode_read_1.calls y2328 g1145 A1147 c1148 l1146.length l2308 hB hF (hT 5 _ rfl).row (hT 5 _ rfl).cap (hT 4 _ rfl).box _ hx2353)) (fun _ => ?_)
            refine o_q rfl rfl (q_not rfl) ?_
            refine o_q rfl rfl (za2 rfl) ?_
            refine byB b2354 (fun hb2355 => ?_) (fun hb2355 => ?_)
            · replace h := bb_t hb2355 h
              refine o_w (za4 rfl rfl rfl (congrArg (fun b => Value.bool (!(b))) hb2355)) rfl (q_ldb Y22 rfl (fun w h => h.za9 (i := 4) rfl) rfl) ?_
              refine o_w (za4 rfl rfl rfl (congrArg (fun b => Value.bool (!(b))) hb2355)) rfl (za2 rfl) ?_
              refine zau (p := Sh A1147 l1146.length l2308.length) (fun w h => f_sh (dk := (Kd.int .i64)) h (fun w h => h.zas (i := 5) rfl)) (fun hq2356 => ?_)
              refine za6 h (fun y2358 hg2357 h => ?_) rfl
              refine o_w (za4 rfl rfl rfl (congrArg (fun b => Value.bool (!(b))) hb2355)) rfl (q_ix Try.underlying22 Z3 rfl rfl hq2356 hg2357) ?_
              refine o_w (za4 rfl rfl rfl (congrArg (fun b => Value.bool (!(b))) hb2355)) rfl (q_lde (off := 0) Y3 rfl rfl (fun w h => h.zas (i := 5) rfl) hg2357 (fun _ _ h => h) rfl) ?_
              refine o_w (za4 rfl rfl rfl (congrArg (fun b => Value.bool (!(b))) hb2355)) rfl (q_eql rfl rfl) ?_
              refine o_q rfl rfl (zan false (congrArg (fun b => Value.bool (!(b))) hb2355) rfl) ?_
              refine o_end ?_
              refine zb2 (decide (y2358 = (-1))) h ⟨rfl, trivial⟩ (fun w h => za8 [2, 3, 1, 0, 4, 5] (by decide) rfl w h) ?_
              repeat (first | exact zac _ _ | refine zah rfl ?_ | refine zad rfl ?_ | refine zai rfl ?_)
            · replace h := bb_f hb2355 h
              refine @o_n _ _ _ _ _ _ _ _ _ _ _ 137 (za3 rfl rfl rfl (congrArg (fun b => Value.bool (!(b))) hb2355) rfl) (Eq.refl (some 137)) ?_
              refine @o_n _ _ _ _ _ _ _ _ _ _ _ 138 (za3 rfl rfl rfl (congrArg (fun b => Value.bool (!(b))) hb2355) rfl) (Eq.refl (some 138)) ?_
              refine @o_n _ _ _ _ _ _ _ _ _ _ _ 139 (za3 rfl rfl rfl (congrArg (fun b => Value.bool (!(b))) hb2355) rfl) (Eq.refl (some 139)) ?_
              refine @o_n _ _ _ _ _ _ _ _ _ _ _ 140 (za3 rfl rfl rfl (congrArg (fun b => Value.bool (!(b))) hb2355) rfl) (Eq.refl (some 140)) ?_
              refine @o_n _ _ _ _ _ _ _ _ _ _ _ 141 (za3 rfl rfl rfl (congrArg (fun b => Value.bool (!(b))) hb2355) rfl) (Eq.refl (some 141)) ?_
              refine o_q rfl rfl (zan true (congrArg (fun b => Value.bool (!(b))) hb2355) rfl) ?_
              refine o_end ?_
              refine zb2 true h ⟨rfl, trivial⟩ (fun w h => za8 [2, 3, 1, 0, 4, 5] (by decide) rfl w h) ?_
              repeat (first | exact zac _ _ | refine zah rfl ?_ | refine zad rfl ?_ | refine zai rfl ?_)
          · skip
            refine (fun b2347 => fun U2351 hJ2352 => ?_)
            have e_ := Option.some.inj hJ2352; have h := hR2350; rw [← e_] at h; clear e_ hJ2352 hR2350 hl2349
            refine zar _ rfl (fun hb2359 => ?_) (fun hb2359 => ?_)
            · skip
              replace h := bb_t hb2359 h
              refine c_seq ?_
              refine za0 ?_
              refine o_q rfl rfl (q_build (vs := []) (cs := [.int .i64 0, .slice none 0 0, .slice none 0 0]) rfl rfl) ?_
              refine o_e rfl (zao (i := 0) rfl rfl rfl Z36 rfl rfl) (fun _ => ?_)
              refine o_q rfl rfl (q_asg rfl) ?_
              refine o_end ?_
              refine za1 ?_
              refine c_ret ?_
              refine za5 ?_
              refine zal ?_
              refine za5 ?_
              refine za5 ?_
              have e_ := Option.some.inj h; replace h := hR2333; rw [← e_] at h; clear e_
              refine zal ?_
              refine za5 ?_
              refine x_nil kStep 117 ?_
              refine x_nil (Kd.int .i64) 3 ?_
              have e0_ := Option.some.inj h; clear h
              have d0_ := (Prod.mk.inj e0_).1; have e1_ := (Prod.mk.inj e0_).2; clear e0_; subst d0_
              have d1_ := (Prod.mk.inj e1_).1; have e2_ := (Prod.mk.inj e1_).2; clear e1_; subst d1_
              have d2_ := (Prod.mk.inj e2_).1; have e3_ := (Prod.mk.inj e2_).2; clear e2_; subst d2_
              subst e3_
              exact x_r2 (none, 0, none, 0) Try.results126 (rv_cell rfl G36 Z36 (fun w h => h.za9 (i := 2) rfl) rfl) (zaf rfl) rfl (fun w h => za8 [1, 0] (by decide) rfl w h)
            · skip
              replace h := bb_f hb2359 h
              refine zak ?_
              refine za1 ?_
              refine za6 h (fun y2603 hg2602 h => ?_) rfl
              refine za6 h (fun l2781 ha2782 h => ?_) rfl
              refine a_startS (ds := []) [some 0, none, some 2, none, some 4, some 5] MO rfl ?_
              refine zae 0 rfl rfl rfl (by kernel_rfl) (fun _ _ _ h => h) (q_f F36_2 rfl) ?_
              refine zb3 2 rfl rfl rfl (by kernel_rfl) (fun _ _ _ h => h) (fun w h => zab [some 0, none, some 2, none, some 4, some 5] (by decide) w h rfl) (q_ldb Y22 rfl (fun w h => h.za9 (i := 4) rfl) rfl) ?_
              refine zae 3 rfl rfl rfl (by kernel_rfl) (fun _ _ _ h => h) (za2 rfl) ?_
              refine a_fact (p := Sh A1147 l1146.length l2308.length) (fun w h => f_sh (dk := (Kd.int .i64)) h (fun w h => h.zas (i := 5) rfl)) (fun hq2601 => ?_)
              refine zae 4 rfl rfl rfl (by kernel_rfl) (fun _ _ _ h => h) (q_ix Try.underlying22 Z3 rfl rfl hq2601 hg2602) ?_
              refine zb3 5 rfl rfl rfl (by kernel_rfl) (fun _ _ _ h => h) (fun w h => zab [some 0, none, some 2, none, some 4, some 5] (by decide) w h rfl) (q_lde (off := 0) Y3 rfl rfl (fun w h => h.zas (i := 5) rfl) hg2602 (fun _ _ h => h) rfl) ?_
              refine a_two 1 6 rfl rfl rfl rfl (by kernel_rfl) rfl rfl (ev_q rfl (q_ldb Y22 rfl (fun w h => h.za9 (i := 1) rfl) rfl)) (fun s w h => zab [some 0, none, some 2, none, some 4, some 5] (by decide) w h rfl) (e_lit (vs := [(0, .int .i64 y2603)]) (cs := [.int .i64 y2603]) (Kd.int .i64) ([y2603] : List Int) Try.underlying22 I3 (by decide) rfl (by decide) rfl rfl (fun _ _ => Kd.zaw _)) (fun s w h => zab [some 1, none, some 3, none, some 5, some 6] (by decide) w h rfl) (fun _ => ?_) (cur2 (fun A2721 c2722 => ?_))
              · skip
                refine a_one 6 rfl rfl (by kernel_rfl) rfl (e_lit (vs := [(0, .int .i64 y2603)]) (cs := [.int .i64 y2603]) (Kd.int .i64) ([y2603] : List Int) Try.underlying22 I3 (by decide) rfl (by decide) rfl rfl (fun _ _ => Kd.zaw _)) (fun s w h => zab [some 1, none, some 3, none, some 5, some 6] (by decide) w h rfl) (cur2 (fun A2721 c2722 => ?_))
                refine a_one 7 rfl rfl (by kernel_rfl) rfl (e_app (i := 4) (j := 0) Try.underlying22 I3 rfl (by decide) (by decide) rfl rfl rfl rfl rfl ha2782) (fun s w h => zab [some 1, none, some 3, none, some 5, some 6] (by decide) w h rfl) (cur2 (fun A2783 c2784 => ?_))
                refine zae 8 rfl rfl rfl (by kernel_rfl) (fun _ _ _ h => h) (q_f F36_2 rfl) ?_
                refine a_one 9 rfl rfl (by kernel_rfl) rfl (zb7 (i := 2) rfl rfl rfl rfl Z22 rfl rfl) (fun s w h => zab [some 1, none, some 3, none, some 5, some 6] (by decide) w h rfl) (fun _ => ?_)
                refine zb5 (by kernel_rfl) ?_
                refine zaq ?_
                refine za1 ?_
                refine za0 ?_
                refine o_q rfl rfl (q_up rfl rfl (hr2331.up hm2332)) ?_
                refine o_q rfl rfl (za2 rfl) ?_
                refine o_end ?_
                refine zam ys2329.length (ys2329, l2781, i2327 + 1, A2783, c2784) (by rw [← hk2337]; exact Nat.lt_succ_self _) ⟨hr2331.step, rfl, h⟩ ⟨rfl, trivial⟩ (fun w h => za8 [4, 3, 1, 2, 5, 6] (by decide) rfl w h) ?_
                repeat (first | exact zac _ _ | refine zah rfl ?_ | refine zad rfl ?_ | refine zai rfl ?_)
              · skip
                refine a_one 1 rfl rfl (by kernel_rfl) rfl (ev_q rfl (q_ldb Y22 rfl (fun w h => h.za9 (i := 2) rfl) rfl)) (fun s w h => zab [some 1, none, some 3, none, some 5, some 6] (by decide) w h rfl) (fun _ => ?_)
                refine a_one 7 rfl rfl (by kernel_rfl) rfl (e_app (i := 4) (j := 0) Try.underlying22 I3 rfl (by decide) (by decide) rfl rfl rfl rfl rfl ha2782) (fun s w h => zab [some 1, none, some 3, none, some 5, some 6] (by decide) w h rfl) (cur2 (fun A2783 c2784 => ?_))
                refine zae 8 rfl rfl rfl (by kernel_rfl) (fun _ _ _ h => h) (q_f F36_2 rfl) ?_
                refine a_one 9 rfl rfl (by kernel_rfl) rfl (zb7 (i := 2) rfl rfl rfl rfl Z22 rfl rfl) (fun s w h => zab [some 1, none, some 3, none, some 5, some 6] (by decide) w h rfl) (fun _ => ?_)
                refine zb5 (by kernel_rfl) ?_
                refine zaq ?_
                refine za1 ?_
                refine za0 ?_
                refine o_q rfl rfl (q_up rfl rfl (hr2331.up hm2332)) ?_
                refine o_q rfl rfl (za2 rfl) ?_
                refine o_end ?_
                refine zam ys2329.length (ys2329, l2781, i2327 + 1, A2783, c2784) (by rw [← hk2337]; exact Nat.lt_succ_self _) ⟨hr2331.step, rfl, h⟩ ⟨rfl, trivial⟩ (fun w h => za8 [4, 3, 1, 2, 5, 6] (by decide) rfl w h) ?_
                repeat (first | exact zac _ _ | refine zah rfl ?_ | refine zad rfl ?_ | refine zai rfl ?_)
      · skip
        clear hl2319
        have hr2316 := hJ_.1; have hk2322 := hJ_.2.1; have h := hJ_.2.2; clear hJ_
        replace h : impl_RegCode_read.l1 l0_1 (y2313 :: ys2314) l2308 l2309 i2312 = some o2320 := h
        rw [impl_RegCode_read.l1] at h
        refine c_seq ?_
        refine za0 ?_
        refine o_q rfl rfl (q_lss rfl rfl) ?_
        refine o_end ?_
        refine za1 ?_
        refine c_seq ?_
        refine zay (congrArg Value.bool hr2316.lt) ?_
        refine zak ?_
        refine za1 ?_
        refine c_seq ?_
        refine zaj ?_
        refine c_seq ?_
        refine za0 ?_
        refine zau (p := Sh A0_2 l0_2.length l0_2.length) (fun w h => f_sh (dk := zb4) h (fun w h => R0_2.now Z h)) (fun hq3021 => ?_)
        refine o_q rfl rfl (q_ix Try.underlying28 Z80 rfl rfl hq3021 hr2316.get) ?_
        refine o_q rfl rfl (q_ldE G80 Z80 rfl rfl (fun w h => R0_2.now Z h) hr2316.get (fun _ _ h => h) rfl) ?_
        refine o_e rfl (zat V80 rfl) (fun g3022 => ?_)
        refine o_e rfl (zao (i := 0) rfl rfl rfl Z80 rfl rfl) (fun _ => ?_)
        refine o_end ?_
        refine za1 ?_
        refine c_seq ?_
        refine za6 h (fun o3040 hl3041 hR3042 => ?_) rfl
        clear h
        refine c_cutJ (σ := Bool) (fun b3039 => some b3039 = some o3040) [64, 65, 66, 67, 68, 69, 70, 71, 72, 73, 74, 75, 76, 77, 78, 79, 80, 81, 82, 83, 84, 85, 86, 87, 88, 89, 90, 91, 92, 93, 94, 95, 96, 97, 98] (fun b3039 => [(98, .bool b3039)]) (fun b3039 => [box g1 36 #[.int .i64 0, .slice none 0 0, .slice none 0 0], box g1144 36 #[.int .i64 (l0_1.length : Int), .slice A2310 l2309.length c2311, .slice none 0 0], row kStep 117 (.slice A2310 l2309.length c2311) l2309, box g1145 22 #[.slice A1147 l1146.length c1148], row (Kd.int .i64) 3 (.slice A1147 l1146.length c1148) l2308, box g3022 80 #[.int .i64 y2313.f0, .int .i64 y2313.f1, .int .i64 y2313.f2]]) ?_ ?_
        · skip
          have h := hl3041; clear hl3041
          clear hR3042
          refine za0 ?_
          refine o_q rfl rfl (za2 rfl) ?_
          refine o_q rfl rfl (q_f F80_0 rfl) ?_
          refine o_q rfl rfl (q_ldb Y3 rfl (fun w h => h.za9 (i := 0) rfl) rfl) ?_
          refine za6 h (fun b3046 hx3045 h => ?_) rfl
          refine o_e rfl (zaa 0 Z Try.func170 N170 rfl rfl rfl (fun w P1 hF hB hS hT => impl_RegCode_read_1.calls y2313.f0 g1145 A1147 c1148 l1146.length l2308 hB hF (hT 5 _ rfl).row (hT 5 _ rfl).cap (hT 4 _ rfl).box _ hx3045)) (fun _ => ?_)
          refine o_q rfl rfl (q_not rfl) ?_
          refine o_q rfl rfl (za2 rfl) ?_
          refine byB b3046 (fun hb3047 => ?_) (fun hb3047 => ?_)
          · replace h := bb_t hb3047 h
            refine o_w (za4 rfl rfl rfl (congrArg (fun b => Value.bool (!(b))) hb3047)) rfl (za2 rfl) ?_
            refine o_w (za4 rfl rfl rfl (congrArg (fun b => Value.bool (!(b))) hb3047)) rfl (q_f F80_1 rfl) ?_
            refine o_w (za4 rfl rfl rfl (congrArg (fun b => Value.bool (!(b))) hb3047)) rfl (q_ldb Y3 rfl (fun w h => h.za9 (i := 0) rfl) rfl) ?_
            refine za6 h (fun b3049 hx3048 h => ?_) rfl
            refine o_ew (za4 rfl rfl rfl (congrArg (fun b => Value.bool (!(b))) hb3047)) (zaa 0 Z Try.func170 N170 rfl rfl rfl (fun w P1 hF hB hS hT => impl_RegCode_read_1.calls y2313.f1 g1145 A1147 c1148 l1146.length l2308 hB hF (hT 5 _ rfl).row (hT 5 _ rfl).cap (hT 4 _ rfl).box _ hx3048)) (fun _ => ?_)
            refine o_w (za4 rfl rfl rfl (congrArg (fun b => Value.bool (!(b))) hb3047)) rfl (q_not rfl) ?_
            refine o_q rfl rfl (zan false (congrArg (fun b => Value.bool (!(b))) hb3047) rfl) ?_
            refine o_q rfl rfl (za2 rfl) ?_
            refine byB b3049 (fun hb3050 => ?_) (fun hb3050 => ?_)
            · replace h := bb_t hb3050 h
              refine o_w (za4 rfl rfl rfl (congrArg (fun b => Value.bool (!(b))) hb3050)) rfl (za2 rfl) ?_
              refine o_w (za4 rfl rfl rfl (congrArg (fun b => Value.bool (!(b))) hb3050)) rfl (q_f F80_2 rfl) ?_
              refine o_w (za4 rfl rfl rfl (congrArg (fun b => Value.bool (!(b))) hb3050)) rfl (q_ldb Y3 rfl (fun w h => h.za9 (i := 0) rfl) rfl) ?_
              refine za6 h (fun b3052 hx3051 h => ?_) rfl
              refine o_ew (za4 rfl rfl rfl (congrArg (fun b => Value.bool (!(b))) hb3050)) (zaa 0 Z Try.func170 N170 rfl rfl rfl (fun w P1 hF hB hS hT => impl_RegCode_read_1.calls y2313.f2 g1145 A1147 c1148 l1146.length l2308 hB hF (hT 5 _ rfl).row (hT 5 _ rfl).cap (hT 4 _ rfl).box _ hx3051)) (fun _ => ?_)
              refine o_w (za4 rfl rfl rfl (congrArg (fun b => Value.bool (!(b))) hb3050)) rfl (q_not rfl) ?_
              refine o_q rfl rfl (zan false (congrArg (fun b => Value.bool (!(b))) hb3050) rfl) ?_
              refine o_q rfl rfl (za2 rfl) ?_
              refine byB b3052 (fun hb3053 => ?_) (fun hb3053 => ?_)
              · replace h := bb_t hb3053 h
                refine o_w (za4 rfl rfl rfl (congrArg (fun b => Value.bool (!(b))) hb3053)) rfl (q_ldb Y22 rfl (fun w h => h.za9 (i := 4) rfl) rfl) ?_
                refine o_w (za4 rfl rfl rfl (congrArg (fun b => Value.bool (!(b))) hb3053)) rfl (q_f F80_1 rfl) ?_
                refine o_w (za4 rfl rfl rfl (congrArg (fun b => Value.bool (!(b))) hb3053)) rfl (q_ldb Y3 rfl (fun w h => h.za9 (i := 0) rfl) rfl) ?_
                refine zau (p := Sh A1147 l1146.length l2308.length) (fun w h => f_sh (dk := (Kd.int .i64)) h (fun w h => h.zas (i := 5) rfl)) (fun hq3054 => ?_)
                refine za6 h (fun y3056 hg3055 h => ?_) rfl
                refine o_w (za4 rfl rfl rfl (congrArg (fun b => Value.bool (!(b))) hb3053)) rfl (q_ix Try.underlying22 Z3 rfl rfl hq3054 hg3055) ?_
                refine o_w (za4 rfl rfl rfl (congrArg (fun b => Value.bool (!(b))) hb3053)) rfl (q_lde (off := 0) Y3 rfl rfl (fun w h => h.zas (i := 5) rfl) hg3055 (fun _ _ h => h) rfl) ?_
                refine o_w (za4 rfl rfl rfl (congrArg (fun b => Value.bool (!(b))) hb3053)) rfl (q_eql rfl rfl) ?_
                refine o_q rfl rfl (zan false (congrArg (fun b => Value.bool (!(b))) hb3053) rfl) ?_
                refine o_q rfl rfl (za2 rfl) ?_
                refine byB (decide (y3056 = (-1))) (fun hb3057 => ?_) (fun hb3057 => ?_)
                · replace h := br_t hb3057 h
                  refine @o_n _ _ _ _ _ _ _ _ _ _ _ 92 (za3 rfl rfl rfl (congrArg Value.bool hb3057) rfl) (Eq.refl (some 92)) ?_
                  refine @o_n _ _ _ _ _ _ _ _ _ _ _ 93 (za3 rfl rfl rfl (congrArg Value.bool hb3057) rfl) (Eq.refl (some 93)) ?_
                  refine @o_n _ _ _ _ _ _ _ _ _ _ _ 94 (za3 rfl rfl rfl (congrArg Value.bool hb3057) rfl) (Eq.refl (some 94)) ?_
                  refine @o_n _ _ _ _ _ _ _ _ _ _ _ 95 (za3 rfl rfl rfl (congrArg Value.bool hb3057) rfl) (Eq.refl (some 95)) ?_
                  refine @o_n _ _ _ _ _ _ _ _ _ _ _ 96 (za3 rfl rfl rfl (congrArg Value.bool hb3057) rfl) (Eq.refl (some 96)) ?_
                  refine @o_n _ _ _ _ _ _ _ _ _ _ _ 97 (za3 rfl rfl rfl (congrArg Value.bool hb3057) rfl) (Eq.refl (some 97)) ?_
                  refine o_q rfl rfl (zan true (congrArg Value.bool hb3057) rfl) ?_
                  refine o_end ?_
                  refine zb2 true h ⟨rfl, trivial⟩ (fun w h => za8 [2, 3, 1, 4, 5, 0] (by decide) rfl w h) ?_
                  repeat (first | exact zac _ _ | refine zah rfl ?_ | refine zad rfl ?_ | refine zai rfl ?_)
                · replace h := br_f hb3057 h
                  refine o_w (za4 rfl rfl rfl (congrArg Value.bool hb3057)) rfl (q_ldb Y22 rfl (fun w h => h.za9 (i := 4) rfl) rfl) ?_
                  refine o_w (za4 rfl rfl rfl (congrArg Value.bool hb3057)) rfl (q_f F80_2 rfl) ?_
                  refine o_w (za4 rfl rfl rfl (congrArg Value.bool hb3057)) rfl (q_ldb Y3 rfl (fun w h => h.za9 (i := 0) rfl) rfl) ?_
                  refine za6 h (fun y3059 hg3058 h => ?_) rfl
                  refine o_w (za4 rfl rfl rfl (congrArg Value.bool hb3057)) rfl (q_ix Try.underlying22 Z3 rfl rfl hq3054 hg3058) ?_
                  refine o_w (za4 rfl rfl rfl (congrArg Value.bool hb3057)) rfl (q_lde (off := 0) Y3 rfl rfl (fun w h => h.zas (i := 5) rfl) hg3058 (fun _ _ h => h) rfl) ?_
                  refine o_w (za4 rfl rfl rfl (congrArg Value.bool hb3057)) rfl (q_eql rfl rfl) ?_
                  refine o_q rfl rfl (zan false (congrArg Value.bool hb3057) rfl) ?_
                  refine o_end ?_
                  refine zb2 (decide (y3059 = (-1))) h ⟨rfl, trivial⟩ (fun w h => za8 [2, 3, 1, 4, 5, 0] (by decide) rfl w h) ?_
                  repeat (first | exact zac _ _ | refine zah rfl ?_ | refine zad rfl ?_ | refine zai rfl ?_)
              · replace h := bb_f hb3053 h
                refine @o_n _ _ _ _ _ _ _ _ _ _ _ 84 (za3 rfl rfl rfl (congrArg (fun b => Value.bool (!(b))) hb3053) rfl) (Eq.refl (some 84)) ?_
                refine @o_n _ _ _ _ _ _ _ _ _ _ _ 85 (za3 rfl rfl rfl (congrArg (fun b => Value.bool (!(b))) hb3053) rfl) (Eq.refl (some 85)) ?_
                refine @o_n _ _ _ _ _ _ _ _ _ _ _ 86 (za3 rfl rfl rfl (congrArg (fun b => Value.bool (!(b))) hb3053) rfl) (Eq.refl (some 86)) ?_
                refine @o_n _ _ _ _ _ _ _ _ _ _ _ 87 (za3 rfl rfl rfl (congrArg (fun b => Value.bool (!(b))) hb3053) rfl) (Eq.refl (some 87)) ?_
                refine @o_n _ _ _ _ _ _ _ _ _ _ _ 88 (za3 rfl rfl rfl (congrArg (fun b => Value.bool (!(b))) hb3053) rfl) (Eq.refl (some 88)) ?_
                refine @o_n _ _ _ _ _ _ _ _ _ _ _ 89 (za3 rfl rfl rfl (congrArg (fun b => Value.bool (!(b))) hb3053) rfl) (Eq.refl (some 89)) ?_
                refine o_q rfl rfl (zan true (congrArg (fun b => Value.bool (!(b))) hb3053) rfl) ?_
                refine o_q rfl rfl (za2 rfl) ?_
                refine @o_n _ _ _ _ _ _ _ _ _ _ _ 92 (za3 rfl rfl rfl rfl rfl) (Eq.refl (some 92)) ?_
                refine @o_n _ _ _ _ _ _ _ _ _ _ _ 93 (za3 rfl rfl rfl rfl rfl) (Eq.refl (some 93)) ?_
                refine @o_n _ _ _ _ _ _ _ _ _ _ _ 94 (za3 rfl rfl rfl rfl rfl) (Eq.refl (some 94)) ?_
                refine @o_n _ _ _ _ _ _ _ _ _ _ _ 95 (za3 rfl rfl rfl rfl rfl) (Eq.refl (some 95)) ?_
                refine @o_n _ _ _ _ _ _ _ _ _ _ _ 96 (za3 rfl rfl rfl rfl rfl) (Eq.refl (some 96)) ?_
                refine @o_n _ _ _ _ _ _ _ _ _ _ _ 97 (za3 rfl rfl rfl rfl rfl) (Eq.refl (some 97)) ?_
                refine o_q rfl rfl (zan true rfl rfl) ?_
                refine o_end ?_
                refine zb2 true h ⟨rfl, trivial⟩ (fun w h => za8 [2, 3, 1, 4, 5, 0] (by decide) rfl w h) ?_
                repeat (first | exact zac _ _ | refine zah rfl ?_ | refine zad rfl ?_ | refine zai rfl ?_)
            · replace h := bb_f hb3050 h
              refine @o_n _ _ _ _ _ _ _ _ _ _ _ 77 (za3 rfl rfl rfl (congrArg (fun b => Value.bool (!(b))) hb3050) rfl) (Eq.refl (some 77)) ?_
              refine @o_n _ _ _ _ _ _ _ _ _ _ _ 78 (za3 rfl rfl rfl (congrArg (fun b => Value.bool (!(b))) hb3050) rfl) (Eq.refl (some 78)) ?_
              refine @o_n _ _ _ _ _ _ _ _ _ _ _ 79 (za3 rfl rfl rfl (congrArg (fun b => Value.bool (!(b))) hb3050) rfl) (Eq.refl (some 79)) ?_
              refine @o_n _ _ _ _ _ _ _ _ _ _ _ 80 (za3 rfl rfl rfl (congrArg (fun b => Value.bool (!(b))) hb3050) rfl) (Eq.refl (some 80)) ?_
              refine @o_n _ _ _ _ _ _ _ _ _ _ _ 81 (za3 rfl rfl rfl (congrArg (fun b => Value.bool (!(b))) hb3050) rfl) (Eq.refl (some 81)) ?_
              refine o_q rfl rfl (zan true (congrArg (fun b => Value.bool (!(b))) hb3050) rfl) ?_
              refine o_q rfl rfl (za2 rfl) ?_
              refine @o_n _ _ _ _ _ _ _ _ _ _ _ 84 (za3 rfl rfl rfl rfl rfl) (Eq.refl (some 84)) ?_
              refine @o_n _ _ _ _ _ _ _ _ _ _ _ 85 (za3 rfl rfl rfl rfl rfl) (Eq.refl (some 85)) ?_
              refine @o_n _ _ _ _ _ _ _ _ _ _ _ 86 (za3 rfl rfl rfl rfl rfl) (Eq.refl (some 86)) ?_
              refine @o_n _ _ _ _ _ _ _ _ _ _ _ 87 (za3 rfl rfl rfl rfl rfl) (Eq.refl (some 87)) ?_
              refine @o_n _ _ _ _ _ _ _ _ _ _ _ 88 (za3 rfl rfl rfl rfl rfl) (Eq.refl (some 88)) ?_
              refine @o_n _ _ _ _ _ _ _ _ _ _ _ 89 (za3 rfl rfl rfl rfl rfl) (Eq.refl (some 89)) ?_
              refine o_q rfl rfl (zan true rfl rfl) ?_
              refine o_q rfl rfl (za2 rfl) ?_
              refine @o_n _ _ _ _ _ _ _ _ _ _ _ 92 (za3 rfl rfl rfl rfl rfl) (Eq.refl (some 92)) ?_
              refine @o_n _ _ _ _ _ _ _ _ _ _ _ 93 (za3 rfl rfl rfl rfl rfl) (Eq.refl (some 93)) ?_
              refine @o_n _ _ _ _ _ _ _ _ _ _ _ 94 (za3 rfl rfl rfl rfl rfl) (Eq.refl (some 94)) ?_
              refine @o_n _ _ _ _ _ _ _ _ _ _ _ 95 (za3 rfl rfl rfl rfl rfl) (Eq.refl (some 95)) ?_
              refine @o_n _ _ _ _ _ _ _ _ _ _ _ 96 (za3 rfl rfl rfl rfl rfl) (Eq.refl (some 96)) ?_
              refine @o_n _ _ _ _ _ _ _ _ _ _ _ 97 (za3 rfl rfl rfl rfl rfl) (Eq.refl (some 97)) ?_
              refine o_q rfl rfl (zan true rfl rfl) ?_
              refine o_end ?_
              refine zb2 true h ⟨rfl, trivial⟩ (fun w h => za8 [2, 3, 1, 4, 5, 0] (by decide) rfl w h) ?_
              repeat (first | exact zac _ _ | refine zah rfl ?_ | refine zad rfl ?_ | refine zai rfl ?_)
          · replace h := bb_f hb3047 h
            refine @o_n _ _ _ _ _ _ _ _ _ _ _ 70 (za3 rfl rfl rfl (congrArg (fun b => Value.bool (!(b))) hb3047) rfl) (Eq.refl (some 70)) ?_
            refine @o_n _ _ _ _ _ _ _ _ _ _ _ 71 (za3 rfl rfl rfl (congrArg (fun b => Value.bool (!(b))) hb3047) rfl) (Eq.refl (some 71)) ?_
            refine @o_n _ _ _ _ _ _ _ _ _ _ _ 72 (za3 rfl rfl rfl (congrArg (fun b => Value.bool (!(b))) hb3047) rfl) (Eq.refl (some 72)) ?_
            refine @o_n _ _ _ _ _ _ _ _ _ _ _ 73 (za3 rfl rfl rfl (congrArg (fun b => Value.bool (!(b))) hb3047) rfl) (Eq.refl (some 73)) ?_
            refine @o_n _ _ _ _ _ _ _ _ _ _ _ 74 (za3 rfl rfl rfl (congrArg (fun b => Value.bool (!(b))) hb3047) rfl) (Eq.refl (some 74)) ?_
            refine o_q rfl rfl (zan true (congrArg (fun b => Value.bool (!(b))) hb3047) rfl) ?_
            refine o_q rfl rfl (za2 rfl) ?_
            refine @o_n _ _ _ _ _ _ _ _ _ _ _ 77 (za3 rfl rfl rfl rfl rfl) (Eq.refl (some 77)) ?_
            refine @o_n _ _ _ _ _ _ _ _ _ _ _ 78 (za3 rfl rfl rfl rfl rfl) (Eq.refl (some 78)) ?_
            refine @o_n _ _ _ _ _ _ _ _ _ _ _ 79 (za3 rfl rfl rfl rfl rfl) (Eq.refl (some 79)) ?_
            refine @o_n _ _ _ _ _ _ _ _ _ _ _ 80 (za3 rfl rfl rfl rfl rfl) (Eq.refl (some 80)) ?_
            refine @o_n _ _ _ _ _ _ _ _ _ _ _ 81 (za3 rfl rfl rfl rfl rfl) (Eq.refl (some 81)) ?_
            refine o_q rfl rfl (zan true rfl rfl) ?_
            refine o_q rfl rfl (za2 rfl) ?_
            refine @o_n _ _ _ _ _ _ _ _ _ _ _ 84 (za3 rfl rfl rfl rfl rfl) (Eq.refl (some 84)) ?_
            refine @o_n _ _ _ _ _ _ _ _ _ _ _ 85 (za3 rfl rfl rfl rfl rfl) (Eq.refl (some 85)) ?_
            refine @o_n _ _ _ _ _ _ _ _ _ _ _ 86 (za3 rfl rfl rfl rfl rfl) (Eq.refl (some 86)) ?_
            refine @o_n _ _ _ _ _ _ _ _ _ _ _ 87 (za3 rfl rfl rfl rfl rfl) (Eq.refl (some 87)) ?_
            refine @o_n _ _ _ _ _ _ _ _ _ _ _ 88 (za3 rfl rfl rfl rfl rfl) (Eq.refl (some 88)) ?_
            refine @o_n _ _ _ _ _ _ _ _ _ _ _ 89 (za3 rfl rfl rfl rfl rfl) (Eq.refl (some 89)) ?_
            refine o_q rfl rfl (zan true rfl rfl) ?_
            refine o_q rfl rfl (za2 rfl) ?_
            refine @o_n _ _ _ _ _ _ _ _ _ _ _ 92 (za3 rfl rfl rfl rfl rfl) (Eq.refl (some 92)) ?_
            refine @o_n _ _ _ _ _ _ _ _ _ _ _ 93 (za3 rfl rfl rfl rfl rfl) (Eq.refl (some 93)) ?_
            refine @o_n _ _ _ _ _ _ _ _ _ _ _ 94 (za3 rfl rfl rfl rfl rfl) (Eq.refl (some 94)) ?_
            refine @o_n _ _ _ _ _ _ _ _ _ _ _ 95 (za3 rfl rfl rfl rfl rfl) (Eq.refl (some 95)) ?_
            refine @o_n _ _ _ _ _ _ _ _ _ _ _ 96 (za3 rfl rfl rfl rfl rfl) (Eq.refl (some 96)) ?_
            refine @o_n _ _ _ _ _ _ _ _ _ _ _ 97 (za3 rfl rfl rfl rfl rfl) (Eq.refl (some 97)) ?_
            refine o_q rfl rfl (zan true rfl rfl) ?_
            refine o_end ?_
            refine zb2 true h ⟨rfl, trivial⟩ (fun w h => za8 [2, 3, 1, 4, 5, 0] (by decide) rfl w h) ?_
            repeat (first | exact zac _ _ | refine zah rfl ?_ | refine zad rfl ?_ | refine zai rfl ?_)
        · skip
          refine (fun b3039 => fun U3043 hJ3044 => ?_)
          have e_ := Option.some.inj hJ3044; have h := hR3042; rw [← e_] at h; clear e_ hJ3044 hR3042 hl3041
          refine zar _ rfl (fun hb3060 => ?_) (fun hb3060 => ?_)
          · skip
            replace h := bb_t hb3060 h
            refine c_seq ?_
            refine za0 ?_
            refine o_q rfl rfl (q_build (vs := []) (cs := [.int .i64 0, .slice none 0 0, .slice none 0 0]) rfl rfl) ?_
            refine o_e rfl (zao (i := 0) rfl rfl rfl Z36 rfl rfl) (fun _ => ?_)
            refine o_q rfl rfl (q_asg rfl) ?_
            refine o_end ?_
            refine za1 ?_
            refine c_ret ?_
            refine za5 ?_
            refine zal ?_
            refine za5 ?_
            refine za5 ?_
            have e_ := Option.some.inj h; replace h := hR2318; rw [← e_] at h; clear e_
            refine zal ?_
            refine za5 ?_
            refine x_nil kStep 117 ?_
            refine x_nil (Kd.int .i64) 3 ?_
            have e0_ := Option.some.inj h; clear h
            have d0_ := (Prod.mk.inj e0_).1; have e1_ := (Prod.mk.inj e0_).2; clear e0_; subst d0_
            have d1_ := (Prod.mk.inj e1_).1; have e2_ := (Prod.mk.inj e1_).2; clear e1_; subst d1_
            have d2_ := (Prod.mk.inj e2_).1; have e3_ := (Prod.mk.inj e2_).2; clear e2_; subst d2_
            subst e3_
            exact x_r2 (none, 0, none, 0) Try.results126 (rv_cell rfl G36 Z36 (fun w h => h.za9 (i := 2) rfl) rfl) (zaf rfl) rfl (fun w h => za8 [1, 0] (by decide) rfl w h)
          · skip
            replace h := bb_f hb3060 h
            refine zak ?_
            refine za1 ?_
            refine za6 h (fun o4145 hl4146 hR4147 => ?_) rfl
            clear h
            refine c_cutJ (σ := (List SStep) × (Option Addr) × Nat) (fun (l4142, A4143, c4144) => some l4142 = some o4145) [100, 101, 102, 103, 104, 105, 106, 107, 108, 109, 110, 111, 112, 113, 114, 115] (fun (l4142, A4143, c4144) => []) (fun (l4142, A4143, c4144) => [box g1 36 #[.int .i64 0, .slice none 0 0, .slice none 0 0], box g1144 36 #[.int .i64 (l0_1.length : Int), .slice A4143 l4142.length c4144, .slice none 0 0], row kStep 117 (.slice A4143 l4142.length c4144) l4142, box g1145 22 #[.slice A1147 l1146.length c1148], row (Kd.int .i64) 3 (.slice A1147 l1146.length c1148) l2308, box g3022 80 #[.int .i64 y2313.f0, .int .i64 y2313.f1, .int .i64 y2313.f2]]) ?_ ?_
            · skip
              have h := hl4146; clear hl4146
              clear hR4147
              refine za6 h (fun y4453 hg4452 h => ?_) rfl
              refine za6 h (fun y4752 hg4751 h => ?_) rfl
              refine za6 h (fun _ hx4871 h => ?_) rfl
              refine za6 h (fun l4991 ha4992 h => ?_) rfl
              refine a_startS (ds := []) [some 0, none, none, some 3, some 4, some 5] MO rfl ?_
              refine zae 0 rfl rfl rfl (by kernel_rfl) (fun _ _ _ h => h) (q_f F36_1 rfl) ?_
              refine zb3 2 rfl rfl rfl (by kernel_rfl) (fun _ _ _ h => h) (fun w h => zab [some 0, none, none, some 3, some 4, some 5] (by decide) w h rfl) (q_ldb Y22 rfl (fun w h => h.za9 (i := 3) rfl) rfl) ?_
              refine zae 3 rfl rfl rfl (by kernel_rfl) (fun _ _ _ h => h) (q_f F80_1 rfl) ?_
              refine zb3 4 rfl rfl rfl (by kernel_rfl) (fun _ _ _ h => h) (fun w h => zab [some 0, none, none, some 3, some 4, some 5] (by decide) w h rfl) (q_ldb Y3 rfl (fun w h => h.za9 (i := 5) rfl) rfl) ?_
              refine a_fact (p := Sh A1147 l1146.length l2308.length) (fun w h => f_sh (dk := (Kd.int .i64)) h (fun w h => h.zas (i := 4) rfl)) (fun hq4451 => ?_)
              refine zae 5 rfl rfl rfl (by kernel_rfl) (fun _ _ _ h => h) (q_ix Try.underlying22 Z3 rfl rfl hq4451 hg4452) ?_
              refine zb3 6 rfl rfl rfl (by kernel_rfl) (fun _ _ _ h => h) (fun w h => zab [some 0, none, none, some 3, some 4, some 5] (by decide) w h rfl) (q_lde (off := 0) Y3 rfl rfl (fun w h => h.zas (i := 4) rfl) hg4452 (fun _ _ h => h) rfl) ?_
              refine zb3 7 rfl rfl rfl (by kernel_rfl) (fun _ _ _ h => h) (fun w h => zab [some 0, none, none, some 3, some 4, some 5] (by decide) w h rfl) (q_ldb Y22 rfl (fun w h => h.za9 (i := 3) rfl) rfl) ?_
              refine zae 8 rfl rfl rfl (by kernel_rfl) (fun _ _ _ h => h) (q_f F80_2 rfl) ?_
              refine zb3 9 rfl rfl rfl (by kernel_rfl) (fun _ _ _ h => h) (fun w h => zab [some 0, none, none, some 3, some 4, some 5] (by decide) w h rfl) (q_ldb Y3 rfl (fun w h => h.za9 (i := 5) rfl) rfl) ?_
              refine zae 10 rfl rfl rfl (by kernel_rfl) (fun _ _ _ h => h) (q_ix Try.underlying22 Z3 rfl rfl hq4451 hg4751) ?_
              refine zb3 11 rfl rfl rfl (by kernel_rfl) (fun _ _ _ h => h) (fun w h => zab [some 0, none, none, some 3, some 4, some 5] (by decide) w h rfl) (q_lde (off := 0) Y3 rfl rfl (fun w h => h.zas (i := 4) rfl) hg4751 (fun _ _ h => h) rfl) ?_
              refine a_two 1 12 rfl rfl rfl rfl (by kernel_rfl) rfl rfl (ev_q rfl (q_ldb Y34 rfl (fun w h => h.za9 (i := 1) rfl) rfl)) (fun s w h => zab [some 0, none, none, some 3, some 4, some 5] (by decide) w h rfl) (zaa 0 Z Try.func151 N151 rfl rfl rfl (fun w P1 hF hB hS hT => impl_step.calls y4453 y4752 hB hF hx4871)) (fun s w h => zab [some 0, none, none, some 3, some 4, some 5] (by decide) w h rfl) (fun _ => ?_) (fun _ => ?_)
              · skip
                refine a_one 12 rfl rfl (by kernel_rfl) rfl (zaa 0 Z Try.func151 N151 rfl rfl rfl (fun w P1 hF hB hS hT => impl_step.calls y4453 y4752 hB hF hx4871)) (fun s w h => zab [some 0, none, none, some 3, some 4, some 5] (by decide) w h rfl) (fun _ => ?_)
                refine a_one 13 rfl rfl (by kernel_rfl) rfl (e_lit (vs := [(0, .agg #[.int .i64 (mn y4453 y4752), .int .i64 (mx y4453 y4752)])]) (cs := [.int .i64 (mn y4453 y4752), .int .i64 (mx y4453 y4752)]) kStep ([(⟨mn y4453 y4752, mx y4453 y4752⟩ : SStep)] : List SStep) Try.underlying34 I117 (by decide) rfl (by decide) rfl rfl (fun _ _ => reps_flat _)) (fun s w h => zab [some 1, none, none, some 4, some 5, some 6] (by decide) w h rfl) (cur2 (fun A4931 c4932 => ?_))
                refine a_one 14 rfl rfl (by kernel_rfl) rfl (e_app (i := 3) (j := 0) Try.underlying34 I117 rfl (by decide) (by decide) rfl rfl rfl rfl rfl ha4992) (fun s w h => zab [some 1, none, none, some 4, some 5, some 6] (by decide) w h rfl) (cur2 (fun A4993 c4994 => ?_))
                refine zae 15 rfl rfl rfl (by kernel_rfl) (fun _ _ _ h => h) (q_f F36_1 rfl) ?_
                refine a_one 16 rfl rfl (by kernel_rfl) rfl (zb7 (i := 2) rfl rfl rfl rfl Z34 rfl rfl) (fun s w h => zab [some 1, none, none, some 4, some 5, some 6] (by decide) w h rfl) (fun _ => ?_)
                refine zb5 (by kernel_rfl) ?_
                refine zb2 (l4991, A4993, c4994) h trivial (fun w h => za8 [1, 2, 3, 4, 5, 6] (by decide) rfl w h) ?_
                repeat (first | exact zac _ _ | refine zah rfl ?_ | refine zad rfl ?_ | refine zai rfl ?_)
              · skip
                refine a_two 1 13 rfl rfl rfl rfl (by kernel_rfl) rfl rfl (ev_q rfl (q_ldb Y34 rfl (fun w h => h.za9 (i := 1) rfl) rfl)) (fun s w h => zab [some 0, none, none, some 3, some 4, some 5] (by decide) w h rfl) (e_lit (vs := [(0, .agg #[.int .i64 (mn y4453 y4752), .int .i64 (mx y4453 y4752)])]) (cs := [.int .i64 (mn y4453 y4752), .int .i64 (mx y4453 y4752)]) kStep ([(⟨mn y4453 y4752, mx y4453 y4752⟩ : SStep)] : List SStep) Try.underlying34 I117 (by decide) rfl (by decide) rfl rfl (fun _ _ => reps_flat _)) (fun s w h => zab [some 1, none, none, some 4, some 5, some 6] (by decide) w h rfl) (fun _ => ?_) (cur2 (fun A4931 c4932 => ?_))
                · skip
                  refine a_one 13 rfl rfl (by kernel_rfl) rfl (e_lit (vs := [(0, .agg #[.int .i64 (mn y4453 y4752), .int .i64 (mx y4453 y4752)])]) (cs := [.int .i64 (mn y4453 y4752), .int .i64 (mx y4453 y4752)]) kStep ([(⟨mn y4453 y4752, mx y4453 y4752⟩ : SStep)] : List SStep) Try.underlying34 I117 (by decide) rfl (by decide) rfl rfl (fun _ _ => reps_flat _)) (fun s w h => zab [some 1, none, none, some 4, some 5, some 6] (by decide) w h rfl) (cur2 (fun A4931 c4932 => ?_))
                  refine a_one 14 rfl rfl (by kernel_rfl) rfl (e_app (i := 3) (j := 0) Try.underlying34 I117 rfl (by decide) (by decide) rfl rfl rfl rfl rfl ha4992) (fun s w h => zab [some 1, none, none, some 4, some 5, some 6] (by decide) w h rfl) (cur2 (fun A4993 c4994 => ?_))
                  refine zae 15 rfl rfl rfl (by kernel_rfl) (fun _ _ _ h => h) (q_f F36_1 rfl) ?_
                  refine a_one 16 rfl rfl (by kernel_rfl) rfl (zb7 (i := 2) rfl rfl rfl rfl Z34 rfl rfl) (fun s w h => zab [some 1, none, none, some 4, some 5, some 6] (by decide) w h rfl) (fun _ => ?_)
                  refine zb5 (by kernel_rfl) ?_
                  refine zb2 (l4991, A4993, c4994) h trivial (fun w h => za8 [1, 2, 3, 4, 5, 6] (by decide) rfl w h) ?_
                  repeat (first | exact zac _ _ | refine zah rfl ?_ | refine zad rfl ?_ | refine zai rfl ?_)
                · skip
                  refine a_one 1 rfl rfl (by kernel_rfl) rfl (ev_q rfl (q_ldb Y34 rfl (fun w h => h.za9 (i := 2) rfl) rfl)) (fun s w h => zab [some 1, none, none, some 4, some 5, some 6] (by decide) w h rfl) (fun _ => ?_)
                  refine a_one 14 rfl rfl (by kernel_rfl) rfl (e_app (i := 3) (j := 0) Try.underlying34 I117 rfl (by decide) (by decide) rfl rfl rfl rfl rfl ha4992) (fun s w h => zab [some 1, none, none, some 4, some 5, some 6] (by decide) w h rfl) (cur2 (fun A4993 c4994 => ?_))
                  refine zae 15 rfl rfl rfl (by kernel_rfl) (fun _ _ _ h => h) (q_f F36_1 rfl) ?_
                  refine a_one 16 rfl rfl (by kernel_rfl) rfl (zb7 (i := 2) rfl rfl rfl rfl Z34 rfl rfl) (fun s w h => zab [some 1, none, none, some 4, some 5, some 6] (by decide) w h rfl) (fun _ => ?_)
                  refine zb5 (by kernel_rfl) ?_
                  refine zb2 (l4991, A4993, c4994) h trivial (fun w h => za8 [1, 2, 3, 4, 5, 6] (by decide) rfl w h) ?_
                  repeat (first | exact zac _ _ | refine zah rfl ?_ | refine zad rfl ?_ | refine zai rfl ?_)
            · skip
              refine (cur3 (fun l4142 A4143 c4144 => fun U4148 hJ4149 => ?_))
              have e_ := Option.some.inj hJ4149; have h := hR4147; rw [← e_] at h; clear e_ hJ4149 hR4147 hl4146
              refine a_startS (ds := []) [some 0, some 1, some 2, some 3, none, some 5] MO rfl ?_
              refine zb3 0 rfl rfl rfl (by kernel_rfl) (fun _ _ _ h => h) (fun w h => zab [some 0, some 1, some 2, some 3, none, some 5] (by decide) w h rfl) (q_ldb Y22 rfl (fun w h => h.za9 (i := 3) rfl) rfl) ?_
              refine zae 1 rfl rfl rfl (by kernel_rfl) (fun _ _ _ h => h) (q_f F80_0 rfl) ?_
              refine zb3 2 rfl rfl rfl (by kernel_rfl) (fun _ _ _ h => h) (fun w h => zab [some 0, some 1, some 2, some 3, none, some 5] (by decide) w h rfl) (q_ldb Y3 rfl (fun w h => h.za9 (i := 5) rfl) rfl) ?_
              refine za6 h (fun _ hx5231 h => ?_) rfl
              refine a_one 3 rfl rfl (by kernel_rfl) rfl (zaa 0 Z Try.func119 N119 rfl rfl rfl (fun w P1 hF hB hS hT => impl_Plan_many.calls g1144 (l0_1.length : Int) A4143 c4144 l4142.length l4142 none 0 0 [] hB hF (hT 2 _ rfl).row (hT 2 _ rfl).cap (stab_nil _) (Nat.le_refl 0) (hT 1 _ rfl).box hx5231)) (fun s w h => zab [some 0, some 1, some 2, some 3, none, some 5] (by decide) w h rfl) (fun _ => ?_)
              refine zae 4 rfl rfl rfl (by kernel_rfl) (fun _ _ _ h => h) (q_sub64 rfl rfl) ?_
              refine a_fact (p := Sh A1147 l1146.length l2308.length) (fun w h => f_sh (dk := (Kd.int .i64)) h (fun w h => h.zas (i := 4) rfl)) (fun hq5232 => ?_)
              refine za6 h (fun y5234 hg5233 h => ?_) rfl
              refine zae 5 rfl rfl rfl (by kernel_rfl) (fun _ _ _ h => h) (q_ix Try.underlying22 Z3 rfl rfl hq5232 hg5233) ?_
              refine za6 h (fun l5235 hs5236 h => ?_) rfl
              refine a_one 6 rfl rfl (by kernel_rfl) rfl (e_set (i := 4) rfl rfl rfl Z3 hs5236) (fun s w h => zab [some 0, some 1, some 2, some 3, none, some 5] (by decide) w h rfl) (fun _ => ?_)
              refine zb5 (by kernel_rfl) ?_
              refine zaq ?_
              refine za1 ?_
              refine za0 ?_
              refine o_q rfl rfl (q_up rfl rfl (hr2316.up hm2317)) ?_
              refine o_q rfl rfl (za2 rfl) ?_
              refine o_end ?_
              refine zam ys2314.length (ys2314, l5235, l4142, i2312 + 1, A4143, c4144) (by rw [← hk2322]; exact Nat.lt_succ_self _) ⟨hr2316.step, rfl, h⟩ ⟨rfl, trivial⟩ (fun w h => za8 [2, 0, 1, 3, 4] (by decide) rfl w h) ?_
              repeat (first | exact zac _ _ | refine zah rfl ?_ | refine zad rfl ?_ | refine zai rfl ?_)
    · skip
      clear hl2303
      have hr2300 := hJ_.1; have hk2306 := hJ_.2.1; have h := hJ_.2.2; clear hJ_
      replace h : impl_RegCode_read.l0 (y2297 :: ys2298) l2295 i2296 = some o2304 := h
      rw [impl_RegCode_read.l0] at h
      refine c_seq ?_
      refine za0 ?_
      refine o_q rfl rfl (q_lss rfl rfl) ?_
      refine o_end ?_
      refine za1 ?_
      refine c_seq ?_
      refine zay (congrArg Value.bool hr2300.lt) ?_
      refine zak ?_
      refine za1 ?_
      refine c_seq ?_
      refine zaj ?_
      refine c_seq ?_
      refine za0 ?_
      refine o_q rfl rfl (za2 rfl) ?_
      refine zau (p := Sh A0_1 l0_1.length l0_1.length) (fun w h => f_sh (dk := (Kd.int .i64)) h (fun w h => R0_1.now Z h)) (fun hq5237 => ?_)
      refine o_q rfl rfl (q_ix Try.underlying22 Z3 rfl rfl hq5237 hr2300.get) ?_
      refine o_q rfl rfl (q_lde (off := 0) Y3 rfl rfl (fun w h => R0_1.now Z h) hr2300.get (fun _ _ h => h) rfl) ?_
      refine o_q rfl rfl (q_asg rfl) ?_
      refine o_q rfl rfl (q_asg rfl) ?_
      refine o_end ?_
      refine za1 ?_
      refine c_seq ?_
      refine za6 h (fun o5245 hl5246 hR5247 => ?_) rfl
      clear h
      refine c_cutJ (σ := Bool) (fun b5244 => some b5244 = some o5245) [38, 39, 40, 41, 42, 43, 44, 45, 46, 47, 48] (fun b5244 => [(48, .bool b5244)]) (fun b5244 => [box g1 36 #[.int .i64 0, .slice none 0 0, .slice none 0 0], box g1144 36 #[.int .i64 (l0_1.length : Int), .slice none 0 0, .slice none 0 0], box g1145 22 #[.slice A1147 l1146.length c1148], row (Kd.int .i64) 3 (.slice A1147 l1146.length c1148) l2295]) ?_ ?_
      · skip
        have h := hl5246; clear hl5246
        clear hR5247
        refine za0 ?_
        refine o_q rfl rfl (za2 rfl) ?_
        refine o_q rfl rfl (za2 rfl) ?_
        refine za6 h (fun b5251 hx5250 h => ?_) rfl
        refine o_e rfl (zaa 0 Z Try.func170 N170 rfl rfl rfl (fun w P1 hF hB hS hT => impl_RegCode_read_1.calls y2297 g1145 A1147 c1148 l1146.length l2295 hB hF (hT 3 _ rfl).row (hT 3 _ rfl).cap (hT 2 _ rfl).box _ hx5250)) (fun _ => ?_)
        refine o_q rfl rfl (q_not rfl) ?_
        refine o_q rfl rfl (za2 rfl) ?_
        refine byB b5251 (fun hb5252 => ?_) (fun hb5252 => ?_)
        · replace h := bb_t hb5252 h
          refine o_w (za4 rfl rfl rfl (congrArg (fun b => Value.bool (!(b))) hb5252)) rfl (q_ldb Y22 rfl (fun w h => h.za9 (i := 2) rfl) rfl) ?_
          refine o_w (za4 rfl rfl rfl (congrArg (fun b => Value.bool (!(b))) hb5252)) rfl (za2 rfl) ?_
          refine zau (p := Sh A1147 l1146.length l2295.length) (fun w h => f_sh (dk := (Kd.int .i64)) h (fun w h => h.zas (i := 3) rfl)) (fun hq5253 => ?_)
          refine za6 h (fun y5255 hg5254 h => ?_) rfl
          refine o_w (za4 rfl rfl rfl (congrArg (fun b => Value.bool (!(b))) hb5252)) rfl (q_ix Try.underlying22 Z3 rfl rfl hq5253 hg5254) ?_
          refine o_w (za4 rfl rfl rfl (congrArg (fun b => Value.bool (!(b))) hb5252)) rfl (q_lde (off := 0) Y3 rfl rfl (fun w h => h.zas (i := 3) rfl) hg5254 (fun _ _ h => h) rfl) ?_
          refine o_w (za4 rfl rfl rfl (congrArg (fun b => Value.bool (!(b))) hb5252)) rfl (q_neq rfl rfl) ?_
          refine o_q rfl rfl (zan false (congrArg (fun b => Value.bool (!(b))) hb5252) rfl) ?_
          refine o_end ?_
          refine zb2 (decide (y5255 ≠ (-1))) h ⟨rfl, trivial⟩ (fun w h => za8 [0, 1, 2, 3] (by decide) rfl w h) ?_
          repeat (first | exact zac _ _ | refine zah rfl ?_ | refine zad rfl ?_ | refine zai rfl ?_)
        · replace h := bb_f hb5252 h
          refine @o_n _ _ _ _ _ _ _ _ _ _ _ 43 (za3 rfl rfl rfl (congrArg (fun b => Value.bool (!(b))) hb5252) rfl) (Eq.refl (some 43)) ?_
          refine @o_n _ _ _ _ _ _ _ _ _ _ _ 44 (za3 rfl rfl rfl (congrArg (fun b => Value.bool (!(b))) hb5252) rfl) (Eq.refl (some 44)) ?_
          refine @o_n _ _ _ _ _ _ _ _ _ _ _ 45 (za3 rfl rfl rfl (congrArg (fun b => Value.bool (!(b))) hb5252) rfl) (Eq.refl (some 45)) ?_
          refine @o_n _ _ _ _ _ _ _ _ _ _ _ 46 (za3 rfl rfl rfl (congrArg (fun b => Value.bool (!(b))) hb5252) rfl) (Eq.refl (some 46)) ?_
          refine @o_n _ _ _ _ _ _ _ _ _ _ _ 47 (za3 rfl rfl rfl (congrArg (fun b => Value.bool (!(b))) hb5252) rfl) (Eq.refl (some 47)) ?_
          refine o_q rfl rfl (zan true (congrArg (fun b => Value.bool (!(b))) hb5252) rfl) ?_
          refine o_end ?_
          refine zb2 true h ⟨rfl, trivial⟩ (fun w h => za8 [0, 1, 2, 3] (by decide) rfl w h) ?_
          repeat (first | exact zac _ _ | refine zah rfl ?_ | refine zad rfl ?_ | refine zai rfl ?_)
      · skip
        refine (fun b5244 => fun U5248 hJ5249 => ?_)
        have e_ := Option.some.inj hJ5249; have h := hR5247; rw [← e_] at h; clear e_ hJ5249 hR5247 hl5246
        refine zar _ rfl (fun hb5256 => ?_) (fun hb5256 => ?_)
        · skip
          replace h := bb_t hb5256 h
          refine c_seq ?_
          refine za0 ?_
          refine o_q rfl rfl (q_build (vs := []) (cs := [.int .i64 0, .slice none 0 0, .slice none 0 0]) rfl rfl) ?_
          refine o_e rfl (zao (i := 0) rfl rfl rfl Z36 rfl rfl) (fun _ => ?_)
          refine o_q rfl rfl (q_asg rfl) ?_
          refine o_end ?_
          refine za1 ?_
          refine c_ret ?_
          refine za5 ?_
          refine zal ?_
          refine za5 ?_
          refine za5 ?_
          have e_ := Option.some.inj h; replace h := hR2302; rw [← e_] at h; clear e_
          refine zal ?_
          refine za5 ?_
          refine x_nil kStep 117 ?_
          refine x_nil (Kd.int .i64) 3 ?_
          have e0_ := Option.some.inj h; clear h
          have d0_ := (Prod.mk.inj e0_).1; have e1_ := (Prod.mk.inj e0_).2; clear e0_; subst d0_
          have d1_ := (Prod.mk.inj e1_).1; have e2_ := (Prod.mk.inj e1_).2; clear e1_; subst d1_
          have d2_ := (Prod.mk.inj e2_).1; have e3_ := (Prod.mk.inj e2_).2; clear e2_; subst d2_
          subst e3_
          exact x_r2 (none, 0, none, 0) Try.results126 (rv_cell rfl G36 Z36 (fun w h => h.za9 (i := 2) rfl) rfl) (zaf rfl) rfl (fun w h => za8 [1, 0] (by decide) rfl w h)
        · skip
          replace h := bb_f hb5256 h
          refine zak ?_
          refine za1 ?_
          refine za0 ?_
          refine o_q rfl rfl (q_ldb Y22 rfl (fun w h => h.za9 (i := 2) rfl) rfl) ?_
          refine o_q rfl rfl (za2 rfl) ?_
          refine o_q rfl rfl (za2 rfl) ?_
          refine zau (p := Sh A1147 l1146.length l2295.length) (fun w h => f_sh (dk := (Kd.int .i64)) h (fun w h => h.zas (i := 3) rfl)) (fun hq5257 => ?_)
          refine za6 h (fun y5259 hg5258 h => ?_) rfl
          refine o_q rfl rfl (q_ix Try.underlying22 Z3 rfl rfl hq5257 hg5258) ?_
          refine za6 h (fun l5260 hs5261 h => ?_) rfl
          refine o_e rfl (e_set (i := 3) rfl rfl rfl Z3 hs5261) (fun _ => ?_)
          refine o_end ?_
          refine zaq ?_
          refine za1 ?_
          refine za0 ?_
          refine o_q rfl rfl (q_up rfl rfl (hr2300.up hm2301)) ?_
          refine o_q rfl rfl (za2 rfl) ?_
          refine o_end ?_
          refine zam ys2298.length (ys2298, l5260, i2296 + 1) (by rw [← hk2306]; exact Nat.lt_succ_self _) ⟨hr2300.step, rfl, h⟩ ⟨rfl, trivial⟩ (fun w h => za8 [0, 1, 2, 3] (by decide) rfl w h) ?_
          repeat (first | exact zac _ _ | refine zah rfl ?_ | refine zad rfl ?_ | refine zai rfl ?_)

/-! ### (*loop.example/g01098/impl.Plan).formed$1: function 175 -/
def impl_Plan_formed_1.f (a0 : Int) (a1_0_0 : Int) (l1_0_1 : List SStep) (l1_0_2 : List Int) : Option Bool := (impl_Plan_many.f a1_0_0 l1_0_1 l1_0_2).bind fun _ => (impl_in.f a0 0 (w64 (w64 (a1_0_0 + (l1_0_1.length : Int)) - 1))).bind fun b3 => some (!b3)
set_option maxHeartbeats 600000 in
set_option maxRecDepth 100000 in
theorem impl_Plan_formed_1.calls {w0 ws : World} {P0 : Nat → Prop} (a0 : Int) (g1 : Nat) (g1_0 : Nat) (a1_0_0 : Int) (A1_0_1 : Option Addr) (c1_0_1 : Nat) (n1_0_1 : Nat) (l1_0_1 : List SStep) (A1_0_2 : Option Addr) (c1_0_2 : Nat) (n1_0_2 : Nat) (l1_0_2 : List Int) (Z : Below w0.heap.size w0 ws) (hF : Fr w0 ws P0 [] ws) (R1_0_1 : Stable ws P0 (fun w => Kd.C kStep w A1_0_1 n1_0_1 l1_0_1)) (hc1_0_1 : n1_0_1 ≤ c1_0_1) (R1_0_2 : Stable ws P0 (fun w => Kd.C (Kd.int .i64) w A1_0_2 n1_0_2 l1_0_2)) (hc1_0_2 : n1_0_2 ≤ c1_0_2) (B1_0 : Stable ws P0 (fun w => w.heap[g1_0]? = some (.cells #[.int .i64 a1_0_0, .slice A1_0_1 n1_0_1 c1_0_1, .slice A1_0_2 n1_0_2 c1_0_2] 36 (0, 0)))) (B1 : Stable ws P0 (fun w => w.heap[g1]? = some (.cells #[.pointer (some ⟨g1_0, 0, none⟩)] 88 (0, 0)))) (r_1 : Bool) (h : impl_Plan_formed_1.f a0 a1_0_0 l1_0_1 l1_0_2 = some r_1) :
    Calls Try.prog 175 #[.int .i64 a0, .pointer (some ⟨g1, 0, none⟩)] ws (Post1 w0 ws P0 (fun (_ : Unit) => .bool r_1) (fun (_ : Unit) => [])) := by
  unfold impl_Plan_formed_1.f at h
  obtain rfl := (R1_0_1 ws (KeptB.refl _ _)).1
  obtain rfl := (R1_0_2 ws (KeptB.refl _ _)).1
  refine enter Try.func175 rfl Try.ntmps175 rfl hF ?_
  refine c_seq ?_
  refine za0 ?_
  refine o_q rfl rfl (q_asg rfl) ?_
  refine o_end ?_
  refine za1 ?_
  refine c_seq ?_
  refine za0 ?_
  refine o_q rfl rfl (za2 rfl) ?_
  refine o_q rfl rfl (q_ldb Y88 rfl (fun w h => B1.now Z h) rfl) ?_
  refine za6 h (fun _ hx1 h => ?_) rfl
  refine o_e rfl (zaa 0 Z Try.func119 N119 rfl rfl rfl (fun w P1 hF hB hS hT => impl_Plan_many.calls g1_0 a1_0_0 A1_0_1 c1_0_1 l1_0_1.length l1_0_1 A1_0_2 c1_0_2 l1_0_2.length l1_0_2 hB hF (hS _ R1_0_1) hc1_0_1 (hS _ R1_0_2) hc1_0_2 (hS _ B1_0) hx1)) (fun _ => ?_)
  refine o_q rfl rfl (q_sub64 rfl rfl) ?_
  refine za6 h (fun b3 hx2 h => ?_) rfl
  refine o_e rfl (zaa 0 Z Try.func83 N83 rfl rfl rfl (fun w P1 hF hB hS hT => impl_in.calls a0 0 (w64 (w64 (a1_0_0 + (l1_0_1.length : Int)) - 1)) hB hF _ hx2)) (fun _ => ?_)
  refine o_q rfl rfl (q_not rfl) ?_
  refine o_q rfl rfl (q_asg rfl) ?_
  refine o_end ?_
  refine za1 ?_
  refine c_ret ?_
  have e0_ := Option.some.inj h; clear h
  subst e0_
  exact x_r1 () Try.results175 (zaf rfl) rfl (fun w h => za8 [] (by decide) rfl w h)

end Go.Proofs.Ytpdpomjgfmdjfaa.G2
