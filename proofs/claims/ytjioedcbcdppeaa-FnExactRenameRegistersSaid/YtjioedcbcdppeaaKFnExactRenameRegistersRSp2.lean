import Derived.Test.YtjioedcbcdppeaaKFnExactRenameRegistersRSp1
namespace Go.Proofs.Ytjioedcbcdppeaa.RS
open Go.RowKit Go.Proofs.Ytjioedcbcdppeaa.Frame Go.Proofs.YtjioedcbcdppeaaW.PrintLast Go.Proofs.Ytjioedcbcdppeaa.Hand
open Go.Proofs.YtjioedcbcdppeaaW.PrintWords hiding mn mx
set_option linter.unusedVariables false
/-! ### loop.example/g01098/spec.rePlan: function 74 -/
def spec_rePlan.l0 (l9 : List Int) : (List Int) → (List Int) → Int → Option ((Int × (List SStep) × (List Int) × Bool) ⊕ ((List Int)))
  | [], l20, i23 => some (.inr l20)
  | y24 :: ys25, l20, i23 => (gt l9 y24).bind fun y39 => if y39 < 0 then (some (.inl (0, ([] : List SStep), ([] : List Int), false))) else ((gt l9 y24).bind fun y283 => (ap l20 ([y283] : List Int)).bind fun l462 => spec_rePlan.l0 l9 ys25 l462 (i23 + 1))
def spec_rePlan.f (k : Nat) (a0_0 : Int) (l0_1 : List Int) (l0_2 : List SRegOp) (l0_3 : List Int) : Option (Int × (List SStep) × (List Int) × Bool) := (spec_reShape.f a0_0 l0_1 l0_2 l0_3).bind fun b6 => if b6 = true then ((spec_reValues.f k a0_0 l0_1 l0_2 l0_3 (l0_2.length : Int)).bind fun (l9, l10, b11) => if b11 = true then ((spec_rePlan.l0 l9 l0_3 ([] : List Int) 0).bind fun o_ => match o_ with | .inl r_ => some r_ | .inr l20 => (spec_plGood.f k (l0_1.length : Int) l10 l20).bind fun b35 => some ((l0_1.length : Int), l10, l20, b35)) else (some (0, ([] : List SStep), ([] : List Int), false))) else (some (0, ([] : List SStep), ([] : List Int), false))
set_option maxHeartbeats 600000 in
set_option maxRecDepth 100000 in
theorem spec_rePlan.calls (k : Nat) {w0 ws : World} {P0 : Nat → Prop} (a0_0 : Int) (A0_1 : Option Addr) (c0_1 : Nat) (n0_1 : Nat) (l0_1 : List Int) (A0_2 : Option Addr) (c0_2 : Nat) (n0_2 : Nat) (l0_2 : List SRegOp) (A0_3 : Option Addr) (c0_3 : Nat) (n0_3 : Nat) (l0_3 : List Int) (Z : Below w0.heap.size w0 ws) (hF : Fr w0 ws P0 [] ws) (R0_1 : Stable ws P0 (fun w => Kd.C (Kd.int .i64) w A0_1 n0_1 l0_1)) (hc0_1 : n0_1 ≤ c0_1) (R0_2 : Stable ws P0 (fun w => Kd.C zat w A0_2 n0_2 l0_2)) (hc0_2 : n0_2 ≤ c0_2) (R0_3 : Stable ws P0 (fun w => Kd.C (Kd.int .i64) w A0_3 n0_3 l0_3)) (hc0_3 : n0_3 ≤ c0_3) (r_1 : Int) (r_2 : List SStep) (r_5 : List Int) (r_8 : Bool) (h : spec_rePlan.f k a0_0 l0_1 l0_2 l0_3 = some (r_1, r_2, r_5, r_8)) :
    Calls Try.prog 74 #[.agg #[.int .i64 a0_0, .slice A0_1 n0_1 c0_1, .slice A0_2 n0_2 c0_2, .slice A0_3 n0_3 c0_3]] ws (Post1 w0 ws P0 (fun ((q_3, q_4, q_6, q_7) : (Option Addr) × Nat × (Option Addr) × Nat) => .tuple #[.agg #[.int .i64 r_1, .slice q_3 r_2.length q_4, .slice q_6 r_5.length q_7], .bool r_8]) (fun ((q_3, q_4, q_6, q_7) : (Option Addr) × Nat × (Option Addr) × Nat) => [row kStep 117 (.slice q_3 r_2.length q_4) r_2, row (Kd.int .i64) 3 (.slice q_6 r_5.length q_7) r_5])) := by
  unfold spec_rePlan.f at h
  obtain rfl := (R0_1 ws (KeptB.refl _ _)).1
  obtain rfl := (R0_2 ws (KeptB.refl _ _)).1
  obtain rfl := (R0_3 ws (KeptB.refl _ _)).1
  refine enter Try.func74 rfl Try.ntmps74 rfl hF ?_
  refine c_seq ?_
  refine za0 ?_
  refine o_e rfl (e_box rfl) (fun g1 => ?_)
  refine o_e rfl (zar V43 rfl) (fun g3 => ?_)
  refine o_q rfl rfl (q_asg rfl) ?_
  refine o_end ?_
  refine za1 ?_
  refine c_seq ?_
  refine c_seq ?_
  refine za0 ?_
  refine o_q rfl rfl (q_ldB G29 Z29 rfl (fun w h => h.za9 (i := 1) rfl) rfl) ?_
  refine za7 h (fun b6 hx5 h => ?_) rfl
  refine o_e rfl (zab 0 Z Try.func108 N108 rfl rfl rfl (fun w P1 hF hB hS hT => spec_reShape.calls a0_0 A0_1 c0_1 l0_1.length l0_1 A0_2 c0_2 l0_2.length l0_2 A0_3 c0_3 l0_3.length l0_3 hB hF (hS _ R0_1) hc0_1 (hS _ R0_2) hc0_2 (hS _ R0_3) hc0_3 _ hx5)) (fun _ => ?_)
  refine o_q rfl rfl (q_not rfl) ?_
  refine o_end ?_
  refine za1 ?_
  refine zaq _ rfl (fun hb7 => ?_) (fun hb7 => ?_)
  · replace hb7 := nt_t hb7
    replace h := bb_f hb7 h
    refine c_seq ?_
    refine za0 ?_
    refine o_q rfl rfl (q_build (vs := []) (cs := [.int .i64 0, .slice none 0 0, .slice none 0 0]) rfl rfl) ?_
    refine o_e rfl (zam (i := 0) rfl rfl rfl Z43 rfl rfl) (fun _ => ?_)
    refine o_q rfl rfl (q_asg rfl) ?_
    refine o_end ?_
    refine za1 ?_
    refine c_ret ?_
    refine za5 ?_
    refine x_nil kStep 117 ?_
    refine x_nil (Kd.int .i64) 3 ?_
    have e0_ := Option.some.inj h; clear h
    have d0_ := (Prod.mk.inj e0_).1; have e1_ := (Prod.mk.inj e0_).2; clear e0_; subst d0_
    have d1_ := (Prod.mk.inj e1_).1; have e2_ := (Prod.mk.inj e1_).2; clear e1_; subst d1_
    have d2_ := (Prod.mk.inj e2_).1; have e3_ := (Prod.mk.inj e2_).2; clear e2_; subst d2_
    subst e3_
    exact x_r2 (none, 0, none, 0) Try.results74 (rv_cell rfl G43 Z43 (fun w h => h.za9 (i := 2) rfl) rfl) (zae rfl) rfl (fun w h => za6 [1, 0] (by decide) rfl w h)
  · replace hb7 := nt_f hb7
    replace h := bb_t hb7 h
    refine zal ?_
    refine za1 ?_
    refine c_seq ?_
    refine za0 ?_
    refine o_q rfl rfl (q_ldB G29 Z29 rfl (fun w h => h.za9 (i := 1) rfl) rfl) ?_
    refine o_q rfl rfl (q_f F29_2 rfl) ?_
    refine o_q rfl rfl (q_ldb Y27 rfl (fun w h => h.za9 (i := 1) rfl) rfl) ?_
    refine o_q rfl rfl (q_len Try.underlying27 rfl) ?_
    refine bindE3 h (fun l9 l10 b11 hx8 h => ?_) rfl
    refine o_e rfl (zab 0 Z Try.func109 N109 rfl rfl rfl (fun w P1 hF hB hS hT => spec_reValues.calls k a0_0 A0_1 c0_1 l0_1.length l0_1 A0_2 c0_2 l0_2.length l0_2 A0_3 c0_3 l0_3.length l0_3 (l0_2.length : Int) hB hF (hS _ R0_1) hc0_1 (hS _ R0_2) hc0_2 (hS _ R0_3) hc0_3 _ _ _ hx8)) (cur4 (fun A12 c13 A14 c15 => ?_))
    refine o_q rfl rfl (za2 rfl) ?_
    refine o_q rfl rfl (q_ext rfl rfl) ?_
    refine o_q rfl rfl (q_ext rfl rfl) ?_
    refine o_q rfl rfl (q_ext rfl rfl) ?_
    refine o_q rfl rfl (q_asg rfl) ?_
    refine o_q rfl rfl (q_asg rfl) ?_
    refine o_q rfl rfl (q_asg rfl) ?_
    refine o_end ?_
    refine za1 ?_
    refine c_seq ?_
    refine c_seq ?_
    refine za0 ?_
    refine o_q rfl rfl (za2 rfl) ?_
    refine o_q rfl rfl (q_not rfl) ?_
    refine o_end ?_
    refine za1 ?_
    refine zaq _ rfl (fun hb16 => ?_) (fun hb16 => ?_)
    · replace hb16 := nt_t hb16
      replace h := bb_f hb16 h
      refine c_seq ?_
      refine za0 ?_
      refine o_q rfl rfl (q_build (vs := []) (cs := [.int .i64 0, .slice none 0 0, .slice none 0 0]) rfl rfl) ?_
      refine o_e rfl (zam (i := 2) rfl rfl rfl Z43 rfl rfl) (fun _ => ?_)
      refine o_q rfl rfl (q_asg rfl) ?_
      refine o_end ?_
      refine za1 ?_
      refine c_ret ?_
      refine za5 ?_
      refine x_nil kStep 117 ?_
      refine x_nil (Kd.int .i64) 3 ?_
      have e0_ := Option.some.inj h; clear h
      have d0_ := (Prod.mk.inj e0_).1; have e1_ := (Prod.mk.inj e0_).2; clear e0_; subst d0_
      have d1_ := (Prod.mk.inj e1_).1; have e2_ := (Prod.mk.inj e1_).2; clear e1_; subst d1_
      have d2_ := (Prod.mk.inj e2_).1; have e3_ := (Prod.mk.inj e2_).2; clear e2_; subst d2_
      subst e3_
      exact x_r2 (none, 0, none, 0) Try.results74 (rv_cell rfl G43 Z43 (fun w h => h.za9 (i := 4) rfl) rfl) (zae rfl) rfl (fun w h => za6 [1, 0] (by decide) rfl w h)
    · replace hb16 := nt_f hb16
      replace h := bb_t hb16 h
      refine zal ?_
      refine za1 ?_
      refine c_seq ?_
      refine za0 ?_
      refine o_q rfl rfl (q_f F29_1 rfl) ?_
      refine o_q rfl rfl (q_ldb Y22 rfl (fun w h => h.za9 (i := 3) rfl) rfl) ?_
      refine o_q rfl rfl (q_len Try.underlying22 rfl) ?_
      refine o_q rfl rfl (za2 rfl) ?_
      refine o_q rfl rfl (q_build (vs := [(0, .int .i64 (l0_1.length : Int)), (1, .slice A14 l10.length c15)]) (cs := [.int .i64 (l0_1.length : Int), .slice A14 l10.length c15, .slice none 0 0]) rfl rfl) ?_
      refine o_e rfl (zar V43 rfl) (fun g17 => ?_)
      refine o_e rfl (zam (i := 0) rfl rfl rfl Z43 rfl rfl) (fun _ => ?_)
      refine o_end ?_
      refine za1 ?_
      refine c_seq ?_
      refine c_seq ?_
      refine za0 ?_
      refine o_q rfl rfl (q_f F29_3 rfl) ?_
      refine o_q rfl rfl (q_ldb Y22 rfl (fun w h => h.za9 (i := 4) rfl) rfl) ?_
      refine o_q rfl rfl (q_len Try.underlying22 rfl) ?_
      refine o_q rfl rfl (za2 rfl) ?_
      refine o_end ?_
      refine za1 ?_
      refine zak ?_
      refine c_nil (Kd.int .i64) 3 ?_
      refine za7 h (fun o31 hl30 hR29 => ?_) rfl
      clear h
      refine c_fact (p := l0_3.length ≤ 9223372036854775807) (fun w h => (R0_3.now Z h).2.1) (fun hm28 => ?_)
      refine zaz (σ := (List Int) × (List Int) × Int × (Option Addr) × Nat) (fun k26 ((ys25, l20, i23, A21, c22) : (List Int) × (List Int) × Int × (Option Addr) × Nat) => Rg l0_3 i23 ys25 ∧ ys25.length = k26 ∧ spec_rePlan.l0 l9 ys25 l20 i23 = some o31) [3, 9, 34, 35, 36, 37, 38, 39, 40, 41, 42, 43, 44, 45, 46, 47, 48, 49, 50, 51, 52, 53] (fun ((ys25, l20, i23, A21, c22) : (List Int) × (List Int) × Int × (Option Addr) × Nat) => [(34, .int .i64 i23)]) (fun ((ys25, l20, i23, A21, c22) : (List Int) × (List Int) × Int × (Option Addr) × Nat) => [row (Kd.int .i64) 3 (.slice A21 l20.length c22) l20, box g17 43 #[.int .i64 (l0_1.length : Int), .slice A14 l10.length c15, .slice A21 l20.length c22], row (Kd.int .i64) 3 (.slice A12 l9.length c13) l9, row kStep 117 (.slice A14 l10.length c15) l10, box g3 43 #[.int .i64 0, .slice none 0 0, .slice none 0 0], box g1 29 #[.int .i64 a0_0, .slice A0_1 l0_1.length c0_1, .slice A0_2 l0_2.length c0_2, .slice A0_3 l0_3.length c0_3]]) l0_3.length (l0_3, ([] : List Int), 0, none, 0) ⟨Rg.start _, rfl, hl30⟩ ⟨rfl, trivial⟩ (fun w h => h) ?_
      refine fun k26 => cur5 (listC (fun l20 i23 A21 c22 U32 hJ_ => ?_) (fun y24 ys25 l20 i23 A21 c22 U32 hJ_ => ?_))
      · skip
        clear hl30
        have hr27 := hJ_.1; have hk33 := hJ_.2.1; have h := hJ_.2.2; clear hJ_
        replace h : spec_rePlan.l0 l9 [] l20 i23 = some o31 := h
        rw [spec_rePlan.l0] at h
        refine c_seq ?_
        refine za0 ?_
        refine o_q rfl rfl (q_lss rfl rfl) ?_
        refine o_end ?_
        refine za1 ?_
        refine c_seq ?_
        refine c_false (congrArg Value.bool hr27.ge) ?_
        refine c_exit ?_
        refine za8 ?_
        refine za8 ?_
        have e_ := Option.some.inj h; replace h := hR29; rw [← e_] at h; clear e_
        refine x_hit ?_
        refine za1 ?_
        refine c_seq ?_
        refine a_startS (ds := []) [some 0, some 1, some 2, some 3, none, some 5] MO rfl ?_
        refine zay 0 rfl rfl rfl (by kernel_rfl) (fun _ _ _ h => h) (fun w h => zaa [some 0, some 1, some 2, some 3, none, some 5] (by decide) w h rfl) (q_ldB G43 Z43 rfl (fun w h => h.za9 (i := 1) rfl) rfl) ?_
        refine zay 1 rfl rfl rfl (by kernel_rfl) (fun _ _ _ h => h) (fun w h => zaa [some 0, some 1, some 2, some 3, none, some 5] (by decide) w h rfl) (q_ldB G43 Z43 rfl (fun w h => h.za9 (i := 1) rfl) rfl) ?_
        refine za7 h (fun b35 hx34 h => ?_) rfl
        refine a_one 2 rfl rfl (by kernel_rfl) rfl (zab 0 Z Try.func86 N86 rfl rfl rfl (fun w P1 hF hB hS hT => spec_plGood.calls k (l0_1.length : Int) A14 c15 l10.length l10 A21 c22 l20.length l20 hB hF (hT 3 _ rfl).row (hT 3 _ rfl).cap (hT 0 _ rfl).row (hT 0 _ rfl).cap _ hx34)) (fun s w h => zaa [some 0, some 1, some 2, some 3, none, some 5] (by decide) w h rfl) (fun _ => ?_)
        refine a_one 3 rfl rfl (by kernel_rfl) rfl (zam (i := 4) rfl rfl rfl Z43 rfl rfl) (fun s w h => zaa [some 0, some 1, some 2, some 3, none, some 5] (by decide) w h rfl) (fun _ => ?_)
        refine zac 4 rfl rfl rfl (by kernel_rfl) (fun _ _ _ h => h) (q_asg rfl) ?_
        refine a_done (by kernel_rfl) ?_
        refine za1 ?_
        refine c_ret ?_
        have e0_ := Option.some.inj h; clear h
        have d0_ := (Prod.mk.inj e0_).1; have e1_ := (Prod.mk.inj e0_).2; clear e0_; subst d0_
        have d1_ := (Prod.mk.inj e1_).1; have e2_ := (Prod.mk.inj e1_).2; clear e1_; subst d1_
        have d2_ := (Prod.mk.inj e2_).1; have e3_ := (Prod.mk.inj e2_).2; clear e2_; subst d2_
        subst e3_
        exact x_r2 (A14, c15, A21, c22) Try.results74 (rv_cell rfl G43 Z43 (fun w h => h.za9 (i := 4) rfl) rfl) (zae rfl) rfl (fun w h => za6 [3, 0] (by decide) rfl w h)
      · skip
        clear hl30
        have hr27 := hJ_.1; have hk33 := hJ_.2.1; have h := hJ_.2.2; clear hJ_
        replace h : spec_rePlan.l0 l9 (y24 :: ys25) l20 i23 = some o31 := h
        rw [spec_rePlan.l0] at h
        refine c_seq ?_
        refine za0 ?_
        refine o_q rfl rfl (q_lss rfl rfl) ?_
        refine o_end ?_
        refine za1 ?_
        refine c_seq ?_
        refine c_true (congrArg Value.bool hr27.lt) ?_
        refine zal ?_
        refine za1 ?_
        refine c_seq ?_
        refine zak ?_
        refine c_seq ?_
        refine za0 ?_
        refine zb0 (p := Sh A0_3 l0_3.length l0_3.length) (fun w h => f_sh (dk := (Kd.int .i64)) h (fun w h => R0_3.now Z h)) (fun hq36 => ?_)
        refine o_q rfl rfl (q_ix Try.underlying22 Z3 rfl rfl hq36 hr27.get) ?_
        refine o_q rfl rfl (q_lde (off := 0) Y3 rfl rfl (fun w h => R0_3.now Z h) hr27.get (fun _ _ h => h) rfl) ?_
        refine o_q rfl rfl (q_asg rfl) ?_
        refine o_end ?_
        refine za1 ?_
        refine c_seq ?_
        refine c_seq ?_
        refine za0 ?_
        refine o_q rfl rfl (za2 rfl) ?_
        refine o_q rfl rfl (za2 rfl) ?_
        refine zb0 (p := Sh A12 l9.length l9.length) (fun w h => f_sh (dk := (Kd.int .i64)) h (fun w h => h.zav (i := 2) rfl)) (fun hq37 => ?_)
        refine za7 h (fun y39 hg38 h => ?_) rfl
        refine o_q rfl rfl (q_ix Try.underlying22 Z3 rfl rfl hq37 hg38) ?_
        refine o_q rfl rfl (q_lde (off := 0) Y3 rfl rfl (fun w h => h.zav (i := 2) rfl) hg38 (fun _ _ h => h) rfl) ?_
        refine o_q rfl rfl (q_lss rfl rfl) ?_
        refine o_end ?_
        refine za1 ?_
        refine zaq _ rfl (fun hb40 => ?_) (fun hb40 => ?_)
        · skip
          replace h := br_t hb40 h
          refine c_seq ?_
          refine za0 ?_
          refine o_q rfl rfl (q_build (vs := []) (cs := [.int .i64 0, .slice none 0 0, .slice none 0 0]) rfl rfl) ?_
          refine o_e rfl (zam (i := 4) rfl rfl rfl Z43 rfl rfl) (fun _ => ?_)
          refine o_q rfl rfl (q_asg rfl) ?_
          refine o_end ?_
          refine za1 ?_
          refine c_ret ?_
          refine za5 ?_
          refine zah ?_
          refine za5 ?_
          refine za5 ?_
          have e_ := Option.some.inj h; replace h := hR29; rw [← e_] at h; clear e_
          refine zah ?_
          refine za5 ?_
          refine x_nil kStep 117 ?_
          refine x_nil (Kd.int .i64) 3 ?_
          have e0_ := Option.some.inj h; clear h
          have d0_ := (Prod.mk.inj e0_).1; have e1_ := (Prod.mk.inj e0_).2; clear e0_; subst d0_
          have d1_ := (Prod.mk.inj e1_).1; have e2_ := (Prod.mk.inj e1_).2; clear e1_; subst d1_
          have d2_ := (Prod.mk.inj e2_).1; have e3_ := (Prod.mk.inj e2_).2; clear e2_; subst d2_
          subst e3_
          exact x_r2 (none, 0, none, 0) Try.results74 (rv_cell rfl G43 Z43 (fun w h => h.za9 (i := 6) rfl) rfl) (zae rfl) rfl (fun w h => za6 [1, 0] (by decide) rfl w h)
        · skip
          replace h := br_f hb40 h
          refine zal ?_
          refine za1 ?_
          refine za7 h (fun y283 hg282 h => ?_) rfl
          refine za7 h (fun l462 ha463 h => ?_) rfl
          refine a_startS (ds := []) [none, none, some 2, some 3, some 4, some 5] MO rfl ?_
          refine zac 0 rfl rfl rfl (by kernel_rfl) (fun _ _ _ h => h) (q_f F43_2 rfl) ?_
          refine zac 2 rfl rfl rfl (by kernel_rfl) (fun _ _ _ h => h) (za2 rfl) ?_
          refine zac 3 rfl rfl rfl (by kernel_rfl) (fun _ _ _ h => h) (za2 rfl) ?_
          refine zac 4 rfl rfl rfl (by kernel_rfl) (fun _ _ _ h => h) (q_ix Try.underlying22 Z3 rfl rfl hq37 hg282) ?_
          refine zay 5 rfl rfl rfl (by kernel_rfl) (fun _ _ _ h => h) (fun w h => zaa [none, none, some 2, some 3, some 4, some 5] (by decide) w h rfl) (q_lde (off := 0) Y3 rfl rfl (fun w h => h.zav (i := 2) rfl) hg282 (fun _ _ h => h) rfl) ?_
          refine a_two 1 6 rfl rfl rfl rfl (by kernel_rfl) rfl rfl (ev_q rfl (q_ldb Y22 rfl (fun w h => h.za9 (i := 1) rfl) rfl)) (fun s w h => zaa [none, none, some 2, some 3, some 4, some 5] (by decide) w h rfl) (e_lit (vs := [(0, .int .i64 y283)]) (cs := [.int .i64 y283]) (Kd.int .i64) ([y283] : List Int) Try.underlying22 I3 (by decide) rfl (by decide) rfl rfl (fun _ _ => Kd.zb1 _)) (fun s w h => zaa [none, none, some 3, some 4, some 5, some 6] (by decide) w h rfl) (fun _ => ?_) (cur2 (fun A402 c403 => ?_))
          · skip
            refine a_one 6 rfl rfl (by kernel_rfl) rfl (e_lit (vs := [(0, .int .i64 y283)]) (cs := [.int .i64 y283]) (Kd.int .i64) ([y283] : List Int) Try.underlying22 I3 (by decide) rfl (by decide) rfl rfl (fun _ _ => Kd.zb1 _)) (fun s w h => zaa [none, none, some 3, some 4, some 5, some 6] (by decide) w h rfl) (cur2 (fun A402 c403 => ?_))
            refine a_one 7 rfl rfl (by kernel_rfl) rfl (e_app (i := 1) (j := 0) Try.underlying22 I3 rfl (by decide) (by decide) rfl rfl rfl rfl rfl ha463) (fun s w h => zaa [none, none, some 3, some 4, some 5, some 6] (by decide) w h rfl) (cur2 (fun A464 c465 => ?_))
            refine zac 8 rfl rfl rfl (by kernel_rfl) (fun _ _ _ h => h) (q_f F43_2 rfl) ?_
            refine a_one 9 rfl rfl (by kernel_rfl) rfl (e_store (i := 2) rfl rfl rfl rfl Z22 rfl rfl) (fun s w h => zaa [none, none, some 3, some 4, some 5, some 6] (by decide) w h rfl) (fun _ => ?_)
            refine a_done (by kernel_rfl) ?_
            refine zau ?_
            refine za1 ?_
            refine za0 ?_
            refine o_q rfl rfl (q_up rfl rfl (hr27.up hm28)) ?_
            refine o_q rfl rfl (za2 rfl) ?_
            refine o_end ?_
            refine zas ys25.length (ys25, l462, i23 + 1, A464, c465) (by rw [← hk33]; exact Nat.lt_succ_self _) ⟨hr27.step, rfl, h⟩ ⟨rfl, trivial⟩ (fun w h => za6 [1, 2, 3, 4, 5, 6] (by decide) rfl w h) ?_
            repeat (first | exact zad _ _ | refine zai rfl ?_ | refine zaf rfl ?_ | refine zaj rfl ?_)
          · skip
            refine a_one 1 rfl rfl (by kernel_rfl) rfl (ev_q rfl (q_ldb Y22 rfl (fun w h => h.za9 (i := 2) rfl) rfl)) (fun s w h => zaa [none, none, some 3, some 4, some 5, some 6] (by decide) w h rfl) (fun _ => ?_)
            refine a_one 7 rfl rfl (by kernel_rfl) rfl (e_app (i := 1) (j := 0) Try.underlying22 I3 rfl (by decide) (by decide) rfl rfl rfl rfl rfl ha463) (fun s w h => zaa [none, none, some 3, some 4, some 5, some 6] (by decide) w h rfl) (cur2 (fun A464 c465 => ?_))
            refine zac 8 rfl rfl rfl (by kernel_rfl) (fun _ _ _ h => h) (q_f F43_2 rfl) ?_
            refine a_one 9 rfl rfl (by kernel_rfl) rfl (e_store (i := 2) rfl rfl rfl rfl Z22 rfl rfl) (fun s w h => zaa [none, none, some 3, some 4, some 5, some 6] (by decide) w h rfl) (fun _ => ?_)
            refine a_done (by kernel_rfl) ?_
            refine zau ?_
            refine za1 ?_
            refine za0 ?_
            refine o_q rfl rfl (q_up rfl rfl (hr27.up hm28)) ?_
            refine o_q rfl rfl (za2 rfl) ?_
            refine o_end ?_
            refine zas ys25.length (ys25, l462, i23 + 1, A464, c465) (by rw [← hk33]; exact Nat.lt_succ_self _) ⟨hr27.step, rfl, h⟩ ⟨rfl, trivial⟩ (fun w h => za6 [1, 2, 3, 4, 5, 6] (by decide) rfl w h) ?_
            repeat (first | exact zad _ _ | refine zai rfl ?_ | refine zaf rfl ?_ | refine zaj rfl ?_)

/-! ### loop.example/g01098/spec.reCode: function 35 -/
def spec_reCode.f (k : Nat) (a0_0 : Int) (l0_1 : List Int) (l0_2 : List SRegOp) (l0_3 : List Int) : Option Bool := (spec_rePlan.f k a0_0 l0_1 l0_2 l0_3).bind fun (i4, l5, l6, b7) => some b7
set_option maxHeartbeats 600000 in
set_option maxRecDepth 100000 in
theorem spec_reCode.calls (k : Nat) {w0 ws : World} {P0 : Nat → Prop} (a0_0 : Int) (A0_1 : Option Addr) (c0_1 : Nat) (n0_1 : Nat) (l0_1 : List Int) (A0_2 : Option Addr) (c0_2 : Nat) (n0_2 : Nat) (l0_2 : List SRegOp) (A0_3 : Option Addr) (c0_3 : Nat) (n0_3 : Nat) (l0_3 : List Int) (Z : Below w0.heap.size w0 ws) (hF : Fr w0 ws P0 [] ws) (R0_1 : Stable ws P0 (fun w => Kd.C (Kd.int .i64) w A0_1 n0_1 l0_1)) (hc0_1 : n0_1 ≤ c0_1) (R0_2 : Stable ws P0 (fun w => Kd.C zat w A0_2 n0_2 l0_2)) (hc0_2 : n0_2 ≤ c0_2) (R0_3 : Stable ws P0 (fun w => Kd.C (Kd.int .i64) w A0_3 n0_3 l0_3)) (hc0_3 : n0_3 ≤ c0_3) (r_1 : Bool) (h : spec_reCode.f k a0_0 l0_1 l0_2 l0_3 = some r_1) :
    Calls Try.prog 35 #[.agg #[.int .i64 a0_0, .slice A0_1 n0_1 c0_1, .slice A0_2 n0_2 c0_2, .slice A0_3 n0_3 c0_3]] ws (Post1 w0 ws P0 (fun (_ : Unit) => .bool r_1) (fun (_ : Unit) => [])) := by
  unfold spec_reCode.f at h
  obtain rfl := (R0_1 ws (KeptB.refl _ _)).1
  obtain rfl := (R0_2 ws (KeptB.refl _ _)).1
  obtain rfl := (R0_3 ws (KeptB.refl _ _)).1
  refine enter Try.func35 rfl Try.ntmps35 rfl hF ?_
  refine c_seq ?_
  refine za0 ?_
  refine o_e rfl (e_box rfl) (fun g1 => ?_)
  refine o_q rfl rfl (q_asg rfl) ?_
  refine o_end ?_
  refine za1 ?_
  refine c_seq ?_
  refine za0 ?_
  refine o_q rfl rfl (q_ldB G29 Z29 rfl (fun w h => h.za9 (i := 0) rfl) rfl) ?_
  refine bindE4 h (fun i4 l5 l6 b7 hx3 h => ?_) rfl
  refine o_e rfl (zab 0 Z Try.func74 N74 rfl rfl rfl (fun w P1 hF hB hS hT => spec_rePlan.calls k a0_0 A0_1 c0_1 l0_1.length l0_1 A0_2 c0_2 l0_2.length l0_2 A0_3 c0_3 l0_3.length l0_3 hB hF (hS _ R0_1) hc0_1 (hS _ R0_2) hc0_2 (hS _ R0_3) hc0_3 _ _ _ _ hx3)) (cur4 (fun A8 c9 A10 c11 => ?_))
  refine o_q rfl rfl (za2 rfl) ?_
  refine o_q rfl rfl (q_ext rfl rfl) ?_
  refine o_q rfl rfl (q_ext rfl rfl) ?_
  refine o_e rfl (zar V43 rfl) (fun g12 => ?_)
  refine o_e rfl (zam (i := 0) rfl rfl rfl Z43 rfl rfl) (fun _ => ?_)
  refine o_q rfl rfl (q_asg rfl) ?_
  refine o_end ?_
  refine za1 ?_
  refine c_seq ?_
  refine za0 ?_
  refine o_q rfl rfl (za2 rfl) ?_
  refine o_q rfl rfl (q_asg rfl) ?_
  refine o_end ?_
  refine za1 ?_
  refine c_ret ?_
  have e0_ := Option.some.inj h; clear h
  subst e0_
  exact x_r1 () Try.results35 (zae rfl) rfl (fun w h => za6 [] (by decide) rfl w h)

/-! ### loop.example/g01098/spec.moPick: function 75 -/
def spec_moPick.l0 (l0 : List Int) : (List Int) → (List Int) → Int → Option (List Int)
  | [], l3, i6 => some l3
  | y7 :: ys8, l3, i6 => (gt l0 y7).bind fun y20 => (ap l3 ([y20] : List Int)).bind fun l24 => spec_moPick.l0 l0 ys8 l24 (i6 + 1)
def spec_moPick.f (l0 : List Int) (l1 : List Int) : Option (List Int) := (spec_moPick.l0 l0 l1 ([] : List Int) 0).bind fun l3 => some l3
set_option maxHeartbeats 600000 in
set_option maxRecDepth 100000 in
theorem spec_moPick.calls {w0 ws : World} {P0 : Nat → Prop} (A0 : Option Addr) (c0 : Nat) (n0 : Nat) (l0 : List Int) (A1 : Option Addr) (c1 : Nat) (n1 : Nat) (l1 : List Int) (Z : Below w0.heap.size w0 ws) (hF : Fr w0 ws P0 [] ws) (R0 : Stable ws P0 (fun w => Kd.C (Kd.int .i64) w A0 n0 l0)) (hc0 : n0 ≤ c0) (R1 : Stable ws P0 (fun w => Kd.C (Kd.int .i64) w A1 n1 l1)) (hc1 : n1 ≤ c1) (r_1 : List Int) (h : spec_moPick.f l0 l1 = some r_1) :
    Calls Try.prog 75 #[.slice A0 n0 c0, .slice A1 n1 c1] ws (Post1 w0 ws P0 (fun ((q_2, q_3) : (Option Addr) × Nat) => .slice q_2 r_1.length q_3) (fun ((q_2, q_3) : (Option Addr) × Nat) => [row (Kd.int .i64) 3 (.slice q_2 r_1.length q_3) r_1])) := by
  unfold spec_moPick.f at h
  obtain rfl := (R0 ws (KeptB.refl _ _)).1
  obtain rfl := (R1 ws (KeptB.refl _ _)).1
  refine enter Try.func75 rfl Try.ntmps75 rfl hF ?_
  refine c_seq ?_
  refine za0 ?_
  refine o_q rfl rfl (q_asg rfl) ?_
  refine o_end ?_
  refine za1 ?_
  refine c_seq ?_
  refine za0 ?_
  refine o_q rfl rfl (q_asg rfl) ?_
  refine o_end ?_
  refine za1 ?_
  refine c_seq ?_
  refine c_seq ?_
  refine za0 ?_
  refine o_q rfl rfl (za2 rfl) ?_
  refine o_q rfl rfl (q_len Try.underlying22 rfl) ?_
  refine o_q rfl rfl (za2 rfl) ?_
  refine o_end ?_
  refine za1 ?_
  refine zak ?_
  refine c_nil (Kd.int .i64) 3 ?_
  refine za7 h (fun o14 hl13 hR12 => ?_) rfl
  clear h
  refine c_fact (p := l1.length ≤ 9223372036854775807) (fun w h => (R1.now Z h).2.1) (fun hm11 => ?_)
  refine zaz (σ := (List Int) × (List Int) × Int × (Option Addr) × Nat) (fun k9 ((ys8, l3, i6, A4, c5) : (List Int) × (List Int) × Int × (Option Addr) × Nat) => Rg l1 i6 ys8 ∧ ys8.length = k9 ∧ spec_moPick.l0 l0 ys8 l3 i6 = some o14) [5, 7, 10, 11, 12, 13, 14, 15, 16, 17, 18, 19, 20, 21] (fun ((ys8, l3, i6, A4, c5) : (List Int) × (List Int) × Int × (Option Addr) × Nat) => [(5, .slice A4 l3.length c5), (10, .int .i64 i6)]) (fun ((ys8, l3, i6, A4, c5) : (List Int) × (List Int) × Int × (Option Addr) × Nat) => [row (Kd.int .i64) 3 (.slice A4 l3.length c5) l3]) l1.length (l1, ([] : List Int), 0, none, 0) ⟨Rg.start _, rfl, hl13⟩ ⟨rfl, rfl, trivial⟩ (fun w h => h) ?_
  refine fun k9 => cur5 (listC (fun l3 i6 A4 c5 U15 hJ_ => ?_) (fun y7 ys8 l3 i6 A4 c5 U15 hJ_ => ?_))
  · skip
    clear hl13
    have hr10 := hJ_.1; have hk16 := hJ_.2.1; have h := hJ_.2.2; clear hJ_
    replace h : spec_moPick.l0 l0 [] l3 i6 = some o14 := h
    rw [spec_moPick.l0] at h
    refine c_seq ?_
    refine za0 ?_
    refine o_q rfl rfl (q_lss rfl rfl) ?_
    refine o_end ?_
    refine za1 ?_
    refine c_seq ?_
    refine c_false (congrArg Value.bool hr10.ge) ?_
    refine c_exit ?_
    refine za8 ?_
    refine za8 ?_
    have e_ := Option.some.inj h; replace h := hR12; rw [← e_] at h; clear e_
    refine x_hit ?_
    refine za1 ?_
    refine c_seq ?_
    refine za0 ?_
    refine o_q rfl rfl (za2 rfl) ?_
    refine o_q rfl rfl (q_asg rfl) ?_
    refine o_end ?_
    refine za1 ?_
    refine c_ret ?_
    have e0_ := Option.some.inj h; clear h
    subst e0_
    exact x_r1 (A4, c5) Try.results75 (zae rfl) rfl (fun w h => za6 [0] (by decide) rfl w h)
  · skip
    clear hl13
    have hr10 := hJ_.1; have hk16 := hJ_.2.1; have h := hJ_.2.2; clear hJ_
    replace h : spec_moPick.l0 l0 (y7 :: ys8) l3 i6 = some o14 := h
    rw [spec_moPick.l0] at h
    refine c_seq ?_
    refine za0 ?_
    refine o_q rfl rfl (q_lss rfl rfl) ?_
    refine o_end ?_
    refine za1 ?_
    refine c_seq ?_
    refine c_true (congrArg Value.bool hr10.lt) ?_
    refine zal ?_
    refine za1 ?_
    refine c_seq ?_
    refine zak ?_
    refine c_seq ?_
    refine za0 ?_
    refine zb0 (p := Sh A1 l1.length l1.length) (fun w h => f_sh (dk := (Kd.int .i64)) h (fun w h => R1.now Z h)) (fun hq17 => ?_)
    refine o_q rfl rfl (q_ix Try.underlying22 Z3 rfl rfl hq17 hr10.get) ?_
    refine o_q rfl rfl (q_lde (off := 0) Y3 rfl rfl (fun w h => R1.now Z h) hr10.get (fun _ _ h => h) rfl) ?_
    refine o_q rfl rfl (q_asg rfl) ?_
    refine o_end ?_
    refine za1 ?_
    refine za0 ?_
    refine o_q rfl rfl (za2 rfl) ?_
    refine o_q rfl rfl (za2 rfl) ?_
    refine o_q rfl rfl (za2 rfl) ?_
    refine zb0 (p := Sh A0 l0.length l0.length) (fun w h => f_sh (dk := (Kd.int .i64)) h (fun w h => R0.now Z h)) (fun hq18 => ?_)
    refine za7 h (fun y20 hg19 h => ?_) rfl
    refine o_q rfl rfl (q_ix Try.underlying22 Z3 rfl rfl hq18 hg19) ?_
    refine o_q rfl rfl (q_lde (off := 0) Y3 rfl rfl (fun w h => R0.now Z h) hg19 (fun _ _ h => h) rfl) ?_
    refine o_e rfl (e_lit (vs := [(0, .int .i64 y20)]) (cs := [.int .i64 y20]) (Kd.int .i64) ([y20] : List Int) Try.underlying22 I3 (by decide) rfl (by decide) rfl rfl (fun _ _ => Kd.zb1 _)) (cur2 (fun A21 c22 => ?_))
    refine za7 h (fun l24 ha25 h => ?_) rfl
    refine o_e rfl (e_app (i := 1) (j := 0) Try.underlying22 I3 rfl (by decide) (by decide) rfl rfl rfl rfl rfl ha25) (cur2 (fun A26 c27 => ?_))
    refine o_q rfl rfl (q_asg rfl) ?_
    refine o_end ?_
    refine zau ?_
    refine za1 ?_
    refine za0 ?_
    refine o_q rfl rfl (q_up rfl rfl (hr10.up hm11)) ?_
    refine o_q rfl rfl (za2 rfl) ?_
    refine o_end ?_
    refine zas ys8.length (ys8, l24, i6 + 1, A26, c27) (by rw [← hk16]; exact Nat.lt_succ_self _) ⟨hr10.step, rfl, h⟩ ⟨rfl, rfl, trivial⟩ (fun w h => za6 [1] (by decide) rfl w h) ?_
    repeat (first | exact zad _ _ | refine zai rfl ?_ | refine zaf rfl ?_ | refine zaj rfl ?_)

/-! ### loop.example/g01098/spec.reNamed: function 38 -/
def spec_reNamed.l0 (l1 : List Int) : (List SRegOp) → (List SRegOp) → Int → Option (List SRegOp)
  | [], l1580, i1583 => some l1580
  | y1584 :: ys1585, l1580, i1583 => (gt l1 y1584.f0).bind fun y1900 => (gt l1 y1584.f1).bind fun y2199 => (gt l1 y1584.f2).bind fun y2499 => (ap l1580 ([(⟨y1900, y2199, y2499⟩ : SRegOp)] : List SRegOp)).bind fun l2738 => spec_reNamed.l0 l1 ys1585 l2738 (i1583 + 1)
def spec_reNamed.f (a0_0 : Int) (l0_1 : List Int) (l0_2 : List SRegOp) (l0_3 : List Int) (l1 : List Int) (a2 : Int) : Option ((List Int) × (List SRegOp) × (List Int)) := ((spec_moPick.f l1 l0_1).bind fun l1040 => (spec_moPick.f l1 l0_3).bind fun l1280 => some (l1040, l1280)).bind fun (l787, l790) => (spec_reNamed.l0 l1 l0_2 ([] : List SRegOp) 0).bind fun l1580 => some (l787, l1580, l790)
set_option maxHeartbeats 600000 in
set_option maxRecDepth 100000 in
theorem spec_reNamed.calls {w0 ws : World} {P0 : Nat → Prop} (a0_0 : Int) (A0_1 : Option Addr) (c0_1 : Nat) (n0_1 : Nat) (l0_1 : List Int) (A0_2 : Option Addr) (c0_2 : Nat) (n0_2 : Nat) (l0_2 : List SRegOp) (A0_3 : Option Addr) (c0_3 : Nat) (n0_3 : Nat) (l0_3 : List Int) (A1 : Option Addr) (c1 : Nat) (n1 : Nat) (l1 : List Int) (a2 : Int) (Z : Below w0.heap.size w0 ws) (hF : Fr w0 ws P0 [] ws) (R0_1 : Stable ws P0 (fun w => Kd.C (Kd.int .i64) w A0_1 n0_1 l0_1)) (hc0_1 : n0_1 ≤ c0_1) (R0_2 : Stable ws P0 (fun w => Kd.C zat w A0_2 n0_2 l0_2)) (hc0_2 : n0_2 ≤ c0_2) (R0_3 : Stable ws P0 (fun w => Kd.C (Kd.int .i64) w A0_3 n0_3 l0_3)) (hc0_3 : n0_3 ≤ c0_3) (R1 : Stable ws P0 (fun w => Kd.C (Kd.int .i64) w A1 n1 l1)) (hc1 : n1 ≤ c1) (r_1 : List Int) (r_4 : List SRegOp) (r_7 : List Int) (h : spec_reNamed.f a0_0 l0_1 l0_2 l0_3 l1 a2 = some (r_1, r_4, r_7)) :
    Calls Try.prog 38 #[.agg #[.int .i64 a0_0, .slice A0_1 n0_1 c0_1, .slice A0_2 n0_2 c0_2, .slice A0_3 n0_3 c0_3], .slice A1 n1 c1, .int .i64 a2] ws (Post1 w0 ws P0 (fun ((q_2, q_3, q_5, q_6, q_8, q_9) : (Option Addr) × Nat × (Option Addr) × Nat × (Option Addr) × Nat) => .agg #[.int .i64 a2, .slice q_2 r_1.length q_3, .slice q_5 r_4.length q_6, .slice q_8 r_7.length q_9]) (fun ((q_2, q_3, q_5, q_6, q_8, q_9) : (Option Addr) × Nat × (Option Addr) × Nat × (Option Addr) × Nat) => [row (Kd.int .i64) 3 (.slice q_2 r_1.length q_3) r_1, row zat 56 (.slice q_5 r_4.length q_6) r_4, row (Kd.int .i64) 3 (.slice q_8 r_7.length q_9) r_7])) := by
  unfold spec_reNamed.f at h
  obtain rfl := (R0_1 ws (KeptB.refl _ _)).1
  obtain rfl := (R0_2 ws (KeptB.refl _ _)).1
  obtain rfl := (R0_3 ws (KeptB.refl _ _)).1
  obtain rfl := (R1 ws (KeptB.refl _ _)).1
  refine enter Try.func38 rfl Try.ntmps38 rfl hF ?_
  refine c_seq ?_
  refine za0 ?_
  refine o_e rfl (e_box rfl) (fun g1 => ?_)
  refine o_e rfl (zar V29 rfl) (fun g3 => ?_)
  refine o_end ?_
  refine za1 ?_
  refine za7 h (fun o793 hl794 hR795 => ?_) rfl
  clear h
  refine c_cutJ (σ := (List Int) × (List Int) × Nat × (Option Addr) × Nat × (Option Addr) × Nat) (fun (l787, l790, g786, A788, c789, A791, c792) => some (l787, l790) = some o793) [7, 10, 11, 12, 13, 14, 15, 16, 17, 18, 19] (fun (l787, l790, g786, A788, c789, A791, c792) => [(7, .pointer (some ⟨g786, 0, none⟩))]) (fun (l787, l790, g786, A788, c789, A791, c792) => [box g1 29 #[.int .i64 a0_0, .slice A0_1 l0_1.length c0_1, .slice A0_2 l0_2.length c0_2, .slice A0_3 l0_3.length c0_3], box g3 29 #[.int .i64 0, .slice none 0 0, .slice none 0 0, .slice none 0 0], box g786 29 #[.int .i64 a2, .slice A788 l787.length c789, .slice none 0 0, .slice A791 l790.length c792], row (Kd.int .i64) 3 (.slice A788 l787.length c789) l787, row (Kd.int .i64) 3 (.slice A791 l790.length c792) l790]) ?_ ?_
  · skip
    have h := hl794; clear hl794
    clear hR795
    refine za7 h (fun l1040 hx1039 h => ?_) rfl
    refine za7 h (fun l1280 hx1279 h => ?_) rfl
    refine a_start (ds := []) MO rfl ?_
    refine zac 0 rfl rfl rfl (by kernel_rfl) (fun _ _ _ h => h) (za2 rfl) ?_
    refine zac 1 rfl rfl rfl (by kernel_rfl) (fun _ _ _ h => h) (za2 rfl) ?_
    refine zac 2 rfl rfl rfl (by kernel_rfl) (fun _ _ _ h => h) (q_f F29_1 rfl) ?_
    refine zay 3 rfl rfl rfl (by kernel_rfl) (fun _ _ _ h => h) (fun w h => h) (q_ldb Y22 rfl (fun w h => h.za9 (i := 1) rfl) rfl) ?_
    refine zac 5 rfl rfl rfl (by kernel_rfl) (fun _ _ _ h => h) (za2 rfl) ?_
    refine zac 6 rfl rfl rfl (by kernel_rfl) (fun _ _ _ h => h) (q_f F29_3 rfl) ?_
    refine zay 7 rfl rfl rfl (by kernel_rfl) (fun _ _ _ h => h) (fun w h => h) (q_ldb Y22 rfl (fun w h => h.za9 (i := 1) rfl) rfl) ?_
    refine a_two 4 10 rfl rfl rfl rfl (by kernel_rfl) rfl rfl (zab 0 Z Try.func75 N75 rfl rfl rfl (fun w P1 hF hB hS hT => spec_moPick.calls A1 c1 l1.length l1 A0_1 c0_1 l0_1.length l0_1 hB hF (hS _ R1) hc1 (hS _ R0_1) hc0_1 _ hx1039)) (fun s w h => zaa [some 1, some 2] (by decide) w h rfl) (zar V29 rfl) (fun s w h => zaa [some 1, some 2] (by decide) w h rfl) (cur2 (fun A1041 c1042 => ?_)) (fun g1399 => ?_)
    · skip
      refine a_two 8 10 rfl rfl rfl rfl (by kernel_rfl) rfl rfl (zab 0 Z Try.func75 N75 rfl rfl rfl (fun w P1 hF hB hS hT => spec_moPick.calls A1 c1 l1.length l1 A0_3 c0_3 l0_3.length l0_3 hB hF (hS _ R1) hc1 (hS _ R0_3) hc0_3 _ hx1279)) (fun s w h => zaa [some 2, some 3] (by decide) w h rfl) (zar V29 rfl) (fun s w h => zaa [some 2, some 3] (by decide) w h rfl) (cur2 (fun A1281 c1282 => ?_)) (fun g1399 => ?_)
      · skip
        refine zac 9 rfl rfl rfl (by kernel_rfl) (fun _ _ _ h => h) (q_build (vs := [(0, .int .i64 a2), (1, .slice A1041 l1040.length c1042), (3, .slice A1281 l1280.length c1282)]) (cs := [.int .i64 a2, .slice A1041 l1040.length c1042, .slice none 0 0, .slice A1281 l1280.length c1282]) rfl rfl) ?_
        refine a_one 10 rfl rfl (by kernel_rfl) rfl (zar V29 rfl) (fun s w h => zaa [some 3, some 4] (by decide) w h rfl) (fun g1399 => ?_)
        refine a_one 11 rfl rfl (by kernel_rfl) rfl (zam (i := 0) rfl rfl rfl Z29 rfl rfl) (fun s w h => zaa [some 3, some 4] (by decide) w h rfl) (fun _ => ?_)
        refine a_done (by kernel_rfl) ?_
        refine zaw (l1040, l1280, g1399, A1041, c1042, A1281, c1282) h ⟨rfl, trivial⟩ (fun w h => za6 [4, 3, 0, 2, 1] (by decide) rfl w h) ?_
        repeat (first | exact zad _ _ | refine zai rfl ?_ | refine zaf rfl ?_ | refine zaj rfl ?_)
      · skip
        refine a_one 8 rfl rfl (by kernel_rfl) rfl (zab 0 Z Try.func75 N75 rfl rfl rfl (fun w P1 hF hB hS hT => spec_moPick.calls A1 c1 l1.length l1 A0_3 c0_3 l0_3.length l0_3 hB hF (hS _ R1) hc1 (hS _ R0_3) hc0_3 _ hx1279)) (fun s w h => zaa [some 3, some 4] (by decide) w h rfl) (cur2 (fun A1281 c1282 => ?_))
        refine zac 9 rfl rfl rfl (by kernel_rfl) (fun _ _ _ h => h) (q_build (vs := [(0, .int .i64 a2), (1, .slice A1041 l1040.length c1042), (3, .slice A1281 l1280.length c1282)]) (cs := [.int .i64 a2, .slice A1041 l1040.length c1042, .slice none 0 0, .slice A1281 l1280.length c1282]) rfl rfl) ?_
        refine a_one 11 rfl rfl (by kernel_rfl) rfl (zam (i := 1) rfl rfl rfl Z29 rfl rfl) (fun s w h => zaa [some 3, some 4] (by decide) w h rfl) (fun _ => ?_)
        refine a_done (by kernel_rfl) ?_
        refine zaw (l1040, l1280, g1399, A1041, c1042, A1281, c1282) h ⟨rfl, trivial⟩ (fun w h => za6 [4, 3, 1, 2, 0] (by decide) rfl w h) ?_
        repeat (first | exact zad _ _ | refine zai rfl ?_ | refine zaf rfl ?_ | refine zaj rfl ?_)
    · skip
      refine a_one 4 rfl rfl (by kernel_rfl) rfl (zab 0 Z Try.func75 N75 rfl rfl rfl (fun w P1 hF hB hS hT => spec_moPick.calls A1 c1 l1.length l1 A0_1 c0_1 l0_1.length l0_1 hB hF (hS _ R1) hc1 (hS _ R0_1) hc0_1 _ hx1039)) (fun s w h => zaa [some 2, some 3] (by decide) w h rfl) (cur2 (fun A1041 c1042 => ?_))
      refine a_one 8 rfl rfl (by kernel_rfl) rfl (zab 0 Z Try.func75 N75 rfl rfl rfl (fun w P1 hF hB hS hT => spec_moPick.calls A1 c1 l1.length l1 A0_3 c0_3 l0_3.length l0_3 hB hF (hS _ R1) hc1 (hS _ R0_3) hc0_3 _ hx1279)) (fun s w h => zaa [some 3, some 4] (by decide) w h rfl) (cur2 (fun A1281 c1282 => ?_))
      refine zac 9 rfl rfl rfl (by kernel_rfl) (fun _ _ _ h => h) (q_build (vs := [(0, .int .i64 a2), (1, .slice A1041 l1040.length c1042), (3, .slice A1281 l1280.length c1282)]) (cs := [.int .i64 a2, .slice A1041 l1040.length c1042, .slice none 0 0, .slice A1281 l1280.length c1282]) rfl rfl) ?_
      refine a_one 11 rfl rfl (by kernel_rfl) rfl (zam (i := 2) rfl rfl rfl Z29 rfl rfl) (fun s w h => zaa [some 3, some 4] (by decide) w h rfl) (fun _ => ?_)
      refine a_done (by kernel_rfl) ?_
      refine zaw (l1040, l1280, g1399, A1041, c1042, A1281, c1282) h ⟨rfl, trivial⟩ (fun w h => za6 [4, 3, 2, 1, 0] (by decide) rfl w h) ?_
      repeat (first | exact zad _ _ | refine zai rfl ?_ | refine zaf rfl ?_ | refine zaj rfl ?_)
  · skip
    refine (cur7 (fun l787 l790 g786 A788 c789 A791 c792 => fun U796 hJ797 => ?_))
    have e_ := Option.some.inj hJ797; have h := hR795; rw [← e_] at h; clear e_ hJ797 hR795 hl794
    refine c_seq ?_
    refine c_seq ?_
    refine za0 ?_
    refine o_q rfl rfl (q_f F29_2 rfl) ?_
    refine o_q rfl rfl (q_ldb Y27 rfl (fun w h => h.za9 (i := 0) rfl) rfl) ?_
    refine o_q rfl rfl (q_len Try.underlying27 rfl) ?_
    refine o_q rfl rfl (za2 rfl) ?_
    refine o_end ?_
    refine za1 ?_
    refine zak ?_
    refine c_nil zat 56 ?_
    refine za7 h (fun o1591 hl1590 hR1589 => ?_) rfl
    clear h
    refine c_fact (p := l0_2.length ≤ 9223372036854775807) (fun w h => (R0_2.now Z h).2.1) (fun hm1588 => ?_)
    refine zaz (σ := (List SRegOp) × (List SRegOp) × Int × (Option Addr) × Nat) (fun k1586 ((ys1585, l1580, i1583, A1581, c1582) : (List SRegOp) × (List SRegOp) × Int × (Option Addr) × Nat) => Rg l0_2 i1583 ys1585 ∧ ys1585.length = k1586 ∧ spec_reNamed.l0 l1 ys1585 l1580 i1583 = some o1591) [9, 23, 24, 25, 26, 27, 28, 29, 30, 31, 32, 33, 34, 35, 36, 37, 38, 39, 40, 41, 42, 43, 44, 45, 46, 47, 48] (fun ((ys1585, l1580, i1583, A1581, c1582) : (List SRegOp) × (List SRegOp) × Int × (Option Addr) × Nat) => [(23, .int .i64 i1583)]) (fun ((ys1585, l1580, i1583, A1581, c1582) : (List SRegOp) × (List SRegOp) × Int × (Option Addr) × Nat) => [row zat 56 (.slice A1581 l1580.length c1582) l1580, box g1 29 #[.int .i64 a0_0, .slice A0_1 l0_1.length c0_1, .slice A0_2 l0_2.length c0_2, .slice A0_3 l0_3.length c0_3], box g3 29 #[.int .i64 0, .slice none 0 0, .slice none 0 0, .slice none 0 0], box g786 29 #[.int .i64 a2, .slice A788 l787.length c789, .slice A1581 l1580.length c1582, .slice A791 l790.length c792], row (Kd.int .i64) 3 (.slice A788 l787.length c789) l787, row (Kd.int .i64) 3 (.slice A791 l790.length c792) l790]) l0_2.length (l0_2, ([] : List SRegOp), 0, none, 0) ⟨Rg.start _, rfl, hl1590⟩ ⟨rfl, trivial⟩ (fun w h => h) ?_
    refine fun k1586 => cur5 (listC (fun l1580 i1583 A1581 c1582 U1592 hJ_ => ?_) (fun y1584 ys1585 l1580 i1583 A1581 c1582 U1592 hJ_ => ?_))
    · skip
      clear hl1590
      have hr1587 := hJ_.1; have hk1593 := hJ_.2.1; have h := hJ_.2.2; clear hJ_
      replace h : spec_reNamed.l0 l1 [] l1580 i1583 = some o1591 := h
      rw [spec_reNamed.l0] at h
      refine c_seq ?_
      refine za0 ?_
      refine o_q rfl rfl (q_lss rfl rfl) ?_
      refine o_end ?_
      refine za1 ?_
      refine c_seq ?_
      refine c_false (congrArg Value.bool hr1587.ge) ?_
      refine c_exit ?_
      refine za8 ?_
      refine za8 ?_
      have e_ := Option.some.inj h; replace h := hR1589; rw [← e_] at h; clear e_
      refine x_hit ?_
      refine za1 ?_
      refine c_seq ?_
      refine za0 ?_
      refine o_q rfl rfl (q_ldB G29 Z29 rfl (fun w h => h.za9 (i := 3) rfl) rfl) ?_
      refine o_e rfl (zam (i := 2) rfl rfl rfl Z29 rfl rfl) (fun _ => ?_)
      refine o_end ?_
      refine za1 ?_
      refine c_ret ?_
      have e0_ := Option.some.inj h; clear h
      have d0_ := (Prod.mk.inj e0_).1; have e1_ := (Prod.mk.inj e0_).2; clear e0_; subst d0_
      have d1_ := (Prod.mk.inj e1_).1; have e2_ := (Prod.mk.inj e1_).2; clear e1_; subst d1_
      subst e2_
      exact x_r1 (A788, c789, A1581, c1582, A791, c792) Try.results38 (rv_cell rfl G29 Z29 (fun w h => h.za9 (i := 2) rfl) rfl) rfl (fun w h => za6 [4, 0, 5] (by decide) rfl w h)
    · skip
      clear hl1590
      have hr1587 := hJ_.1; have hk1593 := hJ_.2.1; have h := hJ_.2.2; clear hJ_
      replace h : spec_reNamed.l0 l1 (y1584 :: ys1585) l1580 i1583 = some o1591 := h
      rw [spec_reNamed.l0] at h
      refine c_seq ?_
      refine za0 ?_
      refine o_q rfl rfl (q_lss rfl rfl) ?_
      refine o_end ?_
      refine za1 ?_
      refine c_seq ?_
      refine c_true (congrArg Value.bool hr1587.lt) ?_
      refine zal ?_
      refine za1 ?_
      refine c_seq ?_
      refine zak ?_
      refine c_seq ?_
      refine za0 ?_
      refine zb0 (p := Sh A0_2 l0_2.length l0_2.length) (fun w h => f_sh (dk := zat) h (fun w h => R0_2.now Z h)) (fun hq1594 => ?_)
      refine o_q rfl rfl (q_ix Try.underlying27 Z56 rfl rfl hq1594 hr1587.get) ?_
      refine o_q rfl rfl (q_ldE G56 Z56 rfl rfl (fun w h => R0_2.now Z h) hr1587.get (fun _ _ h => h) rfl) ?_
      refine o_e rfl (zar V56 rfl) (fun g1595 => ?_)
      refine o_e rfl (zam (i := 0) rfl rfl rfl Z56 rfl rfl) (fun _ => ?_)
      refine o_end ?_
      refine za1 ?_
      refine za7 h (fun y1900 hg1899 h => ?_) rfl
      refine za7 h (fun y2199 hg2198 h => ?_) rfl
      refine za7 h (fun y2499 hg2498 h => ?_) rfl
      refine za7 h (fun l2738 ha2739 h => ?_) rfl
      refine a_startS (ds := []) [some 0, none, some 2, some 3, none, some 5, some 6] MO rfl ?_
      refine zac 0 rfl rfl rfl (by kernel_rfl) (fun _ _ _ h => h) (q_f F29_2 rfl) ?_
      refine zac 2 rfl rfl rfl (by kernel_rfl) (fun _ _ _ h => h) (za2 rfl) ?_
      refine zac 3 rfl rfl rfl (by kernel_rfl) (fun _ _ _ h => h) (q_f F56_0 rfl) ?_
      refine zay 4 rfl rfl rfl (by kernel_rfl) (fun _ _ _ h => h) (fun w h => zaa [some 0, none, some 2, some 3, none, some 5, some 6] (by decide) w h rfl) (q_ldb Y3 rfl (fun w h => h.za9 (i := 0) rfl) rfl) ?_
      refine a_fact (p := Sh A1 l1.length l1.length) (fun w h => f_sh (dk := (Kd.int .i64)) h (fun w h => R1.now Z h)) (fun hq1898 => ?_)
      refine zac 5 rfl rfl rfl (by kernel_rfl) (fun _ _ _ h => h) (q_ix Try.underlying22 Z3 rfl rfl hq1898 hg1899) ?_
      refine zay 6 rfl rfl rfl (by kernel_rfl) (fun _ _ _ h => h) (fun w h => zaa [some 0, none, some 2, some 3, none, some 5, some 6] (by decide) w h rfl) (q_lde (off := 0) Y3 rfl rfl (fun w h => R1.now Z h) hg1899 (fun _ _ h => h) rfl) ?_
      refine zac 7 rfl rfl rfl (by kernel_rfl) (fun _ _ _ h => h) (za2 rfl) ?_
      refine zac 8 rfl rfl rfl (by kernel_rfl) (fun _ _ _ h => h) (q_f F56_1 rfl) ?_
      refine zay 9 rfl rfl rfl (by kernel_rfl) (fun _ _ _ h => h) (fun w h => zaa [some 0, none, some 2, some 3, none, some 5, some 6] (by decide) w h rfl) (q_ldb Y3 rfl (fun w h => h.za9 (i := 0) rfl) rfl) ?_
      refine zac 10 rfl rfl rfl (by kernel_rfl) (fun _ _ _ h => h) (q_ix Try.underlying22 Z3 rfl rfl hq1898 hg2198) ?_
      refine zay 11 rfl rfl rfl (by kernel_rfl) (fun _ _ _ h => h) (fun w h => zaa [some 0, none, some 2, some 3, none, some 5, some 6] (by decide) w h rfl) (q_lde (off := 0) Y3 rfl rfl (fun w h => R1.now Z h) hg2198 (fun _ _ h => h) rfl) ?_
      refine zac 12 rfl rfl rfl (by kernel_rfl) (fun _ _ _ h => h) (za2 rfl) ?_
      refine zac 13 rfl rfl rfl (by kernel_rfl) (fun _ _ _ h => h) (q_f F56_2 rfl) ?_
      refine zay 14 rfl rfl rfl (by kernel_rfl) (fun _ _ _ h => h) (fun w h => zaa [some 0, none, some 2, some 3, none, some 5, some 6] (by decide) w h rfl) (q_ldb Y3 rfl (fun w h => h.za9 (i := 0) rfl) rfl) ?_
      refine zac 15 rfl rfl rfl (by kernel_rfl) (fun _ _ _ h => h) (q_ix Try.underlying22 Z3 rfl rfl hq1898 hg2498) ?_
      refine zay 16 rfl rfl rfl (by kernel_rfl) (fun _ _ _ h => h) (fun w h => zaa [some 0, none, some 2, some 3, none, some 5, some 6] (by decide) w h rfl) (q_lde (off := 0) Y3 rfl rfl (fun w h => R1.now Z h) hg2498 (fun _ _ h => h) rfl) ?_
      refine zac 17 rfl rfl rfl (by kernel_rfl) (fun _ _ _ h => h) (q_build (vs := [(0, .int .i64 y1900), (1, .int .i64 y2199), (2, .int .i64 y2499)]) (cs := [.int .i64 y1900, .int .i64 y2199, .int .i64 y2499]) rfl rfl) ?_
      refine a_two 1 18 rfl rfl rfl rfl (by kernel_rfl) rfl rfl (ev_q rfl (q_ldb Y27 rfl (fun w h => h.za9 (i := 4) rfl) rfl)) (fun s w h => zaa [some 0, none, some 2, some 3, none, some 5, some 6] (by decide) w h rfl) (e_lit (vs := [(0, .agg #[.int .i64 y1900, .int .i64 y2199, .int .i64 y2499])]) (cs := [.int .i64 y1900, .int .i64 y2199, .int .i64 y2499]) zat ([(⟨y1900, y2199, y2499⟩ : SRegOp)] : List SRegOp) Try.underlying27 I56 (by decide) rfl (by decide) rfl rfl (fun _ _ => reps_flat _)) (fun s w h => zaa [some 1, none, some 3, some 4, none, some 6, some 7] (by decide) w h rfl) (fun _ => ?_) (cur2 (fun A2678 c2679 => ?_))
      · skip
        refine a_one 18 rfl rfl (by kernel_rfl) rfl (e_lit (vs := [(0, .agg #[.int .i64 y1900, .int .i64 y2199, .int .i64 y2499])]) (cs := [.int .i64 y1900, .int .i64 y2199, .int .i64 y2499]) zat ([(⟨y1900, y2199, y2499⟩ : SRegOp)] : List SRegOp) Try.underlying27 I56 (by decide) rfl (by decide) rfl rfl (fun _ _ => reps_flat _)) (fun s w h => zaa [some 1, none, some 3, some 4, none, some 6, some 7] (by decide) w h rfl) (cur2 (fun A2678 c2679 => ?_))
        refine a_one 19 rfl rfl (by kernel_rfl) rfl (e_app (i := 2) (j := 0) Try.underlying27 I56 rfl (by decide) (by decide) rfl rfl rfl rfl rfl ha2739) (fun s w h => zaa [some 1, none, some 3, some 4, none, some 6, some 7] (by decide) w h rfl) (cur2 (fun A2740 c2741 => ?_))
        refine zac 20 rfl rfl rfl (by kernel_rfl) (fun _ _ _ h => h) (q_f F29_2 rfl) ?_
        refine a_one 21 rfl rfl (by kernel_rfl) rfl (e_store (i := 5) rfl rfl rfl rfl Z27 rfl rfl) (fun s w h => zaa [some 1, none, some 3, some 4, none, some 6, some 7] (by decide) w h rfl) (fun _ => ?_)
        refine a_done (by kernel_rfl) ?_
        refine zau ?_
        refine za1 ?_
        refine za0 ?_
        refine o_q rfl rfl (q_up rfl rfl (hr1587.up hm1588)) ?_
        refine o_q rfl rfl (za2 rfl) ?_
        refine o_end ?_
        refine zas ys1585.length (ys1585, l2738, i1583 + 1, A2740, c2741) (by rw [← hk1593]; exact Nat.lt_succ_self _) ⟨hr1587.step, rfl, h⟩ ⟨rfl, trivial⟩ (fun w h => za6 [2, 3, 4, 5, 6, 7] (by decide) rfl w h) ?_
        repeat (first | exact zad _ _ | refine zai rfl ?_ | refine zaf rfl ?_ | refine zaj rfl ?_)
      · skip
        refine a_one 1 rfl rfl (by kernel_rfl) rfl (ev_q rfl (q_ldb Y27 rfl (fun w h => h.za9 (i := 5) rfl) rfl)) (fun s w h => zaa [some 1, none, some 3, some 4, none, some 6, some 7] (by decide) w h rfl) (fun _ => ?_)
        refine a_one 19 rfl rfl (by kernel_rfl) rfl (e_app (i := 2) (j := 0) Try.underlying27 I56 rfl (by decide) (by decide) rfl rfl rfl rfl rfl ha2739) (fun s w h => zaa [some 1, none, some 3, some 4, none, some 6, some 7] (by decide) w h rfl) (cur2 (fun A2740 c2741 => ?_))
        refine zac 20 rfl rfl rfl (by kernel_rfl) (fun _ _ _ h => h) (q_f F29_2 rfl) ?_
        refine a_one 21 rfl rfl (by kernel_rfl) rfl (e_store (i := 5) rfl rfl rfl rfl Z27 rfl rfl) (fun s w h => zaa [some 1, none, some 3, some 4, none, some 6, some 7] (by decide) w h rfl) (fun _ => ?_)
        refine a_done (by kernel_rfl) ?_
        refine zau ?_
        refine za1 ?_
        refine za0 ?_
        refine o_q rfl rfl (q_up rfl rfl (hr1587.up hm1588)) ?_
        refine o_q rfl rfl (za2 rfl) ?_
        refine o_end ?_
        refine zas ys1585.length (ys1585, l2738, i1583 + 1, A2740, c2741) (by rw [← hk1593]; exact Nat.lt_succ_self _) ⟨hr1587.step, rfl, h⟩ ⟨rfl, trivial⟩ (fun w h => za6 [2, 3, 4, 5, 6, 7] (by decide) rfl w h) ?_
        repeat (first | exact zad _ _ | refine zai rfl ?_ | refine zaf rfl ?_ | refine zaj rfl ?_)

/-! ### loop.example/g01098/spec.RenameRegisters: function 16 -/
def spec_RenameRegisters.l0 (l1 : List Int) : (List Int) → Int → Option ((Int × (List Int) × (List SRegOp) × (List Int) × Bool) ⊕ (Unit))
  | [], i24 => some (.inr ())
  | y25 :: ys26, i24 => (ct l1 (0 : Int) i24).bind fun l46 => (spec_l1Has.f l46 y25).bind fun b49 => if b49 = true then (some (.inl (0, ([] : List Int), ([] : List SRegOp), ([] : List Int), false))) else (spec_RenameRegisters.l0 l1 ys26 (i24 + 1))
def spec_RenameRegisters.f (k : Nat) (a0_0 : Int) (l0_1 : List Int) (l0_2 : List SRegOp) (l0_3 : List Int) (l1 : List Int) : Option (Int × (List Int) × (List SRegOp) × (List Int) × Bool) := ((spec_reCode.f k a0_0 l0_1 l0_2 l0_3).bind fun b18 => if b18 = true then (if (l1.length : Int) ≠ a0_0 then (some true) else ((spec_l1All.f l1 0 (w64 (a0_0 - 1))).bind fun b22 => some (!b22))) else (some true)).bind fun b11 => if b11 = true then (some (0, ([] : List Int), ([] : List SRegOp), ([] : List Int), false)) else ((spec_RenameRegisters.l0 l1 l1 0).bind fun o_ => match o_ with | .inl r_ => some r_ | .inr _ => (spec_reNamed.f a0_0 l0_1 l0_2 l0_3 l1 a0_0).bind fun (l36, l37, l38) => some (a0_0, l36, l37, l38, true))
set_option maxHeartbeats 600000 in
set_option maxRecDepth 100000 in
theorem spec_RenameRegisters.calls (k : Nat) {w0 ws : World} {P0 : Nat → Prop} (a0_0 : Int) (A0_1 : Option Addr) (c0_1 : Nat) (n0_1 : Nat) (l0_1 : List Int) (A0_2 : Option Addr) (c0_2 : Nat) (n0_2 : Nat) (l0_2 : List SRegOp) (A0_3 : Option Addr) (c0_3 : Nat) (n0_3 : Nat) (l0_3 : List Int) (A1 : Option Addr) (c1 : Nat) (n1 : Nat) (l1 : List Int) (Z : Below w0.heap.size w0 ws) (hF : Fr w0 ws P0 [] ws) (R0_1 : Stable ws P0 (fun w => Kd.C (Kd.int .i64) w A0_1 n0_1 l0_1)) (hc0_1 : n0_1 ≤ c0_1) (R0_2 : Stable ws P0 (fun w => Kd.C zat w A0_2 n0_2 l0_2)) (hc0_2 : n0_2 ≤ c0_2) (R0_3 : Stable ws P0 (fun w => Kd.C (Kd.int .i64) w A0_3 n0_3 l0_3)) (hc0_3 : n0_3 ≤ c0_3) (R1 : Stable ws P0 (fun w => Kd.C (Kd.int .i64) w A1 n1 l1)) (hc1 : n1 ≤ c1) (r_1 : Int) (r_2 : List Int) (r_5 : List SRegOp) (r_8 : List Int) (r_11 : Bool) (h : spec_RenameRegisters.f k a0_0 l0_1 l0_2 l0_3 l1 = some (r_1, r_2, r_5, r_8, r_11)) :
    Calls Try.prog 16 #[.agg #[.int .i64 a0_0, .slice A0_1 n0_1 c0_1, .slice A0_2 n0_2 c0_2, .slice A0_3 n0_3 c0_3], .slice A1 n1 c1] ws (Post1 w0 ws P0 (fun ((q_3, q_4, q_6, q_7, q_9, q_10) : (Option Addr) × Nat × (Option Addr) × Nat × (Option Addr) × Nat) => .tuple #[.agg #[.int .i64 r_1, .slice q_3 r_2.length q_4, .slice q_6 r_5.length q_7, .slice q_9 r_8.length q_10], .bool r_11]) (fun ((q_3, q_4, q_6, q_7, q_9, q_10) : (Option Addr) × Nat × (Option Addr) × Nat × (Option Addr) × Nat) => [row (Kd.int .i64) 3 (.slice q_3 r_2.length q_4) r_2, row zat 56 (.slice q_6 r_5.length q_7) r_5, row (Kd.int .i64) 3 (.slice q_9 r_8.length q_10) r_8])) := by
  unfold spec_RenameRegisters.f at h
  obtain rfl := (R0_1 ws (KeptB.refl _ _)).1
  obtain rfl := (R0_2 ws (KeptB.refl _ _)).1
  obtain rfl := (R0_3 ws (KeptB.refl _ _)).1
  obtain rfl := (R1 ws (KeptB.refl _ _)).1
  refine enter Try.func16 rfl Try.ntmps16 rfl hF ?_
  refine c_seq ?_
  refine za0 ?_
  refine o_e rfl (e_box rfl) (fun g1 => ?_)
  refine o_e rfl (zar V29 rfl) (fun g3 => ?_)
  refine o_q rfl rfl (q_asg rfl) ?_
  refine o_end ?_
  refine za1 ?_
  refine c_seq ?_
  refine za7 h (fun o12 hl13 hR14 => ?_) rfl
  clear h
  refine c_cutJ (σ := Bool) (fun b11 => some b11 = some o12) [8, 9, 10, 11, 12, 13, 14, 15, 16, 17, 18, 19, 20, 21, 22, 23, 24, 25] (fun b11 => [(25, .bool b11)]) (fun b11 => [box g1 29 #[.int .i64 a0_0, .slice A0_1 l0_1.length c0_1, .slice A0_2 l0_2.length c0_2, .slice A0_3 l0_3.length c0_3], box g3 29 #[.int .i64 0, .slice none 0 0, .slice none 0 0, .slice none 0 0]]) ?_ ?_
  · skip
    have h := hl13; clear hl13
    clear hR14
    refine za0 ?_
    refine o_q rfl rfl (q_ldB G29 Z29 rfl (fun w h => h.za9 (i := 1) rfl) rfl) ?_
    refine za7 h (fun b18 hx17 h => ?_) rfl
    refine o_e rfl (zab 0 Z Try.func35 N35 rfl rfl rfl (fun w P1 hF hB hS hT => spec_reCode.calls k a0_0 A0_1 c0_1 l0_1.length l0_1 A0_2 c0_2 l0_2.length l0_2 A0_3 c0_3 l0_3.length l0_3 hB hF (hS _ R0_1) hc0_1 (hS _ R0_2) hc0_2 (hS _ R0_3) hc0_3 _ hx17)) (fun _ => ?_)
    refine o_q rfl rfl (q_not rfl) ?_
    refine o_q rfl rfl (za2 rfl) ?_
    refine byB b18 (fun hb19 => ?_) (fun hb19 => ?_)
    · replace h := bb_t hb19 h
      refine o_w (za4 rfl rfl rfl (congrArg (fun b => Value.bool (!(b))) hb19)) rfl (za2 rfl) ?_
      refine o_w (za4 rfl rfl rfl (congrArg (fun b => Value.bool (!(b))) hb19)) rfl (q_len Try.underlying22 rfl) ?_
      refine o_w (za4 rfl rfl rfl (congrArg (fun b => Value.bool (!(b))) hb19)) rfl (q_f F29_0 rfl) ?_
      refine o_w (za4 rfl rfl rfl (congrArg (fun b => Value.bool (!(b))) hb19)) rfl (q_ldb Y3 rfl (fun w h => h.za9 (i := 1) rfl) rfl) ?_
      refine o_w (za4 rfl rfl rfl (congrArg (fun b => Value.bool (!(b))) hb19)) rfl (q_neq rfl rfl) ?_
      refine o_q rfl rfl (zao false (congrArg (fun b => Value.bool (!(b))) hb19) rfl) ?_
      refine o_q rfl rfl (za2 rfl) ?_
      refine byB (decide ((l1.length : Int) ≠ a0_0)) (fun hb20 => ?_) (fun hb20 => ?_)
      · replace h := br_t hb20 h
        refine @o_n _ _ _ _ _ _ _ _ _ _ _ 19 (za3 rfl rfl rfl (congrArg Value.bool hb20) rfl) (Eq.refl (some 19)) ?_
        refine @o_n _ _ _ _ _ _ _ _ _ _ _ 20 (za3 rfl rfl rfl (congrArg Value.bool hb20) rfl) (Eq.refl (some 20)) ?_
        refine @o_n _ _ _ _ _ _ _ _ _ _ _ 21 (za3 rfl rfl rfl (congrArg Value.bool hb20) rfl) (Eq.refl (some 21)) ?_
        refine @o_n _ _ _ _ _ _ _ _ _ _ _ 22 (za3 rfl rfl rfl (congrArg Value.bool hb20) rfl) (Eq.refl (some 22)) ?_
        refine @o_n _ _ _ _ _ _ _ _ _ _ _ 23 (za3 rfl rfl rfl (congrArg Value.bool hb20) rfl) (Eq.refl (some 23)) ?_
        refine @o_n _ _ _ _ _ _ _ _ _ _ _ 24 (za3 rfl rfl rfl (congrArg Value.bool hb20) rfl) (Eq.refl (some 24)) ?_
        refine o_q rfl rfl (zao true (congrArg Value.bool hb20) rfl) ?_
        refine o_end ?_
        refine zaw true h ⟨rfl, trivial⟩ (fun w h => za6 [1, 0] (by decide) rfl w h) ?_
        repeat (first | exact zad _ _ | refine zai rfl ?_ | refine zaf rfl ?_ | refine zaj rfl ?_)
      · replace h := br_f hb20 h
        refine o_w (za4 rfl rfl rfl (congrArg Value.bool hb20)) rfl (za2 rfl) ?_
        refine o_w (za4 rfl rfl rfl (congrArg Value.bool hb20)) rfl (q_f F29_0 rfl) ?_
        refine o_w (za4 rfl rfl rfl (congrArg Value.bool hb20)) rfl (q_ldb Y3 rfl (fun w h => h.za9 (i := 1) rfl) rfl) ?_
        refine o_w (za4 rfl rfl rfl (congrArg Value.bool hb20)) rfl (q_sub64 rfl rfl) ?_
        refine za7 h (fun b22 hx21 h => ?_) rfl
        refine o_ew (za4 rfl rfl rfl (congrArg Value.bool hb20)) (zab 0 Z Try.func47 N47 rfl rfl rfl (fun w P1 hF hB hS hT => spec_l1All.calls A1 c1 l1.length l1 0 (w64 (a0_0 - 1)) hB hF (hS _ R1) hc1 _ hx21)) (fun _ => ?_)
        refine o_w (za4 rfl rfl rfl (congrArg Value.bool hb20)) rfl (q_not rfl) ?_
        refine o_q rfl rfl (zao false (congrArg Value.bool hb20) rfl) ?_
        refine o_end ?_
        refine zaw (!b22) h ⟨rfl, trivial⟩ (fun w h => za6 [1, 0] (by decide) rfl w h) ?_
        repeat (first | exact zad _ _ | refine zai rfl ?_ | refine zaf rfl ?_ | refine zaj rfl ?_)
    · replace h := bb_f hb19 h
      refine @o_n _ _ _ _ _ _ _ _ _ _ _ 12 (za3 rfl rfl rfl (congrArg (fun b => Value.bool (!(b))) hb19) rfl) (Eq.refl (some 12)) ?_
      refine @o_n _ _ _ _ _ _ _ _ _ _ _ 13 (za3 rfl rfl rfl (congrArg (fun b => Value.bool (!(b))) hb19) rfl) (Eq.refl (some 13)) ?_
      refine @o_n _ _ _ _ _ _ _ _ _ _ _ 14 (za3 rfl rfl rfl (congrArg (fun b => Value.bool (!(b))) hb19) rfl) (Eq.refl (some 14)) ?_
      refine @o_n _ _ _ _ _ _ _ _ _ _ _ 15 (za3 rfl rfl rfl (congrArg (fun b => Value.bool (!(b))) hb19) rfl) (Eq.refl (some 15)) ?_
      refine @o_n _ _ _ _ _ _ _ _ _ _ _ 16 (za3 rfl rfl rfl (congrArg (fun b => Value.bool (!(b))) hb19) rfl) (Eq.refl (some 16)) ?_
      refine o_q rfl rfl (zao true (congrArg (fun b => Value.bool (!(b))) hb19) rfl) ?_
      refine o_q rfl rfl (za2 rfl) ?_
      refine @o_n _ _ _ _ _ _ _ _ _ _ _ 19 (za3 rfl rfl rfl rfl rfl) (Eq.refl (some 19)) ?_
      refine @o_n _ _ _ _ _ _ _ _ _ _ _ 20 (za3 rfl rfl rfl rfl rfl) (Eq.refl (some 20)) ?_
      refine @o_n _ _ _ _ _ _ _ _ _ _ _ 21 (za3 rfl rfl rfl rfl rfl) (Eq.refl (some 21)) ?_
      refine @o_n _ _ _ _ _ _ _ _ _ _ _ 22 (za3 rfl rfl rfl rfl rfl) (Eq.refl (some 22)) ?_
      refine @o_n _ _ _ _ _ _ _ _ _ _ _ 23 (za3 rfl rfl rfl rfl rfl) (Eq.refl (some 23)) ?_
      refine @o_n _ _ _ _ _ _ _ _ _ _ _ 24 (za3 rfl rfl rfl rfl rfl) (Eq.refl (some 24)) ?_
      refine o_q rfl rfl (zao true rfl rfl) ?_
      refine o_end ?_
      refine zaw true h ⟨rfl, trivial⟩ (fun w h => za6 [1, 0] (by decide) rfl w h) ?_
      repeat (first | exact zad _ _ | refine zai rfl ?_ | refine zaf rfl ?_ | refine zaj rfl ?_)
  · skip
    refine (fun b11 => fun U15 hJ16 => ?_)
    have e_ := Option.some.inj hJ16; have h := hR14; rw [← e_] at h; clear e_ hJ16 hR14 hl13
    refine zaq _ rfl (fun hb23 => ?_) (fun hb23 => ?_)
    · skip
      replace h := bb_t hb23 h
      refine c_seq ?_
      refine za0 ?_
      refine o_q rfl rfl (q_build (vs := []) (cs := [.int .i64 0, .slice none 0 0, .slice none 0 0, .slice none 0 0]) rfl rfl) ?_
      refine o_e rfl (zam (i := 1) rfl rfl rfl Z29 rfl rfl) (fun _ => ?_)
      refine o_q rfl rfl (q_asg rfl) ?_
      refine o_end ?_
      refine za1 ?_
      refine c_ret ?_
      refine za5 ?_
      refine x_nil (Kd.int .i64) 3 ?_
      refine x_nil zat 56 ?_
      refine x_nil (Kd.int .i64) 3 ?_
      have e0_ := Option.some.inj h; clear h
      have d0_ := (Prod.mk.inj e0_).1; have e1_ := (Prod.mk.inj e0_).2; clear e0_; subst d0_
      have d1_ := (Prod.mk.inj e1_).1; have e2_ := (Prod.mk.inj e1_).2; clear e1_; subst d1_
      have d2_ := (Prod.mk.inj e2_).1; have e3_ := (Prod.mk.inj e2_).2; clear e2_; subst d2_
      have d3_ := (Prod.mk.inj e3_).1; have e4_ := (Prod.mk.inj e3_).2; clear e3_; subst d3_
      subst e4_
      exact x_r2 (none, 0, none, 0, none, 0) Try.results16 (rv_cell rfl G29 Z29 (fun w h => h.za9 (i := 4) rfl) rfl) (zae rfl) rfl (fun w h => za6 [2, 1, 0] (by decide) rfl w h)
    · skip
      replace h := bb_f hb23 h
      refine zal ?_
      refine za1 ?_
      refine c_seq ?_
      refine c_seq ?_
      refine za0 ?_
      refine o_q rfl rfl (za2 rfl) ?_
      refine o_q rfl rfl (q_len Try.underlying22 rfl) ?_
      refine o_q rfl rfl (za2 rfl) ?_
      refine o_end ?_
      refine za1 ?_
      refine zak ?_
      refine za7 h (fun o32 hl31 hR30 => ?_) rfl
      clear h
      refine c_fact (p := l1.length ≤ 9223372036854775807) (fun w h => (R1.now Z h).2.1) (fun hm29 => ?_)
      refine zaz (σ := (List Int) × Int) (fun k27 ((ys26, i24) : (List Int) × Int) => Rg l1 i24 ys26 ∧ ys26.length = k27 ∧ spec_RenameRegisters.l0 l1 ys26 i24 = some o32) [5, 6, 7, 29, 30, 31, 32, 33, 34, 35, 36, 37, 38, 39, 40] (fun ((ys26, i24) : (List Int) × Int) => [(29, .int .i64 i24)]) (fun ((ys26, i24) : (List Int) × Int) => [box g1 29 #[.int .i64 a0_0, .slice A0_1 l0_1.length c0_1, .slice A0_2 l0_2.length c0_2, .slice A0_3 l0_3.length c0_3], box g3 29 #[.int .i64 0, .slice none 0 0, .slice none 0 0, .slice none 0 0]]) l1.length (l1, 0) ⟨Rg.start _, rfl, hl31⟩ ⟨rfl, trivial⟩ (fun w h => h) ?_
      refine fun k27 => cur2 (listC (fun i24 U33 hJ_ => ?_) (fun y25 ys26 i24 U33 hJ_ => ?_))
      · skip
        clear hl31
        have hr28 := hJ_.1; have hk34 := hJ_.2.1; have h := hJ_.2.2; clear hJ_
        replace h : spec_RenameRegisters.l0 l1 [] i24 = some o32 := h
        rw [spec_RenameRegisters.l0] at h
        refine c_seq ?_
        refine za0 ?_
        refine o_q rfl rfl (q_lss rfl rfl) ?_
        refine o_end ?_
        refine za1 ?_
        refine c_seq ?_
        refine c_false (congrArg Value.bool hr28.ge) ?_
        refine c_exit ?_
        refine za8 ?_
        refine za8 ?_
        have e_ := Option.some.inj h; replace h := hR30; rw [← e_] at h; clear e_
        refine x_hit ?_
        refine za1 ?_
        refine c_seq ?_
        refine za0 ?_
        refine o_q rfl rfl (q_ldB G29 Z29 rfl (fun w h => h.za9 (i := 0) rfl) rfl) ?_
        refine o_q rfl rfl (za2 rfl) ?_
        refine o_q rfl rfl (q_f F29_0 rfl) ?_
        refine o_q rfl rfl (q_ldb Y3 rfl (fun w h => h.za9 (i := 0) rfl) rfl) ?_
        refine bindE3 h (fun l36 l37 l38 hx35 h => ?_) rfl
        refine o_e rfl (zab 0 Z Try.func38 N38 rfl rfl rfl (fun w P1 hF hB hS hT => spec_reNamed.calls a0_0 A0_1 c0_1 l0_1.length l0_1 A0_2 c0_2 l0_2.length l0_2 A0_3 c0_3 l0_3.length l0_3 A1 c1 l1.length l1 a0_0 hB hF (hS _ R0_1) hc0_1 (hS _ R0_2) hc0_2 (hS _ R0_3) hc0_3 (hS _ R1) hc1 _ _ _ hx35)) (cur6 (fun A39 c40 A41 c42 A43 c44 => ?_))
        refine o_e rfl (zam (i := 4) rfl rfl rfl Z29 rfl rfl) (fun _ => ?_)
        refine o_q rfl rfl (q_asg rfl) ?_
        refine o_end ?_
        refine za1 ?_
        refine c_ret ?_
        have e0_ := Option.some.inj h; clear h
        have d0_ := (Prod.mk.inj e0_).1; have e1_ := (Prod.mk.inj e0_).2; clear e0_; subst d0_
        have d1_ := (Prod.mk.inj e1_).1; have e2_ := (Prod.mk.inj e1_).2; clear e1_; subst d1_
        have d2_ := (Prod.mk.inj e2_).1; have e3_ := (Prod.mk.inj e2_).2; clear e2_; subst d2_
        have d3_ := (Prod.mk.inj e3_).1; have e4_ := (Prod.mk.inj e3_).2; clear e3_; subst d3_
        subst e4_
        exact x_r2 (A39, c40, A41, c42, A43, c44) Try.results16 (rv_cell rfl G29 Z29 (fun w h => h.za9 (i := 4) rfl) rfl) (zae rfl) rfl (fun w h => za6 [0, 1, 2] (by decide) rfl w h)
      · skip
        clear hl31
        have hr28 := hJ_.1; have hk34 := hJ_.2.1; have h := hJ_.2.2; clear hJ_
        replace h : spec_RenameRegisters.l0 l1 (y25 :: ys26) i24 = some o32 := h
        rw [spec_RenameRegisters.l0] at h
        refine c_seq ?_
        refine za0 ?_
        refine o_q rfl rfl (q_lss rfl rfl) ?_
        refine o_end ?_
        refine za1 ?_
        refine c_seq ?_
        refine c_true (congrArg Value.bool hr28.lt) ?_
        refine zal ?_
        refine za1 ?_
        refine c_seq ?_
        refine zak ?_
        refine c_seq ?_
        refine za0 ?_
        refine o_q rfl rfl (za2 rfl) ?_
        refine zb0 (p := Sh A1 l1.length l1.length) (fun w h => f_sh (dk := (Kd.int .i64)) h (fun w h => R1.now Z h)) (fun hq45 => ?_)
        refine o_q rfl rfl (q_ix Try.underlying22 Z3 rfl rfl hq45 hr28.get) ?_
        refine o_q rfl rfl (q_lde (off := 0) Y3 rfl rfl (fun w h => R1.now Z h) hr28.get (fun _ _ h => h) rfl) ?_
        refine o_q rfl rfl (q_asg rfl) ?_
        refine o_q rfl rfl (q_asg rfl) ?_
        refine o_end ?_
        refine za1 ?_
        refine c_seq ?_
        refine za0 ?_
        refine o_q rfl rfl (za2 rfl) ?_
        refine o_q rfl rfl (za2 rfl) ?_
        refine za7 h (fun l46 hz47 h => ?_) rfl
        refine o_q rfl rfl (q_ctv Try.underlying22 Z3 rfl rfl ⟨_, rfl⟩ rfl hc1 hz47) ?_
        refine o_q rfl rfl (za2 rfl) ?_
        refine za7 h (fun b49 hx48 h => ?_) rfl
        refine o_e rfl (zab 0 Z Try.func37 N37 rfl rfl rfl (fun w P1 hF hB hS hT => spec_l1Has.calls (cutA A1 c1 (0 : Int).toNat 1) (c1 - (0 : Int).toNat) l46.length l46 y25 hB hF (stab_cut (dk := (Kd.int .i64)) rfl hz47 hc1 (hS _ R1)) (ct_cap hz47 rfl hc1) _ hx48)) (fun _ => ?_)
        refine o_end ?_
        refine za1 ?_
        refine zaq _ rfl (fun hb50 => ?_) (fun hb50 => ?_)
        · skip
          replace h := bb_t hb50 h
          refine c_seq ?_
          refine za0 ?_
          refine o_q rfl rfl (q_build (vs := []) (cs := [.int .i64 0, .slice none 0 0, .slice none 0 0, .slice none 0 0]) rfl rfl) ?_
          refine o_e rfl (zam (i := 1) rfl rfl rfl Z29 rfl rfl) (fun _ => ?_)
          refine o_q rfl rfl (q_asg rfl) ?_
          refine o_end ?_
          refine za1 ?_
          refine c_ret ?_
          refine zah ?_
          refine za5 ?_
          refine za5 ?_
          have e_ := Option.some.inj h; replace h := hR30; rw [← e_] at h; clear e_
          refine zah ?_
          refine za5 ?_
          refine x_nil (Kd.int .i64) 3 ?_
          refine x_nil zat 56 ?_
          refine x_nil (Kd.int .i64) 3 ?_
          have e0_ := Option.some.inj h; clear h
          have d0_ := (Prod.mk.inj e0_).1; have e1_ := (Prod.mk.inj e0_).2; clear e0_; subst d0_
          have d1_ := (Prod.mk.inj e1_).1; have e2_ := (Prod.mk.inj e1_).2; clear e1_; subst d1_
          have d2_ := (Prod.mk.inj e2_).1; have e3_ := (Prod.mk.inj e2_).2; clear e2_; subst d2_
          have d3_ := (Prod.mk.inj e3_).1; have e4_ := (Prod.mk.inj e3_).2; clear e3_; subst d3_
          subst e4_
          exact x_r2 (none, 0, none, 0, none, 0) Try.results16 (rv_cell rfl G29 Z29 (fun w h => h.za9 (i := 4) rfl) rfl) (zae rfl) rfl (fun w h => za6 [2, 1, 0] (by decide) rfl w h)
        · skip
          replace h := bb_f hb50 h
          refine zal ?_
          refine zau ?_
          refine za1 ?_
          refine za0 ?_
          refine o_q rfl rfl (q_up rfl rfl (hr28.up hm29)) ?_
          refine o_q rfl rfl (za2 rfl) ?_
          refine o_end ?_
          refine zas ys26.length (ys26, i24 + 1) (by rw [← hk34]; exact Nat.lt_succ_self _) ⟨hr28.step, rfl, h⟩ ⟨rfl, trivial⟩ (fun w h => za6 [0, 1] (by decide) rfl w h) ?_
          repeat (first | exact zad _ _ | refine zai rfl ?_ | refine zaf rfl ?_ | refine zaj rfl ?_)

/-! ### loop.example/g01098/impl.in: function 93 -/
def impl_in.f (a0 : Int) (a1 : Int) (a2 : Int) : Option Bool := if a1 ≤ a0 then (some (decide (a0 ≤ a2))) else (some false)
set_option maxHeartbeats 600000 in
set_option maxRecDepth 100000 in
theorem impl_in.calls {w0 ws : World} {P0 : Nat → Prop} (a0 : Int) (a1 : Int) (a2 : Int) (Z : Below w0.heap.size w0 ws) (hF : Fr w0 ws P0 [] ws)  (r_1 : Bool) (h : impl_in.f a0 a1 a2 = some r_1) :
    Calls Try.prog 93 #[.int .i64 a0, .int .i64 a1, .int .i64 a2] ws (Post1 w0 ws P0 (fun (_ : Unit) => .bool r_1) (fun (_ : Unit) => [])) := by
  unfold impl_in.f at h
  refine enter Try.func93 rfl Try.ntmps93 rfl hF ?_
  refine c_seq ?_
  refine za0 ?_
  refine o_q rfl rfl (q_asg rfl) ?_
  refine o_end ?_
  refine za1 ?_
  refine c_seq ?_
  refine za0 ?_
  refine o_q rfl rfl (za2 rfl) ?_
  refine o_q rfl rfl (za2 rfl) ?_
  refine o_q rfl rfl (q_geq rfl rfl) ?_
  refine o_q rfl rfl (za2 rfl) ?_
  refine byB (decide (a1 ≤ a0)) (fun hb1 => ?_) (fun hb1 => ?_)
  · replace h := br_t hb1 h
    refine o_w (za4 rfl rfl rfl (congrArg Value.bool hb1)) rfl (za2 rfl) ?_
    refine o_w (za4 rfl rfl rfl (congrArg Value.bool hb1)) rfl (za2 rfl) ?_
    refine o_w (za4 rfl rfl rfl (congrArg Value.bool hb1)) rfl (q_leq rfl rfl) ?_
    refine o_q rfl rfl (zao true (congrArg Value.bool hb1) rfl) ?_
    refine o_q rfl rfl (q_asg rfl) ?_
    refine o_end ?_
    refine za1 ?_
    refine c_ret ?_
    have e0_ := Option.some.inj h; clear h
    subst e0_
    exact x_r1 () Try.results93 (zae rfl) rfl (fun w h => za6 [] (by decide) rfl w h)
  · replace h := br_f hb1 h
    refine @o_n _ _ _ _ _ _ _ _ _ _ _ 11 (za3 rfl rfl rfl (congrArg Value.bool hb1) rfl) (Eq.refl (some 11)) ?_
    refine @o_n _ _ _ _ _ _ _ _ _ _ _ 12 (za3 rfl rfl rfl (congrArg Value.bool hb1) rfl) (Eq.refl (some 12)) ?_
    refine @o_n _ _ _ _ _ _ _ _ _ _ _ 13 (za3 rfl rfl rfl (congrArg Value.bool hb1) rfl) (Eq.refl (some 13)) ?_
    refine o_q rfl rfl (zao false (congrArg Value.bool hb1) rfl) ?_
    refine o_q rfl rfl (q_asg rfl) ?_
    refine o_end ?_
    refine za1 ?_
    refine c_ret ?_
    have e0_ := Option.some.inj h; clear h
    subst e0_
    exact x_r1 () Try.results93 (zae rfl) rfl (fun w h => za6 [] (by decide) rfl w h)

/-! ### (*loop.example/g01098/impl.RegCode).read$1: function 134 -/
def impl_RegCode_read_1.f (a0 : Int) (l1_0 : List Int) : Option Bool := (impl_in.f a0 0 (w64 ((l1_0.length : Int) - 1))).bind fun b2 => some b2
set_option maxHeartbeats 600000 in
set_option maxRecDepth 100000 in
theorem impl_RegCode_read_1.calls {w0 ws : World} {P0 : Nat → Prop} (a0 : Int) (g1 : Nat) (A1_0 : Option Addr) (c1_0 : Nat) (n1_0 : Nat) (l1_0 : List Int) (Z : Below w0.heap.size w0 ws) (hF : Fr w0 ws P0 [] ws) (R1_0 : Stable ws P0 (fun w => Kd.C (Kd.int .i64) w A1_0 n1_0 l1_0)) (hc1_0 : n1_0 ≤ c1_0) (B1 : Stable ws P0 (fun w => w.heap[g1]? = some (.cells #[.slice A1_0 n1_0 c1_0] 22 (0, 0)))) (r_1 : Bool) (h : impl_RegCode_read_1.f a0 l1_0 = some r_1) :
    Calls Try.prog 134 #[.int .i64 a0, .pointer (some ⟨g1, 0, none⟩)] ws (Post1 w0 ws P0 (fun (_ : Unit) => .bool r_1) (fun (_ : Unit) => [])) := by
  unfold impl_RegCode_read_1.f at h
  obtain rfl := (R1_0 ws (KeptB.refl _ _)).1
  refine enter Try.func134 rfl Try.ntmps134 rfl hF ?_
  refine c_seq ?_
  refine za0 ?_
  refine o_q rfl rfl (q_asg rfl) ?_
  refine o_end ?_
  refine za1 ?_
  refine c_seq ?_
  refine za0 ?_
  refine o_q rfl rfl (za2 rfl) ?_
  refine o_q rfl rfl (q_ldb Y22 rfl (fun w h => B1.now Z h) rfl) ?_
  refine o_q rfl rfl (q_len Try.underlying22 rfl) ?_
  refine o_q rfl rfl (q_sub64 rfl rfl) ?_
  refine za7 h (fun b2 hx1 h => ?_) rfl
  refine o_e rfl (zab 0 Z Try.func93 N93 rfl rfl rfl (fun w P1 hF hB hS hT => impl_in.calls a0 0 (w64 ((l1_0.length : Int) - 1)) hB hF _ hx1)) (fun _ => ?_)
  refine o_q rfl rfl (q_asg rfl) ?_
  refine o_end ?_
  refine za1 ?_
  refine c_ret ?_
  have e0_ := Option.some.inj h; clear h
  subst e0_
  exact x_r1 () Try.results134 (zae rfl) rfl (fun w h => za6 [] (by decide) rfl w h)

/-! ### loop.example/g01098/impl.step: function 94 -/
def impl_step.f (a0 : Int) (a1 : Int) : Option Unit := some ()
set_option maxHeartbeats 600000 in
set_option maxRecDepth 100000 in
theorem impl_step.calls {w0 ws : World} {P0 : Nat → Prop} (a0 : Int) (a1 : Int) (Z : Below w0.heap.size w0 ws) (hF : Fr w0 ws P0 [] ws)   (h : impl_step.f a0 a1 = some ()) :
    Calls Try.prog 94 #[.int .i64 a0, .int .i64 a1] ws (Post1 w0 ws P0 (fun (_ : Unit) => .agg #[.int .i64 (mn a0 a1), .int .i64 (mx a0 a1)]) (fun (_ : Unit) => [])) := by
  unfold impl_step.f at h
  refine enter Try.func94 rfl Try.ntmps94 rfl hF ?_
  refine c_seq ?_
  refine za0 ?_
  refine o_e rfl (zar V117 rfl) (fun g1 => ?_)
  refine o_end ?_
  refine za1 ?_
  refine c_seq ?_
  refine za0 ?_
  refine o_q rfl rfl (za2 rfl) ?_
  refine o_q rfl rfl (za2 rfl) ?_
  refine o_q rfl rfl (q_min rfl rfl) ?_
  refine o_q rfl rfl (za2 rfl) ?_
  refine o_q rfl rfl (za2 rfl) ?_
  refine o_q rfl rfl (q_max rfl rfl) ?_
  refine o_q rfl rfl (q_build (vs := [(0, .int .i64 (mn a0 a1)), (1, .int .i64 (mx a0 a1))]) (cs := [.int .i64 (mn a0 a1), .int .i64 (mx a0 a1)]) rfl rfl) ?_
  refine o_e rfl (zam (i := 0) rfl rfl rfl Z117 rfl rfl) (fun _ => ?_)
  refine o_end ?_
  refine za1 ?_
  refine c_ret ?_
  exact x_r1 () Try.results94 (rv_cell rfl G117 Z117 (fun w h => h.za9 (i := 0) rfl) rfl) rfl (fun w h => za6 [] (by decide) rfl w h)

/-! ### (*loop.example/g01098/impl.Plan).many: function 95 -/
def impl_Plan_many.f (a0_0 : Int) (l0_1 : List SStep) (l0_2 : List Int) : Option Unit := some ()
set_option maxHeartbeats 600000 in
set_option maxRecDepth 100000 in
theorem impl_Plan_many.calls {w0 ws : World} {P0 : Nat → Prop} (g0 : Nat) (a0_0 : Int) (A0_1 : Option Addr) (c0_1 : Nat) (n0_1 : Nat) (l0_1 : List SStep) (A0_2 : Option Addr) (c0_2 : Nat) (n0_2 : Nat) (l0_2 : List Int) (Z : Below w0.heap.size w0 ws) (hF : Fr w0 ws P0 [] ws) (R0_1 : Stable ws P0 (fun w => Kd.C kStep w A0_1 n0_1 l0_1)) (hc0_1 : n0_1 ≤ c0_1) (R0_2 : Stable ws P0 (fun w => Kd.C (Kd.int .i64) w A0_2 n0_2 l0_2)) (hc0_2 : n0_2 ≤ c0_2) (B0 : Stable ws P0 (fun w => w.heap[g0]? = some (.cells #[.int .i64 a0_0, .slice A0_1 n0_1 c0_1, .slice A0_2 n0_2 c0_2] 43 (0, 0))))  (h : impl_Plan_many.f a0_0 l0_1 l0_2 = some ()) :
    Calls Try.prog 95 #[.pointer (some ⟨g0, 0, none⟩)] ws (Post1 w0 ws P0 (fun (_ : Unit) => .int .i64 (w64 (a0_0 + (l0_1.length : Int)))) (fun (_ : Unit) => [])) := by
  unfold impl_Plan_many.f at h
  obtain rfl := (R0_1 ws (KeptB.refl _ _)).1
  obtain rfl := (R0_2 ws (KeptB.refl _ _)).1
  refine enter Try.func95 rfl Try.ntmps95 rfl hF ?_
  refine c_seq ?_
  refine za0 ?_
  refine o_q rfl rfl (q_asg rfl) ?_
  refine o_end ?_
  refine za1 ?_
  refine c_seq ?_
  refine a_start (ds := []) MO rfl ?_
  refine zac 0 rfl rfl rfl (by kernel_rfl) (fun _ _ _ h => h) (za2 rfl) ?_
  refine zac 1 rfl rfl rfl (by kernel_rfl) (fun _ _ _ h => h) (q_nil rfl) ?_
  refine zac 2 rfl rfl rfl (by kernel_rfl) (fun _ _ _ h => h) (q_f F43_0 rfl) ?_
  refine zay 3 rfl rfl rfl (by kernel_rfl) (fun _ _ _ h => h) (fun w h => h) (q_ldb Y3 rfl (fun w h => B0.now Z h) rfl) ?_
  refine zac 4 rfl rfl rfl (by kernel_rfl) (fun _ _ _ h => h) (za2 rfl) ?_
  refine zac 5 rfl rfl rfl (by kernel_rfl) (fun _ _ _ h => h) (q_nil rfl) ?_
  refine zac 6 rfl rfl rfl (by kernel_rfl) (fun _ _ _ h => h) (q_f F43_1 rfl) ?_
  refine zay 7 rfl rfl rfl (by kernel_rfl) (fun _ _ _ h => h) (fun w h => h) (q_ldb Y41 rfl (fun w h => B0.now Z h) rfl) ?_
  refine zac 8 rfl rfl rfl (by kernel_rfl) (fun _ _ _ h => h) (q_len Try.underlying41 rfl) ?_
  refine zac 9 rfl rfl rfl (by kernel_rfl) (fun _ _ _ h => h) (q_add64 rfl rfl) ?_
  refine zac 10 rfl rfl rfl (by kernel_rfl) (fun _ _ _ h => h) (q_asg rfl) ?_
  refine a_done (by kernel_rfl) ?_
  refine za1 ?_
  refine c_ret ?_
  exact x_r1 () Try.results95 (zae rfl) rfl (fun w h => za6 [] (by decide) rfl w h)

/-! ### (*loop.example/g01098/impl.RegCode).read: function 110 -/
def impl_RegCode_read.l2 (l2308 : List Int) : (List Int) → (List Int) → Int → Option ((Int × (List SStep) × (List Int) × Bool) ⊕ ((List Int)))
  | [], l2324, i2327 => some (.inr l2324)
  | y2328 :: ys2329, l2324, i2327 => ((impl_RegCode_read_1.f y2328 l2308).bind fun b2354 => if b2354 = true then ((gt l2308 y2328).bind fun y2358 => some (decide (y2358 = (-1)))) else (some true)).bind fun b2347 => if b2347 = true then (some (.inl (0, ([] : List SStep), ([] : List Int), false))) else ((gt l2308 y2328).bind fun y2603 => (ap l2324 ([y2603] : List Int)).bind fun l2781 => impl_RegCode_read.l2 l2308 ys2329 l2781 (i2327 + 1))
def impl_RegCode_read.l1 (l0_1 : List Int) : (List SRegOp) → (List Int) → (List SStep) → Int → Option ((Int × (List SStep) × (List Int) × Bool) ⊕ ((List Int) × (List SStep)))
  | [], l2308, l2309, i2312 => some (.inr (l2308, l2309))
  | y2313 :: ys2314, l2308, l2309, i2312 => ((impl_RegCode_read_1.f y2313.f0 l2308).bind fun b3046 => if b3046 = true then ((impl_RegCode_read_1.f y2313.f1 l2308).bind fun b3049 => if b3049 = true then ((impl_RegCode_read_1.f y2313.f2 l2308).bind fun b3052 => if b3052 = true then ((gt l2308 y2313.f1).bind fun y3056 => if y3056 = (-1) then (some true) else ((gt l2308 y2313.f2).bind fun y3059 => some (decide (y3059 = (-1))))) else (some true)) else (some true)) else (some true)).bind fun b3039 => if b3039 = true then (some (.inl (0, ([] : List SStep), ([] : List Int), false))) else (((gt l2308 y2313.f1).bind fun y4453 => (gt l2308 y2313.f2).bind fun y4752 => (impl_step.f y4453 y4752).bind fun _ => (ap l2309 ([(⟨mn y4453 y4752, mx y4453 y4752⟩ : SStep)] : List SStep)).bind fun l4991 => some l4991).bind fun l4142 => (impl_Plan_many.f (l0_1.length : Int) l4142 []).bind fun _ => (gt l2308 y2313.f0).bind fun y5234 => (st l2308 y2313.f0 (w64 (w64 ((l0_1.length : Int) + (l4142.length : Int)) - 1))).bind fun l5235 => impl_RegCode_read.l1 l0_1 ys2314 l5235 l4142 (i2312 + 1))
def impl_RegCode_read.l0 : (List Int) → (List Int) → Int → Option ((Int × (List SStep) × (List Int) × Bool) ⊕ ((List Int)))
  | [], l2295, i2296 => some (.inr l2295)
  | y2297 :: ys2298, l2295, i2296 => ((impl_RegCode_read_1.f y2297 l2295).bind fun b5251 => if b5251 = true then ((gt l2295 y2297).bind fun y5255 => some (decide (y5255 ≠ (-1)))) else (some true)).bind fun b5244 => if b5244 = true then (some (.inl (0, ([] : List SStep), ([] : List Int), false))) else ((gt l2295 y2297).bind fun y5259 => (st l2295 y2297 i2296).bind fun l5260 => impl_RegCode_read.l0 ys2298 l5260 (i2296 + 1))
def impl_RegCode_read.f (a0_0 : Int) (l0_1 : List Int) (l0_2 : List SRegOp) (l0_3 : List Int) : Option (Int × (List SStep) × (List Int) × Bool) := ((slices_Repeat_int_int.f ([(-1)] : List Int) (mx (mn a0_0 46) 0)).bind fun l1936 => some l1936).bind fun l1146 => (impl_RegCode_read.l0 l0_1 l1146 0).bind fun o_ => match o_ with | .inl r_ => some r_ | .inr l2295 => (impl_RegCode_read.l1 l0_1 l0_2 l2295 ([] : List SStep) 0).bind fun o_ => match o_ with | .inl r_ => some r_ | .inr (l2308, l2309) => (impl_RegCode_read.l2 l2308 l0_3 ([] : List Int) 0).bind fun o_ => match o_ with | .inl r_ => some r_ | .inr l2324 => (impl_in.f a0_0 1 46).bind fun b2339 => some ((l0_1.length : Int), l2309, l2324, b2339)
set_option maxHeartbeats 600000 in
set_option maxRecDepth 100000 in
theorem impl_RegCode_read.calls {w0 ws : World} {P0 : Nat → Prop} (g0 : Nat) (a0_0 : Int) (A0_1 : Option Addr) (c0_1 : Nat) (n0_1 : Nat) (l0_1 : List Int) (A0_2 : Option Addr) (c0_2 : Nat) (n0_2 : Nat) (l0_2 : List SRegOp) (A0_3 : Option Addr) (c0_3 : Nat) (n0_3 : Nat) (l0_3 : List Int) (Z : Below w0.heap.size w0 ws) (hF : Fr w0 ws P0 [] ws) (R0_1 : Stable ws P0 (fun w => Kd.C (Kd.int .i64) w A0_1 n0_1 l0_1)) (hc0_1 : n0_1 ≤ c0_1) (R0_2 : Stable ws P0 (fun w => Kd.C zat w A0_2 n0_2 l0_2)) (hc0_2 : n0_2 ≤ c0_2) (R0_3 : Stable ws P0 (fun w => Kd.C (Kd.int .i64) w A0_3 n0_3 l0_3)) (hc0_3 : n0_3 ≤ c0_3) (B0 : Stable ws P0 (fun w => w.heap[g0]? = some (.cells #[.int .i64 a0_0, .slice A0_1 n0_1 c0_1, .slice A0_2 n0_2 c0_2, .slice A0_3 n0_3 c0_3] 29 (0, 0)))) (r_1 : Int) (r_2 : List SStep) (r_5 : List Int) (r_8 : Bool) (h : impl_RegCode_read.f a0_0 l0_1 l0_2 l0_3 = some (r_1, r_2, r_5, r_8)) :
    Calls Try.prog 110 #[.pointer (some ⟨g0, 0, none⟩)] ws (Post1 w0 ws P0 (fun ((q_3, q_4, q_6, q_7) : (Option Addr) × Nat × (Option Addr) × Nat) => .tuple #[.agg #[.int .i64 r_1, .slice q_3 r_2.length q_4, .slice q_6 r_5.length q_7], .bool r_8]) (fun ((q_3, q_4, q_6, q_7) : (Option Addr) × Nat × (Option Addr) × Nat) => [row kStep 117 (.slice q_3 r_2.length q_4) r_2, row (Kd.int .i64) 3 (.slice q_6 r_5.length q_7) r_5])) := by
  unfold impl_RegCode_read.f at h
  obtain rfl := (R0_1 ws (KeptB.refl _ _)).1
  obtain rfl := (R0_2 ws (KeptB.refl _ _)).1
  obtain rfl := (R0_3 ws (KeptB.refl _ _)).1
  refine enter Try.func110 rfl Try.ntmps110 rfl hF ?_
  refine c_seq ?_
  refine za0 ?_
  refine o_e rfl (zar V43 rfl) (fun g1 => ?_)
  refine o_q rfl rfl (q_asg rfl) ?_
  refine o_end ?_
  refine za1 ?_
  refine za7 h (fun o1149 hl1150 hR1151 => ?_) rfl
  clear h
  refine c_cutJ (σ := (List Int) × Nat × Nat × (Option Addr) × Nat) (fun (l1146, g1144, g1145, A1147, c1148) => some l1146 = some o1149) [4, 5, 13, 14, 15, 16, 17, 18, 19, 20, 21, 22, 23, 24, 25, 26] (fun (l1146, g1144, g1145, A1147, c1148) => [(4, .pointer (some ⟨g1144, 0, none⟩)), (5, .pointer (some ⟨g1145, 0, none⟩))]) (fun (l1146, g1144, g1145, A1147, c1148) => [box g1 43 #[.int .i64 0, .slice none 0 0, .slice none 0 0], box g1144 43 #[.int .i64 (l0_1.length : Int), .slice none 0 0, .slice none 0 0], box g1145 22 #[.slice A1147 l1146.length c1148], row (Kd.int .i64) 3 (.slice A1147 l1146.length c1148) l1146]) ?_ ?_
  · skip
    have h := hl1150; clear hl1150
    clear hR1151
    refine za7 h (fun l1936 hx1935 h => ?_) rfl
    refine a_start (ds := []) MO rfl ?_
    refine zac 0 rfl rfl rfl (by kernel_rfl) (fun _ _ _ h => h) (za2 rfl) ?_
    refine zac 1 rfl rfl rfl (by kernel_rfl) (fun _ _ _ h => h) (q_nil rfl) ?_
    refine zac 2 rfl rfl rfl (by kernel_rfl) (fun _ _ _ h => h) (q_f F29_1 rfl) ?_
    refine zay 3 rfl rfl rfl (by kernel_rfl) (fun _ _ _ h => h) (fun w h => h) (q_ldb Y22 rfl (fun w h => B0.now Z h) rfl) ?_
    refine zac 4 rfl rfl rfl (by kernel_rfl) (fun _ _ _ h => h) (q_len Try.underlying22 rfl) ?_
    refine zac 5 rfl rfl rfl (by kernel_rfl) (fun _ _ _ h => h) (q_build (vs := [(0, .int .i64 (l0_1.length : Int))]) (cs := [.int .i64 (l0_1.length : Int), .slice none 0 0, .slice none 0 0]) rfl rfl) ?_
    refine zac 7 rfl rfl rfl (by kernel_rfl) (fun _ _ _ h => h) (za2 rfl) ?_
    refine zac 8 rfl rfl rfl (by kernel_rfl) (fun _ _ _ h => h) (q_nil rfl) ?_
    refine zac 9 rfl rfl rfl (by kernel_rfl) (fun _ _ _ h => h) (q_f F29_0 rfl) ?_
    refine zay 10 rfl rfl rfl (by kernel_rfl) (fun _ _ _ h => h) (fun w h => h) (q_ldb Y3 rfl (fun w h => B0.now Z h) rfl) ?_
    refine zac 11 rfl rfl rfl (by kernel_rfl) (fun _ _ _ h => h) (q_min rfl rfl) ?_
    refine zac 12 rfl rfl rfl (by kernel_rfl) (fun _ _ _ h => h) (q_max rfl rfl) ?_
    refine a_three 6 14 15 rfl rfl rfl rfl rfl rfl (by kernel_rfl) rfl rfl rfl (e_lit (vs := [(0, .int .i64 (-1))]) (cs := [.int .i64 (-1)]) (Kd.int .i64) ([(-1)] : List Int) Try.underlying22 I3 (by decide) rfl (by decide) rfl rfl (fun _ _ => Kd.zb1 _)) (fun s w h => zaa [some 1] (by decide) w h rfl) (zar V43 rfl) (fun s w h => zaa [some 1] (by decide) w h rfl) (zar V22 rfl) (fun s w h => zaa [some 1] (by decide) w h rfl) (cur2 (fun A1515 c1516 => ?_)) (fun g1995 => ?_) (fun g2055 => ?_)
    · skip
      refine a_three 13 14 15 rfl rfl rfl rfl rfl rfl (by kernel_rfl) rfl rfl rfl (zab 0 Z Try.func41 N41 rfl rfl rfl (fun w P1 hF hB hS hT => slices_Repeat_int_int.calls A1515 c1516 (([(-1)] : List Int).length) ([(-1)] : List Int) (mx (mn a0_0 46) 0) hB hF (hT 0 _ rfl).row (hT 0 _ rfl).cap _ hx1935)) (fun s w h => zaa [some 2] (by decide) w h rfl) (zar V43 rfl) (fun s w h => zaa [some 2] (by decide) w h rfl) (zar V22 rfl) (fun s w h => zaa [some 2] (by decide) w h rfl) (cur2 (fun A1937 c1938 => ?_)) (fun g1995 => ?_) (fun g2055 => ?_)
      · skip
        refine a_two 14 15 rfl rfl rfl rfl (by kernel_rfl) rfl rfl (zar V43 rfl) (fun s w h => zaa [some 3] (by decide) w h rfl) (zar V22 rfl) (fun s w h => zaa [some 3] (by decide) w h rfl) (fun g1995 => ?_) (fun g2055 => ?_)
        · skip
          refine a_one 15 rfl rfl (by kernel_rfl) rfl (zar V22 rfl) (fun s w h => zaa [some 4] (by decide) w h rfl) (fun g2055 => ?_)
          refine a_one 16 rfl rfl (by kernel_rfl) rfl (zam (i := 1) rfl rfl rfl Z43 rfl rfl) (fun s w h => zaa [some 4] (by decide) w h rfl) (fun _ => ?_)
          refine a_one 17 rfl rfl (by kernel_rfl) rfl (e_store (i := 0) rfl rfl rfl rfl Z22 rfl rfl) (fun s w h => zaa [some 4] (by decide) w h rfl) (fun _ => ?_)
          refine a_done (by kernel_rfl) ?_
          refine zaw (l1936, g1995, g2055, A1937, c1938) h ⟨rfl, rfl, trivial⟩ (fun w h => za6 [4, 1, 0, 2] (by decide) rfl w h) ?_
          repeat (first | exact zad _ _ | refine zai rfl ?_ | refine zaf rfl ?_ | refine zaj rfl ?_)
        · skip
          refine a_one 14 rfl rfl (by kernel_rfl) rfl (zar V43 rfl) (fun s w h => zaa [some 4] (by decide) w h rfl) (fun g1995 => ?_)
          refine a_one 16 rfl rfl (by kernel_rfl) rfl (zam (i := 0) rfl rfl rfl Z43 rfl rfl) (fun s w h => zaa [some 4] (by decide) w h rfl) (fun _ => ?_)
          refine a_one 17 rfl rfl (by kernel_rfl) rfl (e_store (i := 1) rfl rfl rfl rfl Z22 rfl rfl) (fun s w h => zaa [some 4] (by decide) w h rfl) (fun _ => ?_)
          refine a_done (by kernel_rfl) ?_
          refine zaw (l1936, g1995, g2055, A1937, c1938) h ⟨rfl, rfl, trivial⟩ (fun w h => za6 [4, 0, 1, 2] (by decide) rfl w h) ?_
          repeat (first | exact zad _ _ | refine zai rfl ?_ | refine zaf rfl ?_ | refine zaj rfl ?_)
      · skip
        refine a_two 13 15 rfl rfl rfl rfl (by kernel_rfl) rfl rfl (zab 0 Z Try.func41 N41 rfl rfl rfl (fun w P1 hF hB hS hT => slices_Repeat_int_int.calls A1515 c1516 (([(-1)] : List Int).length) ([(-1)] : List Int) (mx (mn a0_0 46) 0) hB hF (hT 1 _ rfl).row (hT 1 _ rfl).cap _ hx1935)) (fun s w h => zaa [some 3] (by decide) w h rfl) (zar V22 rfl) (fun s w h => zaa [some 3] (by decide) w h rfl) (cur2 (fun A1937 c1938 => ?_)) (fun g2055 => ?_)
        · skip
          refine a_one 15 rfl rfl (by kernel_rfl) rfl (zar V22 rfl) (fun s w h => zaa [some 4] (by decide) w h rfl) (fun g2055 => ?_)
          refine a_one 16 rfl rfl (by kernel_rfl) rfl (zam (i := 2) rfl rfl rfl Z43 rfl rfl) (fun s w h => zaa [some 4] (by decide) w h rfl) (fun _ => ?_)
          refine a_one 17 rfl rfl (by kernel_rfl) rfl (e_store (i := 0) rfl rfl rfl rfl Z22 rfl rfl) (fun s w h => zaa [some 4] (by decide) w h rfl) (fun _ => ?_)
          refine a_done (by kernel_rfl) ?_
          refine zaw (l1936, g1995, g2055, A1937, c1938) h ⟨rfl, rfl, trivial⟩ (fun w h => za6 [4, 2, 0, 1] (by decide) rfl w h) ?_
          repeat (first | exact zad _ _ | refine zai rfl ?_ | refine zaf rfl ?_ | refine zaj rfl ?_)
        · skip
          refine a_one 13 rfl rfl (by kernel_rfl) rfl (zab 0 Z Try.func41 N41 rfl rfl rfl (fun w P1 hF hB hS hT => slices_Repeat_int_int.calls A1515 c1516 (([(-1)] : List Int).length) ([(-1)] : List Int) (mx (mn a0_0 46) 0) hB hF (hT 2 _ rfl).row (hT 2 _ rfl).cap _ hx1935)) (fun s w h => zaa [some 4] (by decide) w h rfl) (cur2 (fun A1937 c1938 => ?_))
          refine a_one 16 rfl rfl (by kernel_rfl) rfl (zam (i := 2) rfl rfl rfl Z43 rfl rfl) (fun s w h => zaa [some 4] (by decide) w h rfl) (fun _ => ?_)
          refine a_one 17 rfl rfl (by kernel_rfl) rfl (e_store (i := 1) rfl rfl rfl rfl Z22 rfl rfl) (fun s w h => zaa [some 4] (by decide) w h rfl) (fun _ => ?_)
          refine a_done (by kernel_rfl) ?_
          refine zaw (l1936, g1995, g2055, A1937, c1938) h ⟨rfl, rfl, trivial⟩ (fun w h => za6 [4, 2, 1, 0] (by decide) rfl w h) ?_
          repeat (first | exact zad _ _ | refine zai rfl ?_ | refine zaf rfl ?_ | refine zaj rfl ?_)
      · skip
        refine a_two 13 14 rfl rfl rfl rfl (by kernel_rfl) rfl rfl (zab 0 Z Try.func41 N41 rfl rfl rfl (fun w P1 hF hB hS hT => slices_Repeat_int_int.calls A1515 c1516 (([(-1)] : List Int).length) ([(-1)] : List Int) (mx (mn a0_0 46) 0) hB hF (hT 1 _ rfl).row (hT 1 _ rfl).cap _ hx1935)) (fun s w h => zaa [some 3] (by decide) w h rfl) (zar V43 rfl) (fun s w h => zaa [some 3] (by decide) w h rfl) (cur2 (fun A1937 c1938 => ?_)) (fun g1995 => ?_)
        · skip
          refine a_one 14 rfl rfl (by kernel_rfl) rfl (zar V43 rfl) (fun s w h => zaa [some 4] (by decide) w h rfl) (fun g1995 => ?_)
          refine a_one 16 rfl rfl (by kernel_rfl) rfl (zam (i := 0) rfl rfl rfl Z43 rfl rfl) (fun s w h => zaa [some 4] (by decide) w h rfl) (fun _ => ?_)
          refine a_one 17 rfl rfl (by kernel_rfl) rfl (e_store (i := 2) rfl rfl rfl rfl Z22 rfl rfl) (fun s w h => zaa [some 4] (by decide) w h rfl) (fun _ => ?_)
          refine a_done (by kernel_rfl) ?_
          refine zaw (l1936, g1995, g2055, A1937, c1938) h ⟨rfl, rfl, trivial⟩ (fun w h => za6 [4, 0, 2, 1] (by decide) rfl w h) ?_
          repeat (first | exact zad _ _ | refine zai rfl ?_ | refine zaf rfl ?_ | refine zaj rfl ?_)
        · skip
          refine a_one 13 rfl rfl (by kernel_rfl) rfl (zab 0 Z Try.func41 N41 rfl rfl rfl (fun w P1 hF hB hS hT => slices_Repeat_int_int.calls A1515 c1516 (([(-1)] : List Int).length) ([(-1)] : List Int) (mx (mn a0_0 46) 0) hB hF (hT 2 _ rfl).row (hT 2 _ rfl).cap _ hx1935)) (fun s w h => zaa [some 4] (by decide) w h rfl) (cur2 (fun A1937 c1938 => ?_))
          refine a_one 16 rfl rfl (by kernel_rfl) rfl (zam (i := 1) rfl rfl rfl Z43 rfl rfl) (fun s w h => zaa [some 4] (by decide) w h rfl) (fun _ => ?_)
          refine a_one 17 rfl rfl (by kernel_rfl) rfl (e_store (i := 2) rfl rfl rfl rfl Z22 rfl rfl) (fun s w h => zaa [some 4] (by decide) w h rfl) (fun _ => ?_)
          refine a_done (by kernel_rfl) ?_
          refine zaw (l1936, g1995, g2055, A1937, c1938) h ⟨rfl, rfl, trivial⟩ (fun w h => za6 [4, 1, 2, 0] (by decide) rfl w h) ?_
          repeat (first | exact zad _ _ | refine zai rfl ?_ | refine zaf rfl ?_ | refine zaj rfl ?_)
    · skip
      refine a_two 6 15 rfl rfl rfl rfl (by kernel_rfl) rfl rfl (e_lit (vs := [(0, .int .i64 (-1))]) (cs := [.int .i64 (-1)]) (Kd.int .i64) ([(-1)] : List Int) Try.underlying22 I3 (by decide) rfl (by decide) rfl rfl (fun _ _ => Kd.zb1 _)) (fun s w h => zaa [some 2] (by decide) w h rfl) (zar V22 rfl) (fun s w h => zaa [some 2] (by decide) w h rfl) (cur2 (fun A1515 c1516 => ?_)) (fun g2055 => ?_)
      · skip
        refine a_two 13 15 rfl rfl rfl rfl (by kernel_rfl) rfl rfl (zab 0 Z Try.func41 N41 rfl rfl rfl (fun w P1 hF hB hS hT => slices_Repeat_int_int.calls A1515 c1516 (([(-1)] : List Int).length) ([(-1)] : List Int) (mx (mn a0_0 46) 0) hB hF (hT 0 _ rfl).row (hT 0 _ rfl).cap _ hx1935)) (fun s w h => zaa [some 3] (by decide) w h rfl) (zar V22 rfl) (fun s w h => zaa [some 3] (by decide) w h rfl) (cur2 (fun A1937 c1938 => ?_)) (fun g2055 => ?_)
        · skip
          refine a_one 15 rfl rfl (by kernel_rfl) rfl (zar V22 rfl) (fun s w h => zaa [some 4] (by decide) w h rfl) (fun g2055 => ?_)
          refine a_one 16 rfl rfl (by kernel_rfl) rfl (zam (i := 3) rfl rfl rfl Z43 rfl rfl) (fun s w h => zaa [some 4] (by decide) w h rfl) (fun _ => ?_)
          refine a_one 17 rfl rfl (by kernel_rfl) rfl (e_store (i := 0) rfl rfl rfl rfl Z22 rfl rfl) (fun s w h => zaa [some 4] (by decide) w h rfl) (fun _ => ?_)
          refine a_done (by kernel_rfl) ?_
          refine zaw (l1936, g1995, g2055, A1937, c1938) h ⟨rfl, rfl, trivial⟩ (fun w h => za6 [4, 3, 0, 1] (by decide) rfl w h) ?_
          repeat (first | exact zad _ _ | refine zai rfl ?_ | refine zaf rfl ?_ | refine zaj rfl ?_)
        · skip
          refine a_one 13 rfl rfl (by kernel_rfl) rfl (zab 0 Z Try.func41 N41 rfl rfl rfl (fun w P1 hF hB hS hT => slices_Repeat_int_int.calls A1515 c1516 (([(-1)] : List Int).length) ([(-1)] : List Int) (mx (mn a0_0 46) 0) hB hF (hT 1 _ rfl).row (hT 1 _ rfl).cap _ hx1935)) (fun s w h => zaa [some 4] (by decide) w h rfl) (cur2 (fun A1937 c1938 => ?_))
          refine a_one 16 rfl rfl (by kernel_rfl) rfl (zam (i := 3) rfl rfl rfl Z43 rfl rfl) (fun s w h => zaa [some 4] (by decide) w h rfl) (fun _ => ?_)
          refine a_one 17 rfl rfl (by kernel_rfl) rfl (e_store (i := 1) rfl rfl rfl rfl Z22 rfl rfl) (fun s w h => zaa [some 4] (by decide) w h rfl) (fun _ => ?_)
          refine a_done (by kernel_rfl) ?_
          refine zaw (l1936, g1995, g2055, A1937, c1938) h ⟨rfl, rfl, trivial⟩ (fun w h => za6 [4, 3, 1, 0] (by decide) rfl w h) ?_
          repeat (first | exact zad _ _ | refine zai rfl ?_ | refine zaf rfl ?_ | refine zaj rfl ?_)
      · skip
        refine a_one 6 rfl rfl (by kernel_rfl) rfl (e_lit (vs := [(0, .int .i64 (-1))]) (cs := [.int .i64 (-1)]) (Kd.int .i64) ([(-1)] : List Int) Try.underlying22 I3 (by decide) rfl (by decide) rfl rfl (fun _ _ => Kd.zb1 _)) (fun s w h => zaa [some 3] (by decide) w h rfl) (cur2 (fun A1515 c1516 => ?_))
        refine a_one 13 rfl rfl (by kernel_rfl) rfl (zab 0 Z Try.func41 N41 rfl rfl rfl (fun w P1 hF hB hS hT => slices_Repeat_int_int.calls A1515 c1516 (([(-1)] : List Int).length) ([(-1)] : List Int) (mx (mn a0_0 46) 0) hB hF (hT 0 _ rfl).row (hT 0 _ rfl).cap _ hx1935)) (fun s w h => zaa [some 4] (by decide) w h rfl) (cur2 (fun A1937 c1938 => ?_))
        refine a_one 16 rfl rfl (by kernel_rfl) rfl (zam (i := 3) rfl rfl rfl Z43 rfl rfl) (fun s w h => zaa [some 4] (by decide) w h rfl) (fun _ => ?_)
        refine a_one 17 rfl rfl (by kernel_rfl) rfl (e_store (i := 2) rfl rfl rfl rfl Z22 rfl rfl) (fun s w h => zaa [some 4] (by decide) w h rfl) (fun _ => ?_)
        refine a_done (by kernel_rfl) ?_
        refine zaw (l1936, g1995, g2055, A1937, c1938) h ⟨rfl, rfl, trivial⟩ (fun w h => za6 [4, 3, 2, 0] (by decide) rfl w h) ?_
        repeat (first | exact zad _ _ | refine zai rfl ?_ | refine zaf rfl ?_ | refine zaj rfl ?_)
    · skip
      refine a_two 6 14 rfl rfl rfl rfl (by kernel_rfl) rfl rfl (e_lit (vs := [(0, .int .i64 (-1))]) (cs := [.int .i64 (-1)]) (Kd.int .i64) ([(-1)] : List Int) Try.underlying22 I3 (by decide) rfl (by decide) rfl rfl (fun _ _ => Kd.zb1 _)) (fun s w h => zaa [some 2] (by decide) w h rfl) (zar V43 rfl) (fun s w h => zaa [some 2] (by decide) w h rfl) (cur2 (fun A1515 c1516 => ?_)) (fun g1995 => ?_)
      · skip
        refine a_two 13 14 rfl rfl rfl rfl (by kernel_rfl) rfl rfl (zab 0 Z Try.func41 N41 rfl rfl rfl (fun w P1 hF hB hS hT => slices_Repeat_int_int.calls A1515 c1516 (([(-1)] : List Int).length) ([(-1)] : List Int) (mx (mn a0_0 46) 0) hB hF (hT 0 _ rfl).row (hT 0 _ rfl).cap _ hx1935)) (fun s w h => zaa [some 3] (by decide) w h rfl) (zar V43 rfl) (fun s w h => zaa [some 3] (by decide) w h rfl) (cur2 (fun A1937 c1938 => ?_)) (fun g1995 => ?_)
        · skip
          refine a_one 14 rfl rfl (by kernel_rfl) rfl (zar V43 rfl) (fun s w h => zaa [some 4] (by decide) w h rfl) (fun g1995 => ?_)
          refine a_one 16 rfl rfl (by kernel_rfl) rfl (zam (i := 0) rfl rfl rfl Z43 rfl rfl) (fun s w h => zaa [some 4] (by decide) w h rfl) (fun _ => ?_)
          refine a_one 17 rfl rfl (by kernel_rfl) rfl (e_store (i := 3) rfl rfl rfl rfl Z22 rfl rfl) (fun s w h => zaa [some 4] (by decide) w h rfl) (fun _ => ?_)
          refine a_done (by kernel_rfl) ?_
          refine zaw (l1936, g1995, g2055, A1937, c1938) h ⟨rfl, rfl, trivial⟩ (fun w h => za6 [4, 0, 3, 1] (by decide) rfl w h) ?_
          repeat (first | exact zad _ _ | refine zai rfl ?_ | refine zaf rfl ?_ | refine zaj rfl ?_)
        · skip
          refine a_one 13 rfl rfl (by kernel_rfl) rfl (zab 0 Z Try.func41 N41 rfl rfl rfl (fun w P1 hF hB hS hT => slices_Repeat_int_int.calls A1515 c1516 (([(-1)] : List Int).length) ([(-1)] : List Int) (mx (mn a0_0 46) 0) hB hF (hT 1 _ rfl).row (hT 1 _ rfl).cap _ hx1935)) (fun s w h => zaa [some 4] (by decide) w h rfl) (cur2 (fun A1937 c1938 => ?_))
          refine a_one 16 rfl rfl (by kernel_rfl) rfl (zam (i := 1) rfl rfl rfl Z43 rfl rfl) (fun s w h => zaa [some 4] (by decide) w h rfl) (fun _ => ?_)
          refine a_one 17 rfl rfl (by kernel_rfl) rfl (e_store (i := 3) rfl rfl rfl rfl Z22 rfl rfl) (fun s w h => zaa [some 4] (by decide) w h rfl) (fun _ => ?_)
          refine a_done (by kernel_rfl) ?_
          refine zaw (l1936, g1995, g2055, A1937, c1938) h ⟨rfl, rfl, trivial⟩ (fun w h => za6 [4, 1, 3, 0] (by decide) rfl w h) ?_
          repeat (first | exact zad _ _ | refine zai rfl ?_ | refine zaf rfl ?_ | refine zaj rfl ?_)
      · skip
        refine a_one 6 rfl rfl (by kernel_rfl) rfl (e_lit (vs := [(0, .int .i64 (-1))]) (cs := [.int .i64 (-1)]) (Kd.int .i64) ([(-1)] : List Int) Try.underlying22 I3 (by decide) rfl (by decide) rfl rfl (fun _ _ => Kd.zb1 _)) (fun s w h => zaa [some 3] (by decide) w h rfl) (cur2 (fun A1515 c1516 => ?_))
        refine a_one 13 rfl rfl (by kernel_rfl) rfl (zab 0 Z Try.func41 N41 rfl rfl rfl (fun w P1 hF hB hS hT => slices_Repeat_int_int.calls A1515 c1516 (([(-1)] : List Int).length) ([(-1)] : List Int) (mx (mn a0_0 46) 0) hB hF (hT 0 _ rfl).row (hT 0 _ rfl).cap _ hx1935)) (fun s w h => zaa [some 4] (by decide) w h rfl) (cur2 (fun A1937 c1938 => ?_))
        refine a_one 16 rfl rfl (by kernel_rfl) rfl (zam (i := 2) rfl rfl rfl Z43 rfl rfl) (fun s w h => zaa [some 4] (by decide) w h rfl) (fun _ => ?_)
        refine a_one 17 rfl rfl (by kernel_rfl) rfl (e_store (i := 3) rfl rfl rfl rfl Z22 rfl rfl) (fun s w h => zaa [some 4] (by decide) w h rfl) (fun _ => ?_)
        refine a_done (by kernel_rfl) ?_
        refine zaw (l1936, g1995, g2055, A1937, c1938) h ⟨rfl, rfl, trivial⟩ (fun w h => za6 [4, 2, 3, 0] (by decide) rfl w h) ?_
        repeat (first | exact zad _ _ | refine zai rfl ?_ | refine zaf rfl ?_ | refine zaj rfl ?_)
  · skip
    refine (cur5 (fun l1146 g1144 g1145 A1147 c1148 => fun U1152 hJ1153 => ?_))
    have e_ := Option.some.inj hJ1153; have h := hR1151; rw [← e_] at h; clear e_ hJ1153 hR1151 hl1150
    refine c_seq ?_
    refine za0 ?_
    refine o_q rfl rfl (q_func rfl rfl) ?_
    refine o_q rfl rfl (q_asg rfl) ?_
    refine o_end ?_
    refine za1 ?_
    refine c_seq ?_
    refine c_seq ?_
    refine za0 ?_
    refine o_q rfl rfl (za2 rfl) ?_
    refine o_q rfl rfl (q_nil rfl) ?_
    refine o_q rfl rfl (q_f F29_1 rfl) ?_
    refine o_q rfl rfl (q_ldb Y22 rfl (fun w h => B0.now Z h) rfl) ?_
    refine o_q rfl rfl (q_len Try.underlying22 rfl) ?_
    refine o_q rfl rfl (za2 rfl) ?_
    refine o_end ?_
    refine za1 ?_
    refine zak ?_
    refine za7 h (fun o2304 hl2303 hR2302 => ?_) rfl
    clear h
    refine c_fact (p := l0_1.length ≤ 9223372036854775807) (fun w h => (R0_1.now Z h).2.1) (fun hm2301 => ?_)
    refine zaz (σ := (List Int) × (List Int) × Int) (fun k2299 ((ys2298, l2295, i2296) : (List Int) × (List Int) × Int) => Rg l0_1 i2296 ys2298 ∧ ys2298.length = k2299 ∧ impl_RegCode_read.l0 ys2298 l2295 i2296 = some o2304) [3, 7, 8, 33, 34, 35, 36, 37, 38, 39, 40, 41, 42, 43, 44, 45, 46, 47, 48, 49, 50, 51, 52, 53, 54] (fun ((ys2298, l2295, i2296) : (List Int) × (List Int) × Int) => [(33, .int .i64 i2296)]) (fun ((ys2298, l2295, i2296) : (List Int) × (List Int) × Int) => [box g1 43 #[.int .i64 0, .slice none 0 0, .slice none 0 0], box g1144 43 #[.int .i64 (l0_1.length : Int), .slice none 0 0, .slice none 0 0], box g1145 22 #[.slice A1147 l1146.length c1148], row (Kd.int .i64) 3 (.slice A1147 l1146.length c1148) l2295]) l0_1.length (l0_1, l1146, 0) ⟨Rg.start _, rfl, hl2303⟩ ⟨rfl, trivial⟩ (fun w h => h) ?_
    refine fun k2299 => cur3 (listC (fun l2295 i2296 U2305 hJ_ => ?_) (fun y2297 ys2298 l2295 i2296 U2305 hJ_ => ?_))
    · skip
      clear hl2303
      have hr2300 := hJ_.1; have hk2306 := hJ_.2.1; have h := hJ_.2.2; clear hJ_
      replace h : impl_RegCode_read.l0 [] l2295 i2296 = some o2304 := h
      rw [impl_RegCode_read.l0] at h
      refine c_seq ?_
      refine za0 ?_
      refine o_q rfl rfl (q_lss rfl rfl) ?_
      refine o_end ?_
      refine za1 ?_
      refine c_seq ?_
      refine c_false (congrArg Value.bool hr2300.ge) ?_
      refine c_exit ?_
      refine za8 ?_
      refine za8 ?_
      have e_ := Option.some.inj h; replace h := hR2302; rw [← e_] at h; clear e_
      refine x_hit ?_
      refine za1 ?_
      refine c_seq ?_
      refine c_seq ?_
      refine za0 ?_
      refine o_q rfl rfl (za2 rfl) ?_
      refine o_q rfl rfl (q_nil rfl) ?_
      refine o_q rfl rfl (q_f F29_2 rfl) ?_
      refine o_q rfl rfl (q_ldb Y27 rfl (fun w h => B0.now Z h) rfl) ?_
      refine o_q rfl rfl (q_len Try.underlying27 rfl) ?_
      refine o_q rfl rfl (za2 rfl) ?_
      refine o_end ?_
      refine za1 ?_
      refine zak ?_
      refine c_nil kStep 117 ?_
      refine za7 h (fun o2320 hl2319 hR2318 => ?_) rfl
      clear h
      refine c_fact (p := l0_2.length ≤ 9223372036854775807) (fun w h => (R0_2.now Z h).2.1) (fun hm2317 => ?_)
      refine zaz (σ := (List SRegOp) × (List Int) × (List SStep) × Int × (Option Addr) × Nat) (fun k2315 ((ys2314, l2308, l2309, i2312, A2310, c2311) : (List SRegOp) × (List Int) × (List SStep) × Int × (Option Addr) × Nat) => Rg l0_2 i2312 ys2314 ∧ ys2314.length = k2315 ∧ impl_RegCode_read.l1 l0_1 ys2314 l2308 l2309 i2312 = some o2320) [3, 10, 60, 61, 62, 63, 64, 65, 66, 67, 68, 69, 70, 71, 72, 73, 74, 75, 76, 77, 78, 79, 80, 81, 82, 83, 84, 85, 86, 87, 88, 89, 90, 91, 92, 93, 94, 95, 96, 97, 98, 99, 100, 101, 102, 103, 104, 105, 106, 107, 108, 109, 110, 111, 112, 113, 114, 115, 116, 117, 118, 119, 120, 121, 122] (fun ((ys2314, l2308, l2309, i2312, A2310, c2311) : (List SRegOp) × (List Int) × (List SStep) × Int × (Option Addr) × Nat) => [(60, .int .i64 i2312)]) (fun ((ys2314, l2308, l2309, i2312, A2310, c2311) : (List SRegOp) × (List Int) × (List SStep) × Int × (Option Addr) × Nat) => [row kStep 117 (.slice A2310 l2309.length c2311) l2309, box g1 43 #[.int .i64 0, .slice none 0 0, .slice none 0 0], box g1144 43 #[.int .i64 (l0_1.length : Int), .slice A2310 l2309.length c2311, .slice none 0 0], box g1145 22 #[.slice A1147 l1146.length c1148], row (Kd.int .i64) 3 (.slice A1147 l1146.length c1148) l2308]) l0_2.length (l0_2, l2295, ([] : List SStep), 0, none, 0) ⟨Rg.start _, rfl, hl2319⟩ ⟨rfl, trivial⟩ (fun w h => h) ?_
      refine fun k2315 => cur6 (listC (fun l2308 l2309 i2312 A2310 c2311 U2321 hJ_ => ?_) (fun y2313 ys2314 l2308 l2309 i2312 A2310 c2311 U2321 hJ_ => ?_))
      · skip
        clear hl2319
        have hr2316 := hJ_.1; have hk2322 := hJ_.2.1; have h := hJ_.2.2; clear hJ_
        replace h : impl_RegCode_read.l1 l0_1 [] l2308 l2309 i2312 = some o2320 := h
        rw [impl_RegCode_read.l1] at h
        refine c_seq ?_
        refine za0 ?_
        refine o_q rfl rfl (q_lss rfl rfl) ?_
        refine o_end ?_
        refine za1 ?_
        refine c_seq ?_
        refine c_false (congrArg Value.bool hr2316.ge) ?_
        refine c_exit ?_
        refine za8 ?_
        refine za8 ?_
        have e_ := Option.some.inj h; replace h := hR2318; rw [← e_] at h; clear e_
        refine x_hit ?_
        refine za1 ?_
        refine c_seq ?_
        refine c_seq ?_
        refine za0 ?_
        refine o_q rfl rfl (za2 rfl) ?_
        refine o_q rfl rfl (q_nil rfl) ?_
        refine o_q rfl rfl (q_f F29_3 rfl) ?_
        refine o_q rfl rfl (q_ldb Y22 rfl (fun w h => B0.now Z h) rfl) ?_
        refine o_q rfl rfl (q_len Try.underlying22 rfl) ?_
        refine o_q rfl rfl (za2 rfl) ?_
        refine o_end ?_
        refine za1 ?_
        refine zak ?_
        refine c_nil (Kd.int .i64) 3 ?_
        refine za7 h (fun o2335 hl2334 hR2333 => ?_) rfl
        clear h
        refine c_fact (p := l0_3.length ≤ 9223372036854775807) (fun w h => (R0_3.now Z h).2.1) (fun hm2332 => ?_)
        refine zaz (σ := (List Int) × (List Int) × Int × (Option Addr) × Nat) (fun k2330 ((ys2329, l2324, i2327, A2325, c2326) : (List Int) × (List Int) × Int × (Option Addr) × Nat) => Rg l0_3 i2327 ys2329 ∧ ys2329.length = k2330 ∧ impl_RegCode_read.l2 l2308 ys2329 l2324 i2327 = some o2335) [3, 12, 128, 129, 130, 131, 132, 133, 134, 135, 136, 137, 138, 139, 140, 141, 142, 143, 144, 145, 146, 147, 148, 149, 150, 151, 152, 153] (fun ((ys2329, l2324, i2327, A2325, c2326) : (List Int) × (List Int) × Int × (Option Addr) × Nat) => [(128, .int .i64 i2327)]) (fun ((ys2329, l2324, i2327, A2325, c2326) : (List Int) × (List Int) × Int × (Option Addr) × Nat) => [row (Kd.int .i64) 3 (.slice A2325 l2324.length c2326) l2324, row kStep 117 (.slice A2310 l2309.length c2311) l2309, box g1 43 #[.int .i64 0, .slice none 0 0, .slice none 0 0], box g1144 43 #[.int .i64 (l0_1.length : Int), .slice A2310 l2309.length c2311, .slice A2325 l2324.length c2326], box g1145 22 #[.slice A1147 l1146.length c1148], row (Kd.int .i64) 3 (.slice A1147 l1146.length c1148) l2308]) l0_3.length (l0_3, ([] : List Int), 0, none, 0) ⟨Rg.start _, rfl, hl2334⟩ ⟨rfl, trivial⟩ (fun w h => h) ?_
        refine fun k2330 => cur5 (listC (fun l2324 i2327 A2325 c2326 U2336 hJ_ => ?_) (fun y2328 ys2329 l2324 i2327 A2325 c2326 U2336 hJ_ => ?_))
        · skip
          clear hl2334
          have hr2331 := hJ_.1; have hk2337 := hJ_.2.1; have h := hJ_.2.2; clear hJ_
          replace h : impl_RegCode_read.l2 l2308 [] l2324 i2327 = some o2335 := h
          rw [impl_RegCode_read.l2] at h
          refine c_seq ?_
          refine za0 ?_
          refine o_q rfl rfl (q_lss rfl rfl) ?_
          refine o_end ?_
          refine za1 ?_
          refine c_seq ?_
          refine c_false (congrArg Value.bool hr2331.ge) ?_
          refine c_exit ?_
          refine za8 ?_
          refine za8 ?_
          have e_ := Option.some.inj h; replace h := hR2333; rw [← e_] at h; clear e_
          refine x_hit ?_
          refine za1 ?_
          refine c_seq ?_
          refine a_startS (ds := []) [some 0, some 1, none, some 3, some 4, some 5] MO rfl ?_
          refine zay 0 rfl rfl rfl (by kernel_rfl) (fun _ _ _ h => h) (fun w h => zaa [some 0, some 1, none, some 3, some 4, some 5] (by decide) w h rfl) (q_ldB G43 Z43 rfl (fun w h => h.za9 (i := 3) rfl) rfl) ?_
          refine zac 1 rfl rfl rfl (by kernel_rfl) (fun _ _ _ h => h) (za2 rfl) ?_
          refine zac 2 rfl rfl rfl (by kernel_rfl) (fun _ _ _ h => h) (q_nil rfl) ?_
          refine zac 3 rfl rfl rfl (by kernel_rfl) (fun _ _ _ h => h) (q_f F29_0 rfl) ?_
          refine zay 4 rfl rfl rfl (by kernel_rfl) (fun _ _ _ h => h) (fun w h => zaa [some 0, some 1, none, some 3, some 4, some 5] (by decide) w h rfl) (q_ldb Y3 rfl (fun w h => B0.now Z h) rfl) ?_
          refine za7 h (fun b2339 hx2338 h => ?_) rfl
          refine a_one 5 rfl rfl (by kernel_rfl) rfl (zab 0 Z Try.func93 N93 rfl rfl rfl (fun w P1 hF hB hS hT => impl_in.calls a0_0 1 46 hB hF _ hx2338)) (fun s w h => zaa [some 0, some 1, none, some 3, some 4, some 5] (by decide) w h rfl) (fun _ => ?_)
          refine a_one 6 rfl rfl (by kernel_rfl) rfl (zam (i := 2) rfl rfl rfl Z43 rfl rfl) (fun s w h => zaa [some 0, some 1, none, some 3, some 4, some 5] (by decide) w h rfl) (fun _ => ?_)
          refine zac 7 rfl rfl rfl (by kernel_rfl) (fun _ _ _ h => h) (q_asg rfl) ?_
          refine a_done (by kernel_rfl) ?_
          refine za1 ?_
          refine c_ret ?_
          have e0_ := Option.some.inj h; clear h
          have d0_ := (Prod.mk.inj e0_).1; have e1_ := (Prod.mk.inj e0_).2; clear e0_; subst d0_
          have d1_ := (Prod.mk.inj e1_).1; have e2_ := (Prod.mk.inj e1_).2; clear e1_; subst d1_
          have d2_ := (Prod.mk.inj e2_).1; have e3_ := (Prod.mk.inj e2_).2; clear e2_; subst d2_
          subst e3_
          exact x_r2 (A2310, c2311, A2325, c2326) Try.results110 (rv_cell rfl G43 Z43 (fun w h => h.za9 (i := 2) rfl) rfl) (zae rfl) rfl (fun w h => za6 [1, 0] (by decide) rfl w h)
        · skip
          clear hl2334
          have hr2331 := hJ_.1; have hk2337 := hJ_.2.1; have h := hJ_.2.2; clear hJ_
          replace h : impl_RegCode_read.l2 l2308 (y2328 :: ys2329) l2324 i2327 = some o2335 := h
          rw [impl_RegCode_read.l2] at h
          refine c_seq ?_
          refine za0 ?_
          refine o_q rfl rfl (q_lss rfl rfl) ?_
          refine o_end ?_
          refine za1 ?_
          refine c_seq ?_
          refine c_true (congrArg Value.bool hr2331.lt) ?_
          refine zal ?_
          refine za1 ?_
          refine c_seq ?_
          refine zak ?_
          refine c_seq ?_
          refine za0 ?_
          refine zb0 (p := Sh A0_3 l0_3.length l0_3.length) (fun w h => f_sh (dk := (Kd.int .i64)) h (fun w h => R0_3.now Z h)) (fun hq2340 => ?_)
          refine o_q rfl rfl (q_ix Try.underlying22 Z3 rfl rfl hq2340 hr2331.get) ?_
          refine o_q rfl rfl (q_lde (off := 0) Y3 rfl rfl (fun w h => R0_3.now Z h) hr2331.get (fun _ _ h => h) rfl) ?_
          refine o_q rfl rfl (q_asg rfl) ?_
          refine o_end ?_
          refine za1 ?_
          refine c_seq ?_
          refine za7 h (fun o2348 hl2349 hR2350 => ?_) rfl
          clear h
          refine c_cutJ (σ := Bool) (fun b2347 => some b2347 = some o2348) [132, 133, 134, 135, 136, 137, 138, 139, 140, 141, 142] (fun b2347 => [(142, .bool b2347)]) (fun b2347 => [box g1 43 #[.int .i64 0, .slice none 0 0, .slice none 0 0], box g1144 43 #[.int .i64 (l0_1.length : Int), .slice A2310 l2309.length c2311, .slice A2325 l2324.length c2326], row kStep 117 (.slice A2310 l2309.length c2311) l2309, row (Kd.int .i64) 3 (.slice A2325 l2324.length c2326) l2324, box g1145 22 #[.slice A1147 l1146.length c1148], row (Kd.int .i64) 3 (.slice A1147 l1146.length c1148) l2308]) ?_ ?_
          · skip
            have h := hl2349; clear hl2349
            clear hR2350
            refine za0 ?_
            refine o_q rfl rfl (za2 rfl) ?_
            refine o_q rfl rfl (za2 rfl) ?_
            refine za7 h (fun b2354 hx2353 h => ?_) rfl
            refine o_e rfl (zab 0 Z Try.func134 N134 rfl rfl rfl (fun w P1 hF hB hS hT => impl_RegCode_read_1.calls y2328 g1145 A1147 c1148 l1146.length l2308 hB hF (hT 5 _ rfl).row (hT 5 _ rfl).cap (hT 4 _ rfl).box _ hx2353)) (fun _ => ?_)
            refine o_q rfl rfl (q_not rfl) ?_
            refine o_q rfl rfl (za2 rfl) ?_
            refine byB b2354 (fun hb2355 => ?_) (fun hb2355 => ?_)
            · replace h := bb_t hb2355 h
              refine o_w (za4 rfl rfl rfl (congrArg (fun b => Value.bool (!(b))) hb2355)) rfl (q_ldb Y22 rfl (fun w h => h.za9 (i := 4) rfl) rfl) ?_
              refine o_w (za4 rfl rfl rfl (congrArg (fun b => Value.bool (!(b))) hb2355)) rfl (za2 rfl) ?_
              refine zb0 (p := Sh A1147 l1146.length l2308.length) (fun w h => f_sh (dk := (Kd.int .i64)) h (fun w h => h.zav (i := 5) rfl)) (fun hq2356 => ?_)
              refine za7 h (fun y2358 hg2357 h => ?_) rfl
              refine o_w (za4 rfl rfl rfl (congrArg (fun b => Value.bool (!(b))) hb2355)) rfl (q_ix Try.underlying22 Z3 rfl rfl hq2356 hg2357) ?_
              refine o_w (za4 rfl rfl rfl (congrArg (fun b => Value.bool (!(b))) hb2355)) rfl (q_lde (off := 0) Y3 rfl rfl (fun w h => h.zav (i := 5) rfl) hg2357 (fun _ _ h => h) rfl) ?_
              refine o_w (za4 rfl rfl rfl (congrArg (fun b => Value.bool (!(b))) hb2355)) rfl (q_eql rfl rfl) ?_
              refine o_q rfl rfl (zao false (congrArg (fun b => Value.bool (!(b))) hb2355) rfl) ?_
              refine o_end ?_
              refine zaw (decide (y2358 = (-1))) h ⟨rfl, trivial⟩ (fun w h => za6 [2, 3, 1, 0, 4, 5] (by decide) rfl w h) ?_
              repeat (first | exact zad _ _ | refine zai rfl ?_ | refine zaf rfl ?_ | refine zaj rfl ?_)
            · replace h := bb_f hb2355 h
              refine @o_n _ _ _ _ _ _ _ _ _ _ _ 137 (za3 rfl rfl rfl (congrArg (fun b => Value.bool (!(b))) hb2355) rfl) (Eq.refl (some 137)) ?_
              refine @o_n _ _ _ _ _ _ _ _ _ _ _ 138 (za3 rfl rfl rfl (congrArg (fun b => Value.bool (!(b))) hb2355) rfl) (Eq.refl (some 138)) ?_
              refine @o_n _ _ _ _ _ _ _ _ _ _ _ 139 (za3 rfl rfl rfl (congrArg (fun b => Value.bool (!(b))) hb2355) rfl) (Eq.refl (some 139)) ?_
              refine @o_n _ _ _ _ _ _ _ _ _ _ _ 140 (za3 rfl rfl rfl (congrArg (fun b => Value.bool (!(b))) hb2355) rfl) (Eq.refl (some 140)) ?_
              refine @o_n _ _ _ _ _ _ _ _ _ _ _ 141 (za3 rfl rfl rfl (congrArg (fun b => Value.bool (!(b))) hb2355) rfl) (Eq.refl (some 141)) ?_
              refine o_q rfl rfl (zao true (congrArg (fun b => Value.bool (!(b))) hb2355) rfl) ?_
              refine o_end ?_
              refine zaw true h ⟨rfl, trivial⟩ (fun w h => za6 [2, 3, 1, 0, 4, 5] (by decide) rfl w h) ?_
              repeat (first | exact zad _ _ | refine zai rfl ?_ | refine zaf rfl ?_ | refine zaj rfl ?_)
          · skip
            refine (fun b2347 => fun U2351 hJ2352 => ?_)
            have e_ := Option.some.inj hJ2352; have h := hR2350; rw [← e_] at h; clear e_ hJ2352 hR2350 hl2349
            refine zaq _ rfl (fun hb2359 => ?_) (fun hb2359 => ?_)
            · skip
              replace h := bb_t hb2359 h
              refine c_seq ?_
              refine za0 ?_
              refine o_q rfl rfl (q_build (vs := []) (cs := [.int .i64 0, .slice none 0 0, .slice none 0 0]) rfl rfl) ?_
              refine o_e rfl (zam (i := 0) rfl rfl rfl Z43 rfl rfl) (fun _ => ?_)
              refine o_q rfl rfl (q_asg rfl) ?_
              refine o_end ?_
              refine za1 ?_
              refine c_ret ?_
              refine za5 ?_
              refine zah ?_
              refine za5 ?_
              refine za5 ?_
              have e_ := Option.some.inj h; replace h := hR2333; rw [← e_] at h; clear e_
              refine zah ?_
              refine za5 ?_
              refine x_nil kStep 117 ?_
              refine x_nil (Kd.int .i64) 3 ?_
              have e0_ := Option.some.inj h; clear h
              have d0_ := (Prod.mk.inj e0_).1; have e1_ := (Prod.mk.inj e0_).2; clear e0_; subst d0_
              have d1_ := (Prod.mk.inj e1_).1; have e2_ := (Prod.mk.inj e1_).2; clear e1_; subst d1_
              have d2_ := (Prod.mk.inj e2_).1; have e3_ := (Prod.mk.inj e2_).2; clear e2_; subst d2_
              subst e3_
              exact x_r2 (none, 0, none, 0) Try.results110 (rv_cell rfl G43 Z43 (fun w h => h.za9 (i := 2) rfl) rfl) (zae rfl) rfl (fun w h => za6 [1, 0] (by decide) rfl w h)
            · skip
              replace h := bb_f hb2359 h
              refine zal ?_
              refine za1 ?_
              refine za7 h (fun y2603 hg2602 h => ?_) rfl
              refine za7 h (fun l2781 ha2782 h => ?_) rfl
              refine a_startS (ds := []) [some 0, none, some 2, none, some 4, some 5] MO rfl ?_
              refine zac 0 rfl rfl rfl (by kernel_rfl) (fun _ _ _ h => h) (q_f F43_2 rfl) ?_
              refine zay 2 rfl rfl rfl (by kernel_rfl) (fun _ _ _ h => h) (fun w h => zaa [some 0, none, some 2, none, some 4, some 5] (by decide) w h rfl) (q_ldb Y22 rfl (fun w h => h.za9 (i := 4) rfl) rfl) ?_
              refine zac 3 rfl rfl rfl (by kernel_rfl) (fun _ _ _ h => h) (za2 rfl) ?_
              refine a_fact (p := Sh A1147 l1146.length l2308.length) (fun w h => f_sh (dk := (Kd.int .i64)) h (fun w h => h.zav (i := 5) rfl)) (fun hq2601 => ?_)
              refine zac 4 rfl rfl rfl (by kernel_rfl) (fun _ _ _ h => h) (q_ix Try.underlying22 Z3 rfl rfl hq2601 hg2602) ?_
              refine zay 5 rfl rfl rfl (by kernel_rfl) (fun _ _ _ h => h) (fun w h => zaa [some 0, none, some 2, none, some 4, some 5] (by decide) w h rfl) (q_lde (off := 0) Y3 rfl rfl (fun w h => h.zav (i := 5) rfl) hg2602 (fun _ _ h => h) rfl) ?_
              refine a_two 1 6 rfl rfl rfl rfl (by kernel_rfl) rfl rfl (ev_q rfl (q_ldb Y22 rfl (fun w h => h.za9 (i := 1) rfl) rfl)) (fun s w h => zaa [some 0, none, some 2, none, some 4, some 5] (by decide) w h rfl) (e_lit (vs := [(0, .int .i64 y2603)]) (cs := [.int .i64 y2603]) (Kd.int .i64) ([y2603] : List Int) Try.underlying22 I3 (by decide) rfl (by decide) rfl rfl (fun _ _ => Kd.zb1 _)) (fun s w h => zaa [some 1, none, some 3, none, some 5, some 6] (by decide) w h rfl) (fun _ => ?_) (cur2 (fun A2721 c2722 => ?_))
              · skip
                refine a_one 6 rfl rfl (by kernel_rfl) rfl (e_lit (vs := [(0, .int .i64 y2603)]) (cs := [.int .i64 y2603]) (Kd.int .i64) ([y2603] : List Int) Try.underlying22 I3 (by decide) rfl (by decide) rfl rfl (fun _ _ => Kd.zb1 _)) (fun s w h => zaa [some 1, none, some 3, none, some 5, some 6] (by decide) w h rfl) (cur2 (fun A2721 c2722 => ?_))
                refine a_one 7 rfl rfl (by kernel_rfl) rfl (e_app (i := 4) (j := 0) Try.underlying22 I3 rfl (by decide) (by decide) rfl rfl rfl rfl rfl ha2782) (fun s w h => zaa [some 1, none, some 3, none, some 5, some 6] (by decide) w h rfl) (cur2 (fun A2783 c2784 => ?_))
                refine zac 8 rfl rfl rfl (by kernel_rfl) (fun _ _ _ h => h) (q_f F43_2 rfl) ?_
                refine a_one 9 rfl rfl (by kernel_rfl) rfl (e_store (i := 2) rfl rfl rfl rfl Z22 rfl rfl) (fun s w h => zaa [some 1, none, some 3, none, some 5, some 6] (by decide) w h rfl) (fun _ => ?_)
                refine a_done (by kernel_rfl) ?_
                refine zau ?_
                refine za1 ?_
                refine za0 ?_
                refine o_q rfl rfl (q_up rfl rfl (hr2331.up hm2332)) ?_
                refine o_q rfl rfl (za2 rfl) ?_
                refine o_end ?_
                refine zas ys2329.length (ys2329, l2781, i2327 + 1, A2783, c2784) (by rw [← hk2337]; exact Nat.lt_succ_self _) ⟨hr2331.step, rfl, h⟩ ⟨rfl, trivial⟩ (fun w h => za6 [4, 3, 1, 2, 5, 6] (by decide) rfl w h) ?_
                repeat (first | exact zad _ _ | refine zai rfl ?_ | refine zaf rfl ?_ | refine zaj rfl ?_)
              · skip
                refine a_one 1 rfl rfl (by kernel_rfl) rfl (ev_q rfl (q_ldb Y22 rfl (fun w h => h.za9 (i := 2) rfl) rfl)) (fun s w h => zaa [some 1, none, some 3, none, some 5, some 6] (by decide) w h rfl) (fun _ => ?_)
                refine a_one 7 rfl rfl (by kernel_rfl) rfl (e_app (i := 4) (j := 0) Try.underlying22 I3 rfl (by decide) (by decide) rfl rfl rfl rfl rfl ha2782) (fun s w h => zaa [some 1, none, some 3, none, some 5, some 6] (by decide) w h rfl) (cur2 (fun A2783 c2784 => ?_))
                refine zac 8 rfl rfl rfl (by kernel_rfl) (fun _ _ _ h => h) (q_f F43_2 rfl) ?_
                refine a_one 9 rfl rfl (by kernel_rfl) rfl (e_store (i := 2) rfl rfl rfl rfl Z22 rfl rfl) (fun s w h => zaa [some 1, none, some 3, none, some 5, some 6] (by decide) w h rfl) (fun _ => ?_)
                refine a_done (by kernel_rfl) ?_
                refine zau ?_
                refine za1 ?_
                refine za0 ?_
                refine o_q rfl rfl (q_up rfl rfl (hr2331.up hm2332)) ?_
                refine o_q rfl rfl (za2 rfl) ?_
                refine o_end ?_
                refine zas ys2329.length (ys2329, l2781, i2327 + 1, A2783, c2784) (by rw [← hk2337]; exact Nat.lt_succ_self _) ⟨hr2331.step, rfl, h⟩ ⟨rfl, trivial⟩ (fun w h => za6 [4, 3, 1, 2, 5, 6] (by decide) rfl w h) ?_
                repeat (first | exact zad _ _ | refine zai rfl ?_ | refine zaf rfl ?_ | refine zaj rfl ?_)
      · skip
        clear hl2319
        have hr2316 := hJ_.1; have hk2322 := hJ_.2.1; have h := hJ_.2.2; clear hJ_
        replace h : impl_RegCode_read.l1 l0_1 (y2313 :: ys2314) l2308 l2309 i2312 = some o2320 := h
        rw [impl_RegCode_read.l1] at h
        refine c_seq ?_
        refine za0 ?_
        refine o_q rfl rfl (q_lss rfl rfl) ?_
        refine o_end ?_
        refine za1 ?_
        refine c_seq ?_
        refine c_true (congrArg Value.bool hr2316.lt) ?_
        refine zal ?_
        refine za1 ?_
        refine c_seq ?_
        refine zak ?_
        refine c_seq ?_
        refine za0 ?_
        refine zb0 (p := Sh A0_2 l0_2.length l0_2.length) (fun w h => f_sh (dk := zat) h (fun w h => R0_2.now Z h)) (fun hq3021 => ?_)
        refine o_q rfl rfl (q_ix Try.underlying27 Z56 rfl rfl hq3021 hr2316.get) ?_
        refine o_q rfl rfl (q_ldE G56 Z56 rfl rfl (fun w h => R0_2.now Z h) hr2316.get (fun _ _ h => h) rfl) ?_
        refine o_e rfl (zar V56 rfl) (fun g3022 => ?_)
        refine o_e rfl (zam (i := 0) rfl rfl rfl Z56 rfl rfl) (fun _ => ?_)
        refine o_end ?_
        refine za1 ?_
        refine c_seq ?_
        refine za7 h (fun o3040 hl3041 hR3042 => ?_) rfl
        clear h
        refine c_cutJ (σ := Bool) (fun b3039 => some b3039 = some o3040) [64, 65, 66, 67, 68, 69, 70, 71, 72, 73, 74, 75, 76, 77, 78, 79, 80, 81, 82, 83, 84, 85, 86, 87, 88, 89, 90, 91, 92, 93, 94, 95, 96, 97, 98] (fun b3039 => [(98, .bool b3039)]) (fun b3039 => [box g1 43 #[.int .i64 0, .slice none 0 0, .slice none 0 0], box g1144 43 #[.int .i64 (l0_1.length : Int), .slice A2310 l2309.length c2311, .slice none 0 0], row kStep 117 (.slice A2310 l2309.length c2311) l2309, box g1145 22 #[.slice A1147 l1146.length c1148], row (Kd.int .i64) 3 (.slice A1147 l1146.length c1148) l2308, box g3022 56 #[.int .i64 y2313.f0, .int .i64 y2313.f1, .int .i64 y2313.f2]]) ?_ ?_
        · skip
          have h := hl3041; clear hl3041
          clear hR3042
          refine za0 ?_
          refine o_q rfl rfl (za2 rfl) ?_
          refine o_q rfl rfl (q_f F56_0 rfl) ?_
          refine o_q rfl rfl (q_ldb Y3 rfl (fun w h => h.za9 (i := 0) rfl) rfl) ?_
          refine za7 h (fun b3046 hx3045 h => ?_) rfl
          refine o_e rfl (zab 0 Z Try.func134 N134 rfl rfl rfl (fun w P1 hF hB hS hT => impl_RegCode_read_1.calls y2313.f0 g1145 A1147 c1148 l1146.length l2308 hB hF (hT 5 _ rfl).row (hT 5 _ rfl).cap (hT 4 _ rfl).box _ hx3045)) (fun _ => ?_)
          refine o_q rfl rfl (q_not rfl) ?_
          refine o_q rfl rfl (za2 rfl) ?_
          refine byB b3046 (fun hb3047 => ?_) (fun hb3047 => ?_)
          · replace h := bb_t hb3047 h
            refine o_w (za4 rfl rfl rfl (congrArg (fun b => Value.bool (!(b))) hb3047)) rfl (za2 rfl) ?_
            refine o_w (za4 rfl rfl rfl (congrArg (fun b => Value.bool (!(b))) hb3047)) rfl (q_f F56_1 rfl) ?_
            refine o_w (za4 rfl rfl rfl (congrArg (fun b => Value.bool (!(b))) hb3047)) rfl (q_ldb Y3 rfl (fun w h => h.za9 (i := 0) rfl) rfl) ?_
            refine za7 h (fun b3049 hx3048 h => ?_) rfl
            refine o_ew (za4 rfl rfl rfl (congrArg (fun b => Value.bool (!(b))) hb3047)) (zab 0 Z Try.func134 N134 rfl rfl rfl (fun w P1 hF hB hS hT => impl_RegCode_read_1.calls y2313.f1 g1145 A1147 c1148 l1146.length l2308 hB hF (hT 5 _ rfl).row (hT 5 _ rfl).cap (hT 4 _ rfl).box _ hx3048)) (fun _ => ?_)
            refine o_w (za4 rfl rfl rfl (congrArg (fun b => Value.bool (!(b))) hb3047)) rfl (q_not rfl) ?_
            refine o_q rfl rfl (zao false (congrArg (fun b => Value.bool (!(b))) hb3047) rfl) ?_
            refine o_q rfl rfl (za2 rfl) ?_
            refine byB b3049 (fun hb3050 => ?_) (fun hb3050 => ?_)
            · replace h := bb_t hb3050 h
              refine o_w (za4 rfl rfl rfl (congrArg (fun b => Value.bool (!(b))) hb3050)) rfl (za2 rfl) ?_
              refine o_w (za4 rfl rfl rfl (congrArg (fun b => Value.bool (!(b))) hb3050)) rfl (q_f F56_2 rfl) ?_
              refine o_w (za4 rfl rfl rfl (congrArg (fun b => Value.bool (!(b))) hb3050)) rfl (q_ldb Y3 rfl (fun w h => h.za9 (i := 0) rfl) rfl) ?_
              refine za7 h (fun b3052 hx3051 h => ?_) rfl
              refine o_ew (za4 rfl rfl rfl (congrArg (fun b => Value.bool (!(b))) hb3050)) (zab 0 Z Try.func134 N134 rfl rfl rfl (fun w P1 hF hB hS hT => impl_RegCode_read_1.calls y2313.f2 g1145 A1147 c1148 l1146.length l2308 hB hF (hT 5 _ rfl).row (hT 5 _ rfl).cap (hT 4 _ rfl).box _ hx3051)) (fun _ => ?_)
              refine o_w (za4 rfl rfl rfl (congrArg (fun b => Value.bool (!(b))) hb3050)) rfl (q_not rfl) ?_
              refine o_q rfl rfl (zao false (congrArg (fun b => Value.bool (!(b))) hb3050) rfl) ?_
              refine o_q rfl rfl (za2 rfl) ?_
              refine byB b3052 (fun hb3053 => ?_) (fun hb3053 => ?_)
              · replace h := bb_t hb3053 h
                refine o_w (za4 rfl rfl rfl (congrArg (fun b => Value.bool (!(b))) hb3053)) rfl (q_ldb Y22 rfl (fun w h => h.za9 (i := 4) rfl) rfl) ?_
                refine o_w (za4 rfl rfl rfl (congrArg (fun b => Value.bool (!(b))) hb3053)) rfl (q_f F56_1 rfl) ?_
                refine o_w (za4 rfl rfl rfl (congrArg (fun b => Value.bool (!(b))) hb3053)) rfl (q_ldb Y3 rfl (fun w h => h.za9 (i := 0) rfl) rfl) ?_
                refine zb0 (p := Sh A1147 l1146.length l2308.length) (fun w h => f_sh (dk := (Kd.int .i64)) h (fun w h => h.zav (i := 5) rfl)) (fun hq3054 => ?_)
                refine za7 h (fun y3056 hg3055 h => ?_) rfl
                refine o_w (za4 rfl rfl rfl (congrArg (fun b => Value.bool (!(b))) hb3053)) rfl (q_ix Try.underlying22 Z3 rfl rfl hq3054 hg3055) ?_
                refine o_w (za4 rfl rfl rfl (congrArg (fun b => Value.bool (!(b))) hb3053)) rfl (q_lde (off := 0) Y3 rfl rfl (fun w h => h.zav (i := 5) rfl) hg3055 (fun _ _ h => h) rfl) ?_
                refine o_w (za4 rfl rfl rfl (congrArg (fun b => Value.bool (!(b))) hb3053)) rfl (q_eql rfl rfl) ?_
                refine o_q rfl rfl (zao false (congrArg (fun b => Value.bool (!(b))) hb3053) rfl) ?_
                refine o_q rfl rfl (za2 rfl) ?_
                refine byB (decide (y3056 = (-1))) (fun hb3057 => ?_) (fun hb3057 => ?_)
                · replace h := br_t hb3057 h
                  refine @o_n _ _ _ _ _ _ _ _ _ _ _ 92 (za3 rfl rfl rfl (congrArg Value.bool hb3057) rfl) (Eq.refl (some 92)) ?_
                  refine @o_n _ _ _ _ _ _ _ _ _ _ _ 93 (za3 rfl rfl rfl (congrArg Value.bool hb3057) rfl) (Eq.refl (some 93)) ?_
                  refine @o_n _ _ _ _ _ _ _ _ _ _ _ 94 (za3 rfl rfl rfl (congrArg Value.bool hb3057) rfl) (Eq.refl (some 94)) ?_
                  refine @o_n _ _ _ _ _ _ _ _ _ _ _ 95 (za3 rfl rfl rfl (congrArg Value.bool hb3057) rfl) (Eq.refl (some 95)) ?_
                  refine @o_n _ _ _ _ _ _ _ _ _ _ _ 96 (za3 rfl rfl rfl (congrArg Value.bool hb3057) rfl) (Eq.refl (some 96)) ?_
                  refine @o_n _ _ _ _ _ _ _ _ _ _ _ 97 (za3 rfl rfl rfl (congrArg Value.bool hb3057) rfl) (Eq.refl (some 97)) ?_
                  refine o_q rfl rfl (zao true (congrArg Value.bool hb3057) rfl) ?_
                  refine o_end ?_
                  refine zaw true h ⟨rfl, trivial⟩ (fun w h => za6 [2, 3, 1, 4, 5, 0] (by decide) rfl w h) ?_
                  repeat (first | exact zad _ _ | refine zai rfl ?_ | refine zaf rfl ?_ | refine zaj rfl ?_)
                · replace h := br_f hb3057 h
                  refine o_w (za4 rfl rfl rfl (congrArg Value.bool hb3057)) rfl (q_ldb Y22 rfl (fun w h => h.za9 (i := 4) rfl) rfl) ?_
                  refine o_w (za4 rfl rfl rfl (congrArg Value.bool hb3057)) rfl (q_f F56_2 rfl) ?_
                  refine o_w (za4 rfl rfl rfl (congrArg Value.bool hb3057)) rfl (q_ldb Y3 rfl (fun w h => h.za9 (i := 0) rfl) rfl) ?_
                  refine za7 h (fun y3059 hg3058 h => ?_) rfl
                  refine o_w (za4 rfl rfl rfl (congrArg Value.bool hb3057)) rfl (q_ix Try.underlying22 Z3 rfl rfl hq3054 hg3058) ?_
                  refine o_w (za4 rfl rfl rfl (congrArg Value.bool hb3057)) rfl (q_lde (off := 0) Y3 rfl rfl (fun w h => h.zav (i := 5) rfl) hg3058 (fun _ _ h => h) rfl) ?_
                  refine o_w (za4 rfl rfl rfl (congrArg Value.bool hb3057)) rfl (q_eql rfl rfl) ?_
                  refine o_q rfl rfl (zao false (congrArg Value.bool hb3057) rfl) ?_
                  refine o_end ?_
                  refine zaw (decide (y3059 = (-1))) h ⟨rfl, trivial⟩ (fun w h => za6 [2, 3, 1, 4, 5, 0] (by decide) rfl w h) ?_
                  repeat (first | exact zad _ _ | refine zai rfl ?_ | refine zaf rfl ?_ | refine zaj rfl ?_)
              · replace h := bb_f hb3053 h
                refine @o_n _ _ _ _ _ _ _ _ _ _ _ 84 (za3 rfl rfl rfl (congrArg (fun b => Value.bool (!(b))) hb3053) rfl) (Eq.refl (some 84)) ?_
                refine @o_n _ _ _ _ _ _ _ _ _ _ _ 85 (za3 rfl rfl rfl (congrArg (fun b => Value.bool (!(b))) hb3053) rfl) (Eq.refl (some 85)) ?_
                refine @o_n _ _ _ _ _ _ _ _ _ _ _ 86 (za3 rfl rfl rfl (congrArg (fun b => Value.bool (!(b))) hb3053) rfl) (Eq.refl (some 86)) ?_
                refine @o_n _ _ _ _ _ _ _ _ _ _ _ 87 (za3 rfl rfl rfl (congrArg (fun b => Value.bool (!(b))) hb3053) rfl) (Eq.refl (some 87)) ?_
                refine @o_n _ _ _ _ _ _ _ _ _ _ _ 88 (za3 rfl rfl rfl (congrArg (fun b => Value.bool (!(b))) hb3053) rfl) (Eq.refl (some 88)) ?_
                refine @o_n _ _ _ _ _ _ _ _ _ _ _ 89 (za3 rfl rfl rfl (congrArg (fun b => Value.bool (!(b))) hb3053) rfl) (Eq.refl (some 89)) ?_
                refine o_q rfl rfl (zao true (congrArg (fun b => Value.bool (!(b))) hb3053) rfl) ?_
                refine o_q rfl rfl (za2 rfl) ?_
                refine @o_n _ _ _ _ _ _ _ _ _ _ _ 92 (za3 rfl rfl rfl rfl rfl) (Eq.refl (some 92)) ?_
                refine @o_n _ _ _ _ _ _ _ _ _ _ _ 93 (za3 rfl rfl rfl rfl rfl) (Eq.refl (some 93)) ?_
                refine @o_n _ _ _ _ _ _ _ _ _ _ _ 94 (za3 rfl rfl rfl rfl rfl) (Eq.refl (some 94)) ?_
                refine @o_n _ _ _ _ _ _ _ _ _ _ _ 95 (za3 rfl rfl rfl rfl rfl) (Eq.refl (some 95)) ?_
                refine @o_n _ _ _ _ _ _ _ _ _ _ _ 96 (za3 rfl rfl rfl rfl rfl) (Eq.refl (some 96)) ?_
                refine @o_n _ _ _ _ _ _ _ _ _ _ _ 97 (za3 rfl rfl rfl rfl rfl) (Eq.refl (some 97)) ?_
                refine o_q rfl rfl (zao true rfl rfl) ?_
                refine o_end ?_
                refine zaw true h ⟨rfl, trivial⟩ (fun w h => za6 [2, 3, 1, 4, 5, 0] (by decide) rfl w h) ?_
                repeat (first | exact zad _ _ | refine zai rfl ?_ | refine zaf rfl ?_ | refine zaj rfl ?_)
            · replace h := bb_f hb3050 h
              refine @o_n _ _ _ _ _ _ _ _ _ _ _ 77 (za3 rfl rfl rfl (congrArg (fun b => Value.bool (!(b))) hb3050) rfl) (Eq.refl (some 77)) ?_
              refine @o_n _ _ _ _ _ _ _ _ _ _ _ 78 (za3 rfl rfl rfl (congrArg (fun b => Value.bool (!(b))) hb3050) rfl) (Eq.refl (some 78)) ?_
              refine @o_n _ _ _ _ _ _ _ _ _ _ _ 79 (za3 rfl rfl rfl (congrArg (fun b => Value.bool (!(b))) hb3050) rfl) (Eq.refl (some 79)) ?_
              refine @o_n _ _ _ _ _ _ _ _ _ _ _ 80 (za3 rfl rfl rfl (congrArg (fun b => Value.bool (!(b))) hb3050) rfl) (Eq.refl (some 80)) ?_
              refine @o_n _ _ _ _ _ _ _ _ _ _ _ 81 (za3 rfl rfl rfl (congrArg (fun b => Value.bool (!(b))) hb3050) rfl) (Eq.refl (some 81)) ?_
              refine o_q rfl rfl (zao true (congrArg (fun b => Value.bool (!(b))) hb3050) rfl) ?_
              refine o_q rfl rfl (za2 rfl) ?_
              refine @o_n _ _ _ _ _ _ _ _ _ _ _ 84 (za3 rfl rfl rfl rfl rfl) (Eq.refl (some 84)) ?_
              refine @o_n _ _ _ _ _ _ _ _ _ _ _ 85 (za3 rfl rfl rfl rfl rfl) (Eq.refl (some 85)) ?_
              refine @o_n _ _ _ _ _ _ _ _ _ _ _ 86 (za3 rfl rfl rfl rfl rfl) (Eq.refl (some 86)) ?_
              refine @o_n _ _ _ _ _ _ _ _ _ _ _ 87 (za3 rfl rfl rfl rfl rfl) (Eq.refl (some 87)) ?_
              refine @o_n _ _ _ _ _ _ _ _ _ _ _ 88 (za3 rfl rfl rfl rfl rfl) (Eq.refl (some 88)) ?_
              refine @o_n _ _ _ _ _ _ _ _ _ _ _ 89 (za3 rfl rfl rfl rfl rfl) (Eq.refl (some 89)) ?_
              refine o_q rfl rfl (zao true rfl rfl) ?_
              refine o_q rfl rfl (za2 rfl) ?_
              refine @o_n _ _ _ _ _ _ _ _ _ _ _ 92 (za3 rfl rfl rfl rfl rfl) (Eq.refl (some 92)) ?_
              refine @o_n _ _ _ _ _ _ _ _ _ _ _ 93 (za3 rfl rfl rfl rfl rfl) (Eq.refl (some 93)) ?_
              refine @o_n _ _ _ _ _ _ _ _ _ _ _ 94 (za3 rfl rfl rfl rfl rfl) (Eq.refl (some 94)) ?_
              refine @o_n _ _ _ _ _ _ _ _ _ _ _ 95 (za3 rfl rfl rfl rfl rfl) (Eq.refl (some 95)) ?_
              refine @o_n _ _ _ _ _ _ _ _ _ _ _ 96 (za3 rfl rfl rfl rfl rfl) (Eq.refl (some 96)) ?_
              refine @o_n _ _ _ _ _ _ _ _ _ _ _ 97 (za3 rfl rfl rfl rfl rfl) (Eq.refl (some 97)) ?_
              refine o_q rfl rfl (zao true rfl rfl) ?_
              refine o_end ?_
              refine zaw true h ⟨rfl, trivial⟩ (fun w h => za6 [2, 3, 1, 4, 5, 0] (by decide) rfl w h) ?_
              repeat (first | exact zad _ _ | refine zai rfl ?_ | refine zaf rfl ?_ | refine zaj rfl ?_)
          · replace h := bb_f hb3047 h
            refine @o_n _ _ _ _ _ _ _ _ _ _ _ 70 (za3 rfl rfl rfl (congrArg (fun b => Value.bool (!(b))) hb3047) rfl) (Eq.refl (some 70)) ?_
            refine @o_n _ _ _ _ _ _ _ _ _ _ _ 71 (za3 rfl rfl rfl (congrArg (fun b => Value.bool (!(b))) hb3047) rfl) (Eq.refl (some 71)) ?_
            refine @o_n _ _ _ _ _ _ _ _ _ _ _ 72 (za3 rfl rfl rfl (congrArg (fun b => Value.bool (!(b))) hb3047) rfl) (Eq.refl (some 72)) ?_
            refine @o_n _ _ _ _ _ _ _ _ _ _ _ 73 (za3 rfl rfl rfl (congrArg (fun b => Value.bool (!(b))) hb3047) rfl) (Eq.refl (some 73)) ?_
            refine @o_n _ _ _ _ _ _ _ _ _ _ _ 74 (za3 rfl rfl rfl (congrArg (fun b => Value.bool (!(b))) hb3047) rfl) (Eq.refl (some 74)) ?_
            refine o_q rfl rfl (zao true (congrArg (fun b => Value.bool (!(b))) hb3047) rfl) ?_
            refine o_q rfl rfl (za2 rfl) ?_
            refine @o_n _ _ _ _ _ _ _ _ _ _ _ 77 (za3 rfl rfl rfl rfl rfl) (Eq.refl (some 77)) ?_
            refine @o_n _ _ _ _ _ _ _ _ _ _ _ 78 (za3 rfl rfl rfl rfl rfl) (Eq.refl (some 78)) ?_
            refine @o_n _ _ _ _ _ _ _ _ _ _ _ 79 (za3 rfl rfl rfl rfl rfl) (Eq.refl (some 79)) ?_
            refine @o_n _ _ _ _ _ _ _ _ _ _ _ 80 (za3 rfl rfl rfl rfl rfl) (Eq.refl (some 80)) ?_
            refine @o_n _ _ _ _ _ _ _ _ _ _ _ 81 (za3 rfl rfl rfl rfl rfl) (Eq.refl (some 81)) ?_
            refine o_q rfl rfl (zao true rfl rfl) ?_
            refine o_q rfl rfl (za2 rfl) ?_
            refine @o_n _ _ _ _ _ _ _ _ _ _ _ 84 (za3 rfl rfl rfl rfl rfl) (Eq.refl (some 84)) ?_
            refine @o_n _ _ _ _ _ _ _ _ _ _ _ 85 (za3 rfl rfl rfl rfl rfl) (Eq.refl (some 85)) ?_
            refine @o_n _ _ _ _ _ _ _ _ _ _ _ 86 (za3 rfl rfl rfl rfl rfl) (Eq.refl (some 86)) ?_
            refine @o_n _ _ _ _ _ _ _ _ _ _ _ 87 (za3 rfl rfl rfl rfl rfl) (Eq.refl (some 87)) ?_
            refine @o_n _ _ _ _ _ _ _ _ _ _ _ 88 (za3 rfl rfl rfl rfl rfl) (Eq.refl (some 88)) ?_
            refine @o_n _ _ _ _ _ _ _ _ _ _ _ 89 (za3 rfl rfl rfl rfl rfl) (Eq.refl (some 89)) ?_
            refine o_q rfl rfl (zao true rfl rfl) ?_
            refine o_q rfl rfl (za2 rfl) ?_
            refine @o_n _ _ _ _ _ _ _ _ _ _ _ 92 (za3 rfl rfl rfl rfl rfl) (Eq.refl (some 92)) ?_
            refine @o_n _ _ _ _ _ _ _ _ _ _ _ 93 (za3 rfl rfl rfl rfl rfl) (Eq.refl (some 93)) ?_
            refine @o_n _ _ _ _ _ _ _ _ _ _ _ 94 (za3 rfl rfl rfl rfl rfl) (Eq.refl (some 94)) ?_
            refine @o_n _ _ _ _ _ _ _ _ _ _ _ 95 (za3 rfl rfl rfl rfl rfl) (Eq.refl (some 95)) ?_
            refine @o_n _ _ _ _ _ _ _ _ _ _ _ 96 (za3 rfl rfl rfl rfl rfl) (Eq.refl (some 96)) ?_
            refine @o_n _ _ _ _ _ _ _ _ _ _ _ 97 (za3 rfl rfl rfl rfl rfl) (Eq.refl (some 97)) ?_
            refine o_q rfl rfl (zao true rfl rfl) ?_
            refine o_end ?_
            refine zaw true h ⟨rfl, trivial⟩ (fun w h => za6 [2, 3, 1, 4, 5, 0] (by decide) rfl w h) ?_
            repeat (first | exact zad _ _ | refine zai rfl ?_ | refine zaf rfl ?_ | refine zaj rfl ?_)
        · skip
          refine (fun b3039 => fun U3043 hJ3044 => ?_)
          have e_ := Option.some.inj hJ3044; have h := hR3042; rw [← e_] at h; clear e_ hJ3044 hR3042 hl3041
          refine zaq _ rfl (fun hb3060 => ?_) (fun hb3060 => ?_)
          · skip
            replace h := bb_t hb3060 h
            refine c_seq ?_
            refine za0 ?_
            refine o_q rfl rfl (q_build (vs := []) (cs := [.int .i64 0, .slice none 0 0, .slice none 0 0]) rfl rfl) ?_
            refine o_e rfl (zam (i := 0) rfl rfl rfl Z43 rfl rfl) (fun _ => ?_)
            refine o_q rfl rfl (q_asg rfl) ?_
            refine o_end ?_
            refine za1 ?_
            refine c_ret ?_
            refine za5 ?_
            refine zah ?_
            refine za5 ?_
            refine za5 ?_
            have e_ := Option.some.inj h; replace h := hR2318; rw [← e_] at h; clear e_
            refine zah ?_
            refine za5 ?_
            refine x_nil kStep 117 ?_
            refine x_nil (Kd.int .i64) 3 ?_
            have e0_ := Option.some.inj h; clear h
            have d0_ := (Prod.mk.inj e0_).1; have e1_ := (Prod.mk.inj e0_).2; clear e0_; subst d0_
            have d1_ := (Prod.mk.inj e1_).1; have e2_ := (Prod.mk.inj e1_).2; clear e1_; subst d1_
            have d2_ := (Prod.mk.inj e2_).1; have e3_ := (Prod.mk.inj e2_).2; clear e2_; subst d2_
            subst e3_
            exact x_r2 (none, 0, none, 0) Try.results110 (rv_cell rfl G43 Z43 (fun w h => h.za9 (i := 2) rfl) rfl) (zae rfl) rfl (fun w h => za6 [1, 0] (by decide) rfl w h)
          · skip
            replace h := bb_f hb3060 h
            refine zal ?_
            refine za1 ?_
            refine za7 h (fun o4145 hl4146 hR4147 => ?_) rfl
            clear h
            refine c_cutJ (σ := (List SStep) × (Option Addr) × Nat) (fun (l4142, A4143, c4144) => some l4142 = some o4145) [100, 101, 102, 103, 104, 105, 106, 107, 108, 109, 110, 111, 112, 113, 114, 115] (fun (l4142, A4143, c4144) => []) (fun (l4142, A4143, c4144) => [box g1 43 #[.int .i64 0, .slice none 0 0, .slice none 0 0], box g1144 43 #[.int .i64 (l0_1.length : Int), .slice A4143 l4142.length c4144, .slice none 0 0], row kStep 117 (.slice A4143 l4142.length c4144) l4142, box g1145 22 #[.slice A1147 l1146.length c1148], row (Kd.int .i64) 3 (.slice A1147 l1146.length c1148) l2308, box g3022 56 #[.int .i64 y2313.f0, .int .i64 y2313.f1, .int .i64 y2313.f2]]) ?_ ?_
            · skip
              have h := hl4146; clear hl4146
              clear hR4147
              refine za7 h (fun y4453 hg4452 h => ?_) rfl
              refine za7 h (fun y4752 hg4751 h => ?_) rfl
              refine za7 h (fun _ hx4871 h => ?_) rfl
              refine za7 h (fun l4991 ha4992 h => ?_) rfl
              refine a_startS (ds := []) [some 0, none, none, some 3, some 4, some 5] MO rfl ?_
              refine zac 0 rfl rfl rfl (by kernel_rfl) (fun _ _ _ h => h) (q_f F43_1 rfl) ?_
              refine zay 2 rfl rfl rfl (by kernel_rfl) (fun _ _ _ h => h) (fun w h => zaa [some 0, none, none, some 3, some 4, some 5] (by decide) w h rfl) (q_ldb Y22 rfl (fun w h => h.za9 (i := 3) rfl) rfl) ?_
              refine zac 3 rfl rfl rfl (by kernel_rfl) (fun _ _ _ h => h) (q_f F56_1 rfl) ?_
              refine zay 4 rfl rfl rfl (by kernel_rfl) (fun _ _ _ h => h) (fun w h => zaa [some 0, none, none, some 3, some 4, some 5] (by decide) w h rfl) (q_ldb Y3 rfl (fun w h => h.za9 (i := 5) rfl) rfl) ?_
              refine a_fact (p := Sh A1147 l1146.length l2308.length) (fun w h => f_sh (dk := (Kd.int .i64)) h (fun w h => h.zav (i := 4) rfl)) (fun hq4451 => ?_)
              refine zac 5 rfl rfl rfl (by kernel_rfl) (fun _ _ _ h => h) (q_ix Try.underlying22 Z3 rfl rfl hq4451 hg4452) ?_
              refine zay 6 rfl rfl rfl (by kernel_rfl) (fun _ _ _ h => h) (fun w h => zaa [some 0, none, none, some 3, some 4, some 5] (by decide) w h rfl) (q_lde (off := 0) Y3 rfl rfl (fun w h => h.zav (i := 4) rfl) hg4452 (fun _ _ h => h) rfl) ?_
              refine zay 7 rfl rfl rfl (by kernel_rfl) (fun _ _ _ h => h) (fun w h => zaa [some 0, none, none, some 3, some 4, some 5] (by decide) w h rfl) (q_ldb Y22 rfl (fun w h => h.za9 (i := 3) rfl) rfl) ?_
              refine zac 8 rfl rfl rfl (by kernel_rfl) (fun _ _ _ h => h) (q_f F56_2 rfl) ?_
              refine zay 9 rfl rfl rfl (by kernel_rfl) (fun _ _ _ h => h) (fun w h => zaa [some 0, none, none, some 3, some 4, some 5] (by decide) w h rfl) (q_ldb Y3 rfl (fun w h => h.za9 (i := 5) rfl) rfl) ?_
              refine zac 10 rfl rfl rfl (by kernel_rfl) (fun _ _ _ h => h) (q_ix Try.underlying22 Z3 rfl rfl hq4451 hg4751) ?_
              refine zay 11 rfl rfl rfl (by kernel_rfl) (fun _ _ _ h => h) (fun w h => zaa [some 0, none, none, some 3, some 4, some 5] (by decide) w h rfl) (q_lde (off := 0) Y3 rfl rfl (fun w h => h.zav (i := 4) rfl) hg4751 (fun _ _ h => h) rfl) ?_
              refine a_two 1 12 rfl rfl rfl rfl (by kernel_rfl) rfl rfl (ev_q rfl (q_ldb Y41 rfl (fun w h => h.za9 (i := 1) rfl) rfl)) (fun s w h => zaa [some 0, none, none, some 3, some 4, some 5] (by decide) w h rfl) (zab 0 Z Try.func94 N94 rfl rfl rfl (fun w P1 hF hB hS hT => impl_step.calls y4453 y4752 hB hF hx4871)) (fun s w h => zaa [some 0, none, none, some 3, some 4, some 5] (by decide) w h rfl) (fun _ => ?_) (fun _ => ?_)
              · skip
                refine a_one 12 rfl rfl (by kernel_rfl) rfl (zab 0 Z Try.func94 N94 rfl rfl rfl (fun w P1 hF hB hS hT => impl_step.calls y4453 y4752 hB hF hx4871)) (fun s w h => zaa [some 0, none, none, some 3, some 4, some 5] (by decide) w h rfl) (fun _ => ?_)
                refine a_one 13 rfl rfl (by kernel_rfl) rfl (e_lit (vs := [(0, .agg #[.int .i64 (mn y4453 y4752), .int .i64 (mx y4453 y4752)])]) (cs := [.int .i64 (mn y4453 y4752), .int .i64 (mx y4453 y4752)]) kStep ([(⟨mn y4453 y4752, mx y4453 y4752⟩ : SStep)] : List SStep) Try.underlying41 I117 (by decide) rfl (by decide) rfl rfl (fun _ _ => reps_flat _)) (fun s w h => zaa [some 1, none, none, some 4, some 5, some 6] (by decide) w h rfl) (cur2 (fun A4931 c4932 => ?_))
                refine a_one 14 rfl rfl (by kernel_rfl) rfl (e_app (i := 3) (j := 0) Try.underlying41 I117 rfl (by decide) (by decide) rfl rfl rfl rfl rfl ha4992) (fun s w h => zaa [some 1, none, none, some 4, some 5, some 6] (by decide) w h rfl) (cur2 (fun A4993 c4994 => ?_))
                refine zac 15 rfl rfl rfl (by kernel_rfl) (fun _ _ _ h => h) (q_f F43_1 rfl) ?_
                refine a_one 16 rfl rfl (by kernel_rfl) rfl (e_store (i := 2) rfl rfl rfl rfl Z41 rfl rfl) (fun s w h => zaa [some 1, none, none, some 4, some 5, some 6] (by decide) w h rfl) (fun _ => ?_)
                refine a_done (by kernel_rfl) ?_
                refine zaw (l4991, A4993, c4994) h trivial (fun w h => za6 [1, 2, 3, 4, 5, 6] (by decide) rfl w h) ?_
                repeat (first | exact zad _ _ | refine zai rfl ?_ | refine zaf rfl ?_ | refine zaj rfl ?_)
              · skip
                refine a_two 1 13 rfl rfl rfl rfl (by kernel_rfl) rfl rfl (ev_q rfl (q_ldb Y41 rfl (fun w h => h.za9 (i := 1) rfl) rfl)) (fun s w h => zaa [some 0, none, none, some 3, some 4, some 5] (by decide) w h rfl) (e_lit (vs := [(0, .agg #[.int .i64 (mn y4453 y4752), .int .i64 (mx y4453 y4752)])]) (cs := [.int .i64 (mn y4453 y4752), .int .i64 (mx y4453 y4752)]) kStep ([(⟨mn y4453 y4752, mx y4453 y4752⟩ : SStep)] : List SStep) Try.underlying41 I117 (by decide) rfl (by decide) rfl rfl (fun _ _ => reps_flat _)) (fun s w h => zaa [some 1, none, none, some 4, some 5, some 6] (by decide) w h rfl) (fun _ => ?_) (cur2 (fun A4931 c4932 => ?_))
                · skip
                  refine a_one 13 rfl rfl (by kernel_rfl) rfl (e_lit (vs := [(0, .agg #[.int .i64 (mn y4453 y4752), .int .i64 (mx y4453 y4752)])]) (cs := [.int .i64 (mn y4453 y4752), .int .i64 (mx y4453 y4752)]) kStep ([(⟨mn y4453 y4752, mx y4453 y4752⟩ : SStep)] : List SStep) Try.underlying41 I117 (by decide) rfl (by decide) rfl rfl (fun _ _ => reps_flat _)) (fun s w h => zaa [some 1, none, none, some 4, some 5, some 6] (by decide) w h rfl) (cur2 (fun A4931 c4932 => ?_))
                  refine a_one 14 rfl rfl (by kernel_rfl) rfl (e_app (i := 3) (j := 0) Try.underlying41 I117 rfl (by decide) (by decide) rfl rfl rfl rfl rfl ha4992) (fun s w h => zaa [some 1, none, none, some 4, some 5, some 6] (by decide) w h rfl) (cur2 (fun A4993 c4994 => ?_))
                  refine zac 15 rfl rfl rfl (by kernel_rfl) (fun _ _ _ h => h) (q_f F43_1 rfl) ?_
                  refine a_one 16 rfl rfl (by kernel_rfl) rfl (e_store (i := 2) rfl rfl rfl rfl Z41 rfl rfl) (fun s w h => zaa [some 1, none, none, some 4, some 5, some 6] (by decide) w h rfl) (fun _ => ?_)
                  refine a_done (by kernel_rfl) ?_
                  refine zaw (l4991, A4993, c4994) h trivial (fun w h => za6 [1, 2, 3, 4, 5, 6] (by decide) rfl w h) ?_
                  repeat (first | exact zad _ _ | refine zai rfl ?_ | refine zaf rfl ?_ | refine zaj rfl ?_)
                · skip
                  refine a_one 1 rfl rfl (by kernel_rfl) rfl (ev_q rfl (q_ldb Y41 rfl (fun w h => h.za9 (i := 2) rfl) rfl)) (fun s w h => zaa [some 1, none, none, some 4, some 5, some 6] (by decide) w h rfl) (fun _ => ?_)
                  refine a_one 14 rfl rfl (by kernel_rfl) rfl (e_app (i := 3) (j := 0) Try.underlying41 I117 rfl (by decide) (by decide) rfl rfl rfl rfl rfl ha4992) (fun s w h => zaa [some 1, none, none, some 4, some 5, some 6] (by decide) w h rfl) (cur2 (fun A4993 c4994 => ?_))
                  refine zac 15 rfl rfl rfl (by kernel_rfl) (fun _ _ _ h => h) (q_f F43_1 rfl) ?_
                  refine a_one 16 rfl rfl (by kernel_rfl) rfl (e_store (i := 2) rfl rfl rfl rfl Z41 rfl rfl) (fun s w h => zaa [some 1, none, none, some 4, some 5, some 6] (by decide) w h rfl) (fun _ => ?_)
                  refine a_done (by kernel_rfl) ?_
                  refine zaw (l4991, A4993, c4994) h trivial (fun w h => za6 [1, 2, 3, 4, 5, 6] (by decide) rfl w h) ?_
                  repeat (first | exact zad _ _ | refine zai rfl ?_ | refine zaf rfl ?_ | refine zaj rfl ?_)
            · skip
              refine (cur3 (fun l4142 A4143 c4144 => fun U4148 hJ4149 => ?_))
              have e_ := Option.some.inj hJ4149; have h := hR4147; rw [← e_] at h; clear e_ hJ4149 hR4147 hl4146
              refine a_startS (ds := []) [some 0, some 1, some 2, some 3, none, some 5] MO rfl ?_
              refine zay 0 rfl rfl rfl (by kernel_rfl) (fun _ _ _ h => h) (fun w h => zaa [some 0, some 1, some 2, some 3, none, some 5] (by decide) w h rfl) (q_ldb Y22 rfl (fun w h => h.za9 (i := 3) rfl) rfl) ?_
              refine zac 1 rfl rfl rfl (by kernel_rfl) (fun _ _ _ h => h) (q_f F56_0 rfl) ?_
              refine zay 2 rfl rfl rfl (by kernel_rfl) (fun _ _ _ h => h) (fun w h => zaa [some 0, some 1, some 2, some 3, none, some 5] (by decide) w h rfl) (q_ldb Y3 rfl (fun w h => h.za9 (i := 5) rfl) rfl) ?_
              refine za7 h (fun _ hx5231 h => ?_) rfl
              refine a_one 3 rfl rfl (by kernel_rfl) rfl (zab 0 Z Try.func95 N95 rfl rfl rfl (fun w P1 hF hB hS hT => impl_Plan_many.calls g1144 (l0_1.length : Int) A4143 c4144 l4142.length l4142 none 0 0 [] hB hF (hT 2 _ rfl).row (hT 2 _ rfl).cap (stab_nil _) (Nat.le_refl 0) (hT 1 _ rfl).box hx5231)) (fun s w h => zaa [some 0, some 1, some 2, some 3, none, some 5] (by decide) w h rfl) (fun _ => ?_)
              refine zac 4 rfl rfl rfl (by kernel_rfl) (fun _ _ _ h => h) (q_sub64 rfl rfl) ?_
              refine a_fact (p := Sh A1147 l1146.length l2308.length) (fun w h => f_sh (dk := (Kd.int .i64)) h (fun w h => h.zav (i := 4) rfl)) (fun hq5232 => ?_)
              refine za7 h (fun y5234 hg5233 h => ?_) rfl
              refine zac 5 rfl rfl rfl (by kernel_rfl) (fun _ _ _ h => h) (q_ix Try.underlying22 Z3 rfl rfl hq5232 hg5233) ?_
              refine za7 h (fun l5235 hs5236 h => ?_) rfl
              refine a_one 6 rfl rfl (by kernel_rfl) rfl (e_set (i := 4) rfl rfl rfl Z3 hs5236) (fun s w h => zaa [some 0, some 1, some 2, some 3, none, some 5] (by decide) w h rfl) (fun _ => ?_)
              refine a_done (by kernel_rfl) ?_
              refine zau ?_
              refine za1 ?_
              refine za0 ?_
              refine o_q rfl rfl (q_up rfl rfl (hr2316.up hm2317)) ?_
              refine o_q rfl rfl (za2 rfl) ?_
              refine o_end ?_
              refine zas ys2314.length (ys2314, l5235, l4142, i2312 + 1, A4143, c4144) (by rw [← hk2322]; exact Nat.lt_succ_self _) ⟨hr2316.step, rfl, h⟩ ⟨rfl, trivial⟩ (fun w h => za6 [2, 0, 1, 3, 4] (by decide) rfl w h) ?_
              repeat (first | exact zad _ _ | refine zai rfl ?_ | refine zaf rfl ?_ | refine zaj rfl ?_)
    · skip
      clear hl2303
      have hr2300 := hJ_.1; have hk2306 := hJ_.2.1; have h := hJ_.2.2; clear hJ_
      replace h : impl_RegCode_read.l0 (y2297 :: ys2298) l2295 i2296 = some o2304 := h
      rw [impl_RegCode_read.l0] at h
      refine c_seq ?_
      refine za0 ?_
      refine o_q rfl rfl (q_lss rfl rfl) ?_
      refine o_end ?_
      refine za1 ?_
      refine c_seq ?_
      refine c_true (congrArg Value.bool hr2300.lt) ?_
      refine zal ?_
      refine za1 ?_
      refine c_seq ?_
      refine zak ?_
      refine c_seq ?_
      refine za0 ?_
      refine o_q rfl rfl (za2 rfl) ?_
      refine zb0 (p := Sh A0_1 l0_1.length l0_1.length) (fun w h => f_sh (dk := (Kd.int .i64)) h (fun w h => R0_1.now Z h)) (fun hq5237 => ?_)
      refine o_q rfl rfl (q_ix Try.underlying22 Z3 rfl rfl hq5237 hr2300.get) ?_
      refine o_q rfl rfl (q_lde (off := 0) Y3 rfl rfl (fun w h => R0_1.now Z h) hr2300.get (fun _ _ h => h) rfl) ?_
      refine o_q rfl rfl (q_asg rfl) ?_
      refine o_q rfl rfl (q_asg rfl) ?_
      refine o_end ?_
      refine za1 ?_
      refine c_seq ?_
      refine za7 h (fun o5245 hl5246 hR5247 => ?_) rfl
      clear h
      refine c_cutJ (σ := Bool) (fun b5244 => some b5244 = some o5245) [38, 39, 40, 41, 42, 43, 44, 45, 46, 47, 48] (fun b5244 => [(48, .bool b5244)]) (fun b5244 => [box g1 43 #[.int .i64 0, .slice none 0 0, .slice none 0 0], box g1144 43 #[.int .i64 (l0_1.length : Int), .slice none 0 0, .slice none 0 0], box g1145 22 #[.slice A1147 l1146.length c1148], row (Kd.int .i64) 3 (.slice A1147 l1146.length c1148) l2295]) ?_ ?_
      · skip
        have h := hl5246; clear hl5246
        clear hR5247
        refine za0 ?_
        refine o_q rfl rfl (za2 rfl) ?_
        refine o_q rfl rfl (za2 rfl) ?_
        refine za7 h (fun b5251 hx5250 h => ?_) rfl
        refine o_e rfl (zab 0 Z Try.func134 N134 rfl rfl rfl (fun w P1 hF hB hS hT => impl_RegCode_read_1.calls y2297 g1145 A1147 c1148 l1146.length l2295 hB hF (hT 3 _ rfl).row (hT 3 _ rfl).cap (hT 2 _ rfl).box _ hx5250)) (fun _ => ?_)
        refine o_q rfl rfl (q_not rfl) ?_
        refine o_q rfl rfl (za2 rfl) ?_
        refine byB b5251 (fun hb5252 => ?_) (fun hb5252 => ?_)
        · replace h := bb_t hb5252 h
          refine o_w (za4 rfl rfl rfl (congrArg (fun b => Value.bool (!(b))) hb5252)) rfl (q_ldb Y22 rfl (fun w h => h.za9 (i := 2) rfl) rfl) ?_
          refine o_w (za4 rfl rfl rfl (congrArg (fun b => Value.bool (!(b))) hb5252)) rfl (za2 rfl) ?_
          refine zb0 (p := Sh A1147 l1146.length l2295.length) (fun w h => f_sh (dk := (Kd.int .i64)) h (fun w h => h.zav (i := 3) rfl)) (fun hq5253 => ?_)
          refine za7 h (fun y5255 hg5254 h => ?_) rfl
          refine o_w (za4 rfl rfl rfl (congrArg (fun b => Value.bool (!(b))) hb5252)) rfl (q_ix Try.underlying22 Z3 rfl rfl hq5253 hg5254) ?_
          refine o_w (za4 rfl rfl rfl (congrArg (fun b => Value.bool (!(b))) hb5252)) rfl (q_lde (off := 0) Y3 rfl rfl (fun w h => h.zav (i := 3) rfl) hg5254 (fun _ _ h => h) rfl) ?_
          refine o_w (za4 rfl rfl rfl (congrArg (fun b => Value.bool (!(b))) hb5252)) rfl (q_neq rfl rfl) ?_
          refine o_q rfl rfl (zao false (congrArg (fun b => Value.bool (!(b))) hb5252) rfl) ?_
          refine o_end ?_
          refine zaw (decide (y5255 ≠ (-1))) h ⟨rfl, trivial⟩ (fun w h => za6 [0, 1, 2, 3] (by decide) rfl w h) ?_
          repeat (first | exact zad _ _ | refine zai rfl ?_ | refine zaf rfl ?_ | refine zaj rfl ?_)
        · replace h := bb_f hb5252 h
          refine @o_n _ _ _ _ _ _ _ _ _ _ _ 43 (za3 rfl rfl rfl (congrArg (fun b => Value.bool (!(b))) hb5252) rfl) (Eq.refl (some 43)) ?_
          refine @o_n _ _ _ _ _ _ _ _ _ _ _ 44 (za3 rfl rfl rfl (congrArg (fun b => Value.bool (!(b))) hb5252) rfl) (Eq.refl (some 44)) ?_
          refine @o_n _ _ _ _ _ _ _ _ _ _ _ 45 (za3 rfl rfl rfl (congrArg (fun b => Value.bool (!(b))) hb5252) rfl) (Eq.refl (some 45)) ?_
          refine @o_n _ _ _ _ _ _ _ _ _ _ _ 46 (za3 rfl rfl rfl (congrArg (fun b => Value.bool (!(b))) hb5252) rfl) (Eq.refl (some 46)) ?_
          refine @o_n _ _ _ _ _ _ _ _ _ _ _ 47 (za3 rfl rfl rfl (congrArg (fun b => Value.bool (!(b))) hb5252) rfl) (Eq.refl (some 47)) ?_
          refine o_q rfl rfl (zao true (congrArg (fun b => Value.bool (!(b))) hb5252) rfl) ?_
          refine o_end ?_
          refine zaw true h ⟨rfl, trivial⟩ (fun w h => za6 [0, 1, 2, 3] (by decide) rfl w h) ?_
          repeat (first | exact zad _ _ | refine zai rfl ?_ | refine zaf rfl ?_ | refine zaj rfl ?_)
      · skip
        refine (fun b5244 => fun U5248 hJ5249 => ?_)
        have e_ := Option.some.inj hJ5249; have h := hR5247; rw [← e_] at h; clear e_ hJ5249 hR5247 hl5246
        refine zaq _ rfl (fun hb5256 => ?_) (fun hb5256 => ?_)
        · skip
          replace h := bb_t hb5256 h
          refine c_seq ?_
          refine za0 ?_
          refine o_q rfl rfl (q_build (vs := []) (cs := [.int .i64 0, .slice none 0 0, .slice none 0 0]) rfl rfl) ?_
          refine o_e rfl (zam (i := 0) rfl rfl rfl Z43 rfl rfl) (fun _ => ?_)
          refine o_q rfl rfl (q_asg rfl) ?_
          refine o_end ?_
          refine za1 ?_
          refine c_ret ?_
          refine za5 ?_
          refine zah ?_
          refine za5 ?_
          refine za5 ?_
          have e_ := Option.some.inj h; replace h := hR2302; rw [← e_] at h; clear e_
          refine zah ?_
          refine za5 ?_
          refine x_nil kStep 117 ?_
          refine x_nil (Kd.int .i64) 3 ?_
          have e0_ := Option.some.inj h; clear h
          have d0_ := (Prod.mk.inj e0_).1; have e1_ := (Prod.mk.inj e0_).2; clear e0_; subst d0_
          have d1_ := (Prod.mk.inj e1_).1; have e2_ := (Prod.mk.inj e1_).2; clear e1_; subst d1_
          have d2_ := (Prod.mk.inj e2_).1; have e3_ := (Prod.mk.inj e2_).2; clear e2_; subst d2_
          subst e3_
          exact x_r2 (none, 0, none, 0) Try.results110 (rv_cell rfl G43 Z43 (fun w h => h.za9 (i := 2) rfl) rfl) (zae rfl) rfl (fun w h => za6 [1, 0] (by decide) rfl w h)
        · skip
          replace h := bb_f hb5256 h
          refine zal ?_
          refine za1 ?_
          refine za0 ?_
          refine o_q rfl rfl (q_ldb Y22 rfl (fun w h => h.za9 (i := 2) rfl) rfl) ?_
          refine o_q rfl rfl (za2 rfl) ?_
          refine o_q rfl rfl (za2 rfl) ?_
          refine zb0 (p := Sh A1147 l1146.length l2295.length) (fun w h => f_sh (dk := (Kd.int .i64)) h (fun w h => h.zav (i := 3) rfl)) (fun hq5257 => ?_)
          refine za7 h (fun y5259 hg5258 h => ?_) rfl
          refine o_q rfl rfl (q_ix Try.underlying22 Z3 rfl rfl hq5257 hg5258) ?_
          refine za7 h (fun l5260 hs5261 h => ?_) rfl
          refine o_e rfl (e_set (i := 3) rfl rfl rfl Z3 hs5261) (fun _ => ?_)
          refine o_end ?_
          refine zau ?_
          refine za1 ?_
          refine za0 ?_
          refine o_q rfl rfl (q_up rfl rfl (hr2300.up hm2301)) ?_
          refine o_q rfl rfl (za2 rfl) ?_
          refine o_end ?_
          refine zas ys2298.length (ys2298, l5260, i2296 + 1) (by rw [← hk2306]; exact Nat.lt_succ_self _) ⟨hr2300.step, rfl, h⟩ ⟨rfl, trivial⟩ (fun w h => za6 [0, 1, 2, 3] (by decide) rfl w h) ?_
          repeat (first | exact zad _ _ | refine zai rfl ?_ | refine zaf rfl ?_ | refine zaj rfl ?_)

end Go.Proofs.Ytjioedcbcdppeaa.RS
