import Derived.Test.YtiaohjciddbpoaaKFnWindowsMakePlansH3p3
namespace Go.Proofs.Ytiaohjciddbpoaa.H3
open Go.RowKit Go.Proofs.Ytiaohjciddbpoaa.Frame Go.Proofs.YtiaohjciddbpoaaW.PrintLast Go.Proofs.Ytiaohjciddbpoaa.Hand
open Go.Proofs.YtiaohjciddbpoaaW.PrintWords hiding mn mx
set_option linter.unusedVariables false
/-! ### loop.example/g01098/spec.plIf: function 51 -/
def spec_plIf.f (k : Nat) (a0_0 : Int) (l0_1 : List SStep) (l0_2 : List Int) : Option (Int × (List SStep) × (List Int) × Bool) := (spec_plGood.f k a0_0 l0_1 l0_2).bind fun b6 => if b6 = true then (some (a0_0, l0_1, l0_2, true)) else (some (0, ([] : List SStep), ([] : List Int), false))
set_option maxHeartbeats 600000 in
set_option maxRecDepth 100000 in
theorem spec_plIf.calls (k : Nat) {w0 ws : World} {P0 : Nat → Prop} (a0_0 : Int) (A0_1 : Option Addr) (c0_1 : Nat) (n0_1 : Nat) (l0_1 : List SStep) (A0_2 : Option Addr) (c0_2 : Nat) (n0_2 : Nat) (l0_2 : List Int) (Z : Below w0.heap.size w0 ws) (hF : Fr w0 ws P0 [row kStep 107 (.slice A0_1 n0_1 c0_1) l0_1, row (Kd.int .i64) 3 (.slice A0_2 n0_2 c0_2) l0_2] ws)  (r_1 : Int) (r_2 : List SStep) (r_5 : List Int) (r_8 : Bool) (h : spec_plIf.f k a0_0 l0_1 l0_2 = some (r_1, r_2, r_5, r_8)) :
    Calls Try.prog 51 #[.agg #[.int .i64 a0_0, .slice A0_1 n0_1 c0_1, .slice A0_2 n0_2 c0_2]] ws (Post1 w0 ws P0 (fun ((q_3, q_4, q_6, q_7) : (Option Addr) × Nat × (Option Addr) × Nat) => .tuple #[.agg #[.int .i64 r_1, .slice q_3 r_2.length q_4, .slice q_6 r_5.length q_7], .bool r_8]) (fun ((q_3, q_4, q_6, q_7) : (Option Addr) × Nat × (Option Addr) × Nat) => [row kStep 107 (.slice q_3 r_2.length q_4) r_2, row (Kd.int .i64) 3 (.slice q_6 r_5.length q_7) r_5])) := by
  unfold spec_plIf.f at h
  obtain rfl := (hF.row_C (i := 0) rfl).2.1
  obtain rfl := (hF.row_C (i := 1) rfl).2.1
  refine enter Try.func51 rfl Try.ntmps51 rfl hF ?_
  refine c_seq ?_
  refine za0 ?_
  refine o_e rfl (e_box rfl) (fun g1 => ?_)
  refine o_e rfl (zam V25 rfl) (fun g3 => ?_)
  refine o_q rfl rfl (q_asg rfl) ?_
  refine o_end ?_
  refine za1 ?_
  refine c_seq ?_
  refine c_seq ?_
  refine za0 ?_
  refine o_q rfl rfl (q_ldB G25 Z25 rfl (fun w h => h.zaj (i := 1) rfl) rfl) ?_
  refine zab h (fun b6 hx5 h => ?_) rfl
  refine o_e rfl (za8 0 Z Try.func96 N96 rfl rfl rfl (fun w P1 hF hB hS hT => spec_plGood.calls k a0_0 A0_1 c0_1 l0_1.length l0_1 A0_2 c0_2 l0_2.length l0_2 hB hF (hT 2 _ rfl).row (hT 2 _ rfl).cap (hT 3 _ rfl).row (hT 3 _ rfl).cap _ hx5)) (fun _ => ?_)
  refine o_q rfl rfl (q_not rfl) ?_
  refine o_end ?_
  refine za1 ?_
  refine zb0 _ rfl (fun hb7 => ?_) (fun hb7 => ?_)
  · replace hb7 := nt_t hb7
    replace h := bb_f hb7 h
    refine c_seq ?_
    refine za0 ?_
    refine o_q rfl rfl (q_build (vs := []) (cs := [.int .i64 0, .slice none 0 0, .slice none 0 0]) rfl rfl) ?_
    refine o_e rfl (zav (i := 0) rfl rfl rfl Z25 rfl rfl) (fun _ => ?_)
    refine o_q rfl rfl (q_asg rfl) ?_
    refine o_end ?_
    refine za1 ?_
    refine c_ret ?_
    refine zai ?_
    refine x_nil kStep 107 ?_
    refine x_nil (Kd.int .i64) 3 ?_
    have e0_ := Option.some.inj h; clear h
    have d0_ := (Prod.mk.inj e0_).1; have e1_ := (Prod.mk.inj e0_).2; clear e0_; subst d0_
    have d1_ := (Prod.mk.inj e1_).1; have e2_ := (Prod.mk.inj e1_).2; clear e1_; subst d1_
    have d2_ := (Prod.mk.inj e2_).1; have e3_ := (Prod.mk.inj e2_).2; clear e2_; subst d2_
    subst e3_
    exact x_r2 (none, 0, none, 0) Try.results51 (rv_cell rfl G25 Z25 (fun w h => h.zaj (i := 2) rfl) rfl) (zal rfl) rfl (fun w h => za6 [1, 0] (by decide) rfl w h)
  · replace hb7 := nt_f hb7
    replace h := bb_t hb7 h
    refine zat ?_
    refine za1 ?_
    refine c_seq ?_
    refine za0 ?_
    refine o_q rfl rfl (q_ldB G25 Z25 rfl (fun w h => h.zaj (i := 1) rfl) rfl) ?_
    refine o_e rfl (zav (i := 0) rfl rfl rfl Z25 rfl rfl) (fun _ => ?_)
    refine o_q rfl rfl (q_asg rfl) ?_
    refine o_end ?_
    refine za1 ?_
    refine c_ret ?_
    have e0_ := Option.some.inj h; clear h
    have d0_ := (Prod.mk.inj e0_).1; have e1_ := (Prod.mk.inj e0_).2; clear e0_; subst d0_
    have d1_ := (Prod.mk.inj e1_).1; have e2_ := (Prod.mk.inj e1_).2; clear e1_; subst d1_
    have d2_ := (Prod.mk.inj e2_).1; have e3_ := (Prod.mk.inj e2_).2; clear e2_; subst d2_
    subst e3_
    exact x_r2 (A0_1, c0_1, A0_2, c0_2) Try.results51 (rv_cell rfl G25 Z25 (fun w h => h.zaj (i := 0) rfl) rfl) (zal rfl) rfl (fun w h => za6 [2, 3] (by decide) rfl w h)

/-! ### loop.example/g01098/spec.SlidingPlan: function 15 -/
def spec_SlidingPlan.f (k : Nat) (a0 : Int) (a1 : Int) : Option (Int × (List SStep) × (List Int) × Bool) := ((spec_chNumber.f a0).bind fun b15 => if b15 = true then ((spec_meWide.f a1).bind fun b18 => some (!b18)) else (some true)).bind fun b8 => if b8 = true then (some (0, ([] : List SStep), ([] : List Int), false)) else ((spec_meSliding.f k a0 a1).bind fun (l21, l22) => (spec_plIf.f k 1 l21 l22).bind fun (i28, l29, l30, b31) => some (i28, l29, l30, b31))
set_option maxHeartbeats 600000 in
set_option maxRecDepth 100000 in
theorem spec_SlidingPlan.calls (k : Nat) {w0 ws : World} {P0 : Nat → Prop} (a0 : Int) (a1 : Int) (Z : Below w0.heap.size w0 ws) (hF : Fr w0 ws P0 [] ws)  (r_1 : Int) (r_2 : List SStep) (r_5 : List Int) (r_8 : Bool) (h : spec_SlidingPlan.f k a0 a1 = some (r_1, r_2, r_5, r_8)) :
    Calls Try.prog 15 #[.int .i64 a0, .int .i64 a1] ws (Post1 w0 ws P0 (fun ((q_3, q_4, q_6, q_7) : (Option Addr) × Nat × (Option Addr) × Nat) => .tuple #[.agg #[.int .i64 r_1, .slice q_3 r_2.length q_4, .slice q_6 r_5.length q_7], .bool r_8]) (fun ((q_3, q_4, q_6, q_7) : (Option Addr) × Nat × (Option Addr) × Nat) => [row kStep 107 (.slice q_3 r_2.length q_4) r_2, row (Kd.int .i64) 3 (.slice q_6 r_5.length q_7) r_5])) := by
  unfold spec_SlidingPlan.f at h
  refine enter Try.func15 rfl Try.ntmps15 rfl hF ?_
  refine c_seq ?_
  refine za0 ?_
  refine o_e rfl (zam V25 rfl) (fun g1 => ?_)
  refine o_q rfl rfl (q_asg rfl) ?_
  refine o_end ?_
  refine za1 ?_
  refine c_seq ?_
  refine zab h (fun o9 hl10 hR11 => ?_) rfl
  clear h
  refine c_cutJ (σ := Bool) (fun b8 => some b8 = some o9) [6, 7, 8, 9, 10, 11, 12, 13] (fun b8 => [(13, .bool b8)]) (fun b8 => [box g1 25 #[.int .i64 0, .slice none 0 0, .slice none 0 0]]) ?_ ?_
  · skip
    have h := hl10; clear hl10
    clear hR11
    refine za0 ?_
    refine o_q rfl rfl (za2 rfl) ?_
    refine zab h (fun b15 hx14 h => ?_) rfl
    refine o_e rfl (za8 0 Z Try.func49 N49 rfl rfl rfl (fun w P1 hF hB hS hT => spec_chNumber.calls a0 hB hF _ hx14)) (fun _ => ?_)
    refine o_q rfl rfl (q_not rfl) ?_
    refine o_q rfl rfl (za2 rfl) ?_
    refine byB b15 (fun hb16 => ?_) (fun hb16 => ?_)
    · replace h := bb_t hb16 h
      refine o_w (za5 rfl rfl rfl (congrArg (fun b => Value.bool (!(b))) hb16)) rfl (za2 rfl) ?_
      refine zab h (fun b18 hx17 h => ?_) rfl
      refine o_ew (za5 rfl rfl rfl (congrArg (fun b => Value.bool (!(b))) hb16)) (za8 0 Z Try.func50 N50 rfl rfl rfl (fun w P1 hF hB hS hT => spec_meWide.calls a1 hB hF _ hx17)) (fun _ => ?_)
      refine o_w (za5 rfl rfl rfl (congrArg (fun b => Value.bool (!(b))) hb16)) rfl (q_not rfl) ?_
      refine o_q rfl rfl (zau false (congrArg (fun b => Value.bool (!(b))) hb16) rfl) ?_
      refine o_end ?_
      refine zao (!b18) h ⟨rfl, trivial⟩ (fun w h => za6 [0] (by decide) rfl w h) ?_
      repeat (first | exact za9 _ _ | refine zae rfl ?_ | refine zaa rfl ?_ | refine zaf rfl ?_)
    · replace h := bb_f hb16 h
      refine @o_n _ _ _ _ _ _ _ _ _ _ _ 10 (za4 rfl rfl rfl (congrArg (fun b => Value.bool (!(b))) hb16) rfl) (Eq.refl (some 10)) ?_
      refine @o_n _ _ _ _ _ _ _ _ _ _ _ 11 (za4 rfl rfl rfl (congrArg (fun b => Value.bool (!(b))) hb16) rfl) (Eq.refl (some 11)) ?_
      refine @o_n _ _ _ _ _ _ _ _ _ _ _ 12 (za4 rfl rfl rfl (congrArg (fun b => Value.bool (!(b))) hb16) rfl) (Eq.refl (some 12)) ?_
      refine o_q rfl rfl (zau true (congrArg (fun b => Value.bool (!(b))) hb16) rfl) ?_
      refine o_end ?_
      refine zao true h ⟨rfl, trivial⟩ (fun w h => za6 [0] (by decide) rfl w h) ?_
      repeat (first | exact za9 _ _ | refine zae rfl ?_ | refine zaa rfl ?_ | refine zaf rfl ?_)
  · skip
    refine (fun b8 => fun U12 hJ13 => ?_)
    have e_ := Option.some.inj hJ13; have h := hR11; rw [← e_] at h; clear e_ hJ13 hR11 hl10
    refine zb0 _ rfl (fun hb19 => ?_) (fun hb19 => ?_)
    · skip
      replace h := bb_t hb19 h
      refine c_seq ?_
      refine za0 ?_
      refine o_q rfl rfl (q_build (vs := []) (cs := [.int .i64 0, .slice none 0 0, .slice none 0 0]) rfl rfl) ?_
      refine o_e rfl (zav (i := 0) rfl rfl rfl Z25 rfl rfl) (fun _ => ?_)
      refine o_q rfl rfl (q_asg rfl) ?_
      refine o_end ?_
      refine za1 ?_
      refine c_ret ?_
      refine zai ?_
      refine x_nil kStep 107 ?_
      refine x_nil (Kd.int .i64) 3 ?_
      have e0_ := Option.some.inj h; clear h
      have d0_ := (Prod.mk.inj e0_).1; have e1_ := (Prod.mk.inj e0_).2; clear e0_; subst d0_
      have d1_ := (Prod.mk.inj e1_).1; have e2_ := (Prod.mk.inj e1_).2; clear e1_; subst d1_
      have d2_ := (Prod.mk.inj e2_).1; have e3_ := (Prod.mk.inj e2_).2; clear e2_; subst d2_
      subst e3_
      exact x_r2 (none, 0, none, 0) Try.results15 (rv_cell rfl G25 Z25 (fun w h => h.zaj (i := 2) rfl) rfl) (zal rfl) rfl (fun w h => za6 [1, 0] (by decide) rfl w h)
    · skip
      replace h := bb_f hb19 h
      refine zat ?_
      refine za1 ?_
      refine c_seq ?_
      refine za0 ?_
      refine o_q rfl rfl (za2 rfl) ?_
      refine o_q rfl rfl (za2 rfl) ?_
      refine bindE2 h (fun l21 l22 hx20 h => ?_) rfl
      refine o_e rfl (za8 0 Z Try.func66 N66 rfl rfl rfl (fun w P1 hF hB hS hT => spec_meSliding.calls k a0 a1 hB hF _ _ hx20)) (cur4 (fun A23 c24 A25 c26 => ?_))
      refine bindE4 h (fun i28 l29 l30 b31 hx27 h => ?_) rfl
      refine o_e rfl (za8 2 Z Try.func51 N51 rfl rfl rfl (fun w P1 hF hB hS hT => spec_plIf.calls k 1 A23 c24 l21.length l21 A25 c26 l22.length l22 hB hF _ _ _ _ hx27)) (cur4 (fun A32 c33 A34 c35 => ?_))
      refine o_q rfl rfl (q_ext rfl rfl) ?_
      refine o_q rfl rfl (q_ext rfl rfl) ?_
      refine o_e rfl (zav (i := 2) rfl rfl rfl Z25 rfl rfl) (fun _ => ?_)
      refine o_q rfl rfl (q_asg rfl) ?_
      refine o_end ?_
      refine za1 ?_
      refine c_ret ?_
      have e0_ := Option.some.inj h; clear h
      have d0_ := (Prod.mk.inj e0_).1; have e1_ := (Prod.mk.inj e0_).2; clear e0_; subst d0_
      have d1_ := (Prod.mk.inj e1_).1; have e2_ := (Prod.mk.inj e1_).2; clear e1_; subst d1_
      have d2_ := (Prod.mk.inj e2_).1; have e3_ := (Prod.mk.inj e2_).2; clear e2_; subst d2_
      subst e3_
      exact x_r2 (A32, c33, A34, c35) Try.results15 (rv_cell rfl G25 Z25 (fun w h => h.zaj (i := 2) rfl) rfl) (zal rfl) rfl (fun w h => za6 [0, 1] (by decide) rfl w h)

/-! ### loop.example/g01098/laws.pSameSteps: function 72 -/
def laws_pSameSteps.l0 (l1 : List SStep) : (List SStep) → Int → Option ((Bool) ⊕ (Unit))
  | [], i2 => some (.inr ())
  | y3 :: ys4, i2 => (gt l1 i2).bind fun y16 => if (y3.f0 == y16.f0 && (y3.f1 == y16.f1 && true)) = true then (laws_pSameSteps.l0 l1 ys4 (i2 + 1)) else (some (.inl false))
def laws_pSameSteps.f (l0 : List SStep) (l1 : List SStep) : Option Bool := if (l0.length : Int) ≠ (l1.length : Int) then (some false) else ((laws_pSameSteps.l0 l1 l0 0).bind fun o_ => match o_ with | .inl r_ => some r_ | .inr _ => some true)
set_option maxHeartbeats 600000 in
set_option maxRecDepth 100000 in
theorem laws_pSameSteps.calls {w0 ws : World} {P0 : Nat → Prop} (A0 : Option Addr) (c0 : Nat) (n0 : Nat) (l0 : List SStep) (A1 : Option Addr) (c1 : Nat) (n1 : Nat) (l1 : List SStep) (Z : Below w0.heap.size w0 ws) (hF : Fr w0 ws P0 [] ws) (R0 : Stable ws P0 (fun w => Kd.C kStep w A0 n0 l0)) (hc0 : n0 ≤ c0) (R1 : Stable ws P0 (fun w => Kd.C kStep w A1 n1 l1)) (hc1 : n1 ≤ c1) (r_1 : Bool) (h : laws_pSameSteps.f l0 l1 = some r_1) :
    Calls Try.prog 72 #[.slice A0 n0 c0, .slice A1 n1 c1] ws (Post1 w0 ws P0 (fun (_ : Unit) => .bool r_1) (fun (_ : Unit) => [])) := by
  unfold laws_pSameSteps.f at h
  obtain rfl := (R0 ws (KeptB.refl _ _)).1
  obtain rfl := (R1 ws (KeptB.refl _ _)).1
  refine enter Try.func72 rfl Try.ntmps72 rfl hF ?_
  refine c_seq ?_
  refine za0 ?_
  refine o_q rfl rfl (q_asg rfl) ?_
  refine o_end ?_
  refine za1 ?_
  refine c_seq ?_
  refine c_seq ?_
  refine za0 ?_
  refine o_q rfl rfl (za2 rfl) ?_
  refine o_q rfl rfl (q_len Try.underlying22 rfl) ?_
  refine o_q rfl rfl (za2 rfl) ?_
  refine o_q rfl rfl (q_len Try.underlying22 rfl) ?_
  refine o_q rfl rfl (q_neq rfl rfl) ?_
  refine o_end ?_
  refine za1 ?_
  refine zb0 _ rfl (fun hb1 => ?_) (fun hb1 => ?_)
  · skip
    replace h := br_t hb1 h
    refine c_seq ?_
    refine za0 ?_
    refine o_q rfl rfl (q_asg rfl) ?_
    refine o_end ?_
    refine za1 ?_
    refine c_ret ?_
    refine zai ?_
    have e0_ := Option.some.inj h; clear h
    subst e0_
    exact x_r1 () Try.results72 (zal rfl) rfl (fun w h => za6 [] (by decide) rfl w h)
  · skip
    replace h := br_f hb1 h
    refine zat ?_
    refine za1 ?_
    refine c_seq ?_
    refine c_seq ?_
    refine za0 ?_
    refine o_q rfl rfl (za2 rfl) ?_
    refine o_q rfl rfl (q_len Try.underlying22 rfl) ?_
    refine o_q rfl rfl (za2 rfl) ?_
    refine o_end ?_
    refine za1 ?_
    refine zaq ?_
    refine zab h (fun o10 hl9 hR8 => ?_) rfl
    clear h
    refine c_fact (p := l0.length ≤ 9223372036854775807) (fun w h => (R0.now Z h).2.1) (fun hm7 => ?_)
    refine zb3 (σ := (List SStep) × Int) (fun k5 ((ys4, i2) : (List SStep) × Int) => Rg l0 i2 ys4 ∧ ys4.length = k5 ∧ laws_pSameSteps.l0 l1 ys4 i2 = some o10) [4, 5, 13, 14, 15, 16, 17, 18, 19, 20, 21, 22, 23, 24, 25] (fun ((ys4, i2) : (List SStep) × Int) => [(13, .int .i64 i2)]) (fun ((ys4, i2) : (List SStep) × Int) => []) l0.length (l0, 0) ⟨Rg.start _, rfl, hl9⟩ ⟨rfl, trivial⟩ (fun w h => h) ?_
    refine fun k5 => cur2 (listC (fun i2 U11 hJ_ => ?_) (fun y3 ys4 i2 U11 hJ_ => ?_))
    · skip
      clear hl9
      have hr6 := hJ_.1; have hk12 := hJ_.2.1; have h := hJ_.2.2; clear hJ_
      replace h : laws_pSameSteps.l0 l1 [] i2 = some o10 := h
      rw [laws_pSameSteps.l0] at h
      refine c_seq ?_
      refine za0 ?_
      refine o_q rfl rfl (q_lss rfl rfl) ?_
      refine o_end ?_
      refine za1 ?_
      refine c_seq ?_
      refine c_false (congrArg Value.bool hr6.ge) ?_
      refine c_exit ?_
      refine zac ?_
      refine zac ?_
      have e_ := Option.some.inj h; replace h := hR8; rw [← e_] at h; clear e_
      refine x_hit ?_
      refine za1 ?_
      refine c_seq ?_
      refine za0 ?_
      refine o_q rfl rfl (q_asg rfl) ?_
      refine o_end ?_
      refine za1 ?_
      refine c_ret ?_
      have e0_ := Option.some.inj h; clear h
      subst e0_
      exact x_r1 () Try.results72 (zal rfl) rfl (fun w h => za6 [] (by decide) rfl w h)
    · skip
      clear hl9
      have hr6 := hJ_.1; have hk12 := hJ_.2.1; have h := hJ_.2.2; clear hJ_
      replace h : laws_pSameSteps.l0 l1 (y3 :: ys4) i2 = some o10 := h
      rw [laws_pSameSteps.l0] at h
      refine c_seq ?_
      refine za0 ?_
      refine o_q rfl rfl (q_lss rfl rfl) ?_
      refine o_end ?_
      refine za1 ?_
      refine c_seq ?_
      refine c_true (congrArg Value.bool hr6.lt) ?_
      refine zat ?_
      refine za1 ?_
      refine c_seq ?_
      refine zaq ?_
      refine c_seq ?_
      refine za0 ?_
      refine o_q rfl rfl (za2 rfl) ?_
      refine o_q rfl rfl (q_asg rfl) ?_
      refine o_end ?_
      refine za1 ?_
      refine c_seq ?_
      refine a_start (ds := []) MO rfl ?_
      refine za7 0 rfl rfl rfl (by kernel_rfl) (fun _ _ _ h => h) (za2 rfl) ?_
      refine za7 1 rfl rfl rfl (by kernel_rfl) (fun _ _ _ h => h) (za2 rfl) ?_
      refine a_fact (p := Sh A0 l0.length l0.length) (fun w h => f_sh (dk := kStep) h (fun w h => R0.now Z h)) (fun hq13 => ?_)
      refine za7 2 rfl rfl rfl (by kernel_rfl) (fun _ _ _ h => h) (q_ix Try.underlying22 Z107 rfl rfl hq13 hr6.get) ?_
      refine zb2 3 rfl rfl rfl (by kernel_rfl) (fun _ _ _ h => h) (fun w h => h) (q_ldE G107 Z107 rfl rfl (fun w h => R0.now Z h) hr6.get (fun _ _ h => h) rfl) ?_
      refine za7 4 rfl rfl rfl (by kernel_rfl) (fun _ _ _ h => h) (za2 rfl) ?_
      refine za7 5 rfl rfl rfl (by kernel_rfl) (fun _ _ _ h => h) (za2 rfl) ?_
      refine a_fact (p := Sh A1 l1.length l1.length) (fun w h => f_sh (dk := kStep) h (fun w h => R1.now Z h)) (fun hq14 => ?_)
      refine zab h (fun y16 hg15 h => ?_) rfl
      refine za7 6 rfl rfl rfl (by kernel_rfl) (fun _ _ _ h => h) (q_ix Try.underlying22 Z107 rfl rfl hq14 hg15) ?_
      refine zb2 7 rfl rfl rfl (by kernel_rfl) (fun _ _ _ h => h) (fun w h => h) (q_ldE G107 Z107 rfl rfl (fun w h => R1.now Z h) hg15 (fun _ _ h => h) rfl) ?_
      refine za7 8 rfl rfl rfl (by kernel_rfl) (fun _ _ _ h => h) (q_aneq E107 O107 P107 (Q107 y3.f0 y3.f1 y16.f0 y16.f1) rfl rfl) ?_
      refine zan (by kernel_rfl) ?_
      refine za1 ?_
      refine zb0 _ rfl (fun hb17 => ?_) (fun hb17 => ?_)
      · replace hb17 := nt_t hb17
        replace h := bb_f hb17 h
        refine c_seq ?_
        refine za0 ?_
        refine o_q rfl rfl (q_asg rfl) ?_
        refine o_end ?_
        refine za1 ?_
        refine c_ret ?_
        refine zax ?_
        refine zai ?_
        refine zai ?_
        have e_ := Option.some.inj h; replace h := hR8; rw [← e_] at h; clear e_
        refine zax ?_
        refine zai ?_
        have e0_ := Option.some.inj h; clear h
        subst e0_
        exact x_r1 () Try.results72 (zal rfl) rfl (fun w h => za6 [] (by decide) rfl w h)
      · replace hb17 := nt_f hb17
        replace h := bb_t hb17 h
        refine zat ?_
        refine zas ?_
        refine za1 ?_
        refine za0 ?_
        refine o_q rfl rfl (q_up rfl rfl (hr6.up hm7)) ?_
        refine o_q rfl rfl (za2 rfl) ?_
        refine o_end ?_
        refine zar ys4.length (ys4, i2 + 1) (by rw [← hk12]; exact Nat.lt_succ_self _) ⟨hr6.step, rfl, h⟩ ⟨rfl, trivial⟩ (fun w h => za6 [] (by decide) rfl w h) ?_
        repeat (first | exact za9 _ _ | refine zae rfl ?_ | refine zaa rfl ?_ | refine zaf rfl ?_)

/-! ### loop.example/g01098/laws.pSameInts: function 28 -/
def laws_pSameInts.l0 (l1 : List Int) : (List Int) → Int → Option ((Bool) ⊕ (Unit))
  | [], i2 => some (.inr ())
  | y3 :: ys4, i2 => (gt l1 i2).bind fun y16 => if y3 ≠ y16 then (some (.inl false)) else (laws_pSameInts.l0 l1 ys4 (i2 + 1))
def laws_pSameInts.f (l0 : List Int) (l1 : List Int) : Option Bool := if (l0.length : Int) ≠ (l1.length : Int) then (some false) else ((laws_pSameInts.l0 l1 l0 0).bind fun o_ => match o_ with | .inl r_ => some r_ | .inr _ => some true)
set_option maxHeartbeats 600000 in
set_option maxRecDepth 100000 in
theorem laws_pSameInts.calls {w0 ws : World} {P0 : Nat → Prop} (A0 : Option Addr) (c0 : Nat) (n0 : Nat) (l0 : List Int) (A1 : Option Addr) (c1 : Nat) (n1 : Nat) (l1 : List Int) (Z : Below w0.heap.size w0 ws) (hF : Fr w0 ws P0 [] ws) (R0 : Stable ws P0 (fun w => Kd.C (Kd.int .i64) w A0 n0 l0)) (hc0 : n0 ≤ c0) (R1 : Stable ws P0 (fun w => Kd.C (Kd.int .i64) w A1 n1 l1)) (hc1 : n1 ≤ c1) (r_1 : Bool) (h : laws_pSameInts.f l0 l1 = some r_1) :
    Calls Try.prog 28 #[.slice A0 n0 c0, .slice A1 n1 c1] ws (Post1 w0 ws P0 (fun (_ : Unit) => .bool r_1) (fun (_ : Unit) => [])) := by
  unfold laws_pSameInts.f at h
  obtain rfl := (R0 ws (KeptB.refl _ _)).1
  obtain rfl := (R1 ws (KeptB.refl _ _)).1
  refine enter Try.func28 rfl Try.ntmps28 rfl hF ?_
  refine c_seq ?_
  refine za0 ?_
  refine o_q rfl rfl (q_asg rfl) ?_
  refine o_end ?_
  refine za1 ?_
  refine c_seq ?_
  refine c_seq ?_
  refine za0 ?_
  refine o_q rfl rfl (za2 rfl) ?_
  refine o_q rfl rfl (q_len Try.underlying23 rfl) ?_
  refine o_q rfl rfl (za2 rfl) ?_
  refine o_q rfl rfl (q_len Try.underlying23 rfl) ?_
  refine o_q rfl rfl (q_neq rfl rfl) ?_
  refine o_end ?_
  refine za1 ?_
  refine zb0 _ rfl (fun hb1 => ?_) (fun hb1 => ?_)
  · skip
    replace h := br_t hb1 h
    refine c_seq ?_
    refine za0 ?_
    refine o_q rfl rfl (q_asg rfl) ?_
    refine o_end ?_
    refine za1 ?_
    refine c_ret ?_
    refine zai ?_
    have e0_ := Option.some.inj h; clear h
    subst e0_
    exact x_r1 () Try.results28 (zal rfl) rfl (fun w h => za6 [] (by decide) rfl w h)
  · skip
    replace h := br_f hb1 h
    refine zat ?_
    refine za1 ?_
    refine c_seq ?_
    refine c_seq ?_
    refine za0 ?_
    refine o_q rfl rfl (za2 rfl) ?_
    refine o_q rfl rfl (q_len Try.underlying23 rfl) ?_
    refine o_q rfl rfl (za2 rfl) ?_
    refine o_end ?_
    refine za1 ?_
    refine zaq ?_
    refine zab h (fun o10 hl9 hR8 => ?_) rfl
    clear h
    refine c_fact (p := l0.length ≤ 9223372036854775807) (fun w h => (R0.now Z h).2.1) (fun hm7 => ?_)
    refine zb3 (σ := (List Int) × Int) (fun k5 ((ys4, i2) : (List Int) × Int) => Rg l0 i2 ys4 ∧ ys4.length = k5 ∧ laws_pSameInts.l0 l1 ys4 i2 = some o10) [4, 5, 13, 14, 15, 16, 17, 18, 19, 20, 21, 22, 23, 24, 25] (fun ((ys4, i2) : (List Int) × Int) => [(13, .int .i64 i2)]) (fun ((ys4, i2) : (List Int) × Int) => []) l0.length (l0, 0) ⟨Rg.start _, rfl, hl9⟩ ⟨rfl, trivial⟩ (fun w h => h) ?_
    refine fun k5 => cur2 (listC (fun i2 U11 hJ_ => ?_) (fun y3 ys4 i2 U11 hJ_ => ?_))
    · skip
      clear hl9
      have hr6 := hJ_.1; have hk12 := hJ_.2.1; have h := hJ_.2.2; clear hJ_
      replace h : laws_pSameInts.l0 l1 [] i2 = some o10 := h
      rw [laws_pSameInts.l0] at h
      refine c_seq ?_
      refine za0 ?_
      refine o_q rfl rfl (q_lss rfl rfl) ?_
      refine o_end ?_
      refine za1 ?_
      refine c_seq ?_
      refine c_false (congrArg Value.bool hr6.ge) ?_
      refine c_exit ?_
      refine zac ?_
      refine zac ?_
      have e_ := Option.some.inj h; replace h := hR8; rw [← e_] at h; clear e_
      refine x_hit ?_
      refine za1 ?_
      refine c_seq ?_
      refine za0 ?_
      refine o_q rfl rfl (q_asg rfl) ?_
      refine o_end ?_
      refine za1 ?_
      refine c_ret ?_
      have e0_ := Option.some.inj h; clear h
      subst e0_
      exact x_r1 () Try.results28 (zal rfl) rfl (fun w h => za6 [] (by decide) rfl w h)
    · skip
      clear hl9
      have hr6 := hJ_.1; have hk12 := hJ_.2.1; have h := hJ_.2.2; clear hJ_
      replace h : laws_pSameInts.l0 l1 (y3 :: ys4) i2 = some o10 := h
      rw [laws_pSameInts.l0] at h
      refine c_seq ?_
      refine za0 ?_
      refine o_q rfl rfl (q_lss rfl rfl) ?_
      refine o_end ?_
      refine za1 ?_
      refine c_seq ?_
      refine c_true (congrArg Value.bool hr6.lt) ?_
      refine zat ?_
      refine za1 ?_
      refine c_seq ?_
      refine zaq ?_
      refine c_seq ?_
      refine za0 ?_
      refine o_q rfl rfl (za2 rfl) ?_
      refine o_q rfl rfl (q_asg rfl) ?_
      refine o_end ?_
      refine za1 ?_
      refine c_seq ?_
      refine a_start (ds := []) MO rfl ?_
      refine za7 0 rfl rfl rfl (by kernel_rfl) (fun _ _ _ h => h) (za2 rfl) ?_
      refine za7 1 rfl rfl rfl (by kernel_rfl) (fun _ _ _ h => h) (za2 rfl) ?_
      refine a_fact (p := Sh A0 l0.length l0.length) (fun w h => f_sh (dk := (Kd.int .i64)) h (fun w h => R0.now Z h)) (fun hq13 => ?_)
      refine za7 2 rfl rfl rfl (by kernel_rfl) (fun _ _ _ h => h) (q_ix Try.underlying23 Z3 rfl rfl hq13 hr6.get) ?_
      refine zb2 3 rfl rfl rfl (by kernel_rfl) (fun _ _ _ h => h) (fun w h => h) (q_lde (off := 0) Y3 rfl rfl (fun w h => R0.now Z h) hr6.get (fun _ _ h => h) rfl) ?_
      refine za7 4 rfl rfl rfl (by kernel_rfl) (fun _ _ _ h => h) (za2 rfl) ?_
      refine za7 5 rfl rfl rfl (by kernel_rfl) (fun _ _ _ h => h) (za2 rfl) ?_
      refine a_fact (p := Sh A1 l1.length l1.length) (fun w h => f_sh (dk := (Kd.int .i64)) h (fun w h => R1.now Z h)) (fun hq14 => ?_)
      refine zab h (fun y16 hg15 h => ?_) rfl
      refine za7 6 rfl rfl rfl (by kernel_rfl) (fun _ _ _ h => h) (q_ix Try.underlying23 Z3 rfl rfl hq14 hg15) ?_
      refine zb2 7 rfl rfl rfl (by kernel_rfl) (fun _ _ _ h => h) (fun w h => h) (q_lde (off := 0) Y3 rfl rfl (fun w h => R1.now Z h) hg15 (fun _ _ h => h) rfl) ?_
      refine za7 8 rfl rfl rfl (by kernel_rfl) (fun _ _ _ h => h) (q_neq rfl rfl) ?_
      refine zan (by kernel_rfl) ?_
      refine za1 ?_
      refine zb0 _ rfl (fun hb17 => ?_) (fun hb17 => ?_)
      · skip
        replace h := br_t hb17 h
        refine c_seq ?_
        refine za0 ?_
        refine o_q rfl rfl (q_asg rfl) ?_
        refine o_end ?_
        refine za1 ?_
        refine c_ret ?_
        refine zax ?_
        refine zai ?_
        refine zai ?_
        have e_ := Option.some.inj h; replace h := hR8; rw [← e_] at h; clear e_
        refine zax ?_
        refine zai ?_
        have e0_ := Option.some.inj h; clear h
        subst e0_
        exact x_r1 () Try.results28 (zal rfl) rfl (fun w h => za6 [] (by decide) rfl w h)
      · skip
        replace h := br_f hb17 h
        refine zat ?_
        refine zas ?_
        refine za1 ?_
        refine za0 ?_
        refine o_q rfl rfl (q_up rfl rfl (hr6.up hm7)) ?_
        refine o_q rfl rfl (za2 rfl) ?_
        refine o_end ?_
        refine zar ys4.length (ys4, i2 + 1) (by rw [← hk12]; exact Nat.lt_succ_self _) ⟨hr6.step, rfl, h⟩ ⟨rfl, trivial⟩ (fun w h => za6 [] (by decide) rfl w h) ?_
        repeat (first | exact za9 _ _ | refine zae rfl ?_ | refine zaa rfl ?_ | refine zaf rfl ?_)

/-! ### loop.example/g01098/laws.pSamePlan: function 24 -/
def laws_pSamePlan.f (a0_0 : Int) (l0_1 : List SStep) (l0_2 : List Int) (a1_0 : Int) (l1_1 : List SStep) (l1_2 : List Int) : Option Bool := if a0_0 = a1_0 then ((laws_pSameSteps.f l0_1 l1_1).bind fun b7 => if b7 = true then ((laws_pSameInts.f l0_2 l1_2).bind fun b10 => some b10) else (some false)) else (some false)
set_option maxHeartbeats 600000 in
set_option maxRecDepth 100000 in
theorem laws_pSamePlan.calls {w0 ws : World} {P0 : Nat → Prop} (a0_0 : Int) (A0_1 : Option Addr) (c0_1 : Nat) (n0_1 : Nat) (l0_1 : List SStep) (A0_2 : Option Addr) (c0_2 : Nat) (n0_2 : Nat) (l0_2 : List Int) (a1_0 : Int) (A1_1 : Option Addr) (c1_1 : Nat) (n1_1 : Nat) (l1_1 : List SStep) (A1_2 : Option Addr) (c1_2 : Nat) (n1_2 : Nat) (l1_2 : List Int) (Z : Below w0.heap.size w0 ws) (hF : Fr w0 ws P0 [] ws) (R0_1 : Stable ws P0 (fun w => Kd.C kStep w A0_1 n0_1 l0_1)) (hc0_1 : n0_1 ≤ c0_1) (R0_2 : Stable ws P0 (fun w => Kd.C (Kd.int .i64) w A0_2 n0_2 l0_2)) (hc0_2 : n0_2 ≤ c0_2) (R1_1 : Stable ws P0 (fun w => Kd.C kStep w A1_1 n1_1 l1_1)) (hc1_1 : n1_1 ≤ c1_1) (R1_2 : Stable ws P0 (fun w => Kd.C (Kd.int .i64) w A1_2 n1_2 l1_2)) (hc1_2 : n1_2 ≤ c1_2) (r_1 : Bool) (h : laws_pSamePlan.f a0_0 l0_1 l0_2 a1_0 l1_1 l1_2 = some r_1) :
    Calls Try.prog 24 #[.agg #[.int .i64 a0_0, .slice A0_1 n0_1 c0_1, .slice A0_2 n0_2 c0_2], .agg #[.int .i64 a1_0, .slice A1_1 n1_1 c1_1, .slice A1_2 n1_2 c1_2]] ws (Post1 w0 ws P0 (fun (_ : Unit) => .bool r_1) (fun (_ : Unit) => [])) := by
  unfold laws_pSamePlan.f at h
  obtain rfl := (R0_1 ws (KeptB.refl _ _)).1
  obtain rfl := (R0_2 ws (KeptB.refl _ _)).1
  obtain rfl := (R1_1 ws (KeptB.refl _ _)).1
  obtain rfl := (R1_2 ws (KeptB.refl _ _)).1
  refine enter Try.func24 rfl Try.ntmps24 rfl hF ?_
  refine c_seq ?_
  refine za0 ?_
  refine o_e rfl (e_box rfl) (fun g1 => ?_)
  refine o_e rfl (e_box rfl) (fun g3 => ?_)
  refine o_q rfl rfl (q_asg rfl) ?_
  refine o_end ?_
  refine za1 ?_
  refine c_seq ?_
  refine za0 ?_
  refine o_q rfl rfl (q_f F25_0 rfl) ?_
  refine o_q rfl rfl (q_ldb Y3 rfl (fun w h => h.zaj (i := 1) rfl) rfl) ?_
  refine o_q rfl rfl (q_f F25_0 rfl) ?_
  refine o_q rfl rfl (q_ldb Y3 rfl (fun w h => h.zaj (i := 0) rfl) rfl) ?_
  refine o_q rfl rfl (q_eql rfl rfl) ?_
  refine o_q rfl rfl (za2 rfl) ?_
  refine byB (decide (a0_0 = a1_0)) (fun hb5 => ?_) (fun hb5 => ?_)
  · replace h := br_t hb5 h
    refine o_w (za5 rfl rfl rfl (congrArg Value.bool hb5)) rfl (q_f F25_1 rfl) ?_
    refine o_w (za5 rfl rfl rfl (congrArg Value.bool hb5)) rfl (q_ldb Y22 rfl (fun w h => h.zaj (i := 1) rfl) rfl) ?_
    refine o_w (za5 rfl rfl rfl (congrArg Value.bool hb5)) rfl (q_f F25_1 rfl) ?_
    refine o_w (za5 rfl rfl rfl (congrArg Value.bool hb5)) rfl (q_ldb Y22 rfl (fun w h => h.zaj (i := 0) rfl) rfl) ?_
    refine zab h (fun b7 hx6 h => ?_) rfl
    refine o_ew (za5 rfl rfl rfl (congrArg Value.bool hb5)) (za8 0 Z Try.func72 N72 rfl rfl rfl (fun w P1 hF hB hS hT => laws_pSameSteps.calls A0_1 c0_1 l0_1.length l0_1 A1_1 c1_1 l1_1.length l1_1 hB hF (hS _ R0_1) hc0_1 (hS _ R1_1) hc1_1 _ hx6)) (fun _ => ?_)
    refine o_q rfl rfl (zau true (congrArg Value.bool hb5) rfl) ?_
    refine o_q rfl rfl (za2 rfl) ?_
    refine byB b7 (fun hb8 => ?_) (fun hb8 => ?_)
    · replace h := bb_t hb8 h
      refine o_w (za5 rfl rfl rfl (congrArg Value.bool hb8)) rfl (q_f F25_2 rfl) ?_
      refine o_w (za5 rfl rfl rfl (congrArg Value.bool hb8)) rfl (q_ldb Y23 rfl (fun w h => h.zaj (i := 1) rfl) rfl) ?_
      refine o_w (za5 rfl rfl rfl (congrArg Value.bool hb8)) rfl (q_f F25_2 rfl) ?_
      refine o_w (za5 rfl rfl rfl (congrArg Value.bool hb8)) rfl (q_ldb Y23 rfl (fun w h => h.zaj (i := 0) rfl) rfl) ?_
      refine zab h (fun b10 hx9 h => ?_) rfl
      refine o_ew (za5 rfl rfl rfl (congrArg Value.bool hb8)) (za8 0 Z Try.func28 N28 rfl rfl rfl (fun w P1 hF hB hS hT => laws_pSameInts.calls A0_2 c0_2 l0_2.length l0_2 A1_2 c1_2 l1_2.length l1_2 hB hF (hS _ R0_2) hc0_2 (hS _ R1_2) hc1_2 _ hx9)) (fun _ => ?_)
      refine o_q rfl rfl (zau true (congrArg Value.bool hb8) rfl) ?_
      refine o_q rfl rfl (q_asg rfl) ?_
      refine o_end ?_
      refine za1 ?_
      refine c_ret ?_
      have e0_ := Option.some.inj h; clear h
      subst e0_
      exact x_r1 () Try.results24 (zal rfl) rfl (fun w h => za6 [] (by decide) rfl w h)
    · replace h := bb_f hb8 h
      refine @o_n _ _ _ _ _ _ _ _ _ _ _ 18 (za4 rfl rfl rfl (congrArg Value.bool hb8) rfl) (Eq.refl (some 18)) ?_
      refine @o_n _ _ _ _ _ _ _ _ _ _ _ 19 (za4 rfl rfl rfl (congrArg Value.bool hb8) rfl) (Eq.refl (some 19)) ?_
      refine @o_n _ _ _ _ _ _ _ _ _ _ _ 20 (za4 rfl rfl rfl (congrArg Value.bool hb8) rfl) (Eq.refl (some 20)) ?_
      refine @o_n _ _ _ _ _ _ _ _ _ _ _ 21 (za4 rfl rfl rfl (congrArg Value.bool hb8) rfl) (Eq.refl (some 21)) ?_
      refine @o_n _ _ _ _ _ _ _ _ _ _ _ 22 (za4 rfl rfl rfl (congrArg Value.bool hb8) rfl) (Eq.refl (some 22)) ?_
      refine o_q rfl rfl (zau false (congrArg Value.bool hb8) rfl) ?_
      refine o_q rfl rfl (q_asg rfl) ?_
      refine o_end ?_
      refine za1 ?_
      refine c_ret ?_
      have e0_ := Option.some.inj h; clear h
      subst e0_
      exact x_r1 () Try.results24 (zal rfl) rfl (fun w h => za6 [] (by decide) rfl w h)
  · replace h := br_f hb5 h
    refine @o_n _ _ _ _ _ _ _ _ _ _ _ 11 (za4 rfl rfl rfl (congrArg Value.bool hb5) rfl) (Eq.refl (some 11)) ?_
    refine @o_n _ _ _ _ _ _ _ _ _ _ _ 12 (za4 rfl rfl rfl (congrArg Value.bool hb5) rfl) (Eq.refl (some 12)) ?_
    refine @o_n _ _ _ _ _ _ _ _ _ _ _ 13 (za4 rfl rfl rfl (congrArg Value.bool hb5) rfl) (Eq.refl (some 13)) ?_
    refine @o_n _ _ _ _ _ _ _ _ _ _ _ 14 (za4 rfl rfl rfl (congrArg Value.bool hb5) rfl) (Eq.refl (some 14)) ?_
    refine @o_n _ _ _ _ _ _ _ _ _ _ _ 15 (za4 rfl rfl rfl (congrArg Value.bool hb5) rfl) (Eq.refl (some 15)) ?_
    refine o_q rfl rfl (zau false (congrArg Value.bool hb5) rfl) ?_
    refine o_q rfl rfl (za2 rfl) ?_
    refine @o_n _ _ _ _ _ _ _ _ _ _ _ 18 (za4 rfl rfl rfl rfl rfl) (Eq.refl (some 18)) ?_
    refine @o_n _ _ _ _ _ _ _ _ _ _ _ 19 (za4 rfl rfl rfl rfl rfl) (Eq.refl (some 19)) ?_
    refine @o_n _ _ _ _ _ _ _ _ _ _ _ 20 (za4 rfl rfl rfl rfl rfl) (Eq.refl (some 20)) ?_
    refine @o_n _ _ _ _ _ _ _ _ _ _ _ 21 (za4 rfl rfl rfl rfl rfl) (Eq.refl (some 21)) ?_
    refine @o_n _ _ _ _ _ _ _ _ _ _ _ 22 (za4 rfl rfl rfl rfl rfl) (Eq.refl (some 22)) ?_
    refine o_q rfl rfl (zau false rfl rfl) ?_
    refine o_q rfl rfl (q_asg rfl) ?_
    refine o_end ?_
    refine za1 ?_
    refine c_ret ?_
    have e0_ := Option.some.inj h; clear h
    subst e0_
    exact x_r1 () Try.results24 (zal rfl) rfl (fun w h => za6 [] (by decide) rfl w h)

/-! ### loop.example/g01098/impl.digits: function 55 -/
def impl_digits.l0 (a1 : Int) : Nat → (List Int) → Int → Option (List Int)
  | 0, _, _ => none
  | k10 + 1, l4, i7 => if 0 < i7 then ((nz a1).bind fun _ => (ap l4 ([i7.tmod a1] : List Int)).bind fun l23 => (nz a1).bind fun _ => impl_digits.l0 a1 k10 l23 (w64 (i7.tdiv a1))) else (some l4)
def impl_digits.f (k : Nat) (a0 : Int) (a1 : Int) : Option (List Int) := (impl_digits.l0 a1 k ([] : List Int) a0).bind fun l4 => some l4
set_option maxHeartbeats 600000 in
set_option maxRecDepth 100000 in
theorem impl_digits.calls (k : Nat) {w0 ws : World} {P0 : Nat → Prop} (a0 : Int) (a1 : Int) (Z : Below w0.heap.size w0 ws) (hF : Fr w0 ws P0 [] ws)  (r_1 : List Int) (h : impl_digits.f k a0 a1 = some r_1) :
    Calls Try.prog 55 #[.int .i64 a0, .int .i64 a1] ws (Post1 w0 ws P0 (fun ((q_2, q_3) : (Option Addr) × Nat) => .slice q_2 r_1.length q_3) (fun ((q_2, q_3) : (Option Addr) × Nat) => [row (Kd.int .i64) 3 (.slice q_2 r_1.length q_3) r_1])) := by
  unfold impl_digits.f at h
  refine enter Try.func55 rfl Try.ntmps55 rfl hF ?_
  refine c_seq ?_
  refine za0 ?_
  refine o_q rfl rfl (q_asg rfl) ?_
  refine o_end ?_
  refine za1 ?_
  refine c_seq ?_
  refine za0 ?_
  refine o_e rfl (e_lit0 (Kd.int .i64) Try.underlying23 I3) (cur2 (fun A1 c2 => ?_))
  refine o_q rfl rfl (q_asg rfl) ?_
  refine o_end ?_
  refine za1 ?_
  refine c_seq ?_
  refine zaq ?_
  refine zab h (fun o15 hl14 hR13 => ?_) rfl
  clear h
  refine zb3 (σ := (List Int) × Int × (Option Addr) × Nat) (fun k10 ((l4, i7, A5, c6) : (List Int) × Int × (Option Addr) × Nat) => impl_digits.l0 a1 k10 l4 i7 = some o15) [0, 5, 7, 8, 9, 10, 11, 12, 13, 14, 15, 16, 17] (fun ((l4, i7, A5, c6) : (List Int) × Int × (Option Addr) × Nat) => [(0, .int .i64 i7), (5, .slice A5 l4.length c6)]) (fun ((l4, i7, A5, c6) : (List Int) × Int × (Option Addr) × Nat) => [row (Kd.int .i64) 3 (.slice A5 l4.length c6) l4]) k (([] : List Int), a0, A1, c2) hl14 ⟨rfl, rfl, trivial⟩ (fun w h => h) ?_
  refine natC (cur4 (fun l4 i7 A5 c6 => fun U16 hJ_ => ?_)) (fun k10 => (cur4 (fun l4 i7 A5 c6 => fun U16 hJ_ => ?_)))
  · skip
    replace hJ_ : impl_digits.l0 a1 0 l4 i7 = some o15 := hJ_
    rw [impl_digits.l0] at hJ_
    exact noneE hJ_
  · skip
    clear hl14
    have h := hJ_; clear hJ_
    replace h : impl_digits.l0 a1 (k10 + 1) l4 i7 = some o15 := h
    rw [impl_digits.l0] at h
    refine c_seq ?_
    refine c_seq ?_
    refine za0 ?_
    refine o_q rfl rfl (za2 rfl) ?_
    refine o_q rfl rfl (q_gtr rfl rfl) ?_
    refine o_end ?_
    refine za1 ?_
    refine zb0 _ rfl (fun hb18 => ?_) (fun hb18 => ?_)
    · skip
      replace h := br_t hb18 h
      refine zat ?_
      refine za1 ?_
      refine c_seq ?_
      refine zaq ?_
      refine za0 ?_
      refine o_q rfl rfl (za2 rfl) ?_
      refine o_q rfl rfl (za2 rfl) ?_
      refine o_q rfl rfl (za2 rfl) ?_
      refine zab h (fun _ hz19 h => ?_) rfl
      refine o_q rfl rfl (q_rem rfl rfl (nz_ne hz19)) ?_
      refine o_e rfl (e_lit (vs := [(0, .int .i64 (i7.tmod a1))]) (cs := [.int .i64 (i7.tmod a1)]) (Kd.int .i64) ([i7.tmod a1] : List Int) Try.underlying23 I3 (by decide) rfl (by decide) rfl rfl (fun _ _ => Kd.zah _)) (cur2 (fun A20 c21 => ?_))
      refine zab h (fun l23 ha24 h => ?_) rfl
      refine o_e rfl (e_app (i := 1) (j := 0) Try.underlying23 I3 rfl (by decide) (by decide) rfl rfl rfl rfl rfl ha24) (cur2 (fun A25 c26 => ?_))
      refine o_q rfl rfl (q_asg rfl) ?_
      refine o_end ?_
      refine zas ?_
      refine za1 ?_
      refine za0 ?_
      refine o_q rfl rfl (za2 rfl) ?_
      refine o_q rfl rfl (za2 rfl) ?_
      refine zab h (fun _ hz27 h => ?_) rfl
      refine o_q rfl rfl (q_quo64 rfl rfl (nz_ne hz27)) ?_
      refine o_q rfl rfl (q_asg rfl) ?_
      refine o_end ?_
      refine zar k10 (l23, w64 (i7.tdiv a1), A25, c26) (Nat.lt_succ_self _) h ⟨rfl, rfl, trivial⟩ (fun w h => za6 [1] (by decide) rfl w h) ?_
      repeat (first | exact za9 _ _ | refine zae rfl ?_ | refine zaa rfl ?_ | refine zaf rfl ?_)
    · skip
      replace h := br_f hb18 h
      refine c_exit ?_
      refine zac ?_
      refine zac ?_
      have e_ := Option.some.inj h; replace h := hR13; rw [← e_] at h; clear e_
      refine x_hit ?_
      refine za1 ?_
      refine c_seq ?_
      refine za0 ?_
      refine o_q rfl rfl (za2 rfl) ?_
      refine o_q rfl rfl (q_asg rfl) ?_
      refine o_end ?_
      refine za1 ?_
      refine c_ret ?_
      have e0_ := Option.some.inj h; clear h
      subst e0_
      exact x_r1 (A5, c6) Try.results55 (zal rfl) rfl (fun w h => za6 [0] (by decide) rfl w h)

/-! ### slices.Backward at []int, by hand -/
set_option maxRecDepth 100000 in
theorem bk_int {w : World} {P1 : Nat → Prop} (Bs : Nat) (A : Option Addr) (cap : Nat) (zs : List Int) (hR : Stable w P1 (fun W => Kd.C (Kd.int .i64) W A zs.length zs)) (hB : Stable w P1 (fun W => W.heap[Bs]? = some (.cells #[.slice A zs.length cap] 23 (0, 0)))) :
    SeqStopsK Fence.wide 2 Try.prog 116 #[.pointer (some ⟨Bs, 0, none⟩)] (fun x : BackT zs => #[Value.int .i64 x.1.1, .int .i64 x.1.2]) (KpS w P1) (fun ys => ys.map Subtype.val = bwL zs) (fun _ => True) zs.length w := by
  intro l J Jx W hW hJ hJx hY h0
  have hk0 : KeptB w W P1 := ⟨⟨hW.size, fun i hi _ => hW.block i hi⟩, hW.os, hW.tape, hW.output⟩
  have hlen : zs.length ≤ 9223372036854775807 := (hR w (KeptB.refl _ _)).2.1
  refine enterG (m := 19) Try.func116 rfl Try.ntmps116 rfl ?_
  refine wpIn_seq (wpIn_region_list ?_)
  refine g_q (fun c hc => by cases hc) rfl rfl (q_ldb (bt := 23) Y23 rfl (fun w' h' => by subst h'; exact hB _ hk0) rfl) ?_
  refine g_q (fun c hc => by cases hc) rfl rfl (q_len Try.underlying23 rfl) ?_
  refine g_q (fun c hc => by cases hc) rfl rfl (zb5 rfl rfl) ?_
  refine g_q (fun c hc => by cases hc) rfl rfl (q_asg rfl) ?_
  refine wpListIn_nil ?_
  refine wpIn_block ?_
  refine wpIn_loop_ghost (fun m a W' => ∃ (e : Nat → Value) (pre : List (BackT zs)), m ≤ zs.length ∧ a = act ⟨19, [], none⟩ e ∧ e 0 = .func (.yield l) #[] #[] ∧ e 1 = .pointer (some ⟨Bs, 0, none⟩) ∧ e 3 = .int .i64 ((m : Int) - 1) ∧ pre.map Subtype.val = (bwL zs).take (zs.length - m) ∧ J pre W' ∧ KeptB w W' P1) zs.length ⟨_, [], Nat.le_refl _, rfl, rfl, rfl, ?_, by simp, h0, hk0⟩ ?_
  · show Value.int .i64 (w64 ((zs.length : Int) - 1)) = _
    rw [zay (by omega)]
  rintro m a W' ⟨e, pre, hm, rfl, he0, he1, he3, hpre, hJp, hk⟩
  have hpl : pre.length = zs.length - m := by
    have := congrArg List.length hpre
    rw [List.length_map, List.length_take, bwL_len] at this
    omega
  refine wpIn_seq (wpIn_seq (wpIn_region_list ?_))
  refine g_q (fun c hc => by cases hc) rfl rfl (za2 he3) ?_
  refine g_q (fun c hc => by cases hc) rfl rfl (q_geq rfl rfl) ?_
  refine wpListIn_nil ?_
  cases m with
  | zero =>
    refine wpIn_cond_false rfl (wpIn_exit ?_)
    refine exth (exth (inblk ?_))
    refine ⟨rfl, _, results_none rfl _ _ _, ⟨_, rfl⟩, .inl ⟨pre, ?_, hJp⟩⟩
    show pre.map Subtype.val = _
    rw [hpre, Nat.sub_zero, List.take_of_length_le (by rw [bwL_len]; exact Nat.le_refl _)]
  | succ m =>
    refine wpIn_cond_true ?_ (wpIn_skip ?_)
    · rw [act_eval]
      show Value.bool (decide ((0 : Int) ≤ ((m + 1 : Nat) : Int) - 1)) = _
      rw [decide_eq_true (by omega)]
    refine wpIn_seq (wpIn_block (wpIn_seq (wpIn_region_list ?_)))
    have e3 : e 3 = .int .i64 (m : Int) := by rw [he3]; congr 1; omega
    have hml : m < zs.length := hm
    have hC := hR W' hk
    refine g_q (fun c hc => by cases hc) rfl rfl (za2 he0) ?_
    refine g_q (fun c hc => by cases hc) rfl rfl (za2 e3) ?_
    refine g_q (fun c hc => by cases hc) rfl rfl (q_ldb (bt := 23) Y23 he1 (fun w' h' => by subst h'; exact hB _ hk) rfl) ?_
    refine g_q (fun c hc => by cases hc) rfl rfl (za2 e3) ?_
    refine g_q (fun c hc => by cases hc) rfl rfl (q_ix (xs := zs) Try.underlying23 Z3 rfl rfl (C_sh hC) (gt_at hml)) ?_
    refine g_q (fun c hc => by cases hc) rfl rfl (q_lde (off := 0) Y3 rfl rfl (fun w' h' => by subst h'; exact hC) (gt_at hml) (fun _ _ h => h) rfl) ?_
    have hx : ∃ j : Nat, ((m : Int), zs[m]).1 = (j : Int) ∧ zs[j]? = some ((m : Int), zs[m]).2 := ⟨m, rfl, List.getElem?_eq_getElem hml⟩
    refine g_yield rfl rfl rfl rfl (hY pre ⟨((m : Int), zs[m]), hx⟩ W' hJp (by omega)) (fun e w' h => by rcases h with ⟨rfl, _⟩ | ⟨rfl, _⟩ <;> exact ⟨_, rfl⟩) ?_
    rintro v W3 (⟨hv, hJ3, hk3⟩ | ⟨hv, hJx3⟩)
    · obtain rfl := Ending.returned.inj hv
      refine g_q (fun c hc => by cases hc) rfl rfl (q_not rfl) ?_
      refine wpListIn_nil ?_
      refine wpIn_cond_false rfl (wpIn_skip ?_)
      refine wpIn_region_list ?_
      refine g_q (fun c hc => by cases hc) rfl rfl (za2 e3) ?_
      refine g_q (fun c hc => by cases hc) rfl rfl (zb5 rfl rfl) ?_
      refine g_q (fun c hc => by cases hc) rfl rfl (q_asg rfl) ?_
      refine wpListIn_nil ?_
      refine ⟨m, Nat.lt_succ_self m, _, pre ++ [⟨((m : Int), zs[m]), hx⟩], by omega, rfl, he0, he1, ?_, ?_, hJ3, hk3 hk⟩
      · show Value.int .i64 (w64 ((m : Int) - 1)) = _
        rw [zay (by omega)]
      · rw [List.map_append, hpre]
        have ht := bwL_take zs (zs.length - (m + 1)) (by omega)
        have ei : zs.length - 1 - (zs.length - (m + 1)) = m := by omega
        rw [show zs.length - (m + 1) + 1 = zs.length - m by omega] at ht
        rw [ht]
        congr 1
        simp only [ei, List.map_cons, List.map_nil]
    · obtain rfl := Ending.returned.inj hv
      refine g_q (fun c hc => by cases hc) rfl rfl (q_not rfl) ?_
      refine wpListIn_nil ?_
      refine wpIn_cond_true rfl (wpIn_ret ?_)
      exact ⟨rfl, _, results_none rfl _ _ _, ⟨_, rfl⟩, .inr ⟨_, trivial, hJx3⟩⟩
theorem bkc_int.calls {w0 ws : World} {P0 : Nat → Prop} (A : Option Addr) (n c : Nat) (hF : Fr w0 ws P0 [] ws) : Calls Try.prog 58 #[.slice A n c] ws (Post1 w0 ws P0 (fun (q : Nat) => .func (.func 116) #[] #[.pointer (some ⟨q, 0, none⟩)]) (fun (q : Nat) => [box q 23 #[.slice A n c]])) := by
  refine enter Try.func58 rfl Try.ntmps58 rfl hF ?_
  refine c_seq ?_
  refine za0 ?_
  refine o_e rfl (e_box rfl) (fun g1 => ?_)
  refine o_q rfl rfl (q_asg rfl) ?_
  refine o_end ?_
  refine za1 ?_
  refine c_seq ?_
  refine za0 ?_
  refine o_q rfl rfl (q_func (f := .func 116) (a := []) (b := [.tmp 1]) rfl rfl) ?_
  refine o_q rfl rfl (q_asg rfl) ?_
  refine o_end ?_
  refine za1 ?_
  refine c_ret ?_
  exact x_r1 g1 Try.results58 (zal rfl) rfl (fun w h => h)

def bw_int.f (l0 : List Int) : Option Unit := some ()
theorem bw_int.calls {w0 ws : World} {P0 : Nat → Prop} (A0 : Option Addr) (c0 : Nat) (n0 : Nat) (l0 : List Int) (Z : Below w0.heap.size w0 ws) (hF : Fr w0 ws P0 [] ws) (R0 : Stable ws P0 (fun w => Kd.C (Kd.int .i64) w A0 n0 l0)) (hc0 : n0 ≤ c0) (h : bw_int.f l0 = some ()) :
    Calls Try.prog 58 #[.slice A0 n0 c0] ws (Post1 w0 ws P0 (fun (q : Nat) => .func (.func 116) #[] #[.pointer (some ⟨q, 0, none⟩)]) (fun (q : Nat) => [box q 23 #[.slice A0 n0 c0]])) := bkc_int.calls A0 n0 c0 hF

/-! ### loop.example/g01098/impl.WindowPlan: function 11 -/
def impl_WindowPlan.r1 (a1 : Int) (l1466 : List Int) : Int × Int → ((List SStep) × Int) → Option ((List SStep) × Int)
  | (ix_, y_), (l2276, i2279) => (impl_maker_squared.f 1 l2276 [] i2279 a1).bind fun (i2284, l2285) => if 0 < y_ then ((gt l1466 y_).bind fun y2291 => (impl_maker_multiply.f 1 l2285 [] i2284 y2291).bind fun (i2293, l2294) => some (l2294, i2293)) else (some (l2285, i2284))
def impl_WindowPlan.l0 (k : Nat) (l731 : List Int) : Nat → (List SStep) → (List Int) → Option ((List SStep) × (List Int))
  | 0, _, _ => none
  | k1471 + 1, l1463, l1466 => (slices_Max_int_int.f k l731).bind fun i1480 => if (l1466.length : Int) ≤ i1480 then ((gt l1466 (w64 ((l1466.length : Int) - 1))).bind fun y1845 => (impl_maker_multiply.f 1 l1463 [] y1845 0).bind fun (i1964, l1965) => (ap l1466 ([i1964] : List Int)).bind fun l2083 => impl_WindowPlan.l0 k l731 k1471 l1965 l2083) else (some (l1463, l1466))
def impl_WindowPlan.f (k : Nat) (a0 : Int) (a1 : Int) : Option (Int × (List SStep) × (List Int) × Bool) := (impl_windowOk.f a0 a1).bind fun b6 => if b6 = true then (((impl_newMaker.f 1).bind fun _ => (nn a1).bind fun _ => (impl_digits.f k a0 (IntKind.i64.wrap (1 * 2 ^ min (a1 : Int).toNat IntKind.i64.bits))).bind fun l984 => some l984).bind fun l731 => (impl_WindowPlan.l0 k l731 k [] ([(-1), 0] : List Int)).bind fun (l1463, l1466) => (gt l731 (w64 ((l731.length : Int) - 1))).bind fun y2265 => (gt l1466 y2265).bind fun y2268 => (ct l731 (0 : Int) (w64 ((l731.length : Int) - 1))).bind fun l2271 => (bw_int.f l2271).bind fun _ => (rngB l2271 (impl_WindowPlan.r1 a1 l1466) (l1463, y2268)).bind fun (l2281, i2282) => (impl_maker_plan.f 1 l2281 [] ([i2282] : List Int)).bind fun _ => (impl_Plan_trimmed.f 1 l2281 ([i2282] : List Int)).bind fun (l2304, l2305) => (impl_told.f k 1 l2304 l2305).bind fun (i2311, l2312, l2313, b2314) => some (i2311, l2312, l2313, b2314)) else (some (0, ([] : List SStep), ([] : List Int), false))
set_option maxHeartbeats 8000000 in
set_option maxRecDepth 100000 in
theorem impl_WindowPlan.calls (k : Nat) {w0 ws : World} {P0 : Nat → Prop} (a0 : Int) (a1 : Int) (Z : Below w0.heap.size w0 ws) (hF : Fr w0 ws P0 [] ws)  (r_1 : Int) (r_2 : List SStep) (r_5 : List Int) (r_8 : Bool) (h : impl_WindowPlan.f k a0 a1 = some (r_1, r_2, r_5, r_8)) :
    Calls Try.prog 11 #[.int .i64 a0, .int .i64 a1] ws (Post1 w0 ws P0 (fun ((q_3, q_4, q_6, q_7) : (Option Addr) × Nat × (Option Addr) × Nat) => .tuple #[.agg #[.int .i64 r_1, .slice q_3 r_2.length q_4, .slice q_6 r_5.length q_7], .bool r_8]) (fun ((q_3, q_4, q_6, q_7) : (Option Addr) × Nat × (Option Addr) × Nat) => [row kStep 107 (.slice q_3 r_2.length q_4) r_2, row (Kd.int .i64) 3 (.slice q_6 r_5.length q_7) r_5])) := by
  unfold impl_WindowPlan.f at h
  refine enterM Try.func11 rfl Try.ntmps11 rfl hF ?_
  refine c_seq ?_
  refine za0 ?_
  refine o_e rfl (e_box rfl) (fun g1 => ?_)
  refine o_e rfl (zam V25 rfl) (fun g3 => ?_)
  refine o_q rfl rfl (q_asg rfl) ?_
  refine o_end ?_
  refine za1 ?_
  refine c_seq ?_
  refine c_seq ?_
  refine za0 ?_
  refine o_q rfl rfl (za2 rfl) ?_
  refine o_q rfl rfl (q_ldb Y3 rfl (fun w h => h.zaj (i := 1) rfl) rfl) ?_
  refine zab h (fun b6 hx5 h => ?_) rfl
  refine o_e rfl (za8 0 Z Try.func53 N53 rfl rfl rfl (fun w P1 hF hB hS hT => impl_windowOk.calls a0 a1 hB hF _ hx5)) (fun _ => ?_)
  refine o_q rfl rfl (q_not rfl) ?_
  refine o_end ?_
  refine za1 ?_
  refine zb0 _ rfl (fun hb7 => ?_) (fun hb7 => ?_)
  · replace hb7 := nt_t hb7
    replace h := bb_f hb7 h
    refine c_seq ?_
    refine za0 ?_
    refine o_q rfl rfl (q_build (vs := []) (cs := [.int .i64 0, .slice none 0 0, .slice none 0 0]) rfl rfl) ?_
    refine o_e rfl (zav (i := 0) rfl rfl rfl Z25 rfl rfl) (fun _ => ?_)
    refine o_q rfl rfl (q_asg rfl) ?_
    refine o_end ?_
    refine za1 ?_
    refine c_ret ?_
    refine zai ?_
    refine x_nil kStep 107 ?_
    refine x_nil (Kd.int .i64) 3 ?_
    have e0_ := Option.some.inj h; clear h
    have d0_ := (Prod.mk.inj e0_).1; have e1_ := (Prod.mk.inj e0_).2; clear e0_; subst d0_
    have d1_ := (Prod.mk.inj e1_).1; have e2_ := (Prod.mk.inj e1_).2; clear e1_; subst d1_
    have d2_ := (Prod.mk.inj e2_).1; have e3_ := (Prod.mk.inj e2_).2; clear e2_; subst d2_
    subst e3_
    refine x_plainM (.inl rfl) ?_
    exact x_r2 (none, 0, none, 0) Try.results11 (rv_cell rfl G25 Z25 (fun w h => h.zaj (i := 2) rfl) rfl) (zal rfl) rfl (fun w h => za6 [1, 0] (by decide) rfl w h)
  · replace hb7 := nt_f hb7
    replace h := bb_t hb7 h
    refine zat ?_
    refine za1 ?_
    refine zab h (fun o737 hl738 hR739 => ?_) rfl
    clear h
    refine c_cutJ (σ := (List Int) × Nat × Nat × (Option Addr) × Nat × Nat × (Option Addr) × Nat) (fun (l731, g729, g730, A732, c733, g734, A735, c736) => some l731 = some o737) [6, 7, 8, 18, 19, 20, 21, 22, 23] (fun (l731, g729, g730, A732, c733, g734, A735, c736) => [(6, .pointer (some ⟨g729, 0, none⟩)), (7, .slice A732 l731.length c733), (8, .pointer (some ⟨g734, 0, none⟩))]) (fun (l731, g729, g730, A732, c733, g734, A735, c736) => [box g1 3 #[.int .i64 a1], box g3 25 #[.int .i64 0, .slice none 0 0, .slice none 0 0], box g729 60 #[.pointer (some ⟨g730, 0, none⟩)], box g730 94 #[.int .i64 1, .slice none 0 0, .slice none 0 0], row kStep 107 (.slice none 0 0) [], row (Kd.int .i64) 3 (.slice none 0 0) [], row (Kd.int .i64) 3 (.slice A732 l731.length c733) l731, box g734 23 #[.slice A735 (([(-1), 0] : List Int).length) c736], row (Kd.int .i64) 3 (.slice A735 (([(-1), 0] : List Int).length) c736) ([(-1), 0] : List Int)]) ?_ ?_
    · skip
      have h := hl738; clear hl738
      clear hR739
      refine zab h (fun _ hx743 h => ?_) rfl
      refine zab h (fun _ hz923 h => ?_) rfl
      refine zab h (fun l984 hx983 h => ?_) rfl
      refine a_start (ds := []) MO rfl ?_
      refine za7 1 rfl rfl rfl (by kernel_rfl) (fun _ _ _ h => h) (za2 rfl) ?_
      refine zb2 2 rfl rfl rfl (by kernel_rfl) (fun _ _ _ h => h) (fun w h => h) (q_ldb Y3 rfl (fun w h => h.zaj (i := 1) rfl) rfl) ?_
      refine za7 3 rfl rfl rfl (by kernel_rfl) (fun _ _ _ h => h) (q_shl rfl rfl (nn_le hz923)) ?_
      refine a_four 0 5 6 7 rfl rfl rfl rfl rfl rfl rfl rfl (by kernel_rfl) rfl rfl rfl rfl (za8 0 Z Try.func54 N54 rfl rfl rfl (fun w P1 hF hB hS hT => impl_newMaker.calls 1 hB hF hx743)) (fun s w h => za3 [some 3, some 4] (by decide) w h rfl) (e_lit (vs := [(0, .int .i64 (-1)), (1, .int .i64 0)]) (cs := [.int .i64 (-1), .int .i64 0]) (Kd.int .i64) ([(-1), 0] : List Int) Try.underlying23 I3 (by decide) rfl (by decide) rfl rfl (fun _ _ => Kd.zah _)) (fun s w h => za3 [some 1, some 2] (by decide) w h rfl) (zam V60 rfl) (fun s w h => za3 [some 1, some 2] (by decide) w h rfl) (zam V23 rfl) (fun s w h => za3 [some 1, some 2] (by decide) w h rfl) (fun c744 => ?_) (cur2 (fun A1043 c1044 => ?_)) (fun g1103 => ?_) (fun g1163 => ?_)
      · skip
        refine a_four 4 5 6 7 rfl rfl rfl rfl rfl rfl rfl rfl (by kernel_rfl) rfl rfl rfl rfl (za8 0 Z Try.func55 N55 rfl rfl rfl (fun w P1 hF hB hS hT => impl_digits.calls k a0 (IntKind.i64.wrap (1 * 2 ^ min (a1 : Int).toNat IntKind.i64.bits)) hB hF _ hx983)) (fun s w h => za3 [some 4, some 5] (by decide) w h rfl) (e_lit (vs := [(0, .int .i64 (-1)), (1, .int .i64 0)]) (cs := [.int .i64 (-1), .int .i64 0]) (Kd.int .i64) ([(-1), 0] : List Int) Try.underlying23 I3 (by decide) rfl (by decide) rfl rfl (fun _ _ => Kd.zah _)) (fun s w h => za3 [some 4, some 5] (by decide) w h rfl) (zam V60 rfl) (fun s w h => za3 [some 4, some 5] (by decide) w h rfl) (zam V23 rfl) (fun s w h => za3 [some 4, some 5] (by decide) w h rfl) (cur2 (fun A985 c986 => ?_)) (cur2 (fun A1043 c1044 => ?_)) (fun g1103 => ?_) (fun g1163 => ?_)
        · skip
          refine a_three 5 6 7 rfl rfl rfl rfl rfl rfl (by kernel_rfl) rfl rfl rfl (e_lit (vs := [(0, .int .i64 (-1)), (1, .int .i64 0)]) (cs := [.int .i64 (-1), .int .i64 0]) (Kd.int .i64) ([(-1), 0] : List Int) Try.underlying23 I3 (by decide) rfl (by decide) rfl rfl (fun _ _ => Kd.zah _)) (fun s w h => za3 [some 5, some 6] (by decide) w h rfl) (zam V60 rfl) (fun s w h => za3 [some 5, some 6] (by decide) w h rfl) (zam V23 rfl) (fun s w h => za3 [some 5, some 6] (by decide) w h rfl) (cur2 (fun A1043 c1044 => ?_)) (fun g1103 => ?_) (fun g1163 => ?_)
          · skip
            refine a_two 6 7 rfl rfl rfl rfl (by kernel_rfl) rfl rfl (zam V60 rfl) (fun s w h => za3 [some 6, some 7] (by decide) w h rfl) (zam V23 rfl) (fun s w h => za3 [some 6, some 7] (by decide) w h rfl) (fun g1103 => ?_) (fun g1163 => ?_)
            · skip
              refine a_one 7 rfl rfl (by kernel_rfl) rfl (zam V23 rfl) (fun s w h => za3 [some 7, some 8] (by decide) w h rfl) (fun g1163 => ?_)
              refine a_one 8 rfl rfl (by kernel_rfl) rfl (zad (i := 1) rfl rfl rfl rfl Z60 rfl rfl) (fun s w h => za3 [some 7, some 8] (by decide) w h rfl) (fun _ => ?_)
              refine za7 9 rfl rfl rfl (by kernel_rfl) (fun _ _ _ h => h) (q_asg rfl) ?_
              refine a_one 10 rfl rfl (by kernel_rfl) rfl (zad (i := 0) rfl rfl rfl rfl Z23 rfl rfl) (fun s w h => za3 [some 7, some 8] (by decide) w h rfl) (fun _ => ?_)
              refine zan (by kernel_rfl) ?_
              refine zao (l984, g1103, c744, A985, c986, g1163, A1043, c1044) h ⟨rfl, rfl, rfl, trivial⟩ (fun w h => za6 [8, 7, 1, 4, 5, 6, 3, 0, 2] (by decide) rfl w h) ?_
              repeat (first | exact za9 _ _ | refine zae rfl ?_ | refine zaa rfl ?_ | refine zaf rfl ?_)
            · skip
              refine a_one 6 rfl rfl (by kernel_rfl) rfl (zam V60 rfl) (fun s w h => za3 [some 7, some 8] (by decide) w h rfl) (fun g1103 => ?_)
              refine a_one 8 rfl rfl (by kernel_rfl) rfl (zad (i := 0) rfl rfl rfl rfl Z60 rfl rfl) (fun s w h => za3 [some 7, some 8] (by decide) w h rfl) (fun _ => ?_)
              refine za7 9 rfl rfl rfl (by kernel_rfl) (fun _ _ _ h => h) (q_asg rfl) ?_
              refine a_one 10 rfl rfl (by kernel_rfl) rfl (zad (i := 1) rfl rfl rfl rfl Z23 rfl rfl) (fun s w h => za3 [some 7, some 8] (by decide) w h rfl) (fun _ => ?_)
              refine zan (by kernel_rfl) ?_
              refine zao (l984, g1103, c744, A985, c986, g1163, A1043, c1044) h ⟨rfl, rfl, rfl, trivial⟩ (fun w h => za6 [8, 7, 0, 4, 5, 6, 3, 1, 2] (by decide) rfl w h) ?_
              repeat (first | exact za9 _ _ | refine zae rfl ?_ | refine zaa rfl ?_ | refine zaf rfl ?_)
          · skip
            refine a_two 5 7 rfl rfl rfl rfl (by kernel_rfl) rfl rfl (e_lit (vs := [(0, .int .i64 (-1)), (1, .int .i64 0)]) (cs := [.int .i64 (-1), .int .i64 0]) (Kd.int .i64) ([(-1), 0] : List Int) Try.underlying23 I3 (by decide) rfl (by decide) rfl rfl (fun _ _ => Kd.zah _)) (fun s w h => za3 [some 6, some 7] (by decide) w h rfl) (zam V23 rfl) (fun s w h => za3 [some 6, some 7] (by decide) w h rfl) (cur2 (fun A1043 c1044 => ?_)) (fun g1163 => ?_)
            · skip
              refine a_one 7 rfl rfl (by kernel_rfl) rfl (zam V23 rfl) (fun s w h => za3 [some 7, some 8] (by decide) w h rfl) (fun g1163 => ?_)
              refine a_one 8 rfl rfl (by kernel_rfl) rfl (zad (i := 2) rfl rfl rfl rfl Z60 rfl rfl) (fun s w h => za3 [some 7, some 8] (by decide) w h rfl) (fun _ => ?_)
              refine za7 9 rfl rfl rfl (by kernel_rfl) (fun _ _ _ h => h) (q_asg rfl) ?_
              refine a_one 10 rfl rfl (by kernel_rfl) rfl (zad (i := 0) rfl rfl rfl rfl Z23 rfl rfl) (fun s w h => za3 [some 7, some 8] (by decide) w h rfl) (fun _ => ?_)
              refine zan (by kernel_rfl) ?_
              refine zao (l984, g1103, c744, A985, c986, g1163, A1043, c1044) h ⟨rfl, rfl, rfl, trivial⟩ (fun w h => za6 [8, 7, 2, 4, 5, 6, 3, 0, 1] (by decide) rfl w h) ?_
              repeat (first | exact za9 _ _ | refine zae rfl ?_ | refine zaa rfl ?_ | refine zaf rfl ?_)
            · skip
              refine a_two 5 8 rfl rfl rfl rfl (by kernel_rfl) rfl rfl (e_lit (vs := [(0, .int .i64 (-1)), (1, .int .i64 0)]) (cs := [.int .i64 (-1), .int .i64 0]) (Kd.int .i64) ([(-1), 0] : List Int) Try.underlying23 I3 (by decide) rfl (by decide) rfl rfl (fun _ _ => Kd.zah _)) (fun s w h => za3 [some 7, some 8] (by decide) w h rfl) (zad (i := 1) rfl rfl rfl rfl Z60 rfl rfl) (fun s w h => za3 [some 6, some 7] (by decide) w h rfl) (cur2 (fun A1043 c1044 => ?_)) (fun _ => ?_)
              · skip
                refine a_one 8 rfl rfl (by kernel_rfl) rfl (zad (i := 2) rfl rfl rfl rfl Z60 rfl rfl) (fun s w h => za3 [some 7, some 8] (by decide) w h rfl) (fun _ => ?_)
                refine za7 9 rfl rfl rfl (by kernel_rfl) (fun _ _ _ h => h) (q_asg rfl) ?_
                refine a_one 10 rfl rfl (by kernel_rfl) rfl (zad (i := 1) rfl rfl rfl rfl Z23 rfl rfl) (fun s w h => za3 [some 7, some 8] (by decide) w h rfl) (fun _ => ?_)
                refine zan (by kernel_rfl) ?_
                refine zao (l984, g1103, c744, A985, c986, g1163, A1043, c1044) h ⟨rfl, rfl, rfl, trivial⟩ (fun w h => za6 [8, 7, 2, 4, 5, 6, 3, 1, 0] (by decide) rfl w h) ?_
                repeat (first | exact za9 _ _ | refine zae rfl ?_ | refine zaa rfl ?_ | refine zaf rfl ?_)
              · skip
                refine za7 9 rfl rfl rfl (by kernel_rfl) (fun _ _ _ h => h) (q_asg rfl) ?_
                refine a_one 5 rfl rfl (by kernel_rfl) rfl (e_lit (vs := [(0, .int .i64 (-1)), (1, .int .i64 0)]) (cs := [.int .i64 (-1), .int .i64 0]) (Kd.int .i64) ([(-1), 0] : List Int) Try.underlying23 I3 (by decide) rfl (by decide) rfl rfl (fun _ _ => Kd.zah _)) (fun s w h => za3 [some 7, some 8] (by decide) w h rfl) (cur2 (fun A1043 c1044 => ?_))
                refine a_one 10 rfl rfl (by kernel_rfl) rfl (zad (i := 1) rfl rfl rfl rfl Z23 rfl rfl) (fun s w h => za3 [some 7, some 8] (by decide) w h rfl) (fun _ => ?_)
                refine zan (by kernel_rfl) ?_
                refine zao (l984, g1103, c744, A985, c986, g1163, A1043, c1044) h ⟨rfl, rfl, rfl, trivial⟩ (fun w h => za6 [8, 7, 2, 4, 5, 6, 3, 1, 0] (by decide) rfl w h) ?_
                repeat (first | exact za9 _ _ | refine zae rfl ?_ | refine zaa rfl ?_ | refine zaf rfl ?_)
          · skip
            refine a_two 5 6 rfl rfl rfl rfl (by kernel_rfl) rfl rfl (e_lit (vs := [(0, .int .i64 (-1)), (1, .int .i64 0)]) (cs := [.int .i64 (-1), .int .i64 0]) (Kd.int .i64) ([(-1), 0] : List Int) Try.underlying23 I3 (by decide) rfl (by decide) rfl rfl (fun _ _ => Kd.zah _)) (fun s w h => za3 [some 6, some 7] (by decide) w h rfl) (zam V60 rfl) (fun s w h => za3 [some 6, some 7] (by decide) w h rfl) (cur2 (fun A1043 c1044 => ?_)) (fun g1103 => ?_)
            · skip
              refine a_one 6 rfl rfl (by kernel_rfl) rfl (zam V60 rfl) (fun s w h => za3 [some 7, some 8] (by decide) w h rfl) (fun g1103 => ?_)
              refine a_one 8 rfl rfl (by kernel_rfl) rfl (zad (i := 0) rfl rfl rfl rfl Z60 rfl rfl) (fun s w h => za3 [some 7, some 8] (by decide) w h rfl) (fun _ => ?_)
              refine za7 9 rfl rfl rfl (by kernel_rfl) (fun _ _ _ h => h) (q_asg rfl) ?_
              refine a_one 10 rfl rfl (by kernel_rfl) rfl (zad (i := 2) rfl rfl rfl rfl Z23 rfl rfl) (fun s w h => za3 [some 7, some 8] (by decide) w h rfl) (fun _ => ?_)
              refine zan (by kernel_rfl) ?_
              refine zao (l984, g1103, c744, A985, c986, g1163, A1043, c1044) h ⟨rfl, rfl, rfl, trivial⟩ (fun w h => za6 [8, 7, 0, 4, 5, 6, 3, 2, 1] (by decide) rfl w h) ?_
              repeat (first | exact za9 _ _ | refine zae rfl ?_ | refine zaa rfl ?_ | refine zaf rfl ?_)
            · skip
              refine a_two 5 8 rfl rfl rfl rfl (by kernel_rfl) rfl rfl (e_lit (vs := [(0, .int .i64 (-1)), (1, .int .i64 0)]) (cs := [.int .i64 (-1), .int .i64 0]) (Kd.int .i64) ([(-1), 0] : List Int) Try.underlying23 I3 (by decide) rfl (by decide) rfl rfl (fun _ _ => Kd.zah _)) (fun s w h => za3 [some 7, some 8] (by decide) w h rfl) (zad (i := 0) rfl rfl rfl rfl Z60 rfl rfl) (fun s w h => za3 [some 6, some 7] (by decide) w h rfl) (cur2 (fun A1043 c1044 => ?_)) (fun _ => ?_)
              · skip
                refine a_one 8 rfl rfl (by kernel_rfl) rfl (zad (i := 1) rfl rfl rfl rfl Z60 rfl rfl) (fun s w h => za3 [some 7, some 8] (by decide) w h rfl) (fun _ => ?_)
                refine za7 9 rfl rfl rfl (by kernel_rfl) (fun _ _ _ h => h) (q_asg rfl) ?_
                refine a_one 10 rfl rfl (by kernel_rfl) rfl (zad (i := 2) rfl rfl rfl rfl Z23 rfl rfl) (fun s w h => za3 [some 7, some 8] (by decide) w h rfl) (fun _ => ?_)
                refine zan (by kernel_rfl) ?_
                refine zao (l984, g1103, c744, A985, c986, g1163, A1043, c1044) h ⟨rfl, rfl, rfl, trivial⟩ (fun w h => za6 [8, 7, 1, 4, 5, 6, 3, 2, 0] (by decide) rfl w h) ?_
                repeat (first | exact za9 _ _ | refine zae rfl ?_ | refine zaa rfl ?_ | refine zaf rfl ?_)
              · skip
                refine za7 9 rfl rfl rfl (by kernel_rfl) (fun _ _ _ h => h) (q_asg rfl) ?_
                refine a_one 5 rfl rfl (by kernel_rfl) rfl (e_lit (vs := [(0, .int .i64 (-1)), (1, .int .i64 0)]) (cs := [.int .i64 (-1), .int .i64 0]) (Kd.int .i64) ([(-1), 0] : List Int) Try.underlying23 I3 (by decide) rfl (by decide) rfl rfl (fun _ _ => Kd.zah _)) (fun s w h => za3 [some 7, some 8] (by decide) w h rfl) (cur2 (fun A1043 c1044 => ?_))
                refine a_one 10 rfl rfl (by kernel_rfl) rfl (zad (i := 2) rfl rfl rfl rfl Z23 rfl rfl) (fun s w h => za3 [some 7, some 8] (by decide) w h rfl) (fun _ => ?_)
                refine zan (by kernel_rfl) ?_
                refine zao (l984, g1103, c744, A985, c986, g1163, A1043, c1044) h ⟨rfl, rfl, rfl, trivial⟩ (fun w h => za6 [8, 7, 1, 4, 5, 6, 3, 2, 0] (by decide) rfl w h) ?_
                repeat (first | exact za9 _ _ | refine zae rfl ?_ | refine zaa rfl ?_ | refine zaf rfl ?_)
        · skip
          refine a_three 4 6 7 rfl rfl rfl rfl rfl rfl (by kernel_rfl) rfl rfl rfl (za8 0 Z Try.func55 N55 rfl rfl rfl (fun w P1 hF hB hS hT => impl_digits.calls k a0 (IntKind.i64.wrap (1 * 2 ^ min (a1 : Int).toNat IntKind.i64.bits)) hB hF _ hx983)) (fun s w h => za3 [some 5, some 6] (by decide) w h rfl) (zam V60 rfl) (fun s w h => za3 [some 5, some 6] (by decide) w h rfl) (zam V23 rfl) (fun s w h => za3 [some 5, some 6] (by decide) w h rfl) (cur2 (fun A985 c986 => ?_)) (fun g1103 => ?_) (fun g1163 => ?_)
          · skip
            refine a_two 6 7 rfl rfl rfl rfl (by kernel_rfl) rfl rfl (zam V60 rfl) (fun s w h => za3 [some 6, some 7] (by decide) w h rfl) (zam V23 rfl) (fun s w h => za3 [some 6, some 7] (by decide) w h rfl) (fun g1103 => ?_) (fun g1163 => ?_)
            · skip
              refine a_one 7 rfl rfl (by kernel_rfl) rfl (zam V23 rfl) (fun s w h => za3 [some 7, some 8] (by decide) w h rfl) (fun g1163 => ?_)
              refine a_one 8 rfl rfl (by kernel_rfl) rfl (zad (i := 1) rfl rfl rfl rfl Z60 rfl rfl) (fun s w h => za3 [some 7, some 8] (by decide) w h rfl) (fun _ => ?_)
              refine za7 9 rfl rfl rfl (by kernel_rfl) (fun _ _ _ h => h) (q_asg rfl) ?_
              refine a_one 10 rfl rfl (by kernel_rfl) rfl (zad (i := 0) rfl rfl rfl rfl Z23 rfl rfl) (fun s w h => za3 [some 7, some 8] (by decide) w h rfl) (fun _ => ?_)
              refine zan (by kernel_rfl) ?_
              refine zao (l984, g1103, c744, A985, c986, g1163, A1043, c1044) h ⟨rfl, rfl, rfl, trivial⟩ (fun w h => za6 [8, 7, 1, 4, 5, 6, 2, 0, 3] (by decide) rfl w h) ?_
              repeat (first | exact za9 _ _ | refine zae rfl ?_ | refine zaa rfl ?_ | refine zaf rfl ?_)
            · skip
              refine a_one 6 rfl rfl (by kernel_rfl) rfl (zam V60 rfl) (fun s w h => za3 [some 7, some 8] (by decide) w h rfl) (fun g1103 => ?_)
              refine a_one 8 rfl rfl (by kernel_rfl) rfl (zad (i := 0) rfl rfl rfl rfl Z60 rfl rfl) (fun s w h => za3 [some 7, some 8] (by decide) w h rfl) (fun _ => ?_)
              refine za7 9 rfl rfl rfl (by kernel_rfl) (fun _ _ _ h => h) (q_asg rfl) ?_
              refine a_one 10 rfl rfl (by kernel_rfl) rfl (zad (i := 1) rfl rfl rfl rfl Z23 rfl rfl) (fun s w h => za3 [some 7, some 8] (by decide) w h rfl) (fun _ => ?_)
              refine zan (by kernel_rfl) ?_
              refine zao (l984, g1103, c744, A985, c986, g1163, A1043, c1044) h ⟨rfl, rfl, rfl, trivial⟩ (fun w h => za6 [8, 7, 0, 4, 5, 6, 2, 1, 3] (by decide) rfl w h) ?_
              repeat (first | exact za9 _ _ | refine zae rfl ?_ | refine zaa rfl ?_ | refine zaf rfl ?_)
          · skip
            refine a_two 4 7 rfl rfl rfl rfl (by kernel_rfl) rfl rfl (za8 0 Z Try.func55 N55 rfl rfl rfl (fun w P1 hF hB hS hT => impl_digits.calls k a0 (IntKind.i64.wrap (1 * 2 ^ min (a1 : Int).toNat IntKind.i64.bits)) hB hF _ hx983)) (fun s w h => za3 [some 6, some 7] (by decide) w h rfl) (zam V23 rfl) (fun s w h => za3 [some 6, some 7] (by decide) w h rfl) (cur2 (fun A985 c986 => ?_)) (fun g1163 => ?_)
            · skip
              refine a_one 7 rfl rfl (by kernel_rfl) rfl (zam V23 rfl) (fun s w h => za3 [some 7, some 8] (by decide) w h rfl) (fun g1163 => ?_)
              refine a_one 8 rfl rfl (by kernel_rfl) rfl (zad (i := 2) rfl rfl rfl rfl Z60 rfl rfl) (fun s w h => za3 [some 7, some 8] (by decide) w h rfl) (fun _ => ?_)
              refine za7 9 rfl rfl rfl (by kernel_rfl) (fun _ _ _ h => h) (q_asg rfl) ?_
              refine a_one 10 rfl rfl (by kernel_rfl) rfl (zad (i := 0) rfl rfl rfl rfl Z23 rfl rfl) (fun s w h => za3 [some 7, some 8] (by decide) w h rfl) (fun _ => ?_)
              refine zan (by kernel_rfl) ?_
              refine zao (l984, g1103, c744, A985, c986, g1163, A1043, c1044) h ⟨rfl, rfl, rfl, trivial⟩ (fun w h => za6 [8, 7, 2, 4, 5, 6, 1, 0, 3] (by decide) rfl w h) ?_
              repeat (first | exact za9 _ _ | refine zae rfl ?_ | refine zaa rfl ?_ | refine zaf rfl ?_)
            · skip
              refine a_one 4 rfl rfl (by kernel_rfl) rfl (za8 0 Z Try.func55 N55 rfl rfl rfl (fun w P1 hF hB hS hT => impl_digits.calls k a0 (IntKind.i64.wrap (1 * 2 ^ min (a1 : Int).toNat IntKind.i64.bits)) hB hF _ hx983)) (fun s w h => za3 [some 7, some 8] (by decide) w h rfl) (cur2 (fun A985 c986 => ?_))
              refine a_one 8 rfl rfl (by kernel_rfl) rfl (zad (i := 2) rfl rfl rfl rfl Z60 rfl rfl) (fun s w h => za3 [some 7, some 8] (by decide) w h rfl) (fun _ => ?_)
              refine za7 9 rfl rfl rfl (by kernel_rfl) (fun _ _ _ h => h) (q_asg rfl) ?_
              refine a_one 10 rfl rfl (by kernel_rfl) rfl (zad (i := 1) rfl rfl rfl rfl Z23 rfl rfl) (fun s w h => za3 [some 7, some 8] (by decide) w h rfl) (fun _ => ?_)
              refine zan (by kernel_rfl) ?_
              refine zao (l984, g1103, c744, A985, c986, g1163, A1043, c1044) h ⟨rfl, rfl, rfl, trivial⟩ (fun w h => za6 [8, 7, 2, 4, 5, 6, 0, 1, 3] (by decide) rfl w h) ?_
              repeat (first | exact za9 _ _ | refine zae rfl ?_ | refine zaa rfl ?_ | refine zaf rfl ?_)
          · skip
            refine a_two 4 6 rfl rfl rfl rfl (by kernel_rfl) rfl rfl (za8 0 Z Try.func55 N55 rfl rfl rfl (fun w P1 hF hB hS hT => impl_digits.calls k a0 (IntKind.i64.wrap (1 * 2 ^ min (a1 : Int).toNat IntKind.i64.bits)) hB hF _ hx983)) (fun s w h => za3 [some 6, some 7] (by decide) w h rfl) (zam V60 rfl) (fun s w h => za3 [some 6, some 7] (by decide) w h rfl) (cur2 (fun A985 c986 => ?_)) (fun g1103 => ?_)
            · skip
              refine a_one 6 rfl rfl (by kernel_rfl) rfl (zam V60 rfl) (fun s w h => za3 [some 7, some 8] (by decide) w h rfl) (fun g1103 => ?_)
              refine a_one 8 rfl rfl (by kernel_rfl) rfl (zad (i := 0) rfl rfl rfl rfl Z60 rfl rfl) (fun s w h => za3 [some 7, some 8] (by decide) w h rfl) (fun _ => ?_)
              refine za7 9 rfl rfl rfl (by kernel_rfl) (fun _ _ _ h => h) (q_asg rfl) ?_
              refine a_one 10 rfl rfl (by kernel_rfl) rfl (zad (i := 2) rfl rfl rfl rfl Z23 rfl rfl) (fun s w h => za3 [some 7, some 8] (by decide) w h rfl) (fun _ => ?_)
              refine zan (by kernel_rfl) ?_
              refine zao (l984, g1103, c744, A985, c986, g1163, A1043, c1044) h ⟨rfl, rfl, rfl, trivial⟩ (fun w h => za6 [8, 7, 0, 4, 5, 6, 1, 2, 3] (by decide) rfl w h) ?_
              repeat (first | exact za9 _ _ | refine zae rfl ?_ | refine zaa rfl ?_ | refine zaf rfl ?_)
            · skip
              refine a_one 4 rfl rfl (by kernel_rfl) rfl (za8 0 Z Try.func55 N55 rfl rfl rfl (fun w P1 hF hB hS hT => impl_digits.calls k a0 (IntKind.i64.wrap (1 * 2 ^ min (a1 : Int).toNat IntKind.i64.bits)) hB hF _ hx983)) (fun s w h => za3 [some 7, some 8] (by decide) w h rfl) (cur2 (fun A985 c986 => ?_))
              refine a_one 8 rfl rfl (by kernel_rfl) rfl (zad (i := 1) rfl rfl rfl rfl Z60 rfl rfl) (fun s w h => za3 [some 7, some 8] (by decide) w h rfl) (fun _ => ?_)
              refine za7 9 rfl rfl rfl (by kernel_rfl) (fun _ _ _ h => h) (q_asg rfl) ?_
              refine a_one 10 rfl rfl (by kernel_rfl) rfl (zad (i := 2) rfl rfl rfl rfl Z23 rfl rfl) (fun s w h => za3 [some 7, some 8] (by decide) w h rfl) (fun _ => ?_)
              refine zan (by kernel_rfl) ?_
              refine zao (l984, g1103, c744, A985, c986, g1163, A1043, c1044) h ⟨rfl, rfl, rfl, trivial⟩ (fun w h => za6 [8, 7, 1, 4, 5, 6, 0, 2, 3] (by decide) rfl w h) ?_
              repeat (first | exact za9 _ _ | refine zae rfl ?_ | refine zaa rfl ?_ | refine zaf rfl ?_)
        · skip
          refine a_three 4 5 7 rfl rfl rfl rfl rfl rfl (by kernel_rfl) rfl rfl rfl (za8 0 Z Try.func55 N55 rfl rfl rfl (fun w P1 hF hB hS hT => impl_digits.calls k a0 (IntKind.i64.wrap (1 * 2 ^ min (a1 : Int).toNat IntKind.i64.bits)) hB hF _ hx983)) (fun s w h => za3 [some 5, some 6] (by decide) w h rfl) (e_lit (vs := [(0, .int .i64 (-1)), (1, .int .i64 0)]) (cs := [.int .i64 (-1), .int .i64 0]) (Kd.int .i64) ([(-1), 0] : List Int) Try.underlying23 I3 (by decide) rfl (by decide) rfl rfl (fun _ _ => Kd.zah _)) (fun s w h => za3 [some 5, some 6] (by decide) w h rfl) (zam V23 rfl) (fun s w h => za3 [some 5, some 6] (by decide) w h rfl) (cur2 (fun A985 c986 => ?_)) (cur2 (fun A1043 c1044 => ?_)) (fun g1163 => ?_)
          · skip
            refine a_two 5 7 rfl rfl rfl rfl (by kernel_rfl) rfl rfl (e_lit (vs := [(0, .int .i64 (-1)), (1, .int .i64 0)]) (cs := [.int .i64 (-1), .int .i64 0]) (Kd.int .i64) ([(-1), 0] : List Int) Try.underlying23 I3 (by decide) rfl (by decide) rfl rfl (fun _ _ => Kd.zah _)) (fun s w h => za3 [some 6, some 7] (by decide) w h rfl) (zam V23 rfl) (fun s w h => za3 [some 6, some 7] (by decide) w h rfl) (cur2 (fun A1043 c1044 => ?_)) (fun g1163 => ?_)
            · skip
              refine a_one 7 rfl rfl (by kernel_rfl) rfl (zam V23 rfl) (fun s w h => za3 [some 7, some 8] (by decide) w h rfl) (fun g1163 => ?_)
              refine a_one 8 rfl rfl (by kernel_rfl) rfl (zad (i := 3) rfl rfl rfl rfl Z60 rfl rfl) (fun s w h => za3 [some 7, some 8] (by decide) w h rfl) (fun _ => ?_)
              refine za7 9 rfl rfl rfl (by kernel_rfl) (fun _ _ _ h => h) (q_asg rfl) ?_
              refine a_one 10 rfl rfl (by kernel_rfl) rfl (zad (i := 0) rfl rfl rfl rfl Z23 rfl rfl) (fun s w h => za3 [some 7, some 8] (by decide) w h rfl) (fun _ => ?_)
              refine zan (by kernel_rfl) ?_
              refine zao (l984, g1103, c744, A985, c986, g1163, A1043, c1044) h ⟨rfl, rfl, rfl, trivial⟩ (fun w h => za6 [8, 7, 3, 4, 5, 6, 2, 0, 1] (by decide) rfl w h) ?_
              repeat (first | exact za9 _ _ | refine zae rfl ?_ | refine zaa rfl ?_ | refine zaf rfl ?_)
            · skip
              refine a_two 5 8 rfl rfl rfl rfl (by kernel_rfl) rfl rfl (e_lit (vs := [(0, .int .i64 (-1)), (1, .int .i64 0)]) (cs := [.int .i64 (-1), .int .i64 0]) (Kd.int .i64) ([(-1), 0] : List Int) Try.underlying23 I3 (by decide) rfl (by decide) rfl rfl (fun _ _ => Kd.zah _)) (fun s w h => za3 [some 7, some 8] (by decide) w h rfl) (zad (i := 2) rfl rfl rfl rfl Z60 rfl rfl) (fun s w h => za3 [some 6, some 7] (by decide) w h rfl) (cur2 (fun A1043 c1044 => ?_)) (fun _ => ?_)
              · skip
                refine a_one 8 rfl rfl (by kernel_rfl) rfl (zad (i := 3) rfl rfl rfl rfl Z60 rfl rfl) (fun s w h => za3 [some 7, some 8] (by decide) w h rfl) (fun _ => ?_)
                refine za7 9 rfl rfl rfl (by kernel_rfl) (fun _ _ _ h => h) (q_asg rfl) ?_
                refine a_one 10 rfl rfl (by kernel_rfl) rfl (zad (i := 1) rfl rfl rfl rfl Z23 rfl rfl) (fun s w h => za3 [some 7, some 8] (by decide) w h rfl) (fun _ => ?_)
                refine zan (by kernel_rfl) ?_
                refine zao (l984, g1103, c744, A985, c986, g1163, A1043, c1044) h ⟨rfl, rfl, rfl, trivial⟩ (fun w h => za6 [8, 7, 3, 4, 5, 6, 2, 1, 0] (by decide) rfl w h) ?_
                repeat (first | exact za9 _ _ | refine zae rfl ?_ | refine zaa rfl ?_ | refine zaf rfl ?_)
              · skip
                refine za7 9 rfl rfl rfl (by kernel_rfl) (fun _ _ _ h => h) (q_asg rfl) ?_
                refine a_one 5 rfl rfl (by kernel_rfl) rfl (e_lit (vs := [(0, .int .i64 (-1)), (1, .int .i64 0)]) (cs := [.int .i64 (-1), .int .i64 0]) (Kd.int .i64) ([(-1), 0] : List Int) Try.underlying23 I3 (by decide) rfl (by decide) rfl rfl (fun _ _ => Kd.zah _)) (fun s w h => za3 [some 7, some 8] (by decide) w h rfl) (cur2 (fun A1043 c1044 => ?_))
                refine a_one 10 rfl rfl (by kernel_rfl) rfl (zad (i := 1) rfl rfl rfl rfl Z23 rfl rfl) (fun s w h => za3 [some 7, some 8] (by decide) w h rfl) (fun _ => ?_)
                refine zan (by kernel_rfl) ?_
                refine zao (l984, g1103, c744, A985, c986, g1163, A1043, c1044) h ⟨rfl, rfl, rfl, trivial⟩ (fun w h => za6 [8, 7, 3, 4, 5, 6, 2, 1, 0] (by decide) rfl w h) ?_
                repeat (first | exact za9 _ _ | refine zae rfl ?_ | refine zaa rfl ?_ | refine zaf rfl ?_)
          · skip
            refine a_two 4 7 rfl rfl rfl rfl (by kernel_rfl) rfl rfl (za8 0 Z Try.func55 N55 rfl rfl rfl (fun w P1 hF hB hS hT => impl_digits.calls k a0 (IntKind.i64.wrap (1 * 2 ^ min (a1 : Int).toNat IntKind.i64.bits)) hB hF _ hx983)) (fun s w h => za3 [some 6, some 7] (by decide) w h rfl) (zam V23 rfl) (fun s w h => za3 [some 6, some 7] (by decide) w h rfl) (cur2 (fun A985 c986 => ?_)) (fun g1163 => ?_)
            · skip
              refine a_one 7 rfl rfl (by kernel_rfl) rfl (zam V23 rfl) (fun s w h => za3 [some 7, some 8] (by decide) w h rfl) (fun g1163 => ?_)
              refine a_one 8 rfl rfl (by kernel_rfl) rfl (zad (i := 3) rfl rfl rfl rfl Z60 rfl rfl) (fun s w h => za3 [some 7, some 8] (by decide) w h rfl) (fun _ => ?_)
              refine za7 9 rfl rfl rfl (by kernel_rfl) (fun _ _ _ h => h) (q_asg rfl) ?_
              refine a_one 10 rfl rfl (by kernel_rfl) rfl (zad (i := 0) rfl rfl rfl rfl Z23 rfl rfl) (fun s w h => za3 [some 7, some 8] (by decide) w h rfl) (fun _ => ?_)
              refine zan (by kernel_rfl) ?_
              refine zao (l984, g1103, c744, A985, c986, g1163, A1043, c1044) h ⟨rfl, rfl, rfl, trivial⟩ (fun w h => za6 [8, 7, 3, 4, 5, 6, 1, 0, 2] (by decide) rfl w h) ?_
              repeat (first | exact za9 _ _ | refine zae rfl ?_ | refine zaa rfl ?_ | refine zaf rfl ?_)
            · skip
              refine a_one 4 rfl rfl (by kernel_rfl) rfl (za8 0 Z Try.func55 N55 rfl rfl rfl (fun w P1 hF hB hS hT => impl_digits.calls k a0 (IntKind.i64.wrap (1 * 2 ^ min (a1 : Int).toNat IntKind.i64.bits)) hB hF _ hx983)) (fun s w h => za3 [some 7, some 8] (by decide) w h rfl) (cur2 (fun A985 c986 => ?_))
              refine a_one 8 rfl rfl (by kernel_rfl) rfl (zad (i := 3) rfl rfl rfl rfl Z60 rfl rfl) (fun s w h => za3 [some 7, some 8] (by decide) w h rfl) (fun _ => ?_)
              refine za7 9 rfl rfl rfl (by kernel_rfl) (fun _ _ _ h => h) (q_asg rfl) ?_
              refine a_one 10 rfl rfl (by kernel_rfl) rfl (zad (i := 1) rfl rfl rfl rfl Z23 rfl rfl) (fun s w h => za3 [some 7, some 8] (by decide) w h rfl) (fun _ => ?_)
              refine zan (by kernel_rfl) ?_
              refine zao (l984, g1103, c744, A985, c986, g1163, A1043, c1044) h ⟨rfl, rfl, rfl, trivial⟩ (fun w h => za6 [8, 7, 3, 4, 5, 6, 0, 1, 2] (by decide) rfl w h) ?_
              repeat (first | exact za9 _ _ | refine zae rfl ?_ | refine zaa rfl ?_ | refine zaf rfl ?_)
          · skip
            refine a_two 4 5 rfl rfl rfl rfl (by kernel_rfl) rfl rfl (za8 0 Z Try.func55 N55 rfl rfl rfl (fun w P1 hF hB hS hT => impl_digits.calls k a0 (IntKind.i64.wrap (1 * 2 ^ min (a1 : Int).toNat IntKind.i64.bits)) hB hF _ hx983)) (fun s w h => za3 [some 6, some 7] (by decide) w h rfl) (e_lit (vs := [(0, .int .i64 (-1)), (1, .int .i64 0)]) (cs := [.int .i64 (-1), .int .i64 0]) (Kd.int .i64) ([(-1), 0] : List Int) Try.underlying23 I3 (by decide) rfl (by decide) rfl rfl (fun _ _ => Kd.zah _)) (fun s w h => za3 [some 6, some 7] (by decide) w h rfl) (cur2 (fun A985 c986 => ?_)) (cur2 (fun A1043 c1044 => ?_))
            · skip
              refine a_two 5 8 rfl rfl rfl rfl (by kernel_rfl) rfl rfl (e_lit (vs := [(0, .int .i64 (-1)), (1, .int .i64 0)]) (cs := [.int .i64 (-1), .int .i64 0]) (Kd.int .i64) ([(-1), 0] : List Int) Try.underlying23 I3 (by decide) rfl (by decide) rfl rfl (fun _ _ => Kd.zah _)) (fun s w h => za3 [some 7, some 8] (by decide) w h rfl) (zad (i := 2) rfl rfl rfl rfl Z60 rfl rfl) (fun s w h => za3 [some 6, some 7] (by decide) w h rfl) (cur2 (fun A1043 c1044 => ?_)) (fun _ => ?_)
              · skip
                refine a_one 8 rfl rfl (by kernel_rfl) rfl (zad (i := 3) rfl rfl rfl rfl Z60 rfl rfl) (fun s w h => za3 [some 7, some 8] (by decide) w h rfl) (fun _ => ?_)
                refine za7 9 rfl rfl rfl (by kernel_rfl) (fun _ _ _ h => h) (q_asg rfl) ?_
                refine a_one 10 rfl rfl (by kernel_rfl) rfl (zad (i := 2) rfl rfl rfl rfl Z23 rfl rfl) (fun s w h => za3 [some 7, some 8] (by decide) w h rfl) (fun _ => ?_)
                refine zan (by kernel_rfl) ?_
                refine zao (l984, g1103, c744, A985, c986, g1163, A1043, c1044) h ⟨rfl, rfl, rfl, trivial⟩ (fun w h => za6 [8, 7, 3, 4, 5, 6, 1, 2, 0] (by decide) rfl w h) ?_
                repeat (first | exact za9 _ _ | refine zae rfl ?_ | refine zaa rfl ?_ | refine zaf rfl ?_)
              · skip
                refine za7 9 rfl rfl rfl (by kernel_rfl) (fun _ _ _ h => h) (q_asg rfl) ?_
                refine a_one 5 rfl rfl (by kernel_rfl) rfl (e_lit (vs := [(0, .int .i64 (-1)), (1, .int .i64 0)]) (cs := [.int .i64 (-1), .int .i64 0]) (Kd.int .i64) ([(-1), 0] : List Int) Try.underlying23 I3 (by decide) rfl (by decide) rfl rfl (fun _ _ => Kd.zah _)) (fun s w h => za3 [some 7, some 8] (by decide) w h rfl) (cur2 (fun A1043 c1044 => ?_))
                refine a_one 10 rfl rfl (by kernel_rfl) rfl (zad (i := 2) rfl rfl rfl rfl Z23 rfl rfl) (fun s w h => za3 [some 7, some 8] (by decide) w h rfl) (fun _ => ?_)
                refine zan (by kernel_rfl) ?_
                refine zao (l984, g1103, c744, A985, c986, g1163, A1043, c1044) h ⟨rfl, rfl, rfl, trivial⟩ (fun w h => za6 [8, 7, 3, 4, 5, 6, 1, 2, 0] (by decide) rfl w h) ?_
                repeat (first | exact za9 _ _ | refine zae rfl ?_ | refine zaa rfl ?_ | refine zaf rfl ?_)
            · skip
              refine a_one 4 rfl rfl (by kernel_rfl) rfl (za8 0 Z Try.func55 N55 rfl rfl rfl (fun w P1 hF hB hS hT => impl_digits.calls k a0 (IntKind.i64.wrap (1 * 2 ^ min (a1 : Int).toNat IntKind.i64.bits)) hB hF _ hx983)) (fun s w h => za3 [some 7, some 8] (by decide) w h rfl) (cur2 (fun A985 c986 => ?_))
              refine a_one 8 rfl rfl (by kernel_rfl) rfl (zad (i := 3) rfl rfl rfl rfl Z60 rfl rfl) (fun s w h => za3 [some 7, some 8] (by decide) w h rfl) (fun _ => ?_)
              refine za7 9 rfl rfl rfl (by kernel_rfl) (fun _ _ _ h => h) (q_asg rfl) ?_
              refine a_one 10 rfl rfl (by kernel_rfl) rfl (zad (i := 2) rfl rfl rfl rfl Z23 rfl rfl) (fun s w h => za3 [some 7, some 8] (by decide) w h rfl) (fun _ => ?_)
              refine zan (by kernel_rfl) ?_
              refine zao (l984, g1103, c744, A985, c986, g1163, A1043, c1044) h ⟨rfl, rfl, rfl, trivial⟩ (fun w h => za6 [8, 7, 3, 4, 5, 6, 0, 2, 1] (by decide) rfl w h) ?_
              repeat (first | exact za9 _ _ | refine zae rfl ?_ | refine zaa rfl ?_ | refine zaf rfl ?_)
        · skip
          refine a_three 4 5 6 rfl rfl rfl rfl rfl rfl (by kernel_rfl) rfl rfl rfl (za8 0 Z Try.func55 N55 rfl rfl rfl (fun w P1 hF hB hS hT => impl_digits.calls k a0 (IntKind.i64.wrap (1 * 2 ^ min (a1 : Int).toNat IntKind.i64.bits)) hB hF _ hx983)) (fun s w h => za3 [some 5, some 6] (by decide) w h rfl) (e_lit (vs := [(0, .int .i64 (-1)), (1, .int .i64 0)]) (cs := [.int .i64 (-1), .int .i64 0]) (Kd.int .i64) ([(-1), 0] : List Int) Try.underlying23 I3 (by decide) rfl (by decide) rfl rfl (fun _ _ => Kd.zah _)) (fun s w h => za3 [some 5, some 6] (by decide) w h rfl) (zam V60 rfl) (fun s w h => za3 [some 5, some 6] (by decide) w h rfl) (cur2 (fun A985 c986 => ?_)) (cur2 (fun A1043 c1044 => ?_)) (fun g1103 => ?_)
          · skip
            refine a_two 5 6 rfl rfl rfl rfl (by kernel_rfl) rfl rfl (e_lit (vs := [(0, .int .i64 (-1)), (1, .int .i64 0)]) (cs := [.int .i64 (-1), .int .i64 0]) (Kd.int .i64) ([(-1), 0] : List Int) Try.underlying23 I3 (by decide) rfl (by decide) rfl rfl (fun _ _ => Kd.zah _)) (fun s w h => za3 [some 6, some 7] (by decide) w h rfl) (zam V60 rfl) (fun s w h => za3 [some 6, some 7] (by decide) w h rfl) (cur2 (fun A1043 c1044 => ?_)) (fun g1103 => ?_)
            · skip
              refine a_one 6 rfl rfl (by kernel_rfl) rfl (zam V60 rfl) (fun s w h => za3 [some 7, some 8] (by decide) w h rfl) (fun g1103 => ?_)
              refine a_one 8 rfl rfl (by kernel_rfl) rfl (zad (i := 0) rfl rfl rfl rfl Z60 rfl rfl) (fun s w h => za3 [some 7, some 8] (by decide) w h rfl) (fun _ => ?_)
              refine za7 9 rfl rfl rfl (by kernel_rfl) (fun _ _ _ h => h) (q_asg rfl) ?_
              refine a_one 10 rfl rfl (by kernel_rfl) rfl (zad (i := 3) rfl rfl rfl rfl Z23 rfl rfl) (fun s w h => za3 [some 7, some 8] (by decide) w h rfl) (fun _ => ?_)
              refine zan (by kernel_rfl) ?_
              refine zao (l984, g1103, c744, A985, c986, g1163, A1043, c1044) h ⟨rfl, rfl, rfl, trivial⟩ (fun w h => za6 [8, 7, 0, 4, 5, 6, 2, 3, 1] (by decide) rfl w h) ?_
              repeat (first | exact za9 _ _ | refine zae rfl ?_ | refine zaa rfl ?_ | refine zaf rfl ?_)
            · skip
              refine a_two 5 8 rfl rfl rfl rfl (by kernel_rfl) rfl rfl (e_lit (vs := [(0, .int .i64 (-1)), (1, .int .i64 0)]) (cs := [.int .i64 (-1), .int .i64 0]) (Kd.int .i64) ([(-1), 0] : List Int) Try.underlying23 I3 (by decide) rfl (by decide) rfl rfl (fun _ _ => Kd.zah _)) (fun s w h => za3 [some 7, some 8] (by decide) w h rfl) (zad (i := 0) rfl rfl rfl rfl Z60 rfl rfl) (fun s w h => za3 [some 6, some 7] (by decide) w h rfl) (cur2 (fun A1043 c1044 => ?_)) (fun _ => ?_)
              · skip
                refine a_one 8 rfl rfl (by kernel_rfl) rfl (zad (i := 1) rfl rfl rfl rfl Z60 rfl rfl) (fun s w h => za3 [some 7, some 8] (by decide) w h rfl) (fun _ => ?_)
                refine za7 9 rfl rfl rfl (by kernel_rfl) (fun _ _ _ h => h) (q_asg rfl) ?_
                refine a_one 10 rfl rfl (by kernel_rfl) rfl (zad (i := 3) rfl rfl rfl rfl Z23 rfl rfl) (fun s w h => za3 [some 7, some 8] (by decide) w h rfl) (fun _ => ?_)
                refine zan (by kernel_rfl) ?_
                refine zao (l984, g1103, c744, A985, c986, g1163, A1043, c1044) h ⟨rfl, rfl, rfl, trivial⟩ (fun w h => za6 [8, 7, 1, 4, 5, 6, 2, 3, 0] (by decide) rfl w h) ?_
                repeat (first | exact za9 _ _ | refine zae rfl ?_ | refine zaa rfl ?_ | refine zaf rfl ?_)
              · skip
                refine za7 9 rfl rfl rfl (by kernel_rfl) (fun _ _ _ h => h) (q_asg rfl) ?_
                refine a_one 5 rfl rfl (by kernel_rfl) rfl (e_lit (vs := [(0, .int .i64 (-1)), (1, .int .i64 0)]) (cs := [.int .i64 (-1), .int .i64 0]) (Kd.int .i64) ([(-1), 0] : List Int) Try.underlying23 I3 (by decide) rfl (by decide) rfl rfl (fun _ _ => Kd.zah _)) (fun s w h => za3 [some 7, some 8] (by decide) w h rfl) (cur2 (fun A1043 c1044 => ?_))
                refine a_one 10 rfl rfl (by kernel_rfl) rfl (zad (i := 3) rfl rfl rfl rfl Z23 rfl rfl) (fun s w h => za3 [some 7, some 8] (by decide) w h rfl) (fun _ => ?_)
                refine zan (by kernel_rfl) ?_
                refine zao (l984, g1103, c744, A985, c986, g1163, A1043, c1044) h ⟨rfl, rfl, rfl, trivial⟩ (fun w h => za6 [8, 7, 1, 4, 5, 6, 2, 3, 0] (by decide) rfl w h) ?_
                repeat (first | exact za9 _ _ | refine zae rfl ?_ | refine zaa rfl ?_ | refine zaf rfl ?_)
          · skip
            refine a_two 4 6 rfl rfl rfl rfl (by kernel_rfl) rfl rfl (za8 0 Z Try.func55 N55 rfl rfl rfl (fun w P1 hF hB hS hT => impl_digits.calls k a0 (IntKind.i64.wrap (1 * 2 ^ min (a1 : Int).toNat IntKind.i64.bits)) hB hF _ hx983)) (fun s w h => za3 [some 6, some 7] (by decide) w h rfl) (zam V60 rfl) (fun s w h => za3 [some 6, some 7] (by decide) w h rfl) (cur2 (fun A985 c986 => ?_)) (fun g1103 => ?_)
            · skip
              refine a_one 6 rfl rfl (by kernel_rfl) rfl (zam V60 rfl) (fun s w h => za3 [some 7, some 8] (by decide) w h rfl) (fun g1103 => ?_)
              refine a_one 8 rfl rfl (by kernel_rfl) rfl (zad (i := 0) rfl rfl rfl rfl Z60 rfl rfl) (fun s w h => za3 [some 7, some 8] (by decide) w h rfl) (fun _ => ?_)
              refine za7 9 rfl rfl rfl (by kernel_rfl) (fun _ _ _ h => h) (q_asg rfl) ?_
              refine a_one 10 rfl rfl (by kernel_rfl) rfl (zad (i := 3) rfl rfl rfl rfl Z23 rfl rfl) (fun s w h => za3 [some 7, some 8] (by decide) w h rfl) (fun _ => ?_)
              refine zan (by kernel_rfl) ?_
              refine zao (l984, g1103, c744, A985, c986, g1163, A1043, c1044) h ⟨rfl, rfl, rfl, trivial⟩ (fun w h => za6 [8, 7, 0, 4, 5, 6, 1, 3, 2] (by decide) rfl w h) ?_
              repeat (first | exact za9 _ _ | refine zae rfl ?_ | refine zaa rfl ?_ | refine zaf rfl ?_)
            · skip
              refine a_one 4 rfl rfl (by kernel_rfl) rfl (za8 0 Z Try.func55 N55 rfl rfl rfl (fun w P1 hF hB hS hT => impl_digits.calls k a0 (IntKind.i64.wrap (1 * 2 ^ min (a1 : Int).toNat IntKind.i64.bits)) hB hF _ hx983)) (fun s w h => za3 [some 7, some 8] (by decide) w h rfl) (cur2 (fun A985 c986 => ?_))
              refine a_one 8 rfl rfl (by kernel_rfl) rfl (zad (i := 1) rfl rfl rfl rfl Z60 rfl rfl) (fun s w h => za3 [some 7, some 8] (by decide) w h rfl) (fun _ => ?_)
              refine za7 9 rfl rfl rfl (by kernel_rfl) (fun _ _ _ h => h) (q_asg rfl) ?_
              refine a_one 10 rfl rfl (by kernel_rfl) rfl (zad (i := 3) rfl rfl rfl rfl Z23 rfl rfl) (fun s w h => za3 [some 7, some 8] (by decide) w h rfl) (fun _ => ?_)
              refine zan (by kernel_rfl) ?_
              refine zao (l984, g1103, c744, A985, c986, g1163, A1043, c1044) h ⟨rfl, rfl, rfl, trivial⟩ (fun w h => za6 [8, 7, 1, 4, 5, 6, 0, 3, 2] (by decide) rfl w h) ?_
              repeat (first | exact za9 _ _ | refine zae rfl ?_ | refine zaa rfl ?_ | refine zaf rfl ?_)
          · skip
            refine a_two 4 5 rfl rfl rfl rfl (by kernel_rfl) rfl rfl (za8 0 Z Try.func55 N55 rfl rfl rfl (fun w P1 hF hB hS hT => impl_digits.calls k a0 (IntKind.i64.wrap (1 * 2 ^ min (a1 : Int).toNat IntKind.i64.bits)) hB hF _ hx983)) (fun s w h => za3 [some 6, some 7] (by decide) w h rfl) (e_lit (vs := [(0, .int .i64 (-1)), (1, .int .i64 0)]) (cs := [.int .i64 (-1), .int .i64 0]) (Kd.int .i64) ([(-1), 0] : List Int) Try.underlying23 I3 (by decide) rfl (by decide) rfl rfl (fun _ _ => Kd.zah _)) (fun s w h => za3 [some 6, some 7] (by decide) w h rfl) (cur2 (fun A985 c986 => ?_)) (cur2 (fun A1043 c1044 => ?_))
            · skip
              refine a_two 5 8 rfl rfl rfl rfl (by kernel_rfl) rfl rfl (e_lit (vs := [(0, .int .i64 (-1)), (1, .int .i64 0)]) (cs := [.int .i64 (-1), .int .i64 0]) (Kd.int .i64) ([(-1), 0] : List Int) Try.underlying23 I3 (by decide) rfl (by decide) rfl rfl (fun _ _ => Kd.zah _)) (fun s w h => za3 [some 7, some 8] (by decide) w h rfl) (zad (i := 1) rfl rfl rfl rfl Z60 rfl rfl) (fun s w h => za3 [some 6, some 7] (by decide) w h rfl) (cur2 (fun A1043 c1044 => ?_)) (fun _ => ?_)
              · skip
                refine a_one 8 rfl rfl (by kernel_rfl) rfl (zad (i := 2) rfl rfl rfl rfl Z60 rfl rfl) (fun s w h => za3 [some 7, some 8] (by decide) w h rfl) (fun _ => ?_)
                refine za7 9 rfl rfl rfl (by kernel_rfl) (fun _ _ _ h => h) (q_asg rfl) ?_
                refine a_one 10 rfl rfl (by kernel_rfl) rfl (zad (i := 3) rfl rfl rfl rfl Z23 rfl rfl) (fun s w h => za3 [some 7, some 8] (by decide) w h rfl) (fun _ => ?_)
                refine zan (by kernel_rfl) ?_
                refine zao (l984, g1103, c744, A985, c986, g1163, A1043, c1044) h ⟨rfl, rfl, rfl, trivial⟩ (fun w h => za6 [8, 7, 2, 4, 5, 6, 1, 3, 0] (by decide) rfl w h) ?_
                repeat (first | exact za9 _ _ | refine zae rfl ?_ | refine zaa rfl ?_ | refine zaf rfl ?_)
              · skip
                refine za7 9 rfl rfl rfl (by kernel_rfl) (fun _ _ _ h => h) (q_asg rfl) ?_
                refine a_one 5 rfl rfl (by kernel_rfl) rfl (e_lit (vs := [(0, .int .i64 (-1)), (1, .int .i64 0)]) (cs := [.int .i64 (-1), .int .i64 0]) (Kd.int .i64) ([(-1), 0] : List Int) Try.underlying23 I3 (by decide) rfl (by decide) rfl rfl (fun _ _ => Kd.zah _)) (fun s w h => za3 [some 7, some 8] (by decide) w h rfl) (cur2 (fun A1043 c1044 => ?_))
                refine a_one 10 rfl rfl (by kernel_rfl) rfl (zad (i := 3) rfl rfl rfl rfl Z23 rfl rfl) (fun s w h => za3 [some 7, some 8] (by decide) w h rfl) (fun _ => ?_)
                refine zan (by kernel_rfl) ?_
                refine zao (l984, g1103, c744, A985, c986, g1163, A1043, c1044) h ⟨rfl, rfl, rfl, trivial⟩ (fun w h => za6 [8, 7, 2, 4, 5, 6, 1, 3, 0] (by decide) rfl w h) ?_
                repeat (first | exact za9 _ _ | refine zae rfl ?_ | refine zaa rfl ?_ | refine zaf rfl ?_)
            · skip
              refine a_one 4 rfl rfl (by kernel_rfl) rfl (za8 0 Z Try.func55 N55 rfl rfl rfl (fun w P1 hF hB hS hT => impl_digits.calls k a0 (IntKind.i64.wrap (1 * 2 ^ min (a1 : Int).toNat IntKind.i64.bits)) hB hF _ hx983)) (fun s w h => za3 [some 7, some 8] (by decide) w h rfl) (cur2 (fun A985 c986 => ?_))
              refine a_one 8 rfl rfl (by kernel_rfl) rfl (zad (i := 2) rfl rfl rfl rfl Z60 rfl rfl) (fun s w h => za3 [some 7, some 8] (by decide) w h rfl) (fun _ => ?_)
              refine za7 9 rfl rfl rfl (by kernel_rfl) (fun _ _ _ h => h) (q_asg rfl) ?_
              refine a_one 10 rfl rfl (by kernel_rfl) rfl (zad (i := 3) rfl rfl rfl rfl Z23 rfl rfl) (fun s w h => za3 [some 7, some 8] (by decide) w h rfl) (fun _ => ?_)
              refine zan (by kernel_rfl) ?_
              refine zao (l984, g1103, c744, A985, c986, g1163, A1043, c1044) h ⟨rfl, rfl, rfl, trivial⟩ (fun w h => za6 [8, 7, 2, 4, 5, 6, 0, 3, 1] (by decide) rfl w h) ?_
              repeat (first | exact za9 _ _ | refine zae rfl ?_ | refine zaa rfl ?_ | refine zaf rfl ?_)
      · skip
        refine a_three 0 6 7 rfl rfl rfl rfl rfl rfl (by kernel_rfl) rfl rfl rfl (za8 0 Z Try.func54 N54 rfl rfl rfl (fun w P1 hF hB hS hT => impl_newMaker.calls 1 hB hF hx743)) (fun s w h => za3 [some 4, some 5] (by decide) w h rfl) (zam V60 rfl) (fun s w h => za3 [some 2, some 3] (by decide) w h rfl) (zam V23 rfl) (fun s w h => za3 [some 2, some 3] (by decide) w h rfl) (fun c744 => ?_) (fun g1103 => ?_) (fun g1163 => ?_)
        · skip
          refine a_three 4 6 7 rfl rfl rfl rfl rfl rfl (by kernel_rfl) rfl rfl rfl (za8 0 Z Try.func55 N55 rfl rfl rfl (fun w P1 hF hB hS hT => impl_digits.calls k a0 (IntKind.i64.wrap (1 * 2 ^ min (a1 : Int).toNat IntKind.i64.bits)) hB hF _ hx983)) (fun s w h => za3 [some 5, some 6] (by decide) w h rfl) (zam V60 rfl) (fun s w h => za3 [some 5, some 6] (by decide) w h rfl) (zam V23 rfl) (fun s w h => za3 [some 5, some 6] (by decide) w h rfl) (cur2 (fun A985 c986 => ?_)) (fun g1103 => ?_) (fun g1163 => ?_)
          · skip
            refine a_two 6 7 rfl rfl rfl rfl (by kernel_rfl) rfl rfl (zam V60 rfl) (fun s w h => za3 [some 6, some 7] (by decide) w h rfl) (zam V23 rfl) (fun s w h => za3 [some 6, some 7] (by decide) w h rfl) (fun g1103 => ?_) (fun g1163 => ?_)
            · skip
              refine a_one 7 rfl rfl (by kernel_rfl) rfl (zam V23 rfl) (fun s w h => za3 [some 7, some 8] (by decide) w h rfl) (fun g1163 => ?_)
              refine a_one 8 rfl rfl (by kernel_rfl) rfl (zad (i := 1) rfl rfl rfl rfl Z60 rfl rfl) (fun s w h => za3 [some 7, some 8] (by decide) w h rfl) (fun _ => ?_)
              refine za7 9 rfl rfl rfl (by kernel_rfl) (fun _ _ _ h => h) (q_asg rfl) ?_
              refine a_one 10 rfl rfl (by kernel_rfl) rfl (zad (i := 0) rfl rfl rfl rfl Z23 rfl rfl) (fun s w h => za3 [some 7, some 8] (by decide) w h rfl) (fun _ => ?_)
              refine zan (by kernel_rfl) ?_
              refine zao (l984, g1103, c744, A985, c986, g1163, A1043, c1044) h ⟨rfl, rfl, rfl, trivial⟩ (fun w h => za6 [8, 7, 1, 3, 4, 5, 2, 0, 6] (by decide) rfl w h) ?_
              repeat (first | exact za9 _ _ | refine zae rfl ?_ | refine zaa rfl ?_ | refine zaf rfl ?_)
            · skip
              refine a_one 6 rfl rfl (by kernel_rfl) rfl (zam V60 rfl) (fun s w h => za3 [some 7, some 8] (by decide) w h rfl) (fun g1103 => ?_)
              refine a_one 8 rfl rfl (by kernel_rfl) rfl (zad (i := 0) rfl rfl rfl rfl Z60 rfl rfl) (fun s w h => za3 [some 7, some 8] (by decide) w h rfl) (fun _ => ?_)
              refine za7 9 rfl rfl rfl (by kernel_rfl) (fun _ _ _ h => h) (q_asg rfl) ?_
              refine a_one 10 rfl rfl (by kernel_rfl) rfl (zad (i := 1) rfl rfl rfl rfl Z23 rfl rfl) (fun s w h => za3 [some 7, some 8] (by decide) w h rfl) (fun _ => ?_)
              refine zan (by kernel_rfl) ?_
              refine zao (l984, g1103, c744, A985, c986, g1163, A1043, c1044) h ⟨rfl, rfl, rfl, trivial⟩ (fun w h => za6 [8, 7, 0, 3, 4, 5, 2, 1, 6] (by decide) rfl w h) ?_
              repeat (first | exact za9 _ _ | refine zae rfl ?_ | refine zaa rfl ?_ | refine zaf rfl ?_)
          · skip
            refine a_two 4 7 rfl rfl rfl rfl (by kernel_rfl) rfl rfl (za8 0 Z Try.func55 N55 rfl rfl rfl (fun w P1 hF hB hS hT => impl_digits.calls k a0 (IntKind.i64.wrap (1 * 2 ^ min (a1 : Int).toNat IntKind.i64.bits)) hB hF _ hx983)) (fun s w h => za3 [some 6, some 7] (by decide) w h rfl) (zam V23 rfl) (fun s w h => za3 [some 6, some 7] (by decide) w h rfl) (cur2 (fun A985 c986 => ?_)) (fun g1163 => ?_)
            · skip
              refine a_one 7 rfl rfl (by kernel_rfl) rfl (zam V23 rfl) (fun s w h => za3 [some 7, some 8] (by decide) w h rfl) (fun g1163 => ?_)
              refine a_one 8 rfl rfl (by kernel_rfl) rfl (zad (i := 2) rfl rfl rfl rfl Z60 rfl rfl) (fun s w h => za3 [some 7, some 8] (by decide) w h rfl) (fun _ => ?_)
              refine za7 9 rfl rfl rfl (by kernel_rfl) (fun _ _ _ h => h) (q_asg rfl) ?_
              refine a_one 10 rfl rfl (by kernel_rfl) rfl (zad (i := 0) rfl rfl rfl rfl Z23 rfl rfl) (fun s w h => za3 [some 7, some 8] (by decide) w h rfl) (fun _ => ?_)
              refine zan (by kernel_rfl) ?_
              refine zao (l984, g1103, c744, A985, c986, g1163, A1043, c1044) h ⟨rfl, rfl, rfl, trivial⟩ (fun w h => za6 [8, 7, 2, 3, 4, 5, 1, 0, 6] (by decide) rfl w h) ?_
              repeat (first | exact za9 _ _ | refine zae rfl ?_ | refine zaa rfl ?_ | refine zaf rfl ?_)
            · skip
              refine a_one 4 rfl rfl (by kernel_rfl) rfl (za8 0 Z Try.func55 N55 rfl rfl rfl (fun w P1 hF hB hS hT => impl_digits.calls k a0 (IntKind.i64.wrap (1 * 2 ^ min (a1 : Int).toNat IntKind.i64.bits)) hB hF _ hx983)) (fun s w h => za3 [some 7, some 8] (by decide) w h rfl) (cur2 (fun A985 c986 => ?_))
              refine a_one 8 rfl rfl (by kernel_rfl) rfl (zad (i := 2) rfl rfl rfl rfl Z60 rfl rfl) (fun s w h => za3 [some 7, some 8] (by decide) w h rfl) (fun _ => ?_)
              refine za7 9 rfl rfl rfl (by kernel_rfl) (fun _ _ _ h => h) (q_asg rfl) ?_
              refine a_one 10 rfl rfl (by kernel_rfl) rfl (zad (i := 1) rfl rfl rfl rfl Z23 rfl rfl) (fun s w h => za3 [some 7, some 8] (by decide) w h rfl) (fun _ => ?_)
              refine zan (by kernel_rfl) ?_
              refine zao (l984, g1103, c744, A985, c986, g1163, A1043, c1044) h ⟨rfl, rfl, rfl, trivial⟩ (fun w h => za6 [8, 7, 2, 3, 4, 5, 0, 1, 6] (by decide) rfl w h) ?_
              repeat (first | exact za9 _ _ | refine zae rfl ?_ | refine zaa rfl ?_ | refine zaf rfl ?_)
          · skip
            refine a_two 4 6 rfl rfl rfl rfl (by kernel_rfl) rfl rfl (za8 0 Z Try.func55 N55 rfl rfl rfl (fun w P1 hF hB hS hT => impl_digits.calls k a0 (IntKind.i64.wrap (1 * 2 ^ min (a1 : Int).toNat IntKind.i64.bits)) hB hF _ hx983)) (fun s w h => za3 [some 6, some 7] (by decide) w h rfl) (zam V60 rfl) (fun s w h => za3 [some 6, some 7] (by decide) w h rfl) (cur2 (fun A985 c986 => ?_)) (fun g1103 => ?_)
            · skip
              refine a_one 6 rfl rfl (by kernel_rfl) rfl (zam V60 rfl) (fun s w h => za3 [some 7, some 8] (by decide) w h rfl) (fun g1103 => ?_)
              refine a_one 8 rfl rfl (by kernel_rfl) rfl (zad (i := 0) rfl rfl rfl rfl Z60 rfl rfl) (fun s w h => za3 [some 7, some 8] (by decide) w h rfl) (fun _ => ?_)
              refine za7 9 rfl rfl rfl (by kernel_rfl) (fun _ _ _ h => h) (q_asg rfl) ?_
              refine a_one 10 rfl rfl (by kernel_rfl) rfl (zad (i := 2) rfl rfl rfl rfl Z23 rfl rfl) (fun s w h => za3 [some 7, some 8] (by decide) w h rfl) (fun _ => ?_)
              refine zan (by kernel_rfl) ?_
              refine zao (l984, g1103, c744, A985, c986, g1163, A1043, c1044) h ⟨rfl, rfl, rfl, trivial⟩ (fun w h => za6 [8, 7, 0, 3, 4, 5, 1, 2, 6] (by decide) rfl w h) ?_
              repeat (first | exact za9 _ _ | refine zae rfl ?_ | refine zaa rfl ?_ | refine zaf rfl ?_)
            · skip
              refine a_one 4 rfl rfl (by kernel_rfl) rfl (za8 0 Z Try.func55 N55 rfl rfl rfl (fun w P1 hF hB hS hT => impl_digits.calls k a0 (IntKind.i64.wrap (1 * 2 ^ min (a1 : Int).toNat IntKind.i64.bits)) hB hF _ hx983)) (fun s w h => za3 [some 7, some 8] (by decide) w h rfl) (cur2 (fun A985 c986 => ?_))
              refine a_one 8 rfl rfl (by kernel_rfl) rfl (zad (i := 1) rfl rfl rfl rfl Z60 rfl rfl) (fun s w h => za3 [some 7, some 8] (by decide) w h rfl) (fun _ => ?_)
              refine za7 9 rfl rfl rfl (by kernel_rfl) (fun _ _ _ h => h) (q_asg rfl) ?_
              refine a_one 10 rfl rfl (by kernel_rfl) rfl (zad (i := 2) rfl rfl rfl rfl Z23 rfl rfl) (fun s w h => za3 [some 7, some 8] (by decide) w h rfl) (fun _ => ?_)
              refine zan (by kernel_rfl) ?_
              refine zao (l984, g1103, c744, A985, c986, g1163, A1043, c1044) h ⟨rfl, rfl, rfl, trivial⟩ (fun w h => za6 [8, 7, 1, 3, 4, 5, 0, 2, 6] (by decide) rfl w h) ?_
              repeat (first | exact za9 _ _ | refine zae rfl ?_ | refine zaa rfl ?_ | refine zaf rfl ?_)
        · skip
          refine a_two 0 7 rfl rfl rfl rfl (by kernel_rfl) rfl rfl (za8 0 Z Try.func54 N54 rfl rfl rfl (fun w P1 hF hB hS hT => impl_newMaker.calls 1 hB hF hx743)) (fun s w h => za3 [some 5, some 6] (by decide) w h rfl) (zam V23 rfl) (fun s w h => za3 [some 3, some 4] (by decide) w h rfl) (fun c744 => ?_) (fun g1163 => ?_)
          · skip
            refine a_two 4 7 rfl rfl rfl rfl (by kernel_rfl) rfl rfl (za8 0 Z Try.func55 N55 rfl rfl rfl (fun w P1 hF hB hS hT => impl_digits.calls k a0 (IntKind.i64.wrap (1 * 2 ^ min (a1 : Int).toNat IntKind.i64.bits)) hB hF _ hx983)) (fun s w h => za3 [some 6, some 7] (by decide) w h rfl) (zam V23 rfl) (fun s w h => za3 [some 6, some 7] (by decide) w h rfl) (cur2 (fun A985 c986 => ?_)) (fun g1163 => ?_)
            · skip
              refine a_one 7 rfl rfl (by kernel_rfl) rfl (zam V23 rfl) (fun s w h => za3 [some 7, some 8] (by decide) w h rfl) (fun g1163 => ?_)
              refine a_one 8 rfl rfl (by kernel_rfl) rfl (zad (i := 5) rfl rfl rfl rfl Z60 rfl rfl) (fun s w h => za3 [some 7, some 8] (by decide) w h rfl) (fun _ => ?_)
              refine za7 9 rfl rfl rfl (by kernel_rfl) (fun _ _ _ h => h) (q_asg rfl) ?_
              refine a_one 10 rfl rfl (by kernel_rfl) rfl (zad (i := 0) rfl rfl rfl rfl Z23 rfl rfl) (fun s w h => za3 [some 7, some 8] (by decide) w h rfl) (fun _ => ?_)
              refine zan (by kernel_rfl) ?_
              refine zao (l984, g1103, c744, A985, c986, g1163, A1043, c1044) h ⟨rfl, rfl, rfl, trivial⟩ (fun w h => za6 [8, 7, 5, 2, 3, 4, 1, 0, 6] (by decide) rfl w h) ?_
              repeat (first | exact za9 _ _ | refine zae rfl ?_ | refine zaa rfl ?_ | refine zaf rfl ?_)
            · skip
              refine a_one 4 rfl rfl (by kernel_rfl) rfl (za8 0 Z Try.func55 N55 rfl rfl rfl (fun w P1 hF hB hS hT => impl_digits.calls k a0 (IntKind.i64.wrap (1 * 2 ^ min (a1 : Int).toNat IntKind.i64.bits)) hB hF _ hx983)) (fun s w h => za3 [some 7, some 8] (by decide) w h rfl) (cur2 (fun A985 c986 => ?_))
              refine a_one 8 rfl rfl (by kernel_rfl) rfl (zad (i := 5) rfl rfl rfl rfl Z60 rfl rfl) (fun s w h => za3 [some 7, some 8] (by decide) w h rfl) (fun _ => ?_)
              refine za7 9 rfl rfl rfl (by kernel_rfl) (fun _ _ _ h => h) (q_asg rfl) ?_
              refine a_one 10 rfl rfl (by kernel_rfl) rfl (zad (i := 1) rfl rfl rfl rfl Z23 rfl rfl) (fun s w h => za3 [some 7, some 8] (by decide) w h rfl) (fun _ => ?_)
              refine zan (by kernel_rfl) ?_
              refine zao (l984, g1103, c744, A985, c986, g1163, A1043, c1044) h ⟨rfl, rfl, rfl, trivial⟩ (fun w h => za6 [8, 7, 5, 2, 3, 4, 0, 1, 6] (by decide) rfl w h) ?_
              repeat (first | exact za9 _ _ | refine zae rfl ?_ | refine zaa rfl ?_ | refine zaf rfl ?_)
          · skip
            refine a_one 0 rfl rfl (by kernel_rfl) rfl (za8 0 Z Try.func54 N54 rfl rfl rfl (fun w P1 hF hB hS hT => impl_newMaker.calls 1 hB hF hx743)) (fun s w h => za3 [some 6, some 7] (by decide) w h rfl) (fun c744 => ?_)
            refine a_one 4 rfl rfl (by kernel_rfl) rfl (za8 0 Z Try.func55 N55 rfl rfl rfl (fun w P1 hF hB hS hT => impl_digits.calls k a0 (IntKind.i64.wrap (1 * 2 ^ min (a1 : Int).toNat IntKind.i64.bits)) hB hF _ hx983)) (fun s w h => za3 [some 7, some 8] (by decide) w h rfl) (cur2 (fun A985 c986 => ?_))
            refine a_one 8 rfl rfl (by kernel_rfl) rfl (zad (i := 5) rfl rfl rfl rfl Z60 rfl rfl) (fun s w h => za3 [some 7, some 8] (by decide) w h rfl) (fun _ => ?_)
            refine za7 9 rfl rfl rfl (by kernel_rfl) (fun _ _ _ h => h) (q_asg rfl) ?_
            refine a_one 10 rfl rfl (by kernel_rfl) rfl (zad (i := 4) rfl rfl rfl rfl Z23 rfl rfl) (fun s w h => za3 [some 7, some 8] (by decide) w h rfl) (fun _ => ?_)
            refine zan (by kernel_rfl) ?_
            refine zao (l984, g1103, c744, A985, c986, g1163, A1043, c1044) h ⟨rfl, rfl, rfl, trivial⟩ (fun w h => za6 [8, 7, 5, 1, 2, 3, 0, 4, 6] (by decide) rfl w h) ?_
            repeat (first | exact za9 _ _ | refine zae rfl ?_ | refine zaa rfl ?_ | refine zaf rfl ?_)
        · skip
          refine a_two 0 6 rfl rfl rfl rfl (by kernel_rfl) rfl rfl (za8 0 Z Try.func54 N54 rfl rfl rfl (fun w P1 hF hB hS hT => impl_newMaker.calls 1 hB hF hx743)) (fun s w h => za3 [some 5, some 6] (by decide) w h rfl) (zam V60 rfl) (fun s w h => za3 [some 3, some 4] (by decide) w h rfl) (fun c744 => ?_) (fun g1103 => ?_)
          · skip
            refine a_two 4 6 rfl rfl rfl rfl (by kernel_rfl) rfl rfl (za8 0 Z Try.func55 N55 rfl rfl rfl (fun w P1 hF hB hS hT => impl_digits.calls k a0 (IntKind.i64.wrap (1 * 2 ^ min (a1 : Int).toNat IntKind.i64.bits)) hB hF _ hx983)) (fun s w h => za3 [some 6, some 7] (by decide) w h rfl) (zam V60 rfl) (fun s w h => za3 [some 6, some 7] (by decide) w h rfl) (cur2 (fun A985 c986 => ?_)) (fun g1103 => ?_)
            · skip
              refine a_one 6 rfl rfl (by kernel_rfl) rfl (zam V60 rfl) (fun s w h => za3 [some 7, some 8] (by decide) w h rfl) (fun g1103 => ?_)
              refine a_one 8 rfl rfl (by kernel_rfl) rfl (zad (i := 0) rfl rfl rfl rfl Z60 rfl rfl) (fun s w h => za3 [some 7, some 8] (by decide) w h rfl) (fun _ => ?_)
              refine za7 9 rfl rfl rfl (by kernel_rfl) (fun _ _ _ h => h) (q_asg rfl) ?_
              refine a_one 10 rfl rfl (by kernel_rfl) rfl (zad (i := 5) rfl rfl rfl rfl Z23 rfl rfl) (fun s w h => za3 [some 7, some 8] (by decide) w h rfl) (fun _ => ?_)
              refine zan (by kernel_rfl) ?_
              refine zao (l984, g1103, c744, A985, c986, g1163, A1043, c1044) h ⟨rfl, rfl, rfl, trivial⟩ (fun w h => za6 [8, 7, 0, 2, 3, 4, 1, 5, 6] (by decide) rfl w h) ?_
              repeat (first | exact za9 _ _ | refine zae rfl ?_ | refine zaa rfl ?_ | refine zaf rfl ?_)
            · skip
              refine a_one 4 rfl rfl (by kernel_rfl) rfl (za8 0 Z Try.func55 N55 rfl rfl rfl (fun w P1 hF hB hS hT => impl_digits.calls k a0 (IntKind.i64.wrap (1 * 2 ^ min (a1 : Int).toNat IntKind.i64.bits)) hB hF _ hx983)) (fun s w h => za3 [some 7, some 8] (by decide) w h rfl) (cur2 (fun A985 c986 => ?_))
              refine a_one 8 rfl rfl (by kernel_rfl) rfl (zad (i := 1) rfl rfl rfl rfl Z60 rfl rfl) (fun s w h => za3 [some 7, some 8] (by decide) w h rfl) (fun _ => ?_)
              refine za7 9 rfl rfl rfl (by kernel_rfl) (fun _ _ _ h => h) (q_asg rfl) ?_
              refine a_one 10 rfl rfl (by kernel_rfl) rfl (zad (i := 5) rfl rfl rfl rfl Z23 rfl rfl) (fun s w h => za3 [some 7, some 8] (by decide) w h rfl) (fun _ => ?_)
              refine zan (by kernel_rfl) ?_
              refine zao (l984, g1103, c744, A985, c986, g1163, A1043, c1044) h ⟨rfl, rfl, rfl, trivial⟩ (fun w h => za6 [8, 7, 1, 2, 3, 4, 0, 5, 6] (by decide) rfl w h) ?_
              repeat (first | exact za9 _ _ | refine zae rfl ?_ | refine zaa rfl ?_ | refine zaf rfl ?_)
          · skip
            refine a_one 0 rfl rfl (by kernel_rfl) rfl (za8 0 Z Try.func54 N54 rfl rfl rfl (fun w P1 hF hB hS hT => impl_newMaker.calls 1 hB hF hx743)) (fun s w h => za3 [some 6, some 7] (by decide) w h rfl) (fun c744 => ?_)
            refine a_one 4 rfl rfl (by kernel_rfl) rfl (za8 0 Z Try.func55 N55 rfl rfl rfl (fun w P1 hF hB hS hT => impl_digits.calls k a0 (IntKind.i64.wrap (1 * 2 ^ min (a1 : Int).toNat IntKind.i64.bits)) hB hF _ hx983)) (fun s w h => za3 [some 7, some 8] (by decide) w h rfl) (cur2 (fun A985 c986 => ?_))
            refine a_one 8 rfl rfl (by kernel_rfl) rfl (zad (i := 4) rfl rfl rfl rfl Z60 rfl rfl) (fun s w h => za3 [some 7, some 8] (by decide) w h rfl) (fun _ => ?_)
            refine za7 9 rfl rfl rfl (by kernel_rfl) (fun _ _ _ h => h) (q_asg rfl) ?_
            refine a_one 10 rfl rfl (by kernel_rfl) rfl (zad (i := 5) rfl rfl rfl rfl Z23 rfl rfl) (fun s w h => za3 [some 7, some 8] (by decide) w h rfl) (fun _ => ?_)
            refine zan (by kernel_rfl) ?_
            refine zao (l984, g1103, c744, A985, c986, g1163, A1043, c1044) h ⟨rfl, rfl, rfl, trivial⟩ (fun w h => za6 [8, 7, 4, 1, 2, 3, 0, 5, 6] (by decide) rfl w h) ?_
            repeat (first | exact za9 _ _ | refine zae rfl ?_ | refine zaa rfl ?_ | refine zaf rfl ?_)
      · skip
        refine a_three 0 5 7 rfl rfl rfl rfl rfl rfl (by kernel_rfl) rfl rfl rfl (za8 0 Z Try.func54 N54 rfl rfl rfl (fun w P1 hF hB hS hT => impl_newMaker.calls 1 hB hF hx743)) (fun s w h => za3 [some 4, some 5] (by decide) w h rfl) (e_lit (vs := [(0, .int .i64 (-1)), (1, .int .i64 0)]) (cs := [.int .i64 (-1), .int .i64 0]) (Kd.int .i64) ([(-1), 0] : List Int) Try.underlying23 I3 (by decide) rfl (by decide) rfl rfl (fun _ _ => Kd.zah _)) (fun s w h => za3 [some 2, some 3] (by decide) w h rfl) (zam V23 rfl) (fun s w h => za3 [some 2, some 3] (by decide) w h rfl) (fun c744 => ?_) (cur2 (fun A1043 c1044 => ?_)) (fun g1163 => ?_)
        · skip
          refine a_three 4 5 7 rfl rfl rfl rfl rfl rfl (by kernel_rfl) rfl rfl rfl (za8 0 Z Try.func55 N55 rfl rfl rfl (fun w P1 hF hB hS hT => impl_digits.calls k a0 (IntKind.i64.wrap (1 * 2 ^ min (a1 : Int).toNat IntKind.i64.bits)) hB hF _ hx983)) (fun s w h => za3 [some 5, some 6] (by decide) w h rfl) (e_lit (vs := [(0, .int .i64 (-1)), (1, .int .i64 0)]) (cs := [.int .i64 (-1), .int .i64 0]) (Kd.int .i64) ([(-1), 0] : List Int) Try.underlying23 I3 (by decide) rfl (by decide) rfl rfl (fun _ _ => Kd.zah _)) (fun s w h => za3 [some 5, some 6] (by decide) w h rfl) (zam V23 rfl) (fun s w h => za3 [some 5, some 6] (by decide) w h rfl) (cur2 (fun A985 c986 => ?_)) (cur2 (fun A1043 c1044 => ?_)) (fun g1163 => ?_)
          · skip
            refine a_two 5 7 rfl rfl rfl rfl (by kernel_rfl) rfl rfl (e_lit (vs := [(0, .int .i64 (-1)), (1, .int .i64 0)]) (cs := [.int .i64 (-1), .int .i64 0]) (Kd.int .i64) ([(-1), 0] : List Int) Try.underlying23 I3 (by decide) rfl (by decide) rfl rfl (fun _ _ => Kd.zah _)) (fun s w h => za3 [some 6, some 7] (by decide) w h rfl) (zam V23 rfl) (fun s w h => za3 [some 6, some 7] (by decide) w h rfl) (cur2 (fun A1043 c1044 => ?_)) (fun g1163 => ?_)
            · skip
              refine a_one 7 rfl rfl (by kernel_rfl) rfl (zam V23 rfl) (fun s w h => za3 [some 7, some 8] (by decide) w h rfl) (fun g1163 => ?_)
              refine a_one 8 rfl rfl (by kernel_rfl) rfl (zad (i := 6) rfl rfl rfl rfl Z60 rfl rfl) (fun s w h => za3 [some 7, some 8] (by decide) w h rfl) (fun _ => ?_)
              refine za7 9 rfl rfl rfl (by kernel_rfl) (fun _ _ _ h => h) (q_asg rfl) ?_
              refine a_one 10 rfl rfl (by kernel_rfl) rfl (zad (i := 0) rfl rfl rfl rfl Z23 rfl rfl) (fun s w h => za3 [some 7, some 8] (by decide) w h rfl) (fun _ => ?_)
              refine zan (by kernel_rfl) ?_
              refine zao (l984, g1103, c744, A985, c986, g1163, A1043, c1044) h ⟨rfl, rfl, rfl, trivial⟩ (fun w h => za6 [8, 7, 6, 3, 4, 5, 2, 0, 1] (by decide) rfl w h) ?_
              repeat (first | exact za9 _ _ | refine zae rfl ?_ | refine zaa rfl ?_ | refine zaf rfl ?_)
            · skip
              refine a_two 5 8 rfl rfl rfl rfl (by kernel_rfl) rfl rfl (e_lit (vs := [(0, .int .i64 (-1)), (1, .int .i64 0)]) (cs := [.int .i64 (-1), .int .i64 0]) (Kd.int .i64) ([(-1), 0] : List Int) Try.underlying23 I3 (by decide) rfl (by decide) rfl rfl (fun _ _ => Kd.zah _)) (fun s w h => za3 [some 7, some 8] (by decide) w h rfl) (zad (i := 5) rfl rfl rfl rfl Z60 rfl rfl) (fun s w h => za3 [some 6, some 7] (by decide) w h rfl) (cur2 (fun A1043 c1044 => ?_)) (fun _ => ?_)
              · skip
                refine a_one 8 rfl rfl (by kernel_rfl) rfl (zad (i := 6) rfl rfl rfl rfl Z60 rfl rfl) (fun s w h => za3 [some 7, some 8] (by decide) w h rfl) (fun _ => ?_)
                refine za7 9 rfl rfl rfl (by kernel_rfl) (fun _ _ _ h => h) (q_asg rfl) ?_
                refine a_one 10 rfl rfl (by kernel_rfl) rfl (zad (i := 1) rfl rfl rfl rfl Z23 rfl rfl) (fun s w h => za3 [some 7, some 8] (by decide) w h rfl) (fun _ => ?_)
                refine zan (by kernel_rfl) ?_
                refine zao (l984, g1103, c744, A985, c986, g1163, A1043, c1044) h ⟨rfl, rfl, rfl, trivial⟩ (fun w h => za6 [8, 7, 6, 3, 4, 5, 2, 1, 0] (by decide) rfl w h) ?_
                repeat (first | exact za9 _ _ | refine zae rfl ?_ | refine zaa rfl ?_ | refine zaf rfl ?_)
              · skip
                refine za7 9 rfl rfl rfl (by kernel_rfl) (fun _ _ _ h => h) (q_asg rfl) ?_
                refine a_one 5 rfl rfl (by kernel_rfl) rfl (e_lit (vs := [(0, .int .i64 (-1)), (1, .int .i64 0)]) (cs := [.int .i64 (-1), .int .i64 0]) (Kd.int .i64) ([(-1), 0] : List Int) Try.underlying23 I3 (by decide) rfl (by decide) rfl rfl (fun _ _ => Kd.zah _)) (fun s w h => za3 [some 7, some 8] (by decide) w h rfl) (cur2 (fun A1043 c1044 => ?_))
                refine a_one 10 rfl rfl (by kernel_rfl) rfl (zad (i := 1) rfl rfl rfl rfl Z23 rfl rfl) (fun s w h => za3 [some 7, some 8] (by decide) w h rfl) (fun _ => ?_)
                refine zan (by kernel_rfl) ?_
                refine zao (l984, g1103, c744, A985, c986, g1163, A1043, c1044) h ⟨rfl, rfl, rfl, trivial⟩ (fun w h => za6 [8, 7, 6, 3, 4, 5, 2, 1, 0] (by decide) rfl w h) ?_
                repeat (first | exact za9 _ _ | refine zae rfl ?_ | refine zaa rfl ?_ | refine zaf rfl ?_)
          · skip
            refine a_two 4 7 rfl rfl rfl rfl (by kernel_rfl) rfl rfl (za8 0 Z Try.func55 N55 rfl rfl rfl (fun w P1 hF hB hS hT => impl_digits.calls k a0 (IntKind.i64.wrap (1 * 2 ^ min (a1 : Int).toNat IntKind.i64.bits)) hB hF _ hx983)) (fun s w h => za3 [some 6, some 7] (by decide) w h rfl) (zam V23 rfl) (fun s w h => za3 [some 6, some 7] (by decide) w h rfl) (cur2 (fun A985 c986 => ?_)) (fun g1163 => ?_)
            · skip
              refine a_one 7 rfl rfl (by kernel_rfl) rfl (zam V23 rfl) (fun s w h => za3 [some 7, some 8] (by decide) w h rfl) (fun g1163 => ?_)
              refine a_one 8 rfl rfl (by kernel_rfl) rfl (zad (i := 6) rfl rfl rfl rfl Z60 rfl rfl) (fun s w h => za3 [some 7, some 8] (by decide) w h rfl) (fun _ => ?_)
              refine za7 9 rfl rfl rfl (by kernel_rfl) (fun _ _ _ h => h) (q_asg rfl) ?_
              refine a_one 10 rfl rfl (by kernel_rfl) rfl (zad (i := 0) rfl rfl rfl rfl Z23 rfl rfl) (fun s w h => za3 [some 7, some 8] (by decide) w h rfl) (fun _ => ?_)
              refine zan (by kernel_rfl) ?_
              refine zao (l984, g1103, c744, A985, c986, g1163, A1043, c1044) h ⟨rfl, rfl, rfl, trivial⟩ (fun w h => za6 [8, 7, 6, 3, 4, 5, 1, 0, 2] (by decide) rfl w h) ?_
              repeat (first | exact za9 _ _ | refine zae rfl ?_ | refine zaa rfl ?_ | refine zaf rfl ?_)
            · skip
              refine a_one 4 rfl rfl (by kernel_rfl) rfl (za8 0 Z Try.func55 N55 rfl rfl rfl (fun w P1 hF hB hS hT => impl_digits.calls k a0 (IntKind.i64.wrap (1 * 2 ^ min (a1 : Int).toNat IntKind.i64.bits)) hB hF _ hx983)) (fun s w h => za3 [some 7, some 8] (by decide) w h rfl) (cur2 (fun A985 c986 => ?_))
              refine a_one 8 rfl rfl (by kernel_rfl) rfl (zad (i := 6) rfl rfl rfl rfl Z60 rfl rfl) (fun s w h => za3 [some 7, some 8] (by decide) w h rfl) (fun _ => ?_)
              refine za7 9 rfl rfl rfl (by kernel_rfl) (fun _ _ _ h => h) (q_asg rfl) ?_
              refine a_one 10 rfl rfl (by kernel_rfl) rfl (zad (i := 1) rfl rfl rfl rfl Z23 rfl rfl) (fun s w h => za3 [some 7, some 8] (by decide) w h rfl) (fun _ => ?_)
              refine zan (by kernel_rfl) ?_
              refine zao (l984, g1103, c744, A985, c986, g1163, A1043, c1044) h ⟨rfl, rfl, rfl, trivial⟩ (fun w h => za6 [8, 7, 6, 3, 4, 5, 0, 1, 2] (by decide) rfl w h) ?_
              repeat (first | exact za9 _ _ | refine zae rfl ?_ | refine zaa rfl ?_ | refine zaf rfl ?_)
          · skip
            refine a_two 4 5 rfl rfl rfl rfl (by kernel_rfl) rfl rfl (za8 0 Z Try.func55 N55 rfl rfl rfl (fun w P1 hF hB hS hT => impl_digits.calls k a0 (IntKind.i64.wrap (1 * 2 ^ min (a1 : Int).toNat IntKind.i64.bits)) hB hF _ hx983)) (fun s w h => za3 [some 6, some 7] (by decide) w h rfl) (e_lit (vs := [(0, .int .i64 (-1)), (1, .int .i64 0)]) (cs := [.int .i64 (-1), .int .i64 0]) (Kd.int .i64) ([(-1), 0] : List Int) Try.underlying23 I3 (by decide) rfl (by decide) rfl rfl (fun _ _ => Kd.zah _)) (fun s w h => za3 [some 6, some 7] (by decide) w h rfl) (cur2 (fun A985 c986 => ?_)) (cur2 (fun A1043 c1044 => ?_))
            · skip
              refine a_two 5 8 rfl rfl rfl rfl (by kernel_rfl) rfl rfl (e_lit (vs := [(0, .int .i64 (-1)), (1, .int .i64 0)]) (cs := [.int .i64 (-1), .int .i64 0]) (Kd.int .i64) ([(-1), 0] : List Int) Try.underlying23 I3 (by decide) rfl (by decide) rfl rfl (fun _ _ => Kd.zah _)) (fun s w h => za3 [some 7, some 8] (by decide) w h rfl) (zad (i := 5) rfl rfl rfl rfl Z60 rfl rfl) (fun s w h => za3 [some 6, some 7] (by decide) w h rfl) (cur2 (fun A1043 c1044 => ?_)) (fun _ => ?_)
              · skip
                refine a_one 8 rfl rfl (by kernel_rfl) rfl (zad (i := 6) rfl rfl rfl rfl Z60 rfl rfl) (fun s w h => za3 [some 7, some 8] (by decide) w h rfl) (fun _ => ?_)
                refine za7 9 rfl rfl rfl (by kernel_rfl) (fun _ _ _ h => h) (q_asg rfl) ?_
                refine a_one 10 rfl rfl (by kernel_rfl) rfl (zad (i := 2) rfl rfl rfl rfl Z23 rfl rfl) (fun s w h => za3 [some 7, some 8] (by decide) w h rfl) (fun _ => ?_)
                refine zan (by kernel_rfl) ?_
                refine zao (l984, g1103, c744, A985, c986, g1163, A1043, c1044) h ⟨rfl, rfl, rfl, trivial⟩ (fun w h => za6 [8, 7, 6, 3, 4, 5, 1, 2, 0] (by decide) rfl w h) ?_
                repeat (first | exact za9 _ _ | refine zae rfl ?_ | refine zaa rfl ?_ | refine zaf rfl ?_)
              · skip
                refine za7 9 rfl rfl rfl (by kernel_rfl) (fun _ _ _ h => h) (q_asg rfl) ?_
                refine a_one 5 rfl rfl (by kernel_rfl) rfl (e_lit (vs := [(0, .int .i64 (-1)), (1, .int .i64 0)]) (cs := [.int .i64 (-1), .int .i64 0]) (Kd.int .i64) ([(-1), 0] : List Int) Try.underlying23 I3 (by decide) rfl (by decide) rfl rfl (fun _ _ => Kd.zah _)) (fun s w h => za3 [some 7, some 8] (by decide) w h rfl) (cur2 (fun A1043 c1044 => ?_))
                refine a_one 10 rfl rfl (by kernel_rfl) rfl (zad (i := 2) rfl rfl rfl rfl Z23 rfl rfl) (fun s w h => za3 [some 7, some 8] (by decide) w h rfl) (fun _ => ?_)
                refine zan (by kernel_rfl) ?_
                refine zao (l984, g1103, c744, A985, c986, g1163, A1043, c1044) h ⟨rfl, rfl, rfl, trivial⟩ (fun w h => za6 [8, 7, 6, 3, 4, 5, 1, 2, 0] (by decide) rfl w h) ?_
                repeat (first | exact za9 _ _ | refine zae rfl ?_ | refine zaa rfl ?_ | refine zaf rfl ?_)
            · skip
              refine a_one 4 rfl rfl (by kernel_rfl) rfl (za8 0 Z Try.func55 N55 rfl rfl rfl (fun w P1 hF hB hS hT => impl_digits.calls k a0 (IntKind.i64.wrap (1 * 2 ^ min (a1 : Int).toNat IntKind.i64.bits)) hB hF _ hx983)) (fun s w h => za3 [some 7, some 8] (by decide) w h rfl) (cur2 (fun A985 c986 => ?_))
              refine a_one 8 rfl rfl (by kernel_rfl) rfl (zad (i := 6) rfl rfl rfl rfl Z60 rfl rfl) (fun s w h => za3 [some 7, some 8] (by decide) w h rfl) (fun _ => ?_)
              refine za7 9 rfl rfl rfl (by kernel_rfl) (fun _ _ _ h => h) (q_asg rfl) ?_
              refine a_one 10 rfl rfl (by kernel_rfl) rfl (zad (i := 2) rfl rfl rfl rfl Z23 rfl rfl) (fun s w h => za3 [some 7, some 8] (by decide) w h rfl) (fun _ => ?_)
              refine zan (by kernel_rfl) ?_
              refine zao (l984, g1103, c744, A985, c986, g1163, A1043, c1044) h ⟨rfl, rfl, rfl, trivial⟩ (fun w h => za6 [8, 7, 6, 3, 4, 5, 0, 2, 1] (by decide) rfl w h) ?_
              repeat (first | exact za9 _ _ | refine zae rfl ?_ | refine zaa rfl ?_ | refine zaf rfl ?_)
        · skip
          refine a_two 0 7 rfl rfl rfl rfl (by kernel_rfl) rfl rfl (za8 0 Z Try.func54 N54 rfl rfl rfl (fun w P1 hF hB hS hT => impl_newMaker.calls 1 hB hF hx743)) (fun s w h => za3 [some 5, some 6] (by decide) w h rfl) (zam V23 rfl) (fun s w h => za3 [some 3, some 4] (by decide) w h rfl) (fun c744 => ?_) (fun g1163 => ?_)
          · skip
            refine a_two 4 7 rfl rfl rfl rfl (by kernel_rfl) rfl rfl (za8 0 Z Try.func55 N55 rfl rfl rfl (fun w P1 hF hB hS hT => impl_digits.calls k a0 (IntKind.i64.wrap (1 * 2 ^ min (a1 : Int).toNat IntKind.i64.bits)) hB hF _ hx983)) (fun s w h => za3 [some 6, some 7] (by decide) w h rfl) (zam V23 rfl) (fun s w h => za3 [some 6, some 7] (by decide) w h rfl) (cur2 (fun A985 c986 => ?_)) (fun g1163 => ?_)
            · skip
              refine a_one 7 rfl rfl (by kernel_rfl) rfl (zam V23 rfl) (fun s w h => za3 [some 7, some 8] (by decide) w h rfl) (fun g1163 => ?_)
              refine a_one 8 rfl rfl (by kernel_rfl) rfl (zad (i := 6) rfl rfl rfl rfl Z60 rfl rfl) (fun s w h => za3 [some 7, some 8] (by decide) w h rfl) (fun _ => ?_)
              refine za7 9 rfl rfl rfl (by kernel_rfl) (fun _ _ _ h => h) (q_asg rfl) ?_
              refine a_one 10 rfl rfl (by kernel_rfl) rfl (zad (i := 0) rfl rfl rfl rfl Z23 rfl rfl) (fun s w h => za3 [some 7, some 8] (by decide) w h rfl) (fun _ => ?_)
              refine zan (by kernel_rfl) ?_
              refine zao (l984, g1103, c744, A985, c986, g1163, A1043, c1044) h ⟨rfl, rfl, rfl, trivial⟩ (fun w h => za6 [8, 7, 6, 2, 3, 4, 1, 0, 5] (by decide) rfl w h) ?_
              repeat (first | exact za9 _ _ | refine zae rfl ?_ | refine zaa rfl ?_ | refine zaf rfl ?_)
            · skip
              refine a_one 4 rfl rfl (by kernel_rfl) rfl (za8 0 Z Try.func55 N55 rfl rfl rfl (fun w P1 hF hB hS hT => impl_digits.calls k a0 (IntKind.i64.wrap (1 * 2 ^ min (a1 : Int).toNat IntKind.i64.bits)) hB hF _ hx983)) (fun s w h => za3 [some 7, some 8] (by decide) w h rfl) (cur2 (fun A985 c986 => ?_))
              refine a_one 8 rfl rfl (by kernel_rfl) rfl (zad (i := 6) rfl rfl rfl rfl Z60 rfl rfl) (fun s w h => za3 [some 7, some 8] (by decide) w h rfl) (fun _ => ?_)
              refine za7 9 rfl rfl rfl (by kernel_rfl) (fun _ _ _ h => h) (q_asg rfl) ?_
              refine a_one 10 rfl rfl (by kernel_rfl) rfl (zad (i := 1) rfl rfl rfl rfl Z23 rfl rfl) (fun s w h => za3 [some 7, some 8] (by decide) w h rfl) (fun _ => ?_)
              refine zan (by kernel_rfl) ?_
              refine zao (l984, g1103, c744, A985, c986, g1163, A1043, c1044) h ⟨rfl, rfl, rfl, trivial⟩ (fun w h => za6 [8, 7, 6, 2, 3, 4, 0, 1, 5] (by decide) rfl w h) ?_
              repeat (first | exact za9 _ _ | refine zae rfl ?_ | refine zaa rfl ?_ | refine zaf rfl ?_)
          · skip
            refine a_one 0 rfl rfl (by kernel_rfl) rfl (za8 0 Z Try.func54 N54 rfl rfl rfl (fun w P1 hF hB hS hT => impl_newMaker.calls 1 hB hF hx743)) (fun s w h => za3 [some 6, some 7] (by decide) w h rfl) (fun c744 => ?_)
            refine a_one 4 rfl rfl (by kernel_rfl) rfl (za8 0 Z Try.func55 N55 rfl rfl rfl (fun w P1 hF hB hS hT => impl_digits.calls k a0 (IntKind.i64.wrap (1 * 2 ^ min (a1 : Int).toNat IntKind.i64.bits)) hB hF _ hx983)) (fun s w h => za3 [some 7, some 8] (by decide) w h rfl) (cur2 (fun A985 c986 => ?_))
            refine a_one 8 rfl rfl (by kernel_rfl) rfl (zad (i := 6) rfl rfl rfl rfl Z60 rfl rfl) (fun s w h => za3 [some 7, some 8] (by decide) w h rfl) (fun _ => ?_)
            refine za7 9 rfl rfl rfl (by kernel_rfl) (fun _ _ _ h => h) (q_asg rfl) ?_
            refine a_one 10 rfl rfl (by kernel_rfl) rfl (zad (i := 4) rfl rfl rfl rfl Z23 rfl rfl) (fun s w h => za3 [some 7, some 8] (by decide) w h rfl) (fun _ => ?_)
            refine zan (by kernel_rfl) ?_
            refine zao (l984, g1103, c744, A985, c986, g1163, A1043, c1044) h ⟨rfl, rfl, rfl, trivial⟩ (fun w h => za6 [8, 7, 6, 1, 2, 3, 0, 4, 5] (by decide) rfl w h) ?_
            repeat (first | exact za9 _ _ | refine zae rfl ?_ | refine zaa rfl ?_ | refine zaf rfl ?_)
        · skip
          refine a_two 0 5 rfl rfl rfl rfl (by kernel_rfl) rfl rfl (za8 0 Z Try.func54 N54 rfl rfl rfl (fun w P1 hF hB hS hT => impl_newMaker.calls 1 hB hF hx743)) (fun s w h => za3 [some 5, some 6] (by decide) w h rfl) (e_lit (vs := [(0, .int .i64 (-1)), (1, .int .i64 0)]) (cs := [.int .i64 (-1), .int .i64 0]) (Kd.int .i64) ([(-1), 0] : List Int) Try.underlying23 I3 (by decide) rfl (by decide) rfl rfl (fun _ _ => Kd.zah _)) (fun s w h => za3 [some 3, some 4] (by decide) w h rfl) (fun c744 => ?_) (cur2 (fun A1043 c1044 => ?_))
          · skip
            refine a_two 4 5 rfl rfl rfl rfl (by kernel_rfl) rfl rfl (za8 0 Z Try.func55 N55 rfl rfl rfl (fun w P1 hF hB hS hT => impl_digits.calls k a0 (IntKind.i64.wrap (1 * 2 ^ min (a1 : Int).toNat IntKind.i64.bits)) hB hF _ hx983)) (fun s w h => za3 [some 6, some 7] (by decide) w h rfl) (e_lit (vs := [(0, .int .i64 (-1)), (1, .int .i64 0)]) (cs := [.int .i64 (-1), .int .i64 0]) (Kd.int .i64) ([(-1), 0] : List Int) Try.underlying23 I3 (by decide) rfl (by decide) rfl rfl (fun _ _ => Kd.zah _)) (fun s w h => za3 [some 6, some 7] (by decide) w h rfl) (cur2 (fun A985 c986 => ?_)) (cur2 (fun A1043 c1044 => ?_))
            · skip
              refine a_two 5 8 rfl rfl rfl rfl (by kernel_rfl) rfl rfl (e_lit (vs := [(0, .int .i64 (-1)), (1, .int .i64 0)]) (cs := [.int .i64 (-1), .int .i64 0]) (Kd.int .i64) ([(-1), 0] : List Int) Try.underlying23 I3 (by decide) rfl (by decide) rfl rfl (fun _ _ => Kd.zah _)) (fun s w h => za3 [some 7, some 8] (by decide) w h rfl) (zad (i := 5) rfl rfl rfl rfl Z60 rfl rfl) (fun s w h => za3 [some 6, some 7] (by decide) w h rfl) (cur2 (fun A1043 c1044 => ?_)) (fun _ => ?_)
              · skip
                refine a_one 8 rfl rfl (by kernel_rfl) rfl (zad (i := 6) rfl rfl rfl rfl Z60 rfl rfl) (fun s w h => za3 [some 7, some 8] (by decide) w h rfl) (fun _ => ?_)
                refine za7 9 rfl rfl rfl (by kernel_rfl) (fun _ _ _ h => h) (q_asg rfl) ?_
                refine a_one 10 rfl rfl (by kernel_rfl) rfl (zad (i := 5) rfl rfl rfl rfl Z23 rfl rfl) (fun s w h => za3 [some 7, some 8] (by decide) w h rfl) (fun _ => ?_)
                refine zan (by kernel_rfl) ?_
                refine zao (l984, g1103, c744, A985, c986, g1163, A1043, c1044) h ⟨rfl, rfl, rfl, trivial⟩ (fun w h => za6 [8, 7, 6, 2, 3, 4, 1, 5, 0] (by decide) rfl w h) ?_
                repeat (first | exact za9 _ _ | refine zae rfl ?_ | refine zaa rfl ?_ | refine zaf rfl ?_)
              · skip
                refine za7 9 rfl rfl rfl (by kernel_rfl) (fun _ _ _ h => h) (q_asg rfl) ?_
                refine a_one 5 rfl rfl (by kernel_rfl) rfl (e_lit (vs := [(0, .int .i64 (-1)), (1, .int .i64 0)]) (cs := [.int .i64 (-1), .int .i64 0]) (Kd.int .i64) ([(-1), 0] : List Int) Try.underlying23 I3 (by decide) rfl (by decide) rfl rfl (fun _ _ => Kd.zah _)) (fun s w h => za3 [some 7, some 8] (by decide) w h rfl) (cur2 (fun A1043 c1044 => ?_))
                refine a_one 10 rfl rfl (by kernel_rfl) rfl (zad (i := 5) rfl rfl rfl rfl Z23 rfl rfl) (fun s w h => za3 [some 7, some 8] (by decide) w h rfl) (fun _ => ?_)
                refine zan (by kernel_rfl) ?_
                refine zao (l984, g1103, c744, A985, c986, g1163, A1043, c1044) h ⟨rfl, rfl, rfl, trivial⟩ (fun w h => za6 [8, 7, 6, 2, 3, 4, 1, 5, 0] (by decide) rfl w h) ?_
                repeat (first | exact za9 _ _ | refine zae rfl ?_ | refine zaa rfl ?_ | refine zaf rfl ?_)
            · skip
              refine a_one 4 rfl rfl (by kernel_rfl) rfl (za8 0 Z Try.func55 N55 rfl rfl rfl (fun w P1 hF hB hS hT => impl_digits.calls k a0 (IntKind.i64.wrap (1 * 2 ^ min (a1 : Int).toNat IntKind.i64.bits)) hB hF _ hx983)) (fun s w h => za3 [some 7, some 8] (by decide) w h rfl) (cur2 (fun A985 c986 => ?_))
              refine a_one 8 rfl rfl (by kernel_rfl) rfl (zad (i := 6) rfl rfl rfl rfl Z60 rfl rfl) (fun s w h => za3 [some 7, some 8] (by decide) w h rfl) (fun _ => ?_)
              refine za7 9 rfl rfl rfl (by kernel_rfl) (fun _ _ _ h => h) (q_asg rfl) ?_
              refine a_one 10 rfl rfl (by kernel_rfl) rfl (zad (i := 5) rfl rfl rfl rfl Z23 rfl rfl) (fun s w h => za3 [some 7, some 8] (by decide) w h rfl) (fun _ => ?_)
              refine zan (by kernel_rfl) ?_
              refine zao (l984, g1103, c744, A985, c986, g1163, A1043, c1044) h ⟨rfl, rfl, rfl, trivial⟩ (fun w h => za6 [8, 7, 6, 2, 3, 4, 0, 5, 1] (by decide) rfl w h) ?_
              repeat (first | exact za9 _ _ | refine zae rfl ?_ | refine zaa rfl ?_ | refine zaf rfl ?_)
          · skip
            refine a_one 0 rfl rfl (by kernel_rfl) rfl (za8 0 Z Try.func54 N54 rfl rfl rfl (fun w P1 hF hB hS hT => impl_newMaker.calls 1 hB hF hx743)) (fun s w h => za3 [some 6, some 7] (by decide) w h rfl) (fun c744 => ?_)
            refine a_one 4 rfl rfl (by kernel_rfl) rfl (za8 0 Z Try.func55 N55 rfl rfl rfl (fun w P1 hF hB hS hT => impl_digits.calls k a0 (IntKind.i64.wrap (1 * 2 ^ min (a1 : Int).toNat IntKind.i64.bits)) hB hF _ hx983)) (fun s w h => za3 [some 7, some 8] (by decide) w h rfl) (cur2 (fun A985 c986 => ?_))
            refine a_one 8 rfl rfl (by kernel_rfl) rfl (zad (i := 6) rfl rfl rfl rfl Z60 rfl rfl) (fun s w h => za3 [some 7, some 8] (by decide) w h rfl) (fun _ => ?_)
            refine za7 9 rfl rfl rfl (by kernel_rfl) (fun _ _ _ h => h) (q_asg rfl) ?_
            refine a_one 10 rfl rfl (by kernel_rfl) rfl (zad (i := 5) rfl rfl rfl rfl Z23 rfl rfl) (fun s w h => za3 [some 7, some 8] (by decide) w h rfl) (fun _ => ?_)
            refine zan (by kernel_rfl) ?_
            refine zao (l984, g1103, c744, A985, c986, g1163, A1043, c1044) h ⟨rfl, rfl, rfl, trivial⟩ (fun w h => za6 [8, 7, 6, 1, 2, 3, 0, 5, 4] (by decide) rfl w h) ?_
            repeat (first | exact za9 _ _ | refine zae rfl ?_ | refine zaa rfl ?_ | refine zaf rfl ?_)
      · skip
        refine a_three 0 5 6 rfl rfl rfl rfl rfl rfl (by kernel_rfl) rfl rfl rfl (za8 0 Z Try.func54 N54 rfl rfl rfl (fun w P1 hF hB hS hT => impl_newMaker.calls 1 hB hF hx743)) (fun s w h => za3 [some 4, some 5] (by decide) w h rfl) (e_lit (vs := [(0, .int .i64 (-1)), (1, .int .i64 0)]) (cs := [.int .i64 (-1), .int .i64 0]) (Kd.int .i64) ([(-1), 0] : List Int) Try.underlying23 I3 (by decide) rfl (by decide) rfl rfl (fun _ _ => Kd.zah _)) (fun s w h => za3 [some 2, some 3] (by decide) w h rfl) (zam V60 rfl) (fun s w h => za3 [some 2, some 3] (by decide) w h rfl) (fun c744 => ?_) (cur2 (fun A1043 c1044 => ?_)) (fun g1103 => ?_)
        · skip
          refine a_three 4 5 6 rfl rfl rfl rfl rfl rfl (by kernel_rfl) rfl rfl rfl (za8 0 Z Try.func55 N55 rfl rfl rfl (fun w P1 hF hB hS hT => impl_digits.calls k a0 (IntKind.i64.wrap (1 * 2 ^ min (a1 : Int).toNat IntKind.i64.bits)) hB hF _ hx983)) (fun s w h => za3 [some 5, some 6] (by decide) w h rfl) (e_lit (vs := [(0, .int .i64 (-1)), (1, .int .i64 0)]) (cs := [.int .i64 (-1), .int .i64 0]) (Kd.int .i64) ([(-1), 0] : List Int) Try.underlying23 I3 (by decide) rfl (by decide) rfl rfl (fun _ _ => Kd.zah _)) (fun s w h => za3 [some 5, some 6] (by decide) w h rfl) (zam V60 rfl) (fun s w h => za3 [some 5, some 6] (by decide) w h rfl) (cur2 (fun A985 c986 => ?_)) (cur2 (fun A1043 c1044 => ?_)) (fun g1103 => ?_)
          · skip
            refine a_two 5 6 rfl rfl rfl rfl (by kernel_rfl) rfl rfl (e_lit (vs := [(0, .int .i64 (-1)), (1, .int .i64 0)]) (cs := [.int .i64 (-1), .int .i64 0]) (Kd.int .i64) ([(-1), 0] : List Int) Try.underlying23 I3 (by decide) rfl (by decide) rfl rfl (fun _ _ => Kd.zah _)) (fun s w h => za3 [some 6, some 7] (by decide) w h rfl) (zam V60 rfl) (fun s w h => za3 [some 6, some 7] (by decide) w h rfl) (cur2 (fun A1043 c1044 => ?_)) (fun g1103 => ?_)
            · skip
              refine a_one 6 rfl rfl (by kernel_rfl) rfl (zam V60 rfl) (fun s w h => za3 [some 7, some 8] (by decide) w h rfl) (fun g1103 => ?_)
              refine a_one 8 rfl rfl (by kernel_rfl) rfl (zad (i := 0) rfl rfl rfl rfl Z60 rfl rfl) (fun s w h => za3 [some 7, some 8] (by decide) w h rfl) (fun _ => ?_)
              refine za7 9 rfl rfl rfl (by kernel_rfl) (fun _ _ _ h => h) (q_asg rfl) ?_
              refine a_one 10 rfl rfl (by kernel_rfl) rfl (zad (i := 6) rfl rfl rfl rfl Z23 rfl rfl) (fun s w h => za3 [some 7, some 8] (by decide) w h rfl) (fun _ => ?_)
              refine zan (by kernel_rfl) ?_
              refine zao (l984, g1103, c744, A985, c986, g1163, A1043, c1044) h ⟨rfl, rfl, rfl, trivial⟩ (fun w h => za6 [8, 7, 0, 3, 4, 5, 2, 6, 1] (by decide) rfl w h) ?_
              repeat (first | exact za9 _ _ | refine zae rfl ?_ | refine zaa rfl ?_ | refine zaf rfl ?_)
            · skip
              refine a_two 5 8 rfl rfl rfl rfl (by kernel_rfl) rfl rfl (e_lit (vs := [(0, .int .i64 (-1)), (1, .int .i64 0)]) (cs := [.int .i64 (-1), .int .i64 0]) (Kd.int .i64) ([(-1), 0] : List Int) Try.underlying23 I3 (by decide) rfl (by decide) rfl rfl (fun _ _ => Kd.zah _)) (fun s w h => za3 [some 7, some 8] (by decide) w h rfl) (zad (i := 0) rfl rfl rfl rfl Z60 rfl rfl) (fun s w h => za3 [some 6, some 7] (by decide) w h rfl) (cur2 (fun A1043 c1044 => ?_)) (fun _ => ?_)
              · skip
                refine a_one 8 rfl rfl (by kernel_rfl) rfl (zad (i := 1) rfl rfl rfl rfl Z60 rfl rfl) (fun s w h => za3 [some 7, some 8] (by decide) w h rfl) (fun _ => ?_)
                refine za7 9 rfl rfl rfl (by kernel_rfl) (fun _ _ _ h => h) (q_asg rfl) ?_
                refine a_one 10 rfl rfl (by kernel_rfl) rfl (zad (i := 6) rfl rfl rfl rfl Z23 rfl rfl) (fun s w h => za3 [some 7, some 8] (by decide) w h rfl) (fun _ => ?_)
                refine zan (by kernel_rfl) ?_
                refine zao (l984, g1103, c744, A985, c986, g1163, A1043, c1044) h ⟨rfl, rfl, rfl, trivial⟩ (fun w h => za6 [8, 7, 1, 3, 4, 5, 2, 6, 0] (by decide) rfl w h) ?_
                repeat (first | exact za9 _ _ | refine zae rfl ?_ | refine zaa rfl ?_ | refine zaf rfl ?_)
              · skip
                refine za7 9 rfl rfl rfl (by kernel_rfl) (fun _ _ _ h => h) (q_asg rfl) ?_
                refine a_one 5 rfl rfl (by kernel_rfl) rfl (e_lit (vs := [(0, .int .i64 (-1)), (1, .int .i64 0)]) (cs := [.int .i64 (-1), .int .i64 0]) (Kd.int .i64) ([(-1), 0] : List Int) Try.underlying23 I3 (by decide) rfl (by decide) rfl rfl (fun _ _ => Kd.zah _)) (fun s w h => za3 [some 7, some 8] (by decide) w h rfl) (cur2 (fun A1043 c1044 => ?_))
                refine a_one 10 rfl rfl (by kernel_rfl) rfl (zad (i := 6) rfl rfl rfl rfl Z23 rfl rfl) (fun s w h => za3 [some 7, some 8] (by decide) w h rfl) (fun _ => ?_)
                refine zan (by kernel_rfl) ?_
                refine zao (l984, g1103, c744, A985, c986, g1163, A1043, c1044) h ⟨rfl, rfl, rfl, trivial⟩ (fun w h => za6 [8, 7, 1, 3, 4, 5, 2, 6, 0] (by decide) rfl w h) ?_
                repeat (first | exact za9 _ _ | refine zae rfl ?_ | refine zaa rfl ?_ | refine zaf rfl ?_)
          · skip
            refine a_two 4 6 rfl rfl rfl rfl (by kernel_rfl) rfl rfl (za8 0 Z Try.func55 N55 rfl rfl rfl (fun w P1 hF hB hS hT => impl_digits.calls k a0 (IntKind.i64.wrap (1 * 2 ^ min (a1 : Int).toNat IntKind.i64.bits)) hB hF _ hx983)) (fun s w h => za3 [some 6, some 7] (by decide) w h rfl) (zam V60 rfl) (fun s w h => za3 [some 6, some 7] (by decide) w h rfl) (cur2 (fun A985 c986 => ?_)) (fun g1103 => ?_)
            · skip
              refine a_one 6 rfl rfl (by kernel_rfl) rfl (zam V60 rfl) (fun s w h => za3 [some 7, some 8] (by decide) w h rfl) (fun g1103 => ?_)
              refine a_one 8 rfl rfl (by kernel_rfl) rfl (zad (i := 0) rfl rfl rfl rfl Z60 rfl rfl) (fun s w h => za3 [some 7, some 8] (by decide) w h rfl) (fun _ => ?_)
              refine za7 9 rfl rfl rfl (by kernel_rfl) (fun _ _ _ h => h) (q_asg rfl) ?_
              refine a_one 10 rfl rfl (by kernel_rfl) rfl (zad (i := 6) rfl rfl rfl rfl Z23 rfl rfl) (fun s w h => za3 [some 7, some 8] (by decide) w h rfl) (fun _ => ?_)
              refine zan (by kernel_rfl) ?_
              refine zao (l984, g1103, c744, A985, c986, g1163, A1043, c1044) h ⟨rfl, rfl, rfl, trivial⟩ (fun w h => za6 [8, 7, 0, 3, 4, 5, 1, 6, 2] (by decide) rfl w h) ?_
              repeat (first | exact za9 _ _ | refine zae rfl ?_ | refine zaa rfl ?_ | refine zaf rfl ?_)
            · skip
              refine a_one 4 rfl rfl (by kernel_rfl) rfl (za8 0 Z Try.func55 N55 rfl rfl rfl (fun w P1 hF hB hS hT => impl_digits.calls k a0 (IntKind.i64.wrap (1 * 2 ^ min (a1 : Int).toNat IntKind.i64.bits)) hB hF _ hx983)) (fun s w h => za3 [some 7, some 8] (by decide) w h rfl) (cur2 (fun A985 c986 => ?_))
              refine a_one 8 rfl rfl (by kernel_rfl) rfl (zad (i := 1) rfl rfl rfl rfl Z60 rfl rfl) (fun s w h => za3 [some 7, some 8] (by decide) w h rfl) (fun _ => ?_)
              refine za7 9 rfl rfl rfl (by kernel_rfl) (fun _ _ _ h => h) (q_asg rfl) ?_
              refine a_one 10 rfl rfl (by kernel_rfl) rfl (zad (i := 6) rfl rfl rfl rfl Z23 rfl rfl) (fun s w h => za3 [some 7, some 8] (by decide) w h rfl) (fun _ => ?_)
              refine zan (by kernel_rfl) ?_
              refine zao (l984, g1103, c744, A985, c986, g1163, A1043, c1044) h ⟨rfl, rfl, rfl, trivial⟩ (fun w h => za6 [8, 7, 1, 3, 4, 5, 0, 6, 2] (by decide) rfl w h) ?_
              repeat (first | exact za9 _ _ | refine zae rfl ?_ | refine zaa rfl ?_ | refine zaf rfl ?_)
          · skip
            refine a_two 4 5 rfl rfl rfl rfl (by kernel_rfl) rfl rfl (za8 0 Z Try.func55 N55 rfl rfl rfl (fun w P1 hF hB hS hT => impl_digits.calls k a0 (IntKind.i64.wrap (1 * 2 ^ min (a1 : Int).toNat IntKind.i64.bits)) hB hF _ hx983)) (fun s w h => za3 [some 6, some 7] (by decide) w h rfl) (e_lit (vs := [(0, .int .i64 (-1)), (1, .int .i64 0)]) (cs := [.int .i64 (-1), .int .i64 0]) (Kd.int .i64) ([(-1), 0] : List Int) Try.underlying23 I3 (by decide) rfl (by decide) rfl rfl (fun _ _ => Kd.zah _)) (fun s w h => za3 [some 6, some 7] (by decide) w h rfl) (cur2 (fun A985 c986 => ?_)) (cur2 (fun A1043 c1044 => ?_))
            · skip
              refine a_two 5 8 rfl rfl rfl rfl (by kernel_rfl) rfl rfl (e_lit (vs := [(0, .int .i64 (-1)), (1, .int .i64 0)]) (cs := [.int .i64 (-1), .int .i64 0]) (Kd.int .i64) ([(-1), 0] : List Int) Try.underlying23 I3 (by decide) rfl (by decide) rfl rfl (fun _ _ => Kd.zah _)) (fun s w h => za3 [some 7, some 8] (by decide) w h rfl) (zad (i := 1) rfl rfl rfl rfl Z60 rfl rfl) (fun s w h => za3 [some 6, some 7] (by decide) w h rfl) (cur2 (fun A1043 c1044 => ?_)) (fun _ => ?_)
              · skip
                refine a_one 8 rfl rfl (by kernel_rfl) rfl (zad (i := 2) rfl rfl rfl rfl Z60 rfl rfl) (fun s w h => za3 [some 7, some 8] (by decide) w h rfl) (fun _ => ?_)
                refine za7 9 rfl rfl rfl (by kernel_rfl) (fun _ _ _ h => h) (q_asg rfl) ?_
                refine a_one 10 rfl rfl (by kernel_rfl) rfl (zad (i := 6) rfl rfl rfl rfl Z23 rfl rfl) (fun s w h => za3 [some 7, some 8] (by decide) w h rfl) (fun _ => ?_)
                refine zan (by kernel_rfl) ?_
                refine zao (l984, g1103, c744, A985, c986, g1163, A1043, c1044) h ⟨rfl, rfl, rfl, trivial⟩ (fun w h => za6 [8, 7, 2, 3, 4, 5, 1, 6, 0] (by decide) rfl w h) ?_
                repeat (first | exact za9 _ _ | refine zae rfl ?_ | refine zaa rfl ?_ | refine zaf rfl ?_)
              · skip
                refine za7 9 rfl rfl rfl (by kernel_rfl) (fun _ _ _ h => h) (q_asg rfl) ?_
                refine a_one 5 rfl rfl (by kernel_rfl) rfl (e_lit (vs := [(0, .int .i64 (-1)), (1, .int .i64 0)]) (cs := [.int .i64 (-1), .int .i64 0]) (Kd.int .i64) ([(-1), 0] : List Int) Try.underlying23 I3 (by decide) rfl (by decide) rfl rfl (fun _ _ => Kd.zah _)) (fun s w h => za3 [some 7, some 8] (by decide) w h rfl) (cur2 (fun A1043 c1044 => ?_))
                refine a_one 10 rfl rfl (by kernel_rfl) rfl (zad (i := 6) rfl rfl rfl rfl Z23 rfl rfl) (fun s w h => za3 [some 7, some 8] (by decide) w h rfl) (fun _ => ?_)
                refine zan (by kernel_rfl) ?_
                refine zao (l984, g1103, c744, A985, c986, g1163, A1043, c1044) h ⟨rfl, rfl, rfl, trivial⟩ (fun w h => za6 [8, 7, 2, 3, 4, 5, 1, 6, 0] (by decide) rfl w h) ?_
                repeat (first | exact za9 _ _ | refine zae rfl ?_ | refine zaa rfl ?_ | refine zaf rfl ?_)
            · skip
              refine a_one 4 rfl rfl (by kernel_rfl) rfl (za8 0 Z Try.func55 N55 rfl rfl rfl (fun w P1 hF hB hS hT => impl_digits.calls k a0 (IntKind.i64.wrap (1 * 2 ^ min (a1 : Int).toNat IntKind.i64.bits)) hB hF _ hx983)) (fun s w h => za3 [some 7, some 8] (by decide) w h rfl) (cur2 (fun A985 c986 => ?_))
              refine a_one 8 rfl rfl (by kernel_rfl) rfl (zad (i := 2) rfl rfl rfl rfl Z60 rfl rfl) (fun s w h => za3 [some 7, some 8] (by decide) w h rfl) (fun _ => ?_)
              refine za7 9 rfl rfl rfl (by kernel_rfl) (fun _ _ _ h => h) (q_asg rfl) ?_
              refine a_one 10 rfl rfl (by kernel_rfl) rfl (zad (i := 6) rfl rfl rfl rfl Z23 rfl rfl) (fun s w h => za3 [some 7, some 8] (by decide) w h rfl) (fun _ => ?_)
              refine zan (by kernel_rfl) ?_
              refine zao (l984, g1103, c744, A985, c986, g1163, A1043, c1044) h ⟨rfl, rfl, rfl, trivial⟩ (fun w h => za6 [8, 7, 2, 3, 4, 5, 0, 6, 1] (by decide) rfl w h) ?_
              repeat (first | exact za9 _ _ | refine zae rfl ?_ | refine zaa rfl ?_ | refine zaf rfl ?_)
        · skip
          refine a_two 0 6 rfl rfl rfl rfl (by kernel_rfl) rfl rfl (za8 0 Z Try.func54 N54 rfl rfl rfl (fun w P1 hF hB hS hT => impl_newMaker.calls 1 hB hF hx743)) (fun s w h => za3 [some 5, some 6] (by decide) w h rfl) (zam V60 rfl) (fun s w h => za3 [some 3, some 4] (by decide) w h rfl) (fun c744 => ?_) (fun g1103 => ?_)
          · skip
            refine a_two 4 6 rfl rfl rfl rfl (by kernel_rfl) rfl rfl (za8 0 Z Try.func55 N55 rfl rfl rfl (fun w P1 hF hB hS hT => impl_digits.calls k a0 (IntKind.i64.wrap (1 * 2 ^ min (a1 : Int).toNat IntKind.i64.bits)) hB hF _ hx983)) (fun s w h => za3 [some 6, some 7] (by decide) w h rfl) (zam V60 rfl) (fun s w h => za3 [some 6, some 7] (by decide) w h rfl) (cur2 (fun A985 c986 => ?_)) (fun g1103 => ?_)
            · skip
              refine a_one 6 rfl rfl (by kernel_rfl) rfl (zam V60 rfl) (fun s w h => za3 [some 7, some 8] (by decide) w h rfl) (fun g1103 => ?_)
              refine a_one 8 rfl rfl (by kernel_rfl) rfl (zad (i := 0) rfl rfl rfl rfl Z60 rfl rfl) (fun s w h => za3 [some 7, some 8] (by decide) w h rfl) (fun _ => ?_)
              refine za7 9 rfl rfl rfl (by kernel_rfl) (fun _ _ _ h => h) (q_asg rfl) ?_
              refine a_one 10 rfl rfl (by kernel_rfl) rfl (zad (i := 6) rfl rfl rfl rfl Z23 rfl rfl) (fun s w h => za3 [some 7, some 8] (by decide) w h rfl) (fun _ => ?_)
              refine zan (by kernel_rfl) ?_
              refine zao (l984, g1103, c744, A985, c986, g1163, A1043, c1044) h ⟨rfl, rfl, rfl, trivial⟩ (fun w h => za6 [8, 7, 0, 2, 3, 4, 1, 6, 5] (by decide) rfl w h) ?_
              repeat (first | exact za9 _ _ | refine zae rfl ?_ | refine zaa rfl ?_ | refine zaf rfl ?_)
            · skip
              refine a_one 4 rfl rfl (by kernel_rfl) rfl (za8 0 Z Try.func55 N55 rfl rfl rfl (fun w P1 hF hB hS hT => impl_digits.calls k a0 (IntKind.i64.wrap (1 * 2 ^ min (a1 : Int).toNat IntKind.i64.bits)) hB hF _ hx983)) (fun s w h => za3 [some 7, some 8] (by decide) w h rfl) (cur2 (fun A985 c986 => ?_))
              refine a_one 8 rfl rfl (by kernel_rfl) rfl (zad (i := 1) rfl rfl rfl rfl Z60 rfl rfl) (fun s w h => za3 [some 7, some 8] (by decide) w h rfl) (fun _ => ?_)
              refine za7 9 rfl rfl rfl (by kernel_rfl) (fun _ _ _ h => h) (q_asg rfl) ?_
              refine a_one 10 rfl rfl (by kernel_rfl) rfl (zad (i := 6) rfl rfl rfl rfl Z23 rfl rfl) (fun s w h => za3 [some 7, some 8] (by decide) w h rfl) (fun _ => ?_)
              refine zan (by kernel_rfl) ?_
              refine zao (l984, g1103, c744, A985, c986, g1163, A1043, c1044) h ⟨rfl, rfl, rfl, trivial⟩ (fun w h => za6 [8, 7, 1, 2, 3, 4, 0, 6, 5] (by decide) rfl w h) ?_
              repeat (first | exact za9 _ _ | refine zae rfl ?_ | refine zaa rfl ?_ | refine zaf rfl ?_)
          · skip
            refine a_one 0 rfl rfl (by kernel_rfl) rfl (za8 0 Z Try.func54 N54 rfl rfl rfl (fun w P1 hF hB hS hT => impl_newMaker.calls 1 hB hF hx743)) (fun s w h => za3 [some 6, some 7] (by decide) w h rfl) (fun c744 => ?_)
            refine a_one 4 rfl rfl (by kernel_rfl) rfl (za8 0 Z Try.func55 N55 rfl rfl rfl (fun w P1 hF hB hS hT => impl_digits.calls k a0 (IntKind.i64.wrap (1 * 2 ^ min (a1 : Int).toNat IntKind.i64.bits)) hB hF _ hx983)) (fun s w h => za3 [some 7, some 8] (by decide) w h rfl) (cur2 (fun A985 c986 => ?_))
            refine a_one 8 rfl rfl (by kernel_rfl) rfl (zad (i := 4) rfl rfl rfl rfl Z60 rfl rfl) (fun s w h => za3 [some 7, some 8] (by decide) w h rfl) (fun _ => ?_)
            refine za7 9 rfl rfl rfl (by kernel_rfl) (fun _ _ _ h => h) (q_asg rfl) ?_
            refine a_one 10 rfl rfl (by kernel_rfl) rfl (zad (i := 6) rfl rfl rfl rfl Z23 rfl rfl) (fun s w h => za3 [some 7, some 8] (by decide) w h rfl) (fun _ => ?_)
            refine zan (by kernel_rfl) ?_
            refine zao (l984, g1103, c744, A985, c986, g1163, A1043, c1044) h ⟨rfl, rfl, rfl, trivial⟩ (fun w h => za6 [8, 7, 4, 1, 2, 3, 0, 6, 5] (by decide) rfl w h) ?_
            repeat (first | exact za9 _ _ | refine zae rfl ?_ | refine zaa rfl ?_ | refine zaf rfl ?_)
        · skip
          refine a_two 0 5 rfl rfl rfl rfl (by kernel_rfl) rfl rfl (za8 0 Z Try.func54 N54 rfl rfl rfl (fun w P1 hF hB hS hT => impl_newMaker.calls 1 hB hF hx743)) (fun s w h => za3 [some 5, some 6] (by decide) w h rfl) (e_lit (vs := [(0, .int .i64 (-1)), (1, .int .i64 0)]) (cs := [.int .i64 (-1), .int .i64 0]) (Kd.int .i64) ([(-1), 0] : List Int) Try.underlying23 I3 (by decide) rfl (by decide) rfl rfl (fun _ _ => Kd.zah _)) (fun s w h => za3 [some 3, some 4] (by decide) w h rfl) (fun c744 => ?_) (cur2 (fun A1043 c1044 => ?_))
          · skip
            refine a_two 4 5 rfl rfl rfl rfl (by kernel_rfl) rfl rfl (za8 0 Z Try.func55 N55 rfl rfl rfl (fun w P1 hF hB hS hT => impl_digits.calls k a0 (IntKind.i64.wrap (1 * 2 ^ min (a1 : Int).toNat IntKind.i64.bits)) hB hF _ hx983)) (fun s w h => za3 [some 6, some 7] (by decide) w h rfl) (e_lit (vs := [(0, .int .i64 (-1)), (1, .int .i64 0)]) (cs := [.int .i64 (-1), .int .i64 0]) (Kd.int .i64) ([(-1), 0] : List Int) Try.underlying23 I3 (by decide) rfl (by decide) rfl rfl (fun _ _ => Kd.zah _)) (fun s w h => za3 [some 6, some 7] (by decide) w h rfl) (cur2 (fun A985 c986 => ?_)) (cur2 (fun A1043 c1044 => ?_))
            · skip
              refine a_two 5 8 rfl rfl rfl rfl (by kernel_rfl) rfl rfl (e_lit (vs := [(0, .int .i64 (-1)), (1, .int .i64 0)]) (cs := [.int .i64 (-1), .int .i64 0]) (Kd.int .i64) ([(-1), 0] : List Int) Try.underlying23 I3 (by decide) rfl (by decide) rfl rfl (fun _ _ => Kd.zah _)) (fun s w h => za3 [some 7, some 8] (by decide) w h rfl) (zad (i := 4) rfl rfl rfl rfl Z60 rfl rfl) (fun s w h => za3 [some 6, some 7] (by decide) w h rfl) (cur2 (fun A1043 c1044 => ?_)) (fun _ => ?_)
              · skip
                refine a_one 8 rfl rfl (by kernel_rfl) rfl (zad (i := 5) rfl rfl rfl rfl Z60 rfl rfl) (fun s w h => za3 [some 7, some 8] (by decide) w h rfl) (fun _ => ?_)
                refine za7 9 rfl rfl rfl (by kernel_rfl) (fun _ _ _ h => h) (q_asg rfl) ?_
                refine a_one 10 rfl rfl (by kernel_rfl) rfl (zad (i := 6) rfl rfl rfl rfl Z23 rfl rfl) (fun s w h => za3 [some 7, some 8] (by decide) w h rfl) (fun _ => ?_)
                refine zan (by kernel_rfl) ?_
                refine zao (l984, g1103, c744, A985, c986, g1163, A1043, c1044) h ⟨rfl, rfl, rfl, trivial⟩ (fun w h => za6 [8, 7, 5, 2, 3, 4, 1, 6, 0] (by decide) rfl w h) ?_
                repeat (first | exact za9 _ _ | refine zae rfl ?_ | refine zaa rfl ?_ | refine zaf rfl ?_)
              · skip
                refine za7 9 rfl rfl rfl (by kernel_rfl) (fun _ _ _ h => h) (q_asg rfl) ?_
                refine a_one 5 rfl rfl (by kernel_rfl) rfl (e_lit (vs := [(0, .int .i64 (-1)), (1, .int .i64 0)]) (cs := [.int .i64 (-1), .int .i64 0]) (Kd.int .i64) ([(-1), 0] : List Int) Try.underlying23 I3 (by decide) rfl (by decide) rfl rfl (fun _ _ => Kd.zah _)) (fun s w h => za3 [some 7, some 8] (by decide) w h rfl) (cur2 (fun A1043 c1044 => ?_))
                refine a_one 10 rfl rfl (by kernel_rfl) rfl (zad (i := 6) rfl rfl rfl rfl Z23 rfl rfl) (fun s w h => za3 [some 7, some 8] (by decide) w h rfl) (fun _ => ?_)
                refine zan (by kernel_rfl) ?_
                refine zao (l984, g1103, c744, A985, c986, g1163, A1043, c1044) h ⟨rfl, rfl, rfl, trivial⟩ (fun w h => za6 [8, 7, 5, 2, 3, 4, 1, 6, 0] (by decide) rfl w h) ?_
                repeat (first | exact za9 _ _ | refine zae rfl ?_ | refine zaa rfl ?_ | refine zaf rfl ?_)
            · skip
              refine a_one 4 rfl rfl (by kernel_rfl) rfl (za8 0 Z Try.func55 N55 rfl rfl rfl (fun w P1 hF hB hS hT => impl_digits.calls k a0 (IntKind.i64.wrap (1 * 2 ^ min (a1 : Int).toNat IntKind.i64.bits)) hB hF _ hx983)) (fun s w h => za3 [some 7, some 8] (by decide) w h rfl) (cur2 (fun A985 c986 => ?_))
              refine a_one 8 rfl rfl (by kernel_rfl) rfl (zad (i := 5) rfl rfl rfl rfl Z60 rfl rfl) (fun s w h => za3 [some 7, some 8] (by decide) w h rfl) (fun _ => ?_)
              refine za7 9 rfl rfl rfl (by kernel_rfl) (fun _ _ _ h => h) (q_asg rfl) ?_
              refine a_one 10 rfl rfl (by kernel_rfl) rfl (zad (i := 6) rfl rfl rfl rfl Z23 rfl rfl) (fun s w h => za3 [some 7, some 8] (by decide) w h rfl) (fun _ => ?_)
              refine zan (by kernel_rfl) ?_
              refine zao (l984, g1103, c744, A985, c986, g1163, A1043, c1044) h ⟨rfl, rfl, rfl, trivial⟩ (fun w h => za6 [8, 7, 5, 2, 3, 4, 0, 6, 1] (by decide) rfl w h) ?_
              repeat (first | exact za9 _ _ | refine zae rfl ?_ | refine zaa rfl ?_ | refine zaf rfl ?_)
          · skip
            refine a_one 0 rfl rfl (by kernel_rfl) rfl (za8 0 Z Try.func54 N54 rfl rfl rfl (fun w P1 hF hB hS hT => impl_newMaker.calls 1 hB hF hx743)) (fun s w h => za3 [some 6, some 7] (by decide) w h rfl) (fun c744 => ?_)
            refine a_one 4 rfl rfl (by kernel_rfl) rfl (za8 0 Z Try.func55 N55 rfl rfl rfl (fun w P1 hF hB hS hT => impl_digits.calls k a0 (IntKind.i64.wrap (1 * 2 ^ min (a1 : Int).toNat IntKind.i64.bits)) hB hF _ hx983)) (fun s w h => za3 [some 7, some 8] (by decide) w h rfl) (cur2 (fun A985 c986 => ?_))
            refine a_one 8 rfl rfl (by kernel_rfl) rfl (zad (i := 5) rfl rfl rfl rfl Z60 rfl rfl) (fun s w h => za3 [some 7, some 8] (by decide) w h rfl) (fun _ => ?_)
            refine za7 9 rfl rfl rfl (by kernel_rfl) (fun _ _ _ h => h) (q_asg rfl) ?_
            refine a_one 10 rfl rfl (by kernel_rfl) rfl (zad (i := 6) rfl rfl rfl rfl Z23 rfl rfl) (fun s w h => za3 [some 7, some 8] (by decide) w h rfl) (fun _ => ?_)
            refine zan (by kernel_rfl) ?_
            refine zao (l984, g1103, c744, A985, c986, g1163, A1043, c1044) h ⟨rfl, rfl, rfl, trivial⟩ (fun w h => za6 [8, 7, 5, 1, 2, 3, 0, 6, 4] (by decide) rfl w h) ?_
            repeat (first | exact za9 _ _ | refine zae rfl ?_ | refine zaa rfl ?_ | refine zaf rfl ?_)
    · skip
      refine (cur8 (fun l731 g729 g730 A732 c733 g734 A735 c736 => fun U740 hJ741 => ?_))
      have e_ := Option.some.inj hJ741; have h := hR739; rw [← e_] at h; clear e_ hJ741 hR739 hl738
      refine c_seq ?_
      refine zaq ?_
      refine zab h (fun o1476 hl1475 hR1474 => ?_) rfl
      clear h
      refine zb3 (σ := (List SStep) × (List Int) × (Option Addr) × Nat × (Option Addr) × Nat) (fun k1471 ((l1463, l1466, A1464, c1465, A1467, c1468) : (List SStep) × (List Int) × (Option Addr) × Nat × (Option Addr) × Nat) => impl_WindowPlan.l0 k l731 k1471 l1463 l1466 = some o1476) [24, 25, 26, 27, 28, 29, 30, 31, 32, 33, 34, 35, 36, 37, 38, 39] (fun ((l1463, l1466, A1464, c1465, A1467, c1468) : (List SStep) × (List Int) × (Option Addr) × Nat × (Option Addr) × Nat) => []) (fun ((l1463, l1466, A1464, c1465, A1467, c1468) : (List SStep) × (List Int) × (Option Addr) × Nat × (Option Addr) × Nat) => [box g1 3 #[.int .i64 a1], box g3 25 #[.int .i64 0, .slice none 0 0, .slice none 0 0], box g729 60 #[.pointer (some ⟨g730, 0, none⟩)], box g730 94 #[.int .i64 1, .slice A1464 l1463.length c1465, .slice none 0 0], row kStep 107 (.slice A1464 l1463.length c1465) l1463, row (Kd.int .i64) 3 (.slice none 0 0) [], row (Kd.int .i64) 3 (.slice A732 l731.length c733) l731, box g734 23 #[.slice A1467 l1466.length c1468], row (Kd.int .i64) 3 (.slice A1467 l1466.length c1468) l1466]) k ([], ([(-1), 0] : List Int), none, 0, A735, c736) hl1475 trivial (fun w h => h) ?_
      refine natC (cur6 (fun l1463 l1466 A1464 c1465 A1467 c1468 => fun U1477 hJ_ => ?_)) (fun k1471 => (cur6 (fun l1463 l1466 A1464 c1465 A1467 c1468 => fun U1477 hJ_ => ?_)))
      · skip
        replace hJ_ : impl_WindowPlan.l0 k l731 0 l1463 l1466 = some o1476 := hJ_
        rw [impl_WindowPlan.l0] at hJ_
        exact noneE hJ_
      · skip
        clear hl1475
        have h := hJ_; clear hJ_
        replace h : impl_WindowPlan.l0 k l731 (k1471 + 1) l1463 l1466 = some o1476 := h
        rw [impl_WindowPlan.l0] at h
        refine c_seq ?_
        refine c_seq ?_
        refine a_start (ds := []) MO rfl ?_
        refine zb2 0 rfl rfl rfl (by kernel_rfl) (fun _ _ _ h => h) (fun w h => h) (q_ldb Y23 rfl (fun w h => h.zaj (i := 7) rfl) rfl) ?_
        refine za7 1 rfl rfl rfl (by kernel_rfl) (fun _ _ _ h => h) (q_len Try.underlying23 rfl) ?_
        refine za7 2 rfl rfl rfl (by kernel_rfl) (fun _ _ _ h => h) (za2 rfl) ?_
        refine zab h (fun i1480 hx1479 h => ?_) rfl
        refine a_one 3 rfl rfl (by kernel_rfl) rfl (za8 0 Z Try.func56 N56 rfl rfl rfl (fun w P1 hF hB hS hT => slices_Max_int_int.calls k A732 c733 l731.length l731 hB hF (hT 6 _ rfl).row (hT 6 _ rfl).cap _ hx1479)) (fun s w h => h) (fun _ => ?_)
        refine za7 4 rfl rfl rfl (by kernel_rfl) (fun _ _ _ h => h) (q_leq rfl rfl) ?_
        refine zan (by kernel_rfl) ?_
        refine za1 ?_
        refine zb0 _ rfl (fun hb1481 => ?_) (fun hb1481 => ?_)
        · skip
          replace h := br_t hb1481 h
          refine zat ?_
          refine za1 ?_
          refine zaq ?_
          refine zab h (fun y1845 hg1844 h => ?_) rfl
          refine bindE2 h (fun i1964 l1965 hx1963 h => ?_) rfl
          refine zab h (fun l2083 ha2084 h => ?_) rfl
          refine a_startS (ds := []) [some 0, some 1, some 2, none, none, some 5, some 6, none, none] MO rfl ?_
          refine zb2 1 rfl rfl rfl (by kernel_rfl) (fun _ _ _ h => h) (fun w h => za3 [some 0, some 1, some 2, none, none, some 5, some 6, none, none] (by decide) w h rfl) (q_ldb Y60 rfl (fun w h => h.zaj (i := 2) rfl) rfl) ?_
          refine a_three 0 2 3 rfl rfl rfl rfl rfl rfl (by kernel_rfl) rfl rfl rfl (ev_q rfl (q_ldb Y23 rfl (fun w h => h.zaj (i := 7) rfl) rfl)) (fun s w h => za3 [some 0, some 1, some 2, none, none, some 5, some 6, none, none] (by decide) w h rfl) (ev_q rfl (q_ldb Y23 rfl (fun w h => h.zaj (i := 7) rfl) rfl)) (fun s w h => za3 [some 0, some 1, some 2, none, none, some 5, some 6, none, none] (by decide) w h rfl) (ev_q rfl (q_ldb Y23 rfl (fun w h => h.zaj (i := 7) rfl) rfl)) (fun s w h => za3 [some 0, some 1, some 2, none, none, some 5, some 6, none, none] (by decide) w h rfl) (fun _ => ?_) (fun _ => ?_) (fun _ => ?_)
          · skip
            refine a_two 2 3 rfl rfl rfl rfl (by kernel_rfl) rfl rfl (ev_q rfl (q_ldb Y23 rfl (fun w h => h.zaj (i := 7) rfl) rfl)) (fun s w h => za3 [some 0, some 1, some 2, none, none, some 5, some 6, none, none] (by decide) w h rfl) (ev_q rfl (q_ldb Y23 rfl (fun w h => h.zaj (i := 7) rfl) rfl)) (fun s w h => za3 [some 0, some 1, some 2, none, none, some 5, some 6, none, none] (by decide) w h rfl) (fun _ => ?_) (fun _ => ?_)
            · skip
              refine a_one 3 rfl rfl (by kernel_rfl) rfl (ev_q rfl (q_ldb Y23 rfl (fun w h => h.zaj (i := 7) rfl) rfl)) (fun s w h => za3 [some 0, some 1, some 2, none, none, some 5, some 6, none, none] (by decide) w h rfl) (fun _ => ?_)
              refine za7 4 rfl rfl rfl (by kernel_rfl) (fun _ _ _ h => h) (q_len Try.underlying23 rfl) ?_
              refine za7 5 rfl rfl rfl (by kernel_rfl) (fun _ _ _ h => h) (zb5 rfl rfl) ?_
              refine a_fact (p := Sh A1467 l1466.length l1466.length) (fun w h => f_sh (dk := (Kd.int .i64)) h (fun w h => h.zaw (i := 8) rfl)) (fun hq1843 => ?_)
              refine za7 6 rfl rfl rfl (by kernel_rfl) (fun _ _ _ h => h) (q_ix Try.underlying23 Z3 rfl rfl hq1843 hg1844) ?_
              refine a_one 7 rfl rfl (by kernel_rfl) rfl (ev_q rfl (q_lde (off := 0) Y3 rfl rfl (fun w h => h.zaw (i := 8) rfl) hg1844 (fun _ _ h => h) rfl)) (fun s w h => za3 [some 0, some 1, some 2, none, none, some 5, some 6, none, none] (by decide) w h rfl) (fun _ => ?_)
              refine a_pick [3, 4, 0, 1, 2, 5, 6, 7, 8] (by decide) rfl ?_
              refine a_one 8 rfl rfl (by kernel_rfl) rfl (za8 2 Z Try.func57 N57 rfl rfl rfl (fun w P1 hF hB hS hT => impl_maker_multiply.calls g730 1 A1464 c1465 l1463.length l1463 none 0 0 [] y1845 0 hB hF (hT 3 _ rfl).row (hT 3 _ rfl).cap _ _ hx1963)) (fun s w h => za3 [some 2, some 3, some 4, none, none, some 5, some 6, none, none] (by decide) w h rfl) (cur2 (fun A1966 c1967 => ?_))
              refine a_one 9 rfl rfl (by kernel_rfl) rfl (e_lit (vs := [(0, .int .i64 i1964)]) (cs := [.int .i64 i1964]) (Kd.int .i64) ([i1964] : List Int) Try.underlying23 I3 (by decide) rfl (by decide) rfl rfl (fun _ _ => Kd.zah _)) (fun s w h => za3 [some 3, some 4, some 5, none, none, some 6, some 7, none, none] (by decide) w h rfl) (cur2 (fun A2023 c2024 => ?_))
              refine a_one 10 rfl rfl (by kernel_rfl) rfl (e_app (i := 9) (j := 0) Try.underlying23 I3 rfl (by decide) (by decide) rfl rfl rfl rfl rfl ha2084) (fun s w h => za3 [some 3, some 4, some 5, none, none, some 6, some 7, none, none] (by decide) w h rfl) (cur2 (fun A2085 c2086 => ?_))
              refine a_one 11 rfl rfl (by kernel_rfl) rfl (zad (i := 8) rfl rfl rfl rfl Z23 rfl rfl) (fun s w h => za3 [some 3, some 4, some 5, none, none, some 6, some 7, none, none] (by decide) w h rfl) (fun _ => ?_)
              refine zan (by kernel_rfl) ?_
              refine zas ?_
              refine zar k1471 (l1965, l2083, A1966, c1967, A2085, c2086) (Nat.lt_succ_self _) h trivial (fun w h => za6 [3, 4, 5, 1, 2, 6, 7, 8, 9] (by decide) rfl w h) ?_
              repeat (first | exact za9 _ _ | refine zae rfl ?_ | refine zaa rfl ?_ | refine zaf rfl ?_)
            · skip
              refine za7 4 rfl rfl rfl (by kernel_rfl) (fun _ _ _ h => h) (q_len Try.underlying23 rfl) ?_
              refine za7 5 rfl rfl rfl (by kernel_rfl) (fun _ _ _ h => h) (zb5 rfl rfl) ?_
              refine a_one 2 rfl rfl (by kernel_rfl) rfl (ev_q rfl (q_ldb Y23 rfl (fun w h => h.zaj (i := 7) rfl) rfl)) (fun s w h => za3 [some 0, some 1, some 2, none, none, some 5, some 6, none, none] (by decide) w h rfl) (fun _ => ?_)
              refine a_fact (p := Sh A1467 l1466.length l1466.length) (fun w h => f_sh (dk := (Kd.int .i64)) h (fun w h => h.zaw (i := 8) rfl)) (fun hq1843 => ?_)
              refine za7 6 rfl rfl rfl (by kernel_rfl) (fun _ _ _ h => h) (q_ix Try.underlying23 Z3 rfl rfl hq1843 hg1844) ?_
              refine a_one 7 rfl rfl (by kernel_rfl) rfl (ev_q rfl (q_lde (off := 0) Y3 rfl rfl (fun w h => h.zaw (i := 8) rfl) hg1844 (fun _ _ h => h) rfl)) (fun s w h => za3 [some 0, some 1, some 2, none, none, some 5, some 6, none, none] (by decide) w h rfl) (fun _ => ?_)
              refine a_pick [3, 4, 0, 1, 2, 5, 6, 7, 8] (by decide) rfl ?_
              refine a_one 8 rfl rfl (by kernel_rfl) rfl (za8 2 Z Try.func57 N57 rfl rfl rfl (fun w P1 hF hB hS hT => impl_maker_multiply.calls g730 1 A1464 c1465 l1463.length l1463 none 0 0 [] y1845 0 hB hF (hT 3 _ rfl).row (hT 3 _ rfl).cap _ _ hx1963)) (fun s w h => za3 [some 2, some 3, some 4, none, none, some 5, some 6, none, none] (by decide) w h rfl) (cur2 (fun A1966 c1967 => ?_))
              refine a_one 9 rfl rfl (by kernel_rfl) rfl (e_lit (vs := [(0, .int .i64 i1964)]) (cs := [.int .i64 i1964]) (Kd.int .i64) ([i1964] : List Int) Try.underlying23 I3 (by decide) rfl (by decide) rfl rfl (fun _ _ => Kd.zah _)) (fun s w h => za3 [some 3, some 4, some 5, none, none, some 6, some 7, none, none] (by decide) w h rfl) (cur2 (fun A2023 c2024 => ?_))
              refine a_one 10 rfl rfl (by kernel_rfl) rfl (e_app (i := 9) (j := 0) Try.underlying23 I3 rfl (by decide) (by decide) rfl rfl rfl rfl rfl ha2084) (fun s w h => za3 [some 3, some 4, some 5, none, none, some 6, some 7, none, none] (by decide) w h rfl) (cur2 (fun A2085 c2086 => ?_))
              refine a_one 11 rfl rfl (by kernel_rfl) rfl (zad (i := 8) rfl rfl rfl rfl Z23 rfl rfl) (fun s w h => za3 [some 3, some 4, some 5, none, none, some 6, some 7, none, none] (by decide) w h rfl) (fun _ => ?_)
              refine zan (by kernel_rfl) ?_
              refine zas ?_
              refine zar k1471 (l1965, l2083, A1966, c1967, A2085, c2086) (Nat.lt_succ_self _) h trivial (fun w h => za6 [3, 4, 5, 1, 2, 6, 7, 8, 9] (by decide) rfl w h) ?_
              repeat (first | exact za9 _ _ | refine zae rfl ?_ | refine zaa rfl ?_ | refine zaf rfl ?_)
          · skip
            refine a_two 0 3 rfl rfl rfl rfl (by kernel_rfl) rfl rfl (ev_q rfl (q_ldb Y23 rfl (fun w h => h.zaj (i := 7) rfl) rfl)) (fun s w h => za3 [some 0, some 1, some 2, none, none, some 5, some 6, none, none] (by decide) w h rfl) (ev_q rfl (q_ldb Y23 rfl (fun w h => h.zaj (i := 7) rfl) rfl)) (fun s w h => za3 [some 0, some 1, some 2, none, none, some 5, some 6, none, none] (by decide) w h rfl) (fun _ => ?_) (fun _ => ?_)
            · skip
              refine a_one 3 rfl rfl (by kernel_rfl) rfl (ev_q rfl (q_ldb Y23 rfl (fun w h => h.zaj (i := 7) rfl) rfl)) (fun s w h => za3 [some 0, some 1, some 2, none, none, some 5, some 6, none, none] (by decide) w h rfl) (fun _ => ?_)
              refine za7 4 rfl rfl rfl (by kernel_rfl) (fun _ _ _ h => h) (q_len Try.underlying23 rfl) ?_
              refine za7 5 rfl rfl rfl (by kernel_rfl) (fun _ _ _ h => h) (zb5 rfl rfl) ?_
              refine a_fact (p := Sh A1467 l1466.length l1466.length) (fun w h => f_sh (dk := (Kd.int .i64)) h (fun w h => h.zaw (i := 8) rfl)) (fun hq1843 => ?_)
              refine za7 6 rfl rfl rfl (by kernel_rfl) (fun _ _ _ h => h) (q_ix Try.underlying23 Z3 rfl rfl hq1843 hg1844) ?_
              refine a_one 7 rfl rfl (by kernel_rfl) rfl (ev_q rfl (q_lde (off := 0) Y3 rfl rfl (fun w h => h.zaw (i := 8) rfl) hg1844 (fun _ _ h => h) rfl)) (fun s w h => za3 [some 0, some 1, some 2, none, none, some 5, some 6, none, none] (by decide) w h rfl) (fun _ => ?_)
              refine a_pick [3, 4, 0, 1, 2, 5, 6, 7, 8] (by decide) rfl ?_
              refine a_one 8 rfl rfl (by kernel_rfl) rfl (za8 2 Z Try.func57 N57 rfl rfl rfl (fun w P1 hF hB hS hT => impl_maker_multiply.calls g730 1 A1464 c1465 l1463.length l1463 none 0 0 [] y1845 0 hB hF (hT 3 _ rfl).row (hT 3 _ rfl).cap _ _ hx1963)) (fun s w h => za3 [some 2, some 3, some 4, none, none, some 5, some 6, none, none] (by decide) w h rfl) (cur2 (fun A1966 c1967 => ?_))
              refine a_one 9 rfl rfl (by kernel_rfl) rfl (e_lit (vs := [(0, .int .i64 i1964)]) (cs := [.int .i64 i1964]) (Kd.int .i64) ([i1964] : List Int) Try.underlying23 I3 (by decide) rfl (by decide) rfl rfl (fun _ _ => Kd.zah _)) (fun s w h => za3 [some 3, some 4, some 5, none, none, some 6, some 7, none, none] (by decide) w h rfl) (cur2 (fun A2023 c2024 => ?_))
              refine a_one 10 rfl rfl (by kernel_rfl) rfl (e_app (i := 9) (j := 0) Try.underlying23 I3 rfl (by decide) (by decide) rfl rfl rfl rfl rfl ha2084) (fun s w h => za3 [some 3, some 4, some 5, none, none, some 6, some 7, none, none] (by decide) w h rfl) (cur2 (fun A2085 c2086 => ?_))
              refine a_one 11 rfl rfl (by kernel_rfl) rfl (zad (i := 8) rfl rfl rfl rfl Z23 rfl rfl) (fun s w h => za3 [some 3, some 4, some 5, none, none, some 6, some 7, none, none] (by decide) w h rfl) (fun _ => ?_)
              refine zan (by kernel_rfl) ?_
              refine zas ?_
              refine zar k1471 (l1965, l2083, A1966, c1967, A2085, c2086) (Nat.lt_succ_self _) h trivial (fun w h => za6 [3, 4, 5, 1, 2, 6, 7, 8, 9] (by decide) rfl w h) ?_
              repeat (first | exact za9 _ _ | refine zae rfl ?_ | refine zaa rfl ?_ | refine zaf rfl ?_)
            · skip
              refine za7 4 rfl rfl rfl (by kernel_rfl) (fun _ _ _ h => h) (q_len Try.underlying23 rfl) ?_
              refine za7 5 rfl rfl rfl (by kernel_rfl) (fun _ _ _ h => h) (zb5 rfl rfl) ?_
              refine a_fact (p := Sh A1467 l1466.length l1466.length) (fun w h => f_sh (dk := (Kd.int .i64)) h (fun w h => h.zaw (i := 8) rfl)) (fun hq1843 => ?_)
              refine za7 6 rfl rfl rfl (by kernel_rfl) (fun _ _ _ h => h) (q_ix Try.underlying23 Z3 rfl rfl hq1843 hg1844) ?_
              refine a_two 0 7 rfl rfl rfl rfl (by kernel_rfl) rfl rfl (ev_q rfl (q_ldb Y23 rfl (fun w h => h.zaj (i := 7) rfl) rfl)) (fun s w h => za3 [some 0, some 1, some 2, none, none, some 5, some 6, none, none] (by decide) w h rfl) (ev_q rfl (q_lde (off := 0) Y3 rfl rfl (fun w h => h.zaw (i := 8) rfl) hg1844 (fun _ _ h => h) rfl)) (fun s w h => za3 [some 0, some 1, some 2, none, none, some 5, some 6, none, none] (by decide) w h rfl) (fun _ => ?_) (fun _ => ?_)
              · skip
                refine a_one 7 rfl rfl (by kernel_rfl) rfl (ev_q rfl (q_lde (off := 0) Y3 rfl rfl (fun w h => h.zaw (i := 8) rfl) hg1844 (fun _ _ h => h) rfl)) (fun s w h => za3 [some 0, some 1, some 2, none, none, some 5, some 6, none, none] (by decide) w h rfl) (fun _ => ?_)
                refine a_pick [3, 4, 0, 1, 2, 5, 6, 7, 8] (by decide) rfl ?_
                refine a_one 8 rfl rfl (by kernel_rfl) rfl (za8 2 Z Try.func57 N57 rfl rfl rfl (fun w P1 hF hB hS hT => impl_maker_multiply.calls g730 1 A1464 c1465 l1463.length l1463 none 0 0 [] y1845 0 hB hF (hT 3 _ rfl).row (hT 3 _ rfl).cap _ _ hx1963)) (fun s w h => za3 [some 2, some 3, some 4, none, none, some 5, some 6, none, none] (by decide) w h rfl) (cur2 (fun A1966 c1967 => ?_))
                refine a_one 9 rfl rfl (by kernel_rfl) rfl (e_lit (vs := [(0, .int .i64 i1964)]) (cs := [.int .i64 i1964]) (Kd.int .i64) ([i1964] : List Int) Try.underlying23 I3 (by decide) rfl (by decide) rfl rfl (fun _ _ => Kd.zah _)) (fun s w h => za3 [some 3, some 4, some 5, none, none, some 6, some 7, none, none] (by decide) w h rfl) (cur2 (fun A2023 c2024 => ?_))
                refine a_one 10 rfl rfl (by kernel_rfl) rfl (e_app (i := 9) (j := 0) Try.underlying23 I3 rfl (by decide) (by decide) rfl rfl rfl rfl rfl ha2084) (fun s w h => za3 [some 3, some 4, some 5, none, none, some 6, some 7, none, none] (by decide) w h rfl) (cur2 (fun A2085 c2086 => ?_))
                refine a_one 11 rfl rfl (by kernel_rfl) rfl (zad (i := 8) rfl rfl rfl rfl Z23 rfl rfl) (fun s w h => za3 [some 3, some 4, some 5, none, none, some 6, some 7, none, none] (by decide) w h rfl) (fun _ => ?_)
                refine zan (by kernel_rfl) ?_
                refine zas ?_
                refine zar k1471 (l1965, l2083, A1966, c1967, A2085, c2086) (Nat.lt_succ_self _) h trivial (fun w h => za6 [3, 4, 5, 1, 2, 6, 7, 8, 9] (by decide) rfl w h) ?_
                repeat (first | exact za9 _ _ | refine zae rfl ?_ | refine zaa rfl ?_ | refine zaf rfl ?_)
              · skip
                refine a_two 0 8 rfl rfl rfl rfl (by kernel_rfl) rfl rfl (ev_q rfl (q_ldb Y23 rfl (fun w h => h.zaj (i := 7) rfl) rfl)) (fun s w h => za3 [some 0, some 1, some 2, none, none, some 5, some 6, none, none] (by decide) w h rfl) (ev_pick [3, 4, 0, 1, 2, 5, 6, 7, 8] (by decide) rfl (za8 2 Z Try.func57 N57 rfl rfl rfl (fun w P1 hF hB hS hT => impl_maker_multiply.calls g730 1 A1464 c1465 l1463.length l1463 none 0 0 [] y1845 0 hB hF (hT 3 _ rfl).row (hT 3 _ rfl).cap _ _ hx1963))) (fun s w h => za3 [some 2, some 3, some 4, none, none, some 5, some 6, none, none] (by decide) w h rfl) (fun _ => ?_) (cur2 (fun A1966 c1967 => ?_))
                · skip
                  refine a_pick [3, 4, 0, 1, 2, 5, 6, 7, 8] (by decide) rfl ?_
                  refine a_one 8 rfl rfl (by kernel_rfl) rfl (za8 2 Z Try.func57 N57 rfl rfl rfl (fun w P1 hF hB hS hT => impl_maker_multiply.calls g730 1 A1464 c1465 l1463.length l1463 none 0 0 [] y1845 0 hB hF (hT 3 _ rfl).row (hT 3 _ rfl).cap _ _ hx1963)) (fun s w h => za3 [some 2, some 3, some 4, none, none, some 5, some 6, none, none] (by decide) w h rfl) (cur2 (fun A1966 c1967 => ?_))
                  refine a_one 9 rfl rfl (by kernel_rfl) rfl (e_lit (vs := [(0, .int .i64 i1964)]) (cs := [.int .i64 i1964]) (Kd.int .i64) ([i1964] : List Int) Try.underlying23 I3 (by decide) rfl (by decide) rfl rfl (fun _ _ => Kd.zah _)) (fun s w h => za3 [some 3, some 4, some 5, none, none, some 6, some 7, none, none] (by decide) w h rfl) (cur2 (fun A2023 c2024 => ?_))
                  refine a_one 10 rfl rfl (by kernel_rfl) rfl (e_app (i := 9) (j := 0) Try.underlying23 I3 rfl (by decide) (by decide) rfl rfl rfl rfl rfl ha2084) (fun s w h => za3 [some 3, some 4, some 5, none, none, some 6, some 7, none, none] (by decide) w h rfl) (cur2 (fun A2085 c2086 => ?_))
                  refine a_one 11 rfl rfl (by kernel_rfl) rfl (zad (i := 8) rfl rfl rfl rfl Z23 rfl rfl) (fun s w h => za3 [some 3, some 4, some 5, none, none, some 6, some 7, none, none] (by decide) w h rfl) (fun _ => ?_)
                  refine zan (by kernel_rfl) ?_
                  refine zas ?_
                  refine zar k1471 (l1965, l2083, A1966, c1967, A2085, c2086) (Nat.lt_succ_self _) h trivial (fun w h => za6 [3, 4, 5, 1, 2, 6, 7, 8, 9] (by decide) rfl w h) ?_
                  repeat (first | exact za9 _ _ | refine zae rfl ?_ | refine zaa rfl ?_ | refine zaf rfl ?_)
                · skip
                  refine a_two 0 9 rfl rfl rfl rfl (by kernel_rfl) rfl rfl (ev_q rfl (q_ldb Y23 rfl (fun w h => h.zaj (i := 7) rfl) rfl)) (fun s w h => za3 [some 2, some 3, some 4, none, none, some 5, some 6, none, none] (by decide) w h rfl) (e_lit (vs := [(0, .int .i64 i1964)]) (cs := [.int .i64 i1964]) (Kd.int .i64) ([i1964] : List Int) Try.underlying23 I3 (by decide) rfl (by decide) rfl rfl (fun _ _ => Kd.zah _)) (fun s w h => za3 [some 3, some 4, some 5, none, none, some 6, some 7, none, none] (by decide) w h rfl) (fun _ => ?_) (cur2 (fun A2023 c2024 => ?_))
                  · skip
                    refine a_one 9 rfl rfl (by kernel_rfl) rfl (e_lit (vs := [(0, .int .i64 i1964)]) (cs := [.int .i64 i1964]) (Kd.int .i64) ([i1964] : List Int) Try.underlying23 I3 (by decide) rfl (by decide) rfl rfl (fun _ _ => Kd.zah _)) (fun s w h => za3 [some 3, some 4, some 5, none, none, some 6, some 7, none, none] (by decide) w h rfl) (cur2 (fun A2023 c2024 => ?_))
                    refine a_one 10 rfl rfl (by kernel_rfl) rfl (e_app (i := 9) (j := 0) Try.underlying23 I3 rfl (by decide) (by decide) rfl rfl rfl rfl rfl ha2084) (fun s w h => za3 [some 3, some 4, some 5, none, none, some 6, some 7, none, none] (by decide) w h rfl) (cur2 (fun A2085 c2086 => ?_))
                    refine a_one 11 rfl rfl (by kernel_rfl) rfl (zad (i := 8) rfl rfl rfl rfl Z23 rfl rfl) (fun s w h => za3 [some 3, some 4, some 5, none, none, some 6, some 7, none, none] (by decide) w h rfl) (fun _ => ?_)
                    refine zan (by kernel_rfl) ?_
                    refine zas ?_
                    refine zar k1471 (l1965, l2083, A1966, c1967, A2085, c2086) (Nat.lt_succ_self _) h trivial (fun w h => za6 [3, 4, 5, 1, 2, 6, 7, 8, 9] (by decide) rfl w h) ?_
                    repeat (first | exact za9 _ _ | refine zae rfl ?_ | refine zaa rfl ?_ | refine zaf rfl ?_)
                  · skip
                    refine a_one 0 rfl rfl (by kernel_rfl) rfl (ev_q rfl (q_ldb Y23 rfl (fun w h => h.zaj (i := 8) rfl) rfl)) (fun s w h => za3 [some 3, some 4, some 5, none, none, some 6, some 7, none, none] (by decide) w h rfl) (fun _ => ?_)
                    refine a_one 10 rfl rfl (by kernel_rfl) rfl (e_app (i := 9) (j := 0) Try.underlying23 I3 rfl (by decide) (by decide) rfl rfl rfl rfl rfl ha2084) (fun s w h => za3 [some 3, some 4, some 5, none, none, some 6, some 7, none, none] (by decide) w h rfl) (cur2 (fun A2085 c2086 => ?_))
                    refine a_one 11 rfl rfl (by kernel_rfl) rfl (zad (i := 8) rfl rfl rfl rfl Z23 rfl rfl) (fun s w h => za3 [some 3, some 4, some 5, none, none, some 6, some 7, none, none] (by decide) w h rfl) (fun _ => ?_)
                    refine zan (by kernel_rfl) ?_
                    refine zas ?_
                    refine zar k1471 (l1965, l2083, A1966, c1967, A2085, c2086) (Nat.lt_succ_self _) h trivial (fun w h => za6 [3, 4, 5, 1, 2, 6, 7, 8, 9] (by decide) rfl w h) ?_
                    repeat (first | exact za9 _ _ | refine zae rfl ?_ | refine zaa rfl ?_ | refine zaf rfl ?_)
          · skip
            refine za7 4 rfl rfl rfl (by kernel_rfl) (fun _ _ _ h => h) (q_len Try.underlying23 rfl) ?_
            refine za7 5 rfl rfl rfl (by kernel_rfl) (fun _ _ _ h => h) (zb5 rfl rfl) ?_
            refine a_two 0 2 rfl rfl rfl rfl (by kernel_rfl) rfl rfl (ev_q rfl (q_ldb Y23 rfl (fun w h => h.zaj (i := 7) rfl) rfl)) (fun s w h => za3 [some 0, some 1, some 2, none, none, some 5, some 6, none, none] (by decide) w h rfl) (ev_q rfl (q_ldb Y23 rfl (fun w h => h.zaj (i := 7) rfl) rfl)) (fun s w h => za3 [some 0, some 1, some 2, none, none, some 5, some 6, none, none] (by decide) w h rfl) (fun _ => ?_) (fun _ => ?_)
            · skip
              refine a_one 2 rfl rfl (by kernel_rfl) rfl (ev_q rfl (q_ldb Y23 rfl (fun w h => h.zaj (i := 7) rfl) rfl)) (fun s w h => za3 [some 0, some 1, some 2, none, none, some 5, some 6, none, none] (by decide) w h rfl) (fun _ => ?_)
              refine a_fact (p := Sh A1467 l1466.length l1466.length) (fun w h => f_sh (dk := (Kd.int .i64)) h (fun w h => h.zaw (i := 8) rfl)) (fun hq1843 => ?_)
              refine za7 6 rfl rfl rfl (by kernel_rfl) (fun _ _ _ h => h) (q_ix Try.underlying23 Z3 rfl rfl hq1843 hg1844) ?_
              refine a_one 7 rfl rfl (by kernel_rfl) rfl (ev_q rfl (q_lde (off := 0) Y3 rfl rfl (fun w h => h.zaw (i := 8) rfl) hg1844 (fun _ _ h => h) rfl)) (fun s w h => za3 [some 0, some 1, some 2, none, none, some 5, some 6, none, none] (by decide) w h rfl) (fun _ => ?_)
              refine a_pick [3, 4, 0, 1, 2, 5, 6, 7, 8] (by decide) rfl ?_
              refine a_one 8 rfl rfl (by kernel_rfl) rfl (za8 2 Z Try.func57 N57 rfl rfl rfl (fun w P1 hF hB hS hT => impl_maker_multiply.calls g730 1 A1464 c1465 l1463.length l1463 none 0 0 [] y1845 0 hB hF (hT 3 _ rfl).row (hT 3 _ rfl).cap _ _ hx1963)) (fun s w h => za3 [some 2, some 3, some 4, none, none, some 5, some 6, none, none] (by decide) w h rfl) (cur2 (fun A1966 c1967 => ?_))
              refine a_one 9 rfl rfl (by kernel_rfl) rfl (e_lit (vs := [(0, .int .i64 i1964)]) (cs := [.int .i64 i1964]) (Kd.int .i64) ([i1964] : List Int) Try.underlying23 I3 (by decide) rfl (by decide) rfl rfl (fun _ _ => Kd.zah _)) (fun s w h => za3 [some 3, some 4, some 5, none, none, some 6, some 7, none, none] (by decide) w h rfl) (cur2 (fun A2023 c2024 => ?_))
              refine a_one 10 rfl rfl (by kernel_rfl) rfl (e_app (i := 9) (j := 0) Try.underlying23 I3 rfl (by decide) (by decide) rfl rfl rfl rfl rfl ha2084) (fun s w h => za3 [some 3, some 4, some 5, none, none, some 6, some 7, none, none] (by decide) w h rfl) (cur2 (fun A2085 c2086 => ?_))
              refine a_one 11 rfl rfl (by kernel_rfl) rfl (zad (i := 8) rfl rfl rfl rfl Z23 rfl rfl) (fun s w h => za3 [some 3, some 4, some 5, none, none, some 6, some 7, none, none] (by decide) w h rfl) (fun _ => ?_)
              refine zan (by kernel_rfl) ?_
              refine zas ?_
              refine zar k1471 (l1965, l2083, A1966, c1967, A2085, c2086) (Nat.lt_succ_self _) h trivial (fun w h => za6 [3, 4, 5, 1, 2, 6, 7, 8, 9] (by decide) rfl w h) ?_
              repeat (first | exact za9 _ _ | refine zae rfl ?_ | refine zaa rfl ?_ | refine zaf rfl ?_)
            · skip
              refine a_fact (p := Sh A1467 l1466.length l1466.length) (fun w h => f_sh (dk := (Kd.int .i64)) h (fun w h => h.zaw (i := 8) rfl)) (fun hq1843 => ?_)
              refine za7 6 rfl rfl rfl (by kernel_rfl) (fun _ _ _ h => h) (q_ix Try.underlying23 Z3 rfl rfl hq1843 hg1844) ?_
              refine a_two 0 7 rfl rfl rfl rfl (by kernel_rfl) rfl rfl (ev_q rfl (q_ldb Y23 rfl (fun w h => h.zaj (i := 7) rfl) rfl)) (fun s w h => za3 [some 0, some 1, some 2, none, none, some 5, some 6, none, none] (by decide) w h rfl) (ev_q rfl (q_lde (off := 0) Y3 rfl rfl (fun w h => h.zaw (i := 8) rfl) hg1844 (fun _ _ h => h) rfl)) (fun s w h => za3 [some 0, some 1, some 2, none, none, some 5, some 6, none, none] (by decide) w h rfl) (fun _ => ?_) (fun _ => ?_)
              · skip
                refine a_one 7 rfl rfl (by kernel_rfl) rfl (ev_q rfl (q_lde (off := 0) Y3 rfl rfl (fun w h => h.zaw (i := 8) rfl) hg1844 (fun _ _ h => h) rfl)) (fun s w h => za3 [some 0, some 1, some 2, none, none, some 5, some 6, none, none] (by decide) w h rfl) (fun _ => ?_)
                refine a_pick [3, 4, 0, 1, 2, 5, 6, 7, 8] (by decide) rfl ?_
                refine a_one 8 rfl rfl (by kernel_rfl) rfl (za8 2 Z Try.func57 N57 rfl rfl rfl (fun w P1 hF hB hS hT => impl_maker_multiply.calls g730 1 A1464 c1465 l1463.length l1463 none 0 0 [] y1845 0 hB hF (hT 3 _ rfl).row (hT 3 _ rfl).cap _ _ hx1963)) (fun s w h => za3 [some 2, some 3, some 4, none, none, some 5, some 6, none, none] (by decide) w h rfl) (cur2 (fun A1966 c1967 => ?_))
                refine a_one 9 rfl rfl (by kernel_rfl) rfl (e_lit (vs := [(0, .int .i64 i1964)]) (cs := [.int .i64 i1964]) (Kd.int .i64) ([i1964] : List Int) Try.underlying23 I3 (by decide) rfl (by decide) rfl rfl (fun _ _ => Kd.zah _)) (fun s w h => za3 [some 3, some 4, some 5, none, none, some 6, some 7, none, none] (by decide) w h rfl) (cur2 (fun A2023 c2024 => ?_))
                refine a_one 10 rfl rfl (by kernel_rfl) rfl (e_app (i := 9) (j := 0) Try.underlying23 I3 rfl (by decide) (by decide) rfl rfl rfl rfl rfl ha2084) (fun s w h => za3 [some 3, some 4, some 5, none, none, some 6, some 7, none, none] (by decide) w h rfl) (cur2 (fun A2085 c2086 => ?_))
                refine a_one 11 rfl rfl (by kernel_rfl) rfl (zad (i := 8) rfl rfl rfl rfl Z23 rfl rfl) (fun s w h => za3 [some 3, some 4, some 5, none, none, some 6, some 7, none, none] (by decide) w h rfl) (fun _ => ?_)
                refine zan (by kernel_rfl) ?_
                refine zas ?_
                refine zar k1471 (l1965, l2083, A1966, c1967, A2085, c2086) (Nat.lt_succ_self _) h trivial (fun w h => za6 [3, 4, 5, 1, 2, 6, 7, 8, 9] (by decide) rfl w h) ?_
                repeat (first | exact za9 _ _ | refine zae rfl ?_ | refine zaa rfl ?_ | refine zaf rfl ?_)
              · skip
                refine a_two 0 8 rfl rfl rfl rfl (by kernel_rfl) rfl rfl (ev_q rfl (q_ldb Y23 rfl (fun w h => h.zaj (i := 7) rfl) rfl)) (fun s w h => za3 [some 0, some 1, some 2, none, none, some 5, some 6, none, none] (by decide) w h rfl) (ev_pick [3, 4, 0, 1, 2, 5, 6, 7, 8] (by decide) rfl (za8 2 Z Try.func57 N57 rfl rfl rfl (fun w P1 hF hB hS hT => impl_maker_multiply.calls g730 1 A1464 c1465 l1463.length l1463 none 0 0 [] y1845 0 hB hF (hT 3 _ rfl).row (hT 3 _ rfl).cap _ _ hx1963))) (fun s w h => za3 [some 2, some 3, some 4, none, none, some 5, some 6, none, none] (by decide) w h rfl) (fun _ => ?_) (cur2 (fun A1966 c1967 => ?_))
                · skip
                  refine a_pick [3, 4, 0, 1, 2, 5, 6, 7, 8] (by decide) rfl ?_
                  refine a_one 8 rfl rfl (by kernel_rfl) rfl (za8 2 Z Try.func57 N57 rfl rfl rfl (fun w P1 hF hB hS hT => impl_maker_multiply.calls g730 1 A1464 c1465 l1463.length l1463 none 0 0 [] y1845 0 hB hF (hT 3 _ rfl).row (hT 3 _ rfl).cap _ _ hx1963)) (fun s w h => za3 [some 2, some 3, some 4, none, none, some 5, some 6, none, none] (by decide) w h rfl) (cur2 (fun A1966 c1967 => ?_))
                  refine a_one 9 rfl rfl (by kernel_rfl) rfl (e_lit (vs := [(0, .int .i64 i1964)]) (cs := [.int .i64 i1964]) (Kd.int .i64) ([i1964] : List Int) Try.underlying23 I3 (by decide) rfl (by decide) rfl rfl (fun _ _ => Kd.zah _)) (fun s w h => za3 [some 3, some 4, some 5, none, none, some 6, some 7, none, none] (by decide) w h rfl) (cur2 (fun A2023 c2024 => ?_))
                  refine a_one 10 rfl rfl (by kernel_rfl) rfl (e_app (i := 9) (j := 0) Try.underlying23 I3 rfl (by decide) (by decide) rfl rfl rfl rfl rfl ha2084) (fun s w h => za3 [some 3, some 4, some 5, none, none, some 6, some 7, none, none] (by decide) w h rfl) (cur2 (fun A2085 c2086 => ?_))
                  refine a_one 11 rfl rfl (by kernel_rfl) rfl (zad (i := 8) rfl rfl rfl rfl Z23 rfl rfl) (fun s w h => za3 [some 3, some 4, some 5, none, none, some 6, some 7, none, none] (by decide) w h rfl) (fun _ => ?_)
                  refine zan (by kernel_rfl) ?_
                  refine zas ?_
                  refine zar k1471 (l1965, l2083, A1966, c1967, A2085, c2086) (Nat.lt_succ_self _) h trivial (fun w h => za6 [3, 4, 5, 1, 2, 6, 7, 8, 9] (by decide) rfl w h) ?_
                  repeat (first | exact za9 _ _ | refine zae rfl ?_ | refine zaa rfl ?_ | refine zaf rfl ?_)
                · skip
                  refine a_two 0 9 rfl rfl rfl rfl (by kernel_rfl) rfl rfl (ev_q rfl (q_ldb Y23 rfl (fun w h => h.zaj (i := 7) rfl) rfl)) (fun s w h => za3 [some 2, some 3, some 4, none, none, some 5, some 6, none, none] (by decide) w h rfl) (e_lit (vs := [(0, .int .i64 i1964)]) (cs := [.int .i64 i1964]) (Kd.int .i64) ([i1964] : List Int) Try.underlying23 I3 (by decide) rfl (by decide) rfl rfl (fun _ _ => Kd.zah _)) (fun s w h => za3 [some 3, some 4, some 5, none, none, some 6, some 7, none, none] (by decide) w h rfl) (fun _ => ?_) (cur2 (fun A2023 c2024 => ?_))
                  · skip
                    refine a_one 9 rfl rfl (by kernel_rfl) rfl (e_lit (vs := [(0, .int .i64 i1964)]) (cs := [.int .i64 i1964]) (Kd.int .i64) ([i1964] : List Int) Try.underlying23 I3 (by decide) rfl (by decide) rfl rfl (fun _ _ => Kd.zah _)) (fun s w h => za3 [some 3, some 4, some 5, none, none, some 6, some 7, none, none] (by decide) w h rfl) (cur2 (fun A2023 c2024 => ?_))
                    refine a_one 10 rfl rfl (by kernel_rfl) rfl (e_app (i := 9) (j := 0) Try.underlying23 I3 rfl (by decide) (by decide) rfl rfl rfl rfl rfl ha2084) (fun s w h => za3 [some 3, some 4, some 5, none, none, some 6, some 7, none, none] (by decide) w h rfl) (cur2 (fun A2085 c2086 => ?_))
                    refine a_one 11 rfl rfl (by kernel_rfl) rfl (zad (i := 8) rfl rfl rfl rfl Z23 rfl rfl) (fun s w h => za3 [some 3, some 4, some 5, none, none, some 6, some 7, none, none] (by decide) w h rfl) (fun _ => ?_)
                    refine zan (by kernel_rfl) ?_
                    refine zas ?_
                    refine zar k1471 (l1965, l2083, A1966, c1967, A2085, c2086) (Nat.lt_succ_self _) h trivial (fun w h => za6 [3, 4, 5, 1, 2, 6, 7, 8, 9] (by decide) rfl w h) ?_
                    repeat (first | exact za9 _ _ | refine zae rfl ?_ | refine zaa rfl ?_ | refine zaf rfl ?_)
                  · skip
                    refine a_one 0 rfl rfl (by kernel_rfl) rfl (ev_q rfl (q_ldb Y23 rfl (fun w h => h.zaj (i := 8) rfl) rfl)) (fun s w h => za3 [some 3, some 4, some 5, none, none, some 6, some 7, none, none] (by decide) w h rfl) (fun _ => ?_)
                    refine a_one 10 rfl rfl (by kernel_rfl) rfl (e_app (i := 9) (j := 0) Try.underlying23 I3 rfl (by decide) (by decide) rfl rfl rfl rfl rfl ha2084) (fun s w h => za3 [some 3, some 4, some 5, none, none, some 6, some 7, none, none] (by decide) w h rfl) (cur2 (fun A2085 c2086 => ?_))
                    refine a_one 11 rfl rfl (by kernel_rfl) rfl (zad (i := 8) rfl rfl rfl rfl Z23 rfl rfl) (fun s w h => za3 [some 3, some 4, some 5, none, none, some 6, some 7, none, none] (by decide) w h rfl) (fun _ => ?_)
                    refine zan (by kernel_rfl) ?_
                    refine zas ?_
                    refine zar k1471 (l1965, l2083, A1966, c1967, A2085, c2086) (Nat.lt_succ_self _) h trivial (fun w h => za6 [3, 4, 5, 1, 2, 6, 7, 8, 9] (by decide) rfl w h) ?_
                    repeat (first | exact za9 _ _ | refine zae rfl ?_ | refine zaa rfl ?_ | refine zaf rfl ?_)
        · skip
          replace h := br_f hb1481 h
          refine c_exit ?_
          refine zac ?_
          refine zac ?_
          have e_ := Option.some.inj h; replace h := hR1474; rw [← e_] at h; clear e_
          refine x_hit ?_
          refine za1 ?_
          refine c_seq ?_
          refine a_start (ds := []) MO rfl ?_
          refine zb2 0 rfl rfl rfl (by kernel_rfl) (fun _ _ _ h => h) (fun w h => h) (q_ldb Y23 rfl (fun w h => h.zaj (i := 7) rfl) rfl) ?_
          refine za7 1 rfl rfl rfl (by kernel_rfl) (fun _ _ _ h => h) (za2 rfl) ?_
          refine za7 2 rfl rfl rfl (by kernel_rfl) (fun _ _ _ h => h) (za2 rfl) ?_
          refine za7 3 rfl rfl rfl (by kernel_rfl) (fun _ _ _ h => h) (q_len Try.underlying23 rfl) ?_
          refine za7 4 rfl rfl rfl (by kernel_rfl) (fun _ _ _ h => h) (zb5 rfl rfl) ?_
          refine a_fact (p := Sh A732 l731.length l731.length) (fun w h => f_sh (dk := (Kd.int .i64)) h (fun w h => h.zaw (i := 6) rfl)) (fun hq2263 => ?_)
          refine zab h (fun y2265 hg2264 h => ?_) rfl
          refine za7 5 rfl rfl rfl (by kernel_rfl) (fun _ _ _ h => h) (q_ix Try.underlying23 Z3 rfl rfl hq2263 hg2264) ?_
          refine zb2 6 rfl rfl rfl (by kernel_rfl) (fun _ _ _ h => h) (fun w h => h) (q_lde (off := 0) Y3 rfl rfl (fun w h => h.zaw (i := 6) rfl) hg2264 (fun _ _ h => h) rfl) ?_
          refine a_fact (p := Sh A1467 l1466.length l1466.length) (fun w h => f_sh (dk := (Kd.int .i64)) h (fun w h => h.zaw (i := 8) rfl)) (fun hq2266 => ?_)
          refine zab h (fun y2268 hg2267 h => ?_) rfl
          refine za7 7 rfl rfl rfl (by kernel_rfl) (fun _ _ _ h => h) (q_ix Try.underlying23 Z3 rfl rfl hq2266 hg2267) ?_
          refine zb2 8 rfl rfl rfl (by kernel_rfl) (fun _ _ _ h => h) (fun w h => h) (q_lde (off := 0) Y3 rfl rfl (fun w h => h.zaw (i := 8) rfl) hg2267 (fun _ _ h => h) rfl) ?_
          refine a_one 9 rfl rfl (by kernel_rfl) rfl (zam V3 rfl) (fun s w h => za3 [some 1, some 2, some 3, some 4, some 5, some 6, some 7, some 8, some 9] (by decide) w h rfl) (fun g2269 => ?_)
          refine a_one 10 rfl rfl (by kernel_rfl) rfl (zad (i := 0) rfl rfl rfl rfl Z3 rfl rfl) (fun s w h => za3 [some 1, some 2, some 3, some 4, some 5, some 6, some 7, some 8, some 9] (by decide) w h rfl) (fun _ => ?_)
          refine zan (by kernel_rfl) ?_
          refine za1 ?_
          refine c_seq ?_
          refine c_seq ?_
          refine za0 ?_
          refine o_q rfl rfl (za2 rfl) ?_
          refine o_q rfl rfl (za2 rfl) ?_
          refine o_q rfl rfl (q_len Try.underlying23 rfl) ?_
          refine o_q rfl rfl (zb5 rfl rfl) ?_
          refine zab h (fun l2271 hz2272 h => ?_) rfl
          refine zb4 (p := l731.length = l731.length ∧ l731.length ≤ c733) (fun w h => h.row_nc (i := 7) rfl) (fun hk2273 => ?_)
          refine o_q rfl rfl (q_ctv Try.underlying23 Z3 rfl rfl ⟨_, rfl⟩ hk2273.1 hk2273.2 hz2272) ?_
          refine zab h (fun _ hx2274 h => ?_) rfl
          refine o_e rfl (za8 0 Z Try.func58 N58 rfl rfl rfl (fun w P1 hF hB hS hT => bw_int.calls (cutA A732 c733 (0 : Int).toNat 1) (c733 - (0 : Int).toNat) l2271.length l2271 hB hF (stab_cut (dk := (Kd.int .i64)) rfl hz2272 hk2273.2 (hT 7 _ rfl).row) (ct_cap hz2272 hk2273.1 hk2273.2) hx2274)) (fun c2275 => ?_)
          refine o_end ?_
          refine za1 ?_
          refine zaq ?_
          refine bindE2 h (fun l2281 i2282 hrg2280 h => ?_) rfl
          intro w_ hw_
          have hw1_ : Fr w0 _ _ ([box g2269 3 #[.int .i64 y2268], box g1 3 #[.int .i64 a1], box g3 25 #[.int .i64 0, .slice none 0 0, .slice none 0 0], box g729 60 #[.pointer (some ⟨g730, 0, none⟩)], box g730 94 #[.int .i64 1, .slice A1464 l1463.length c1465, .slice none 0 0], row kStep 107 (.slice A1464 l1463.length c1465) l1463, row (Kd.int .i64) 3 (.slice none 0 0) [], box g734 23 #[.slice A1467 l1466.length c1468], row (Kd.int .i64) 3 (.slice A1467 l1466.length c1468) l1466] ++ [box c2275 23 #[.slice (cutA A732 c733 (0 : Int).toNat 1) l2271.length (c733 - (0 : Int).toNat)], row (Kd.int .i64) 3 (.slice A732 l731.length c733) l731]) w_ := za6 [1, 2, 3, 4, 5, 6, 7, 9, 10, 0, 8] (by decide) rfl w_ hw_
          obtain ⟨P2_, hF2_, hst_, hT_, hc2_, hback_⟩ := hw1_.here Z
          have Z2_ := hF2_.bel
          refine wpIn_any (N := ⟨78, [], none⟩) (n := 3) ?_
          refine wp_rangeE (σ := (List SStep) × Int) (τ := (Option Addr) × Nat) (α := BackT l2271) (fun x => #[Value.int .i64 x.1.1, .int .i64 x.1.2]) (fun _ => rfl) (l1463, y2268) (A1464, c1465) (fun s x => stB (impl_WindowPlan.r1 a1 l1466) s x.1) (fun ((l2276, i2279) : (List SStep) × Int) ((A2277, c2278) : (Option Addr) × Nat) => [box g2269 3 #[.int .i64 i2279], box g1 3 #[.int .i64 a1], box g3 25 #[.int .i64 0, .slice none 0 0, .slice none 0 0], box g729 60 #[.pointer (some ⟨g730, 0, none⟩)], box g730 94 #[.int .i64 1, .slice A2277 l2276.length c2278, .slice none 0 0], row kStep 107 (.slice A2277 l2276.length c2278) l2276, row (Kd.int .i64) 3 (.slice none 0 0) [], box g734 23 #[.slice A1467 l1466.length c1468], row (Kd.int .i64) 3 (.slice A1467 l1466.length c1468) l1466]) (fun x => [(56, .int .i64 x.1.2), (55, .int .i64 x.1.1)]) (fun x => [(11, .int .i64 x.1.2), (56, .int .i64 x.1.2), (55, .int .i64 x.1.1)]) rfl (enters9 Try.func116 N116 rfl) hF2_ (bk_int c2275 (cutA A732 c733 (0 : Int).toNat 1) (c733 - (0 : Int).toNat) l2271 (stab_cut (dk := (Kd.int .i64)) rfl hz2272 hk2273.2 (hT_ 1 _ rfl).row) (Own.box (hT_ 0 _ rfl))) (fun x => act_zip2) ?_ ?_ ?_ ?_
          · rintro ⟨l2276, i2279⟩ ⟨l2276', i2279'⟩ ⟨A2277, c2278⟩ ⟨A2277', c2278'⟩ W_ h1_ h2_
            have e_ := box_det h1_ h2_ (i := 0) (i' := 0) rfl rfl
            have d_ := congrArg (fun a : Array Value => a.getD 0 (.bool false)) e_
            injection d_ with d1_ d2_; subst d2_
            have e_ := box_det h1_ h2_ (i := 4) (i' := 4) rfl rfl
            have d_ := congrArg (fun a : Array Value => a.getD 1 (.bool false)) e_
            injection d_ with d1_ d2_ d3_
            subst d1_; subst d3_
            have d4_ : l2276 = l2276' := C_det (fun _ x y cs a b => by have e_ := (show cs = _ from a).symm.trans (show cs = _ from b); cases x; cases y; simpa using e_) d2_ (h1_.row_C (i := 5) rfl).1 (h2_.row_C (i := 5) rfl).1; subst d4_
            rfl
          · intro l_ s_ t_ x_ W_ P_ Z_ hst2_
            refine za0 ?_
            refine o_q rfl rfl (q_asg rfl) ?_
            refine o_end ?_
            intro w3_ hw3_
            exact ⟨rfl, hw3_⟩
          · intro l_ pre_ x_ t_ W_ P_ Z_ hst2_ hlen_ s_ hs_ s2_ hs2_
            obtain ⟨z_, h, hz_⟩ := rng_round hrg2280 pre_ x_ hlen_
            rw [← hs_] at h hz_
            obtain rfl : z_ = s2_ := hz_.symm.trans hs2_
            clear hs_ hs2_ hz_ hlen_ pre_ hrg2280
            obtain ⟨⟨ix_, y_⟩, hx_⟩ := x_
            obtain ⟨A2277, c2278⟩ := t_
            obtain ⟨l2276, i2279⟩ := s_; obtain ⟨l2276_, i2279_⟩ := z_
            have Z := Z_
            replace h : ((impl_maker_squared.f 1 l2276 [] i2279 a1).bind fun (i2284, l2285) => if 0 < y_ then ((gt l1466 y_).bind fun y2291 => (impl_maker_multiply.f 1 l2285 [] i2284 y2291).bind fun (i2293, l2294) => some (l2294, i2293)) else (some (l2285, i2284))) = some (l2276_, i2279_) := h
            refine zaq ?_
            refine c_seq ?_
            refine za0 ?_
            refine o_q rfl rfl (q_ldb Y60 rfl (fun w h => h.zaj (i := 3) rfl) rfl) ?_
            refine o_q rfl rfl (q_ldb Y3 rfl (fun w h => h.zaj (i := 0) rfl) rfl) ?_
            refine o_q rfl rfl (q_ldb Y3 rfl (fun w h => h.zaj (i := 1) rfl) rfl) ?_
            refine o_pick [4, 5, 0, 1, 2, 3, 6, 7, 8] (by decide) rfl ?_
            refine bindE2 h (fun i2284 l2285 hx2283 h => ?_) rfl
            refine o_e rfl (za8 2 Z Try.func59 N59 rfl rfl rfl (fun w P1 hF hB hS hT => impl_maker_squared.calls g730 1 A2277 c2278 l2276.length l2276 none 0 0 [] i2279 a1 hB hF (hT 4 _ rfl).row (hT 4 _ rfl).cap _ _ hx2283)) (cur2 (fun A2286 c2287 => ?_))
            refine o_e rfl (zad (i := 2) rfl rfl rfl rfl Z3 rfl rfl) (fun _ => ?_)
            refine o_end ?_
            refine za1 ?_
            refine c_seq ?_
            refine za0 ?_
            refine o_q rfl rfl (za2 rfl) ?_
            refine o_q rfl rfl (q_gtr rfl rfl) ?_
            refine o_end ?_
            refine za1 ?_
            refine zb0 _ rfl (fun hb2288 => ?_) (fun hb2288 => ?_)
            · skip
              replace h := br_t hb2288 h
              refine a_startS (ds := []) [none, none, none, some 3, some 4, some 5, some 6, some 7, some 8] MO rfl ?_
              refine zb2 0 rfl rfl rfl (by kernel_rfl) (fun _ _ _ h => h) (fun w h => za3 [none, none, none, some 3, some 4, some 5, some 6, some 7, some 8] (by decide) w h rfl) (q_ldb Y60 rfl (fun w h => h.zaj (i := 5) rfl) rfl) ?_
              refine zb2 2 rfl rfl rfl (by kernel_rfl) (fun _ _ _ h => h) (fun w h => za3 [none, none, none, some 3, some 4, some 5, some 6, some 7, some 8] (by decide) w h rfl) (q_ldb Y23 rfl (fun w h => h.zaj (i := 7) rfl) rfl) ?_
              refine za7 3 rfl rfl rfl (by kernel_rfl) (fun _ _ _ h => h) (za2 rfl) ?_
              refine a_fact (p := Sh A1467 l1466.length l1466.length) (fun w h => f_sh (dk := (Kd.int .i64)) h (fun w h => h.zaw (i := 8) rfl)) (fun hq2289 => ?_)
              refine zab h (fun y2291 hg2290 h => ?_) rfl
              refine za7 4 rfl rfl rfl (by kernel_rfl) (fun _ _ _ h => h) (q_ix Try.underlying23 Z3 rfl rfl hq2289 hg2290) ?_
              refine zb2 5 rfl rfl rfl (by kernel_rfl) (fun _ _ _ h => h) (fun w h => za3 [none, none, none, some 3, some 4, some 5, some 6, some 7, some 8] (by decide) w h rfl) (q_lde (off := 0) Y3 rfl rfl (fun w h => h.zaw (i := 8) rfl) hg2290 (fun _ _ h => h) rfl) ?_
              refine a_one 1 rfl rfl (by kernel_rfl) rfl (ev_q rfl (q_ldb Y3 rfl (fun w h => h.zaj (i := 2) rfl) rfl)) (fun s w h => za3 [none, none, none, some 3, some 4, some 5, some 6, some 7, some 8] (by decide) w h rfl) (fun _ => ?_)
              refine bindE2 h (fun i2293 l2294 hx2292 h => ?_) rfl
              refine a_one 6 rfl rfl (by kernel_rfl) rfl (za8 2 Z Try.func57 N57 rfl rfl rfl (fun w P1 hF hB hS hT => impl_maker_multiply.calls g730 1 A2286 c2287 l2285.length l2285 none 0 0 [] i2284 y2291 hB hF (hT 4 _ rfl).row (hT 4 _ rfl).cap _ _ hx2292)) (fun s w h => za3 [none, none, none, some 3, some 4, some 5, some 6, some 7, some 8] (by decide) w h rfl) (cur2 (fun A2295 c2296 => ?_))
              refine a_one 7 rfl rfl (by kernel_rfl) rfl (zad (i := 2) rfl rfl rfl rfl Z3 rfl rfl) (fun s w h => za3 [none, none, none, some 3, some 4, some 5, some 6, some 7, some 8] (by decide) w h rfl) (fun _ => ?_)
              refine zan (by kernel_rfl) ?_
              refine zas ?_
              have e0_ := Option.some.inj h; clear h
              have d0_ := (Prod.mk.inj e0_).1; have e1_ := (Prod.mk.inj e0_).2; clear e0_; subst d0_
              subst e1_
              intro w3_ hw3_
              exact ⟨(A2295, c2296), (fun w h => za6 [2, 3, 4, 5, 0, 1, 6, 7, 8] (by decide) rfl w h) w3_ hw3_⟩
            · skip
              replace h := br_f hb2288 h
              refine zat ?_
              refine zas ?_
              have e0_ := Option.some.inj h; clear h
              have d0_ := (Prod.mk.inj e0_).1; have e1_ := (Prod.mk.inj e0_).2; clear e0_; subst d0_
              subst e1_
              intro w3_ hw3_
              exact ⟨(A2286, c2287), (fun w h => za6 [2, 3, 4, 5, 0, 1, 6, 7, 8] (by decide) rfl w h) w3_ hw3_⟩
          · intro D_ xs_ W_ t_ s_ hs_ hD_ hS_ hFW_ hdf_
            obtain rfl : s_ = (l2281, i2282) := hs_.trans (rng_done hrg2280 hS_)
            clear hs_ hS_
            obtain ⟨A2277o, c2278o⟩ := t_
            obtain ⟨P4_, hF4_, hst4_, _, hc4_, hback4_⟩ := (show Fr w0 w_ P2_ ([box g2269 3 #[.int .i64 i2282], box g1 3 #[.int .i64 a1], box g3 25 #[.int .i64 0, .slice none 0 0, .slice none 0 0], box g729 60 #[.pointer (some ⟨g730, 0, none⟩)], box g730 94 #[.int .i64 1, .slice A2277o l2281.length c2278o, .slice none 0 0], row kStep 107 (.slice A2277o l2281.length c2278o) l2281, row (Kd.int .i64) 3 (.slice none 0 0) [], box g734 23 #[.slice A1467 l1466.length c1468], row (Kd.int .i64) 3 (.slice A1467 l1466.length c1468) l1466] ++ []) W_ from hFW_).here Z2_
            have hmk_ := mark_stab hc4_ hdf_
            have hws_ : ws.heap.size ≤ D_ := Nat.le_trans (hw_.keptB Z).kept.1 hD_
            have hbk_ : ∀ (Ts : List (Thing w0.heap.size)) w, Fr w0 W_ P4_ Ts w → Fr w0 ws P0 Ts w := fun Ts w h => hback_ _ _ (hback4_ _ _ h)
            refine (show X ⟨78, [{ target := .collected D_, args := #[] }], none⟩ w0 W_ P4_ .normal _ _ _ from ?_) W_ hF4_
            have Zo_ := Z; have Z := hF4_.bel
            refine zas ?_
            refine za1 ?_
            refine c_seq ?_
            refine za0 ?_
            refine o_q rfl rfl (q_ldb Y60 rfl (fun w h => h.zaj (i := 3) rfl) rfl) ?_
            refine o_q rfl rfl (q_ldb Y3 rfl (fun w h => h.zaj (i := 0) rfl) rfl) ?_
            refine o_e rfl (e_lit (vs := [(0, .int .i64 i2282)]) (cs := [.int .i64 i2282]) (Kd.int .i64) ([i2282] : List Int) Try.underlying23 I3 (by decide) rfl (by decide) rfl rfl (fun _ _ => Kd.zah _)) (cur2 (fun A2297 c2298 => ?_))
            refine o_pick [5, 6, 0, 1, 2, 3, 4, 7, 8, 9] (by decide) rfl ?_
            refine zab h (fun _ hx2300 h => ?_) rfl
            refine o_e rfl (za8 3 Z Try.func60 N60 rfl rfl rfl (fun w P1 hF hB hS hT => impl_maker_plan.calls g730 1 A2277o c2278o l2281.length l2281 none 0 0 [] A2297 c2298 (([i2282] : List Int).length) ([i2282] : List Int) hB hF (hT 4 _ rfl).row (hT 4 _ rfl).cap hx2300)) (fun _ => ?_)
            refine o_e rfl (zam V25 rfl) (fun g2301 => ?_)
            refine o_e rfl (zav (i := 0) rfl rfl rfl Z25 rfl rfl) (fun _ => ?_)
            refine o_end ?_
            refine za1 ?_
            refine c_seq ?_
            refine za0 ?_
            refine bindE2 h (fun l2304 l2305 hx2303 h => ?_) rfl
            refine o_e rfl (za8 0 Z Try.func62 N62 rfl rfl rfl (fun w P1 hF hB hS hT => impl_Plan_trimmed.calls g2301 1 A2277o c2278o l2281.length l2281 A2297 c2298 (([i2282] : List Int).length) ([i2282] : List Int) hB hF (hT 1 _ rfl).row (hT 1 _ rfl).cap (hT 2 _ rfl).row (hT 2 _ rfl).cap (hT 0 _ rfl).box _ _ hx2303)) (cur4 (fun A2306 c2307 A2308 c2309 => ?_))
            refine bindE4 h (fun i2311 l2312 l2313 b2314 hx2310 h => ?_) rfl
            refine o_e rfl (za8 2 Z Try.func61 N61 rfl rfl rfl (fun w P1 hF hB hS hT => impl_told.calls k 1 A2306 c2307 l2304.length l2304 A2308 c2309 l2305.length l2305 hB hF _ _ _ _ hx2310)) (cur4 (fun A2315 c2316 A2317 c2318 => ?_))
            refine o_q rfl rfl (q_ext rfl rfl) ?_
            refine o_q rfl rfl (q_ext rfl rfl) ?_
            refine o_e rfl (zav (i := 8) rfl rfl rfl Z25 rfl rfl) (fun _ => ?_)
            refine o_q rfl rfl (q_asg rfl) ?_
            refine o_end ?_
            refine za1 ?_
            refine c_ret ?_
            have e0_ := Option.some.inj h; clear h
            have d0_ := (Prod.mk.inj e0_).1; have e1_ := (Prod.mk.inj e0_).2; clear e0_; subst d0_
            have d1_ := (Prod.mk.inj e1_).1; have e2_ := (Prod.mk.inj e1_).2; clear e1_; subst d1_
            have d2_ := (Prod.mk.inj e2_).1; have e3_ := (Prod.mk.inj e2_).2; clear e2_; subst d2_
            subst e3_
            refine x_mark (D := D_) Zo_ hws_ hmk_ Z hbk_ ?_
            exact x_r2 (A2315, c2316, A2317, c2318) Try.results11 (rv_cell rfl G25 Z25 (fun w h => h.zaj (i := 8) rfl) rfl) (zal rfl) rfl (fun w h => za6 [0, 1] (by decide) rfl w h)

end Go.Proofs.Ytiaohjciddbpoaa.H3
