import Derived.Test.YtoegbcbdiggbjaaKFnSplitPlansSPp3
namespace Go.Proofs.Ytoegbcbdiggbjaa.SP
open Go.RowKit Go.Proofs.Ytoegbcbdiggbjaa.Frame Go.Proofs.YtoegbcbdiggbjaaW.PrintLast Go.Proofs.Ytoegbcbdiggbjaa.Hand
open Go.Proofs.YtoegbcbdiggbjaaW.PrintWords hiding mn mx
set_option linter.unusedVariables false
/-! ### loop.example/g01098/impl.told: function 102 -/
def impl_told.f (k : Nat) (a0_0 : Int) (l0_1 : List SStep) (l0_2 : List Int) : Option (Int × (List SStep) × (List Int) × Bool) := (impl_IsPlan.f k a0_0 l0_1 l0_2).bind fun b6 => if b6 = true then (some (a0_0, l0_1, l0_2, true)) else (some (0, ([] : List SStep), ([] : List Int), false))
set_option maxHeartbeats 600000 in
set_option maxRecDepth 100000 in
theorem impl_told.calls (k : Nat) {w0 ws : World} {P0 : Nat → Prop} (a0_0 : Int) (A0_1 : Option Addr) (c0_1 : Nat) (n0_1 : Nat) (l0_1 : List SStep) (A0_2 : Option Addr) (c0_2 : Nat) (n0_2 : Nat) (l0_2 : List Int) (Z : Below w0.heap.size w0 ws) (hF : Fr w0 ws P0 [row kStep 89 (.slice A0_1 n0_1 c0_1) l0_1, row (Kd.int .i64) 3 (.slice A0_2 n0_2 c0_2) l0_2] ws)  (r_1 : Int) (r_2 : List SStep) (r_5 : List Int) (r_8 : Bool) (h : impl_told.f k a0_0 l0_1 l0_2 = some (r_1, r_2, r_5, r_8)) :
    Calls Try.prog 102 #[.agg #[.int .i64 a0_0, .slice A0_1 n0_1 c0_1, .slice A0_2 n0_2 c0_2]] ws (Post1 w0 ws P0 (fun ((q_3, q_4, q_6, q_7) : (Option Addr) × Nat × (Option Addr) × Nat) => .tuple #[.agg #[.int .i64 r_1, .slice q_3 r_2.length q_4, .slice q_6 r_5.length q_7], .bool r_8]) (fun ((q_3, q_4, q_6, q_7) : (Option Addr) × Nat × (Option Addr) × Nat) => [row kStep 89 (.slice q_3 r_2.length q_4) r_2, row (Kd.int .i64) 3 (.slice q_6 r_5.length q_7) r_5])) := by
  unfold impl_told.f at h
  obtain rfl := (hF.row_C (i := 0) rfl).2.1
  obtain rfl := (hF.row_C (i := 1) rfl).2.1
  refine enter Try.func102 rfl Try.ntmps102 rfl hF ?_
  refine c_seq ?_
  refine za0 ?_
  refine o_e rfl (e_box rfl) (fun g1 => ?_)
  refine o_e rfl (zaw V27 rfl) (fun g3 => ?_)
  refine o_q rfl rfl (q_asg rfl) ?_
  refine o_end ?_
  refine za1 ?_
  refine c_seq ?_
  refine c_seq ?_
  refine za0 ?_
  refine o_q rfl rfl (q_ldB G27 Z27 rfl (fun w h => h.zaa (i := 1) rfl) rfl) ?_
  refine za8 h (fun b6 hx5 h => ?_) rfl
  refine o_e rfl (zac 0 Z Try.func86 N86 rfl rfl rfl (fun w P1 hF hB hS hT => impl_IsPlan.calls k a0_0 A0_1 c0_1 l0_1.length l0_1 A0_2 c0_2 l0_2.length l0_2 hB hF (hT 2 _ rfl).row (hT 2 _ rfl).cap (hT 3 _ rfl).row (hT 3 _ rfl).cap _ hx5)) (fun _ => ?_)
  refine o_q rfl rfl (q_not rfl) ?_
  refine o_end ?_
  refine za1 ?_
  refine zau _ rfl (fun hb7 => ?_) (fun hb7 => ?_)
  · replace hb7 := nt_t hb7
    replace h := bb_f hb7 h
    refine c_seq ?_
    refine za0 ?_
    refine o_q rfl rfl (q_build (vs := []) (cs := [.int .i64 0, .slice none 0 0, .slice none 0 0]) rfl rfl) ?_
    refine o_e rfl (zak (i := 0) rfl rfl rfl Z27 rfl rfl) (fun _ => ?_)
    refine o_q rfl rfl (q_asg rfl) ?_
    refine o_end ?_
    refine za1 ?_
    refine c_ret ?_
    refine zab ?_
    refine x_nil kStep 89 ?_
    refine x_nil (Kd.int .i64) 3 ?_
    have e0_ := Option.some.inj h; clear h
    have d0_ := (Prod.mk.inj e0_).1; have e1_ := (Prod.mk.inj e0_).2; clear e0_; subst d0_
    have d1_ := (Prod.mk.inj e1_).1; have e2_ := (Prod.mk.inj e1_).2; clear e1_; subst d1_
    have d2_ := (Prod.mk.inj e2_).1; have e3_ := (Prod.mk.inj e2_).2; clear e2_; subst d2_
    subst e3_
    exact x_r2 (none, 0, none, 0) Try.results102 (rv_cell rfl G27 Z27 (fun w h => h.zaa (i := 2) rfl) rfl) (zai rfl) rfl (fun w h => za7 [1, 0] (by decide) rfl w h)
  · replace hb7 := nt_f hb7
    replace h := bb_t hb7 h
    refine zan ?_
    refine za1 ?_
    refine c_seq ?_
    refine za0 ?_
    refine o_q rfl rfl (q_ldB G27 Z27 rfl (fun w h => h.zaa (i := 1) rfl) rfl) ?_
    refine o_e rfl (zak (i := 0) rfl rfl rfl Z27 rfl rfl) (fun _ => ?_)
    refine o_q rfl rfl (q_asg rfl) ?_
    refine o_end ?_
    refine za1 ?_
    refine c_ret ?_
    have e0_ := Option.some.inj h; clear h
    have d0_ := (Prod.mk.inj e0_).1; have e1_ := (Prod.mk.inj e0_).2; clear e0_; subst d0_
    have d1_ := (Prod.mk.inj e1_).1; have e2_ := (Prod.mk.inj e1_).2; clear e1_; subst d1_
    have d2_ := (Prod.mk.inj e2_).1; have e3_ := (Prod.mk.inj e2_).2; clear e2_; subst d2_
    subst e3_
    exact x_r2 (A0_1, c0_1, A0_2, c0_2) Try.results102 (rv_cell rfl G27 Z27 (fun w h => h.zaa (i := 0) rfl) rfl) (zai rfl) rfl (fun w h => za7 [2, 3] (by decide) rfl w h)

/-! ### loop.example/g01098/impl.ComposePlans: function 22 -/
def impl_ComposePlans.f (k : Nat) (a0_0 : Int) (l0_1 : List SStep) (l0_2 : List Int) (a1_0 : Int) (l1_1 : List SStep) (l1_2 : List Int) : Option (Int × (List SStep) × (List Int) × Bool) := ((impl_IsPlan.f k a0_0 l0_1 l0_2).bind fun b20 => if b20 = true then ((impl_IsPlan.f k a1_0 l1_1 l1_2).bind fun b23 => if b23 = true then (some (decide ((l0_2.length : Int) ≠ a1_0))) else (some true)) else (some true)).bind fun b13 => if b13 = true then (some (0, ([] : List SStep), ([] : List Int), false)) else ((impl_clonePlan.f a0_0 l0_1 l0_2).bind fun (l27, l28) => (impl_Plan_behind.f a0_0 l27 l28 a1_0 l1_1 l1_2 l0_2).bind fun (l36, l37) => (impl_renamed.f l1_2 l36).bind fun l43 => (impl_told.f k a0_0 l37 l43).bind fun (i47, l48, l49, b50) => some (i47, l48, l49, b50))
set_option maxHeartbeats 600000 in
set_option maxRecDepth 100000 in
theorem impl_ComposePlans.calls (k : Nat) {w0 ws : World} {P0 : Nat → Prop} (a0_0 : Int) (A0_1 : Option Addr) (c0_1 : Nat) (n0_1 : Nat) (l0_1 : List SStep) (A0_2 : Option Addr) (c0_2 : Nat) (n0_2 : Nat) (l0_2 : List Int) (a1_0 : Int) (A1_1 : Option Addr) (c1_1 : Nat) (n1_1 : Nat) (l1_1 : List SStep) (A1_2 : Option Addr) (c1_2 : Nat) (n1_2 : Nat) (l1_2 : List Int) (Z : Below w0.heap.size w0 ws) (hF : Fr w0 ws P0 [] ws) (R0_1 : Stable ws P0 (fun w => Kd.C kStep w A0_1 n0_1 l0_1)) (hc0_1 : n0_1 ≤ c0_1) (R0_2 : Stable ws P0 (fun w => Kd.C (Kd.int .i64) w A0_2 n0_2 l0_2)) (hc0_2 : n0_2 ≤ c0_2) (R1_1 : Stable ws P0 (fun w => Kd.C kStep w A1_1 n1_1 l1_1)) (hc1_1 : n1_1 ≤ c1_1) (R1_2 : Stable ws P0 (fun w => Kd.C (Kd.int .i64) w A1_2 n1_2 l1_2)) (hc1_2 : n1_2 ≤ c1_2) (r_1 : Int) (r_2 : List SStep) (r_5 : List Int) (r_8 : Bool) (h : impl_ComposePlans.f k a0_0 l0_1 l0_2 a1_0 l1_1 l1_2 = some (r_1, r_2, r_5, r_8)) :
    Calls Try.prog 22 #[.agg #[.int .i64 a0_0, .slice A0_1 n0_1 c0_1, .slice A0_2 n0_2 c0_2], .agg #[.int .i64 a1_0, .slice A1_1 n1_1 c1_1, .slice A1_2 n1_2 c1_2]] ws (Post1 w0 ws P0 (fun ((q_3, q_4, q_6, q_7) : (Option Addr) × Nat × (Option Addr) × Nat) => .tuple #[.agg #[.int .i64 r_1, .slice q_3 r_2.length q_4, .slice q_6 r_5.length q_7], .bool r_8]) (fun ((q_3, q_4, q_6, q_7) : (Option Addr) × Nat × (Option Addr) × Nat) => [row kStep 89 (.slice q_3 r_2.length q_4) r_2, row (Kd.int .i64) 3 (.slice q_6 r_5.length q_7) r_5])) := by
  unfold impl_ComposePlans.f at h
  obtain rfl := (R0_1 ws (KeptB.refl _ _)).1
  obtain rfl := (R0_2 ws (KeptB.refl _ _)).1
  obtain rfl := (R1_1 ws (KeptB.refl _ _)).1
  obtain rfl := (R1_2 ws (KeptB.refl _ _)).1
  refine enter Try.func22 rfl Try.ntmps22 rfl hF ?_
  refine c_seq ?_
  refine za0 ?_
  refine o_e rfl (e_box rfl) (fun g1 => ?_)
  refine o_e rfl (e_box rfl) (fun g3 => ?_)
  refine o_e rfl (zaw V27 rfl) (fun g5 => ?_)
  refine o_q rfl rfl (q_asg rfl) ?_
  refine o_end ?_
  refine za1 ?_
  refine c_seq ?_
  refine za8 h (fun o14 hl15 hR16 => ?_) rfl
  clear h
  refine c_cutJ (σ := Bool) (fun b13 => some b13 = some o14) [7, 8, 9, 10, 11, 12, 13, 14, 15, 16, 17, 18, 19, 20, 21, 22] (fun b13 => [(22, .bool b13)]) (fun b13 => [box g1 27 #[.int .i64 a0_0, .slice A0_1 l0_1.length c0_1, .slice A0_2 l0_2.length c0_2], box g3 27 #[.int .i64 a1_0, .slice A1_1 l1_1.length c1_1, .slice A1_2 l1_2.length c1_2], box g5 27 #[.int .i64 0, .slice none 0 0, .slice none 0 0]]) ?_ ?_
  · skip
    have h := hl15; clear hl15
    clear hR16
    refine za0 ?_
    refine o_q rfl rfl (q_ldB G27 Z27 rfl (fun w h => h.zaa (i := 2) rfl) rfl) ?_
    refine za8 h (fun b20 hx19 h => ?_) rfl
    refine o_e rfl (zac 0 Z Try.func86 N86 rfl rfl rfl (fun w P1 hF hB hS hT => impl_IsPlan.calls k a0_0 A0_1 c0_1 l0_1.length l0_1 A0_2 c0_2 l0_2.length l0_2 hB hF (hS _ R0_1) hc0_1 (hS _ R0_2) hc0_2 _ hx19)) (fun _ => ?_)
    refine o_q rfl rfl (q_not rfl) ?_
    refine o_q rfl rfl (za2 rfl) ?_
    refine byB b20 (fun hb21 => ?_) (fun hb21 => ?_)
    · replace h := bb_t hb21 h
      refine o_w (za4 rfl rfl rfl (congrArg (fun b => Value.bool (!(b))) hb21)) rfl (q_ldB G27 Z27 rfl (fun w h => h.zaa (i := 1) rfl) rfl) ?_
      refine za8 h (fun b23 hx22 h => ?_) rfl
      refine o_ew (za4 rfl rfl rfl (congrArg (fun b => Value.bool (!(b))) hb21)) (zac 0 Z Try.func86 N86 rfl rfl rfl (fun w P1 hF hB hS hT => impl_IsPlan.calls k a1_0 A1_1 c1_1 l1_1.length l1_1 A1_2 c1_2 l1_2.length l1_2 hB hF (hS _ R1_1) hc1_1 (hS _ R1_2) hc1_2 _ hx22)) (fun _ => ?_)
      refine o_w (za4 rfl rfl rfl (congrArg (fun b => Value.bool (!(b))) hb21)) rfl (q_not rfl) ?_
      refine o_q rfl rfl (zao false (congrArg (fun b => Value.bool (!(b))) hb21) rfl) ?_
      refine o_q rfl rfl (za2 rfl) ?_
      refine byB b23 (fun hb24 => ?_) (fun hb24 => ?_)
      · replace h := bb_t hb24 h
        refine o_w (za4 rfl rfl rfl (congrArg (fun b => Value.bool (!(b))) hb24)) rfl (q_f F27_2 rfl) ?_
        refine o_w (za4 rfl rfl rfl (congrArg (fun b => Value.bool (!(b))) hb24)) rfl (q_ldb Y25 rfl (fun w h => h.zaa (i := 2) rfl) rfl) ?_
        refine o_w (za4 rfl rfl rfl (congrArg (fun b => Value.bool (!(b))) hb24)) rfl (q_len Try.underlying25 rfl) ?_
        refine o_w (za4 rfl rfl rfl (congrArg (fun b => Value.bool (!(b))) hb24)) rfl (q_f F27_0 rfl) ?_
        refine o_w (za4 rfl rfl rfl (congrArg (fun b => Value.bool (!(b))) hb24)) rfl (q_ldb Y3 rfl (fun w h => h.zaa (i := 1) rfl) rfl) ?_
        refine o_w (za4 rfl rfl rfl (congrArg (fun b => Value.bool (!(b))) hb24)) rfl (q_neq rfl rfl) ?_
        refine o_q rfl rfl (zao false (congrArg (fun b => Value.bool (!(b))) hb24) rfl) ?_
        refine o_end ?_
        refine zat (decide ((l0_2.length : Int) ≠ a1_0)) h ⟨rfl, trivial⟩ (fun w h => za7 [2, 1, 0] (by decide) rfl w h) ?_
        repeat (first | exact zad _ _ | refine zaf rfl ?_ | refine zae rfl ?_ | refine zah rfl ?_)
      · replace h := bb_f hb24 h
        refine @o_n _ _ _ _ _ _ _ _ _ _ _ 16 (za3 rfl rfl rfl (congrArg (fun b => Value.bool (!(b))) hb24) rfl) (Eq.refl (some 16)) ?_
        refine @o_n _ _ _ _ _ _ _ _ _ _ _ 17 (za3 rfl rfl rfl (congrArg (fun b => Value.bool (!(b))) hb24) rfl) (Eq.refl (some 17)) ?_
        refine @o_n _ _ _ _ _ _ _ _ _ _ _ 18 (za3 rfl rfl rfl (congrArg (fun b => Value.bool (!(b))) hb24) rfl) (Eq.refl (some 18)) ?_
        refine @o_n _ _ _ _ _ _ _ _ _ _ _ 19 (za3 rfl rfl rfl (congrArg (fun b => Value.bool (!(b))) hb24) rfl) (Eq.refl (some 19)) ?_
        refine @o_n _ _ _ _ _ _ _ _ _ _ _ 20 (za3 rfl rfl rfl (congrArg (fun b => Value.bool (!(b))) hb24) rfl) (Eq.refl (some 20)) ?_
        refine @o_n _ _ _ _ _ _ _ _ _ _ _ 21 (za3 rfl rfl rfl (congrArg (fun b => Value.bool (!(b))) hb24) rfl) (Eq.refl (some 21)) ?_
        refine o_q rfl rfl (zao true (congrArg (fun b => Value.bool (!(b))) hb24) rfl) ?_
        refine o_end ?_
        refine zat true h ⟨rfl, trivial⟩ (fun w h => za7 [2, 1, 0] (by decide) rfl w h) ?_
        repeat (first | exact zad _ _ | refine zaf rfl ?_ | refine zae rfl ?_ | refine zah rfl ?_)
    · replace h := bb_f hb21 h
      refine @o_n _ _ _ _ _ _ _ _ _ _ _ 11 (za3 rfl rfl rfl (congrArg (fun b => Value.bool (!(b))) hb21) rfl) (Eq.refl (some 11)) ?_
      refine @o_n _ _ _ _ _ _ _ _ _ _ _ 12 (za3 rfl rfl rfl (congrArg (fun b => Value.bool (!(b))) hb21) rfl) (Eq.refl (some 12)) ?_
      refine @o_n _ _ _ _ _ _ _ _ _ _ _ 13 (za3 rfl rfl rfl (congrArg (fun b => Value.bool (!(b))) hb21) rfl) (Eq.refl (some 13)) ?_
      refine o_q rfl rfl (zao true (congrArg (fun b => Value.bool (!(b))) hb21) rfl) ?_
      refine o_q rfl rfl (za2 rfl) ?_
      refine @o_n _ _ _ _ _ _ _ _ _ _ _ 16 (za3 rfl rfl rfl rfl rfl) (Eq.refl (some 16)) ?_
      refine @o_n _ _ _ _ _ _ _ _ _ _ _ 17 (za3 rfl rfl rfl rfl rfl) (Eq.refl (some 17)) ?_
      refine @o_n _ _ _ _ _ _ _ _ _ _ _ 18 (za3 rfl rfl rfl rfl rfl) (Eq.refl (some 18)) ?_
      refine @o_n _ _ _ _ _ _ _ _ _ _ _ 19 (za3 rfl rfl rfl rfl rfl) (Eq.refl (some 19)) ?_
      refine @o_n _ _ _ _ _ _ _ _ _ _ _ 20 (za3 rfl rfl rfl rfl rfl) (Eq.refl (some 20)) ?_
      refine @o_n _ _ _ _ _ _ _ _ _ _ _ 21 (za3 rfl rfl rfl rfl rfl) (Eq.refl (some 21)) ?_
      refine o_q rfl rfl (zao true rfl rfl) ?_
      refine o_end ?_
      refine zat true h ⟨rfl, trivial⟩ (fun w h => za7 [2, 1, 0] (by decide) rfl w h) ?_
      repeat (first | exact zad _ _ | refine zaf rfl ?_ | refine zae rfl ?_ | refine zah rfl ?_)
  · skip
    refine (fun b13 => fun U17 hJ18 => ?_)
    have e_ := Option.some.inj hJ18; have h := hR16; rw [← e_] at h; clear e_ hJ18 hR16 hl15
    refine zau _ rfl (fun hb25 => ?_) (fun hb25 => ?_)
    · skip
      replace h := bb_t hb25 h
      refine c_seq ?_
      refine za0 ?_
      refine o_q rfl rfl (q_build (vs := []) (cs := [.int .i64 0, .slice none 0 0, .slice none 0 0]) rfl rfl) ?_
      refine o_e rfl (zak (i := 2) rfl rfl rfl Z27 rfl rfl) (fun _ => ?_)
      refine o_q rfl rfl (q_asg rfl) ?_
      refine o_end ?_
      refine za1 ?_
      refine c_ret ?_
      refine zab ?_
      refine x_nil kStep 89 ?_
      refine x_nil (Kd.int .i64) 3 ?_
      have e0_ := Option.some.inj h; clear h
      have d0_ := (Prod.mk.inj e0_).1; have e1_ := (Prod.mk.inj e0_).2; clear e0_; subst d0_
      have d1_ := (Prod.mk.inj e1_).1; have e2_ := (Prod.mk.inj e1_).2; clear e1_; subst d1_
      have d2_ := (Prod.mk.inj e2_).1; have e3_ := (Prod.mk.inj e2_).2; clear e2_; subst d2_
      subst e3_
      exact x_r2 (none, 0, none, 0) Try.results22 (rv_cell rfl G27 Z27 (fun w h => h.zaa (i := 4) rfl) rfl) (zai rfl) rfl (fun w h => za7 [1, 0] (by decide) rfl w h)
    · skip
      replace h := bb_f hb25 h
      refine zan ?_
      refine za1 ?_
      refine c_seq ?_
      refine za0 ?_
      refine o_q rfl rfl (q_ldB G27 Z27 rfl (fun w h => h.zaa (i := 0) rfl) rfl) ?_
      refine bindE2 h (fun l27 l28 hx26 h => ?_) rfl
      refine o_e rfl (zac 0 Z Try.func100 N100 rfl rfl rfl (fun w P1 hF hB hS hT => impl_clonePlan.calls a0_0 A0_1 c0_1 l0_1.length l0_1 A0_2 c0_2 l0_2.length l0_2 hB hF (hS _ R0_1) hc0_1 (hS _ R0_2) hc0_2 _ _ hx26)) (cur4 (fun A29 c30 A31 c32 => ?_))
      refine o_e rfl (zaw V27 rfl) (fun g33 => ?_)
      refine o_e rfl (zak (i := 0) rfl rfl rfl Z27 rfl rfl) (fun _ => ?_)
      refine o_end ?_
      refine za1 ?_
      refine c_seq ?_
      refine a_startS (ds := []) [none, none, some 2, some 3, some 4, some 5] MO rfl ?_
      refine za6 0 rfl rfl rfl (by kernel_rfl) (fun _ _ _ h => h) (q_f F27_2 rfl) ?_
      refine zax 1 rfl rfl rfl (by kernel_rfl) (fun _ _ _ h => h) (fun w h => za5 [none, none, some 2, some 3, some 4, some 5] (by decide) w h rfl) (q_ldb Y25 rfl (fun w h => h.zaa (i := 4) rfl) rfl) ?_
      refine za6 2 rfl rfl rfl (by kernel_rfl) (fun _ _ _ h => h) (q_f F27_2 rfl) ?_
      refine zax 3 rfl rfl rfl (by kernel_rfl) (fun _ _ _ h => h) (fun w h => za5 [none, none, some 2, some 3, some 4, some 5] (by decide) w h rfl) (q_ldb Y25 rfl (fun w h => h.zaa (i := 3) rfl) rfl) ?_
      refine bindE2 h (fun l36 l37 hx35 h => ?_) rfl
      refine a_one 4 rfl rfl (by kernel_rfl) rfl (zac 2 Z Try.func101 N101 rfl rfl rfl (fun w P1 hF hB hS hT => impl_Plan_behind.calls g33 a0_0 A29 c30 l27.length l27 A31 c32 l28.length l28 g3 a1_0 A1_1 c1_1 l1_1.length l1_1 A1_2 c1_2 l1_2.length l1_2 A0_2 c0_2 l0_2.length l0_2 hB hF (hT 0 _ rfl).row (hT 0 _ rfl).cap (hS _ R1_1) hc1_1 (hS _ R1_2) hc1_2 (hT 2 _ rfl).box (hS _ R0_2) hc0_2 _ _ hx35)) (fun s w h => za5 [none, none, some 3, some 4, some 5, some 6] (by decide) w h rfl) (cur4 (fun A38 c39 A40 c41 => ?_))
      refine za8 h (fun l43 hx42 h => ?_) rfl
      refine a_one 5 rfl rfl (by kernel_rfl) rfl (zac 0 Z Try.func92 N92 rfl rfl rfl (fun w P1 hF hB hS hT => impl_renamed.calls A1_2 c1_2 l1_2.length l1_2 A38 c39 l36.length l36 hB hF (hS _ R1_2) hc1_2 (hT 0 _ rfl).row (hT 0 _ rfl).cap _ hx42)) (fun s w h => za5 [none, none, some 4, some 5, some 6, some 7] (by decide) w h rfl) (cur2 (fun A44 c45 => ?_))
      refine za6 6 rfl rfl rfl (by kernel_rfl) (fun _ _ _ h => h) (q_f F27_2 rfl) ?_
      refine a_one 7 rfl rfl (by kernel_rfl) rfl (e_store (i := 2) rfl rfl rfl rfl Z25 rfl rfl) (fun s w h => za5 [none, none, some 4, some 5, some 6, some 7] (by decide) w h rfl) (fun _ => ?_)
      refine zav (by kernel_rfl) ?_
      refine za1 ?_
      refine c_seq ?_
      refine za0 ?_
      refine o_q rfl rfl (q_ldB G27 Z27 rfl (fun w h => h.zaa (i := 2) rfl) rfl) ?_
      refine o_pick [3, 0, 1, 2, 4, 5, 6, 7] (by decide) rfl ?_
      refine bindE4 h (fun i47 l48 l49 b50 hx46 h => ?_) rfl
      refine o_e rfl (zac 2 Z Try.func102 N102 rfl rfl rfl (fun w P1 hF hB hS hT => impl_told.calls k a0_0 A40 c41 l37.length l37 A44 c45 l43.length l43 hB hF _ _ _ _ hx46)) (cur4 (fun A51 c52 A53 c54 => ?_))
      refine o_q rfl rfl (q_ext rfl rfl) ?_
      refine o_q rfl rfl (q_ext rfl rfl) ?_
      refine o_e rfl (zak (i := 7) rfl rfl rfl Z27 rfl rfl) (fun _ => ?_)
      refine o_q rfl rfl (q_asg rfl) ?_
      refine o_end ?_
      refine za1 ?_
      refine c_ret ?_
      have e0_ := Option.some.inj h; clear h
      have d0_ := (Prod.mk.inj e0_).1; have e1_ := (Prod.mk.inj e0_).2; clear e0_; subst d0_
      have d1_ := (Prod.mk.inj e1_).1; have e2_ := (Prod.mk.inj e1_).2; clear e1_; subst d1_
      have d2_ := (Prod.mk.inj e2_).1; have e3_ := (Prod.mk.inj e2_).2; clear e2_; subst d2_
      subst e3_
      exact x_r2 (A51, c52, A53, c54) Try.results22 (rv_cell rfl G27 Z27 (fun w h => h.zaa (i := 7) rfl) rfl) (zai rfl) rfl (fun w h => za7 [0, 1] (by decide) rfl w h)

/-! ### loop.example/g01098/laws.FnSplitPlans: function 3 -/
def laws_FnSplitPlans.f (k : Nat) (l0 : List Int) (l1 : List Int) : Option Bool := (laws_big.f l0 l1).bind fun b2 => if b2 = true then (some true) else ((spec_DrawSplitPlan.f k l0).bind fun (i5, l6, l7, i8) => (impl_SplitPlan.f k i5 l6 l7 i8).bind fun (i16, l17, l18, i19, l20, l21, b22) => (spec_SplitPlan.f k i5 l6 l7 i8).bind fun (i36, l37, l38, i39, l40, l41, b42) => if (b22 != b42) = true then (some false) else ((laws_pSamePlan.f i16 l17 l18 i36 l37 l38).bind fun b57 => if b57 = true then ((laws_pSamePlan.f i19 l20 l21 i39 l40 l41).bind fun b60 => if b60 = true then ((impl_LiveAt.f k i5 l6 l7 i8).bind fun (l63, b64) => (impl_WidthOf.f k i5 l6 l7).bind fun (i68, b69) => (spec_LiveAt.f k i5 l6 l7 i8).bind fun (l71, b72) => if (b64 != b72) = true then (some false) else ((laws_pSameInts.f l63 l71).bind fun b77 => if b77 = true then (if b64 = true then ((if b69 = true then (if i68 < (l63.length : Int) then (some (.inl false)) else (if 0 < (l63.length : Int) then (if (b22 != decide ((l63.length : Int) ≤ 6)) = true then (some (.inl false)) else (some (.inr ()))) else (if (b22 != false) = true then (some (.inl false)) else (some (.inr ()))))) else (some (.inl false)) : Option ((Bool) ⊕ (Unit))).bind fun o_ => match o_ with | .inl r_ => some r_ | .inr _ => if b22 = true then ((impl_ComposePlans.f k i16 l17 l18 i19 l20 l21).bind fun (i97, l98, l99, b100) => if b100 = true then ((laws_pSamePlan.f i97 l98 l99 i5 l6 l7).bind fun b109 => if b109 = true then (if (l17.length : Int) = i8 then ((laws_pSameInts.f l18 l63).bind fun b113 => some b113) else (some false)) else (some false)) else (some false)) else (some true)) else (some (!b22))) else (some false))) else (some false)) else (some false)))
set_option maxHeartbeats 600000 in
set_option maxRecDepth 100000 in
theorem laws_FnSplitPlans.calls (k : Nat) {w0 ws : World} {P0 : Nat → Prop} (A0 : Option Addr) (c0 : Nat) (n0 : Nat) (l0 : List Int) (A1 : Option Addr) (c1 : Nat) (n1 : Nat) (l1 : List Int) (Z : Below w0.heap.size w0 ws) (hF : Fr w0 ws P0 [] ws) (R0 : Stable ws P0 (fun w => Kd.C (Kd.int .u8) w A0 n0 l0)) (hc0 : n0 ≤ c0) (R1 : Stable ws P0 (fun w => Kd.C (Kd.int .u8) w A1 n1 l1)) (hc1 : n1 ≤ c1) (r_1 : Bool) (h : laws_FnSplitPlans.f k l0 l1 = some r_1) :
    Calls Try.prog 3 #[.slice A0 n0 c0, .slice A1 n1 c1] ws (Post1 w0 ws P0 (fun (_ : Unit) => .bool r_1) (fun (_ : Unit) => [])) := by
  unfold laws_FnSplitPlans.f at h
  obtain rfl := (R0 ws (KeptB.refl _ _)).1
  obtain rfl := (R1 ws (KeptB.refl _ _)).1
  refine enter Try.func3 rfl Try.ntmps3 rfl hF ?_
  refine c_seq ?_
  refine za0 ?_
  refine o_q rfl rfl (q_asg rfl) ?_
  refine o_end ?_
  refine za1 ?_
  refine c_seq ?_
  refine c_seq ?_
  refine za0 ?_
  refine o_q rfl rfl (za2 rfl) ?_
  refine o_q rfl rfl (za2 rfl) ?_
  refine za8 h (fun b2 hx1 h => ?_) rfl
  refine o_e rfl (zac 0 Z Try.func13 N13 rfl rfl rfl (fun w P1 hF hB hS hT => laws_big.calls A0 c0 l0.length l0 A1 c1 l1.length l1 hB hF (hS _ R0) hc0 (hS _ R1) hc1 _ hx1)) (fun _ => ?_)
  refine o_end ?_
  refine za1 ?_
  refine zau _ rfl (fun hb3 => ?_) (fun hb3 => ?_)
  · skip
    replace h := bb_t hb3 h
    refine c_seq ?_
    refine za0 ?_
    refine o_q rfl rfl (q_asg rfl) ?_
    refine o_end ?_
    refine za1 ?_
    refine c_ret ?_
    refine zab ?_
    have e0_ := Option.some.inj h; clear h
    subst e0_
    exact x_r1 () Try.results3 (zai rfl) rfl (fun w h => za7 [] (by decide) rfl w h)
  · skip
    replace h := bb_f hb3 h
    refine zan ?_
    refine za1 ?_
    refine c_seq ?_
    refine za0 ?_
    refine o_q rfl rfl (za2 rfl) ?_
    refine bindE4 h (fun i5 l6 l7 i8 hx4 h => ?_) rfl
    refine o_e rfl (zac 0 Z Try.func14 N14 rfl rfl rfl (fun w P1 hF hB hS hT => spec_DrawSplitPlan.calls k A0 c0 l0.length l0 hB hF (hS _ R0) hc0 _ _ _ _ hx4)) (cur4 (fun A9 c10 A11 c12 => ?_))
    refine o_q rfl rfl (za2 rfl) ?_
    refine o_q rfl rfl (q_ext rfl rfl) ?_
    refine o_q rfl rfl (q_ext rfl rfl) ?_
    refine o_e rfl (zaw V27 rfl) (fun g13 => ?_)
    refine o_e rfl (zak (i := 0) rfl rfl rfl Z27 rfl rfl) (fun _ => ?_)
    refine o_q rfl rfl (q_asg rfl) ?_
    refine o_end ?_
    refine za1 ?_
    refine c_seq ?_
    refine za0 ?_
    refine o_q rfl rfl (q_ldB G27 Z27 rfl (fun w h => h.zaa (i := 0) rfl) rfl) ?_
    refine o_q rfl rfl (za2 rfl) ?_
    refine bindE7 h (fun i16 l17 l18 i19 l20 l21 b22 hx15 h => ?_) rfl
    refine o_e rfl (zac 0 Z Try.func15 N15 rfl rfl rfl (fun w P1 hF hB hS hT => impl_SplitPlan.calls k i5 A9 c10 l6.length l6 A11 c12 l7.length l7 i8 hB hF (hT 1 _ rfl).row (hT 1 _ rfl).cap (hT 2 _ rfl).row (hT 2 _ rfl).cap _ _ _ _ _ _ _ hx15)) (cur8 (fun A23 c24 A25 c26 A27 c28 A29 c30 => ?_))
    refine o_q rfl rfl (za2 rfl) ?_
    refine o_q rfl rfl (q_ext rfl rfl) ?_
    refine o_q rfl rfl (q_ext rfl rfl) ?_
    refine o_q rfl rfl (q_ext rfl rfl) ?_
    refine o_e rfl (zaw V27 rfl) (fun g31 => ?_)
    refine o_e rfl (zaw V27 rfl) (fun g33 => ?_)
    refine o_e rfl (zak (i := 1) rfl rfl rfl Z27 rfl rfl) (fun _ => ?_)
    refine o_e rfl (zak (i := 0) rfl rfl rfl Z27 rfl rfl) (fun _ => ?_)
    refine o_q rfl rfl (q_asg rfl) ?_
    refine o_end ?_
    refine za1 ?_
    refine c_seq ?_
    refine za0 ?_
    refine o_q rfl rfl (q_ldB G27 Z27 rfl (fun w h => h.zaa (i := 6) rfl) rfl) ?_
    refine o_q rfl rfl (za2 rfl) ?_
    refine bindE7 h (fun i36 l37 l38 i39 l40 l41 b42 hx35 h => ?_) rfl
    refine o_e rfl (zac 0 Z Try.func16 N16 rfl rfl rfl (fun w P1 hF hB hS hT => spec_SplitPlan.calls k i5 A9 c10 l6.length l6 A11 c12 l7.length l7 i8 hB hF (hT 7 _ rfl).row (hT 7 _ rfl).cap (hT 8 _ rfl).row (hT 8 _ rfl).cap _ _ _ _ _ _ _ hx35)) (cur8 (fun A43 c44 A45 c46 A47 c48 A49 c50 => ?_))
    refine o_q rfl rfl (za2 rfl) ?_
    refine o_q rfl rfl (q_ext rfl rfl) ?_
    refine o_q rfl rfl (q_ext rfl rfl) ?_
    refine o_q rfl rfl (q_ext rfl rfl) ?_
    refine o_e rfl (zaw V27 rfl) (fun g51 => ?_)
    refine o_e rfl (zaw V27 rfl) (fun g53 => ?_)
    refine o_e rfl (zak (i := 1) rfl rfl rfl Z27 rfl rfl) (fun _ => ?_)
    refine o_e rfl (zak (i := 0) rfl rfl rfl Z27 rfl rfl) (fun _ => ?_)
    refine o_q rfl rfl (q_asg rfl) ?_
    refine o_end ?_
    refine za1 ?_
    refine c_seq ?_
    refine c_seq ?_
    refine za0 ?_
    refine o_q rfl rfl (za2 rfl) ?_
    refine o_q rfl rfl (za2 rfl) ?_
    refine o_q rfl rfl (q_bneq Try.underlying4 rfl rfl) ?_
    refine o_q rfl rfl (za2 rfl) ?_
    refine byB (b22 != b42) (fun hb55 => ?_) (fun hb55 => ?_)
    · replace h := bb_t hb55 h
      refine @o_n _ _ _ _ _ _ _ _ _ _ _ 47 (za3 rfl rfl rfl (congrArg Value.bool hb55) rfl) (Eq.refl (some 47)) ?_
      refine @o_n _ _ _ _ _ _ _ _ _ _ _ 48 (za3 rfl rfl rfl (congrArg Value.bool hb55) rfl) (Eq.refl (some 48)) ?_
      refine @o_n _ _ _ _ _ _ _ _ _ _ _ 49 (za3 rfl rfl rfl (congrArg Value.bool hb55) rfl) (Eq.refl (some 49)) ?_
      refine @o_n _ _ _ _ _ _ _ _ _ _ _ 50 (za3 rfl rfl rfl (congrArg Value.bool hb55) rfl) (Eq.refl (some 50)) ?_
      refine o_q rfl rfl (zao true (congrArg Value.bool hb55) rfl) ?_
      refine o_q rfl rfl (za2 rfl) ?_
      refine @o_n _ _ _ _ _ _ _ _ _ _ _ 53 (za3 rfl rfl rfl rfl rfl) (Eq.refl (some 53)) ?_
      refine @o_n _ _ _ _ _ _ _ _ _ _ _ 54 (za3 rfl rfl rfl rfl rfl) (Eq.refl (some 54)) ?_
      refine @o_n _ _ _ _ _ _ _ _ _ _ _ 55 (za3 rfl rfl rfl rfl rfl) (Eq.refl (some 55)) ?_
      refine @o_n _ _ _ _ _ _ _ _ _ _ _ 56 (za3 rfl rfl rfl rfl rfl) (Eq.refl (some 56)) ?_
      refine o_q rfl rfl (zao true rfl rfl) ?_
      refine o_end ?_
      refine za1 ?_
      refine c_true rfl ?_
      refine c_seq ?_
      refine za0 ?_
      refine o_q rfl rfl (q_asg rfl) ?_
      refine o_end ?_
      refine za1 ?_
      refine c_ret ?_
      refine zab ?_
      have e0_ := Option.some.inj h; clear h
      subst e0_
      exact x_r1 () Try.results3 (zai rfl) rfl (fun w h => za7 [] (by decide) rfl w h)
    · replace h := bb_f hb55 h
      refine o_w (za4 rfl rfl rfl (congrArg Value.bool hb55)) rfl (q_ldB G27 Z27 rfl (fun w h => h.zaa (i := 7) rfl) rfl) ?_
      refine o_w (za4 rfl rfl rfl (congrArg Value.bool hb55)) rfl (q_ldB G27 Z27 rfl (fun w h => h.zaa (i := 1) rfl) rfl) ?_
      refine za8 h (fun b57 hx56 h => ?_) rfl
      refine o_ew (za4 rfl rfl rfl (congrArg Value.bool hb55)) (zac 0 Z Try.func17 N17 rfl rfl rfl (fun w P1 hF hB hS hT => laws_pSamePlan.calls i16 A23 c24 l17.length l17 A25 c26 l18.length l18 i36 A43 c44 l37.length l37 A45 c46 l38.length l38 hB hF (hT 8 _ rfl).row (hT 8 _ rfl).cap (hT 9 _ rfl).row (hT 9 _ rfl).cap (hT 2 _ rfl).row (hT 2 _ rfl).cap (hT 3 _ rfl).row (hT 3 _ rfl).cap _ hx56)) (fun _ => ?_)
      refine o_w (za4 rfl rfl rfl (congrArg Value.bool hb55)) rfl (q_not rfl) ?_
      refine o_q rfl rfl (zao false (congrArg Value.bool hb55) rfl) ?_
      refine o_q rfl rfl (za2 rfl) ?_
      refine byB b57 (fun hb58 => ?_) (fun hb58 => ?_)
      · replace h := bb_t hb58 h
        refine o_w (za4 rfl rfl rfl (congrArg (fun b => Value.bool (!(b))) hb58)) rfl (q_ldB G27 Z27 rfl (fun w h => h.zaa (i := 6) rfl) rfl) ?_
        refine o_w (za4 rfl rfl rfl (congrArg (fun b => Value.bool (!(b))) hb58)) rfl (q_ldB G27 Z27 rfl (fun w h => h.zaa (i := 0) rfl) rfl) ?_
        refine za8 h (fun b60 hx59 h => ?_) rfl
        refine o_ew (za4 rfl rfl rfl (congrArg (fun b => Value.bool (!(b))) hb58)) (zac 0 Z Try.func17 N17 rfl rfl rfl (fun w P1 hF hB hS hT => laws_pSamePlan.calls i19 A27 c28 l20.length l20 A29 c30 l21.length l21 i39 A47 c48 l40.length l40 A49 c50 l41.length l41 hB hF (hT 10 _ rfl).row (hT 10 _ rfl).cap (hT 11 _ rfl).row (hT 11 _ rfl).cap (hT 4 _ rfl).row (hT 4 _ rfl).cap (hT 5 _ rfl).row (hT 5 _ rfl).cap _ hx59)) (fun _ => ?_)
        refine o_w (za4 rfl rfl rfl (congrArg (fun b => Value.bool (!(b))) hb58)) rfl (q_not rfl) ?_
        refine o_q rfl rfl (zao false (congrArg (fun b => Value.bool (!(b))) hb58) rfl) ?_
        refine o_end ?_
        refine za1 ?_
        refine zau _ rfl (fun hb61 => ?_) (fun hb61 => ?_)
        · replace hb61 := nt_t hb61
          replace h := bb_f hb61 h
          refine c_seq ?_
          refine za0 ?_
          refine o_q rfl rfl (q_asg rfl) ?_
          refine o_end ?_
          refine za1 ?_
          refine c_ret ?_
          refine zab ?_
          have e0_ := Option.some.inj h; clear h
          subst e0_
          exact x_r1 () Try.results3 (zai rfl) rfl (fun w h => za7 [] (by decide) rfl w h)
        · replace hb61 := nt_f hb61
          replace h := bb_t hb61 h
          refine zan ?_
          refine za1 ?_
          refine c_seq ?_
          refine za0 ?_
          refine o_q rfl rfl (q_ldB G27 Z27 rfl (fun w h => h.zaa (i := 12) rfl) rfl) ?_
          refine o_q rfl rfl (za2 rfl) ?_
          refine bindE2 h (fun l63 b64 hx62 h => ?_) rfl
          refine o_e rfl (zac 0 Z Try.func18 N18 rfl rfl rfl (fun w P1 hF hB hS hT => impl_LiveAt.calls k i5 A9 c10 l6.length l6 A11 c12 l7.length l7 i8 hB hF (hT 13 _ rfl).row (hT 13 _ rfl).cap (hT 14 _ rfl).row (hT 14 _ rfl).cap _ _ hx62)) (cur2 (fun A65 c66 => ?_))
          refine o_q rfl rfl (za2 rfl) ?_
          refine o_q rfl rfl (q_ext rfl rfl) ?_
          refine o_q rfl rfl (q_ext rfl rfl) ?_
          refine o_q rfl rfl (q_asg rfl) ?_
          refine o_q rfl rfl (q_asg rfl) ?_
          refine o_end ?_
          refine za1 ?_
          refine c_seq ?_
          refine za0 ?_
          refine o_q rfl rfl (q_ldB G27 Z27 rfl (fun w h => h.zaa (i := 13) rfl) rfl) ?_
          refine bindE2 h (fun i68 b69 hx67 h => ?_) rfl
          refine o_e rfl (zac 0 Z Try.func19 N19 rfl rfl rfl (fun w P1 hF hB hS hT => impl_WidthOf.calls k i5 A9 c10 l6.length l6 A11 c12 l7.length l7 hB hF (hT 14 _ rfl).row (hT 14 _ rfl).cap (hT 15 _ rfl).row (hT 15 _ rfl).cap _ _ hx67)) (fun _ => ?_)
          refine o_q rfl rfl (za2 rfl) ?_
          refine o_q rfl rfl (q_ext rfl rfl) ?_
          refine o_q rfl rfl (q_ext rfl rfl) ?_
          refine o_q rfl rfl (q_asg rfl) ?_
          refine o_q rfl rfl (q_asg rfl) ?_
          refine o_end ?_
          refine za1 ?_
          refine c_seq ?_
          refine za0 ?_
          refine o_q rfl rfl (q_ldB G27 Z27 rfl (fun w h => h.zaa (i := 13) rfl) rfl) ?_
          refine o_q rfl rfl (za2 rfl) ?_
          refine bindE2 h (fun l71 b72 hx70 h => ?_) rfl
          refine o_e rfl (zac 0 Z Try.func20 N20 rfl rfl rfl (fun w P1 hF hB hS hT => spec_LiveAt.calls k i5 A9 c10 l6.length l6 A11 c12 l7.length l7 i8 hB hF (hT 14 _ rfl).row (hT 14 _ rfl).cap (hT 15 _ rfl).row (hT 15 _ rfl).cap _ _ hx70)) (cur2 (fun A73 c74 => ?_))
          refine o_q rfl rfl (za2 rfl) ?_
          refine o_q rfl rfl (q_ext rfl rfl) ?_
          refine o_q rfl rfl (q_ext rfl rfl) ?_
          refine o_q rfl rfl (q_asg rfl) ?_
          refine o_q rfl rfl (q_asg rfl) ?_
          refine o_end ?_
          refine za1 ?_
          refine c_seq ?_
          refine c_seq ?_
          refine za0 ?_
          refine o_q rfl rfl (za2 rfl) ?_
          refine o_q rfl rfl (za2 rfl) ?_
          refine o_q rfl rfl (q_bneq Try.underlying4 rfl rfl) ?_
          refine o_q rfl rfl (za2 rfl) ?_
          refine byB (b64 != b72) (fun hb75 => ?_) (fun hb75 => ?_)
          · replace h := bb_t hb75 h
            refine @o_n _ _ _ _ _ _ _ _ _ _ _ 79 (za3 rfl rfl rfl (congrArg Value.bool hb75) rfl) (Eq.refl (some 79)) ?_
            refine @o_n _ _ _ _ _ _ _ _ _ _ _ 80 (za3 rfl rfl rfl (congrArg Value.bool hb75) rfl) (Eq.refl (some 80)) ?_
            refine @o_n _ _ _ _ _ _ _ _ _ _ _ 81 (za3 rfl rfl rfl (congrArg Value.bool hb75) rfl) (Eq.refl (some 81)) ?_
            refine @o_n _ _ _ _ _ _ _ _ _ _ _ 82 (za3 rfl rfl rfl (congrArg Value.bool hb75) rfl) (Eq.refl (some 82)) ?_
            refine o_q rfl rfl (zao true (congrArg Value.bool hb75) rfl) ?_
            refine o_end ?_
            refine za1 ?_
            refine c_true rfl ?_
            refine c_seq ?_
            refine za0 ?_
            refine o_q rfl rfl (q_asg rfl) ?_
            refine o_end ?_
            refine za1 ?_
            refine c_ret ?_
            refine zab ?_
            have e0_ := Option.some.inj h; clear h
            subst e0_
            exact x_r1 () Try.results3 (zai rfl) rfl (fun w h => za7 [] (by decide) rfl w h)
          · replace h := bb_f hb75 h
            refine o_w (za4 rfl rfl rfl (congrArg Value.bool hb75)) rfl (za2 rfl) ?_
            refine o_w (za4 rfl rfl rfl (congrArg Value.bool hb75)) rfl (za2 rfl) ?_
            refine za8 h (fun b77 hx76 h => ?_) rfl
            refine o_ew (za4 rfl rfl rfl (congrArg Value.bool hb75)) (zac 0 Z Try.func21 N21 rfl rfl rfl (fun w P1 hF hB hS hT => laws_pSameInts.calls A65 c66 l63.length l63 A73 c74 l71.length l71 hB hF (hT 1 _ rfl).row (hT 1 _ rfl).cap (hT 0 _ rfl).row (hT 0 _ rfl).cap _ hx76)) (fun _ => ?_)
            refine o_w (za4 rfl rfl rfl (congrArg Value.bool hb75)) rfl (q_not rfl) ?_
            refine o_q rfl rfl (zao false (congrArg Value.bool hb75) rfl) ?_
            refine o_end ?_
            refine za1 ?_
            refine zau _ rfl (fun hb78 => ?_) (fun hb78 => ?_)
            · replace hb78 := nt_t hb78
              replace h := bb_f hb78 h
              refine c_seq ?_
              refine za0 ?_
              refine o_q rfl rfl (q_asg rfl) ?_
              refine o_end ?_
              refine za1 ?_
              refine c_ret ?_
              refine zab ?_
              have e0_ := Option.some.inj h; clear h
              subst e0_
              exact x_r1 () Try.results3 (zai rfl) rfl (fun w h => za7 [] (by decide) rfl w h)
            · replace hb78 := nt_f hb78
              replace h := bb_t hb78 h
              refine zan ?_
              refine za1 ?_
              refine c_seq ?_
              refine c_seq ?_
              refine za0 ?_
              refine o_q rfl rfl (za2 rfl) ?_
              refine o_q rfl rfl (q_not rfl) ?_
              refine o_end ?_
              refine za1 ?_
              refine zau _ rfl (fun hb79 => ?_) (fun hb79 => ?_)
              · replace hb79 := nt_t hb79
                replace h := bb_f hb79 h
                refine c_seq ?_
                refine za0 ?_
                refine o_q rfl rfl (za2 rfl) ?_
                refine o_q rfl rfl (q_not rfl) ?_
                refine o_q rfl rfl (q_asg rfl) ?_
                refine o_end ?_
                refine za1 ?_
                refine c_ret ?_
                refine zab ?_
                have e0_ := Option.some.inj h; clear h
                subst e0_
                exact x_r1 () Try.results3 (zai rfl) rfl (fun w h => za7 [] (by decide) rfl w h)
              · replace hb79 := nt_f hb79
                replace h := bb_t hb79 h
                refine zan ?_
                refine za1 ?_
                refine za8 h (fun o85 hl86 hR87 => ?_) rfl
                clear h
                refine c_cutJ (σ := Unit) (fun _ => some (.inr ()) = some o85) [4, 88, 89, 90, 91, 92, 93, 94, 95, 96, 97, 98, 99, 100, 101, 102, 103, 104, 105, 106, 107] (fun _ => []) (fun _ => [box g13 27 #[.int .i64 i5, .slice A9 l6.length c10, .slice A11 l7.length c12], row kStep 89 (.slice A9 l6.length c10) l6, row (Kd.int .i64) 3 (.slice A11 l7.length c12) l7, box g31 27 #[.int .i64 i16, .slice A23 l17.length c24, .slice A25 l18.length c26], row kStep 89 (.slice A23 l17.length c24) l17, row (Kd.int .i64) 3 (.slice A25 l18.length c26) l18, box g33 27 #[.int .i64 i19, .slice A27 l20.length c28, .slice A29 l21.length c30], row kStep 89 (.slice A27 l20.length c28) l20, row (Kd.int .i64) 3 (.slice A29 l21.length c30) l21, row (Kd.int .i64) 3 (.slice A65 l63.length c66) l63, row (Kd.int .i64) 3 (.slice A73 l71.length c74) l71, box g53 27 #[.int .i64 i39, .slice A47 l40.length c48, .slice A49 l41.length c50], row kStep 89 (.slice A47 l40.length c48) l40, row (Kd.int .i64) 3 (.slice A49 l41.length c50) l41, box g51 27 #[.int .i64 i36, .slice A43 l37.length c44, .slice A45 l38.length c46], row kStep 89 (.slice A43 l37.length c44) l37, row (Kd.int .i64) 3 (.slice A45 l38.length c46) l38]) ?_ ?_
                · skip
                  have h := hl86; clear hl86
                  refine c_seq ?_
                  refine za0 ?_
                  refine o_q rfl rfl (za2 rfl) ?_
                  refine o_q rfl rfl (q_not rfl) ?_
                  refine o_q rfl rfl (za2 rfl) ?_
                  refine byB b69 (fun hb90 => ?_) (fun hb90 => ?_)
                  · replace h := bb_t hb90 h
                    refine o_w (za4 rfl rfl rfl (congrArg (fun b => Value.bool (!(b))) hb90)) rfl (za2 rfl) ?_
                    refine o_w (za4 rfl rfl rfl (congrArg (fun b => Value.bool (!(b))) hb90)) rfl (q_len Try.underlying25 rfl) ?_
                    refine o_w (za4 rfl rfl rfl (congrArg (fun b => Value.bool (!(b))) hb90)) rfl (za2 rfl) ?_
                    refine o_w (za4 rfl rfl rfl (congrArg (fun b => Value.bool (!(b))) hb90)) rfl (q_gtr rfl rfl) ?_
                    refine o_q rfl rfl (zao false (congrArg (fun b => Value.bool (!(b))) hb90) rfl) ?_
                    refine o_q rfl rfl (za2 rfl) ?_
                    refine byB (decide (i68 < (l63.length : Int))) (fun hb91 => ?_) (fun hb91 => ?_)
                    · replace h := br_t hb91 h
                      refine @o_n _ _ _ _ _ _ _ _ _ _ _ 97 (za3 rfl rfl rfl (congrArg Value.bool hb91) rfl) (Eq.refl (some 97)) ?_
                      refine @o_n _ _ _ _ _ _ _ _ _ _ _ 98 (za3 rfl rfl rfl (congrArg Value.bool hb91) rfl) (Eq.refl (some 98)) ?_
                      refine @o_n _ _ _ _ _ _ _ _ _ _ _ 99 (za3 rfl rfl rfl (congrArg Value.bool hb91) rfl) (Eq.refl (some 99)) ?_
                      refine @o_n _ _ _ _ _ _ _ _ _ _ _ 100 (za3 rfl rfl rfl (congrArg Value.bool hb91) rfl) (Eq.refl (some 100)) ?_
                      refine @o_n _ _ _ _ _ _ _ _ _ _ _ 101 (za3 rfl rfl rfl (congrArg Value.bool hb91) rfl) (Eq.refl (some 101)) ?_
                      refine @o_n _ _ _ _ _ _ _ _ _ _ _ 102 (wanted_un rfl rfl rfl rfl) (Eq.refl (some 102)) ?_
                      refine @o_n _ _ _ _ _ _ _ _ _ _ _ 103 (wanted_un rfl rfl rfl rfl) (Eq.refl (some 103)) ?_
                      refine @o_n _ _ _ _ _ _ _ _ _ _ _ 104 (wanted_un rfl rfl rfl rfl) (Eq.refl (some 104)) ?_
                      refine @o_n _ _ _ _ _ _ _ _ _ _ _ 105 (za3 rfl rfl rfl (congrArg Value.bool hb91) rfl) (Eq.refl (some 105)) ?_
                      refine @o_n _ _ _ _ _ _ _ _ _ _ _ 106 (za3 rfl rfl rfl (congrArg Value.bool hb91) rfl) (Eq.refl (some 106)) ?_
                      refine o_q rfl rfl (zao true (congrArg Value.bool hb91) rfl) ?_
                      refine o_end ?_
                      refine za1 ?_
                      refine c_true rfl ?_
                      refine c_seq ?_
                      refine za0 ?_
                      refine o_q rfl rfl (q_asg rfl) ?_
                      refine o_end ?_
                      refine za1 ?_
                      refine c_ret ?_
                      refine zab ?_
                      have e_ := Option.some.inj h; replace h := hR87; rw [← e_] at h; clear e_
                      have e0_ := Option.some.inj h; clear h
                      subst e0_
                      exact x_r1 () Try.results3 (zai rfl) rfl (fun w h => za7 [] (by decide) rfl w h)
                    · replace h := br_f hb91 h
                      refine o_w (za4 rfl rfl rfl (congrArg Value.bool hb91)) rfl (za2 rfl) ?_
                      refine o_w (za4 rfl rfl rfl (congrArg Value.bool hb91)) rfl (za2 rfl) ?_
                      refine o_w (za4 rfl rfl rfl (congrArg Value.bool hb91)) rfl (q_len Try.underlying25 rfl) ?_
                      refine o_w (za4 rfl rfl rfl (congrArg Value.bool hb91)) rfl (q_gtr rfl rfl) ?_
                      refine o_w (za4 rfl rfl rfl (congrArg Value.bool hb91)) rfl (za2 rfl) ?_
                      refine byB (decide (0 < (l63.length : Int))) (fun hb92 => ?_) (fun hb92 => ?_)
                      · replace h := br_t hb92 h
                        refine o_w (za4 rfl rfl rfl (congrArg Value.bool hb92)) rfl (za2 rfl) ?_
                        refine o_w (za4 rfl rfl rfl (congrArg Value.bool hb92)) rfl (q_len Try.underlying25 rfl) ?_
                        refine o_w (za4 rfl rfl rfl (congrArg Value.bool hb92)) rfl (q_leq rfl rfl) ?_
                        refine o_w (za4 rfl rfl rfl (congrArg Value.bool hb91)) rfl (zao true (congrArg Value.bool hb92) rfl) ?_
                        refine o_w (za4 rfl rfl rfl (congrArg Value.bool hb91)) rfl (q_bneq Try.underlying4 rfl rfl) ?_
                        refine o_q rfl rfl (zao false (congrArg Value.bool hb91) rfl) ?_
                        refine o_end ?_
                        refine za1 ?_
                        refine zau _ rfl (fun hb93 => ?_) (fun hb93 => ?_)
                        · skip
                          replace h := bb_t hb93 h
                          refine c_seq ?_
                          refine za0 ?_
                          refine o_q rfl rfl (q_asg rfl) ?_
                          refine o_end ?_
                          refine za1 ?_
                          refine c_ret ?_
                          refine zab ?_
                          have e_ := Option.some.inj h; replace h := hR87; rw [← e_] at h; clear e_
                          have e0_ := Option.some.inj h; clear h
                          subst e0_
                          exact x_r1 () Try.results3 (zai rfl) rfl (fun w h => za7 [] (by decide) rfl w h)
                        · skip
                          replace h := bb_f hb93 h
                          refine zan ?_
                          refine zat () h trivial (fun w h => za7 [14, 15, 16, 9, 10, 11, 8, 12, 13, 1, 0, 2, 6, 7, 3, 4, 5] (by decide) rfl w h) ?_
                          repeat (first | exact zad _ _ | refine zaf rfl ?_ | refine zae rfl ?_ | refine zah rfl ?_)
                      · replace h := br_f hb92 h
                        refine @o_n _ _ _ _ _ _ _ _ _ _ _ 102 (za3 rfl rfl rfl (congrArg Value.bool hb92) rfl) (Eq.refl (some 102)) ?_
                        refine @o_n _ _ _ _ _ _ _ _ _ _ _ 103 (za3 rfl rfl rfl (congrArg Value.bool hb92) rfl) (Eq.refl (some 103)) ?_
                        refine @o_n _ _ _ _ _ _ _ _ _ _ _ 104 (za3 rfl rfl rfl (congrArg Value.bool hb92) rfl) (Eq.refl (some 104)) ?_
                        refine o_w (za4 rfl rfl rfl (congrArg Value.bool hb91)) rfl (zao false (congrArg Value.bool hb92) rfl) ?_
                        refine o_w (za4 rfl rfl rfl (congrArg Value.bool hb91)) rfl (q_bneq Try.underlying4 rfl rfl) ?_
                        refine o_q rfl rfl (zao false (congrArg Value.bool hb91) rfl) ?_
                        refine o_end ?_
                        refine za1 ?_
                        refine zau _ rfl (fun hb94 => ?_) (fun hb94 => ?_)
                        · skip
                          replace h := bb_t hb94 h
                          refine c_seq ?_
                          refine za0 ?_
                          refine o_q rfl rfl (q_asg rfl) ?_
                          refine o_end ?_
                          refine za1 ?_
                          refine c_ret ?_
                          refine zab ?_
                          have e_ := Option.some.inj h; replace h := hR87; rw [← e_] at h; clear e_
                          have e0_ := Option.some.inj h; clear h
                          subst e0_
                          exact x_r1 () Try.results3 (zai rfl) rfl (fun w h => za7 [] (by decide) rfl w h)
                        · skip
                          replace h := bb_f hb94 h
                          refine zan ?_
                          refine zat () h trivial (fun w h => za7 [14, 15, 16, 9, 10, 11, 8, 12, 13, 1, 0, 2, 6, 7, 3, 4, 5] (by decide) rfl w h) ?_
                          repeat (first | exact zad _ _ | refine zaf rfl ?_ | refine zae rfl ?_ | refine zah rfl ?_)
                  · replace h := bb_f hb90 h
                    refine @o_n _ _ _ _ _ _ _ _ _ _ _ 91 (za3 rfl rfl rfl (congrArg (fun b => Value.bool (!(b))) hb90) rfl) (Eq.refl (some 91)) ?_
                    refine @o_n _ _ _ _ _ _ _ _ _ _ _ 92 (za3 rfl rfl rfl (congrArg (fun b => Value.bool (!(b))) hb90) rfl) (Eq.refl (some 92)) ?_
                    refine @o_n _ _ _ _ _ _ _ _ _ _ _ 93 (za3 rfl rfl rfl (congrArg (fun b => Value.bool (!(b))) hb90) rfl) (Eq.refl (some 93)) ?_
                    refine @o_n _ _ _ _ _ _ _ _ _ _ _ 94 (za3 rfl rfl rfl (congrArg (fun b => Value.bool (!(b))) hb90) rfl) (Eq.refl (some 94)) ?_
                    refine o_q rfl rfl (zao true (congrArg (fun b => Value.bool (!(b))) hb90) rfl) ?_
                    refine o_q rfl rfl (za2 rfl) ?_
                    refine @o_n _ _ _ _ _ _ _ _ _ _ _ 97 (za3 rfl rfl rfl rfl rfl) (Eq.refl (some 97)) ?_
                    refine @o_n _ _ _ _ _ _ _ _ _ _ _ 98 (za3 rfl rfl rfl rfl rfl) (Eq.refl (some 98)) ?_
                    refine @o_n _ _ _ _ _ _ _ _ _ _ _ 99 (za3 rfl rfl rfl rfl rfl) (Eq.refl (some 99)) ?_
                    refine @o_n _ _ _ _ _ _ _ _ _ _ _ 100 (za3 rfl rfl rfl rfl rfl) (Eq.refl (some 100)) ?_
                    refine @o_n _ _ _ _ _ _ _ _ _ _ _ 101 (za3 rfl rfl rfl rfl rfl) (Eq.refl (some 101)) ?_
                    refine @o_n _ _ _ _ _ _ _ _ _ _ _ 102 (wanted_un rfl rfl rfl rfl) (Eq.refl (some 102)) ?_
                    refine @o_n _ _ _ _ _ _ _ _ _ _ _ 103 (wanted_un rfl rfl rfl rfl) (Eq.refl (some 103)) ?_
                    refine @o_n _ _ _ _ _ _ _ _ _ _ _ 104 (wanted_un rfl rfl rfl rfl) (Eq.refl (some 104)) ?_
                    refine @o_n _ _ _ _ _ _ _ _ _ _ _ 105 (za3 rfl rfl rfl rfl rfl) (Eq.refl (some 105)) ?_
                    refine @o_n _ _ _ _ _ _ _ _ _ _ _ 106 (za3 rfl rfl rfl rfl rfl) (Eq.refl (some 106)) ?_
                    refine o_q rfl rfl (zao true rfl rfl) ?_
                    refine o_end ?_
                    refine za1 ?_
                    refine c_true rfl ?_
                    refine c_seq ?_
                    refine za0 ?_
                    refine o_q rfl rfl (q_asg rfl) ?_
                    refine o_end ?_
                    refine za1 ?_
                    refine c_ret ?_
                    refine zab ?_
                    have e_ := Option.some.inj h; replace h := hR87; rw [← e_] at h; clear e_
                    have e0_ := Option.some.inj h; clear h
                    subst e0_
                    exact x_r1 () Try.results3 (zai rfl) rfl (fun w h => za7 [] (by decide) rfl w h)
                · skip
                  refine (fun _ => fun U88 hJ89 => ?_)
                  have e_ := Option.some.inj hJ89; have h := hR87; rw [← e_] at h; clear e_ hJ89 hR87 hl86
                  refine c_seq ?_
                  refine c_seq ?_
                  refine za0 ?_
                  refine o_q rfl rfl (za2 rfl) ?_
                  refine o_q rfl rfl (q_not rfl) ?_
                  refine o_end ?_
                  refine za1 ?_
                  refine zau _ rfl (fun hb95 => ?_) (fun hb95 => ?_)
                  · replace hb95 := nt_t hb95
                    replace h := bb_f hb95 h
                    refine c_seq ?_
                    refine za0 ?_
                    refine o_q rfl rfl (q_asg rfl) ?_
                    refine o_end ?_
                    refine za1 ?_
                    refine c_ret ?_
                    refine zab ?_
                    have e0_ := Option.some.inj h; clear h
                    subst e0_
                    exact x_r1 () Try.results3 (zai rfl) rfl (fun w h => za7 [] (by decide) rfl w h)
                  · replace hb95 := nt_f hb95
                    replace h := bb_t hb95 h
                    refine zan ?_
                    refine za1 ?_
                    refine c_seq ?_
                    refine za0 ?_
                    refine o_q rfl rfl (q_ldB G27 Z27 rfl (fun w h => h.zaa (i := 3) rfl) rfl) ?_
                    refine o_q rfl rfl (q_ldB G27 Z27 rfl (fun w h => h.zaa (i := 6) rfl) rfl) ?_
                    refine bindE4 h (fun i97 l98 l99 b100 hx96 h => ?_) rfl
                    refine o_e rfl (zac 0 Z Try.func22 N22 rfl rfl rfl (fun w P1 hF hB hS hT => impl_ComposePlans.calls k i16 A23 c24 l17.length l17 A25 c26 l18.length l18 i19 A27 c28 l20.length l20 A29 c30 l21.length l21 hB hF (hT 4 _ rfl).row (hT 4 _ rfl).cap (hT 5 _ rfl).row (hT 5 _ rfl).cap (hT 7 _ rfl).row (hT 7 _ rfl).cap (hT 8 _ rfl).row (hT 8 _ rfl).cap _ _ _ _ hx96)) (cur4 (fun A101 c102 A103 c104 => ?_))
                    refine o_q rfl rfl (za2 rfl) ?_
                    refine o_q rfl rfl (q_ext rfl rfl) ?_
                    refine o_q rfl rfl (q_ext rfl rfl) ?_
                    refine o_e rfl (zaw V27 rfl) (fun g105 => ?_)
                    refine o_e rfl (zak (i := 0) rfl rfl rfl Z27 rfl rfl) (fun _ => ?_)
                    refine o_q rfl rfl (q_asg rfl) ?_
                    refine o_end ?_
                    refine za1 ?_
                    refine c_seq ?_
                    refine za0 ?_
                    refine o_q rfl rfl (za2 rfl) ?_
                    refine o_q rfl rfl (za2 rfl) ?_
                    refine byB b100 (fun hb107 => ?_) (fun hb107 => ?_)
                    · replace h := bb_t hb107 h
                      refine o_w (za4 rfl rfl rfl (congrArg Value.bool hb107)) rfl (q_ldB G27 Z27 rfl (fun w h => h.zaa (i := 0) rfl) rfl) ?_
                      refine o_w (za4 rfl rfl rfl (congrArg Value.bool hb107)) rfl (q_ldB G27 Z27 rfl (fun w h => h.zaa (i := 3) rfl) rfl) ?_
                      refine za8 h (fun b109 hx108 h => ?_) rfl
                      refine o_ew (za4 rfl rfl rfl (congrArg Value.bool hb107)) (zac 0 Z Try.func17 N17 rfl rfl rfl (fun w P1 hF hB hS hT => laws_pSamePlan.calls i97 A101 c102 l98.length l98 A103 c104 l99.length l99 i5 A9 c10 l6.length l6 A11 c12 l7.length l7 hB hF (hT 1 _ rfl).row (hT 1 _ rfl).cap (hT 2 _ rfl).row (hT 2 _ rfl).cap (hT 4 _ rfl).row (hT 4 _ rfl).cap (hT 5 _ rfl).row (hT 5 _ rfl).cap _ hx108)) (fun _ => ?_)
                      refine o_q rfl rfl (zao true (congrArg Value.bool hb107) rfl) ?_
                      refine o_q rfl rfl (za2 rfl) ?_
                      refine byB b109 (fun hb110 => ?_) (fun hb110 => ?_)
                      · replace h := bb_t hb110 h
                        refine o_w (za4 rfl rfl rfl (congrArg Value.bool hb110)) rfl (q_f F27_1 rfl) ?_
                        refine o_w (za4 rfl rfl rfl (congrArg Value.bool hb110)) rfl (q_ldb Y24 rfl (fun w h => h.zaa (i := 6) rfl) rfl) ?_
                        refine o_w (za4 rfl rfl rfl (congrArg Value.bool hb110)) rfl (q_len Try.underlying24 rfl) ?_
                        refine o_w (za4 rfl rfl rfl (congrArg Value.bool hb110)) rfl (za2 rfl) ?_
                        refine o_w (za4 rfl rfl rfl (congrArg Value.bool hb110)) rfl (q_eql rfl rfl) ?_
                        refine o_q rfl rfl (zao true (congrArg Value.bool hb110) rfl) ?_
                        refine o_q rfl rfl (za2 rfl) ?_
                        refine byB (decide ((l17.length : Int) = i8)) (fun hb111 => ?_) (fun hb111 => ?_)
                        · replace h := br_t hb111 h
                          refine o_w (za4 rfl rfl rfl (congrArg Value.bool hb111)) rfl (q_f F27_2 rfl) ?_
                          refine o_w (za4 rfl rfl rfl (congrArg Value.bool hb111)) rfl (q_ldb Y25 rfl (fun w h => h.zaa (i := 6) rfl) rfl) ?_
                          refine o_w (za4 rfl rfl rfl (congrArg Value.bool hb111)) rfl (za2 rfl) ?_
                          refine za8 h (fun b113 hx112 h => ?_) rfl
                          refine o_ew (za4 rfl rfl rfl (congrArg Value.bool hb111)) (zac 0 Z Try.func21 N21 rfl rfl rfl (fun w P1 hF hB hS hT => laws_pSameInts.calls A25 c26 l18.length l18 A65 c66 l63.length l63 hB hF (hT 8 _ rfl).row (hT 8 _ rfl).cap (hT 12 _ rfl).row (hT 12 _ rfl).cap _ hx112)) (fun _ => ?_)
                          refine o_q rfl rfl (zao true (congrArg Value.bool hb111) rfl) ?_
                          refine o_q rfl rfl (q_asg rfl) ?_
                          refine o_end ?_
                          refine za1 ?_
                          refine c_ret ?_
                          have e0_ := Option.some.inj h; clear h
                          subst e0_
                          exact x_r1 () Try.results3 (zai rfl) rfl (fun w h => za7 [] (by decide) rfl w h)
                        · replace h := br_f hb111 h
                          refine @o_n _ _ _ _ _ _ _ _ _ _ _ 130 (za3 rfl rfl rfl (congrArg Value.bool hb111) rfl) (Eq.refl (some 130)) ?_
                          refine @o_n _ _ _ _ _ _ _ _ _ _ _ 131 (za3 rfl rfl rfl (congrArg Value.bool hb111) rfl) (Eq.refl (some 131)) ?_
                          refine @o_n _ _ _ _ _ _ _ _ _ _ _ 132 (za3 rfl rfl rfl (congrArg Value.bool hb111) rfl) (Eq.refl (some 132)) ?_
                          refine @o_n _ _ _ _ _ _ _ _ _ _ _ 133 (za3 rfl rfl rfl (congrArg Value.bool hb111) rfl) (Eq.refl (some 133)) ?_
                          refine o_q rfl rfl (zao false (congrArg Value.bool hb111) rfl) ?_
                          refine o_q rfl rfl (q_asg rfl) ?_
                          refine o_end ?_
                          refine za1 ?_
                          refine c_ret ?_
                          have e0_ := Option.some.inj h; clear h
                          subst e0_
                          exact x_r1 () Try.results3 (zai rfl) rfl (fun w h => za7 [] (by decide) rfl w h)
                      · replace h := bb_f hb110 h
                        refine @o_n _ _ _ _ _ _ _ _ _ _ _ 123 (za3 rfl rfl rfl (congrArg Value.bool hb110) rfl) (Eq.refl (some 123)) ?_
                        refine @o_n _ _ _ _ _ _ _ _ _ _ _ 124 (za3 rfl rfl rfl (congrArg Value.bool hb110) rfl) (Eq.refl (some 124)) ?_
                        refine @o_n _ _ _ _ _ _ _ _ _ _ _ 125 (za3 rfl rfl rfl (congrArg Value.bool hb110) rfl) (Eq.refl (some 125)) ?_
                        refine @o_n _ _ _ _ _ _ _ _ _ _ _ 126 (za3 rfl rfl rfl (congrArg Value.bool hb110) rfl) (Eq.refl (some 126)) ?_
                        refine @o_n _ _ _ _ _ _ _ _ _ _ _ 127 (za3 rfl rfl rfl (congrArg Value.bool hb110) rfl) (Eq.refl (some 127)) ?_
                        refine o_q rfl rfl (zao false (congrArg Value.bool hb110) rfl) ?_
                        refine o_q rfl rfl (za2 rfl) ?_
                        refine @o_n _ _ _ _ _ _ _ _ _ _ _ 130 (za3 rfl rfl rfl rfl rfl) (Eq.refl (some 130)) ?_
                        refine @o_n _ _ _ _ _ _ _ _ _ _ _ 131 (za3 rfl rfl rfl rfl rfl) (Eq.refl (some 131)) ?_
                        refine @o_n _ _ _ _ _ _ _ _ _ _ _ 132 (za3 rfl rfl rfl rfl rfl) (Eq.refl (some 132)) ?_
                        refine @o_n _ _ _ _ _ _ _ _ _ _ _ 133 (za3 rfl rfl rfl rfl rfl) (Eq.refl (some 133)) ?_
                        refine o_q rfl rfl (zao false rfl rfl) ?_
                        refine o_q rfl rfl (q_asg rfl) ?_
                        refine o_end ?_
                        refine za1 ?_
                        refine c_ret ?_
                        have e0_ := Option.some.inj h; clear h
                        subst e0_
                        exact x_r1 () Try.results3 (zai rfl) rfl (fun w h => za7 [] (by decide) rfl w h)
                    · replace h := bb_f hb107 h
                      refine @o_n _ _ _ _ _ _ _ _ _ _ _ 118 (za3 rfl rfl rfl (congrArg Value.bool hb107) rfl) (Eq.refl (some 118)) ?_
                      refine @o_n _ _ _ _ _ _ _ _ _ _ _ 119 (za3 rfl rfl rfl (congrArg Value.bool hb107) rfl) (Eq.refl (some 119)) ?_
                      refine @o_n _ _ _ _ _ _ _ _ _ _ _ 120 (za3 rfl rfl rfl (congrArg Value.bool hb107) rfl) (Eq.refl (some 120)) ?_
                      refine o_q rfl rfl (zao false (congrArg Value.bool hb107) rfl) ?_
                      refine o_q rfl rfl (za2 rfl) ?_
                      refine @o_n _ _ _ _ _ _ _ _ _ _ _ 123 (za3 rfl rfl rfl rfl rfl) (Eq.refl (some 123)) ?_
                      refine @o_n _ _ _ _ _ _ _ _ _ _ _ 124 (za3 rfl rfl rfl rfl rfl) (Eq.refl (some 124)) ?_
                      refine @o_n _ _ _ _ _ _ _ _ _ _ _ 125 (za3 rfl rfl rfl rfl rfl) (Eq.refl (some 125)) ?_
                      refine @o_n _ _ _ _ _ _ _ _ _ _ _ 126 (za3 rfl rfl rfl rfl rfl) (Eq.refl (some 126)) ?_
                      refine @o_n _ _ _ _ _ _ _ _ _ _ _ 127 (za3 rfl rfl rfl rfl rfl) (Eq.refl (some 127)) ?_
                      refine o_q rfl rfl (zao false rfl rfl) ?_
                      refine o_q rfl rfl (za2 rfl) ?_
                      refine @o_n _ _ _ _ _ _ _ _ _ _ _ 130 (za3 rfl rfl rfl rfl rfl) (Eq.refl (some 130)) ?_
                      refine @o_n _ _ _ _ _ _ _ _ _ _ _ 131 (za3 rfl rfl rfl rfl rfl) (Eq.refl (some 131)) ?_
                      refine @o_n _ _ _ _ _ _ _ _ _ _ _ 132 (za3 rfl rfl rfl rfl rfl) (Eq.refl (some 132)) ?_
                      refine @o_n _ _ _ _ _ _ _ _ _ _ _ 133 (za3 rfl rfl rfl rfl rfl) (Eq.refl (some 133)) ?_
                      refine o_q rfl rfl (zao false rfl rfl) ?_
                      refine o_q rfl rfl (q_asg rfl) ?_
                      refine o_end ?_
                      refine za1 ?_
                      refine c_ret ?_
                      have e0_ := Option.some.inj h; clear h
                      subst e0_
                      exact x_r1 () Try.results3 (zai rfl) rfl (fun w h => za7 [] (by decide) rfl w h)
      · replace h := bb_f hb58 h
        refine @o_n _ _ _ _ _ _ _ _ _ _ _ 53 (za3 rfl rfl rfl (congrArg (fun b => Value.bool (!(b))) hb58) rfl) (Eq.refl (some 53)) ?_
        refine @o_n _ _ _ _ _ _ _ _ _ _ _ 54 (za3 rfl rfl rfl (congrArg (fun b => Value.bool (!(b))) hb58) rfl) (Eq.refl (some 54)) ?_
        refine @o_n _ _ _ _ _ _ _ _ _ _ _ 55 (za3 rfl rfl rfl (congrArg (fun b => Value.bool (!(b))) hb58) rfl) (Eq.refl (some 55)) ?_
        refine @o_n _ _ _ _ _ _ _ _ _ _ _ 56 (za3 rfl rfl rfl (congrArg (fun b => Value.bool (!(b))) hb58) rfl) (Eq.refl (some 56)) ?_
        refine o_q rfl rfl (zao true (congrArg (fun b => Value.bool (!(b))) hb58) rfl) ?_
        refine o_end ?_
        refine za1 ?_
        refine c_true rfl ?_
        refine c_seq ?_
        refine za0 ?_
        refine o_q rfl rfl (q_asg rfl) ?_
        refine o_end ?_
        refine za1 ?_
        refine c_ret ?_
        refine zab ?_
        have e0_ := Option.some.inj h; clear h
        subst e0_
        exact x_r1 () Try.results3 (zai rfl) rfl (fun w h => za7 [] (by decide) rfl w h)

/-- THE ONE PURE STATEMENT of laws_FnSplitPlans. -/
def laws_FnSplitPlans.Pure : Prop := ∀ (l0 : List Int) (l1 : List Int), l0.length ≤ maxLen → (∀ y ∈ l0, (Lit.int .u8 y).wf = true) → l1.length ≤ maxLen → (∀ y ∈ l1, (Lit.int .u8 y).wf = true) → ∃ k, laws_FnSplitPlans.f k l0 l1 = some true
theorem laws_FnSplitPlans.walk (P : laws_FnSplitPlans.Pure) (A0 : Option Addr) (c0 : Nat) (l0 : List Int) (A1 : Option Addr) (c1 : Nat) (l1 : List Int) (w : World) (hr0 : Kd.C (Kd.int .u8) w A0 l0.length l0) (hc0 : l0.length ≤ c0) (hr1 : Kd.C (Kd.int .u8) w A1 l1.length l1) (hc1 : l1.length ≤ c1) (q0 : l0.length ≤ maxLen) (q1 : (∀ y ∈ l0, (Lit.int .u8 y).wf = true)) (q2 : l1.length ≤ maxLen) (q3 : (∀ y ∈ l1, (Lit.int .u8 y).wf = true)) :
    Calls Try.prog 3 #[.slice A0 l0.length c0, .slice A1 l1.length c1] w fun e w' => e = .returned (.bool true) ∧ Below w.heap.size w w' := by
  obtain ⟨k, h⟩ := P l0 l1 q0 q1 q2 q3
  refine (laws_FnSplitPlans.calls k A0 c0 l0.length l0 A1 c1 l1.length l1 (Below.refl _ _) (Fr.start w) (fun W hW => Kd.C_below hr0 hW.below) hc0 (fun W hW => Kd.C_below hr1 hW.below) hc1 true h).mono ?_
  rintro e w' ⟨s, rfl, hF⟩
  exact ⟨rfl, hF.bel⟩
end Go.Proofs.Ytoegbcbdiggbjaa.SP
