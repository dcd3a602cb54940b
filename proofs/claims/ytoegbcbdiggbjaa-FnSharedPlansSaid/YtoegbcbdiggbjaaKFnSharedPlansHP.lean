import Derived.Test.YtoegbcbdiggbjaaKFnSharedPlansHPp3
namespace Go.Proofs.Ytoegbcbdiggbjaa.HP
open Go.RowKit Go.Proofs.Ytoegbcbdiggbjaa.Frame Go.Proofs.YtoegbcbdiggbjaaW.PrintLast Go.Proofs.Ytoegbcbdiggbjaa.Hand
open Go.Proofs.YtoegbcbdiggbjaaW.PrintWords hiding mn mx
set_option linter.unusedVariables false
/-! ### loop.example/g01098/impl.samePowers: function 109 -/
def impl_samePowers.f (a0_0 : Int) (l0_1 : List SStep) (l0_2 : List Int) (a1_0 : Int) (l1_1 : List SStep) (l1_2 : List Int) : Option Bool := if a0_0 = a1_0 then ((impl_Plan_outputExponents.f a0_0 l0_1 l0_2).bind fun l3 => (impl_Plan_outputExponents.f a1_0 l1_1 l1_2).bind fun l8 => (slices_EqualFunc_int_int_int_int.f l3 l8).bind fun b13 => some b13) else (some false)
set_option maxHeartbeats 600000 in
set_option maxRecDepth 100000 in
theorem impl_samePowers.calls {w0 ws : World} {P0 : Nat → Prop} (g0 : Nat) (a0_0 : Int) (A0_1 : Option Addr) (c0_1 : Nat) (n0_1 : Nat) (l0_1 : List SStep) (A0_2 : Option Addr) (c0_2 : Nat) (n0_2 : Nat) (l0_2 : List Int) (g1 : Nat) (a1_0 : Int) (A1_1 : Option Addr) (c1_1 : Nat) (n1_1 : Nat) (l1_1 : List SStep) (A1_2 : Option Addr) (c1_2 : Nat) (n1_2 : Nat) (l1_2 : List Int) (Z : Below w0.heap.size w0 ws) (hF : Fr w0 ws P0 [] ws) (R0_1 : Stable ws P0 (fun w => Kd.C kStep w A0_1 n0_1 l0_1)) (hc0_1 : n0_1 ≤ c0_1) (R0_2 : Stable ws P0 (fun w => Kd.C (Kd.int .i64) w A0_2 n0_2 l0_2)) (hc0_2 : n0_2 ≤ c0_2) (B0 : Stable ws P0 (fun w => w.heap[g0]? = some (.cells #[.int .i64 a0_0, .slice A0_1 n0_1 c0_1, .slice A0_2 n0_2 c0_2] 27 (0, 0)))) (R1_1 : Stable ws P0 (fun w => Kd.C kStep w A1_1 n1_1 l1_1)) (hc1_1 : n1_1 ≤ c1_1) (R1_2 : Stable ws P0 (fun w => Kd.C (Kd.int .i64) w A1_2 n1_2 l1_2)) (hc1_2 : n1_2 ≤ c1_2) (B1 : Stable ws P0 (fun w => w.heap[g1]? = some (.cells #[.int .i64 a1_0, .slice A1_1 n1_1 c1_1, .slice A1_2 n1_2 c1_2] 27 (0, 0)))) (r_1 : Bool) (h : impl_samePowers.f a0_0 l0_1 l0_2 a1_0 l1_1 l1_2 = some r_1) :
    Calls Try.prog 109 #[.pointer (some ⟨g0, 0, none⟩), .pointer (some ⟨g1, 0, none⟩)] ws (Post1 w0 ws P0 (fun (_ : Unit) => .bool r_1) (fun (_ : Unit) => [])) := by
  unfold impl_samePowers.f at h
  obtain rfl := (R0_1 ws (KeptB.refl _ _)).1
  obtain rfl := (R0_2 ws (KeptB.refl _ _)).1
  obtain rfl := (R1_1 ws (KeptB.refl _ _)).1
  obtain rfl := (R1_2 ws (KeptB.refl _ _)).1
  refine enter Try.func109 rfl Try.ntmps109 rfl hF ?_
  refine c_seq ?_
  refine za0 ?_
  refine o_q rfl rfl (q_asg rfl) ?_
  refine o_end ?_
  refine za1 ?_
  refine c_seq ?_
  refine a_start (ds := []) MO rfl ?_
  refine za5 0 rfl rfl rfl (by kernel_rfl) (fun _ _ _ h => h) (za2 rfl) ?_
  refine za5 1 rfl rfl rfl (by kernel_rfl) (fun _ _ _ h => h) (q_nil rfl) ?_
  refine za5 2 rfl rfl rfl (by kernel_rfl) (fun _ _ _ h => h) (q_f F27_0 rfl) ?_
  refine zat 3 rfl rfl rfl (by kernel_rfl) (fun _ _ _ h => h) (fun w h => h) (q_ldb Y3 rfl (fun w h => B0.now Z h) rfl) ?_
  refine za5 4 rfl rfl rfl (by kernel_rfl) (fun _ _ _ h => h) (za2 rfl) ?_
  refine za5 5 rfl rfl rfl (by kernel_rfl) (fun _ _ _ h => h) (q_nil rfl) ?_
  refine za5 6 rfl rfl rfl (by kernel_rfl) (fun _ _ _ h => h) (q_f F27_0 rfl) ?_
  refine zat 7 rfl rfl rfl (by kernel_rfl) (fun _ _ _ h => h) (fun w h => h) (q_ldb Y3 rfl (fun w h => B1.now Z h) rfl) ?_
  refine za5 8 rfl rfl rfl (by kernel_rfl) (fun _ _ _ h => h) (q_eql rfl rfl) ?_
  refine za5 9 rfl rfl rfl (by kernel_rfl) (fun _ _ _ h => h) (za2 rfl) ?_
  refine byB (decide (a0_0 = a1_0)) (fun hb1 => ?_) (fun hb1 => ?_)
  · replace h := br_t hb1 h
    refine a_purew 10 rfl rfl (za4 rfl rfl rfl (congrArg Value.bool hb1)) (by kernel_rfl) (fun _ _ _ h => h) (za2 rfl) ?_
    refine a_purew 12 rfl rfl (za4 rfl rfl rfl (congrArg Value.bool hb1)) (by kernel_rfl) (fun _ _ _ h => h) (za2 rfl) ?_
    refine zaa h (fun l3 hx2 h => ?_) rfl
    refine a_onew 11 rfl (za4 rfl rfl rfl (congrArg Value.bool hb1)) (by kernel_rfl) rfl (zac 0 Z Try.func135 N135 rfl rfl rfl (fun w P1 hF hB hS hT => impl_Plan_outputExponents.calls g0 a0_0 A0_1 c0_1 l0_1.length l0_1 A0_2 c0_2 l0_2.length l0_2 hB hF (hS _ R0_1) hc0_1 (hS _ R0_2) hc0_2 (hS _ B0) _ hx2)) (fun s w h => za7 [] (by decide) w h rfl) (cur3 (fun A4 c5 H6 => ?_))
    refine zaa h (fun l8 hx7 h => ?_) rfl
    refine a_onew 13 rfl (za4 rfl rfl rfl (congrArg Value.bool hb1)) (by kernel_rfl) rfl (zac 0 Z Try.func135 N135 rfl rfl rfl (fun w P1 hF hB hS hT => impl_Plan_outputExponents.calls g1 a1_0 A1_1 c1_1 l1_1.length l1_1 A1_2 c1_2 l1_2.length l1_2 hB hF (hS _ R1_1) hc1_1 (hS _ R1_2) hc1_2 (hS _ B1) _ hx7)) (fun s w h => za7 [] (by decide) w h rfl) (cur3 (fun A9 c10 H11 => ?_))
    refine zaa h (fun b13 hx12 h => ?_) rfl
    refine a_onew 14 rfl (za4 rfl rfl rfl (congrArg Value.bool hb1)) (by kernel_rfl) rfl (zac 0 Z Try.func187 N187 rfl rfl rfl (fun w P1 hF hB hS hT => slices_EqualFunc_int_int_int_int.calls A4 c5 l3.length H6 l3 A9 c10 l8.length H11 l8 hB hF (hT 1 _ rfl).row (hT 1 _ rfl).cap (hT 0 _ rfl).row (hT 0 _ rfl).cap _ hx12)) (fun s w h => za7 [] (by decide) w h rfl) (fun _ => ?_)
    refine za5 15 rfl rfl rfl (by kernel_rfl) (fun _ _ _ h => h) (zar true (congrArg Value.bool hb1) rfl) ?_
    refine za5 16 rfl rfl rfl (by kernel_rfl) (fun _ _ _ h => h) (q_asg rfl) ?_
    refine zav (by kernel_rfl) ?_
    refine za1 ?_
    refine c_ret ?_
    have e0_ := Option.some.inj h; clear h
    subst e0_
    exact x_r1 () Try.results109 (zaf rfl) rfl (fun w h => za8 [] (by decide) rfl w h)
  · replace h := br_f hb1 h
    refine a_no 10 rfl rfl (za3 rfl rfl rfl (congrArg Value.bool hb1) rfl) (by kernel_rfl) (fun _ _ _ h => h) ?_
    refine a_no 11 rfl rfl (za3 rfl rfl rfl (congrArg Value.bool hb1) rfl) (by kernel_rfl) (fun _ _ _ h => h) ?_
    refine a_no 12 rfl rfl (za3 rfl rfl rfl (congrArg Value.bool hb1) rfl) (by kernel_rfl) (fun _ _ _ h => h) ?_
    refine a_no 13 rfl rfl (za3 rfl rfl rfl (congrArg Value.bool hb1) rfl) (by kernel_rfl) (fun _ _ _ h => h) ?_
    refine a_no 14 rfl rfl (za3 rfl rfl rfl (congrArg Value.bool hb1) rfl) (by kernel_rfl) (fun _ _ _ h => h) ?_
    refine za5 15 rfl rfl rfl (by kernel_rfl) (fun _ _ _ h => h) (zar false (congrArg Value.bool hb1) rfl) ?_
    refine za5 16 rfl rfl rfl (by kernel_rfl) (fun _ _ _ h => h) (q_asg rfl) ?_
    refine zav (by kernel_rfl) ?_
    refine za1 ?_
    refine c_ret ?_
    have e0_ := Option.some.inj h; clear h
    subst e0_
    exact x_r1 () Try.results109 (zaf rfl) rfl (fun w h => za8 [] (by decide) rfl w h)

/-! ### loop.example/g01098/impl.SamePowers: function 27 -/
def impl_SamePowers.f (k : Nat) (a0_0 : Int) (l0_1 : List SStep) (l0_2 : List Int) (a1_0 : Int) (l1_1 : List SStep) (l1_2 : List Int) : Option (Bool × Bool) := (impl_IsPlan.f k a0_0 l0_1 l0_2).bind fun b6 => if b6 = true then ((impl_IsPlan.f k a1_0 l1_1 l1_2).bind fun b9 => if b9 = true then ((impl_samePowers.f a0_0 l0_1 l0_2 a1_0 l1_1 l1_2).bind fun b12 => some (b12, true)) else (some (false, false))) else (some (false, false))
set_option maxHeartbeats 600000 in
set_option maxRecDepth 100000 in
theorem impl_SamePowers.calls (k : Nat) {w0 ws : World} {P0 : Nat → Prop} (a0_0 : Int) (A0_1 : Option Addr) (c0_1 : Nat) (n0_1 : Nat) (l0_1 : List SStep) (A0_2 : Option Addr) (c0_2 : Nat) (n0_2 : Nat) (l0_2 : List Int) (a1_0 : Int) (A1_1 : Option Addr) (c1_1 : Nat) (n1_1 : Nat) (l1_1 : List SStep) (A1_2 : Option Addr) (c1_2 : Nat) (n1_2 : Nat) (l1_2 : List Int) (Z : Below w0.heap.size w0 ws) (hF : Fr w0 ws P0 [] ws) (R0_1 : Stable ws P0 (fun w => Kd.C kStep w A0_1 n0_1 l0_1)) (hc0_1 : n0_1 ≤ c0_1) (R0_2 : Stable ws P0 (fun w => Kd.C (Kd.int .i64) w A0_2 n0_2 l0_2)) (hc0_2 : n0_2 ≤ c0_2) (R1_1 : Stable ws P0 (fun w => Kd.C kStep w A1_1 n1_1 l1_1)) (hc1_1 : n1_1 ≤ c1_1) (R1_2 : Stable ws P0 (fun w => Kd.C (Kd.int .i64) w A1_2 n1_2 l1_2)) (hc1_2 : n1_2 ≤ c1_2) (r_1 : Bool) (r_2 : Bool) (h : impl_SamePowers.f k a0_0 l0_1 l0_2 a1_0 l1_1 l1_2 = some (r_1, r_2)) :
    Calls Try.prog 27 #[.agg #[.int .i64 a0_0, .slice A0_1 n0_1 c0_1, .slice A0_2 n0_2 c0_2], .agg #[.int .i64 a1_0, .slice A1_1 n1_1 c1_1, .slice A1_2 n1_2 c1_2]] ws (Post1 w0 ws P0 (fun (_ : Unit) => .tuple #[.bool r_1, .bool r_2]) (fun (_ : Unit) => [])) := by
  unfold impl_SamePowers.f at h
  obtain rfl := (R0_1 ws (KeptB.refl _ _)).1
  obtain rfl := (R0_2 ws (KeptB.refl _ _)).1
  obtain rfl := (R1_1 ws (KeptB.refl _ _)).1
  obtain rfl := (R1_2 ws (KeptB.refl _ _)).1
  refine enter Try.func27 rfl Try.ntmps27 rfl hF ?_
  refine c_seq ?_
  refine za0 ?_
  refine o_e rfl (e_box rfl) (fun g1 => ?_)
  refine o_e rfl (e_box rfl) (fun g3 => ?_)
  refine o_q rfl rfl (q_asg rfl) ?_
  refine o_q rfl rfl (q_asg rfl) ?_
  refine o_end ?_
  refine za1 ?_
  refine c_seq ?_
  refine c_seq ?_
  refine za0 ?_
  refine o_q rfl rfl (q_ldB G27 Z27 rfl (fun w h => h.zab (i := 1) rfl) rfl) ?_
  refine zaa h (fun b6 hx5 h => ?_) rfl
  refine o_e rfl (zac 0 Z Try.func86 N86 rfl rfl rfl (fun w P1 hF hB hS hT => impl_IsPlan.calls k a0_0 A0_1 c0_1 l0_1.length l0_1 A0_2 c0_2 l0_2.length l0_2 hB hF (hS _ R0_1) hc0_1 (hS _ R0_2) hc0_2 _ hx5)) (fun _ => ?_)
  refine o_q rfl rfl (q_not rfl) ?_
  refine o_q rfl rfl (za2 rfl) ?_
  refine byB b6 (fun hb7 => ?_) (fun hb7 => ?_)
  · replace h := bb_t hb7 h
    refine o_w (za4 rfl rfl rfl (congrArg (fun b => Value.bool (!(b))) hb7)) rfl (q_ldB G27 Z27 rfl (fun w h => h.zab (i := 0) rfl) rfl) ?_
    refine zaa h (fun b9 hx8 h => ?_) rfl
    refine o_ew (za4 rfl rfl rfl (congrArg (fun b => Value.bool (!(b))) hb7)) (zac 0 Z Try.func86 N86 rfl rfl rfl (fun w P1 hF hB hS hT => impl_IsPlan.calls k a1_0 A1_1 c1_1 l1_1.length l1_1 A1_2 c1_2 l1_2.length l1_2 hB hF (hS _ R1_1) hc1_1 (hS _ R1_2) hc1_2 _ hx8)) (fun _ => ?_)
    refine o_w (za4 rfl rfl rfl (congrArg (fun b => Value.bool (!(b))) hb7)) rfl (q_not rfl) ?_
    refine o_q rfl rfl (zar false (congrArg (fun b => Value.bool (!(b))) hb7) rfl) ?_
    refine o_end ?_
    refine za1 ?_
    refine zau _ rfl (fun hb10 => ?_) (fun hb10 => ?_)
    · replace hb10 := nt_t hb10
      replace h := bb_f hb10 h
      refine c_seq ?_
      refine za0 ?_
      refine o_q rfl rfl (q_asg rfl) ?_
      refine o_q rfl rfl (q_asg rfl) ?_
      refine o_end ?_
      refine za1 ?_
      refine c_ret ?_
      refine za9 ?_
      have e0_ := Option.some.inj h; clear h
      have d0_ := (Prod.mk.inj e0_).1; have e1_ := (Prod.mk.inj e0_).2; clear e0_; subst d0_
      subst e1_
      exact x_r2 () Try.results27 (zaf rfl) (zaf rfl) rfl (fun w h => za8 [] (by decide) rfl w h)
    · replace hb10 := nt_f hb10
      replace h := bb_t hb10 h
      refine zan ?_
      refine za1 ?_
      refine c_seq ?_
      refine za0 ?_
      refine zaa h (fun b12 hx11 h => ?_) rfl
      refine o_e rfl (zac 0 Z Try.func109 N109 rfl rfl rfl (fun w P1 hF hB hS hT => impl_samePowers.calls g1 a0_0 A0_1 c0_1 l0_1.length l0_1 A0_2 c0_2 l0_2.length l0_2 g3 a1_0 A1_1 c1_1 l1_1.length l1_1 A1_2 c1_2 l1_2.length l1_2 hB hF (hS _ R0_1) hc0_1 (hS _ R0_2) hc0_2 (hT 1 _ rfl).box (hS _ R1_1) hc1_1 (hS _ R1_2) hc1_2 (hT 0 _ rfl).box _ hx11)) (fun _ => ?_)
      refine o_q rfl rfl (q_asg rfl) ?_
      refine o_q rfl rfl (q_asg rfl) ?_
      refine o_end ?_
      refine za1 ?_
      refine c_ret ?_
      have e0_ := Option.some.inj h; clear h
      have d0_ := (Prod.mk.inj e0_).1; have e1_ := (Prod.mk.inj e0_).2; clear e0_; subst d0_
      subst e1_
      exact x_r2 () Try.results27 (zaf rfl) (zaf rfl) rfl (fun w h => za8 [] (by decide) rfl w h)
  · replace h := bb_f hb7 h
    refine @o_n _ _ _ _ _ _ _ _ _ _ _ 10 (za3 rfl rfl rfl (congrArg (fun b => Value.bool (!(b))) hb7) rfl) (Eq.refl (some 10)) ?_
    refine @o_n _ _ _ _ _ _ _ _ _ _ _ 11 (za3 rfl rfl rfl (congrArg (fun b => Value.bool (!(b))) hb7) rfl) (Eq.refl (some 11)) ?_
    refine @o_n _ _ _ _ _ _ _ _ _ _ _ 12 (za3 rfl rfl rfl (congrArg (fun b => Value.bool (!(b))) hb7) rfl) (Eq.refl (some 12)) ?_
    refine o_q rfl rfl (zar true (congrArg (fun b => Value.bool (!(b))) hb7) rfl) ?_
    refine o_end ?_
    refine za1 ?_
    refine c_true rfl ?_
    refine c_seq ?_
    refine za0 ?_
    refine o_q rfl rfl (q_asg rfl) ?_
    refine o_q rfl rfl (q_asg rfl) ?_
    refine o_end ?_
    refine za1 ?_
    refine c_ret ?_
    refine za9 ?_
    have e0_ := Option.some.inj h; clear h
    have d0_ := (Prod.mk.inj e0_).1; have e1_ := (Prod.mk.inj e0_).2; clear e0_; subst d0_
    subst e1_
    exact x_r2 () Try.results27 (zaf rfl) (zaf rfl) rfl (fun w h => za8 [] (by decide) rfl w h)

/-! ### loop.example/g01098/impl.UsedSteps: function 31 -/
def impl_UsedSteps.l0 : (List Bool) → (List Int) → Int → Option (List Int)
  | [], l16, i19 => some l16
  | y20 :: ys21, l16, i19 => if y20 = true then ((ap l16 ([i19] : List Int)).bind fun l35 => impl_UsedSteps.l0 ys21 l35 (i19 + 1)) else (impl_UsedSteps.l0 ys21 l16 (i19 + 1))
def impl_UsedSteps.f (k : Nat) (a0_0 : Int) (l0_1 : List SStep) (l0_2 : List Int) : Option ((List Int) × Bool) := (impl_IsPlan.f k a0_0 l0_1 l0_2).bind fun b4 => if b4 = true then ((impl_Plan_used.f a0_0 l0_1 l0_2).bind fun l10 => (ct l10 a0_0 (l10.length : Int)).bind fun l13 => (impl_UsedSteps.l0 l13 ([] : List Int) 0).bind fun l16 => some (l16, true)) else (some (([] : List Int), false))
set_option maxHeartbeats 600000 in
set_option maxRecDepth 100000 in
theorem impl_UsedSteps.calls (k : Nat) {w0 ws : World} {P0 : Nat → Prop} (a0_0 : Int) (A0_1 : Option Addr) (c0_1 : Nat) (n0_1 : Nat) (l0_1 : List SStep) (A0_2 : Option Addr) (c0_2 : Nat) (n0_2 : Nat) (l0_2 : List Int) (Z : Below w0.heap.size w0 ws) (hF : Fr w0 ws P0 [] ws) (R0_1 : Stable ws P0 (fun w => Kd.C kStep w A0_1 n0_1 l0_1)) (hc0_1 : n0_1 ≤ c0_1) (R0_2 : Stable ws P0 (fun w => Kd.C (Kd.int .i64) w A0_2 n0_2 l0_2)) (hc0_2 : n0_2 ≤ c0_2) (r_1 : List Int) (r_4 : Bool) (h : impl_UsedSteps.f k a0_0 l0_1 l0_2 = some (r_1, r_4)) :
    Calls Try.prog 31 #[.agg #[.int .i64 a0_0, .slice A0_1 n0_1 c0_1, .slice A0_2 n0_2 c0_2]] ws (Post1 w0 ws P0 (fun ((q_2, q_3) : (Option Addr) × Nat) => .tuple #[.slice q_2 r_1.length q_3, .bool r_4]) (fun ((q_2, q_3) : (Option Addr) × Nat) => [row (Kd.int .i64) 3 (.slice q_2 r_1.length q_3) r_1])) := by
  unfold impl_UsedSteps.f at h
  obtain rfl := (R0_1 ws (KeptB.refl _ _)).1
  obtain rfl := (R0_2 ws (KeptB.refl _ _)).1
  refine enter Try.func31 rfl Try.ntmps31 rfl hF ?_
  refine c_seq ?_
  refine za0 ?_
  refine o_e rfl (e_box rfl) (fun g1 => ?_)
  refine o_q rfl rfl (q_asg rfl) ?_
  refine o_q rfl rfl (q_asg rfl) ?_
  refine o_end ?_
  refine za1 ?_
  refine c_seq ?_
  refine c_seq ?_
  refine za0 ?_
  refine o_q rfl rfl (q_ldB G27 Z27 rfl (fun w h => h.zab (i := 0) rfl) rfl) ?_
  refine zaa h (fun b4 hx3 h => ?_) rfl
  refine o_e rfl (zac 0 Z Try.func86 N86 rfl rfl rfl (fun w P1 hF hB hS hT => impl_IsPlan.calls k a0_0 A0_1 c0_1 l0_1.length l0_1 A0_2 c0_2 l0_2.length l0_2 hB hF (hS _ R0_1) hc0_1 (hS _ R0_2) hc0_2 _ hx3)) (fun _ => ?_)
  refine o_q rfl rfl (q_not rfl) ?_
  refine o_end ?_
  refine za1 ?_
  refine zau _ rfl (fun hb5 => ?_) (fun hb5 => ?_)
  · replace hb5 := nt_t hb5
    replace h := bb_f hb5 h
    refine c_seq ?_
    refine za0 ?_
    refine o_q rfl rfl (q_asg rfl) ?_
    refine o_q rfl rfl (q_asg rfl) ?_
    refine o_end ?_
    refine za1 ?_
    refine c_ret ?_
    refine za9 ?_
    refine x_nil (Kd.int .i64) 3 ?_
    have e0_ := Option.some.inj h; clear h
    have d0_ := (Prod.mk.inj e0_).1; have e1_ := (Prod.mk.inj e0_).2; clear e0_; subst d0_
    subst e1_
    exact x_r2 (none, 0) Try.results31 (zaf rfl) (zaf rfl) rfl (fun w h => za8 [0] (by decide) rfl w h)
  · replace hb5 := nt_f hb5
    replace h := bb_t hb5 h
    refine zan ?_
    refine za1 ?_
    refine c_seq ?_
    refine za0 ?_
    refine o_e rfl (e_lit0 (Kd.int .i64) Try.underlying25 I3) (cur2 (fun A6 c7 => ?_))
    refine o_q rfl rfl (q_asg rfl) ?_
    refine o_end ?_
    refine za1 ?_
    refine c_seq ?_
    refine c_seq ?_
    refine a_start (ds := []) MO rfl ?_
    refine za5 1 rfl rfl rfl (by kernel_rfl) (fun _ _ _ h => h) (q_f F27_0 rfl) ?_
    refine zat 2 rfl rfl rfl (by kernel_rfl) (fun _ _ _ h => h) (fun w h => h) (q_ldb Y3 rfl (fun w h => h.zab (i := 1) rfl) rfl) ?_
    refine za5 5 rfl rfl rfl (by kernel_rfl) (fun _ _ _ h => h) (za2 rfl) ?_
    refine zaa h (fun l10 hx9 h => ?_) rfl
    refine a_one 0 rfl rfl (by kernel_rfl) rfl (zac 0 Z Try.func113 N113 rfl rfl rfl (fun w P1 hF hB hS hT => impl_Plan_used.calls g1 a0_0 A0_1 c0_1 l0_1.length l0_1 A0_2 c0_2 l0_2.length l0_2 hB hF (hS _ R0_1) hc0_1 (hS _ R0_2) hc0_2 (hT 1 _ rfl).box _ hx9)) (fun s w h => za7 [some 1, some 2] (by decide) w h rfl) (cur2 (fun A11 c12 => ?_))
    refine zaa h (fun l13 hz14 h => ?_) rfl
    refine a_fact (p := l10.length = l10.length ∧ l10.length ≤ c12) (fun w h => h.row_nc (i := 0) rfl) (fun hk15 => ?_)
    refine za5 3 rfl rfl rfl (by kernel_rfl) (fun _ _ _ h => h) (q_ctv Try.underlying108 Z4 rfl ⟨_, rfl⟩ rfl hk15.1 hk15.2 hz14) ?_
    refine za5 4 rfl rfl rfl (by kernel_rfl) (fun _ _ _ h => h) (q_len Try.underlying108 rfl) ?_
    refine zav (by kernel_rfl) ?_
    refine za1 ?_
    refine zaj ?_
    refine zaa h (fun o27 hl26 hR25 => ?_) rfl
    clear h
    refine c_fact (p := l13.length ≤ 9223372036854775807) (fun w h => (C_cut (dk := Kd.bool) rfl hz14 hk15.2 (h.zas (i := 0) rfl)).2.1) (fun hm24 => ?_)
    refine zaw (σ := (List Bool) × (List Int) × Int × (Option Addr) × Nat) (fun k22 ((ys21, l16, i19, A17, c18) : (List Bool) × (List Int) × Int × (Option Addr) × Nat) => Rg l13 i19 ys21 ∧ ys21.length = k22 ∧ impl_UsedSteps.l0 ys21 l16 i19 = some o27) [4, 5, 6, 16, 17, 18, 19, 20, 21, 22, 23, 24, 25, 26] (fun ((ys21, l16, i19, A17, c18) : (List Bool) × (List Int) × Int × (Option Addr) × Nat) => [(4, .slice A17 l16.length c18), (16, .int .i64 i19)]) (fun ((ys21, l16, i19, A17, c18) : (List Bool) × (List Int) × Int × (Option Addr) × Nat) => [row Kd.bool 4 (.slice A11 l10.length c12) l10, row (Kd.int .i64) 3 (.slice A17 l16.length c18) l16, box g1 27 #[.int .i64 a0_0, .slice A0_1 l0_1.length c0_1, .slice A0_2 l0_2.length c0_2]]) l13.length (l13, ([] : List Int), 0, A6, c7) ⟨Rg.start _, rfl, hl26⟩ ⟨rfl, rfl, trivial⟩ (fun w h => h) ?_
    refine fun k22 => cur5 (listC (fun l16 i19 A17 c18 U28 hJ_ => ?_) (fun y20 ys21 l16 i19 A17 c18 U28 hJ_ => ?_))
    · skip
      clear hl26
      have hr23 := hJ_.1; have hk29 := hJ_.2.1; have h := hJ_.2.2; clear hJ_
      replace h : impl_UsedSteps.l0 [] l16 i19 = some o27 := h
      rw [impl_UsedSteps.l0] at h
      refine c_seq ?_
      refine za0 ?_
      refine o_q rfl rfl (q_lss rfl rfl) ?_
      refine o_end ?_
      refine za1 ?_
      refine c_seq ?_
      refine c_false (congrArg Value.bool hr23.ge) ?_
      refine c_exit ?_
      refine za6 ?_
      refine za6 ?_
      have e_ := Option.some.inj h; replace h := hR25; rw [← e_] at h; clear e_
      refine x_hit ?_
      refine za1 ?_
      refine c_seq ?_
      refine za0 ?_
      refine o_q rfl rfl (za2 rfl) ?_
      refine o_q rfl rfl (q_asg rfl) ?_
      refine o_q rfl rfl (q_asg rfl) ?_
      refine o_end ?_
      refine za1 ?_
      refine c_ret ?_
      have e0_ := Option.some.inj h; clear h
      have d0_ := (Prod.mk.inj e0_).1; have e1_ := (Prod.mk.inj e0_).2; clear e0_; subst d0_
      subst e1_
      exact x_r2 (A17, c18) Try.results31 (zaf rfl) (zaf rfl) rfl (fun w h => za8 [1] (by decide) rfl w h)
    · skip
      clear hl26
      have hr23 := hJ_.1; have hk29 := hJ_.2.1; have h := hJ_.2.2; clear hJ_
      replace h : impl_UsedSteps.l0 (y20 :: ys21) l16 i19 = some o27 := h
      rw [impl_UsedSteps.l0] at h
      refine c_seq ?_
      refine za0 ?_
      refine o_q rfl rfl (q_lss rfl rfl) ?_
      refine o_end ?_
      refine za1 ?_
      refine c_seq ?_
      refine c_true (congrArg Value.bool hr23.lt) ?_
      refine zan ?_
      refine za1 ?_
      refine c_seq ?_
      refine zaj ?_
      refine c_seq ?_
      refine za0 ?_
      refine o_q rfl rfl (za2 rfl) ?_
      refine zaz (p := Sh (cutA A11 c12 a0_0.toNat 1) l13.length l13.length) (fun w h => f_sh (dk := Kd.bool) h (fun w h => C_cut (dk := Kd.bool) rfl hz14 hk15.2 (h.zas (i := 0) rfl))) (fun hq30 => ?_)
      refine o_q rfl rfl (q_ix Try.underlying108 Z4 rfl rfl hq30 hr23.get) ?_
      refine o_q rfl rfl (q_lde (off := 0) Y4 rfl rfl (fun w h => C_cut (dk := Kd.bool) rfl hz14 hk15.2 (h.zas (i := 0) rfl)) hr23.get (fun _ _ h => h) rfl) ?_
      refine o_q rfl rfl (q_asg rfl) ?_
      refine o_q rfl rfl (q_asg rfl) ?_
      refine o_end ?_
      refine za1 ?_
      refine c_seq ?_
      refine za0 ?_
      refine o_q rfl rfl (za2 rfl) ?_
      refine o_end ?_
      refine za1 ?_
      refine zau _ rfl (fun hb31 => ?_) (fun hb31 => ?_)
      · skip
        replace h := bb_t hb31 h
        refine za0 ?_
        refine o_q rfl rfl (za2 rfl) ?_
        refine o_q rfl rfl (za2 rfl) ?_
        refine o_e rfl (e_lit (vs := [(0, .int .i64 i19)]) (cs := [.int .i64 i19]) (Kd.int .i64) ([i19] : List Int) Try.underlying25 I3 (by decide) rfl (by decide) rfl rfl (fun _ _ => Kd.zao _)) (cur2 (fun A32 c33 => ?_))
        refine zaa h (fun l35 ha36 h => ?_) rfl
        refine o_e rfl (e_app (i := 2) (j := 0) Try.underlying25 I3 rfl (by decide) (by decide) rfl rfl rfl rfl rfl ha36) (cur2 (fun A37 c38 => ?_))
        refine o_q rfl rfl (q_asg rfl) ?_
        refine o_end ?_
        refine zal ?_
        refine za1 ?_
        refine za0 ?_
        refine o_q rfl rfl (q_up rfl rfl (hr23.up hm24)) ?_
        refine o_q rfl rfl (za2 rfl) ?_
        refine o_end ?_
        refine zak ys21.length (ys21, l35, i19 + 1, A37, c38) (by rw [← hk29]; exact Nat.lt_succ_self _) ⟨hr23.step, rfl, h⟩ ⟨rfl, rfl, trivial⟩ (fun w h => za8 [1, 2, 3] (by decide) rfl w h) ?_
        repeat (first | exact zad _ _ | refine zah rfl ?_ | refine zae rfl ?_ | refine zai rfl ?_)
      · skip
        replace h := bb_f hb31 h
        refine zan ?_
        refine zal ?_
        refine za1 ?_
        refine za0 ?_
        refine o_q rfl rfl (q_up rfl rfl (hr23.up hm24)) ?_
        refine o_q rfl rfl (za2 rfl) ?_
        refine o_end ?_
        refine zak ys21.length (ys21, l16, i19 + 1, A17, c18) (by rw [← hk29]; exact Nat.lt_succ_self _) ⟨hr23.step, rfl, h⟩ ⟨rfl, rfl, trivial⟩ (fun w h => za8 [0, 1, 2] (by decide) rfl w h) ?_
        repeat (first | exact zad _ _ | refine zah rfl ?_ | refine zae rfl ?_ | refine zai rfl ?_)

/-! ### loop.example/g01098/impl.IsTrim: function 32 -/
def impl_IsTrim.f (k : Nat) (a0_0 : Int) (l0_1 : List SStep) (l0_2 : List Int) : Option (Bool × Bool) := (impl_UsedSteps.f k a0_0 l0_1 l0_2).bind fun (l4, b5) => if b5 = true then (some (decide ((l4.length : Int) = (l0_1.length : Int)), b5)) else (some (false, b5))
set_option maxHeartbeats 600000 in
set_option maxRecDepth 100000 in
theorem impl_IsTrim.calls (k : Nat) {w0 ws : World} {P0 : Nat → Prop} (a0_0 : Int) (A0_1 : Option Addr) (c0_1 : Nat) (n0_1 : Nat) (l0_1 : List SStep) (A0_2 : Option Addr) (c0_2 : Nat) (n0_2 : Nat) (l0_2 : List Int) (Z : Below w0.heap.size w0 ws) (hF : Fr w0 ws P0 [] ws) (R0_1 : Stable ws P0 (fun w => Kd.C kStep w A0_1 n0_1 l0_1)) (hc0_1 : n0_1 ≤ c0_1) (R0_2 : Stable ws P0 (fun w => Kd.C (Kd.int .i64) w A0_2 n0_2 l0_2)) (hc0_2 : n0_2 ≤ c0_2) (r_1 : Bool) (r_2 : Bool) (h : impl_IsTrim.f k a0_0 l0_1 l0_2 = some (r_1, r_2)) :
    Calls Try.prog 32 #[.agg #[.int .i64 a0_0, .slice A0_1 n0_1 c0_1, .slice A0_2 n0_2 c0_2]] ws (Post1 w0 ws P0 (fun (_ : Unit) => .tuple #[.bool r_1, .bool r_2]) (fun (_ : Unit) => [])) := by
  unfold impl_IsTrim.f at h
  obtain rfl := (R0_1 ws (KeptB.refl _ _)).1
  obtain rfl := (R0_2 ws (KeptB.refl _ _)).1
  refine enter Try.func32 rfl Try.ntmps32 rfl hF ?_
  refine c_seq ?_
  refine za0 ?_
  refine o_e rfl (e_box rfl) (fun g1 => ?_)
  refine o_q rfl rfl (q_asg rfl) ?_
  refine o_q rfl rfl (q_asg rfl) ?_
  refine o_end ?_
  refine za1 ?_
  refine c_seq ?_
  refine za0 ?_
  refine o_q rfl rfl (q_ldB G27 Z27 rfl (fun w h => h.zab (i := 0) rfl) rfl) ?_
  refine bindE2 h (fun l4 b5 hx3 h => ?_) rfl
  refine o_e rfl (zac 0 Z Try.func31 N31 rfl rfl rfl (fun w P1 hF hB hS hT => impl_UsedSteps.calls k a0_0 A0_1 c0_1 l0_1.length l0_1 A0_2 c0_2 l0_2.length l0_2 hB hF (hS _ R0_1) hc0_1 (hS _ R0_2) hc0_2 _ _ hx3)) (cur2 (fun A6 c7 => ?_))
  refine o_q rfl rfl (za2 rfl) ?_
  refine o_q rfl rfl (q_ext rfl rfl) ?_
  refine o_q rfl rfl (q_ext rfl rfl) ?_
  refine o_q rfl rfl (q_asg rfl) ?_
  refine o_q rfl rfl (q_asg rfl) ?_
  refine o_end ?_
  refine za1 ?_
  refine c_seq ?_
  refine za0 ?_
  refine o_q rfl rfl (za2 rfl) ?_
  refine o_q rfl rfl (za2 rfl) ?_
  refine byB b5 (fun hb8 => ?_) (fun hb8 => ?_)
  · replace h := bb_t hb8 h
    refine o_w (za4 rfl rfl rfl (congrArg Value.bool hb8)) rfl (za2 rfl) ?_
    refine o_w (za4 rfl rfl rfl (congrArg Value.bool hb8)) rfl (q_len Try.underlying25 rfl) ?_
    refine o_w (za4 rfl rfl rfl (congrArg Value.bool hb8)) rfl (q_f F27_1 rfl) ?_
    refine o_w (za4 rfl rfl rfl (congrArg Value.bool hb8)) rfl (q_ldb Y24 rfl (fun w h => h.zab (i := 1) rfl) rfl) ?_
    refine o_w (za4 rfl rfl rfl (congrArg Value.bool hb8)) rfl (q_len Try.underlying24 rfl) ?_
    refine o_w (za4 rfl rfl rfl (congrArg Value.bool hb8)) rfl (q_eql rfl rfl) ?_
    refine o_q rfl rfl (zar true (congrArg Value.bool hb8) rfl) ?_
    refine o_q rfl rfl (za2 rfl) ?_
    refine o_q rfl rfl (q_asg rfl) ?_
    refine o_q rfl rfl (q_asg rfl) ?_
    refine o_end ?_
    refine za1 ?_
    refine c_ret ?_
    have e0_ := Option.some.inj h; clear h
    have d0_ := (Prod.mk.inj e0_).1; have e1_ := (Prod.mk.inj e0_).2; clear e0_; subst d0_
    subst e1_
    exact x_r2 () Try.results32 (zaf rfl) (zaf rfl) rfl (fun w h => za8 [] (by decide) rfl w h)
  · replace h := bb_f hb8 h
    refine @o_n _ _ _ _ _ _ _ _ _ _ _ 13 (za3 rfl rfl rfl (congrArg Value.bool hb8) rfl) (Eq.refl (some 13)) ?_
    refine @o_n _ _ _ _ _ _ _ _ _ _ _ 14 (za3 rfl rfl rfl (congrArg Value.bool hb8) rfl) (Eq.refl (some 14)) ?_
    refine @o_n _ _ _ _ _ _ _ _ _ _ _ 15 (za3 rfl rfl rfl (congrArg Value.bool hb8) rfl) (Eq.refl (some 15)) ?_
    refine @o_n _ _ _ _ _ _ _ _ _ _ _ 16 (za3 rfl rfl rfl (congrArg Value.bool hb8) rfl) (Eq.refl (some 16)) ?_
    refine @o_n _ _ _ _ _ _ _ _ _ _ _ 17 (za3 rfl rfl rfl (congrArg Value.bool hb8) rfl) (Eq.refl (some 17)) ?_
    refine @o_n _ _ _ _ _ _ _ _ _ _ _ 18 (za3 rfl rfl rfl (congrArg Value.bool hb8) rfl) (Eq.refl (some 18)) ?_
    refine o_q rfl rfl (zar false (congrArg Value.bool hb8) rfl) ?_
    refine o_q rfl rfl (za2 rfl) ?_
    refine o_q rfl rfl (q_asg rfl) ?_
    refine o_q rfl rfl (q_asg rfl) ?_
    refine o_end ?_
    refine za1 ?_
    refine c_ret ?_
    have e0_ := Option.some.inj h; clear h
    have d0_ := (Prod.mk.inj e0_).1; have e1_ := (Prod.mk.inj e0_).2; clear e0_; subst d0_
    subst e1_
    exact x_r2 () Try.results32 (zaf rfl) (zaf rfl) rfl (fun w h => za8 [] (by decide) rfl w h)

/-! ### loop.example/g01098/impl.FirstExponents: function 37 -/
def impl_FirstExponents.f (k : Nat) (a0_0 : Int) (l0_1 : List SStep) (l0_2 : List Int) : Option ((List Int) × Bool) := (impl_IsPlan.f k a0_0 l0_1 l0_2).bind fun b4 => if b4 = true then ((impl_Plan_firstSame.f a0_0 l0_1 l0_2).bind fun l7 => some (l7, true)) else (some (([] : List Int), false))
set_option maxHeartbeats 600000 in
set_option maxRecDepth 100000 in
theorem impl_FirstExponents.calls (k : Nat) {w0 ws : World} {P0 : Nat → Prop} (a0_0 : Int) (A0_1 : Option Addr) (c0_1 : Nat) (n0_1 : Nat) (l0_1 : List SStep) (A0_2 : Option Addr) (c0_2 : Nat) (n0_2 : Nat) (l0_2 : List Int) (Z : Below w0.heap.size w0 ws) (hF : Fr w0 ws P0 [] ws) (R0_1 : Stable ws P0 (fun w => Kd.C kStep w A0_1 n0_1 l0_1)) (hc0_1 : n0_1 ≤ c0_1) (R0_2 : Stable ws P0 (fun w => Kd.C (Kd.int .i64) w A0_2 n0_2 l0_2)) (hc0_2 : n0_2 ≤ c0_2) (r_1 : List Int) (r_4 : Bool) (h : impl_FirstExponents.f k a0_0 l0_1 l0_2 = some (r_1, r_4)) :
    Calls Try.prog 37 #[.agg #[.int .i64 a0_0, .slice A0_1 n0_1 c0_1, .slice A0_2 n0_2 c0_2]] ws (Post1 w0 ws P0 (fun ((q_2, q_3) : (Option Addr) × Nat) => .tuple #[.slice q_2 r_1.length q_3, .bool r_4]) (fun ((q_2, q_3) : (Option Addr) × Nat) => [row (Kd.int .i64) 3 (.slice q_2 r_1.length q_3) r_1])) := by
  unfold impl_FirstExponents.f at h
  obtain rfl := (R0_1 ws (KeptB.refl _ _)).1
  obtain rfl := (R0_2 ws (KeptB.refl _ _)).1
  refine enter Try.func37 rfl Try.ntmps37 rfl hF ?_
  refine c_seq ?_
  refine za0 ?_
  refine o_e rfl (e_box rfl) (fun g1 => ?_)
  refine o_q rfl rfl (q_asg rfl) ?_
  refine o_q rfl rfl (q_asg rfl) ?_
  refine o_end ?_
  refine za1 ?_
  refine c_seq ?_
  refine c_seq ?_
  refine za0 ?_
  refine o_q rfl rfl (q_ldB G27 Z27 rfl (fun w h => h.zab (i := 0) rfl) rfl) ?_
  refine zaa h (fun b4 hx3 h => ?_) rfl
  refine o_e rfl (zac 0 Z Try.func86 N86 rfl rfl rfl (fun w P1 hF hB hS hT => impl_IsPlan.calls k a0_0 A0_1 c0_1 l0_1.length l0_1 A0_2 c0_2 l0_2.length l0_2 hB hF (hS _ R0_1) hc0_1 (hS _ R0_2) hc0_2 _ hx3)) (fun _ => ?_)
  refine o_q rfl rfl (q_not rfl) ?_
  refine o_end ?_
  refine za1 ?_
  refine zau _ rfl (fun hb5 => ?_) (fun hb5 => ?_)
  · replace hb5 := nt_t hb5
    replace h := bb_f hb5 h
    refine c_seq ?_
    refine za0 ?_
    refine o_q rfl rfl (q_asg rfl) ?_
    refine o_q rfl rfl (q_asg rfl) ?_
    refine o_end ?_
    refine za1 ?_
    refine c_ret ?_
    refine za9 ?_
    refine x_nil (Kd.int .i64) 3 ?_
    have e0_ := Option.some.inj h; clear h
    have d0_ := (Prod.mk.inj e0_).1; have e1_ := (Prod.mk.inj e0_).2; clear e0_; subst d0_
    subst e1_
    exact x_r2 (none, 0) Try.results37 (zaf rfl) (zaf rfl) rfl (fun w h => za8 [0] (by decide) rfl w h)
  · replace hb5 := nt_f hb5
    replace h := bb_t hb5 h
    refine zan ?_
    refine za1 ?_
    refine c_seq ?_
    refine za0 ?_
    refine zaa h (fun l7 hx6 h => ?_) rfl
    refine o_e rfl (zac 0 Z Try.func115 N115 rfl rfl rfl (fun w P1 hF hB hS hT => impl_Plan_firstSame.calls g1 a0_0 A0_1 c0_1 l0_1.length l0_1 A0_2 c0_2 l0_2.length l0_2 hB hF (hS _ R0_1) hc0_1 (hS _ R0_2) hc0_2 (hT 0 _ rfl).box _ hx6)) (cur2 (fun A8 c9 => ?_))
    refine o_q rfl rfl (q_asg rfl) ?_
    refine o_q rfl rfl (q_asg rfl) ?_
    refine o_end ?_
    refine za1 ?_
    refine c_ret ?_
    have e0_ := Option.some.inj h; clear h
    have d0_ := (Prod.mk.inj e0_).1; have e1_ := (Prod.mk.inj e0_).2; clear e0_; subst d0_
    subst e1_
    exact x_r2 (A8, c9) Try.results37 (zaf rfl) (zaf rfl) rfl (fun w h => za8 [0] (by decide) rfl w h)

/-! ### loop.example/g01098/laws.FnSharedPlans: function 6 -/
def laws_FnSharedPlans.l0 : (List Int) → Int → Option ((Bool) ⊕ (Unit))
  | [], i59 => some (.inr ())
  | y60 :: ys61, i59 => if i59 ≠ y60 then (some (.inl false)) else (laws_FnSharedPlans.l0 ys61 (i59 + 1))
def laws_FnSharedPlans.f (k : Nat) (l0 : List Int) (l1 : List Int) : Option Bool := (laws_big.f l0 l1).bind fun b2 => if b2 = true then (some true) else ((spec_DrawSharePlan.f k l0).bind fun (i5, l6, l7) => (impl_SharePlan.f k i5 l6 l7).bind fun (i15, l16, l17, b18) => (spec_SharePlan.f k i5 l6 l7).bind fun (i26, l27, l28, b29) => if (b18 != b29) = true then (some false) else ((laws_pSamePlan.f i15 l16 l17 i26 l27 l28).bind fun b38 => if b38 = true then (if b29 = true then ((impl_SamePowers.f k i5 l6 l7 i15 l16 l17).bind fun (b42, b43) => (impl_IsTrim.f k i15 l16 l17).bind fun (b45, b46) => (impl_FirstExponents.f k i15 l16 l17).bind fun (l48, b49) => if b43 = true then (if b46 = true then (if b49 = true then (if b42 = true then (if b45 = true then (if (l6.length : Int) < (l16.length : Int) then (some false) else (if (l48.length : Int) ≠ w64 (i15 + (l16.length : Int)) then (some false) else ((laws_FnSharedPlans.l0 l48 0).bind fun o_ => match o_ with | .inl r_ => some r_ | .inr _ => some true))) else (some false)) else (some false)) else (some false)) else (some false)) else (some false)) else (some true)) else (some false)))
set_option maxHeartbeats 600000 in
set_option maxRecDepth 100000 in
theorem laws_FnSharedPlans.calls (k : Nat) {w0 ws : World} {P0 : Nat → Prop} (A0 : Option Addr) (c0 : Nat) (n0 : Nat) (l0 : List Int) (A1 : Option Addr) (c1 : Nat) (n1 : Nat) (l1 : List Int) (Z : Below w0.heap.size w0 ws) (hF : Fr w0 ws P0 [] ws) (R0 : Stable ws P0 (fun w => Kd.C (Kd.int .u8) w A0 n0 l0)) (hc0 : n0 ≤ c0) (R1 : Stable ws P0 (fun w => Kd.C (Kd.int .u8) w A1 n1 l1)) (hc1 : n1 ≤ c1) (r_1 : Bool) (h : laws_FnSharedPlans.f k l0 l1 = some r_1) :
    Calls Try.prog 6 #[.slice A0 n0 c0, .slice A1 n1 c1] ws (Post1 w0 ws P0 (fun (_ : Unit) => .bool r_1) (fun (_ : Unit) => [])) := by
  unfold laws_FnSharedPlans.f at h
  obtain rfl := (R0 ws (KeptB.refl _ _)).1
  obtain rfl := (R1 ws (KeptB.refl _ _)).1
  refine enter Try.func6 rfl Try.ntmps6 rfl hF ?_
  refine c_seq ?_
  refine za0 ?_
  refine o_q rfl rfl (q_asg rfl) ?_
  refine o_end ?_
  refine za1 ?_
  refine c_seq ?_
  refine c_seq ?_
  refine za0 ?_
  refine o_q rfl rfl (za2 rfl) ?_
  refine o_q rfl rfl (za2 rfl) ?_
  refine zaa h (fun b2 hx1 h => ?_) rfl
  refine o_e rfl (zac 0 Z Try.func13 N13 rfl rfl rfl (fun w P1 hF hB hS hT => laws_big.calls A0 c0 l0.length l0 A1 c1 l1.length l1 hB hF (hS _ R0) hc0 (hS _ R1) hc1 _ hx1)) (fun _ => ?_)
  refine o_end ?_
  refine za1 ?_
  refine zau _ rfl (fun hb3 => ?_) (fun hb3 => ?_)
  · skip
    replace h := bb_t hb3 h
    refine c_seq ?_
    refine za0 ?_
    refine o_q rfl rfl (q_asg rfl) ?_
    refine o_end ?_
    refine za1 ?_
    refine c_ret ?_
    refine za9 ?_
    have e0_ := Option.some.inj h; clear h
    subst e0_
    exact x_r1 () Try.results6 (zaf rfl) rfl (fun w h => za8 [] (by decide) rfl w h)
  · skip
    replace h := bb_f hb3 h
    refine zan ?_
    refine za1 ?_
    refine c_seq ?_
    refine za0 ?_
    refine o_q rfl rfl (za2 rfl) ?_
    refine bindE3 h (fun i5 l6 l7 hx4 h => ?_) rfl
    refine o_e rfl (zac 0 Z Try.func34 N34 rfl rfl rfl (fun w P1 hF hB hS hT => spec_DrawSharePlan.calls k A0 c0 l0.length l0 hB hF (hS _ R0) hc0 _ _ _ hx4)) (cur4 (fun A8 c9 A10 c11 => ?_))
    refine o_e rfl (e_alloc V27 rfl) (fun g12 => ?_)
    refine o_e rfl (zax (i := 0) rfl rfl rfl Z27 rfl rfl) (fun _ => ?_)
    refine o_end ?_
    refine za1 ?_
    refine c_seq ?_
    refine za0 ?_
    refine o_q rfl rfl (q_ldB G27 Z27 rfl (fun w h => h.zab (i := 0) rfl) rfl) ?_
    refine bindE4 h (fun i15 l16 l17 b18 hx14 h => ?_) rfl
    refine o_e rfl (zac 0 Z Try.func35 N35 rfl rfl rfl (fun w P1 hF hB hS hT => impl_SharePlan.calls k i5 A8 c9 l6.length l6 A10 c11 l7.length l7 hB hF (hT 1 _ rfl).row (hT 1 _ rfl).cap (hT 2 _ rfl).row (hT 2 _ rfl).cap _ _ _ _ hx14)) (cur4 (fun A19 c20 A21 c22 => ?_))
    refine o_q rfl rfl (za2 rfl) ?_
    refine o_q rfl rfl (q_ext rfl rfl) ?_
    refine o_q rfl rfl (q_ext rfl rfl) ?_
    refine o_e rfl (e_alloc V27 rfl) (fun g23 => ?_)
    refine o_e rfl (zax (i := 0) rfl rfl rfl Z27 rfl rfl) (fun _ => ?_)
    refine o_q rfl rfl (q_asg rfl) ?_
    refine o_end ?_
    refine za1 ?_
    refine c_seq ?_
    refine za0 ?_
    refine o_q rfl rfl (q_ldB G27 Z27 rfl (fun w h => h.zab (i := 3) rfl) rfl) ?_
    refine bindE4 h (fun i26 l27 l28 b29 hx25 h => ?_) rfl
    refine o_e rfl (zac 0 Z Try.func36 N36 rfl rfl rfl (fun w P1 hF hB hS hT => spec_SharePlan.calls k i5 A8 c9 l6.length l6 A10 c11 l7.length l7 hB hF (hT 4 _ rfl).row (hT 4 _ rfl).cap (hT 5 _ rfl).row (hT 5 _ rfl).cap _ _ _ _ hx25)) (cur4 (fun A30 c31 A32 c33 => ?_))
    refine o_q rfl rfl (za2 rfl) ?_
    refine o_q rfl rfl (q_ext rfl rfl) ?_
    refine o_q rfl rfl (q_ext rfl rfl) ?_
    refine o_e rfl (e_alloc V27 rfl) (fun g34 => ?_)
    refine o_e rfl (zax (i := 0) rfl rfl rfl Z27 rfl rfl) (fun _ => ?_)
    refine o_q rfl rfl (q_asg rfl) ?_
    refine o_end ?_
    refine za1 ?_
    refine c_seq ?_
    refine c_seq ?_
    refine za0 ?_
    refine o_q rfl rfl (za2 rfl) ?_
    refine o_q rfl rfl (za2 rfl) ?_
    refine o_q rfl rfl (q_bneq Try.underlying4 rfl rfl) ?_
    refine o_q rfl rfl (za2 rfl) ?_
    refine byB (b18 != b29) (fun hb36 => ?_) (fun hb36 => ?_)
    · replace h := bb_t hb36 h
      refine @o_n _ _ _ _ _ _ _ _ _ _ _ 37 (za3 rfl rfl rfl (congrArg Value.bool hb36) rfl) (Eq.refl (some 37)) ?_
      refine @o_n _ _ _ _ _ _ _ _ _ _ _ 38 (za3 rfl rfl rfl (congrArg Value.bool hb36) rfl) (Eq.refl (some 38)) ?_
      refine @o_n _ _ _ _ _ _ _ _ _ _ _ 39 (za3 rfl rfl rfl (congrArg Value.bool hb36) rfl) (Eq.refl (some 39)) ?_
      refine @o_n _ _ _ _ _ _ _ _ _ _ _ 40 (za3 rfl rfl rfl (congrArg Value.bool hb36) rfl) (Eq.refl (some 40)) ?_
      refine o_q rfl rfl (zar true (congrArg Value.bool hb36) rfl) ?_
      refine o_end ?_
      refine za1 ?_
      refine c_true rfl ?_
      refine c_seq ?_
      refine za0 ?_
      refine o_q rfl rfl (q_asg rfl) ?_
      refine o_end ?_
      refine za1 ?_
      refine c_ret ?_
      refine za9 ?_
      have e0_ := Option.some.inj h; clear h
      subst e0_
      exact x_r1 () Try.results6 (zaf rfl) rfl (fun w h => za8 [] (by decide) rfl w h)
    · replace h := bb_f hb36 h
      refine o_w (za4 rfl rfl rfl (congrArg Value.bool hb36)) rfl (q_ldB G27 Z27 rfl (fun w h => h.zab (i := 3) rfl) rfl) ?_
      refine o_w (za4 rfl rfl rfl (congrArg Value.bool hb36)) rfl (q_ldB G27 Z27 rfl (fun w h => h.zab (i := 0) rfl) rfl) ?_
      refine zaa h (fun b38 hx37 h => ?_) rfl
      refine o_ew (za4 rfl rfl rfl (congrArg Value.bool hb36)) (zac 0 Z Try.func17 N17 rfl rfl rfl (fun w P1 hF hB hS hT => laws_pSamePlan.calls i15 A19 c20 l16.length l16 A21 c22 l17.length l17 i26 A30 c31 l27.length l27 A32 c33 l28.length l28 hB hF (hT 4 _ rfl).row (hT 4 _ rfl).cap (hT 5 _ rfl).row (hT 5 _ rfl).cap (hT 1 _ rfl).row (hT 1 _ rfl).cap (hT 2 _ rfl).row (hT 2 _ rfl).cap _ hx37)) (fun _ => ?_)
      refine o_w (za4 rfl rfl rfl (congrArg Value.bool hb36)) rfl (q_not rfl) ?_
      refine o_q rfl rfl (zar false (congrArg Value.bool hb36) rfl) ?_
      refine o_end ?_
      refine za1 ?_
      refine zau _ rfl (fun hb39 => ?_) (fun hb39 => ?_)
      · replace hb39 := nt_t hb39
        replace h := bb_f hb39 h
        refine c_seq ?_
        refine za0 ?_
        refine o_q rfl rfl (q_asg rfl) ?_
        refine o_end ?_
        refine za1 ?_
        refine c_ret ?_
        refine za9 ?_
        have e0_ := Option.some.inj h; clear h
        subst e0_
        exact x_r1 () Try.results6 (zaf rfl) rfl (fun w h => za8 [] (by decide) rfl w h)
      · replace hb39 := nt_f hb39
        replace h := bb_t hb39 h
        refine zan ?_
        refine za1 ?_
        refine c_seq ?_
        refine c_seq ?_
        refine za0 ?_
        refine o_q rfl rfl (za2 rfl) ?_
        refine o_q rfl rfl (q_not rfl) ?_
        refine o_end ?_
        refine za1 ?_
        refine zau _ rfl (fun hb40 => ?_) (fun hb40 => ?_)
        · replace hb40 := nt_t hb40
          replace h := bb_f hb40 h
          refine c_seq ?_
          refine za0 ?_
          refine o_q rfl rfl (q_asg rfl) ?_
          refine o_end ?_
          refine za1 ?_
          refine c_ret ?_
          refine za9 ?_
          have e0_ := Option.some.inj h; clear h
          subst e0_
          exact x_r1 () Try.results6 (zaf rfl) rfl (fun w h => za8 [] (by decide) rfl w h)
        · replace hb40 := nt_f hb40
          replace h := bb_t hb40 h
          refine zan ?_
          refine za1 ?_
          refine c_seq ?_
          refine za0 ?_
          refine o_q rfl rfl (q_ldB G27 Z27 rfl (fun w h => h.zab (i := 6) rfl) rfl) ?_
          refine o_q rfl rfl (q_ldB G27 Z27 rfl (fun w h => h.zab (i := 3) rfl) rfl) ?_
          refine bindE2 h (fun b42 b43 hx41 h => ?_) rfl
          refine o_e rfl (zac 0 Z Try.func27 N27 rfl rfl rfl (fun w P1 hF hB hS hT => impl_SamePowers.calls k i5 A8 c9 l6.length l6 A10 c11 l7.length l7 i15 A19 c20 l16.length l16 A21 c22 l17.length l17 hB hF (hT 7 _ rfl).row (hT 7 _ rfl).cap (hT 8 _ rfl).row (hT 8 _ rfl).cap (hT 4 _ rfl).row (hT 4 _ rfl).cap (hT 5 _ rfl).row (hT 5 _ rfl).cap _ _ hx41)) (fun _ => ?_)
          refine o_q rfl rfl (za2 rfl) ?_
          refine o_q rfl rfl (q_ext rfl rfl) ?_
          refine o_q rfl rfl (q_ext rfl rfl) ?_
          refine o_q rfl rfl (q_asg rfl) ?_
          refine o_q rfl rfl (q_asg rfl) ?_
          refine o_end ?_
          refine za1 ?_
          refine c_seq ?_
          refine za0 ?_
          refine o_q rfl rfl (q_ldB G27 Z27 rfl (fun w h => h.zab (i := 3) rfl) rfl) ?_
          refine bindE2 h (fun b45 b46 hx44 h => ?_) rfl
          refine o_e rfl (zac 0 Z Try.func32 N32 rfl rfl rfl (fun w P1 hF hB hS hT => impl_IsTrim.calls k i15 A19 c20 l16.length l16 A21 c22 l17.length l17 hB hF (hT 4 _ rfl).row (hT 4 _ rfl).cap (hT 5 _ rfl).row (hT 5 _ rfl).cap _ _ hx44)) (fun _ => ?_)
          refine o_q rfl rfl (za2 rfl) ?_
          refine o_q rfl rfl (q_ext rfl rfl) ?_
          refine o_q rfl rfl (q_ext rfl rfl) ?_
          refine o_q rfl rfl (q_asg rfl) ?_
          refine o_q rfl rfl (q_asg rfl) ?_
          refine o_end ?_
          refine za1 ?_
          refine c_seq ?_
          refine za0 ?_
          refine o_q rfl rfl (q_ldB G27 Z27 rfl (fun w h => h.zab (i := 3) rfl) rfl) ?_
          refine bindE2 h (fun l48 b49 hx47 h => ?_) rfl
          refine o_e rfl (zac 0 Z Try.func37 N37 rfl rfl rfl (fun w P1 hF hB hS hT => impl_FirstExponents.calls k i15 A19 c20 l16.length l16 A21 c22 l17.length l17 hB hF (hT 4 _ rfl).row (hT 4 _ rfl).cap (hT 5 _ rfl).row (hT 5 _ rfl).cap _ _ hx47)) (cur2 (fun A50 c51 => ?_))
          refine o_q rfl rfl (za2 rfl) ?_
          refine o_q rfl rfl (q_ext rfl rfl) ?_
          refine o_q rfl rfl (q_ext rfl rfl) ?_
          refine o_q rfl rfl (q_asg rfl) ?_
          refine o_q rfl rfl (q_asg rfl) ?_
          refine o_end ?_
          refine za1 ?_
          refine c_seq ?_
          refine c_seq ?_
          refine za0 ?_
          refine o_q rfl rfl (za2 rfl) ?_
          refine o_q rfl rfl (q_not rfl) ?_
          refine o_q rfl rfl (za2 rfl) ?_
          refine byB b43 (fun hb52 => ?_) (fun hb52 => ?_)
          · replace h := bb_t hb52 h
            refine o_w (za4 rfl rfl rfl (congrArg (fun b => Value.bool (!(b))) hb52)) rfl (za2 rfl) ?_
            refine o_w (za4 rfl rfl rfl (congrArg (fun b => Value.bool (!(b))) hb52)) rfl (q_not rfl) ?_
            refine o_q rfl rfl (zar false (congrArg (fun b => Value.bool (!(b))) hb52) rfl) ?_
            refine o_q rfl rfl (za2 rfl) ?_
            refine byB b46 (fun hb53 => ?_) (fun hb53 => ?_)
            · replace h := bb_t hb53 h
              refine o_w (za4 rfl rfl rfl (congrArg (fun b => Value.bool (!(b))) hb53)) rfl (za2 rfl) ?_
              refine o_w (za4 rfl rfl rfl (congrArg (fun b => Value.bool (!(b))) hb53)) rfl (q_not rfl) ?_
              refine o_q rfl rfl (zar false (congrArg (fun b => Value.bool (!(b))) hb53) rfl) ?_
              refine o_q rfl rfl (za2 rfl) ?_
              refine byB b49 (fun hb54 => ?_) (fun hb54 => ?_)
              · replace h := bb_t hb54 h
                refine o_w (za4 rfl rfl rfl (congrArg (fun b => Value.bool (!(b))) hb54)) rfl (za2 rfl) ?_
                refine o_w (za4 rfl rfl rfl (congrArg (fun b => Value.bool (!(b))) hb54)) rfl (q_not rfl) ?_
                refine o_q rfl rfl (zar false (congrArg (fun b => Value.bool (!(b))) hb54) rfl) ?_
                refine o_q rfl rfl (za2 rfl) ?_
                refine byB b42 (fun hb55 => ?_) (fun hb55 => ?_)
                · replace h := bb_t hb55 h
                  refine o_w (za4 rfl rfl rfl (congrArg (fun b => Value.bool (!(b))) hb55)) rfl (za2 rfl) ?_
                  refine o_w (za4 rfl rfl rfl (congrArg (fun b => Value.bool (!(b))) hb55)) rfl (q_not rfl) ?_
                  refine o_q rfl rfl (zar false (congrArg (fun b => Value.bool (!(b))) hb55) rfl) ?_
                  refine o_q rfl rfl (za2 rfl) ?_
                  refine byB b45 (fun hb56 => ?_) (fun hb56 => ?_)
                  · replace h := bb_t hb56 h
                    refine o_w (za4 rfl rfl rfl (congrArg (fun b => Value.bool (!(b))) hb56)) rfl (q_f F27_1 rfl) ?_
                    refine o_w (za4 rfl rfl rfl (congrArg (fun b => Value.bool (!(b))) hb56)) rfl (q_ldb Y24 rfl (fun w h => h.zab (i := 4) rfl) rfl) ?_
                    refine o_w (za4 rfl rfl rfl (congrArg (fun b => Value.bool (!(b))) hb56)) rfl (q_len Try.underlying24 rfl) ?_
                    refine o_w (za4 rfl rfl rfl (congrArg (fun b => Value.bool (!(b))) hb56)) rfl (q_f F27_1 rfl) ?_
                    refine o_w (za4 rfl rfl rfl (congrArg (fun b => Value.bool (!(b))) hb56)) rfl (q_ldb Y24 rfl (fun w h => h.zab (i := 7) rfl) rfl) ?_
                    refine o_w (za4 rfl rfl rfl (congrArg (fun b => Value.bool (!(b))) hb56)) rfl (q_len Try.underlying24 rfl) ?_
                    refine o_w (za4 rfl rfl rfl (congrArg (fun b => Value.bool (!(b))) hb56)) rfl (q_gtr rfl rfl) ?_
                    refine o_q rfl rfl (zar false (congrArg (fun b => Value.bool (!(b))) hb56) rfl) ?_
                    refine o_q rfl rfl (za2 rfl) ?_
                    refine byB (decide ((l6.length : Int) < (l16.length : Int))) (fun hb57 => ?_) (fun hb57 => ?_)
                    · replace h := br_t hb57 h
                      refine @o_n _ _ _ _ _ _ _ _ _ _ _ 88 (za3 rfl rfl rfl (congrArg Value.bool hb57) rfl) (Eq.refl (some 88)) ?_
                      refine @o_n _ _ _ _ _ _ _ _ _ _ _ 89 (za3 rfl rfl rfl (congrArg Value.bool hb57) rfl) (Eq.refl (some 89)) ?_
                      refine @o_n _ _ _ _ _ _ _ _ _ _ _ 90 (za3 rfl rfl rfl (congrArg Value.bool hb57) rfl) (Eq.refl (some 90)) ?_
                      refine @o_n _ _ _ _ _ _ _ _ _ _ _ 91 (za3 rfl rfl rfl (congrArg Value.bool hb57) rfl) (Eq.refl (some 91)) ?_
                      refine @o_n _ _ _ _ _ _ _ _ _ _ _ 92 (za3 rfl rfl rfl (congrArg Value.bool hb57) rfl) (Eq.refl (some 92)) ?_
                      refine @o_n _ _ _ _ _ _ _ _ _ _ _ 93 (za3 rfl rfl rfl (congrArg Value.bool hb57) rfl) (Eq.refl (some 93)) ?_
                      refine @o_n _ _ _ _ _ _ _ _ _ _ _ 94 (za3 rfl rfl rfl (congrArg Value.bool hb57) rfl) (Eq.refl (some 94)) ?_
                      refine @o_n _ _ _ _ _ _ _ _ _ _ _ 95 (za3 rfl rfl rfl (congrArg Value.bool hb57) rfl) (Eq.refl (some 95)) ?_
                      refine @o_n _ _ _ _ _ _ _ _ _ _ _ 96 (za3 rfl rfl rfl (congrArg Value.bool hb57) rfl) (Eq.refl (some 96)) ?_
                      refine o_q rfl rfl (zar true (congrArg Value.bool hb57) rfl) ?_
                      refine o_end ?_
                      refine za1 ?_
                      refine c_true rfl ?_
                      refine c_seq ?_
                      refine za0 ?_
                      refine o_q rfl rfl (q_asg rfl) ?_
                      refine o_end ?_
                      refine za1 ?_
                      refine c_ret ?_
                      refine za9 ?_
                      have e0_ := Option.some.inj h; clear h
                      subst e0_
                      exact x_r1 () Try.results6 (zaf rfl) rfl (fun w h => za8 [] (by decide) rfl w h)
                    · replace h := br_f hb57 h
                      refine o_w (za4 rfl rfl rfl (congrArg Value.bool hb57)) rfl (za2 rfl) ?_
                      refine o_w (za4 rfl rfl rfl (congrArg Value.bool hb57)) rfl (q_len Try.underlying25 rfl) ?_
                      refine o_w (za4 rfl rfl rfl (congrArg Value.bool hb57)) rfl (q_f F27_0 rfl) ?_
                      refine o_w (za4 rfl rfl rfl (congrArg Value.bool hb57)) rfl (q_ldb Y3 rfl (fun w h => h.zab (i := 4) rfl) rfl) ?_
                      refine o_w (za4 rfl rfl rfl (congrArg Value.bool hb57)) rfl (q_f F27_1 rfl) ?_
                      refine o_w (za4 rfl rfl rfl (congrArg Value.bool hb57)) rfl (q_ldb Y24 rfl (fun w h => h.zab (i := 4) rfl) rfl) ?_
                      refine o_w (za4 rfl rfl rfl (congrArg Value.bool hb57)) rfl (q_len Try.underlying24 rfl) ?_
                      refine o_w (za4 rfl rfl rfl (congrArg Value.bool hb57)) rfl (q_add64 rfl rfl) ?_
                      refine o_w (za4 rfl rfl rfl (congrArg Value.bool hb57)) rfl (q_neq rfl rfl) ?_
                      refine o_q rfl rfl (zar false (congrArg Value.bool hb57) rfl) ?_
                      refine o_end ?_
                      refine za1 ?_
                      refine zau _ rfl (fun hb58 => ?_) (fun hb58 => ?_)
                      · skip
                        replace h := br_t hb58 h
                        refine c_seq ?_
                        refine za0 ?_
                        refine o_q rfl rfl (q_asg rfl) ?_
                        refine o_end ?_
                        refine za1 ?_
                        refine c_ret ?_
                        refine za9 ?_
                        have e0_ := Option.some.inj h; clear h
                        subst e0_
                        exact x_r1 () Try.results6 (zaf rfl) rfl (fun w h => za8 [] (by decide) rfl w h)
                      · skip
                        replace h := br_f hb58 h
                        refine zan ?_
                        refine za1 ?_
                        refine c_seq ?_
                        refine c_seq ?_
                        refine za0 ?_
                        refine o_q rfl rfl (za2 rfl) ?_
                        refine o_q rfl rfl (q_len Try.underlying25 rfl) ?_
                        refine o_q rfl rfl (za2 rfl) ?_
                        refine o_end ?_
                        refine za1 ?_
                        refine zaj ?_
                        refine zaa h (fun o67 hl66 hR65 => ?_) rfl
                        clear h
                        refine c_fact (p := l48.length ≤ 9223372036854775807) (fun w h => (h.zas (i := 0) rfl).2.1) (fun hm64 => ?_)
                        refine zaw (σ := (List Int) × Int) (fun k62 ((ys61, i59) : (List Int) × Int) => Rg l48 i59 ys61 ∧ ys61.length = k62 ∧ laws_FnSharedPlans.l0 ys61 i59 = some o67) [4, 16, 17, 100, 101, 102, 103, 104, 105, 106, 107, 108] (fun ((ys61, i59) : (List Int) × Int) => [(100, .int .i64 i59)]) (fun ((ys61, i59) : (List Int) × Int) => [row (Kd.int .i64) 3 (.slice A50 l48.length c51) l48, box g34 27 #[.int .i64 i26, .slice A30 l27.length c31, .slice A32 l28.length c33], row kStep 89 (.slice A30 l27.length c31) l27, row (Kd.int .i64) 3 (.slice A32 l28.length c33) l28, box g23 27 #[.int .i64 i15, .slice A19 l16.length c20, .slice A21 l17.length c22], row kStep 89 (.slice A19 l16.length c20) l16, row (Kd.int .i64) 3 (.slice A21 l17.length c22) l17, box g12 27 #[.int .i64 i5, .slice A8 l6.length c9, .slice A10 l7.length c11], row kStep 89 (.slice A8 l6.length c9) l6, row (Kd.int .i64) 3 (.slice A10 l7.length c11) l7]) l48.length (l48, 0) ⟨Rg.start _, rfl, hl66⟩ ⟨rfl, trivial⟩ (fun w h => h) ?_
                        refine fun k62 => cur2 (listC (fun i59 U68 hJ_ => ?_) (fun y60 ys61 i59 U68 hJ_ => ?_))
                        · skip
                          clear hl66
                          have hr63 := hJ_.1; have hk69 := hJ_.2.1; have h := hJ_.2.2; clear hJ_
                          replace h : laws_FnSharedPlans.l0 [] i59 = some o67 := h
                          rw [laws_FnSharedPlans.l0] at h
                          refine c_seq ?_
                          refine za0 ?_
                          refine o_q rfl rfl (q_lss rfl rfl) ?_
                          refine o_end ?_
                          refine za1 ?_
                          refine c_seq ?_
                          refine c_false (congrArg Value.bool hr63.ge) ?_
                          refine c_exit ?_
                          refine za6 ?_
                          refine za6 ?_
                          have e_ := Option.some.inj h; replace h := hR65; rw [← e_] at h; clear e_
                          refine x_hit ?_
                          refine za1 ?_
                          refine c_seq ?_
                          refine za0 ?_
                          refine o_q rfl rfl (q_asg rfl) ?_
                          refine o_end ?_
                          refine za1 ?_
                          refine c_ret ?_
                          have e0_ := Option.some.inj h; clear h
                          subst e0_
                          exact x_r1 () Try.results6 (zaf rfl) rfl (fun w h => za8 [] (by decide) rfl w h)
                        · skip
                          clear hl66
                          have hr63 := hJ_.1; have hk69 := hJ_.2.1; have h := hJ_.2.2; clear hJ_
                          replace h : laws_FnSharedPlans.l0 (y60 :: ys61) i59 = some o67 := h
                          rw [laws_FnSharedPlans.l0] at h
                          refine c_seq ?_
                          refine za0 ?_
                          refine o_q rfl rfl (q_lss rfl rfl) ?_
                          refine o_end ?_
                          refine za1 ?_
                          refine c_seq ?_
                          refine c_true (congrArg Value.bool hr63.lt) ?_
                          refine zan ?_
                          refine za1 ?_
                          refine c_seq ?_
                          refine zaj ?_
                          refine c_seq ?_
                          refine za0 ?_
                          refine o_q rfl rfl (za2 rfl) ?_
                          refine zaz (p := Sh A50 l48.length l48.length) (fun w h => f_sh (dk := (Kd.int .i64)) h (fun w h => h.zas (i := 0) rfl)) (fun hq70 => ?_)
                          refine o_q rfl rfl (q_ix Try.underlying25 Z3 rfl rfl hq70 hr63.get) ?_
                          refine o_q rfl rfl (q_lde (off := 0) Y3 rfl rfl (fun w h => h.zas (i := 0) rfl) hr63.get (fun _ _ h => h) rfl) ?_
                          refine o_q rfl rfl (q_asg rfl) ?_
                          refine o_q rfl rfl (q_asg rfl) ?_
                          refine o_end ?_
                          refine za1 ?_
                          refine c_seq ?_
                          refine za0 ?_
                          refine o_q rfl rfl (za2 rfl) ?_
                          refine o_q rfl rfl (za2 rfl) ?_
                          refine o_q rfl rfl (q_neq rfl rfl) ?_
                          refine o_end ?_
                          refine za1 ?_
                          refine zau _ rfl (fun hb71 => ?_) (fun hb71 => ?_)
                          · skip
                            replace h := br_t hb71 h
                            refine c_seq ?_
                            refine za0 ?_
                            refine o_q rfl rfl (q_asg rfl) ?_
                            refine o_end ?_
                            refine za1 ?_
                            refine c_ret ?_
                            refine zam ?_
                            refine za9 ?_
                            refine za9 ?_
                            have e_ := Option.some.inj h; replace h := hR65; rw [← e_] at h; clear e_
                            refine zam ?_
                            refine za9 ?_
                            have e0_ := Option.some.inj h; clear h
                            subst e0_
                            exact x_r1 () Try.results6 (zaf rfl) rfl (fun w h => za8 [] (by decide) rfl w h)
                          · skip
                            replace h := br_f hb71 h
                            refine zan ?_
                            refine zal ?_
                            refine za1 ?_
                            refine za0 ?_
                            refine o_q rfl rfl (q_up rfl rfl (hr63.up hm64)) ?_
                            refine o_q rfl rfl (za2 rfl) ?_
                            refine o_end ?_
                            refine zak ys61.length (ys61, i59 + 1) (by rw [← hk69]; exact Nat.lt_succ_self _) ⟨hr63.step, rfl, h⟩ ⟨rfl, trivial⟩ (fun w h => za8 [0, 1, 2, 3, 4, 5, 6, 7, 8, 9] (by decide) rfl w h) ?_
                            repeat (first | exact zad _ _ | refine zah rfl ?_ | refine zae rfl ?_ | refine zai rfl ?_)
                  · replace h := bb_f hb56 h
                    refine @o_n _ _ _ _ _ _ _ _ _ _ _ 79 (za3 rfl rfl rfl (congrArg (fun b => Value.bool (!(b))) hb56) rfl) (Eq.refl (some 79)) ?_
                    refine @o_n _ _ _ _ _ _ _ _ _ _ _ 80 (za3 rfl rfl rfl (congrArg (fun b => Value.bool (!(b))) hb56) rfl) (Eq.refl (some 80)) ?_
                    refine @o_n _ _ _ _ _ _ _ _ _ _ _ 81 (za3 rfl rfl rfl (congrArg (fun b => Value.bool (!(b))) hb56) rfl) (Eq.refl (some 81)) ?_
                    refine @o_n _ _ _ _ _ _ _ _ _ _ _ 82 (za3 rfl rfl rfl (congrArg (fun b => Value.bool (!(b))) hb56) rfl) (Eq.refl (some 82)) ?_
                    refine @o_n _ _ _ _ _ _ _ _ _ _ _ 83 (za3 rfl rfl rfl (congrArg (fun b => Value.bool (!(b))) hb56) rfl) (Eq.refl (some 83)) ?_
                    refine @o_n _ _ _ _ _ _ _ _ _ _ _ 84 (za3 rfl rfl rfl (congrArg (fun b => Value.bool (!(b))) hb56) rfl) (Eq.refl (some 84)) ?_
                    refine @o_n _ _ _ _ _ _ _ _ _ _ _ 85 (za3 rfl rfl rfl (congrArg (fun b => Value.bool (!(b))) hb56) rfl) (Eq.refl (some 85)) ?_
                    refine o_q rfl rfl (zar true (congrArg (fun b => Value.bool (!(b))) hb56) rfl) ?_
                    refine o_q rfl rfl (za2 rfl) ?_
                    refine @o_n _ _ _ _ _ _ _ _ _ _ _ 88 (za3 rfl rfl rfl rfl rfl) (Eq.refl (some 88)) ?_
                    refine @o_n _ _ _ _ _ _ _ _ _ _ _ 89 (za3 rfl rfl rfl rfl rfl) (Eq.refl (some 89)) ?_
                    refine @o_n _ _ _ _ _ _ _ _ _ _ _ 90 (za3 rfl rfl rfl rfl rfl) (Eq.refl (some 90)) ?_
                    refine @o_n _ _ _ _ _ _ _ _ _ _ _ 91 (za3 rfl rfl rfl rfl rfl) (Eq.refl (some 91)) ?_
                    refine @o_n _ _ _ _ _ _ _ _ _ _ _ 92 (za3 rfl rfl rfl rfl rfl) (Eq.refl (some 92)) ?_
                    refine @o_n _ _ _ _ _ _ _ _ _ _ _ 93 (za3 rfl rfl rfl rfl rfl) (Eq.refl (some 93)) ?_
                    refine @o_n _ _ _ _ _ _ _ _ _ _ _ 94 (za3 rfl rfl rfl rfl rfl) (Eq.refl (some 94)) ?_
                    refine @o_n _ _ _ _ _ _ _ _ _ _ _ 95 (za3 rfl rfl rfl rfl rfl) (Eq.refl (some 95)) ?_
                    refine @o_n _ _ _ _ _ _ _ _ _ _ _ 96 (za3 rfl rfl rfl rfl rfl) (Eq.refl (some 96)) ?_
                    refine o_q rfl rfl (zar true rfl rfl) ?_
                    refine o_end ?_
                    refine za1 ?_
                    refine c_true rfl ?_
                    refine c_seq ?_
                    refine za0 ?_
                    refine o_q rfl rfl (q_asg rfl) ?_
                    refine o_end ?_
                    refine za1 ?_
                    refine c_ret ?_
                    refine za9 ?_
                    have e0_ := Option.some.inj h; clear h
                    subst e0_
                    exact x_r1 () Try.results6 (zaf rfl) rfl (fun w h => za8 [] (by decide) rfl w h)
                · replace h := bb_f hb55 h
                  refine @o_n _ _ _ _ _ _ _ _ _ _ _ 75 (za3 rfl rfl rfl (congrArg (fun b => Value.bool (!(b))) hb55) rfl) (Eq.refl (some 75)) ?_
                  refine @o_n _ _ _ _ _ _ _ _ _ _ _ 76 (za3 rfl rfl rfl (congrArg (fun b => Value.bool (!(b))) hb55) rfl) (Eq.refl (some 76)) ?_
                  refine o_q rfl rfl (zar true (congrArg (fun b => Value.bool (!(b))) hb55) rfl) ?_
                  refine o_q rfl rfl (za2 rfl) ?_
                  refine @o_n _ _ _ _ _ _ _ _ _ _ _ 79 (za3 rfl rfl rfl rfl rfl) (Eq.refl (some 79)) ?_
                  refine @o_n _ _ _ _ _ _ _ _ _ _ _ 80 (za3 rfl rfl rfl rfl rfl) (Eq.refl (some 80)) ?_
                  refine @o_n _ _ _ _ _ _ _ _ _ _ _ 81 (za3 rfl rfl rfl rfl rfl) (Eq.refl (some 81)) ?_
                  refine @o_n _ _ _ _ _ _ _ _ _ _ _ 82 (za3 rfl rfl rfl rfl rfl) (Eq.refl (some 82)) ?_
                  refine @o_n _ _ _ _ _ _ _ _ _ _ _ 83 (za3 rfl rfl rfl rfl rfl) (Eq.refl (some 83)) ?_
                  refine @o_n _ _ _ _ _ _ _ _ _ _ _ 84 (za3 rfl rfl rfl rfl rfl) (Eq.refl (some 84)) ?_
                  refine @o_n _ _ _ _ _ _ _ _ _ _ _ 85 (za3 rfl rfl rfl rfl rfl) (Eq.refl (some 85)) ?_
                  refine o_q rfl rfl (zar true rfl rfl) ?_
                  refine o_q rfl rfl (za2 rfl) ?_
                  refine @o_n _ _ _ _ _ _ _ _ _ _ _ 88 (za3 rfl rfl rfl rfl rfl) (Eq.refl (some 88)) ?_
                  refine @o_n _ _ _ _ _ _ _ _ _ _ _ 89 (za3 rfl rfl rfl rfl rfl) (Eq.refl (some 89)) ?_
                  refine @o_n _ _ _ _ _ _ _ _ _ _ _ 90 (za3 rfl rfl rfl rfl rfl) (Eq.refl (some 90)) ?_
                  refine @o_n _ _ _ _ _ _ _ _ _ _ _ 91 (za3 rfl rfl rfl rfl rfl) (Eq.refl (some 91)) ?_
                  refine @o_n _ _ _ _ _ _ _ _ _ _ _ 92 (za3 rfl rfl rfl rfl rfl) (Eq.refl (some 92)) ?_
                  refine @o_n _ _ _ _ _ _ _ _ _ _ _ 93 (za3 rfl rfl rfl rfl rfl) (Eq.refl (some 93)) ?_
                  refine @o_n _ _ _ _ _ _ _ _ _ _ _ 94 (za3 rfl rfl rfl rfl rfl) (Eq.refl (some 94)) ?_
                  refine @o_n _ _ _ _ _ _ _ _ _ _ _ 95 (za3 rfl rfl rfl rfl rfl) (Eq.refl (some 95)) ?_
                  refine @o_n _ _ _ _ _ _ _ _ _ _ _ 96 (za3 rfl rfl rfl rfl rfl) (Eq.refl (some 96)) ?_
                  refine o_q rfl rfl (zar true rfl rfl) ?_
                  refine o_end ?_
                  refine za1 ?_
                  refine c_true rfl ?_
                  refine c_seq ?_
                  refine za0 ?_
                  refine o_q rfl rfl (q_asg rfl) ?_
                  refine o_end ?_
                  refine za1 ?_
                  refine c_ret ?_
                  refine za9 ?_
                  have e0_ := Option.some.inj h; clear h
                  subst e0_
                  exact x_r1 () Try.results6 (zaf rfl) rfl (fun w h => za8 [] (by decide) rfl w h)
              · replace h := bb_f hb54 h
                refine @o_n _ _ _ _ _ _ _ _ _ _ _ 71 (za3 rfl rfl rfl (congrArg (fun b => Value.bool (!(b))) hb54) rfl) (Eq.refl (some 71)) ?_
                refine @o_n _ _ _ _ _ _ _ _ _ _ _ 72 (za3 rfl rfl rfl (congrArg (fun b => Value.bool (!(b))) hb54) rfl) (Eq.refl (some 72)) ?_
                refine o_q rfl rfl (zar true (congrArg (fun b => Value.bool (!(b))) hb54) rfl) ?_
                refine o_q rfl rfl (za2 rfl) ?_
                refine @o_n _ _ _ _ _ _ _ _ _ _ _ 75 (za3 rfl rfl rfl rfl rfl) (Eq.refl (some 75)) ?_
                refine @o_n _ _ _ _ _ _ _ _ _ _ _ 76 (za3 rfl rfl rfl rfl rfl) (Eq.refl (some 76)) ?_
                refine o_q rfl rfl (zar true rfl rfl) ?_
                refine o_q rfl rfl (za2 rfl) ?_
                refine @o_n _ _ _ _ _ _ _ _ _ _ _ 79 (za3 rfl rfl rfl rfl rfl) (Eq.refl (some 79)) ?_
                refine @o_n _ _ _ _ _ _ _ _ _ _ _ 80 (za3 rfl rfl rfl rfl rfl) (Eq.refl (some 80)) ?_
                refine @o_n _ _ _ _ _ _ _ _ _ _ _ 81 (za3 rfl rfl rfl rfl rfl) (Eq.refl (some 81)) ?_
                refine @o_n _ _ _ _ _ _ _ _ _ _ _ 82 (za3 rfl rfl rfl rfl rfl) (Eq.refl (some 82)) ?_
                refine @o_n _ _ _ _ _ _ _ _ _ _ _ 83 (za3 rfl rfl rfl rfl rfl) (Eq.refl (some 83)) ?_
                refine @o_n _ _ _ _ _ _ _ _ _ _ _ 84 (za3 rfl rfl rfl rfl rfl) (Eq.refl (some 84)) ?_
                refine @o_n _ _ _ _ _ _ _ _ _ _ _ 85 (za3 rfl rfl rfl rfl rfl) (Eq.refl (some 85)) ?_
                refine o_q rfl rfl (zar true rfl rfl) ?_
                refine o_q rfl rfl (za2 rfl) ?_
                refine @o_n _ _ _ _ _ _ _ _ _ _ _ 88 (za3 rfl rfl rfl rfl rfl) (Eq.refl (some 88)) ?_
                refine @o_n _ _ _ _ _ _ _ _ _ _ _ 89 (za3 rfl rfl rfl rfl rfl) (Eq.refl (some 89)) ?_
                refine @o_n _ _ _ _ _ _ _ _ _ _ _ 90 (za3 rfl rfl rfl rfl rfl) (Eq.refl (some 90)) ?_
                refine @o_n _ _ _ _ _ _ _ _ _ _ _ 91 (za3 rfl rfl rfl rfl rfl) (Eq.refl (some 91)) ?_
                refine @o_n _ _ _ _ _ _ _ _ _ _ _ 92 (za3 rfl rfl rfl rfl rfl) (Eq.refl (some 92)) ?_
                refine @o_n _ _ _ _ _ _ _ _ _ _ _ 93 (za3 rfl rfl rfl rfl rfl) (Eq.refl (some 93)) ?_
                refine @o_n _ _ _ _ _ _ _ _ _ _ _ 94 (za3 rfl rfl rfl rfl rfl) (Eq.refl (some 94)) ?_
                refine @o_n _ _ _ _ _ _ _ _ _ _ _ 95 (za3 rfl rfl rfl rfl rfl) (Eq.refl (some 95)) ?_
                refine @o_n _ _ _ _ _ _ _ _ _ _ _ 96 (za3 rfl rfl rfl rfl rfl) (Eq.refl (some 96)) ?_
                refine o_q rfl rfl (zar true rfl rfl) ?_
                refine o_end ?_
                refine za1 ?_
                refine c_true rfl ?_
                refine c_seq ?_
                refine za0 ?_
                refine o_q rfl rfl (q_asg rfl) ?_
                refine o_end ?_
                refine za1 ?_
                refine c_ret ?_
                refine za9 ?_
                have e0_ := Option.some.inj h; clear h
                subst e0_
                exact x_r1 () Try.results6 (zaf rfl) rfl (fun w h => za8 [] (by decide) rfl w h)
            · replace h := bb_f hb53 h
              refine @o_n _ _ _ _ _ _ _ _ _ _ _ 67 (za3 rfl rfl rfl (congrArg (fun b => Value.bool (!(b))) hb53) rfl) (Eq.refl (some 67)) ?_
              refine @o_n _ _ _ _ _ _ _ _ _ _ _ 68 (za3 rfl rfl rfl (congrArg (fun b => Value.bool (!(b))) hb53) rfl) (Eq.refl (some 68)) ?_
              refine o_q rfl rfl (zar true (congrArg (fun b => Value.bool (!(b))) hb53) rfl) ?_
              refine o_q rfl rfl (za2 rfl) ?_
              refine @o_n _ _ _ _ _ _ _ _ _ _ _ 71 (za3 rfl rfl rfl rfl rfl) (Eq.refl (some 71)) ?_
              refine @o_n _ _ _ _ _ _ _ _ _ _ _ 72 (za3 rfl rfl rfl rfl rfl) (Eq.refl (some 72)) ?_
              refine o_q rfl rfl (zar true rfl rfl) ?_
              refine o_q rfl rfl (za2 rfl) ?_
              refine @o_n _ _ _ _ _ _ _ _ _ _ _ 75 (za3 rfl rfl rfl rfl rfl) (Eq.refl (some 75)) ?_
              refine @o_n _ _ _ _ _ _ _ _ _ _ _ 76 (za3 rfl rfl rfl rfl rfl) (Eq.refl (some 76)) ?_
              refine o_q rfl rfl (zar true rfl rfl) ?_
              refine o_q rfl rfl (za2 rfl) ?_
              refine @o_n _ _ _ _ _ _ _ _ _ _ _ 79 (za3 rfl rfl rfl rfl rfl) (Eq.refl (some 79)) ?_
              refine @o_n _ _ _ _ _ _ _ _ _ _ _ 80 (za3 rfl rfl rfl rfl rfl) (Eq.refl (some 80)) ?_
              refine @o_n _ _ _ _ _ _ _ _ _ _ _ 81 (za3 rfl rfl rfl rfl rfl) (Eq.refl (some 81)) ?_
              refine @o_n _ _ _ _ _ _ _ _ _ _ _ 82 (za3 rfl rfl rfl rfl rfl) (Eq.refl (some 82)) ?_
              refine @o_n _ _ _ _ _ _ _ _ _ _ _ 83 (za3 rfl rfl rfl rfl rfl) (Eq.refl (some 83)) ?_
              refine @o_n _ _ _ _ _ _ _ _ _ _ _ 84 (za3 rfl rfl rfl rfl rfl) (Eq.refl (some 84)) ?_
              refine @o_n _ _ _ _ _ _ _ _ _ _ _ 85 (za3 rfl rfl rfl rfl rfl) (Eq.refl (some 85)) ?_
              refine o_q rfl rfl (zar true rfl rfl) ?_
              refine o_q rfl rfl (za2 rfl) ?_
              refine @o_n _ _ _ _ _ _ _ _ _ _ _ 88 (za3 rfl rfl rfl rfl rfl) (Eq.refl (some 88)) ?_
              refine @o_n _ _ _ _ _ _ _ _ _ _ _ 89 (za3 rfl rfl rfl rfl rfl) (Eq.refl (some 89)) ?_
              refine @o_n _ _ _ _ _ _ _ _ _ _ _ 90 (za3 rfl rfl rfl rfl rfl) (Eq.refl (some 90)) ?_
              refine @o_n _ _ _ _ _ _ _ _ _ _ _ 91 (za3 rfl rfl rfl rfl rfl) (Eq.refl (some 91)) ?_
              refine @o_n _ _ _ _ _ _ _ _ _ _ _ 92 (za3 rfl rfl rfl rfl rfl) (Eq.refl (some 92)) ?_
              refine @o_n _ _ _ _ _ _ _ _ _ _ _ 93 (za3 rfl rfl rfl rfl rfl) (Eq.refl (some 93)) ?_
              refine @o_n _ _ _ _ _ _ _ _ _ _ _ 94 (za3 rfl rfl rfl rfl rfl) (Eq.refl (some 94)) ?_
              refine @o_n _ _ _ _ _ _ _ _ _ _ _ 95 (za3 rfl rfl rfl rfl rfl) (Eq.refl (some 95)) ?_
              refine @o_n _ _ _ _ _ _ _ _ _ _ _ 96 (za3 rfl rfl rfl rfl rfl) (Eq.refl (some 96)) ?_
              refine o_q rfl rfl (zar true rfl rfl) ?_
              refine o_end ?_
              refine za1 ?_
              refine c_true rfl ?_
              refine c_seq ?_
              refine za0 ?_
              refine o_q rfl rfl (q_asg rfl) ?_
              refine o_end ?_
              refine za1 ?_
              refine c_ret ?_
              refine za9 ?_
              have e0_ := Option.some.inj h; clear h
              subst e0_
              exact x_r1 () Try.results6 (zaf rfl) rfl (fun w h => za8 [] (by decide) rfl w h)
          · replace h := bb_f hb52 h
            refine @o_n _ _ _ _ _ _ _ _ _ _ _ 63 (za3 rfl rfl rfl (congrArg (fun b => Value.bool (!(b))) hb52) rfl) (Eq.refl (some 63)) ?_
            refine @o_n _ _ _ _ _ _ _ _ _ _ _ 64 (za3 rfl rfl rfl (congrArg (fun b => Value.bool (!(b))) hb52) rfl) (Eq.refl (some 64)) ?_
            refine o_q rfl rfl (zar true (congrArg (fun b => Value.bool (!(b))) hb52) rfl) ?_
            refine o_q rfl rfl (za2 rfl) ?_
            refine @o_n _ _ _ _ _ _ _ _ _ _ _ 67 (za3 rfl rfl rfl rfl rfl) (Eq.refl (some 67)) ?_
            refine @o_n _ _ _ _ _ _ _ _ _ _ _ 68 (za3 rfl rfl rfl rfl rfl) (Eq.refl (some 68)) ?_
            refine o_q rfl rfl (zar true rfl rfl) ?_
            refine o_q rfl rfl (za2 rfl) ?_
            refine @o_n _ _ _ _ _ _ _ _ _ _ _ 71 (za3 rfl rfl rfl rfl rfl) (Eq.refl (some 71)) ?_
            refine @o_n _ _ _ _ _ _ _ _ _ _ _ 72 (za3 rfl rfl rfl rfl rfl) (Eq.refl (some 72)) ?_
            refine o_q rfl rfl (zar true rfl rfl) ?_
            refine o_q rfl rfl (za2 rfl) ?_
            refine @o_n _ _ _ _ _ _ _ _ _ _ _ 75 (za3 rfl rfl rfl rfl rfl) (Eq.refl (some 75)) ?_
            refine @o_n _ _ _ _ _ _ _ _ _ _ _ 76 (za3 rfl rfl rfl rfl rfl) (Eq.refl (some 76)) ?_
            refine o_q rfl rfl (zar true rfl rfl) ?_
            refine o_q rfl rfl (za2 rfl) ?_
            refine @o_n _ _ _ _ _ _ _ _ _ _ _ 79 (za3 rfl rfl rfl rfl rfl) (Eq.refl (some 79)) ?_
            refine @o_n _ _ _ _ _ _ _ _ _ _ _ 80 (za3 rfl rfl rfl rfl rfl) (Eq.refl (some 80)) ?_
            refine @o_n _ _ _ _ _ _ _ _ _ _ _ 81 (za3 rfl rfl rfl rfl rfl) (Eq.refl (some 81)) ?_
            refine @o_n _ _ _ _ _ _ _ _ _ _ _ 82 (za3 rfl rfl rfl rfl rfl) (Eq.refl (some 82)) ?_
            refine @o_n _ _ _ _ _ _ _ _ _ _ _ 83 (za3 rfl rfl rfl rfl rfl) (Eq.refl (some 83)) ?_
            refine @o_n _ _ _ _ _ _ _ _ _ _ _ 84 (za3 rfl rfl rfl rfl rfl) (Eq.refl (some 84)) ?_
            refine @o_n _ _ _ _ _ _ _ _ _ _ _ 85 (za3 rfl rfl rfl rfl rfl) (Eq.refl (some 85)) ?_
            refine o_q rfl rfl (zar true rfl rfl) ?_
            refine o_q rfl rfl (za2 rfl) ?_
            refine @o_n _ _ _ _ _ _ _ _ _ _ _ 88 (za3 rfl rfl rfl rfl rfl) (Eq.refl (some 88)) ?_
            refine @o_n _ _ _ _ _ _ _ _ _ _ _ 89 (za3 rfl rfl rfl rfl rfl) (Eq.refl (some 89)) ?_
            refine @o_n _ _ _ _ _ _ _ _ _ _ _ 90 (za3 rfl rfl rfl rfl rfl) (Eq.refl (some 90)) ?_
            refine @o_n _ _ _ _ _ _ _ _ _ _ _ 91 (za3 rfl rfl rfl rfl rfl) (Eq.refl (some 91)) ?_
            refine @o_n _ _ _ _ _ _ _ _ _ _ _ 92 (za3 rfl rfl rfl rfl rfl) (Eq.refl (some 92)) ?_
            refine @o_n _ _ _ _ _ _ _ _ _ _ _ 93 (za3 rfl rfl rfl rfl rfl) (Eq.refl (some 93)) ?_
            refine @o_n _ _ _ _ _ _ _ _ _ _ _ 94 (za3 rfl rfl rfl rfl rfl) (Eq.refl (some 94)) ?_
            refine @o_n _ _ _ _ _ _ _ _ _ _ _ 95 (za3 rfl rfl rfl rfl rfl) (Eq.refl (some 95)) ?_
            refine @o_n _ _ _ _ _ _ _ _ _ _ _ 96 (za3 rfl rfl rfl rfl rfl) (Eq.refl (some 96)) ?_
            refine o_q rfl rfl (zar true rfl rfl) ?_
            refine o_end ?_
            refine za1 ?_
            refine c_true rfl ?_
            refine c_seq ?_
            refine za0 ?_
            refine o_q rfl rfl (q_asg rfl) ?_
            refine o_end ?_
            refine za1 ?_
            refine c_ret ?_
            refine za9 ?_
            have e0_ := Option.some.inj h; clear h
            subst e0_
            exact x_r1 () Try.results6 (zaf rfl) rfl (fun w h => za8 [] (by decide) rfl w h)

/-- THE ONE PURE STATEMENT of laws_FnSharedPlans. -/
def laws_FnSharedPlans.Pure : Prop := ∀ (l0 : List Int) (l1 : List Int), l0.length ≤ maxLen → (∀ y ∈ l0, (Lit.int .u8 y).wf = true) → l1.length ≤ maxLen → (∀ y ∈ l1, (Lit.int .u8 y).wf = true) → ∃ k, laws_FnSharedPlans.f k l0 l1 = some true
theorem laws_FnSharedPlans.walk (P : laws_FnSharedPlans.Pure) (A0 : Option Addr) (c0 : Nat) (l0 : List Int) (A1 : Option Addr) (c1 : Nat) (l1 : List Int) (w : World) (hr0 : Kd.C (Kd.int .u8) w A0 l0.length l0) (hc0 : l0.length ≤ c0) (hr1 : Kd.C (Kd.int .u8) w A1 l1.length l1) (hc1 : l1.length ≤ c1) (q0 : l0.length ≤ maxLen) (q1 : (∀ y ∈ l0, (Lit.int .u8 y).wf = true)) (q2 : l1.length ≤ maxLen) (q3 : (∀ y ∈ l1, (Lit.int .u8 y).wf = true)) :
    Calls Try.prog 6 #[.slice A0 l0.length c0, .slice A1 l1.length c1] w fun e w' => e = .returned (.bool true) ∧ Below w.heap.size w w' := by
  obtain ⟨k, h⟩ := P l0 l1 q0 q1 q2 q3
  refine (laws_FnSharedPlans.calls k A0 c0 l0.length l0 A1 c1 l1.length l1 (Below.refl _ _) (Fr.start w) (fun W hW => Kd.C_below hr0 hW.below) hc0 (fun W hW => Kd.C_below hr1 hW.below) hc1 true h).mono ?_
  rintro e w' ⟨s, rfl, hF⟩
  exact ⟨rfl, hF.bel⟩
end Go.Proofs.Ytoegbcbdiggbjaa.HP
