import Derived.Test.YtdicngjloiphkaaKFnFewestRegistersFWp1
namespace Go.Proofs.Ytdicngjloiphkaa.FW
open Go.RowKit Go.Proofs.Ytdicngjloiphkaa.Frame Go.Proofs.YtdicngjloiphkaaW.PrintLast Go.Proofs.Ytdicngjloiphkaa.Hand
open Go.Proofs.YtdicngjloiphkaaW.PrintWords hiding mn mx
set_option linter.unusedVariables false
/-! ### (*loop.example/g01098/impl.Plan).within: function 59 -/
def impl_Plan_within.f (k : Nat) (a0_0 : Int) (l0_1 : List SStep) (l0_2 : List Int) (a1 : Int) : Option Int := (impl_Plan_orders.f k a0_0 l0_1 l0_2 [] a0_0 l0_1 l0_2 a1 0).bind fun i8 => some i8
set_option maxHeartbeats 600000 in
set_option maxRecDepth 100000 in
theorem impl_Plan_within.calls (k : Nat) {w0 ws : World} {P0 : Nat → Prop} (g0 : Nat) (a0_0 : Int) (A0_1 : Option Addr) (c0_1 : Nat) (n0_1 : Nat) (l0_1 : List SStep) (A0_2 : Option Addr) (c0_2 : Nat) (n0_2 : Nat) (l0_2 : List Int) (a1 : Int) (Z : Below w0.heap.size w0 ws) (hF : Fr w0 ws P0 [] ws) (R0_1 : Stable ws P0 (fun w => Kd.C kStep w A0_1 n0_1 l0_1)) (hc0_1 : n0_1 ≤ c0_1) (R0_2 : Stable ws P0 (fun w => Kd.C (Kd.int .i64) w A0_2 n0_2 l0_2)) (hc0_2 : n0_2 ≤ c0_2) (B0 : Stable ws P0 (fun w => w.heap[g0]? = some (.cells #[.int .i64 a0_0, .slice A0_1 n0_1 c0_1, .slice A0_2 n0_2 c0_2] 27 (0, 0)))) (r_1 : Int) (h : impl_Plan_within.f k a0_0 l0_1 l0_2 a1 = some r_1) :
    Calls Try.prog 59 #[.pointer (some ⟨g0, 0, none⟩), .int .i64 a1] ws (Post1 w0 ws P0 (fun (_ : Unit) => .int .i64 r_1) (fun (_ : Unit) => [])) := by
  unfold impl_Plan_within.f at h
  obtain rfl := (R0_1 ws (KeptB.refl _ _)).1
  obtain rfl := (R0_2 ws (KeptB.refl _ _)).1
  refine enter Try.func59 rfl Try.ntmps59 rfl hF ?_
  refine c_seq ?_
  refine za0 ?_
  refine o_e rfl (e_box rfl) (fun g1 => ?_)
  refine o_e rfl (e_box rfl) (fun g3 => ?_)
  refine o_q rfl rfl (q_asg rfl) ?_
  refine o_end ?_
  refine za2 ?_
  refine c_seq ?_
  refine za0 ?_
  refine o_e rfl (e_alloc V3 rfl) (fun g5 => ?_)
  refine o_e rfl (e_store (i := 0) rfl rfl rfl rfl Z3 rfl rfl) (fun _ => ?_)
  refine o_end ?_
  refine za2 ?_
  refine c_seq ?_
  refine za0 ?_
  refine o_q rfl rfl (q_ldb Y97 rfl (fun w h => h.zac (i := 2) rfl) rfl) ?_
  refine o_q rfl rfl (q_func rfl rfl) ?_
  refine za8 h (fun i8 hx7 h => ?_) rfl
  refine o_e rfl (za9 1 Z Try.func123 N123 rfl rfl rfl (fun w P1 hF hB hS hT => impl_Plan_orders.calls k g0 a0_0 A0_1 c0_1 l0_1.length l0_1 A0_2 c0_2 l0_2.length l0_2 none 0 0 [] g1 g0 a0_0 A0_1 c0_1 l0_1.length l0_1 A0_2 c0_2 l0_2.length l0_2 g3 a1 g5 0 hB hF (hS _ R0_1) hc0_1 (hS _ R0_2) hc0_2 (hS _ B0) (stab_nil _) (Nat.le_refl 0) (hS _ R0_1) hc0_1 (hS _ R0_2) hc0_2 (hS _ B0) (hT 1 _ rfl).box (hT 0 _ rfl).box _ hx7)) (fun _ => ?_)
  refine o_end ?_
  refine za2 ?_
  refine c_seq ?_
  refine za0 ?_
  refine o_q rfl rfl (q_ldb Y3 rfl (fun w h => h.zac (i := 0) rfl) rfl) ?_
  refine o_q rfl rfl (q_asg rfl) ?_
  refine o_end ?_
  refine za2 ?_
  refine c_ret ?_
  have e0_ := Option.some.inj h; clear h
  subst e0_
  exact x_r1 () Try.results59 (zaj rfl) rfl (fun w h => za5 [] (by decide) rfl w h)

/-! ### loop.example/g01098/impl.OrdersWithin: function 10 -/
def impl_OrdersWithin.f (k : Nat) (a0_0 : Int) (l0_1 : List SStep) (l0_2 : List Int) (a1 : Int) : Option (Int × Bool) := (impl_orderable.f k a0_0 l0_1 l0_2).bind fun b4 => if b4 = true then ((impl_in.f a1 0 46).bind fun b7 => if b7 = true then ((impl_Plan_within.f k a0_0 l0_1 l0_2 a1).bind fun i10 => some (i10, true)) else (some (0, false))) else (some (0, false))
set_option maxHeartbeats 600000 in
set_option maxRecDepth 100000 in
theorem impl_OrdersWithin.calls (k : Nat) {w0 ws : World} {P0 : Nat → Prop} (a0_0 : Int) (A0_1 : Option Addr) (c0_1 : Nat) (n0_1 : Nat) (l0_1 : List SStep) (A0_2 : Option Addr) (c0_2 : Nat) (n0_2 : Nat) (l0_2 : List Int) (a1 : Int) (Z : Below w0.heap.size w0 ws) (hF : Fr w0 ws P0 [] ws) (R0_1 : Stable ws P0 (fun w => Kd.C kStep w A0_1 n0_1 l0_1)) (hc0_1 : n0_1 ≤ c0_1) (R0_2 : Stable ws P0 (fun w => Kd.C (Kd.int .i64) w A0_2 n0_2 l0_2)) (hc0_2 : n0_2 ≤ c0_2) (r_1 : Int) (r_2 : Bool) (h : impl_OrdersWithin.f k a0_0 l0_1 l0_2 a1 = some (r_1, r_2)) :
    Calls Try.prog 10 #[.agg #[.int .i64 a0_0, .slice A0_1 n0_1 c0_1, .slice A0_2 n0_2 c0_2], .int .i64 a1] ws (Post1 w0 ws P0 (fun (_ : Unit) => .tuple #[.int .i64 r_1, .bool r_2]) (fun (_ : Unit) => [])) := by
  unfold impl_OrdersWithin.f at h
  obtain rfl := (R0_1 ws (KeptB.refl _ _)).1
  obtain rfl := (R0_2 ws (KeptB.refl _ _)).1
  refine enter Try.func10 rfl Try.ntmps10 rfl hF ?_
  refine c_seq ?_
  refine za0 ?_
  refine o_e rfl (e_box rfl) (fun g1 => ?_)
  refine o_q rfl rfl (q_asg rfl) ?_
  refine o_q rfl rfl (q_asg rfl) ?_
  refine o_end ?_
  refine za2 ?_
  refine c_seq ?_
  refine c_seq ?_
  refine za0 ?_
  refine o_q rfl rfl (q_ldB G27 Z27 rfl (fun w h => h.zac (i := 0) rfl) rfl) ?_
  refine za8 h (fun b4 hx3 h => ?_) rfl
  refine o_e rfl (za9 0 Z Try.func57 N57 rfl rfl rfl (fun w P1 hF hB hS hT => impl_orderable.calls k a0_0 A0_1 c0_1 l0_1.length l0_1 A0_2 c0_2 l0_2.length l0_2 hB hF (hS _ R0_1) hc0_1 (hS _ R0_2) hc0_2 _ hx3)) (fun _ => ?_)
  refine o_q rfl rfl (q_not rfl) ?_
  refine o_q rfl rfl (za3 rfl) ?_
  refine byB b4 (fun hb5 => ?_) (fun hb5 => ?_)
  · replace h := bb_t hb5 h
    refine o_w (za4 rfl rfl rfl (congrArg (fun b => Value.bool (!(b))) hb5)) rfl (za3 rfl) ?_
    refine za8 h (fun b7 hx6 h => ?_) rfl
    refine o_ew (za4 rfl rfl rfl (congrArg (fun b => Value.bool (!(b))) hb5)) (za9 0 Z Try.func58 N58 rfl rfl rfl (fun w P1 hF hB hS hT => impl_in.calls a1 0 46 hB hF _ hx6)) (fun _ => ?_)
    refine o_w (za4 rfl rfl rfl (congrArg (fun b => Value.bool (!(b))) hb5)) rfl (q_not rfl) ?_
    refine o_q rfl rfl (zaa false (congrArg (fun b => Value.bool (!(b))) hb5) rfl) ?_
    refine o_end ?_
    refine za2 ?_
    refine zat _ rfl (fun hb8 => ?_) (fun hb8 => ?_)
    · replace hb8 := nt_t hb8
      replace h := bb_f hb8 h
      refine c_seq ?_
      refine za0 ?_
      refine o_q rfl rfl (q_asg rfl) ?_
      refine o_q rfl rfl (q_asg rfl) ?_
      refine o_end ?_
      refine za2 ?_
      refine c_ret ?_
      refine zaf ?_
      have e0_ := Option.some.inj h; clear h
      have d0_ := (Prod.mk.inj e0_).1; have e1_ := (Prod.mk.inj e0_).2; clear e0_; subst d0_
      subst e1_
      exact x_r2 () Try.results10 (zaj rfl) (zaj rfl) rfl (fun w h => za5 [] (by decide) rfl w h)
    · replace hb8 := nt_f hb8
      replace h := bb_t hb8 h
      refine zaq ?_
      refine za2 ?_
      refine c_seq ?_
      refine za0 ?_
      refine o_q rfl rfl (za3 rfl) ?_
      refine za8 h (fun i10 hx9 h => ?_) rfl
      refine o_e rfl (za9 0 Z Try.func59 N59 rfl rfl rfl (fun w P1 hF hB hS hT => impl_Plan_within.calls k g1 a0_0 A0_1 c0_1 l0_1.length l0_1 A0_2 c0_2 l0_2.length l0_2 a1 hB hF (hS _ R0_1) hc0_1 (hS _ R0_2) hc0_2 (hT 0 _ rfl).box _ hx9)) (fun _ => ?_)
      refine o_q rfl rfl (q_asg rfl) ?_
      refine o_q rfl rfl (q_asg rfl) ?_
      refine o_end ?_
      refine za2 ?_
      refine c_ret ?_
      have e0_ := Option.some.inj h; clear h
      have d0_ := (Prod.mk.inj e0_).1; have e1_ := (Prod.mk.inj e0_).2; clear e0_; subst d0_
      subst e1_
      exact x_r2 () Try.results10 (zaj rfl) (zaj rfl) rfl (fun w h => za5 [] (by decide) rfl w h)
  · replace h := bb_f hb5 h
    refine @o_n _ _ _ _ _ _ _ _ _ _ _ 10 (za1 rfl rfl rfl (congrArg (fun b => Value.bool (!(b))) hb5) rfl) (Eq.refl (some 10)) ?_
    refine @o_n _ _ _ _ _ _ _ _ _ _ _ 11 (za1 rfl rfl rfl (congrArg (fun b => Value.bool (!(b))) hb5) rfl) (Eq.refl (some 11)) ?_
    refine @o_n _ _ _ _ _ _ _ _ _ _ _ 12 (za1 rfl rfl rfl (congrArg (fun b => Value.bool (!(b))) hb5) rfl) (Eq.refl (some 12)) ?_
    refine o_q rfl rfl (zaa true (congrArg (fun b => Value.bool (!(b))) hb5) rfl) ?_
    refine o_end ?_
    refine za2 ?_
    refine c_true rfl ?_
    refine c_seq ?_
    refine za0 ?_
    refine o_q rfl rfl (q_asg rfl) ?_
    refine o_q rfl rfl (q_asg rfl) ?_
    refine o_end ?_
    refine za2 ?_
    refine c_ret ?_
    refine zaf ?_
    have e0_ := Option.some.inj h; clear h
    have d0_ := (Prod.mk.inj e0_).1; have e1_ := (Prod.mk.inj e0_).2; clear e0_; subst d0_
    subst e1_
    exact x_r2 () Try.results10 (zaj rfl) (zaj rfl) rfl (fun w h => za5 [] (by decide) rfl w h)

/-! ### loop.example/g01098/laws.big: function 8 -/
def laws_big.f (l0 : List Int) (l1 : List Int) : Option Bool := if 1048576 < (l0.length : Int) then (some true) else (some (decide (w64 (1048576 - (l0.length : Int)) < (l1.length : Int))))
set_option maxHeartbeats 600000 in
set_option maxRecDepth 100000 in
theorem laws_big.calls {w0 ws : World} {P0 : Nat → Prop} (A0 : Option Addr) (c0 : Nat) (n0 : Nat) (l0 : List Int) (A1 : Option Addr) (c1 : Nat) (n1 : Nat) (l1 : List Int) (Z : Below w0.heap.size w0 ws) (hF : Fr w0 ws P0 [] ws) (R0 : Stable ws P0 (fun w => Kd.C (Kd.int .u8) w A0 n0 l0)) (hc0 : n0 ≤ c0) (R1 : Stable ws P0 (fun w => Kd.C (Kd.int .u8) w A1 n1 l1)) (hc1 : n1 ≤ c1) (r_1 : Bool) (h : laws_big.f l0 l1 = some r_1) :
    Calls Try.prog 8 #[.slice A0 n0 c0, .slice A1 n1 c1] ws (Post1 w0 ws P0 (fun (_ : Unit) => .bool r_1) (fun (_ : Unit) => [])) := by
  unfold laws_big.f at h
  obtain rfl := (R0 ws (KeptB.refl _ _)).1
  obtain rfl := (R1 ws (KeptB.refl _ _)).1
  refine enter Try.func8 rfl Try.ntmps8 rfl hF ?_
  refine c_seq ?_
  refine za0 ?_
  refine o_q rfl rfl (q_asg rfl) ?_
  refine o_end ?_
  refine za2 ?_
  refine c_seq ?_
  refine za0 ?_
  refine o_q rfl rfl (za3 rfl) ?_
  refine o_q rfl rfl (q_len Try.underlying22 rfl) ?_
  refine o_q rfl rfl (q_gtr rfl rfl) ?_
  refine o_q rfl rfl (za3 rfl) ?_
  refine byB (decide (1048576 < (l0.length : Int))) (fun hb1 => ?_) (fun hb1 => ?_)
  · replace h := br_t hb1 h
    refine @o_n _ _ _ _ _ _ _ _ _ _ _ 9 (za1 rfl rfl rfl (congrArg Value.bool hb1) rfl) (Eq.refl (some 9)) ?_
    refine @o_n _ _ _ _ _ _ _ _ _ _ _ 10 (za1 rfl rfl rfl (congrArg Value.bool hb1) rfl) (Eq.refl (some 10)) ?_
    refine @o_n _ _ _ _ _ _ _ _ _ _ _ 11 (za1 rfl rfl rfl (congrArg Value.bool hb1) rfl) (Eq.refl (some 11)) ?_
    refine @o_n _ _ _ _ _ _ _ _ _ _ _ 12 (za1 rfl rfl rfl (congrArg Value.bool hb1) rfl) (Eq.refl (some 12)) ?_
    refine @o_n _ _ _ _ _ _ _ _ _ _ _ 13 (za1 rfl rfl rfl (congrArg Value.bool hb1) rfl) (Eq.refl (some 13)) ?_
    refine @o_n _ _ _ _ _ _ _ _ _ _ _ 14 (za1 rfl rfl rfl (congrArg Value.bool hb1) rfl) (Eq.refl (some 14)) ?_
    refine o_q rfl rfl (zaa true (congrArg Value.bool hb1) rfl) ?_
    refine o_q rfl rfl (q_asg rfl) ?_
    refine o_end ?_
    refine za2 ?_
    refine c_ret ?_
    have e0_ := Option.some.inj h; clear h
    subst e0_
    exact x_r1 () Try.results8 (zaj rfl) rfl (fun w h => za5 [] (by decide) rfl w h)
  · replace h := br_f hb1 h
    refine o_w (za4 rfl rfl rfl (congrArg Value.bool hb1)) rfl (za3 rfl) ?_
    refine o_w (za4 rfl rfl rfl (congrArg Value.bool hb1)) rfl (q_len Try.underlying22 rfl) ?_
    refine o_w (za4 rfl rfl rfl (congrArg Value.bool hb1)) rfl (za3 rfl) ?_
    refine o_w (za4 rfl rfl rfl (congrArg Value.bool hb1)) rfl (q_len Try.underlying22 rfl) ?_
    refine o_w (za4 rfl rfl rfl (congrArg Value.bool hb1)) rfl (q_sub64 rfl rfl) ?_
    refine o_w (za4 rfl rfl rfl (congrArg Value.bool hb1)) rfl (q_gtr rfl rfl) ?_
    refine o_q rfl rfl (zaa false (congrArg Value.bool hb1) rfl) ?_
    refine o_q rfl rfl (q_asg rfl) ?_
    refine o_end ?_
    refine za2 ?_
    refine c_ret ?_
    have e0_ := Option.some.inj h; clear h
    subst e0_
    exact x_r1 () Try.results8 (zaj rfl) rfl (fun w h => za5 [] (by decide) rfl w h)

/-! ### (*loop.example/g01098/spec.l1Cur).next: function 129 -/
def spec_l1Cur_next.f (l0_0 : List Int) (a0_1 : Int) (a0_2 : Int) : Option (Int × Int) := (if a0_1 < (l0_0.length : Int) then ((gt l0_0 a0_1).bind fun y14 => some (w64 y14)) else (some 0)).bind fun i5 => if w64 (a0_1 + 1) ≤ (l0_0.length : Int) then (some (i5, IntKind.u64.wrap (IntKind.u64.wrap (IntKind.u64.wrap (a0_2 * 6364136223846793005) + (IntKind.u64.wrap i5)) + 1442695040888963407))) else (some (w64 (Go.bits .and .u64 ((IntKind.u64.wrap (IntKind.u64.wrap (IntKind.u64.wrap (a0_2 * 6364136223846793005) + (IntKind.u64.wrap i5)) + 1442695040888963407)) / 2 ^ min (40 : Int).toNat IntKind.u64.bits) 255), IntKind.u64.wrap (IntKind.u64.wrap (IntKind.u64.wrap (a0_2 * 6364136223846793005) + (IntKind.u64.wrap i5)) + 1442695040888963407)))
set_option maxHeartbeats 600000 in
set_option maxRecDepth 100000 in
theorem spec_l1Cur_next.calls {w0 ws : World} {P0 : Nat → Prop} (g0 : Nat) (A0_0 : Option Addr) (c0_0 : Nat) (n0_0 : Nat) (l0_0 : List Int) (a0_1 : Int) (a0_2 : Int) (Z : Below w0.heap.size w0 ws) (hF : Fr w0 ws P0 [box g0 67 #[.slice A0_0 n0_0 c0_0, .int .i64 a0_1, .int .u64 a0_2]] ws) (R0_0 : Stable ws P0 (fun w => Kd.C (Kd.int .u8) w A0_0 n0_0 l0_0)) (hc0_0 : n0_0 ≤ c0_0) (r_1 : Int) (r_2 : Int) (h : spec_l1Cur_next.f l0_0 a0_1 a0_2 = some (r_1, r_2)) :
    Calls Try.prog 129 #[.pointer (some ⟨g0, 0, none⟩)] ws (Post1 w0 ws P0 (fun (_ : Unit) => .int .i64 r_1) (fun (_ : Unit) => [box g0 67 #[.slice A0_0 n0_0 c0_0, .int .i64 (w64 (a0_1 + 1)), .int .u64 r_2]])) := by
  unfold spec_l1Cur_next.f at h
  obtain rfl := (R0_0 ws (KeptB.refl _ _)).1
  refine enter Try.func129 rfl Try.ntmps129 rfl hF ?_
  refine c_seq ?_
  refine za0 ?_
  refine o_q rfl rfl (q_asg rfl) ?_
  refine o_end ?_
  refine za2 ?_
  refine c_seq ?_
  refine za0 ?_
  refine o_q rfl rfl (q_asg rfl) ?_
  refine o_end ?_
  refine za2 ?_
  refine za8 h (fun o6 hl7 hR8 => ?_) rfl
  clear h
  refine c_cutJ (σ := Int) (fun i5 => some i5 = some o6) [3, 4, 5, 6, 7, 8, 9, 10, 11, 12, 13, 14, 15, 16, 17, 18, 19, 20, 21, 22, 23, 24] (fun i5 => [(3, .int .i64 i5)]) (fun i5 => [box g0 67 #[.slice A0_0 l0_0.length c0_0, .int .i64 a0_1, .int .u64 a0_2]]) ?_ ?_
  · skip
    have h := hl7; clear hl7
    clear hR8
    refine c_seq ?_
    refine a_start (ds := []) MO rfl ?_
    refine za7 0 rfl rfl rfl (by kernel_rfl) (fun _ _ _ h => h) (za3 rfl) ?_
    refine za7 1 rfl rfl rfl (by kernel_rfl) (fun _ _ _ h => h) (q_nil rfl) ?_
    refine za7 2 rfl rfl rfl (by kernel_rfl) (fun _ _ _ h => h) (q_f F67_1 rfl) ?_
    refine zau 3 rfl rfl rfl (by kernel_rfl) (fun _ _ _ h => h) (fun w h => h) (q_ldb Y3 rfl (fun w h => h.zac (i := 0) rfl) rfl) ?_
    refine za7 4 rfl rfl rfl (by kernel_rfl) (fun _ _ _ h => h) (za3 rfl) ?_
    refine za7 5 rfl rfl rfl (by kernel_rfl) (fun _ _ _ h => h) (q_nil rfl) ?_
    refine za7 6 rfl rfl rfl (by kernel_rfl) (fun _ _ _ h => h) (q_f F67_0 rfl) ?_
    refine zau 7 rfl rfl rfl (by kernel_rfl) (fun _ _ _ h => h) (fun w h => h) (q_ldb Y22 rfl (fun w h => h.zac (i := 0) rfl) rfl) ?_
    refine za7 8 rfl rfl rfl (by kernel_rfl) (fun _ _ _ h => h) (q_len Try.underlying22 rfl) ?_
    refine za7 9 rfl rfl rfl (by kernel_rfl) (fun _ _ _ h => h) (q_lss rfl rfl) ?_
    refine zav (by kernel_rfl) ?_
    refine za2 ?_
    refine zat _ rfl (fun hb11 => ?_) (fun hb11 => ?_)
    · skip
      replace h := br_t hb11 h
      refine a_start (ds := []) MO rfl ?_
      refine za7 0 rfl rfl rfl (by kernel_rfl) (fun _ _ _ h => h) (za3 rfl) ?_
      refine za7 1 rfl rfl rfl (by kernel_rfl) (fun _ _ _ h => h) (q_nil rfl) ?_
      refine za7 2 rfl rfl rfl (by kernel_rfl) (fun _ _ _ h => h) (q_f F67_0 rfl) ?_
      refine zau 3 rfl rfl rfl (by kernel_rfl) (fun _ _ _ h => h) (fun w h => h) (q_ldb Y22 rfl (fun w h => h.zac (i := 0) rfl) rfl) ?_
      refine za7 4 rfl rfl rfl (by kernel_rfl) (fun _ _ _ h => h) (za3 rfl) ?_
      refine za7 5 rfl rfl rfl (by kernel_rfl) (fun _ _ _ h => h) (q_nil rfl) ?_
      refine za7 6 rfl rfl rfl (by kernel_rfl) (fun _ _ _ h => h) (q_f F67_1 rfl) ?_
      refine zau 7 rfl rfl rfl (by kernel_rfl) (fun _ _ _ h => h) (fun w h => h) (q_ldb Y3 rfl (fun w h => h.zac (i := 0) rfl) rfl) ?_
      refine a_fact (p := Sh A0_0 l0_0.length l0_0.length) (fun w h => f_sh (dk := (Kd.int .u8)) h (fun w h => R0_0.now Z h)) (fun hq12 => ?_)
      refine za8 h (fun y14 hg13 h => ?_) rfl
      refine za7 8 rfl rfl rfl (by kernel_rfl) (fun _ _ _ h => h) (q_ix Try.underlying22 Z5 rfl rfl hq12 hg13) ?_
      refine zau 9 rfl rfl rfl (by kernel_rfl) (fun _ _ _ h => h) (fun w h => h) (q_lde (off := 0) Y5 rfl rfl (fun w h => R0_0.now Z h) hg13 (fun _ _ h => h) rfl) ?_
      refine za7 10 rfl rfl rfl (by kernel_rfl) (fun _ _ _ h => h) (q_conv (by rw [Try.underlying5]; rfl) Try.underlying3 rfl) ?_
      refine za7 11 rfl rfl rfl (by kernel_rfl) (fun _ _ _ h => h) (q_asg rfl) ?_
      refine zav (by kernel_rfl) ?_
      refine x_meetJ (w64 y14) h ⟨rfl, trivial⟩ (fun w h => za5 [0] (by decide) rfl w h) ?_
      repeat (first | exact zad _ _ | refine zah rfl ?_ | refine zae rfl ?_ | refine zai rfl ?_)
    · skip
      replace h := br_f hb11 h
      refine zaq ?_
      refine x_meetJ 0 h ⟨rfl, trivial⟩ (fun w h => za5 [0] (by decide) rfl w h) ?_
      repeat (first | exact zad _ _ | refine zah rfl ?_ | refine zae rfl ?_ | refine zai rfl ?_)
  · skip
    refine (fun i5 => fun U9 hJ10 => ?_)
    have e_ := Option.some.inj hJ10; have h := hR8; rw [← e_] at h; clear e_ hJ10 hR8 hl7
    refine c_seq ?_
    refine za0 ?_
    refine o_q rfl rfl (za3 rfl) ?_
    refine o_q rfl rfl (q_nil rfl) ?_
    refine o_q rfl rfl (q_f F67_1 rfl) ?_
    refine o_q rfl rfl (q_ldb Y3 rfl (fun w h => h.zac (i := 0) rfl) rfl) ?_
    refine o_q rfl rfl (q_add64 rfl rfl) ?_
    refine o_q rfl rfl (q_nil rfl) ?_
    refine o_q rfl rfl (q_f F67_1 rfl) ?_
    refine o_e rfl (e_store (i := 0) rfl rfl rfl rfl Z3 rfl rfl) (fun _ => ?_)
    refine o_end ?_
    refine za2 ?_
    refine c_seq ?_
    refine za0 ?_
    refine o_q rfl rfl (za3 rfl) ?_
    refine o_q rfl rfl (za3 rfl) ?_
    refine o_q rfl rfl (q_nil rfl) ?_
    refine o_q rfl rfl (q_f F67_2 rfl) ?_
    refine o_q rfl rfl (q_ldb Y65 rfl (fun w h => h.zac (i := 0) rfl) rfl) ?_
    refine o_q rfl rfl (q_mul rfl rfl) ?_
    refine o_q rfl rfl (za3 rfl) ?_
    refine o_q rfl rfl (q_conv (by rw [Try.underlying3]; rfl) Try.underlying65 rfl) ?_
    refine o_q rfl rfl (q_add rfl rfl) ?_
    refine o_q rfl rfl (q_add rfl rfl) ?_
    refine o_q rfl rfl (q_nil rfl) ?_
    refine o_q rfl rfl (q_f F67_2 rfl) ?_
    refine o_e rfl (e_store (i := 0) rfl rfl rfl rfl Z65 rfl rfl) (fun _ => ?_)
    refine o_end ?_
    refine za2 ?_
    refine c_seq ?_
    refine c_seq ?_
    refine a_start (ds := []) MO rfl ?_
    refine za7 0 rfl rfl rfl (by kernel_rfl) (fun _ _ _ h => h) (za3 rfl) ?_
    refine za7 1 rfl rfl rfl (by kernel_rfl) (fun _ _ _ h => h) (q_nil rfl) ?_
    refine za7 2 rfl rfl rfl (by kernel_rfl) (fun _ _ _ h => h) (q_f F67_1 rfl) ?_
    refine zau 3 rfl rfl rfl (by kernel_rfl) (fun _ _ _ h => h) (fun w h => h) (q_ldb Y3 rfl (fun w h => h.zac (i := 0) rfl) rfl) ?_
    refine za7 4 rfl rfl rfl (by kernel_rfl) (fun _ _ _ h => h) (za3 rfl) ?_
    refine za7 5 rfl rfl rfl (by kernel_rfl) (fun _ _ _ h => h) (q_nil rfl) ?_
    refine za7 6 rfl rfl rfl (by kernel_rfl) (fun _ _ _ h => h) (q_f F67_0 rfl) ?_
    refine zau 7 rfl rfl rfl (by kernel_rfl) (fun _ _ _ h => h) (fun w h => h) (q_ldb Y22 rfl (fun w h => h.zac (i := 0) rfl) rfl) ?_
    refine za7 8 rfl rfl rfl (by kernel_rfl) (fun _ _ _ h => h) (q_len Try.underlying22 rfl) ?_
    refine za7 9 rfl rfl rfl (by kernel_rfl) (fun _ _ _ h => h) (q_leq rfl rfl) ?_
    refine zav (by kernel_rfl) ?_
    refine za2 ?_
    refine zat _ rfl (fun hb15 => ?_) (fun hb15 => ?_)
    · skip
      replace h := br_t hb15 h
      refine c_seq ?_
      refine za0 ?_
      refine o_q rfl rfl (za3 rfl) ?_
      refine o_q rfl rfl (q_asg rfl) ?_
      refine o_end ?_
      refine za2 ?_
      refine c_ret ?_
      refine zaf ?_
      have e0_ := Option.some.inj h; clear h
      have d0_ := (Prod.mk.inj e0_).1; have e1_ := (Prod.mk.inj e0_).2; clear e0_; subst d0_
      subst e1_
      exact x_r1 () Try.results129 (zaj rfl) rfl (fun w h => za5 [0] (by decide) rfl w h)
    · skip
      replace h := br_f hb15 h
      refine zaq ?_
      refine za2 ?_
      refine c_seq ?_
      refine za0 ?_
      refine o_q rfl rfl (za3 rfl) ?_
      refine o_q rfl rfl (q_nil rfl) ?_
      refine o_q rfl rfl (q_f F67_2 rfl) ?_
      refine o_q rfl rfl (q_ldb Y65 rfl (fun w h => h.zac (i := 0) rfl) rfl) ?_
      refine o_q rfl rfl (q_shr rfl rfl (by decide)) ?_
      refine o_q rfl rfl (q_and rfl rfl) ?_
      refine o_q rfl rfl (q_conv (by rw [Try.underlying65]; rfl) Try.underlying3 rfl) ?_
      refine o_q rfl rfl (q_asg rfl) ?_
      refine o_end ?_
      refine za2 ?_
      refine c_ret ?_
      have e0_ := Option.some.inj h; clear h
      have d0_ := (Prod.mk.inj e0_).1; have e1_ := (Prod.mk.inj e0_).2; clear e0_; subst d0_
      subst e1_
      exact x_r1 () Try.results129 (zaj rfl) rfl (fun w h => za5 [0] (by decide) rfl w h)

/-! ### (*loop.example/g01098/spec.l1Cur).pick: function 66 -/
def spec_l1Cur_pick.f (l0_0 : List Int) (a0_1 : Int) (a0_2 : Int) (a1 : Int) : Option (Int × Int × Int) := if a1 ≤ 1 then (some (0, a0_1, a0_2)) else ((spec_l1Cur_next.f l0_0 a0_1 a0_2).bind fun (i3, i4) => if 200 < a1 then ((spec_l1Cur_next.f l0_0 (w64 (a0_1 + 1)) i4).bind fun (i7, i8) => (nz a1).bind fun _ => some ((w64 (w64 (i3 * 256) + i7)).tmod a1, w64 ((w64 (a0_1 + 1)) + 1), i8)) else ((nz a1).bind fun _ => some (i3.tmod a1, w64 (a0_1 + 1), i4)))
set_option maxHeartbeats 600000 in
set_option maxRecDepth 100000 in
theorem spec_l1Cur_pick.calls {w0 ws : World} {P0 : Nat → Prop} (g0 : Nat) (A0_0 : Option Addr) (c0_0 : Nat) (n0_0 : Nat) (l0_0 : List Int) (a0_1 : Int) (a0_2 : Int) (a1 : Int) (Z : Below w0.heap.size w0 ws) (hF : Fr w0 ws P0 [box g0 67 #[.slice A0_0 n0_0 c0_0, .int .i64 a0_1, .int .u64 a0_2]] ws) (R0_0 : Stable ws P0 (fun w => Kd.C (Kd.int .u8) w A0_0 n0_0 l0_0)) (hc0_0 : n0_0 ≤ c0_0) (r_1 : Int) (r_2 : Int) (r_3 : Int) (h : spec_l1Cur_pick.f l0_0 a0_1 a0_2 a1 = some (r_1, r_2, r_3)) :
    Calls Try.prog 66 #[.pointer (some ⟨g0, 0, none⟩), .int .i64 a1] ws (Post1 w0 ws P0 (fun (_ : Unit) => .int .i64 r_1) (fun (_ : Unit) => [box g0 67 #[.slice A0_0 n0_0 c0_0, .int .i64 r_2, .int .u64 r_3]])) := by
  unfold spec_l1Cur_pick.f at h
  obtain rfl := (R0_0 ws (KeptB.refl _ _)).1
  refine enter Try.func66 rfl Try.ntmps66 rfl hF ?_
  refine c_seq ?_
  refine za0 ?_
  refine o_q rfl rfl (q_asg rfl) ?_
  refine o_end ?_
  refine za2 ?_
  refine c_seq ?_
  refine c_seq ?_
  refine za0 ?_
  refine o_q rfl rfl (za3 rfl) ?_
  refine o_q rfl rfl (q_leq rfl rfl) ?_
  refine o_end ?_
  refine za2 ?_
  refine zat _ rfl (fun hb1 => ?_) (fun hb1 => ?_)
  · skip
    replace h := br_t hb1 h
    refine c_seq ?_
    refine za0 ?_
    refine o_q rfl rfl (q_asg rfl) ?_
    refine o_end ?_
    refine za2 ?_
    refine c_ret ?_
    refine zaf ?_
    have e0_ := Option.some.inj h; clear h
    have d0_ := (Prod.mk.inj e0_).1; have e1_ := (Prod.mk.inj e0_).2; clear e0_; subst d0_
    have d1_ := (Prod.mk.inj e1_).1; have e2_ := (Prod.mk.inj e1_).2; clear e1_; subst d1_
    subst e2_
    exact x_r1 () Try.results66 (zaj rfl) rfl (fun w h => za5 [0] (by decide) rfl w h)
  · skip
    replace h := br_f hb1 h
    refine zaq ?_
    refine za2 ?_
    refine c_seq ?_
    refine za0 ?_
    refine o_q rfl rfl (za3 rfl) ?_
    refine bindE2 h (fun i3 i4 hx2 h => ?_) rfl
    refine o_e rfl (za9 1 Z Try.func129 N129 rfl rfl rfl (fun w P1 hF hB hS hT => spec_l1Cur_next.calls g0 A0_0 c0_0 l0_0.length l0_0 a0_1 a0_2 hB hF (hS _ R0_0) hc0_0 _ _ hx2)) (fun _ => ?_)
    refine o_q rfl rfl (q_asg rfl) ?_
    refine o_end ?_
    refine za2 ?_
    refine c_seq ?_
    refine c_seq ?_
    refine za0 ?_
    refine o_q rfl rfl (za3 rfl) ?_
    refine o_q rfl rfl (q_gtr rfl rfl) ?_
    refine o_end ?_
    refine za2 ?_
    refine zat _ rfl (fun hb5 => ?_) (fun hb5 => ?_)
    · skip
      replace h := br_t hb5 h
      refine za0 ?_
      refine o_q rfl rfl (za3 rfl) ?_
      refine o_q rfl rfl (q_mul64 rfl rfl) ?_
      refine o_q rfl rfl (za3 rfl) ?_
      refine bindE2 h (fun i7 i8 hx6 h => ?_) rfl
      refine o_e rfl (za9 1 Z Try.func129 N129 rfl rfl rfl (fun w P1 hF hB hS hT => spec_l1Cur_next.calls g0 A0_0 c0_0 l0_0.length l0_0 (w64 (a0_1 + 1)) i4 hB hF (hS _ R0_0) hc0_0 _ _ hx6)) (fun _ => ?_)
      refine o_q rfl rfl (q_add64 rfl rfl) ?_
      refine o_q rfl rfl (q_asg rfl) ?_
      refine o_end ?_
      refine za2 ?_
      refine c_seq ?_
      refine za0 ?_
      refine o_q rfl rfl (za3 rfl) ?_
      refine o_q rfl rfl (za3 rfl) ?_
      refine za8 h (fun _ hz9 h => ?_) rfl
      refine o_q rfl rfl (q_rem rfl rfl (nz_ne hz9)) ?_
      refine o_q rfl rfl (q_asg rfl) ?_
      refine o_end ?_
      refine za2 ?_
      refine c_ret ?_
      have e0_ := Option.some.inj h; clear h
      have d0_ := (Prod.mk.inj e0_).1; have e1_ := (Prod.mk.inj e0_).2; clear e0_; subst d0_
      have d1_ := (Prod.mk.inj e1_).1; have e2_ := (Prod.mk.inj e1_).2; clear e1_; subst d1_
      subst e2_
      exact x_r1 () Try.results66 (zaj rfl) rfl (fun w h => za5 [0] (by decide) rfl w h)
    · skip
      replace h := br_f hb5 h
      refine zaq ?_
      refine za2 ?_
      refine c_seq ?_
      refine za0 ?_
      refine o_q rfl rfl (za3 rfl) ?_
      refine o_q rfl rfl (za3 rfl) ?_
      refine za8 h (fun _ hz10 h => ?_) rfl
      refine o_q rfl rfl (q_rem rfl rfl (nz_ne hz10)) ?_
      refine o_q rfl rfl (q_asg rfl) ?_
      refine o_end ?_
      refine za2 ?_
      refine c_ret ?_
      have e0_ := Option.some.inj h; clear h
      have d0_ := (Prod.mk.inj e0_).1; have e1_ := (Prod.mk.inj e0_).2; clear e0_; subst d0_
      have d1_ := (Prod.mk.inj e1_).1; have e2_ := (Prod.mk.inj e1_).2; clear e1_; subst d1_
      subst e2_
      exact x_r1 () Try.results66 (zaj rfl) rfl (fun w h => za5 [0] (by decide) rfl w h)

/-! ### (*loop.example/g01098/spec.l1Cur).one: function 102 -/
def spec_l1Cur_one.f (l0_0 : List Int) (a0_1 : Int) (a0_2 : Int) (a1 : Int) : Option (Bool × Int × Int) := (spec_l1Cur_pick.f l0_0 a0_1 a0_2 a1).bind fun (i2, i3, i4) => some (decide (i2 = 0), i3, i4)
set_option maxHeartbeats 600000 in
set_option maxRecDepth 100000 in
theorem spec_l1Cur_one.calls {w0 ws : World} {P0 : Nat → Prop} (g0 : Nat) (A0_0 : Option Addr) (c0_0 : Nat) (n0_0 : Nat) (l0_0 : List Int) (a0_1 : Int) (a0_2 : Int) (a1 : Int) (Z : Below w0.heap.size w0 ws) (hF : Fr w0 ws P0 [box g0 67 #[.slice A0_0 n0_0 c0_0, .int .i64 a0_1, .int .u64 a0_2]] ws) (R0_0 : Stable ws P0 (fun w => Kd.C (Kd.int .u8) w A0_0 n0_0 l0_0)) (hc0_0 : n0_0 ≤ c0_0) (r_1 : Bool) (r_2 : Int) (r_3 : Int) (h : spec_l1Cur_one.f l0_0 a0_1 a0_2 a1 = some (r_1, r_2, r_3)) :
    Calls Try.prog 102 #[.pointer (some ⟨g0, 0, none⟩), .int .i64 a1] ws (Post1 w0 ws P0 (fun (_ : Unit) => .bool r_1) (fun (_ : Unit) => [box g0 67 #[.slice A0_0 n0_0 c0_0, .int .i64 r_2, .int .u64 r_3]])) := by
  unfold spec_l1Cur_one.f at h
  obtain rfl := (R0_0 ws (KeptB.refl _ _)).1
  refine enter Try.func102 rfl Try.ntmps102 rfl hF ?_
  refine c_seq ?_
  refine za0 ?_
  refine o_q rfl rfl (q_asg rfl) ?_
  refine o_end ?_
  refine za2 ?_
  refine c_seq ?_
  refine za0 ?_
  refine o_q rfl rfl (za3 rfl) ?_
  refine o_q rfl rfl (za3 rfl) ?_
  refine bindE3 h (fun i2 i3 i4 hx1 h => ?_) rfl
  refine o_e rfl (za9 1 Z Try.func66 N66 rfl rfl rfl (fun w P1 hF hB hS hT => spec_l1Cur_pick.calls g0 A0_0 c0_0 l0_0.length l0_0 a0_1 a0_2 a1 hB hF (hS _ R0_0) hc0_0 _ _ _ hx1)) (fun _ => ?_)
  refine o_q rfl rfl (q_eql rfl rfl) ?_
  refine o_q rfl rfl (q_asg rfl) ?_
  refine o_end ?_
  refine za2 ?_
  refine c_ret ?_
  have e0_ := Option.some.inj h; clear h
  have d0_ := (Prod.mk.inj e0_).1; have e1_ := (Prod.mk.inj e0_).2; clear e0_; subst d0_
  have d1_ := (Prod.mk.inj e1_).1; have e2_ := (Prod.mk.inj e1_).2; clear e1_; subst d1_
  subst e2_
  exact x_r1 () Try.results102 (zaj rfl) rfl (fun w h => za5 [0] (by decide) rfl w h)

/-! ### (*loop.example/g01098/spec.l1Cur).among: function 56 -/
def spec_l1Cur_among.f (l0_0 : List Int) (a0_1 : Int) (a0_2 : Int) (l1 : List Int) : Option (Int × Int × Int) := (spec_l1Cur_pick.f l0_0 a0_1 a0_2 (l1.length : Int)).bind fun (i2, i3, i4) => (gt l1 i2).bind fun y7 => some (y7, i3, i4)
set_option maxHeartbeats 600000 in
set_option maxRecDepth 100000 in
theorem spec_l1Cur_among.calls {w0 ws : World} {P0 : Nat → Prop} (g0 : Nat) (A0_0 : Option Addr) (c0_0 : Nat) (n0_0 : Nat) (l0_0 : List Int) (a0_1 : Int) (a0_2 : Int) (A1 : Option Addr) (c1 : Nat) (n1 : Nat) (l1 : List Int) (Z : Below w0.heap.size w0 ws) (hF : Fr w0 ws P0 [box g0 67 #[.slice A0_0 n0_0 c0_0, .int .i64 a0_1, .int .u64 a0_2]] ws) (R0_0 : Stable ws P0 (fun w => Kd.C (Kd.int .u8) w A0_0 n0_0 l0_0)) (hc0_0 : n0_0 ≤ c0_0) (R1 : Stable ws P0 (fun w => Kd.C (Kd.int .i64) w A1 n1 l1)) (hc1 : n1 ≤ c1) (r_1 : Int) (r_2 : Int) (r_3 : Int) (h : spec_l1Cur_among.f l0_0 a0_1 a0_2 l1 = some (r_1, r_2, r_3)) :
    Calls Try.prog 56 #[.pointer (some ⟨g0, 0, none⟩), .slice A1 n1 c1] ws (Post1 w0 ws P0 (fun (_ : Unit) => .int .i64 r_1) (fun (_ : Unit) => [box g0 67 #[.slice A0_0 n0_0 c0_0, .int .i64 r_2, .int .u64 r_3]])) := by
  unfold spec_l1Cur_among.f at h
  obtain rfl := (R0_0 ws (KeptB.refl _ _)).1
  obtain rfl := (R1 ws (KeptB.refl _ _)).1
  refine enter Try.func56 rfl Try.ntmps56 rfl hF ?_
  refine c_seq ?_
  refine za0 ?_
  refine o_q rfl rfl (q_asg rfl) ?_
  refine o_end ?_
  refine za2 ?_
  refine c_seq ?_
  refine za0 ?_
  refine o_q rfl rfl (za3 rfl) ?_
  refine o_q rfl rfl (za3 rfl) ?_
  refine o_q rfl rfl (za3 rfl) ?_
  refine o_q rfl rfl (q_len Try.underlying25 rfl) ?_
  refine bindE3 h (fun i2 i3 i4 hx1 h => ?_) rfl
  refine o_e rfl (za9 1 Z Try.func66 N66 rfl rfl rfl (fun w P1 hF hB hS hT => spec_l1Cur_pick.calls g0 A0_0 c0_0 l0_0.length l0_0 a0_1 a0_2 (l1.length : Int) hB hF (hS _ R0_0) hc0_0 _ _ _ hx1)) (fun _ => ?_)
  refine o_fact (p := Sh A1 l1.length l1.length) (fun w h => f_sh (dk := (Kd.int .i64)) h (fun w h => R1.now Z h)) (fun hq5 => ?_)
  refine za8 h (fun y7 hg6 h => ?_) rfl
  refine o_q rfl rfl (q_ix Try.underlying25 Z3 rfl rfl hq5 hg6) ?_
  refine o_q rfl rfl (q_lde (off := 0) Y3 rfl rfl (fun w h => R1.now Z h) hg6 (fun _ _ h => h) rfl) ?_
  refine o_q rfl rfl (q_asg rfl) ?_
  refine o_end ?_
  refine za2 ?_
  refine c_ret ?_
  have e0_ := Option.some.inj h; clear h
  have d0_ := (Prod.mk.inj e0_).1; have e1_ := (Prod.mk.inj e0_).2; clear e0_; subst d0_
  have d1_ := (Prod.mk.inj e1_).1; have e2_ := (Prod.mk.inj e1_).2; clear e1_; subst d1_
  subst e2_
  exact x_r1 () Try.results56 (zaj rfl) rfl (fun w h => za5 [0] (by decide) rfl w h)

/-! ### (*loop.example/g01098/spec.l1Cur).inputs: function 65 -/
def spec_l1Cur_inputs.f (l0_0 : List Int) (a0_1 : Int) (a0_2 : Int) : Option (Int × Int × Int) := (spec_l1Cur_among.f l0_0 a0_1 a0_2 ([1, 1, 2, 2, 3, 4] : List Int)).bind fun (i5, i6, i7) => some (i5, i6, i7)
set_option maxHeartbeats 600000 in
set_option maxRecDepth 100000 in
theorem spec_l1Cur_inputs.calls {w0 ws : World} {P0 : Nat → Prop} (g0 : Nat) (A0_0 : Option Addr) (c0_0 : Nat) (n0_0 : Nat) (l0_0 : List Int) (a0_1 : Int) (a0_2 : Int) (Z : Below w0.heap.size w0 ws) (hF : Fr w0 ws P0 [box g0 67 #[.slice A0_0 n0_0 c0_0, .int .i64 a0_1, .int .u64 a0_2]] ws) (R0_0 : Stable ws P0 (fun w => Kd.C (Kd.int .u8) w A0_0 n0_0 l0_0)) (hc0_0 : n0_0 ≤ c0_0) (r_1 : Int) (r_2 : Int) (r_3 : Int) (h : spec_l1Cur_inputs.f l0_0 a0_1 a0_2 = some (r_1, r_2, r_3)) :
    Calls Try.prog 65 #[.pointer (some ⟨g0, 0, none⟩)] ws (Post1 w0 ws P0 (fun (_ : Unit) => .int .i64 r_1) (fun (_ : Unit) => [box g0 67 #[.slice A0_0 n0_0 c0_0, .int .i64 r_2, .int .u64 r_3]])) := by
  unfold spec_l1Cur_inputs.f at h
  obtain rfl := (R0_0 ws (KeptB.refl _ _)).1
  refine enter Try.func65 rfl Try.ntmps65 rfl hF ?_
  refine c_seq ?_
  refine za0 ?_
  refine o_q rfl rfl (q_asg rfl) ?_
  refine o_end ?_
  refine za2 ?_
  refine c_seq ?_
  refine za0 ?_
  refine o_q rfl rfl (za3 rfl) ?_
  refine o_e rfl (e_lit (vs := [(0, .int .i64 1), (1, .int .i64 1), (2, .int .i64 2), (3, .int .i64 2), (4, .int .i64 3), (5, .int .i64 4)]) (cs := [.int .i64 1, .int .i64 1, .int .i64 2, .int .i64 2, .int .i64 3, .int .i64 4]) (Kd.int .i64) ([1, 1, 2, 2, 3, 4] : List Int) Try.underlying25 I3 (by decide) rfl (by decide) rfl rfl (fun _ _ => Kd.zao _)) (cur2 (fun A1 c2 => ?_))
  refine o_pick [1, 0] (by decide) rfl ?_
  refine bindE3 h (fun i5 i6 i7 hx4 h => ?_) rfl
  refine o_e rfl (za9 1 Z Try.func56 N56 rfl rfl rfl (fun w P1 hF hB hS hT => spec_l1Cur_among.calls g0 A0_0 c0_0 l0_0.length l0_0 a0_1 a0_2 A1 c2 (([1, 1, 2, 2, 3, 4] : List Int).length) ([1, 1, 2, 2, 3, 4] : List Int) hB hF (hS _ R0_0) hc0_0 (hT 0 _ rfl).row (hT 0 _ rfl).cap _ _ _ hx4)) (fun _ => ?_)
  refine o_q rfl rfl (q_asg rfl) ?_
  refine o_end ?_
  refine za2 ?_
  refine c_ret ?_
  have e0_ := Option.some.inj h; clear h
  have d0_ := (Prod.mk.inj e0_).1; have e1_ := (Prod.mk.inj e0_).2; clear e0_; subst d0_
  have d1_ := (Prod.mk.inj e1_).1; have e2_ := (Prod.mk.inj e1_).2; clear e1_; subst d1_
  subst e2_
  exact x_r1 () Try.results65 (zaj rfl) rfl (fun w h => za5 [0] (by decide) rfl w h)

/-! ### loop.example/g01098/spec.l1Least: function 172 -/
def spec_l1Least.f (a0 : Int) (a1 : Int) : Option Int := if a0 < a1 then (some a0) else (some a1)
set_option maxHeartbeats 600000 in
set_option maxRecDepth 100000 in
theorem spec_l1Least.calls {w0 ws : World} {P0 : Nat → Prop} (a0 : Int) (a1 : Int) (Z : Below w0.heap.size w0 ws) (hF : Fr w0 ws P0 [] ws)  (r_1 : Int) (h : spec_l1Least.f a0 a1 = some r_1) :
    Calls Try.prog 172 #[.int .i64 a0, .int .i64 a1] ws (Post1 w0 ws P0 (fun (_ : Unit) => .int .i64 r_1) (fun (_ : Unit) => [])) := by
  unfold spec_l1Least.f at h
  refine enter Try.func172 rfl Try.ntmps172 rfl hF ?_
  refine c_seq ?_
  refine za0 ?_
  refine o_q rfl rfl (q_asg rfl) ?_
  refine o_end ?_
  refine za2 ?_
  refine c_seq ?_
  refine c_seq ?_
  refine za0 ?_
  refine o_q rfl rfl (za3 rfl) ?_
  refine o_q rfl rfl (za3 rfl) ?_
  refine o_q rfl rfl (q_lss rfl rfl) ?_
  refine o_end ?_
  refine za2 ?_
  refine zat _ rfl (fun hb1 => ?_) (fun hb1 => ?_)
  · skip
    replace h := br_t hb1 h
    refine c_seq ?_
    refine za0 ?_
    refine o_q rfl rfl (za3 rfl) ?_
    refine o_q rfl rfl (q_asg rfl) ?_
    refine o_end ?_
    refine za2 ?_
    refine c_ret ?_
    refine zaf ?_
    have e0_ := Option.some.inj h; clear h
    subst e0_
    exact x_r1 () Try.results172 (zaj rfl) rfl (fun w h => za5 [] (by decide) rfl w h)
  · skip
    replace h := br_f hb1 h
    refine zaq ?_
    refine za2 ?_
    refine c_seq ?_
    refine za0 ?_
    refine o_q rfl rfl (za3 rfl) ?_
    refine o_q rfl rfl (q_asg rfl) ?_
    refine o_end ?_
    refine za2 ?_
    refine c_ret ?_
    have e0_ := Option.some.inj h; clear h
    subst e0_
    exact x_r1 () Try.results172 (zaj rfl) rfl (fun w h => za5 [] (by decide) rfl w h)

/-! ### loop.example/g01098/spec.l1Most: function 126 -/
def spec_l1Most.f (a0 : Int) (a1 : Int) : Option Int := if a1 < a0 then (some a0) else (some a1)
set_option maxHeartbeats 600000 in
set_option maxRecDepth 100000 in
theorem spec_l1Most.calls {w0 ws : World} {P0 : Nat → Prop} (a0 : Int) (a1 : Int) (Z : Below w0.heap.size w0 ws) (hF : Fr w0 ws P0 [] ws)  (r_1 : Int) (h : spec_l1Most.f a0 a1 = some r_1) :
    Calls Try.prog 126 #[.int .i64 a0, .int .i64 a1] ws (Post1 w0 ws P0 (fun (_ : Unit) => .int .i64 r_1) (fun (_ : Unit) => [])) := by
  unfold spec_l1Most.f at h
  refine enter Try.func126 rfl Try.ntmps126 rfl hF ?_
  refine c_seq ?_
  refine za0 ?_
  refine o_q rfl rfl (q_asg rfl) ?_
  refine o_end ?_
  refine za2 ?_
  refine c_seq ?_
  refine c_seq ?_
  refine za0 ?_
  refine o_q rfl rfl (za3 rfl) ?_
  refine o_q rfl rfl (za3 rfl) ?_
  refine o_q rfl rfl (q_gtr rfl rfl) ?_
  refine o_end ?_
  refine za2 ?_
  refine zat _ rfl (fun hb1 => ?_) (fun hb1 => ?_)
  · skip
    replace h := br_t hb1 h
    refine c_seq ?_
    refine za0 ?_
    refine o_q rfl rfl (za3 rfl) ?_
    refine o_q rfl rfl (q_asg rfl) ?_
    refine o_end ?_
    refine za2 ?_
    refine c_ret ?_
    refine zaf ?_
    have e0_ := Option.some.inj h; clear h
    subst e0_
    exact x_r1 () Try.results126 (zaj rfl) rfl (fun w h => za5 [] (by decide) rfl w h)
  · skip
    replace h := br_f hb1 h
    refine zaq ?_
    refine za2 ?_
    refine c_seq ?_
    refine za0 ?_
    refine o_q rfl rfl (za3 rfl) ?_
    refine o_q rfl rfl (q_asg rfl) ?_
    refine o_end ?_
    refine za2 ?_
    refine c_ret ?_
    have e0_ := Option.some.inj h; clear h
    subst e0_
    exact x_r1 () Try.results126 (zaj rfl) rfl (fun w h => za5 [] (by decide) rfl w h)

/-! ### loop.example/g01098/spec.plStep: function 171 -/
def spec_plStep.f (a0 : Int) (a1 : Int) : Option SStep := (spec_l1Least.f a0 a1).bind fun i4 => (spec_l1Most.f a0 a1).bind fun i6 => some (⟨i4, i6⟩ : SStep)
set_option maxHeartbeats 600000 in
set_option maxRecDepth 100000 in
theorem spec_plStep.calls {w0 ws : World} {P0 : Nat → Prop} (a0 : Int) (a1 : Int) (Z : Below w0.heap.size w0 ws) (hF : Fr w0 ws P0 [] ws)  (r_1 : SStep) (h : spec_plStep.f a0 a1 = some r_1) :
    Calls Try.prog 171 #[.int .i64 a0, .int .i64 a1] ws (Post1 w0 ws P0 (fun (_ : Unit) => .agg #[.int .i64 r_1.f0, .int .i64 r_1.f1]) (fun (_ : Unit) => [])) := by
  unfold spec_plStep.f at h
  refine enter Try.func171 rfl Try.ntmps171 rfl hF ?_
  refine c_seq ?_
  refine za0 ?_
  refine o_e rfl (e_alloc V88 rfl) (fun g1 => ?_)
  refine o_end ?_
  refine za2 ?_
  refine c_seq ?_
  refine za0 ?_
  refine o_q rfl rfl (za3 rfl) ?_
  refine o_q rfl rfl (za3 rfl) ?_
  refine za8 h (fun i4 hx3 h => ?_) rfl
  refine o_e rfl (za9 0 Z Try.func172 N172 rfl rfl rfl (fun w P1 hF hB hS hT => spec_l1Least.calls a0 a1 hB hF _ hx3)) (fun _ => ?_)
  refine o_q rfl rfl (za3 rfl) ?_
  refine o_q rfl rfl (za3 rfl) ?_
  refine za8 h (fun i6 hx5 h => ?_) rfl
  refine o_e rfl (za9 0 Z Try.func126 N126 rfl rfl rfl (fun w P1 hF hB hS hT => spec_l1Most.calls a0 a1 hB hF _ hx5)) (fun _ => ?_)
  refine o_q rfl rfl (q_build (vs := [(0, .int .i64 i4), (1, .int .i64 i6)]) (cs := [.int .i64 i4, .int .i64 i6]) rfl rfl) ?_
  refine o_e rfl (zaz (i := 0) rfl rfl rfl Z88 rfl rfl) (fun _ => ?_)
  refine o_end ?_
  refine za2 ?_
  refine c_ret ?_
  have e0_ := Option.some.inj h; clear h
  subst e0_
  exact x_r1 () Try.results171 (rv_cell rfl G88 Z88 (fun w h => h.zac (i := 0) rfl) rfl) rfl (fun w h => za5 [] (by decide) rfl w h)

/-! ### (*loop.example/g01098/spec.l1Cur).plan: function 128 -/
def spec_l1Cur_plan.l1 (l0_0 : List Int) (i4 : Int) (l14 : List SStep) : Nat → (List Int) → Int → Int → Int → Option ((List Int) × Int × Int)
  | 0, _, _, _, _ => none
  | k787 + 1, l779, i782, i783, i784 => if 0 < i784 then ((spec_l1Least.f (w64 (w64 (1 + i4) + (l14.length : Int))) 4).bind fun i1158 => (spec_l1Cur_pick.f l0_0 i782 i783 i1158).bind fun (i1218, i1219, i1220) => (ap l779 ([w64 (w64 (w64 (w64 (1 + i4) + (l14.length : Int)) - 1) - i1218)] : List Int)).bind fun l1397 => spec_l1Cur_plan.l1 l0_0 i4 l14 k787 l1397 i1219 i1220 (w64 (i784 - 1))) else (some (l779, i782, i783))
def spec_l1Cur_plan.l0 (l0_0 : List Int) (i4 : Int) : Nat → (List SStep) → Int → Int → Int → Option ((List SStep) × Int × Int)
  | 0, _, _, _, _ => none
  | k22 + 1, l14, i17, i18, i19 => if 0 < i19 then ((spec_l1Cur_pick.f l0_0 i17 i18 (w64 (w64 (1 + i4) + (l14.length : Int)))).bind fun (i32, i33, i34) => ((spec_l1Cur_one.f l0_0 i33 i34 2).bind fun (b49, i50, i51) => if b49 = true then (some (i50, i51, w64 (w64 (w64 (1 + i4) + (l14.length : Int)) - 1))) else (some (i50, i51, i32))).bind fun (i40, i41, i42) => (spec_l1Cur_pick.f l0_0 i40 i41 (w64 (w64 (1 + i4) + (l14.length : Int)))).bind fun (i355, i356, i357) => (spec_plStep.f i42 i355).bind fun z415 => (ap l14 ([z415] : List SStep)).bind fun l534 => spec_l1Cur_plan.l0 l0_0 i4 k22 l534 i356 i357 (w64 (i19 - 1))) else (some (l14, i17, i18))
def spec_l1Cur_plan.f (k : Nat) (l0_0 : List Int) (a0_1 : Int) (a0_2 : Int) (a1 : Int) (a2 : Int) : Option (Int × (List SStep) × (List Int) × Int × Int) := (spec_l1Cur_pick.f l0_0 a0_1 a0_2 a1).bind fun (i4, i5, i6) => (spec_l1Cur_pick.f l0_0 i5 i6 (w64 (a2 + 1))).bind fun (i10, i11, i12) => (spec_l1Cur_plan.l0 l0_0 i4 k ([] : List SStep) i11 i12 i10).bind fun (l14, i17, i18) => (spec_l1Cur_pick.f l0_0 i17 i18 3).bind fun (i775, i776, i777) => (spec_l1Cur_plan.l1 l0_0 i4 l14 k ([] : List Int) i776 i777 (w64 (1 + i775))).bind fun (l779, i782, i783) => ((spec_l1Cur_one.f l0_0 i782 i783 12).bind fun (b1653, i1654, i1655) => if b1653 = true then (some (([] : List Int), i1654, i1655)) else (some (l779, i1654, i1655))).bind fun (l1642, i1645, i1646) => some (w64 (1 + i4), l14, l1642, i1645, i1646)
set_option maxHeartbeats 600000 in
set_option maxRecDepth 100000 in
theorem spec_l1Cur_plan.calls (k : Nat) {w0 ws : World} {P0 : Nat → Prop} (g0 : Nat) (A0_0 : Option Addr) (c0_0 : Nat) (n0_0 : Nat) (l0_0 : List Int) (a0_1 : Int) (a0_2 : Int) (a1 : Int) (a2 : Int) (Z : Below w0.heap.size w0 ws) (hF : Fr w0 ws P0 [box g0 67 #[.slice A0_0 n0_0 c0_0, .int .i64 a0_1, .int .u64 a0_2]] ws) (R0_0 : Stable ws P0 (fun w => Kd.C (Kd.int .u8) w A0_0 n0_0 l0_0)) (hc0_0 : n0_0 ≤ c0_0) (r_1 : Int) (r_2 : List SStep) (r_5 : List Int) (r_8 : Int) (r_9 : Int) (h : spec_l1Cur_plan.f k l0_0 a0_1 a0_2 a1 a2 = some (r_1, r_2, r_5, r_8, r_9)) :
    Calls Try.prog 128 #[.pointer (some ⟨g0, 0, none⟩), .int .i64 a1, .int .i64 a2] ws (Post1 w0 ws P0 (fun ((q_3, q_4, q_6, q_7) : (Option Addr) × Nat × (Option Addr) × Nat) => .agg #[.int .i64 r_1, .slice q_3 r_2.length q_4, .slice q_6 r_5.length q_7]) (fun ((q_3, q_4, q_6, q_7) : (Option Addr) × Nat × (Option Addr) × Nat) => [row kStep 88 (.slice q_3 r_2.length q_4) r_2, row (Kd.int .i64) 3 (.slice q_6 r_5.length q_7) r_5, box g0 67 #[.slice A0_0 n0_0 c0_0, .int .i64 r_8, .int .u64 r_9]])) := by
  unfold spec_l1Cur_plan.f at h
  obtain rfl := (R0_0 ws (KeptB.refl _ _)).1
  refine enter Try.func128 rfl Try.ntmps128 rfl hF ?_
  refine c_seq ?_
  refine za0 ?_
  refine o_e rfl (e_alloc V27 rfl) (fun g1 => ?_)
  refine o_end ?_
  refine za2 ?_
  refine c_seq ?_
  refine za0 ?_
  refine o_q rfl rfl (za3 rfl) ?_
  refine o_q rfl rfl (za3 rfl) ?_
  refine o_pick [1, 0] (by decide) rfl ?_
  refine bindE3 h (fun i4 i5 i6 hx3 h => ?_) rfl
  refine o_e rfl (za9 1 Z Try.func66 N66 rfl rfl rfl (fun w P1 hF hB hS hT => spec_l1Cur_pick.calls g0 A0_0 c0_0 l0_0.length l0_0 a0_1 a0_2 a1 hB hF (hS _ R0_0) hc0_0 _ _ _ hx3)) (fun _ => ?_)
  refine o_q rfl rfl (q_add64 rfl rfl) ?_
  refine o_q rfl rfl (q_build (vs := [(0, .int .i64 (w64 (1 + i4)))]) (cs := [.int .i64 (w64 (1 + i4)), .slice none 0 0, .slice none 0 0]) rfl rfl) ?_
  refine o_e rfl (e_alloc V27 rfl) (fun g7 => ?_)
  refine o_e rfl (zaz (i := 0) rfl rfl rfl Z27 rfl rfl) (fun _ => ?_)
  refine o_end ?_
  refine za2 ?_
  refine c_seq ?_
  refine c_seq ?_
  refine za0 ?_
  refine o_q rfl rfl (za3 rfl) ?_
  refine o_q rfl rfl (za3 rfl) ?_
  refine o_q rfl rfl (q_add64 rfl rfl) ?_
  refine o_pick [1, 0, 2] (by decide) rfl ?_
  refine bindE3 h (fun i10 i11 i12 hx9 h => ?_) rfl
  refine o_e rfl (za9 1 Z Try.func66 N66 rfl rfl rfl (fun w P1 hF hB hS hT => spec_l1Cur_pick.calls g0 A0_0 c0_0 l0_0.length l0_0 i5 i6 (w64 (a2 + 1)) hB hF (hS _ R0_0) hc0_0 _ _ _ hx9)) (fun _ => ?_)
  refine o_q rfl rfl (q_asg rfl) ?_
  refine o_end ?_
  refine za2 ?_
  refine zam ?_
  refine c_nil kStep 88 ?_
  refine za8 h (fun o27 hl26 hR25 => ?_) rfl
  clear h
  refine zaw (σ := (List SStep) × Int × Int × Int × (Option Addr) × Nat) (fun k22 ((l14, i17, i18, i19, A15, c16) : (List SStep) × Int × Int × Int × (Option Addr) × Nat) => spec_l1Cur_plan.l0 l0_0 i4 k22 l14 i17 i18 i19 = some o27) [8, 9, 10, 22, 23, 24, 25, 26, 27, 28, 29, 30, 31, 32, 33, 34, 35, 36, 37, 38, 39, 40, 41, 42, 43, 44, 45, 46, 47, 48] (fun ((l14, i17, i18, i19, A15, c16) : (List SStep) × Int × Int × Int × (Option Addr) × Nat) => [(8, .int .i64 i19)]) (fun ((l14, i17, i18, i19, A15, c16) : (List SStep) × Int × Int × Int × (Option Addr) × Nat) => [row kStep 88 (.slice A15 l14.length c16) l14, box g0 67 #[.slice A0_0 l0_0.length c0_0, .int .i64 i17, .int .u64 i18], box g7 27 #[.int .i64 (w64 (1 + i4)), .slice A15 l14.length c16, .slice none 0 0], box g1 27 #[.int .i64 0, .slice none 0 0, .slice none 0 0]]) k (([] : List SStep), i11, i12, i10, none, 0) hl26 ⟨rfl, trivial⟩ (fun w h => h) ?_
  refine natC (cur6 (fun l14 i17 i18 i19 A15 c16 => fun U28 hJ_ => ?_)) (fun k22 => (cur6 (fun l14 i17 i18 i19 A15 c16 => fun U28 hJ_ => ?_)))
  · skip
    replace hJ_ : spec_l1Cur_plan.l0 l0_0 i4 0 l14 i17 i18 i19 = some o27 := hJ_
    rw [spec_l1Cur_plan.l0] at hJ_
    exact noneE hJ_
  · skip
    clear hl26
    have h := hJ_; clear hJ_
    replace h : spec_l1Cur_plan.l0 l0_0 i4 (k22 + 1) l14 i17 i18 i19 = some o27 := h
    rw [spec_l1Cur_plan.l0] at h
    refine c_seq ?_
    refine c_seq ?_
    refine za0 ?_
    refine o_q rfl rfl (za3 rfl) ?_
    refine o_q rfl rfl (q_gtr rfl rfl) ?_
    refine o_end ?_
    refine za2 ?_
    refine zat _ rfl (fun hb30 => ?_) (fun hb30 => ?_)
    · skip
      replace h := br_t hb30 h
      refine zaq ?_
      refine za2 ?_
      refine c_seq ?_
      refine zam ?_
      refine c_seq ?_
      refine za0 ?_
      refine o_q rfl rfl (q_f F27_0 rfl) ?_
      refine o_q rfl rfl (q_ldb Y3 rfl (fun w h => h.zac (i := 2) rfl) rfl) ?_
      refine o_q rfl rfl (q_f F27_1 rfl) ?_
      refine o_q rfl rfl (q_ldb Y24 rfl (fun w h => h.zac (i := 2) rfl) rfl) ?_
      refine o_q rfl rfl (q_len Try.underlying24 rfl) ?_
      refine o_q rfl rfl (q_add64 rfl rfl) ?_
      refine o_q rfl rfl (q_asg rfl) ?_
      refine o_end ?_
      refine za2 ?_
      refine c_seq ?_
      refine za0 ?_
      refine o_q rfl rfl (za3 rfl) ?_
      refine o_q rfl rfl (za3 rfl) ?_
      refine o_pick [1, 0, 2, 3] (by decide) rfl ?_
      refine bindE3 h (fun i32 i33 i34 hx31 h => ?_) rfl
      refine o_e rfl (za9 1 Z Try.func66 N66 rfl rfl rfl (fun w P1 hF hB hS hT => spec_l1Cur_pick.calls g0 A0_0 c0_0 l0_0.length l0_0 i17 i18 (w64 (w64 (1 + i4) + (l14.length : Int))) hB hF (hS _ R0_0) hc0_0 _ _ _ hx31)) (fun _ => ?_)
      refine o_q rfl rfl (q_asg rfl) ?_
      refine o_end ?_
      refine za2 ?_
      refine za8 h (fun o43 hl44 hR45 => ?_) rfl
      clear h
      refine c_cutJ (σ := Int × Int × Int) (fun (i40, i41, i42) => some (i40, i41, i42) = some o43) [10, 35, 36, 37, 38] (fun (i40, i41, i42) => [(10, .int .i64 i42)]) (fun (i40, i41, i42) => [box g0 67 #[.slice A0_0 l0_0.length c0_0, .int .i64 i40, .int .u64 i41], box g1 27 #[.int .i64 0, .slice none 0 0, .slice none 0 0], box g7 27 #[.int .i64 (w64 (1 + i4)), .slice A15 l14.length c16, .slice none 0 0], row kStep 88 (.slice A15 l14.length c16) l14]) ?_ ?_
      · skip
        have h := hl44; clear hl44
        clear hR45
        refine c_seq ?_
        refine za0 ?_
        refine o_q rfl rfl (za3 rfl) ?_
        refine bindE3 h (fun b49 i50 i51 hx48 h => ?_) rfl
        refine o_e rfl (za9 1 Z Try.func102 N102 rfl rfl rfl (fun w P1 hF hB hS hT => spec_l1Cur_one.calls g0 A0_0 c0_0 l0_0.length l0_0 i33 i34 2 hB hF (hS _ R0_0) hc0_0 _ _ _ hx48)) (fun _ => ?_)
        refine o_end ?_
        refine za2 ?_
        refine zat _ rfl (fun hb52 => ?_) (fun hb52 => ?_)
        · skip
          replace h := bb_t hb52 h
          refine za0 ?_
          refine o_q rfl rfl (za3 rfl) ?_
          refine o_q rfl rfl (q_sub64 rfl rfl) ?_
          refine o_q rfl rfl (q_asg rfl) ?_
          refine o_end ?_
          refine x_meetJ (i50, i51, w64 (w64 (w64 (1 + i4) + (l14.length : Int)) - 1)) h ⟨rfl, trivial⟩ (fun w h => za5 [0, 3, 2, 1] (by decide) rfl w h) ?_
          repeat (first | exact zad _ _ | refine zah rfl ?_ | refine zae rfl ?_ | refine zai rfl ?_)
        · skip
          replace h := bb_f hb52 h
          refine zaq ?_
          refine x_meetJ (i50, i51, i32) h ⟨rfl, trivial⟩ (fun w h => za5 [0, 3, 2, 1] (by decide) rfl w h) ?_
          repeat (first | exact zad _ _ | refine zah rfl ?_ | refine zae rfl ?_ | refine zai rfl ?_)
      · skip
        refine (cur3 (fun i40 i41 i42 => fun U46 hJ47 => ?_))
        have e_ := Option.some.inj hJ47; have h := hR45; rw [← e_] at h; clear e_ hJ47 hR45 hl44
        refine bindE3 h (fun i355 i356 i357 hx354 h => ?_) rfl
        refine za8 h (fun z415 hx414 h => ?_) rfl
        refine za8 h (fun l534 ha535 h => ?_) rfl
        refine a_startS (ds := []) [none, some 1, none, none] MO rfl ?_
        refine za7 0 rfl rfl rfl (by kernel_rfl) (fun _ _ _ h => h) (q_f F27_1 rfl) ?_
        refine za7 2 rfl rfl rfl (by kernel_rfl) (fun _ _ _ h => h) (za3 rfl) ?_
        refine za7 3 rfl rfl rfl (by kernel_rfl) (fun _ _ _ h => h) (za3 rfl) ?_
        refine za7 4 rfl rfl rfl (by kernel_rfl) (fun _ _ _ h => h) (za3 rfl) ?_
        refine a_two 1 5 rfl rfl rfl rfl (by kernel_rfl) rfl rfl (ev_q rfl (q_ldb Y24 rfl (fun w h => h.zac (i := 2) rfl) rfl)) (fun s w h => zab [none, some 1, none, none] (by decide) w h rfl) (za9 1 Z Try.func66 N66 rfl rfl rfl (fun w P1 hF hB hS hT => spec_l1Cur_pick.calls g0 A0_0 c0_0 l0_0.length l0_0 i40 i41 (w64 (w64 (1 + i4) + (l14.length : Int))) hB hF (hS _ R0_0) hc0_0 _ _ _ hx354)) (fun s w h => zab [none, some 1, none, none] (by decide) w h rfl) (fun _ => ?_) (fun _ => ?_)
        · skip
          refine a_one 5 rfl rfl (by kernel_rfl) rfl (za9 1 Z Try.func66 N66 rfl rfl rfl (fun w P1 hF hB hS hT => spec_l1Cur_pick.calls g0 A0_0 c0_0 l0_0.length l0_0 i40 i41 (w64 (w64 (1 + i4) + (l14.length : Int))) hB hF (hS _ R0_0) hc0_0 _ _ _ hx354)) (fun s w h => zab [none, some 1, none, none] (by decide) w h rfl) (fun _ => ?_)
          refine a_one 6 rfl rfl (by kernel_rfl) rfl (za9 0 Z Try.func171 N171 rfl rfl rfl (fun w P1 hF hB hS hT => spec_plStep.calls i42 i355 hB hF _ hx414)) (fun s w h => zab [none, some 1, none, none] (by decide) w h rfl) (fun _ => ?_)
          refine a_one 7 rfl rfl (by kernel_rfl) rfl (e_lit (vs := [(0, .agg #[.int .i64 z415.f0, .int .i64 z415.f1])]) (cs := [.int .i64 z415.f0, .int .i64 z415.f1]) kStep ([z415] : List SStep) Try.underlying24 I88 (by decide) rfl (by decide) rfl rfl (fun _ _ => reps_flat _)) (fun s w h => zab [none, some 2, none, none] (by decide) w h rfl) (cur2 (fun A474 c475 => ?_))
          refine a_one 8 rfl rfl (by kernel_rfl) rfl (e_app (i := 4) (j := 0) Try.underlying24 I88 rfl (by decide) (by decide) rfl rfl rfl rfl rfl ha535) (fun s w h => zab [none, some 2, none, none] (by decide) w h rfl) (cur2 (fun A536 c537 => ?_))
          refine za7 9 rfl rfl rfl (by kernel_rfl) (fun _ _ _ h => h) (q_f F27_1 rfl) ?_
          refine a_one 10 rfl rfl (by kernel_rfl) rfl (e_store (i := 3) rfl rfl rfl rfl Z24 rfl rfl) (fun s w h => zab [none, some 2, none, none] (by decide) w h rfl) (fun _ => ?_)
          refine zav (by kernel_rfl) ?_
          refine zal ?_
          refine za2 ?_
          refine za0 ?_
          refine o_q rfl rfl (za3 rfl) ?_
          refine o_q rfl rfl (q_sub64 rfl rfl) ?_
          refine o_q rfl rfl (q_asg rfl) ?_
          refine o_end ?_
          refine zak k22 (l534, i356, i357, w64 (i19 - 1), A536, c537) (Nat.lt_succ_self _) h ⟨rfl, trivial⟩ (fun w h => za5 [4, 1, 3, 2] (by decide) rfl w h) ?_
          repeat (first | exact zad _ _ | refine zah rfl ?_ | refine zae rfl ?_ | refine zai rfl ?_)
        · skip
          refine a_two 1 6 rfl rfl rfl rfl (by kernel_rfl) rfl rfl (ev_q rfl (q_ldb Y24 rfl (fun w h => h.zac (i := 2) rfl) rfl)) (fun s w h => zab [none, some 1, none, none] (by decide) w h rfl) (za9 0 Z Try.func171 N171 rfl rfl rfl (fun w P1 hF hB hS hT => spec_plStep.calls i42 i355 hB hF _ hx414)) (fun s w h => zab [none, some 1, none, none] (by decide) w h rfl) (fun _ => ?_) (fun _ => ?_)
          · skip
            refine a_one 6 rfl rfl (by kernel_rfl) rfl (za9 0 Z Try.func171 N171 rfl rfl rfl (fun w P1 hF hB hS hT => spec_plStep.calls i42 i355 hB hF _ hx414)) (fun s w h => zab [none, some 1, none, none] (by decide) w h rfl) (fun _ => ?_)
            refine a_one 7 rfl rfl (by kernel_rfl) rfl (e_lit (vs := [(0, .agg #[.int .i64 z415.f0, .int .i64 z415.f1])]) (cs := [.int .i64 z415.f0, .int .i64 z415.f1]) kStep ([z415] : List SStep) Try.underlying24 I88 (by decide) rfl (by decide) rfl rfl (fun _ _ => reps_flat _)) (fun s w h => zab [none, some 2, none, none] (by decide) w h rfl) (cur2 (fun A474 c475 => ?_))
            refine a_one 8 rfl rfl (by kernel_rfl) rfl (e_app (i := 4) (j := 0) Try.underlying24 I88 rfl (by decide) (by decide) rfl rfl rfl rfl rfl ha535) (fun s w h => zab [none, some 2, none, none] (by decide) w h rfl) (cur2 (fun A536 c537 => ?_))
            refine za7 9 rfl rfl rfl (by kernel_rfl) (fun _ _ _ h => h) (q_f F27_1 rfl) ?_
            refine a_one 10 rfl rfl (by kernel_rfl) rfl (e_store (i := 3) rfl rfl rfl rfl Z24 rfl rfl) (fun s w h => zab [none, some 2, none, none] (by decide) w h rfl) (fun _ => ?_)
            refine zav (by kernel_rfl) ?_
            refine zal ?_
            refine za2 ?_
            refine za0 ?_
            refine o_q rfl rfl (za3 rfl) ?_
            refine o_q rfl rfl (q_sub64 rfl rfl) ?_
            refine o_q rfl rfl (q_asg rfl) ?_
            refine o_end ?_
            refine zak k22 (l534, i356, i357, w64 (i19 - 1), A536, c537) (Nat.lt_succ_self _) h ⟨rfl, trivial⟩ (fun w h => za5 [4, 1, 3, 2] (by decide) rfl w h) ?_
            repeat (first | exact zad _ _ | refine zah rfl ?_ | refine zae rfl ?_ | refine zai rfl ?_)
          · skip
            refine a_two 1 7 rfl rfl rfl rfl (by kernel_rfl) rfl rfl (ev_q rfl (q_ldb Y24 rfl (fun w h => h.zac (i := 2) rfl) rfl)) (fun s w h => zab [none, some 1, none, none] (by decide) w h rfl) (e_lit (vs := [(0, .agg #[.int .i64 z415.f0, .int .i64 z415.f1])]) (cs := [.int .i64 z415.f0, .int .i64 z415.f1]) kStep ([z415] : List SStep) Try.underlying24 I88 (by decide) rfl (by decide) rfl rfl (fun _ _ => reps_flat _)) (fun s w h => zab [none, some 2, none, none] (by decide) w h rfl) (fun _ => ?_) (cur2 (fun A474 c475 => ?_))
            · skip
              refine a_one 7 rfl rfl (by kernel_rfl) rfl (e_lit (vs := [(0, .agg #[.int .i64 z415.f0, .int .i64 z415.f1])]) (cs := [.int .i64 z415.f0, .int .i64 z415.f1]) kStep ([z415] : List SStep) Try.underlying24 I88 (by decide) rfl (by decide) rfl rfl (fun _ _ => reps_flat _)) (fun s w h => zab [none, some 2, none, none] (by decide) w h rfl) (cur2 (fun A474 c475 => ?_))
              refine a_one 8 rfl rfl (by kernel_rfl) rfl (e_app (i := 4) (j := 0) Try.underlying24 I88 rfl (by decide) (by decide) rfl rfl rfl rfl rfl ha535) (fun s w h => zab [none, some 2, none, none] (by decide) w h rfl) (cur2 (fun A536 c537 => ?_))
              refine za7 9 rfl rfl rfl (by kernel_rfl) (fun _ _ _ h => h) (q_f F27_1 rfl) ?_
              refine a_one 10 rfl rfl (by kernel_rfl) rfl (e_store (i := 3) rfl rfl rfl rfl Z24 rfl rfl) (fun s w h => zab [none, some 2, none, none] (by decide) w h rfl) (fun _ => ?_)
              refine zav (by kernel_rfl) ?_
              refine zal ?_
              refine za2 ?_
              refine za0 ?_
              refine o_q rfl rfl (za3 rfl) ?_
              refine o_q rfl rfl (q_sub64 rfl rfl) ?_
              refine o_q rfl rfl (q_asg rfl) ?_
              refine o_end ?_
              refine zak k22 (l534, i356, i357, w64 (i19 - 1), A536, c537) (Nat.lt_succ_self _) h ⟨rfl, trivial⟩ (fun w h => za5 [4, 1, 3, 2] (by decide) rfl w h) ?_
              repeat (first | exact zad _ _ | refine zah rfl ?_ | refine zae rfl ?_ | refine zai rfl ?_)
            · skip
              refine a_one 1 rfl rfl (by kernel_rfl) rfl (ev_q rfl (q_ldb Y24 rfl (fun w h => h.zac (i := 3) rfl) rfl)) (fun s w h => zab [none, some 2, none, none] (by decide) w h rfl) (fun _ => ?_)
              refine a_one 8 rfl rfl (by kernel_rfl) rfl (e_app (i := 4) (j := 0) Try.underlying24 I88 rfl (by decide) (by decide) rfl rfl rfl rfl rfl ha535) (fun s w h => zab [none, some 2, none, none] (by decide) w h rfl) (cur2 (fun A536 c537 => ?_))
              refine za7 9 rfl rfl rfl (by kernel_rfl) (fun _ _ _ h => h) (q_f F27_1 rfl) ?_
              refine a_one 10 rfl rfl (by kernel_rfl) rfl (e_store (i := 3) rfl rfl rfl rfl Z24 rfl rfl) (fun s w h => zab [none, some 2, none, none] (by decide) w h rfl) (fun _ => ?_)
              refine zav (by kernel_rfl) ?_
              refine zal ?_
              refine za2 ?_
              refine za0 ?_
              refine o_q rfl rfl (za3 rfl) ?_
              refine o_q rfl rfl (q_sub64 rfl rfl) ?_
              refine o_q rfl rfl (q_asg rfl) ?_
              refine o_end ?_
              refine zak k22 (l534, i356, i357, w64 (i19 - 1), A536, c537) (Nat.lt_succ_self _) h ⟨rfl, trivial⟩ (fun w h => za5 [4, 1, 3, 2] (by decide) rfl w h) ?_
              repeat (first | exact zad _ _ | refine zah rfl ?_ | refine zae rfl ?_ | refine zai rfl ?_)
    · skip
      replace h := br_f hb30 h
      refine c_exit ?_
      refine za6 ?_
      refine za6 ?_
      have e_ := Option.some.inj h; replace h := hR25; rw [← e_] at h; clear e_
      refine x_hit ?_
      refine za2 ?_
      refine c_seq ?_
      refine za0 ?_
      refine o_q rfl rfl (q_f F27_0 rfl) ?_
      refine o_q rfl rfl (q_ldb Y3 rfl (fun w h => h.zac (i := 2) rfl) rfl) ?_
      refine o_q rfl rfl (q_f F27_1 rfl) ?_
      refine o_q rfl rfl (q_ldb Y24 rfl (fun w h => h.zac (i := 2) rfl) rfl) ?_
      refine o_q rfl rfl (q_len Try.underlying24 rfl) ?_
      refine o_q rfl rfl (q_add64 rfl rfl) ?_
      refine o_q rfl rfl (q_asg rfl) ?_
      refine o_end ?_
      refine za2 ?_
      refine c_seq ?_
      refine c_seq ?_
      refine za0 ?_
      refine o_q rfl rfl (za3 rfl) ?_
      refine o_pick [1, 0, 2, 3] (by decide) rfl ?_
      refine bindE3 h (fun i775 i776 i777 hx774 h => ?_) rfl
      refine o_e rfl (za9 1 Z Try.func66 N66 rfl rfl rfl (fun w P1 hF hB hS hT => spec_l1Cur_pick.calls g0 A0_0 c0_0 l0_0.length l0_0 i17 i18 3 hB hF (hS _ R0_0) hc0_0 _ _ _ hx774)) (fun _ => ?_)
      refine o_q rfl rfl (q_add64 rfl rfl) ?_
      refine o_q rfl rfl (q_asg rfl) ?_
      refine o_end ?_
      refine za2 ?_
      refine zam ?_
      refine c_nil (Kd.int .i64) 3 ?_
      refine za8 h (fun o792 hl791 hR790 => ?_) rfl
      clear h
      refine zaw (σ := (List Int) × Int × Int × Int × (Option Addr) × Nat) (fun k787 ((l779, i782, i783, i784, A780, c781) : (List Int) × Int × Int × Int × (Option Addr) × Nat) => spec_l1Cur_plan.l1 l0_0 i4 l14 k787 l779 i782 i783 i784 = some o792) [12, 58, 59, 60, 61, 62, 63, 64, 65, 66, 67, 68, 69, 70, 71, 72, 73] (fun ((l779, i782, i783, i784, A780, c781) : (List Int) × Int × Int × Int × (Option Addr) × Nat) => [(12, .int .i64 i784)]) (fun ((l779, i782, i783, i784, A780, c781) : (List Int) × Int × Int × Int × (Option Addr) × Nat) => [row (Kd.int .i64) 3 (.slice A780 l779.length c781) l779, box g0 67 #[.slice A0_0 l0_0.length c0_0, .int .i64 i782, .int .u64 i783], row kStep 88 (.slice A15 l14.length c16) l14, box g7 27 #[.int .i64 (w64 (1 + i4)), .slice A15 l14.length c16, .slice A780 l779.length c781], box g1 27 #[.int .i64 0, .slice none 0 0, .slice none 0 0]]) k (([] : List Int), i776, i777, w64 (1 + i775), none, 0) hl791 ⟨rfl, trivial⟩ (fun w h => h) ?_
      refine natC (cur6 (fun l779 i782 i783 i784 A780 c781 => fun U793 hJ_ => ?_)) (fun k787 => (cur6 (fun l779 i782 i783 i784 A780 c781 => fun U793 hJ_ => ?_)))
      · skip
        replace hJ_ : spec_l1Cur_plan.l1 l0_0 i4 l14 0 l779 i782 i783 i784 = some o792 := hJ_
        rw [spec_l1Cur_plan.l1] at hJ_
        exact noneE hJ_
      · skip
        clear hl791
        have h := hJ_; clear hJ_
        replace h : spec_l1Cur_plan.l1 l0_0 i4 l14 (k787 + 1) l779 i782 i783 i784 = some o792 := h
        rw [spec_l1Cur_plan.l1] at h
        refine c_seq ?_
        refine c_seq ?_
        refine za0 ?_
        refine o_q rfl rfl (za3 rfl) ?_
        refine o_q rfl rfl (q_gtr rfl rfl) ?_
        refine o_end ?_
        refine za2 ?_
        refine zat _ rfl (fun hb795 => ?_) (fun hb795 => ?_)
        · skip
          replace h := br_t hb795 h
          refine zaq ?_
          refine za2 ?_
          refine c_seq ?_
          refine zam ?_
          refine za8 h (fun i1158 hx1157 h => ?_) rfl
          refine bindE3 h (fun i1218 i1219 i1220 hx1217 h => ?_) rfl
          refine za8 h (fun l1397 ha1398 h => ?_) rfl
          refine a_startS (ds := []) [none, none, some 2, none, some 4] MO rfl ?_
          refine za7 0 rfl rfl rfl (by kernel_rfl) (fun _ _ _ h => h) (q_f F27_2 rfl) ?_
          refine za7 2 rfl rfl rfl (by kernel_rfl) (fun _ _ _ h => h) (za3 rfl) ?_
          refine za7 3 rfl rfl rfl (by kernel_rfl) (fun _ _ _ h => h) (q_sub64 rfl rfl) ?_
          refine za7 4 rfl rfl rfl (by kernel_rfl) (fun _ _ _ h => h) (za3 rfl) ?_
          refine za7 5 rfl rfl rfl (by kernel_rfl) (fun _ _ _ h => h) (za3 rfl) ?_
          refine a_two 1 6 rfl rfl rfl rfl (by kernel_rfl) rfl rfl (ev_q rfl (q_ldb Y25 rfl (fun w h => h.zac (i := 3) rfl) rfl)) (fun s w h => zab [none, none, some 2, none, some 4] (by decide) w h rfl) (za9 0 Z Try.func172 N172 rfl rfl rfl (fun w P1 hF hB hS hT => spec_l1Least.calls (w64 (w64 (1 + i4) + (l14.length : Int))) 4 hB hF _ hx1157)) (fun s w h => zab [none, none, some 2, none, some 4] (by decide) w h rfl) (fun _ => ?_) (fun _ => ?_)
          · skip
            refine a_one 6 rfl rfl (by kernel_rfl) rfl (za9 0 Z Try.func172 N172 rfl rfl rfl (fun w P1 hF hB hS hT => spec_l1Least.calls (w64 (w64 (1 + i4) + (l14.length : Int))) 4 hB hF _ hx1157)) (fun s w h => zab [none, none, some 2, none, some 4] (by decide) w h rfl) (fun _ => ?_)
            refine a_pick [1, 0, 2, 3, 4] (by decide) rfl ?_
            refine a_one 7 rfl rfl (by kernel_rfl) rfl (za9 1 Z Try.func66 N66 rfl rfl rfl (fun w P1 hF hB hS hT => spec_l1Cur_pick.calls g0 A0_0 c0_0 l0_0.length l0_0 i782 i783 i1158 hB hF (hS _ R0_0) hc0_0 _ _ _ hx1217)) (fun s w h => zab [none, none, some 2, none, some 4] (by decide) w h rfl) (fun _ => ?_)
            refine za7 8 rfl rfl rfl (by kernel_rfl) (fun _ _ _ h => h) (q_sub64 rfl rfl) ?_
            refine a_one 9 rfl rfl (by kernel_rfl) rfl (e_lit (vs := [(0, .int .i64 (w64 (w64 (w64 (w64 (1 + i4) + (l14.length : Int)) - 1) - i1218)))]) (cs := [.int .i64 (w64 (w64 (w64 (w64 (1 + i4) + (l14.length : Int)) - 1) - i1218))]) (Kd.int .i64) ([w64 (w64 (w64 (w64 (1 + i4) + (l14.length : Int)) - 1) - i1218)] : List Int) Try.underlying25 I3 (by decide) rfl (by decide) rfl rfl (fun _ _ => Kd.zao _)) (fun s w h => zab [none, none, some 3, none, some 5] (by decide) w h rfl) (cur2 (fun A1337 c1338 => ?_))
            refine a_one 10 rfl rfl (by kernel_rfl) rfl (e_app (i := 2) (j := 0) Try.underlying25 I3 rfl (by decide) (by decide) rfl rfl rfl rfl rfl ha1398) (fun s w h => zab [none, none, some 3, none, some 5] (by decide) w h rfl) (cur2 (fun A1399 c1400 => ?_))
            refine za7 11 rfl rfl rfl (by kernel_rfl) (fun _ _ _ h => h) (q_f F27_2 rfl) ?_
            refine a_one 12 rfl rfl (by kernel_rfl) rfl (e_store (i := 4) rfl rfl rfl rfl Z25 rfl rfl) (fun s w h => zab [none, none, some 3, none, some 5] (by decide) w h rfl) (fun _ => ?_)
            refine zav (by kernel_rfl) ?_
            refine zal ?_
            refine za2 ?_
            refine za0 ?_
            refine o_q rfl rfl (za3 rfl) ?_
            refine o_q rfl rfl (q_sub64 rfl rfl) ?_
            refine o_q rfl rfl (q_asg rfl) ?_
            refine o_end ?_
            refine zak k787 (l1397, i1219, i1220, w64 (i784 - 1), A1399, c1400) (Nat.lt_succ_self _) h ⟨rfl, trivial⟩ (fun w h => za5 [2, 1, 3, 4, 5] (by decide) rfl w h) ?_
            repeat (first | exact zad _ _ | refine zah rfl ?_ | refine zae rfl ?_ | refine zai rfl ?_)
          · skip
            refine a_two 1 7 rfl rfl rfl rfl (by kernel_rfl) rfl rfl (ev_q rfl (q_ldb Y25 rfl (fun w h => h.zac (i := 3) rfl) rfl)) (fun s w h => zab [none, none, some 2, none, some 4] (by decide) w h rfl) (ev_pick [1, 0, 2, 3, 4] (by decide) rfl (za9 1 Z Try.func66 N66 rfl rfl rfl (fun w P1 hF hB hS hT => spec_l1Cur_pick.calls g0 A0_0 c0_0 l0_0.length l0_0 i782 i783 i1158 hB hF (hS _ R0_0) hc0_0 _ _ _ hx1217))) (fun s w h => zab [none, none, some 2, none, some 4] (by decide) w h rfl) (fun _ => ?_) (fun _ => ?_)
            · skip
              refine a_pick [1, 0, 2, 3, 4] (by decide) rfl ?_
              refine a_one 7 rfl rfl (by kernel_rfl) rfl (za9 1 Z Try.func66 N66 rfl rfl rfl (fun w P1 hF hB hS hT => spec_l1Cur_pick.calls g0 A0_0 c0_0 l0_0.length l0_0 i782 i783 i1158 hB hF (hS _ R0_0) hc0_0 _ _ _ hx1217)) (fun s w h => zab [none, none, some 2, none, some 4] (by decide) w h rfl) (fun _ => ?_)
              refine za7 8 rfl rfl rfl (by kernel_rfl) (fun _ _ _ h => h) (q_sub64 rfl rfl) ?_
              refine a_one 9 rfl rfl (by kernel_rfl) rfl (e_lit (vs := [(0, .int .i64 (w64 (w64 (w64 (w64 (1 + i4) + (l14.length : Int)) - 1) - i1218)))]) (cs := [.int .i64 (w64 (w64 (w64 (w64 (1 + i4) + (l14.length : Int)) - 1) - i1218))]) (Kd.int .i64) ([w64 (w64 (w64 (w64 (1 + i4) + (l14.length : Int)) - 1) - i1218)] : List Int) Try.underlying25 I3 (by decide) rfl (by decide) rfl rfl (fun _ _ => Kd.zao _)) (fun s w h => zab [none, none, some 3, none, some 5] (by decide) w h rfl) (cur2 (fun A1337 c1338 => ?_))
              refine a_one 10 rfl rfl (by kernel_rfl) rfl (e_app (i := 2) (j := 0) Try.underlying25 I3 rfl (by decide) (by decide) rfl rfl rfl rfl rfl ha1398) (fun s w h => zab [none, none, some 3, none, some 5] (by decide) w h rfl) (cur2 (fun A1399 c1400 => ?_))
              refine za7 11 rfl rfl rfl (by kernel_rfl) (fun _ _ _ h => h) (q_f F27_2 rfl) ?_
              refine a_one 12 rfl rfl (by kernel_rfl) rfl (e_store (i := 4) rfl rfl rfl rfl Z25 rfl rfl) (fun s w h => zab [none, none, some 3, none, some 5] (by decide) w h rfl) (fun _ => ?_)
              refine zav (by kernel_rfl) ?_
              refine zal ?_
              refine za2 ?_
              refine za0 ?_
              refine o_q rfl rfl (za3 rfl) ?_
              refine o_q rfl rfl (q_sub64 rfl rfl) ?_
              refine o_q rfl rfl (q_asg rfl) ?_
              refine o_end ?_
              refine zak k787 (l1397, i1219, i1220, w64 (i784 - 1), A1399, c1400) (Nat.lt_succ_self _) h ⟨rfl, trivial⟩ (fun w h => za5 [2, 1, 3, 4, 5] (by decide) rfl w h) ?_
              repeat (first | exact zad _ _ | refine zah rfl ?_ | refine zae rfl ?_ | refine zai rfl ?_)
            · skip
              refine za7 8 rfl rfl rfl (by kernel_rfl) (fun _ _ _ h => h) (q_sub64 rfl rfl) ?_
              refine a_two 1 9 rfl rfl rfl rfl (by kernel_rfl) rfl rfl (ev_q rfl (q_ldb Y25 rfl (fun w h => h.zac (i := 3) rfl) rfl)) (fun s w h => zab [none, none, some 2, none, some 4] (by decide) w h rfl) (e_lit (vs := [(0, .int .i64 (w64 (w64 (w64 (w64 (1 + i4) + (l14.length : Int)) - 1) - i1218)))]) (cs := [.int .i64 (w64 (w64 (w64 (w64 (1 + i4) + (l14.length : Int)) - 1) - i1218))]) (Kd.int .i64) ([w64 (w64 (w64 (w64 (1 + i4) + (l14.length : Int)) - 1) - i1218)] : List Int) Try.underlying25 I3 (by decide) rfl (by decide) rfl rfl (fun _ _ => Kd.zao _)) (fun s w h => zab [none, none, some 3, none, some 5] (by decide) w h rfl) (fun _ => ?_) (cur2 (fun A1337 c1338 => ?_))
              · skip
                refine a_one 9 rfl rfl (by kernel_rfl) rfl (e_lit (vs := [(0, .int .i64 (w64 (w64 (w64 (w64 (1 + i4) + (l14.length : Int)) - 1) - i1218)))]) (cs := [.int .i64 (w64 (w64 (w64 (w64 (1 + i4) + (l14.length : Int)) - 1) - i1218))]) (Kd.int .i64) ([w64 (w64 (w64 (w64 (1 + i4) + (l14.length : Int)) - 1) - i1218)] : List Int) Try.underlying25 I3 (by decide) rfl (by decide) rfl rfl (fun _ _ => Kd.zao _)) (fun s w h => zab [none, none, some 3, none, some 5] (by decide) w h rfl) (cur2 (fun A1337 c1338 => ?_))
                refine a_one 10 rfl rfl (by kernel_rfl) rfl (e_app (i := 2) (j := 0) Try.underlying25 I3 rfl (by decide) (by decide) rfl rfl rfl rfl rfl ha1398) (fun s w h => zab [none, none, some 3, none, some 5] (by decide) w h rfl) (cur2 (fun A1399 c1400 => ?_))
                refine za7 11 rfl rfl rfl (by kernel_rfl) (fun _ _ _ h => h) (q_f F27_2 rfl) ?_
                refine a_one 12 rfl rfl (by kernel_rfl) rfl (e_store (i := 4) rfl rfl rfl rfl Z25 rfl rfl) (fun s w h => zab [none, none, some 3, none, some 5] (by decide) w h rfl) (fun _ => ?_)
                refine zav (by kernel_rfl) ?_
                refine zal ?_
                refine za2 ?_
                refine za0 ?_
                refine o_q rfl rfl (za3 rfl) ?_
                refine o_q rfl rfl (q_sub64 rfl rfl) ?_
                refine o_q rfl rfl (q_asg rfl) ?_
                refine o_end ?_
                refine zak k787 (l1397, i1219, i1220, w64 (i784 - 1), A1399, c1400) (Nat.lt_succ_self _) h ⟨rfl, trivial⟩ (fun w h => za5 [2, 1, 3, 4, 5] (by decide) rfl w h) ?_
                repeat (first | exact zad _ _ | refine zah rfl ?_ | refine zae rfl ?_ | refine zai rfl ?_)
              · skip
                refine a_one 1 rfl rfl (by kernel_rfl) rfl (ev_q rfl (q_ldb Y25 rfl (fun w h => h.zac (i := 4) rfl) rfl)) (fun s w h => zab [none, none, some 3, none, some 5] (by decide) w h rfl) (fun _ => ?_)
                refine a_one 10 rfl rfl (by kernel_rfl) rfl (e_app (i := 2) (j := 0) Try.underlying25 I3 rfl (by decide) (by decide) rfl rfl rfl rfl rfl ha1398) (fun s w h => zab [none, none, some 3, none, some 5] (by decide) w h rfl) (cur2 (fun A1399 c1400 => ?_))
                refine za7 11 rfl rfl rfl (by kernel_rfl) (fun _ _ _ h => h) (q_f F27_2 rfl) ?_
                refine a_one 12 rfl rfl (by kernel_rfl) rfl (e_store (i := 4) rfl rfl rfl rfl Z25 rfl rfl) (fun s w h => zab [none, none, some 3, none, some 5] (by decide) w h rfl) (fun _ => ?_)
                refine zav (by kernel_rfl) ?_
                refine zal ?_
                refine za2 ?_
                refine za0 ?_
                refine o_q rfl rfl (za3 rfl) ?_
                refine o_q rfl rfl (q_sub64 rfl rfl) ?_
                refine o_q rfl rfl (q_asg rfl) ?_
                refine o_end ?_
                refine zak k787 (l1397, i1219, i1220, w64 (i784 - 1), A1399, c1400) (Nat.lt_succ_self _) h ⟨rfl, trivial⟩ (fun w h => za5 [2, 1, 3, 4, 5] (by decide) rfl w h) ?_
                repeat (first | exact zad _ _ | refine zah rfl ?_ | refine zae rfl ?_ | refine zai rfl ?_)
        · skip
          replace h := br_f hb795 h
          refine c_exit ?_
          refine za6 ?_
          refine za6 ?_
          have e_ := Option.some.inj h; replace h := hR790; rw [← e_] at h; clear e_
          refine x_hit ?_
          refine za2 ?_
          refine za8 h (fun o1647 hl1648 hR1649 => ?_) rfl
          clear h
          refine c_cutJ (σ := (List Int) × Int × Int × (Option Addr) × Nat) (fun (l1642, i1645, i1646, A1643, c1644) => some (l1642, i1645, i1646) = some o1647) [74, 75, 76] (fun (l1642, i1645, i1646, A1643, c1644) => []) (fun (l1642, i1645, i1646, A1643, c1644) => [box g1 27 #[.int .i64 0, .slice none 0 0, .slice none 0 0], box g7 27 #[.int .i64 (w64 (1 + i4)), .slice A15 l14.length c16, .slice A1643 l1642.length c1644], row kStep 88 (.slice A15 l14.length c16) l14, row (Kd.int .i64) 3 (.slice A1643 l1642.length c1644) l1642, box g0 67 #[.slice A0_0 l0_0.length c0_0, .int .i64 i1645, .int .u64 i1646]]) ?_ ?_
          · skip
            have h := hl1648; clear hl1648
            clear hR1649
            refine c_seq ?_
            refine za0 ?_
            refine o_q rfl rfl (za3 rfl) ?_
            refine o_pick [1, 0, 2, 3, 4] (by decide) rfl ?_
            refine bindE3 h (fun b1653 i1654 i1655 hx1652 h => ?_) rfl
            refine o_e rfl (za9 1 Z Try.func102 N102 rfl rfl rfl (fun w P1 hF hB hS hT => spec_l1Cur_one.calls g0 A0_0 c0_0 l0_0.length l0_0 i782 i783 12 hB hF (hS _ R0_0) hc0_0 _ _ _ hx1652)) (fun _ => ?_)
            refine o_end ?_
            refine za2 ?_
            refine zat _ rfl (fun hb1656 => ?_) (fun hb1656 => ?_)
            · skip
              replace h := bb_t hb1656 h
              refine za0 ?_
              refine o_q rfl rfl (q_f F27_2 rfl) ?_
              refine o_e rfl (e_store (i := 3) rfl rfl rfl rfl Z25 rfl rfl) (fun _ => ?_)
              refine o_end ?_
              refine x_nil (Kd.int .i64) 3 ?_
              refine x_meetJ (([] : List Int), i1654, i1655, none, 0) h trivial (fun w h => za5 [5, 4, 3, 0, 1] (by decide) rfl w h) ?_
              repeat (first | exact zad _ _ | refine zah rfl ?_ | refine zae rfl ?_ | refine zai rfl ?_)
            · skip
              replace h := bb_f hb1656 h
              refine zaq ?_
              refine x_meetJ (l779, i1654, i1655, A780, c781) h trivial (fun w h => za5 [4, 3, 2, 1, 0] (by decide) rfl w h) ?_
              repeat (first | exact zad _ _ | refine zah rfl ?_ | refine zae rfl ?_ | refine zai rfl ?_)
          · skip
            refine (cur5 (fun l1642 i1645 i1646 A1643 c1644 => fun U1650 hJ1651 => ?_))
            have e_ := Option.some.inj hJ1651; have h := hR1649; rw [← e_] at h; clear e_ hJ1651 hR1649 hl1648
            refine c_seq ?_
            refine za0 ?_
            refine o_q rfl rfl (q_ldB G27 Z27 rfl (fun w h => h.zac (i := 1) rfl) rfl) ?_
            refine o_e rfl (zaz (i := 0) rfl rfl rfl Z27 rfl rfl) (fun _ => ?_)
            refine o_end ?_
            refine za2 ?_
            refine c_ret ?_
            have e0_ := Option.some.inj h; clear h
            have d0_ := (Prod.mk.inj e0_).1; have e1_ := (Prod.mk.inj e0_).2; clear e0_; subst d0_
            have d1_ := (Prod.mk.inj e1_).1; have e2_ := (Prod.mk.inj e1_).2; clear e1_; subst d1_
            have d2_ := (Prod.mk.inj e2_).1; have e3_ := (Prod.mk.inj e2_).2; clear e2_; subst d2_
            have d3_ := (Prod.mk.inj e3_).1; have e4_ := (Prod.mk.inj e3_).2; clear e3_; subst d3_
            subst e4_
            exact x_r1 (A15, c16, A1643, c1644) Try.results128 (rv_cell rfl G27 Z27 (fun w h => h.zac (i := 0) rfl) rfl) rfl (fun w h => za5 [2, 3, 4] (by decide) rfl w h)

/-! ### (*loop.example/g01098/spec.l1Cur).anyPlan: function 64 -/
def spec_l1Cur_anyPlan.l0 : Nat → (List SStep) → Int → Option (List SStep)
  | 0, _, _ => none
  | k1398 + 1, l1392, i1395 => if 0 < i1395 then ((ap l1392 ([(⟨(l1392.length : Int), (l1392.length : Int)⟩ : SStep)] : List SStep)).bind fun l1410 => spec_l1Cur_anyPlan.l0 k1398 l1410 (w64 (i1395 - 1))) else (some l1392)
def spec_l1Cur_anyPlan.l1 (l0_0 : List Int) (i4 : Int) (l5 : List SStep) : Nat → (List Int) → Int → Int → Option (Int × (List SStep) × (List Int) × Int × Int)
  | 0, _, _, _ => none
  | k1425 + 1, l1418, i1421, i1422 => (spec_l1Cur_pick.f l0_0 i1421 i1422 2).bind fun (i1434, i1435, i1436) => if (l1418.length : Int) < w64 (6 + i1434) then ((ap l1418 ([0] : List Int)).bind fun l1441 => spec_l1Cur_anyPlan.l1 l0_0 i4 l5 k1425 l1441 i1435 i1436) else (some (i4, l5, l1418, i1435, i1436))
def spec_l1Cur_anyPlan.l2 : Nat → (List SStep) → Int → Option (List SStep)
  | 0, _, _ => none
  | k1457 + 1, l1451, i1454 => if 0 < i1454 then ((ap l1451 ([(⟨0, w64 (1 + (l1451.length : Int))⟩ : SStep)] : List SStep)).bind fun l1469 => spec_l1Cur_anyPlan.l2 k1457 l1469 (w64 (i1454 - 1))) else (some l1451)
def spec_l1Cur_anyPlan.f (k : Nat) (l0_0 : List Int) (a0_1 : Int) (a0_2 : Int) (a1 : Int) (a2 : Int) : Option (Int × (List SStep) × (List Int) × Int × Int) := (spec_l1Cur_plan.f k l0_0 a0_1 a0_2 a1 a2).bind fun (i4, l5, l6, i7, i8) => ((spec_l1Cur_pick.f l0_0 i7 i8 16).bind fun (i753, i754, i755) => if i753 = 0 then ((spec_l1Cur_among.f l0_0 i754 i755 ([(-1), 0, 1, 6, 7] : List Int)).bind fun (i761, i762, i763) => some (i761, l5, l6, i762, i763)) else (if i753 = 1 then (if 0 < (l5.length : Int) then ((spec_l1Cur_pick.f l0_0 i754 i755 (l5.length : Int)).bind fun (i767, i768, i769) => (spec_l1Cur_pick.f l0_0 i768 i769 5).bind fun (i771, i772, i773) => (spec_l1Cur_pick.f l0_0 i772 i773 8).bind fun (i775, i776, i777) => (gt l5 i767).bind fun y780 => (st l5 i767 (⟨w64 (i771 - 1), i775⟩ : SStep)).bind fun l781 => some (i4, l781, l6, i776, i777)) else (some (i4, l5, l6, i754, i755))) else (if i753 = 2 then ((spec_l1Cur_pick.f l0_0 i754 i755 12).bind fun (i967, i968, i969) => (ap l6 ([w64 (i967 - 1)] : List Int)).bind fun l1146 => some (i4, l5, l1146, i968, i969)) else (if i753 = 3 then ((spec_l1Cur_pick.f l0_0 i754 i755 4).bind fun (i1388, i1389, i1390) => (spec_l1Cur_anyPlan.l0 k ([] : List SStep) (w64 (18 + i1388))).bind fun l1392 => some (1, l1392, ([(l1392.length : Int)] : List Int), i1389, i1390)) else (if i753 = 4 then ((spec_l1Cur_anyPlan.l1 l0_0 i4 l5 k l6 i754 i755)) else (if i753 = 5 then ((spec_l1Cur_pick.f l0_0 i754 i755 2).bind fun (i1447, i1448, i1449) => (spec_l1Cur_anyPlan.l2 k ([] : List SStep) (w64 (40 + i1447))).bind fun l1451 => some (2, l1451, ([5] : List Int), i1448, i1449)) else (some (i4, l5, l6, i754, i755)))))))).bind fun (i738, l739, l742, i745, i746) => some (i738, l739, l742, i745, i746)
set_option maxHeartbeats 600000 in
set_option maxRecDepth 100000 in
theorem spec_l1Cur_anyPlan.calls (k : Nat) {w0 ws : World} {P0 : Nat → Prop} (g0 : Nat) (A0_0 : Option Addr) (c0_0 : Nat) (n0_0 : Nat) (l0_0 : List Int) (a0_1 : Int) (a0_2 : Int) (a1 : Int) (a2 : Int) (Z : Below w0.heap.size w0 ws) (hF : Fr w0 ws P0 [box g0 67 #[.slice A0_0 n0_0 c0_0, .int .i64 a0_1, .int .u64 a0_2]] ws) (R0_0 : Stable ws P0 (fun w => Kd.C (Kd.int .u8) w A0_0 n0_0 l0_0)) (hc0_0 : n0_0 ≤ c0_0) (r_1 : Int) (r_2 : List SStep) (r_5 : List Int) (r_8 : Int) (r_9 : Int) (h : spec_l1Cur_anyPlan.f k l0_0 a0_1 a0_2 a1 a2 = some (r_1, r_2, r_5, r_8, r_9)) :
    Calls Try.prog 64 #[.pointer (some ⟨g0, 0, none⟩), .int .i64 a1, .int .i64 a2] ws (Post1 w0 ws P0 (fun ((q_3, q_4, q_6, q_7) : (Option Addr) × Nat × (Option Addr) × Nat) => .agg #[.int .i64 r_1, .slice q_3 r_2.length q_4, .slice q_6 r_5.length q_7]) (fun ((q_3, q_4, q_6, q_7) : (Option Addr) × Nat × (Option Addr) × Nat) => [row kStep 88 (.slice q_3 r_2.length q_4) r_2, row (Kd.int .i64) 3 (.slice q_6 r_5.length q_7) r_5, box g0 67 #[.slice A0_0 n0_0 c0_0, .int .i64 r_8, .int .u64 r_9]])) := by
  unfold spec_l1Cur_anyPlan.f at h
  obtain rfl := (R0_0 ws (KeptB.refl _ _)).1
  refine enter Try.func64 rfl Try.ntmps64 rfl hF ?_
  refine c_seq ?_
  refine za0 ?_
  refine o_e rfl (e_alloc V27 rfl) (fun g1 => ?_)
  refine o_end ?_
  refine za2 ?_
  refine c_seq ?_
  refine za0 ?_
  refine o_q rfl rfl (za3 rfl) ?_
  refine o_q rfl rfl (za3 rfl) ?_
  refine o_q rfl rfl (za3 rfl) ?_
  refine o_pick [1, 0] (by decide) rfl ?_
  refine bindE5 h (fun i4 l5 l6 i7 i8 hx3 h => ?_) rfl
  refine o_e rfl (za9 1 Z Try.func128 N128 rfl rfl rfl (fun w P1 hF hB hS hT => spec_l1Cur_plan.calls k g0 A0_0 c0_0 l0_0.length l0_0 a0_1 a0_2 a1 a2 hB hF (hS _ R0_0) hc0_0 _ _ _ _ _ hx3)) (cur4 (fun A9 c10 A11 c12 => ?_))
  refine o_e rfl (e_alloc V27 rfl) (fun g13 => ?_)
  refine o_e rfl (zaz (i := 0) rfl rfl rfl Z27 rfl rfl) (fun _ => ?_)
  refine o_end ?_
  refine za2 ?_
  refine za8 h (fun o747 hl748 hR749 => ?_) rfl
  clear h
  refine c_cutJ (σ := Int × (List SStep) × (List Int) × Int × Int × (Option Addr) × Nat × (Option Addr) × Nat) (fun (i738, l739, l742, i745, i746, A740, c741, A743, c744) => some (i738, l739, l742, i745, i746) = some o747) [8, 9, 14, 15, 16, 17, 18, 19, 20, 21, 22, 23, 24, 25, 26, 27, 28, 29, 30, 31, 32, 33, 34, 35, 36, 37, 38, 39, 40, 41, 42, 43, 44, 45, 46, 47, 48, 49, 50, 51, 52, 53, 54, 55, 56, 57, 58, 59, 60, 61, 62, 63, 64, 65, 66, 67, 68, 69, 70, 71, 72, 73, 74, 75, 76, 77, 78, 79, 80, 81, 82, 83, 84, 85, 86, 87, 88, 89, 90, 91, 92, 93, 94, 95, 96, 97, 98, 99, 100, 101, 102, 103, 104, 105, 106, 107, 108, 109, 110, 111, 112, 113, 114] (fun (i738, l739, l742, i745, i746, A740, c741, A743, c744) => []) (fun (i738, l739, l742, i745, i746, A740, c741, A743, c744) => [box g1 27 #[.int .i64 0, .slice none 0 0, .slice none 0 0], box g13 27 #[.int .i64 i738, .slice A740 l739.length c741, .slice A743 l742.length c744], row kStep 88 (.slice A740 l739.length c741) l739, row (Kd.int .i64) 3 (.slice A743 l742.length c744) l742, box g0 67 #[.slice A0_0 l0_0.length c0_0, .int .i64 i745, .int .u64 i746]]) ?_ ?_
  · skip
    have h := hl748; clear hl748
    clear hR749
    refine c_seq ?_
    refine za0 ?_
    refine o_q rfl rfl (za3 rfl) ?_
    refine o_pick [3, 0, 1, 2, 4] (by decide) rfl ?_
    refine bindE3 h (fun i753 i754 i755 hx752 h => ?_) rfl
    refine o_e rfl (za9 1 Z Try.func66 N66 rfl rfl rfl (fun w P1 hF hB hS hT => spec_l1Cur_pick.calls g0 A0_0 c0_0 l0_0.length l0_0 i7 i8 16 hB hF (hS _ R0_0) hc0_0 _ _ _ hx752)) (fun _ => ?_)
    refine o_end ?_
    refine za2 ?_
    refine zam ?_
    refine c_seq ?_
    refine za0 ?_
    refine o_q rfl rfl (q_eql rfl rfl) ?_
    refine o_q rfl rfl (q_asg rfl) ?_
    refine o_end ?_
    refine za2 ?_
    refine zat _ rfl (fun hb756 => ?_) (fun hb756 => ?_)
    · skip
      replace h := br_t hb756 h
      refine za0 ?_
      refine o_q rfl rfl (za3 rfl) ?_
      refine o_e rfl (e_lit (vs := [(0, .int .i64 (-1)), (1, .int .i64 0), (2, .int .i64 1), (3, .int .i64 6), (4, .int .i64 7)]) (cs := [.int .i64 (-1), .int .i64 0, .int .i64 1, .int .i64 6, .int .i64 7]) (Kd.int .i64) ([(-1), 0, 1, 6, 7] : List Int) Try.underlying25 I3 (by decide) rfl (by decide) rfl rfl (fun _ _ => Kd.zao _)) (cur2 (fun A757 c758 => ?_))
      refine o_pick [1, 0, 2, 3, 4, 5] (by decide) rfl ?_
      refine bindE3 h (fun i761 i762 i763 hx760 h => ?_) rfl
      refine o_e rfl (za9 1 Z Try.func56 N56 rfl rfl rfl (fun w P1 hF hB hS hT => spec_l1Cur_among.calls g0 A0_0 c0_0 l0_0.length l0_0 i754 i755 A757 c758 (([(-1), 0, 1, 6, 7] : List Int).length) ([(-1), 0, 1, 6, 7] : List Int) hB hF (hS _ R0_0) hc0_0 (hT 0 _ rfl).row (hT 0 _ rfl).cap _ _ _ hx760)) (fun _ => ?_)
      refine o_q rfl rfl (q_f F27_0 rfl) ?_
      refine o_e rfl (e_store (i := 2) rfl rfl rfl rfl Z3 rfl rfl) (fun _ => ?_)
      refine o_end ?_
      refine zal ?_
      refine x_meetJ (i761, l5, l6, i762, i763, A9, c10, A11, c12) h trivial (fun w h => za5 [5, 2, 3, 4, 0] (by decide) rfl w h) ?_
      repeat (first | exact zad _ _ | refine zah rfl ?_ | refine zae rfl ?_ | refine zai rfl ?_)
    · skip
      replace h := br_f hb756 h
      refine c_seq ?_
      refine za0 ?_
      refine o_q rfl rfl (q_eql rfl rfl) ?_
      refine o_q rfl rfl (q_asg rfl) ?_
      refine o_end ?_
      refine za2 ?_
      refine zat _ rfl (fun hb764 => ?_) (fun hb764 => ?_)
      · skip
        replace h := br_t hb764 h
        refine c_seq ?_
        refine za0 ?_
        refine o_q rfl rfl (q_f F27_1 rfl) ?_
        refine o_q rfl rfl (q_ldb Y24 rfl (fun w h => h.zac (i := 1) rfl) rfl) ?_
        refine o_q rfl rfl (q_len Try.underlying24 rfl) ?_
        refine o_q rfl rfl (q_gtr rfl rfl) ?_
        refine o_end ?_
        refine za2 ?_
        refine zat _ rfl (fun hb765 => ?_) (fun hb765 => ?_)
        · skip
          replace h := br_t hb765 h
          refine a_startS (ds := []) [none, some 1, none, some 3, some 4] MO rfl ?_
          refine za7 0 rfl rfl rfl (by kernel_rfl) (fun _ _ _ h => h) (q_f F27_1 rfl) ?_
          refine zau 1 rfl rfl rfl (by kernel_rfl) (fun _ _ _ h => h) (fun w h => zab [none, some 1, none, some 3, some 4] (by decide) w h rfl) (q_ldb Y24 rfl (fun w h => h.zac (i := 1) rfl) rfl) ?_
          refine za7 2 rfl rfl rfl (by kernel_rfl) (fun _ _ _ h => h) (za3 rfl) ?_
          refine za7 3 rfl rfl rfl (by kernel_rfl) (fun _ _ _ h => h) (q_f F27_1 rfl) ?_
          refine zau 4 rfl rfl rfl (by kernel_rfl) (fun _ _ _ h => h) (fun w h => zab [none, some 1, none, some 3, some 4] (by decide) w h rfl) (q_ldb Y24 rfl (fun w h => h.zac (i := 1) rfl) rfl) ?_
          refine za7 5 rfl rfl rfl (by kernel_rfl) (fun _ _ _ h => h) (q_len Try.underlying24 rfl) ?_
          refine za7 7 rfl rfl rfl (by kernel_rfl) (fun _ _ _ h => h) (za3 rfl) ?_
          refine za7 10 rfl rfl rfl (by kernel_rfl) (fun _ _ _ h => h) (za3 rfl) ?_
          refine bindE3 h (fun i767 i768 i769 hx766 h => ?_) rfl
          refine a_one 6 rfl rfl (by kernel_rfl) rfl (za9 1 Z Try.func66 N66 rfl rfl rfl (fun w P1 hF hB hS hT => spec_l1Cur_pick.calls g0 A0_0 c0_0 l0_0.length l0_0 i754 i755 (l5.length : Int) hB hF (hS _ R0_0) hc0_0 _ _ _ hx766)) (fun s w h => zab [none, some 1, none, some 3, some 4] (by decide) w h rfl) (fun _ => ?_)
          refine bindE3 h (fun i771 i772 i773 hx770 h => ?_) rfl
          refine a_one 8 rfl rfl (by kernel_rfl) rfl (za9 1 Z Try.func66 N66 rfl rfl rfl (fun w P1 hF hB hS hT => spec_l1Cur_pick.calls g0 A0_0 c0_0 l0_0.length l0_0 i768 i769 5 hB hF (hS _ R0_0) hc0_0 _ _ _ hx770)) (fun s w h => zab [none, some 1, none, some 3, some 4] (by decide) w h rfl) (fun _ => ?_)
          refine za7 9 rfl rfl rfl (by kernel_rfl) (fun _ _ _ h => h) (q_sub64 rfl rfl) ?_
          refine bindE3 h (fun i775 i776 i777 hx774 h => ?_) rfl
          refine a_one 11 rfl rfl (by kernel_rfl) rfl (za9 1 Z Try.func66 N66 rfl rfl rfl (fun w P1 hF hB hS hT => spec_l1Cur_pick.calls g0 A0_0 c0_0 l0_0.length l0_0 i772 i773 8 hB hF (hS _ R0_0) hc0_0 _ _ _ hx774)) (fun s w h => zab [none, some 1, none, some 3, some 4] (by decide) w h rfl) (fun _ => ?_)
          refine za7 12 rfl rfl rfl (by kernel_rfl) (fun _ _ _ h => h) (q_build (vs := [(0, .int .i64 (w64 (i771 - 1))), (1, .int .i64 i775)]) (cs := [.int .i64 (w64 (i771 - 1)), .int .i64 i775]) rfl rfl) ?_
          refine a_fact (p := Sh A9 l5.length l5.length) (fun w h => f_sh (dk := kStep) h (fun w h => h.zay (i := 2) rfl)) (fun hq778 => ?_)
          refine za8 h (fun y780 hg779 h => ?_) rfl
          refine za7 13 rfl rfl rfl (by kernel_rfl) (fun _ _ _ h => h) (q_ix Try.underlying24 Z88 rfl rfl hq778 hg779) ?_
          refine za8 h (fun l781 hs782 h => ?_) rfl
          refine a_one 14 rfl rfl (by kernel_rfl) rfl (e_setF (i := 2) (off := 0) (vs := [.int .i64 (w64 (i771 - 1)), .int .i64 i775]) (q' := (⟨w64 (i771 - 1), i775⟩ : SStep)) rfl rfl rfl rfl rfl rfl Z88 hg779 rfl rfl hs782) (fun s w h => zab [none, some 1, none, some 3, some 4] (by decide) w h rfl) (fun _ => ?_)
          refine zav (by kernel_rfl) ?_
          refine zal ?_
          refine x_fact (p := l5.length = l781.length) (fun w h => (h.row_C (i := 2) rfl).2.1) (fun hn783 => ?_)
          refine x_meetJ (i4, l781, l6, i776, i777, A9, c10, A11, c12) h trivial (f_pickE (L1 := [box g0 67 #[.slice A0_0 l0_0.length c0_0, .int .i64 i776, .int .u64 i777], box g13 27 #[.int .i64 i4, .slice A9 l5.length c10, .slice A11 l6.length c12], row kStep 88 (.slice A9 l5.length c10) l781, row (Kd.int .i64) 3 (.slice A11 l6.length c12) l6, box g1 27 #[.int .i64 0, .slice none 0 0, .slice none 0 0]]) rfl [4, 1, 2, 3, 0] (by decide) rfl (by (try rw [hn783]); first | done | rfl)) ?_
          repeat (first | exact zad _ _ | refine zah rfl ?_ | refine zae rfl ?_ | refine zai rfl ?_)
        · skip
          replace h := br_f hb765 h
          refine zaq ?_
          refine zal ?_
          refine x_meetJ (i4, l5, l6, i754, i755, A9, c10, A11, c12) h trivial (fun w h => za5 [4, 1, 2, 3, 0] (by decide) rfl w h) ?_
          repeat (first | exact zad _ _ | refine zah rfl ?_ | refine zae rfl ?_ | refine zai rfl ?_)
      · skip
        replace h := br_f hb764 h
        refine c_seq ?_
        refine za0 ?_
        refine o_q rfl rfl (q_eql rfl rfl) ?_
        refine o_q rfl rfl (q_asg rfl) ?_
        refine o_end ?_
        refine za2 ?_
        refine zat _ rfl (fun hb784 => ?_) (fun hb784 => ?_)
        · skip
          replace h := br_t hb784 h
          refine bindE3 h (fun i967 i968 i969 hx966 h => ?_) rfl
          refine za8 h (fun l1146 ha1147 h => ?_) rfl
          refine a_startS (ds := []) [none, none, some 2, none, some 4] MO rfl ?_
          refine za7 0 rfl rfl rfl (by kernel_rfl) (fun _ _ _ h => h) (q_f F27_2 rfl) ?_
          refine za7 2 rfl rfl rfl (by kernel_rfl) (fun _ _ _ h => h) (za3 rfl) ?_
          refine a_two 1 3 rfl rfl rfl rfl (by kernel_rfl) rfl rfl (ev_q rfl (q_ldb Y25 rfl (fun w h => h.zac (i := 1) rfl) rfl)) (fun s w h => zab [none, none, some 2, none, some 4] (by decide) w h rfl) (za9 1 Z Try.func66 N66 rfl rfl rfl (fun w P1 hF hB hS hT => spec_l1Cur_pick.calls g0 A0_0 c0_0 l0_0.length l0_0 i754 i755 12 hB hF (hS _ R0_0) hc0_0 _ _ _ hx966)) (fun s w h => zab [none, none, some 2, none, some 4] (by decide) w h rfl) (fun _ => ?_) (fun _ => ?_)
          · skip
            refine a_one 3 rfl rfl (by kernel_rfl) rfl (za9 1 Z Try.func66 N66 rfl rfl rfl (fun w P1 hF hB hS hT => spec_l1Cur_pick.calls g0 A0_0 c0_0 l0_0.length l0_0 i754 i755 12 hB hF (hS _ R0_0) hc0_0 _ _ _ hx966)) (fun s w h => zab [none, none, some 2, none, some 4] (by decide) w h rfl) (fun _ => ?_)
            refine za7 4 rfl rfl rfl (by kernel_rfl) (fun _ _ _ h => h) (q_sub64 rfl rfl) ?_
            refine a_one 5 rfl rfl (by kernel_rfl) rfl (e_lit (vs := [(0, .int .i64 (w64 (i967 - 1)))]) (cs := [.int .i64 (w64 (i967 - 1))]) (Kd.int .i64) ([w64 (i967 - 1)] : List Int) Try.underlying25 I3 (by decide) rfl (by decide) rfl rfl (fun _ _ => Kd.zao _)) (fun s w h => zab [none, none, some 3, none, some 5] (by decide) w h rfl) (cur2 (fun A1086 c1087 => ?_))
            refine a_one 6 rfl rfl (by kernel_rfl) rfl (e_app (i := 4) (j := 0) Try.underlying25 I3 rfl (by decide) (by decide) rfl rfl rfl rfl rfl ha1147) (fun s w h => zab [none, none, some 3, none, some 5] (by decide) w h rfl) (cur2 (fun A1148 c1149 => ?_))
            refine za7 7 rfl rfl rfl (by kernel_rfl) (fun _ _ _ h => h) (q_f F27_2 rfl) ?_
            refine a_one 8 rfl rfl (by kernel_rfl) rfl (e_store (i := 2) rfl rfl rfl rfl Z25 rfl rfl) (fun s w h => zab [none, none, some 3, none, some 5] (by decide) w h rfl) (fun _ => ?_)
            refine zav (by kernel_rfl) ?_
            refine zal ?_
            refine x_meetJ (i4, l5, l1146, i968, i969, A9, c10, A1148, c1149) h trivial (fun w h => za5 [5, 2, 3, 4, 1] (by decide) rfl w h) ?_
            repeat (first | exact zad _ _ | refine zah rfl ?_ | refine zae rfl ?_ | refine zai rfl ?_)
          · skip
            refine za7 4 rfl rfl rfl (by kernel_rfl) (fun _ _ _ h => h) (q_sub64 rfl rfl) ?_
            refine a_two 1 5 rfl rfl rfl rfl (by kernel_rfl) rfl rfl (ev_q rfl (q_ldb Y25 rfl (fun w h => h.zac (i := 1) rfl) rfl)) (fun s w h => zab [none, none, some 2, none, some 4] (by decide) w h rfl) (e_lit (vs := [(0, .int .i64 (w64 (i967 - 1)))]) (cs := [.int .i64 (w64 (i967 - 1))]) (Kd.int .i64) ([w64 (i967 - 1)] : List Int) Try.underlying25 I3 (by decide) rfl (by decide) rfl rfl (fun _ _ => Kd.zao _)) (fun s w h => zab [none, none, some 3, none, some 5] (by decide) w h rfl) (fun _ => ?_) (cur2 (fun A1086 c1087 => ?_))
            · skip
              refine a_one 5 rfl rfl (by kernel_rfl) rfl (e_lit (vs := [(0, .int .i64 (w64 (i967 - 1)))]) (cs := [.int .i64 (w64 (i967 - 1))]) (Kd.int .i64) ([w64 (i967 - 1)] : List Int) Try.underlying25 I3 (by decide) rfl (by decide) rfl rfl (fun _ _ => Kd.zao _)) (fun s w h => zab [none, none, some 3, none, some 5] (by decide) w h rfl) (cur2 (fun A1086 c1087 => ?_))
              refine a_one 6 rfl rfl (by kernel_rfl) rfl (e_app (i := 4) (j := 0) Try.underlying25 I3 rfl (by decide) (by decide) rfl rfl rfl rfl rfl ha1147) (fun s w h => zab [none, none, some 3, none, some 5] (by decide) w h rfl) (cur2 (fun A1148 c1149 => ?_))
              refine za7 7 rfl rfl rfl (by kernel_rfl) (fun _ _ _ h => h) (q_f F27_2 rfl) ?_
              refine a_one 8 rfl rfl (by kernel_rfl) rfl (e_store (i := 2) rfl rfl rfl rfl Z25 rfl rfl) (fun s w h => zab [none, none, some 3, none, some 5] (by decide) w h rfl) (fun _ => ?_)
              refine zav (by kernel_rfl) ?_
              refine zal ?_
              refine x_meetJ (i4, l5, l1146, i968, i969, A9, c10, A1148, c1149) h trivial (fun w h => za5 [5, 2, 3, 4, 1] (by decide) rfl w h) ?_
              repeat (first | exact zad _ _ | refine zah rfl ?_ | refine zae rfl ?_ | refine zai rfl ?_)
            · skip
              refine a_one 1 rfl rfl (by kernel_rfl) rfl (ev_q rfl (q_ldb Y25 rfl (fun w h => h.zac (i := 2) rfl) rfl)) (fun s w h => zab [none, none, some 3, none, some 5] (by decide) w h rfl) (fun _ => ?_)
              refine a_one 6 rfl rfl (by kernel_rfl) rfl (e_app (i := 4) (j := 0) Try.underlying25 I3 rfl (by decide) (by decide) rfl rfl rfl rfl rfl ha1147) (fun s w h => zab [none, none, some 3, none, some 5] (by decide) w h rfl) (cur2 (fun A1148 c1149 => ?_))
              refine za7 7 rfl rfl rfl (by kernel_rfl) (fun _ _ _ h => h) (q_f F27_2 rfl) ?_
              refine a_one 8 rfl rfl (by kernel_rfl) rfl (e_store (i := 2) rfl rfl rfl rfl Z25 rfl rfl) (fun s w h => zab [none, none, some 3, none, some 5] (by decide) w h rfl) (fun _ => ?_)
              refine zav (by kernel_rfl) ?_
              refine zal ?_
              refine x_meetJ (i4, l5, l1146, i968, i969, A9, c10, A1148, c1149) h trivial (fun w h => za5 [5, 2, 3, 4, 1] (by decide) rfl w h) ?_
              repeat (first | exact zad _ _ | refine zah rfl ?_ | refine zae rfl ?_ | refine zai rfl ?_)
        · skip
          replace h := br_f hb784 h
          refine c_seq ?_
          refine za0 ?_
          refine o_q rfl rfl (q_eql rfl rfl) ?_
          refine o_q rfl rfl (q_asg rfl) ?_
          refine o_end ?_
          refine za2 ?_
          refine zat _ rfl (fun hb1386 => ?_) (fun hb1386 => ?_)
          · skip
            replace h := br_t hb1386 h
            refine c_seq ?_
            refine za0 ?_
            refine o_q rfl rfl (q_build (vs := [(0, .int .i64 1)]) (cs := [.int .i64 1, .slice none 0 0, .slice none 0 0]) rfl rfl) ?_
            refine o_e rfl (zaz (i := 1) rfl rfl rfl Z27 rfl rfl) (fun _ => ?_)
            refine o_end ?_
            refine za2 ?_
            refine c_seq ?_
            refine c_seq ?_
            refine za0 ?_
            refine o_q rfl rfl (za3 rfl) ?_
            refine bindE3 h (fun i1388 i1389 i1390 hx1387 h => ?_) rfl
            refine o_e rfl (za9 1 Z Try.func66 N66 rfl rfl rfl (fun w P1 hF hB hS hT => spec_l1Cur_pick.calls g0 A0_0 c0_0 l0_0.length l0_0 i754 i755 4 hB hF (hS _ R0_0) hc0_0 _ _ _ hx1387)) (fun _ => ?_)
            refine o_q rfl rfl (q_add64 rfl rfl) ?_
            refine o_q rfl rfl (q_asg rfl) ?_
            refine o_end ?_
            refine za2 ?_
            refine zam ?_
            refine c_nil kStep 88 ?_
            refine za8 h (fun o1403 hl1402 hR1401 => ?_) rfl
            clear h
            refine zaw (σ := (List SStep) × Int × (Option Addr) × Nat) (fun k1398 ((l1392, i1395, A1393, c1394) : (List SStep) × Int × (Option Addr) × Nat) => spec_l1Cur_anyPlan.l0 k1398 l1392 i1395 = some o1403) [8, 58, 59, 60, 61, 62, 63, 64, 65, 66, 67, 68, 69, 70, 71, 72, 73] (fun ((l1392, i1395, A1393, c1394) : (List SStep) × Int × (Option Addr) × Nat) => [(8, .int .i64 i1395)]) (fun ((l1392, i1395, A1393, c1394) : (List SStep) × Int × (Option Addr) × Nat) => [row kStep 88 (.slice A1393 l1392.length c1394) l1392, box g0 67 #[.slice A0_0 l0_0.length c0_0, .int .i64 i1389, .int .u64 i1390], box g13 27 #[.int .i64 1, .slice A1393 l1392.length c1394, .slice none 0 0], row kStep 88 (.slice A9 l5.length c10) l5, row (Kd.int .i64) 3 (.slice A11 l6.length c12) l6, box g1 27 #[.int .i64 0, .slice none 0 0, .slice none 0 0]]) k (([] : List SStep), w64 (18 + i1388), none, 0) hl1402 ⟨rfl, trivial⟩ (fun w h => h) ?_
            refine natC (cur4 (fun l1392 i1395 A1393 c1394 => fun U1404 hJ_ => ?_)) (fun k1398 => (cur4 (fun l1392 i1395 A1393 c1394 => fun U1404 hJ_ => ?_)))
            · skip
              replace hJ_ : spec_l1Cur_anyPlan.l0 0 l1392 i1395 = some o1403 := hJ_
              rw [spec_l1Cur_anyPlan.l0] at hJ_
              exact noneE hJ_
            · skip
              clear hl1402
              have h := hJ_; clear hJ_
              replace h : spec_l1Cur_anyPlan.l0 (k1398 + 1) l1392 i1395 = some o1403 := h
              rw [spec_l1Cur_anyPlan.l0] at h
              refine c_seq ?_
              refine c_seq ?_
              refine za0 ?_
              refine o_q rfl rfl (za3 rfl) ?_
              refine o_q rfl rfl (q_gtr rfl rfl) ?_
              refine o_end ?_
              refine za2 ?_
              refine zat _ rfl (fun hb1406 => ?_) (fun hb1406 => ?_)
              · skip
                replace h := br_t hb1406 h
                refine zaq ?_
                refine za2 ?_
                refine c_seq ?_
                refine zam ?_
                refine za0 ?_
                refine o_q rfl rfl (q_f F27_1 rfl) ?_
                refine o_q rfl rfl (q_ldb Y24 rfl (fun w h => h.zac (i := 2) rfl) rfl) ?_
                refine o_q rfl rfl (q_f F27_1 rfl) ?_
                refine o_q rfl rfl (q_ldb Y24 rfl (fun w h => h.zac (i := 2) rfl) rfl) ?_
                refine o_q rfl rfl (q_len Try.underlying24 rfl) ?_
                refine o_q rfl rfl (q_f F27_1 rfl) ?_
                refine o_q rfl rfl (q_ldb Y24 rfl (fun w h => h.zac (i := 2) rfl) rfl) ?_
                refine o_q rfl rfl (q_len Try.underlying24 rfl) ?_
                refine o_q rfl rfl (q_build (vs := [(0, .int .i64 (l1392.length : Int)), (1, .int .i64 (l1392.length : Int))]) (cs := [.int .i64 (l1392.length : Int), .int .i64 (l1392.length : Int)]) rfl rfl) ?_
                refine o_e rfl (e_lit (vs := [(0, .agg #[.int .i64 (l1392.length : Int), .int .i64 (l1392.length : Int)])]) (cs := [.int .i64 (l1392.length : Int), .int .i64 (l1392.length : Int)]) kStep ([(⟨(l1392.length : Int), (l1392.length : Int)⟩ : SStep)] : List SStep) Try.underlying24 I88 (by decide) rfl (by decide) rfl rfl (fun _ _ => reps_flat _)) (cur2 (fun A1407 c1408 => ?_))
                refine za8 h (fun l1410 ha1411 h => ?_) rfl
                refine o_e rfl (e_app (i := 1) (j := 0) Try.underlying24 I88 rfl (by decide) (by decide) rfl rfl rfl rfl rfl ha1411) (cur2 (fun A1412 c1413 => ?_))
                refine o_q rfl rfl (q_f F27_1 rfl) ?_
                refine o_e rfl (e_store (i := 3) rfl rfl rfl rfl Z24 rfl rfl) (fun _ => ?_)
                refine o_end ?_
                refine zal ?_
                refine za2 ?_
                refine za0 ?_
                refine o_q rfl rfl (za3 rfl) ?_
                refine o_q rfl rfl (q_sub64 rfl rfl) ?_
                refine o_q rfl rfl (q_asg rfl) ?_
                refine o_end ?_
                refine zak k1398 (l1410, w64 (i1395 - 1), A1412, c1413) (Nat.lt_succ_self _) h ⟨rfl, trivial⟩ (fun w h => za5 [1, 2, 3, 4, 5, 6] (by decide) rfl w h) ?_
                repeat (first | exact zad _ _ | refine zah rfl ?_ | refine zae rfl ?_ | refine zai rfl ?_)
              · skip
                replace h := br_f hb1406 h
                refine c_exit ?_
                refine za6 ?_
                refine za6 ?_
                have e_ := Option.some.inj h; replace h := hR1401; rw [← e_] at h; clear e_
                refine x_hit ?_
                refine za2 ?_
                refine za0 ?_
                refine o_q rfl rfl (q_f F27_1 rfl) ?_
                refine o_q rfl rfl (q_ldb Y24 rfl (fun w h => h.zac (i := 2) rfl) rfl) ?_
                refine o_q rfl rfl (q_len Try.underlying24 rfl) ?_
                refine o_e rfl (e_lit (vs := [(0, .int .i64 (l1392.length : Int))]) (cs := [.int .i64 (l1392.length : Int)]) (Kd.int .i64) ([(l1392.length : Int)] : List Int) Try.underlying25 I3 (by decide) rfl (by decide) rfl rfl (fun _ _ => Kd.zao _)) (cur2 (fun A1414 c1415 => ?_))
                refine o_q rfl rfl (q_f F27_2 rfl) ?_
                refine o_e rfl (e_store (i := 3) rfl rfl rfl rfl Z25 rfl rfl) (fun _ => ?_)
                refine o_end ?_
                refine zal ?_
                refine x_meetJ (1, l1392, ([(l1392.length : Int)] : List Int), i1389, i1390, A1393, c1394, A1414, c1415) h trivial (fun w h => za5 [6, 3, 1, 0, 2] (by decide) rfl w h) ?_
                repeat (first | exact zad _ _ | refine zah rfl ?_ | refine zae rfl ?_ | refine zai rfl ?_)
          · skip
            replace h := br_f hb1386 h
            refine c_seq ?_
            refine za0 ?_
            refine o_q rfl rfl (q_eql rfl rfl) ?_
            refine o_q rfl rfl (q_asg rfl) ?_
            refine o_end ?_
            refine za2 ?_
            refine zat _ rfl (fun hb1417 => ?_) (fun hb1417 => ?_)
            · skip
              replace h := br_t hb1417 h
              refine zam ?_
              have hl1429 := h; clear h
              refine zaw (σ := (List Int) × Int × Int × (Option Addr) × Nat) (fun k1425 ((l1418, i1421, i1422, A1419, c1420) : (List Int) × Int × Int × (Option Addr) × Nat) => spec_l1Cur_anyPlan.l1 l0_0 i4 l5 k1425 l1418 i1421 i1422 = some o747) [81, 82, 83, 84, 85, 86, 87, 88, 89, 90, 91, 92] (fun ((l1418, i1421, i1422, A1419, c1420) : (List Int) × Int × Int × (Option Addr) × Nat) => []) (fun ((l1418, i1421, i1422, A1419, c1420) : (List Int) × Int × Int × (Option Addr) × Nat) => [box g0 67 #[.slice A0_0 l0_0.length c0_0, .int .i64 i1421, .int .u64 i1422], box g13 27 #[.int .i64 i4, .slice A9 l5.length c10, .slice A1419 l1418.length c1420], row kStep 88 (.slice A9 l5.length c10) l5, row (Kd.int .i64) 3 (.slice A1419 l1418.length c1420) l1418, box g1 27 #[.int .i64 0, .slice none 0 0, .slice none 0 0]]) k (l6, i754, i755, A11, c12) hl1429 trivial (fun w h => h) ?_
              refine natC (cur5 (fun l1418 i1421 i1422 A1419 c1420 => fun U1431 hJ_ => ?_)) (fun k1425 => (cur5 (fun l1418 i1421 i1422 A1419 c1420 => fun U1431 hJ_ => ?_)))
              · skip
                replace hJ_ : spec_l1Cur_anyPlan.l1 l0_0 i4 l5 0 l1418 i1421 i1422 = some o747 := hJ_
                rw [spec_l1Cur_anyPlan.l1] at hJ_
                exact noneE hJ_
              · skip
                clear hl1429
                have h := hJ_; clear hJ_
                replace h : spec_l1Cur_anyPlan.l1 l0_0 i4 l5 (k1425 + 1) l1418 i1421 i1422 = some o747 := h
                rw [spec_l1Cur_anyPlan.l1] at h
                refine c_seq ?_
                refine c_seq ?_
                refine a_startS (ds := []) [none, some 1, some 2, some 3, some 4] MO rfl ?_
                refine za7 0 rfl rfl rfl (by kernel_rfl) (fun _ _ _ h => h) (q_f F27_2 rfl) ?_
                refine zau 1 rfl rfl rfl (by kernel_rfl) (fun _ _ _ h => h) (fun w h => zab [none, some 1, some 2, some 3, some 4] (by decide) w h rfl) (q_ldb Y25 rfl (fun w h => h.zac (i := 1) rfl) rfl) ?_
                refine za7 2 rfl rfl rfl (by kernel_rfl) (fun _ _ _ h => h) (q_len Try.underlying25 rfl) ?_
                refine za7 3 rfl rfl rfl (by kernel_rfl) (fun _ _ _ h => h) (za3 rfl) ?_
                refine bindE3 h (fun i1434 i1435 i1436 hx1433 h => ?_) rfl
                refine a_one 4 rfl rfl (by kernel_rfl) rfl (za9 1 Z Try.func66 N66 rfl rfl rfl (fun w P1 hF hB hS hT => spec_l1Cur_pick.calls g0 A0_0 c0_0 l0_0.length l0_0 i1421 i1422 2 hB hF (hS _ R0_0) hc0_0 _ _ _ hx1433)) (fun s w h => zab [none, some 1, some 2, some 3, some 4] (by decide) w h rfl) (fun _ => ?_)
                refine za7 5 rfl rfl rfl (by kernel_rfl) (fun _ _ _ h => h) (q_add64 rfl rfl) ?_
                refine za7 6 rfl rfl rfl (by kernel_rfl) (fun _ _ _ h => h) (q_lss rfl rfl) ?_
                refine zav (by kernel_rfl) ?_
                refine za2 ?_
                refine zat _ rfl (fun hb1437 => ?_) (fun hb1437 => ?_)
                · skip
                  replace h := br_t hb1437 h
                  refine zaq ?_
                  refine za2 ?_
                  refine zam ?_
                  refine za0 ?_
                  refine o_q rfl rfl (q_f F27_2 rfl) ?_
                  refine o_q rfl rfl (q_ldb Y25 rfl (fun w h => h.zac (i := 1) rfl) rfl) ?_
                  refine o_e rfl (e_lit (vs := [(0, .int .i64 0)]) (cs := [.int .i64 0]) (Kd.int .i64) ([0] : List Int) Try.underlying25 I3 (by decide) rfl (by decide) rfl rfl (fun _ _ => Kd.zao _)) (cur2 (fun A1438 c1439 => ?_))
                  refine za8 h (fun l1441 ha1442 h => ?_) rfl
                  refine o_e rfl (e_app (i := 4) (j := 0) Try.underlying25 I3 rfl (by decide) (by decide) rfl rfl rfl rfl rfl ha1442) (cur2 (fun A1443 c1444 => ?_))
                  refine o_q rfl rfl (q_f F27_2 rfl) ?_
                  refine o_e rfl (e_store (i := 2) rfl rfl rfl rfl Z25 rfl rfl) (fun _ => ?_)
                  refine o_end ?_
                  refine zal ?_
                  refine zak k1425 (l1441, i1435, i1436, A1443, c1444) (Nat.lt_succ_self _) h trivial (fun w h => za5 [1, 2, 3, 4, 5] (by decide) rfl w h) ?_
                  repeat (first | exact zad _ _ | refine zah rfl ?_ | refine zae rfl ?_ | refine zai rfl ?_)
                · skip
                  replace h := br_f hb1437 h
                  refine c_exit ?_
                  refine za6 ?_
                  refine za6 ?_
                  refine x_hit ?_
                  refine zal ?_
                  refine x_meetJ (i4, l5, l1418, i1435, i1436, A9, c10, A1419, c1420) h trivial (fun w h => za5 [4, 1, 2, 3, 0] (by decide) rfl w h) ?_
                  repeat (first | exact zad _ _ | refine zah rfl ?_ | refine zae rfl ?_ | refine zai rfl ?_)
            · skip
              replace h := br_f hb1417 h
              refine c_seq ?_
              refine za0 ?_
              refine o_q rfl rfl (q_eql rfl rfl) ?_
              refine o_q rfl rfl (q_asg rfl) ?_
              refine o_end ?_
              refine za2 ?_
              refine zat _ rfl (fun hb1445 => ?_) (fun hb1445 => ?_)
              · skip
                replace h := br_t hb1445 h
                refine c_seq ?_
                refine za0 ?_
                refine o_q rfl rfl (q_build (vs := [(0, .int .i64 2)]) (cs := [.int .i64 2, .slice none 0 0, .slice none 0 0]) rfl rfl) ?_
                refine o_e rfl (zaz (i := 1) rfl rfl rfl Z27 rfl rfl) (fun _ => ?_)
                refine o_end ?_
                refine za2 ?_
                refine c_seq ?_
                refine c_seq ?_
                refine za0 ?_
                refine o_q rfl rfl (za3 rfl) ?_
                refine bindE3 h (fun i1447 i1448 i1449 hx1446 h => ?_) rfl
                refine o_e rfl (za9 1 Z Try.func66 N66 rfl rfl rfl (fun w P1 hF hB hS hT => spec_l1Cur_pick.calls g0 A0_0 c0_0 l0_0.length l0_0 i754 i755 2 hB hF (hS _ R0_0) hc0_0 _ _ _ hx1446)) (fun _ => ?_)
                refine o_q rfl rfl (q_add64 rfl rfl) ?_
                refine o_q rfl rfl (q_asg rfl) ?_
                refine o_end ?_
                refine za2 ?_
                refine zam ?_
                refine c_nil kStep 88 ?_
                refine za8 h (fun o1462 hl1461 hR1460 => ?_) rfl
                clear h
                refine zaw (σ := (List SStep) × Int × (Option Addr) × Nat) (fun k1457 ((l1451, i1454, A1452, c1453) : (List SStep) × Int × (Option Addr) × Nat) => spec_l1Cur_anyPlan.l2 k1457 l1451 i1454 = some o1462) [9, 99, 100, 101, 102, 103, 104, 105, 106, 107, 108, 109, 110, 111, 112] (fun ((l1451, i1454, A1452, c1453) : (List SStep) × Int × (Option Addr) × Nat) => [(9, .int .i64 i1454)]) (fun ((l1451, i1454, A1452, c1453) : (List SStep) × Int × (Option Addr) × Nat) => [row kStep 88 (.slice A1452 l1451.length c1453) l1451, box g0 67 #[.slice A0_0 l0_0.length c0_0, .int .i64 i1448, .int .u64 i1449], box g13 27 #[.int .i64 2, .slice A1452 l1451.length c1453, .slice none 0 0], row kStep 88 (.slice A9 l5.length c10) l5, row (Kd.int .i64) 3 (.slice A11 l6.length c12) l6, box g1 27 #[.int .i64 0, .slice none 0 0, .slice none 0 0]]) k (([] : List SStep), w64 (40 + i1447), none, 0) hl1461 ⟨rfl, trivial⟩ (fun w h => h) ?_
                refine natC (cur4 (fun l1451 i1454 A1452 c1453 => fun U1463 hJ_ => ?_)) (fun k1457 => (cur4 (fun l1451 i1454 A1452 c1453 => fun U1463 hJ_ => ?_)))
                · skip
                  replace hJ_ : spec_l1Cur_anyPlan.l2 0 l1451 i1454 = some o1462 := hJ_
                  rw [spec_l1Cur_anyPlan.l2] at hJ_
                  exact noneE hJ_
                · skip
                  clear hl1461
                  have h := hJ_; clear hJ_
                  replace h : spec_l1Cur_anyPlan.l2 (k1457 + 1) l1451 i1454 = some o1462 := h
                  rw [spec_l1Cur_anyPlan.l2] at h
                  refine c_seq ?_
                  refine c_seq ?_
                  refine za0 ?_
                  refine o_q rfl rfl (za3 rfl) ?_
                  refine o_q rfl rfl (q_gtr rfl rfl) ?_
                  refine o_end ?_
                  refine za2 ?_
                  refine zat _ rfl (fun hb1465 => ?_) (fun hb1465 => ?_)
                  · skip
                    replace h := br_t hb1465 h
                    refine zaq ?_
                    refine za2 ?_
                    refine c_seq ?_
                    refine zam ?_
                    refine za0 ?_
                    refine o_q rfl rfl (q_f F27_1 rfl) ?_
                    refine o_q rfl rfl (q_ldb Y24 rfl (fun w h => h.zac (i := 2) rfl) rfl) ?_
                    refine o_q rfl rfl (q_f F27_1 rfl) ?_
                    refine o_q rfl rfl (q_ldb Y24 rfl (fun w h => h.zac (i := 2) rfl) rfl) ?_
                    refine o_q rfl rfl (q_len Try.underlying24 rfl) ?_
                    refine o_q rfl rfl (q_add64 rfl rfl) ?_
                    refine o_q rfl rfl (q_build (vs := [(0, .int .i64 0), (1, .int .i64 (w64 (1 + (l1451.length : Int))))]) (cs := [.int .i64 0, .int .i64 (w64 (1 + (l1451.length : Int)))]) rfl rfl) ?_
                    refine o_e rfl (e_lit (vs := [(0, .agg #[.int .i64 0, .int .i64 (w64 (1 + (l1451.length : Int)))])]) (cs := [.int .i64 0, .int .i64 (w64 (1 + (l1451.length : Int)))]) kStep ([(⟨0, w64 (1 + (l1451.length : Int))⟩ : SStep)] : List SStep) Try.underlying24 I88 (by decide) rfl (by decide) rfl rfl (fun _ _ => reps_flat _)) (cur2 (fun A1466 c1467 => ?_))
                    refine za8 h (fun l1469 ha1470 h => ?_) rfl
                    refine o_e rfl (e_app (i := 1) (j := 0) Try.underlying24 I88 rfl (by decide) (by decide) rfl rfl rfl rfl rfl ha1470) (cur2 (fun A1471 c1472 => ?_))
                    refine o_q rfl rfl (q_f F27_1 rfl) ?_
                    refine o_e rfl (e_store (i := 3) rfl rfl rfl rfl Z24 rfl rfl) (fun _ => ?_)
                    refine o_end ?_
                    refine zal ?_
                    refine za2 ?_
                    refine za0 ?_
                    refine o_q rfl rfl (za3 rfl) ?_
                    refine o_q rfl rfl (q_sub64 rfl rfl) ?_
                    refine o_q rfl rfl (q_asg rfl) ?_
                    refine o_end ?_
                    refine zak k1457 (l1469, w64 (i1454 - 1), A1471, c1472) (Nat.lt_succ_self _) h ⟨rfl, trivial⟩ (fun w h => za5 [1, 2, 3, 4, 5, 6] (by decide) rfl w h) ?_
                    repeat (first | exact zad _ _ | refine zah rfl ?_ | refine zae rfl ?_ | refine zai rfl ?_)
                  · skip
                    replace h := br_f hb1465 h
                    refine c_exit ?_
                    refine za6 ?_
                    refine za6 ?_
                    have e_ := Option.some.inj h; replace h := hR1460; rw [← e_] at h; clear e_
                    refine x_hit ?_
                    refine za2 ?_
                    refine za0 ?_
                    refine o_e rfl (e_lit (vs := [(0, .int .i64 5)]) (cs := [.int .i64 5]) (Kd.int .i64) ([5] : List Int) Try.underlying25 I3 (by decide) rfl (by decide) rfl rfl (fun _ _ => Kd.zao _)) (cur2 (fun A1473 c1474 => ?_))
                    refine o_q rfl rfl (q_f F27_2 rfl) ?_
                    refine o_e rfl (e_store (i := 3) rfl rfl rfl rfl Z25 rfl rfl) (fun _ => ?_)
                    refine o_end ?_
                    refine zal ?_
                    refine x_meetJ (2, l1451, ([5] : List Int), i1448, i1449, A1452, c1453, A1473, c1474) h trivial (fun w h => za5 [6, 3, 1, 0, 2] (by decide) rfl w h) ?_
                    repeat (first | exact zad _ _ | refine zah rfl ?_ | refine zae rfl ?_ | refine zai rfl ?_)
              · skip
                replace h := br_f hb1445 h
                refine zaq ?_
                refine zal ?_
                refine x_meetJ (i4, l5, l6, i754, i755, A9, c10, A11, c12) h trivial (fun w h => za5 [4, 1, 2, 3, 0] (by decide) rfl w h) ?_
                repeat (first | exact zad _ _ | refine zah rfl ?_ | refine zae rfl ?_ | refine zai rfl ?_)
  · skip
    refine (cur9 (fun i738 l739 l742 i745 i746 A740 c741 A743 c744 => fun U750 hJ751 => ?_))
    have e_ := Option.some.inj hJ751; have h := hR749; rw [← e_] at h; clear e_ hJ751 hR749 hl748
    refine c_seq ?_
    refine za0 ?_
    refine o_q rfl rfl (q_ldB G27 Z27 rfl (fun w h => h.zac (i := 1) rfl) rfl) ?_
    refine o_e rfl (zaz (i := 0) rfl rfl rfl Z27 rfl rfl) (fun _ => ?_)
    refine o_end ?_
    refine za2 ?_
    refine c_ret ?_
    have e0_ := Option.some.inj h; clear h
    have d0_ := (Prod.mk.inj e0_).1; have e1_ := (Prod.mk.inj e0_).2; clear e0_; subst d0_
    have d1_ := (Prod.mk.inj e1_).1; have e2_ := (Prod.mk.inj e1_).2; clear e1_; subst d1_
    have d2_ := (Prod.mk.inj e2_).1; have e3_ := (Prod.mk.inj e2_).2; clear e2_; subst d2_
    have d3_ := (Prod.mk.inj e3_).1; have e4_ := (Prod.mk.inj e3_).2; clear e3_; subst d3_
    subst e4_
    exact x_r1 (A740, c741, A743, c744) Try.results64 (rv_cell rfl G27 Z27 (fun w h => h.zac (i := 0) rfl) rfl) rfl (fun w h => za5 [2, 3, 4] (by decide) rfl w h)

/-! ### (*loop.example/g01098/spec.l1Cur).few: function 55 -/
def spec_l1Cur_few.f (k : Nat) (l0_0 : List Int) (a0_1 : Int) (a0_2 : Int) : Option (Int × (List SStep) × (List Int) × Int × Int) := (spec_l1Cur_one.f l0_0 a0_1 a0_2 15).bind fun (b4, i5, i6) => if b4 = true then ((spec_l1Cur_inputs.f l0_0 i5 i6).bind fun (i9, i10, i11) => (spec_l1Cur_anyPlan.f k l0_0 i10 i11 i9 12).bind fun (i13, l14, l15, i16, i17) => some (i13, l14, l15, i16, i17)) else ((spec_l1Cur_among.f l0_0 i5 i6 ([1, 2, 2, 3] : List Int)).bind fun (i26, i27, i28) => (spec_l1Cur_among.f l0_0 i27 i28 ([3, 5, 6, 7] : List Int)).bind fun (i33, i34, i35) => (spec_l1Cur_anyPlan.f k l0_0 i34 i35 i26 i33).bind fun (i37, l38, l39, i40, i41) => some (i37, l38, l39, i40, i41))
set_option maxHeartbeats 600000 in
set_option maxRecDepth 100000 in
theorem spec_l1Cur_few.calls (k : Nat) {w0 ws : World} {P0 : Nat → Prop} (g0 : Nat) (A0_0 : Option Addr) (c0_0 : Nat) (n0_0 : Nat) (l0_0 : List Int) (a0_1 : Int) (a0_2 : Int) (Z : Below w0.heap.size w0 ws) (hF : Fr w0 ws P0 [box g0 67 #[.slice A0_0 n0_0 c0_0, .int .i64 a0_1, .int .u64 a0_2]] ws) (R0_0 : Stable ws P0 (fun w => Kd.C (Kd.int .u8) w A0_0 n0_0 l0_0)) (hc0_0 : n0_0 ≤ c0_0) (r_1 : Int) (r_2 : List SStep) (r_5 : List Int) (r_8 : Int) (r_9 : Int) (h : spec_l1Cur_few.f k l0_0 a0_1 a0_2 = some (r_1, r_2, r_5, r_8, r_9)) :
    Calls Try.prog 55 #[.pointer (some ⟨g0, 0, none⟩)] ws (Post1 w0 ws P0 (fun ((q_3, q_4, q_6, q_7) : (Option Addr) × Nat × (Option Addr) × Nat) => .agg #[.int .i64 r_1, .slice q_3 r_2.length q_4, .slice q_6 r_5.length q_7]) (fun ((q_3, q_4, q_6, q_7) : (Option Addr) × Nat × (Option Addr) × Nat) => [row kStep 88 (.slice q_3 r_2.length q_4) r_2, row (Kd.int .i64) 3 (.slice q_6 r_5.length q_7) r_5, box g0 67 #[.slice A0_0 n0_0 c0_0, .int .i64 r_8, .int .u64 r_9]])) := by
  unfold spec_l1Cur_few.f at h
  obtain rfl := (R0_0 ws (KeptB.refl _ _)).1
  refine enter Try.func55 rfl Try.ntmps55 rfl hF ?_
  refine c_seq ?_
  refine za0 ?_
  refine o_e rfl (e_alloc V27 rfl) (fun g1 => ?_)
  refine o_end ?_
  refine za2 ?_
  refine c_seq ?_
  refine c_seq ?_
  refine za0 ?_
  refine o_q rfl rfl (za3 rfl) ?_
  refine o_pick [1, 0] (by decide) rfl ?_
  refine bindE3 h (fun b4 i5 i6 hx3 h => ?_) rfl
  refine o_e rfl (za9 1 Z Try.func102 N102 rfl rfl rfl (fun w P1 hF hB hS hT => spec_l1Cur_one.calls g0 A0_0 c0_0 l0_0.length l0_0 a0_1 a0_2 15 hB hF (hS _ R0_0) hc0_0 _ _ _ hx3)) (fun _ => ?_)
  refine o_end ?_
  refine za2 ?_
  refine zat _ rfl (fun hb7 => ?_) (fun hb7 => ?_)
  · skip
    replace h := bb_t hb7 h
    refine c_seq ?_
    refine za0 ?_
    refine o_q rfl rfl (za3 rfl) ?_
    refine o_q rfl rfl (za3 rfl) ?_
    refine bindE3 h (fun i9 i10 i11 hx8 h => ?_) rfl
    refine o_e rfl (za9 1 Z Try.func65 N65 rfl rfl rfl (fun w P1 hF hB hS hT => spec_l1Cur_inputs.calls g0 A0_0 c0_0 l0_0.length l0_0 i5 i6 hB hF (hS _ R0_0) hc0_0 _ _ _ hx8)) (fun _ => ?_)
    refine bindE5 h (fun i13 l14 l15 i16 i17 hx12 h => ?_) rfl
    refine o_e rfl (za9 1 Z Try.func64 N64 rfl rfl rfl (fun w P1 hF hB hS hT => spec_l1Cur_anyPlan.calls k g0 A0_0 c0_0 l0_0.length l0_0 i10 i11 i9 12 hB hF (hS _ R0_0) hc0_0 _ _ _ _ _ hx12)) (cur4 (fun A18 c19 A20 c21 => ?_))
    refine o_e rfl (zaz (i := 3) rfl rfl rfl Z27 rfl rfl) (fun _ => ?_)
    refine o_end ?_
    refine za2 ?_
    refine c_ret ?_
    refine zaf ?_
    have e0_ := Option.some.inj h; clear h
    have d0_ := (Prod.mk.inj e0_).1; have e1_ := (Prod.mk.inj e0_).2; clear e0_; subst d0_
    have d1_ := (Prod.mk.inj e1_).1; have e2_ := (Prod.mk.inj e1_).2; clear e1_; subst d1_
    have d2_ := (Prod.mk.inj e2_).1; have e3_ := (Prod.mk.inj e2_).2; clear e2_; subst d2_
    have d3_ := (Prod.mk.inj e3_).1; have e4_ := (Prod.mk.inj e3_).2; clear e3_; subst d3_
    subst e4_
    exact x_r1 (A18, c19, A20, c21) Try.results55 (rv_cell rfl G27 Z27 (fun w h => h.zac (i := 3) rfl) rfl) rfl (fun w h => za5 [0, 1, 2] (by decide) rfl w h)
  · skip
    replace h := bb_f hb7 h
    refine zaq ?_
    refine za2 ?_
    refine c_seq ?_
    refine za0 ?_
    refine o_q rfl rfl (za3 rfl) ?_
    refine o_q rfl rfl (za3 rfl) ?_
    refine o_e rfl (e_lit (vs := [(0, .int .i64 1), (1, .int .i64 2), (2, .int .i64 2), (3, .int .i64 3)]) (cs := [.int .i64 1, .int .i64 2, .int .i64 2, .int .i64 3]) (Kd.int .i64) ([1, 2, 2, 3] : List Int) Try.underlying25 I3 (by decide) rfl (by decide) rfl rfl (fun _ _ => Kd.zao _)) (cur2 (fun A22 c23 => ?_))
    refine o_pick [1, 0, 2] (by decide) rfl ?_
    refine bindE3 h (fun i26 i27 i28 hx25 h => ?_) rfl
    refine o_e rfl (za9 1 Z Try.func56 N56 rfl rfl rfl (fun w P1 hF hB hS hT => spec_l1Cur_among.calls g0 A0_0 c0_0 l0_0.length l0_0 i5 i6 A22 c23 (([1, 2, 2, 3] : List Int).length) ([1, 2, 2, 3] : List Int) hB hF (hS _ R0_0) hc0_0 (hT 0 _ rfl).row (hT 0 _ rfl).cap _ _ _ hx25)) (fun _ => ?_)
    refine o_q rfl rfl (za3 rfl) ?_
    refine o_e rfl (e_lit (vs := [(0, .int .i64 3), (1, .int .i64 5), (2, .int .i64 6), (3, .int .i64 7)]) (cs := [.int .i64 3, .int .i64 5, .int .i64 6, .int .i64 7]) (Kd.int .i64) ([3, 5, 6, 7] : List Int) Try.underlying25 I3 (by decide) rfl (by decide) rfl rfl (fun _ _ => Kd.zao _)) (cur2 (fun A29 c30 => ?_))
    refine o_pick [1, 0, 2, 3] (by decide) rfl ?_
    refine bindE3 h (fun i33 i34 i35 hx32 h => ?_) rfl
    refine o_e rfl (za9 1 Z Try.func56 N56 rfl rfl rfl (fun w P1 hF hB hS hT => spec_l1Cur_among.calls g0 A0_0 c0_0 l0_0.length l0_0 i27 i28 A29 c30 (([3, 5, 6, 7] : List Int).length) ([3, 5, 6, 7] : List Int) hB hF (hS _ R0_0) hc0_0 (hT 0 _ rfl).row (hT 0 _ rfl).cap _ _ _ hx32)) (fun _ => ?_)
    refine bindE5 h (fun i37 l38 l39 i40 i41 hx36 h => ?_) rfl
    refine o_e rfl (za9 1 Z Try.func64 N64 rfl rfl rfl (fun w P1 hF hB hS hT => spec_l1Cur_anyPlan.calls k g0 A0_0 c0_0 l0_0.length l0_0 i34 i35 i26 i33 hB hF (hS _ R0_0) hc0_0 _ _ _ _ _ hx36)) (cur4 (fun A42 c43 A44 c45 => ?_))
    refine o_e rfl (zaz (i := 5) rfl rfl rfl Z27 rfl rfl) (fun _ => ?_)
    refine o_end ?_
    refine za2 ?_
    refine c_ret ?_
    have e0_ := Option.some.inj h; clear h
    have d0_ := (Prod.mk.inj e0_).1; have e1_ := (Prod.mk.inj e0_).2; clear e0_; subst d0_
    have d1_ := (Prod.mk.inj e1_).1; have e2_ := (Prod.mk.inj e1_).2; clear e1_; subst d1_
    have d2_ := (Prod.mk.inj e2_).1; have e3_ := (Prod.mk.inj e2_).2; clear e2_; subst d2_
    have d3_ := (Prod.mk.inj e3_).1; have e4_ := (Prod.mk.inj e3_).2; clear e3_; subst d3_
    subst e4_
    exact x_r1 (A42, c43, A44, c45) Try.results55 (rv_cell rfl G27 Z27 (fun w h => h.zac (i := 5) rfl) rfl) rfl (fun w h => za5 [0, 1, 2] (by decide) rfl w h)

/-! ### loop.example/g01098/spec.DrawCountOrders: function 73 -/
def spec_DrawCountOrders.f (k : Nat) (l0 : List Int) : Option (Int × (List SStep) × (List Int)) := (spec_l1Cur_few.f k l0 0 0).bind fun (i6, l7, l8, i9, i10) => some (i6, l7, l8)
set_option maxHeartbeats 600000 in
set_option maxRecDepth 100000 in
theorem spec_DrawCountOrders.calls (k : Nat) {w0 ws : World} {P0 : Nat → Prop} (A0 : Option Addr) (c0 : Nat) (n0 : Nat) (l0 : List Int) (Z : Below w0.heap.size w0 ws) (hF : Fr w0 ws P0 [] ws) (R0 : Stable ws P0 (fun w => Kd.C (Kd.int .u8) w A0 n0 l0)) (hc0 : n0 ≤ c0) (r_1 : Int) (r_2 : List SStep) (r_5 : List Int) (h : spec_DrawCountOrders.f k l0 = some (r_1, r_2, r_5)) :
    Calls Try.prog 73 #[.slice A0 n0 c0] ws (Post1 w0 ws P0 (fun ((q_3, q_4, q_6, q_7) : (Option Addr) × Nat × (Option Addr) × Nat) => .agg #[.int .i64 r_1, .slice q_3 r_2.length q_4, .slice q_6 r_5.length q_7]) (fun ((q_3, q_4, q_6, q_7) : (Option Addr) × Nat × (Option Addr) × Nat) => [row kStep 88 (.slice q_3 r_2.length q_4) r_2, row (Kd.int .i64) 3 (.slice q_6 r_5.length q_7) r_5])) := by
  unfold spec_DrawCountOrders.f at h
  obtain rfl := (R0 ws (KeptB.refl _ _)).1
  refine enter Try.func73 rfl Try.ntmps73 rfl hF ?_
  refine c_seq ?_
  refine za0 ?_
  refine o_e rfl (e_alloc V27 rfl) (fun g1 => ?_)
  refine o_end ?_
  refine za2 ?_
  refine c_seq ?_
  refine za0 ?_
  refine o_q rfl rfl (za3 rfl) ?_
  refine o_q rfl rfl (q_build (vs := [(0, .slice A0 l0.length c0)]) (cs := [.slice A0 l0.length c0, .int .i64 0, .int .u64 0]) rfl rfl) ?_
  refine o_e rfl (e_box rfl) (fun g3 => ?_)
  refine o_q rfl rfl (q_asg rfl) ?_
  refine o_end ?_
  refine za2 ?_
  refine c_seq ?_
  refine za0 ?_
  refine o_q rfl rfl (za3 rfl) ?_
  refine bindE5 h (fun i6 l7 l8 i9 i10 hx5 h => ?_) rfl
  refine o_e rfl (za9 1 Z Try.func55 N55 rfl rfl rfl (fun w P1 hF hB hS hT => spec_l1Cur_few.calls k g3 A0 c0 l0.length l0 0 0 hB hF (hS _ R0) hc0 _ _ _ _ _ hx5)) (cur4 (fun A11 c12 A13 c14 => ?_))
  refine o_e rfl (zaz (i := 3) rfl rfl rfl Z27 rfl rfl) (fun _ => ?_)
  refine o_end ?_
  refine za2 ?_
  refine c_ret ?_
  have e0_ := Option.some.inj h; clear h
  have d0_ := (Prod.mk.inj e0_).1; have e1_ := (Prod.mk.inj e0_).2; clear e0_; subst d0_
  have d1_ := (Prod.mk.inj e1_).1; have e2_ := (Prod.mk.inj e1_).2; clear e1_; subst d1_
  subst e2_
  exact x_r1 (A11, c12, A13, c14) Try.results73 (rv_cell rfl G27 Z27 (fun w h => h.zac (i := 3) rfl) rfl) rfl (fun w h => za5 [0, 1] (by decide) rfl w h)

/-! ### loop.example/g01098/spec.DrawBestOrder: function 17 -/
def spec_DrawBestOrder.f (k : Nat) (l0 : List Int) : Option (Int × (List SStep) × (List Int)) := (spec_DrawCountOrders.f k l0).bind fun (i4, l5, l6) => some (i4, l5, l6)
set_option maxHeartbeats 600000 in
set_option maxRecDepth 100000 in
theorem spec_DrawBestOrder.calls (k : Nat) {w0 ws : World} {P0 : Nat → Prop} (A0 : Option Addr) (c0 : Nat) (n0 : Nat) (l0 : List Int) (Z : Below w0.heap.size w0 ws) (hF : Fr w0 ws P0 [] ws) (R0 : Stable ws P0 (fun w => Kd.C (Kd.int .u8) w A0 n0 l0)) (hc0 : n0 ≤ c0) (r_1 : Int) (r_2 : List SStep) (r_5 : List Int) (h : spec_DrawBestOrder.f k l0 = some (r_1, r_2, r_5)) :
    Calls Try.prog 17 #[.slice A0 n0 c0] ws (Post1 w0 ws P0 (fun ((q_3, q_4, q_6, q_7) : (Option Addr) × Nat × (Option Addr) × Nat) => .agg #[.int .i64 r_1, .slice q_3 r_2.length q_4, .slice q_6 r_5.length q_7]) (fun ((q_3, q_4, q_6, q_7) : (Option Addr) × Nat × (Option Addr) × Nat) => [row kStep 88 (.slice q_3 r_2.length q_4) r_2, row (Kd.int .i64) 3 (.slice q_6 r_5.length q_7) r_5])) := by
  unfold spec_DrawBestOrder.f at h
  obtain rfl := (R0 ws (KeptB.refl _ _)).1
  refine enter Try.func17 rfl Try.ntmps17 rfl hF ?_
  refine c_seq ?_
  refine za0 ?_
  refine o_e rfl (e_alloc V27 rfl) (fun g1 => ?_)
  refine o_end ?_
  refine za2 ?_
  refine c_seq ?_
  refine za0 ?_
  refine o_q rfl rfl (za3 rfl) ?_
  refine bindE3 h (fun i4 l5 l6 hx3 h => ?_) rfl
  refine o_e rfl (za9 0 Z Try.func73 N73 rfl rfl rfl (fun w P1 hF hB hS hT => spec_DrawCountOrders.calls k A0 c0 l0.length l0 hB hF (hS _ R0) hc0 _ _ _ hx3)) (cur4 (fun A7 c8 A9 c10 => ?_))
  refine o_e rfl (zaz (i := 2) rfl rfl rfl Z27 rfl rfl) (fun _ => ?_)
  refine o_end ?_
  refine za2 ?_
  refine c_ret ?_
  have e0_ := Option.some.inj h; clear h
  have d0_ := (Prod.mk.inj e0_).1; have e1_ := (Prod.mk.inj e0_).2; clear e0_; subst d0_
  have d1_ := (Prod.mk.inj e1_).1; have e2_ := (Prod.mk.inj e1_).2; clear e1_; subst d1_
  subst e2_
  exact x_r1 (A7, c8, A9, c10) Try.results17 (rv_cell rfl G27 Z27 (fun w h => h.zac (i := 2) rfl) rfl) rfl (fun w h => za5 [0, 1] (by decide) rfl w h)

/-! ### slices.Clone[[]int,int]: function 137 -/
def slices_Clone_int_int.f (l0 : List Int) : Option (List Int) := (ap ([] : List Int) l0).bind fun l5 => some l5
set_option maxHeartbeats 600000 in
set_option maxRecDepth 100000 in
theorem slices_Clone_int_int.calls {w0 ws : World} {P0 : Nat → Prop} (A0 : Option Addr) (c0 : Nat) (n0 : Nat) (l0 : List Int) (Z : Below w0.heap.size w0 ws) (hF : Fr w0 ws P0 [] ws) (R0 : Stable ws P0 (fun w => Kd.C (Kd.int .i64) w A0 n0 l0)) (hc0 : n0 ≤ c0) (r_1 : List Int) (h : slices_Clone_int_int.f l0 = some r_1) :
    Calls Try.prog 137 #[.slice A0 n0 c0] ws (Post1 w0 ws P0 (fun ((q_2, q_3) : (Option Addr) × Nat) => .slice q_2 r_1.length q_3) (fun ((q_2, q_3) : (Option Addr) × Nat) => [row (Kd.int .i64) 3 (.slice q_2 r_1.length q_3) r_1])) := by
  unfold slices_Clone_int_int.f at h
  obtain rfl := (R0 ws (KeptB.refl _ _)).1
  refine enter Try.func137 rfl Try.ntmps137 rfl hF ?_
  refine c_seq ?_
  refine za0 ?_
  refine o_q rfl rfl (q_asg rfl) ?_
  refine o_end ?_
  refine za2 ?_
  refine c_seq ?_
  refine c_seq ?_
  refine za0 ?_
  refine o_q rfl rfl (za3 rfl) ?_
  refine o_q rfl rfl (q_snil Try.underlying25 rfl rfl) ?_
  refine o_end ?_
  refine za2 ?_
  refine zat _ rfl (fun hb1 => ?_) (fun hb1 => ?_)
  · skip
    have hl_ := nil_of hb1 (R0 ws (KeptB.refl _ _)); subst hl_
    replace h : some ([] : List Int) = some r_1 := h
    refine c_seq ?_
    refine za0 ?_
    refine o_q rfl rfl (q_asg rfl) ?_
    refine o_end ?_
    refine za2 ?_
    refine c_ret ?_
    refine zaf ?_
    refine x_nil (Kd.int .i64) 3 ?_
    have e0_ := Option.some.inj h; clear h
    subst e0_
    exact x_r1 (none, 0) Try.results137 (zaj rfl) rfl (fun w h => za5 [0] (by decide) rfl w h)
  · skip
    refine zaq ?_
    refine za2 ?_
    refine c_seq ?_
    refine za0 ?_
    refine o_e rfl (e_lit0 (Kd.int .i64) Try.underlying25 I3) (cur2 (fun A2 c3 => ?_))
    refine o_q rfl rfl (za3 rfl) ?_
    refine za8 h (fun l5 ha6 h => ?_) rfl
    refine o_e rfl (e_appr (i := 0) Try.underlying25 I3 rfl (by decide) (by decide) (fun _ _ _ _ h => h) rfl (fun w h => R0.now Z h) rfl rfl ha6) (cur2 (fun A7 c8 => ?_))
    refine o_q rfl rfl (q_asg rfl) ?_
    refine o_end ?_
    refine za2 ?_
    refine c_ret ?_
    have e0_ := Option.some.inj h; clear h
    subst e0_
    exact x_r1 (A7, c8) Try.results137 (zaj rfl) rfl (fun w h => za5 [0] (by decide) rfl w h)

/-! ### (*loop.example/g01098/impl.Plan).best$1: function 136 -/
def impl_Plan_best_1.f (l0 : List Int) (a1_0_0 : Int) (l1_0_1 : List SStep) (l1_0_2 : List Int) (a2_0 : Int) (l3_0 : List Int) : Option (Int × (List Int)) := (impl_Plan_pressure.f a1_0_0 l1_0_1 l1_0_2 l0).bind fun i2 => (if a2_0 < 0 then (some true) else (some (decide (i2 < a2_0)))).bind fun b4 => if b4 = true then ((slices_Clone_int_int.f l0).bind fun l13 => some (i2, l13)) else (some (a2_0, l3_0))
set_option maxHeartbeats 600000 in
set_option maxRecDepth 100000 in
theorem impl_Plan_best_1.calls {w0 ws : World} {P0 : Nat → Prop} (A0 : Option Addr) (c0 : Nat) (n0 : Nat) (l0 : List Int) (g1 : Nat) (g1_0 : Nat) (a1_0_0 : Int) (A1_0_1 : Option Addr) (c1_0_1 : Nat) (n1_0_1 : Nat) (l1_0_1 : List SStep) (A1_0_2 : Option Addr) (c1_0_2 : Nat) (n1_0_2 : Nat) (l1_0_2 : List Int) (g2 : Nat) (a2_0 : Int) (g3 : Nat) (A3_0 : Option Addr) (c3_0 : Nat) (n3_0 : Nat) (l3_0 : List Int) (Z : Below w0.heap.size w0 ws) (hF : Fr w0 ws P0 [box g2 3 #[.int .i64 a2_0], box g3 25 #[.slice A3_0 n3_0 c3_0], row (Kd.int .i64) 3 (.slice A3_0 n3_0 c3_0) l3_0] ws) (R0 : Stable ws P0 (fun w => Kd.C (Kd.int .i64) w A0 n0 l0)) (hc0 : n0 ≤ c0) (R1_0_1 : Stable ws P0 (fun w => Kd.C kStep w A1_0_1 n1_0_1 l1_0_1)) (hc1_0_1 : n1_0_1 ≤ c1_0_1) (R1_0_2 : Stable ws P0 (fun w => Kd.C (Kd.int .i64) w A1_0_2 n1_0_2 l1_0_2)) (hc1_0_2 : n1_0_2 ≤ c1_0_2) (B1_0 : Stable ws P0 (fun w => w.heap[g1_0]? = some (.cells #[.int .i64 a1_0_0, .slice A1_0_1 n1_0_1 c1_0_1, .slice A1_0_2 n1_0_2 c1_0_2] 27 (0, 0)))) (B1 : Stable ws P0 (fun w => w.heap[g1]? = some (.cells #[.pointer (some ⟨g1_0, 0, none⟩)] 97 (0, 0)))) (r_1 : Int) (r_2 : List Int) (h : impl_Plan_best_1.f l0 a1_0_0 l1_0_1 l1_0_2 a2_0 l3_0 = some (r_1, r_2)) :
    Calls Try.prog 136 #[.slice A0 n0 c0, .pointer (some ⟨g1, 0, none⟩), .pointer (some ⟨g2, 0, none⟩), .pointer (some ⟨g3, 0, none⟩)] ws (Post1 w0 ws P0 (fun ((q_3, q_4) : (Option Addr) × Nat) => .tuple #[]) (fun ((q_3, q_4) : (Option Addr) × Nat) => [box g2 3 #[.int .i64 r_1], box g3 25 #[.slice q_3 r_2.length q_4], row (Kd.int .i64) 3 (.slice q_3 r_2.length q_4) r_2])) := by
  unfold impl_Plan_best_1.f at h
  obtain rfl := (hF.row_C (i := 2) rfl).2.1
  obtain rfl := (R0 ws (KeptB.refl _ _)).1
  obtain rfl := (R1_0_1 ws (KeptB.refl _ _)).1
  obtain rfl := (R1_0_2 ws (KeptB.refl _ _)).1
  refine enter Try.func136 rfl Try.ntmps136 rfl hF ?_
  refine c_seq ?_
  refine za0 ?_
  refine o_q rfl rfl (q_ldb Y97 rfl (fun w h => B1.now Z h) rfl) ?_
  refine o_q rfl rfl (za3 rfl) ?_
  refine za8 h (fun i2 hx1 h => ?_) rfl
  refine o_e rfl (za9 0 Z Try.func81 N81 rfl rfl rfl (fun w P1 hF hB hS hT => impl_Plan_pressure.calls g1_0 a1_0_0 A1_0_1 c1_0_1 l1_0_1.length l1_0_1 A1_0_2 c1_0_2 l1_0_2.length l1_0_2 A0 c0 l0.length l0 hB hF (hS _ R1_0_1) hc1_0_1 (hS _ R1_0_2) hc1_0_2 (hS _ B1_0) (hS _ R0) hc0 _ hx1)) (fun _ => ?_)
  refine o_q rfl rfl (q_asg rfl) ?_
  refine o_end ?_
  refine za2 ?_
  refine za8 h (fun o5 hl6 hR7 => ?_) rfl
  clear h
  refine c_cutJ (σ := Bool) (fun b4 => some b4 = some o5) [9, 10, 11, 12, 13, 14, 15] (fun b4 => [(15, .bool b4)]) (fun b4 => [box g2 3 #[.int .i64 a2_0], box g3 25 #[.slice A3_0 l3_0.length c3_0], row (Kd.int .i64) 3 (.slice A3_0 l3_0.length c3_0) l3_0]) ?_ ?_
  · skip
    have h := hl6; clear hl6
    clear hR7
    refine za0 ?_
    refine o_q rfl rfl (q_ldb Y3 rfl (fun w h => h.zac (i := 0) rfl) rfl) ?_
    refine o_q rfl rfl (q_lss rfl rfl) ?_
    refine o_q rfl rfl (za3 rfl) ?_
    refine byB (decide (a2_0 < 0)) (fun hb10 => ?_) (fun hb10 => ?_)
    · replace h := br_t hb10 h
      refine @o_n _ _ _ _ _ _ _ _ _ _ _ 12 (za1 rfl rfl rfl (congrArg Value.bool hb10) rfl) (Eq.refl (some 12)) ?_
      refine @o_n _ _ _ _ _ _ _ _ _ _ _ 13 (za1 rfl rfl rfl (congrArg Value.bool hb10) rfl) (Eq.refl (some 13)) ?_
      refine @o_n _ _ _ _ _ _ _ _ _ _ _ 14 (za1 rfl rfl rfl (congrArg Value.bool hb10) rfl) (Eq.refl (some 14)) ?_
      refine o_q rfl rfl (zaa true (congrArg Value.bool hb10) rfl) ?_
      refine o_end ?_
      refine x_meetJ true h ⟨rfl, trivial⟩ (fun w h => za5 [0, 1, 2] (by decide) rfl w h) ?_
      repeat (first | exact zad _ _ | refine zah rfl ?_ | refine zae rfl ?_ | refine zai rfl ?_)
    · replace h := br_f hb10 h
      refine o_w (za4 rfl rfl rfl (congrArg Value.bool hb10)) rfl (za3 rfl) ?_
      refine o_w (za4 rfl rfl rfl (congrArg Value.bool hb10)) rfl (q_ldb Y3 rfl (fun w h => h.zac (i := 0) rfl) rfl) ?_
      refine o_w (za4 rfl rfl rfl (congrArg Value.bool hb10)) rfl (q_lss rfl rfl) ?_
      refine o_q rfl rfl (zaa false (congrArg Value.bool hb10) rfl) ?_
      refine o_end ?_
      refine x_meetJ (decide (i2 < a2_0)) h ⟨rfl, trivial⟩ (fun w h => za5 [0, 1, 2] (by decide) rfl w h) ?_
      repeat (first | exact zad _ _ | refine zah rfl ?_ | refine zae rfl ?_ | refine zai rfl ?_)
  · skip
    refine (fun b4 => fun U8 hJ9 => ?_)
    have e_ := Option.some.inj hJ9; have h := hR7; rw [← e_] at h; clear e_ hJ9 hR7 hl6
    refine zat _ rfl (fun hb11 => ?_) (fun hb11 => ?_)
    · skip
      replace h := bb_t hb11 h
      refine za0 ?_
      refine o_q rfl rfl (za3 rfl) ?_
      refine za8 h (fun l13 hx12 h => ?_) rfl
      refine o_e rfl (za9 0 Z Try.func137 N137 rfl rfl rfl (fun w P1 hF hB hS hT => slices_Clone_int_int.calls A0 c0 l0.length l0 hB hF (hS _ R0) hc0 _ hx12)) (cur2 (fun A14 c15 => ?_))
      refine o_q rfl rfl (za3 rfl) ?_
      refine o_e rfl (e_store (i := 2) rfl rfl rfl rfl Z25 rfl rfl) (fun _ => ?_)
      refine o_e rfl (e_store (i := 1) rfl rfl rfl rfl Z3 rfl rfl) (fun _ => ?_)
      refine o_end ?_
      have e0_ := Option.some.inj h; clear h
      have d0_ := (Prod.mk.inj e0_).1; have e1_ := (Prod.mk.inj e0_).2; clear e0_; subst d0_
      subst e1_
      exact x_r0 (.inr rfl) (A14, c15) Try.results136 rfl (fun w h => za5 [1, 2, 0] (by decide) rfl w h)
    · skip
      replace h := bb_f hb11 h
      refine zaq ?_
      have e0_ := Option.some.inj h; clear h
      have d0_ := (Prod.mk.inj e0_).1; have e1_ := (Prod.mk.inj e0_).2; clear e0_; subst d0_
      subst e1_
      exact x_r0 (.inr rfl) (A3_0, c3_0) Try.results136 rfl (fun w h => za5 [0, 1, 2] (by decide) rfl w h)

/-! ### (*loop.example/g01098/impl.Plan).orders: function 123 -/
def impl_Plan_orders_2.l0 (self_ : Int → (List SStep) → (List Int) → (List Int) → Int → (List SStep) → (List Int) → Int → (List Int) → Option (Int × (List Int))) (a0_0 : Int) (l0_1 : List SStep) (l0_2 : List Int) (l1 : List Int) (a2_c0_0_0 : Int) (l2_c0_0_1 : List SStep) (l2_c0_0_2 : List Int) : (List SStep) → (List Int) → Int → Int → Option ((List Int) × Int)
  | [], l11, i14, i15 => some (l11, i14)
  | y16 :: ys17, l11, i14, i15 => ((slices_Contains_int_int.f l1 i15).bind fun b44 => if b44 = true then (some false) else ((impl_Plan_orders_1.f y16.f0 a0_0 l0_1 l0_2 l1).bind fun b47 => if b47 = true then ((impl_Plan_orders_1.f y16.f1 a0_0 l0_1 l0_2 l1).bind fun b50 => some b50) else (some false))).bind fun b37 => if b37 = true then ((slices_Clip_int_int.f l1).bind fun _ => (ap l1 ([i15] : List Int)).bind fun l353 => (self_ a0_0 l0_1 l0_2 l353 a2_c0_0_0 l2_c0_0_1 l2_c0_0_2 i14 l11).bind fun (i474, l475) => impl_Plan_orders_2.l0 self_ a0_0 l0_1 l0_2 l1 a2_c0_0_0 l2_c0_0_1 l2_c0_0_2 ys17 l475 i474 (i15 + 1)) else (impl_Plan_orders_2.l0 self_ a0_0 l0_1 l0_2 l1 a2_c0_0_0 l2_c0_0_1 l2_c0_0_2 ys17 l11 i14 (i15 + 1))
def impl_Plan_orders_2.f : Nat → Int → (List SStep) → (List Int) → (List Int) → Int → (List SStep) → (List Int) → Int → (List Int) → Option (Int × (List Int))
  | 0, _, _, _, _, _, _, _, _, _ => none
  | k + 1, a0_0, l0_1, l0_2, l1, a2_c0_0_0, l2_c0_0_1, l2_c0_0_2, a2_c1_0, l2_c2_0 => if (l1.length : Int) = (l0_1.length : Int) then ((impl_Plan_best_1.f l1 a2_c0_0_0 l2_c0_0_1 l2_c0_0_2 a2_c1_0 l2_c2_0).bind fun (i7, l8) => some (i7, l8)) else ((impl_Plan_orders_2.l0 (impl_Plan_orders_2.f k) a0_0 l0_1 l0_2 l1 a2_c0_0_0 l2_c0_0_1 l2_c0_0_2 l0_1 l2_c2_0 a2_c1_0 0).bind fun (l11, i14) => some (i14, l11))
set_option maxHeartbeats 600000 in
set_option maxRecDepth 100000 in
theorem impl_Plan_orders_2.calls : ∀ (k : Nat) {w0 ws : World} {P0 : Nat → Prop} (g0 : Nat) (a0_0 : Int) (A0_1 : Option Addr) (c0_1 : Nat) (n0_1 : Nat) (l0_1 : List SStep) (A0_2 : Option Addr) (c0_2 : Nat) (n0_2 : Nat) (l0_2 : List Int) (A1 : Option Addr) (c1 : Nat) (n1 : Nat) (l1 : List Int) (g2_c0 : Nat) (g2_c0_0 : Nat) (a2_c0_0_0 : Int) (A2_c0_0_1 : Option Addr) (c2_c0_0_1 : Nat) (n2_c0_0_1 : Nat) (l2_c0_0_1 : List SStep) (A2_c0_0_2 : Option Addr) (c2_c0_0_2 : Nat) (n2_c0_0_2 : Nat) (l2_c0_0_2 : List Int) (g2_c1 : Nat) (a2_c1_0 : Int) (g2_c2 : Nat) (A2_c2_0 : Option Addr) (c2_c2_0 : Nat) (n2_c2_0 : Nat) (l2_c2_0 : List Int) (Z : Below w0.heap.size w0 ws) (hF : Fr w0 ws P0 [box g2_c1 3 #[.int .i64 a2_c1_0], box g2_c2 25 #[.slice A2_c2_0 n2_c2_0 c2_c2_0], row (Kd.int .i64) 3 (.slice A2_c2_0 n2_c2_0 c2_c2_0) l2_c2_0] ws) (R0_1 : Stable ws P0 (fun w => Kd.C kStep w A0_1 n0_1 l0_1)) (hc0_1 : n0_1 ≤ c0_1) (R0_2 : Stable ws P0 (fun w => Kd.C (Kd.int .i64) w A0_2 n0_2 l0_2)) (hc0_2 : n0_2 ≤ c0_2) (B0 : Stable ws P0 (fun w => w.heap[g0]? = some (.cells #[.int .i64 a0_0, .slice A0_1 n0_1 c0_1, .slice A0_2 n0_2 c0_2] 27 (0, 0)))) (R1 : Stable ws P0 (fun w => Kd.C (Kd.int .i64) w A1 n1 l1)) (hc1 : n1 ≤ c1) (R2_c0_0_1 : Stable ws P0 (fun w => Kd.C kStep w A2_c0_0_1 n2_c0_0_1 l2_c0_0_1)) (hc2_c0_0_1 : n2_c0_0_1 ≤ c2_c0_0_1) (R2_c0_0_2 : Stable ws P0 (fun w => Kd.C (Kd.int .i64) w A2_c0_0_2 n2_c0_0_2 l2_c0_0_2)) (hc2_c0_0_2 : n2_c0_0_2 ≤ c2_c0_0_2) (B2_c0_0 : Stable ws P0 (fun w => w.heap[g2_c0_0]? = some (.cells #[.int .i64 a2_c0_0_0, .slice A2_c0_0_1 n2_c0_0_1 c2_c0_0_1, .slice A2_c0_0_2 n2_c0_0_2 c2_c0_0_2] 27 (0, 0)))) (B2_c0 : Stable ws P0 (fun w => w.heap[g2_c0]? = some (.cells #[.pointer (some ⟨g2_c0_0, 0, none⟩)] 97 (0, 0)))) (r_1 : Int) (r_2 : List Int) (h : impl_Plan_orders_2.f k a0_0 l0_1 l0_2 l1 a2_c0_0_0 l2_c0_0_1 l2_c0_0_2 a2_c1_0 l2_c2_0 = some (r_1, r_2)),
    Calls Try.prog 123 #[.pointer (some ⟨g0, 0, none⟩), .slice A1 n1 c1, .func (.func 136) #[] #[.pointer (some ⟨g2_c0, 0, none⟩), .pointer (some ⟨g2_c1, 0, none⟩), .pointer (some ⟨g2_c2, 0, none⟩)]] ws (Post1 w0 ws P0 (fun ((q_3, q_4) : (Option Addr) × Nat) => .tuple #[]) (fun ((q_3, q_4) : (Option Addr) × Nat) => [box g2_c1 3 #[.int .i64 r_1], box g2_c2 25 #[.slice q_3 r_2.length q_4], row (Kd.int .i64) 3 (.slice q_3 r_2.length q_4) r_2])) := by
  intro k
  induction k with
  | zero =>
    intros
    rename_i h
    cases h
  | succ k ih =>
    intro w0 ws P0 g0 a0_0 A0_1 c0_1 n0_1 l0_1 A0_2 c0_2 n0_2 l0_2 A1 c1 n1 l1 g2_c0 g2_c0_0 a2_c0_0_0 A2_c0_0_1 c2_c0_0_1 n2_c0_0_1 l2_c0_0_1 A2_c0_0_2 c2_c0_0_2 n2_c0_0_2 l2_c0_0_2 g2_c1 a2_c1_0 g2_c2 A2_c2_0 c2_c2_0 n2_c2_0 l2_c2_0 Z hF R0_1 hc0_1 R0_2 hc0_2 B0 R1 hc1 R2_c0_0_1 hc2_c0_0_1 R2_c0_0_2 hc2_c0_0_2 B2_c0_0 B2_c0 r_1 r_2 h
    rw [impl_Plan_orders_2.f] at h
    obtain rfl := (hF.row_C (i := 2) rfl).2.1
    obtain rfl := (R0_1 ws (KeptB.refl _ _)).1
    obtain rfl := (R0_2 ws (KeptB.refl _ _)).1
    obtain rfl := (R1 ws (KeptB.refl _ _)).1
    obtain rfl := (R2_c0_0_1 ws (KeptB.refl _ _)).1
    obtain rfl := (R2_c0_0_2 ws (KeptB.refl _ _)).1
    refine enter Try.func123 rfl Try.ntmps123 rfl hF ?_
    refine c_seq ?_
    refine za0 ?_
    refine o_e rfl (e_box rfl) (fun g1 => ?_)
    refine o_e rfl (e_box rfl) (fun g3 => ?_)
    refine o_end ?_
    refine za2 ?_
    refine c_seq ?_
    refine c_seq ?_
    refine a_start (ds := []) MO rfl ?_
    refine zau 0 rfl rfl rfl (by kernel_rfl) (fun _ _ _ h => h) (fun w h => h) (q_ldb Y25 rfl (fun w h => h.zac (i := 0) rfl) rfl) ?_
    refine za7 1 rfl rfl rfl (by kernel_rfl) (fun _ _ _ h => h) (q_len Try.underlying25 rfl) ?_
    refine zau 2 rfl rfl rfl (by kernel_rfl) (fun _ _ _ h => h) (fun w h => h) (q_ldb Y97 rfl (fun w h => h.zac (i := 1) rfl) rfl) ?_
    refine za7 3 rfl rfl rfl (by kernel_rfl) (fun _ _ _ h => h) (q_nil rfl) ?_
    refine za7 4 rfl rfl rfl (by kernel_rfl) (fun _ _ _ h => h) (q_f F27_1 rfl) ?_
    refine zau 5 rfl rfl rfl (by kernel_rfl) (fun _ _ _ h => h) (fun w h => h) (q_ldb Y24 rfl (fun w h => B0.now Z h) rfl) ?_
    refine za7 6 rfl rfl rfl (by kernel_rfl) (fun _ _ _ h => h) (q_len Try.underlying24 rfl) ?_
    refine za7 7 rfl rfl rfl (by kernel_rfl) (fun _ _ _ h => h) (q_eql rfl rfl) ?_
    refine zav (by kernel_rfl) ?_
    refine za2 ?_
    refine zat _ rfl (fun hb5 => ?_) (fun hb5 => ?_)
    · skip
      replace h := br_t hb5 h
      refine c_seq ?_
      refine za0 ?_
      refine o_q rfl rfl (za3 rfl) ?_
      refine o_q rfl rfl (q_ldb Y25 rfl (fun w h => h.zac (i := 0) rfl) rfl) ?_
      refine o_pick [2, 3, 4, 0, 1] (by decide) rfl ?_
      refine bindE2 h (fun i7 l8 hx6 h => ?_) rfl
      refine o_e rfl (za9 3 Z Try.func136 N136 rfl rfl rfl (fun w P1 hF hB hS hT => impl_Plan_best_1.calls A1 c1 l1.length l1 g2_c0 g2_c0_0 a2_c0_0_0 A2_c0_0_1 c2_c0_0_1 l2_c0_0_1.length l2_c0_0_1 A2_c0_0_2 c2_c0_0_2 l2_c0_0_2.length l2_c0_0_2 g2_c1 a2_c1_0 g2_c2 A2_c2_0 c2_c2_0 l2_c2_0.length l2_c2_0 hB hF (hS _ R1) hc1 (hS _ R2_c0_0_1) hc2_c0_0_1 (hS _ R2_c0_0_2) hc2_c0_0_2 (hS _ B2_c0_0) (hS _ B2_c0) _ _ hx6)) (cur2 (fun A9 c10 => ?_))
      refine o_end ?_
      refine za2 ?_
      refine c_ret ?_
      refine zaf ?_
      have e0_ := Option.some.inj h; clear h
      have d0_ := (Prod.mk.inj e0_).1; have e1_ := (Prod.mk.inj e0_).2; clear e0_; subst d0_
      subst e1_
      exact x_r0 (.inl rfl) (A9, c10) Try.results123 rfl (fun w h => za5 [0, 1, 2] (by decide) rfl w h)
    · skip
      replace h := br_f hb5 h
      refine zaq ?_
      refine za2 ?_
      refine c_seq ?_
      refine za0 ?_
      refine o_q rfl rfl (q_func rfl rfl) ?_
      refine o_q rfl rfl (q_asg rfl) ?_
      refine o_end ?_
      refine za2 ?_
      refine c_seq ?_
      refine za0 ?_
      refine o_q rfl rfl (q_ldb Y97 rfl (fun w h => h.zac (i := 1) rfl) rfl) ?_
      refine o_q rfl rfl (q_nil rfl) ?_
      refine o_q rfl rfl (q_f F27_1 rfl) ?_
      refine o_q rfl rfl (q_ldb Y24 rfl (fun w h => B0.now Z h) rfl) ?_
      refine o_q rfl rfl (q_len Try.underlying24 rfl) ?_
      refine o_q rfl rfl (za3 rfl) ?_
      refine o_end ?_
      refine za2 ?_
      refine zam ?_
      refine za8 h (fun o23 hl22 hR21 => ?_) rfl
      clear h
      refine c_fact (p := l0_1.length ≤ 9223372036854775807) (fun w h => (R0_1.now Z h).2.1) (fun hm20 => ?_)
      refine zaw (σ := (List SStep) × (List Int) × Int × Int × (Option Addr) × Nat) (fun k18 ((ys17, l11, i14, i15, A12, c13) : (List SStep) × (List Int) × Int × Int × (Option Addr) × Nat) => Rg l0_1 i15 ys17 ∧ ys17.length = k18 ∧ impl_Plan_orders_2.l0 (impl_Plan_orders_2.f k) a0_0 l0_1 l0_2 l1 a2_c0_0_0 l2_c0_0_1 l2_c0_0_2 ys17 l11 i14 i15 = some o23) [7, 8, 26, 27, 28, 29, 30, 31, 32, 33, 34, 35, 36, 37, 38, 39, 40, 41, 42, 43, 44, 45, 46, 47, 48, 49, 50, 51, 52, 53, 54, 55] (fun ((ys17, l11, i14, i15, A12, c13) : (List SStep) × (List Int) × Int × Int × (Option Addr) × Nat) => [(26, .int .i64 i15)]) (fun ((ys17, l11, i14, i15, A12, c13) : (List SStep) × (List Int) × Int × Int × (Option Addr) × Nat) => [box g3 25 #[.slice A1 l1.length c1], box g1 97 #[.pointer (some ⟨g0, 0, none⟩)], box g2_c1 3 #[.int .i64 i14], box g2_c2 25 #[.slice A12 l11.length c13], row (Kd.int .i64) 3 (.slice A12 l11.length c13) l11]) l0_1.length (l0_1, l2_c2_0, a2_c1_0, 0, A2_c2_0, c2_c2_0) ⟨Rg.start _, rfl, hl22⟩ ⟨rfl, trivial⟩ (fun w h => h) ?_
      refine fun k18 => cur6 (listC (fun l11 i14 i15 A12 c13 U24 hJ_ => ?_) (fun y16 ys17 l11 i14 i15 A12 c13 U24 hJ_ => ?_))
      · skip
        clear hl22
        have hr19 := hJ_.1; have hk25 := hJ_.2.1; have h := hJ_.2.2; clear hJ_
        replace h : impl_Plan_orders_2.l0 (impl_Plan_orders_2.f k) a0_0 l0_1 l0_2 l1 a2_c0_0_0 l2_c0_0_1 l2_c0_0_2 [] l11 i14 i15 = some o23 := h
        rw [impl_Plan_orders_2.l0] at h
        refine c_seq ?_
        refine za0 ?_
        refine o_q rfl rfl (q_lss rfl rfl) ?_
        refine o_end ?_
        refine za2 ?_
        refine c_seq ?_
        refine c_false (congrArg Value.bool hr19.ge) ?_
        refine c_exit ?_
        refine za6 ?_
        refine za6 ?_
        have e_ := Option.some.inj h; replace h := hR21; rw [← e_] at h; clear e_
        refine x_hit ?_
        have e0_ := Option.some.inj h; clear h
        have d0_ := (Prod.mk.inj e0_).1; have e1_ := (Prod.mk.inj e0_).2; clear e0_; subst d0_
        subst e1_
        exact x_r0 (.inr rfl) (A12, c13) Try.results123 rfl (fun w h => za5 [2, 3, 4] (by decide) rfl w h)
      · skip
        clear hl22
        have hr19 := hJ_.1; have hk25 := hJ_.2.1; have h := hJ_.2.2; clear hJ_
        replace h : impl_Plan_orders_2.l0 (impl_Plan_orders_2.f k) a0_0 l0_1 l0_2 l1 a2_c0_0_0 l2_c0_0_1 l2_c0_0_2 (y16 :: ys17) l11 i14 i15 = some o23 := h
        rw [impl_Plan_orders_2.l0] at h
        refine c_seq ?_
        refine za0 ?_
        refine o_q rfl rfl (q_lss rfl rfl) ?_
        refine o_end ?_
        refine za2 ?_
        refine c_seq ?_
        refine c_true (congrArg Value.bool hr19.lt) ?_
        refine zaq ?_
        refine za2 ?_
        refine c_seq ?_
        refine zam ?_
        refine c_seq ?_
        refine za0 ?_
        refine o_q rfl rfl (za3 rfl) ?_
        refine o_fact (p := Sh A0_1 l0_1.length l0_1.length) (fun w h => f_sh (dk := kStep) h (fun w h => R0_1.now Z h)) (fun hq26 => ?_)
        refine o_q rfl rfl (q_ix Try.underlying24 Z88 rfl rfl hq26 hr19.get) ?_
        refine o_q rfl rfl (q_ldE G88 Z88 rfl rfl (fun w h => R0_1.now Z h) hr19.get (fun _ _ h => h) rfl) ?_
        refine o_e rfl (e_alloc V88 rfl) (fun g27 => ?_)
        refine o_q rfl rfl (q_asg rfl) ?_
        refine o_e rfl (zaz (i := 0) rfl rfl rfl Z88 rfl rfl) (fun _ => ?_)
        refine o_end ?_
        refine za2 ?_
        refine za8 h (fun o38 hl39 hR40 => ?_) rfl
        clear h
        refine c_cutJ (σ := Bool) (fun b37 => some b37 = some o38) [31, 32, 33, 34, 35, 36, 37, 38, 39, 40, 41, 42, 43, 44, 45, 46] (fun b37 => [(46, .bool b37)]) (fun b37 => [box g2_c1 3 #[.int .i64 i14], box g2_c2 25 #[.slice A12 l11.length c13], row (Kd.int .i64) 3 (.slice A12 l11.length c13) l11, box g1 97 #[.pointer (some ⟨g0, 0, none⟩)], box g3 25 #[.slice A1 l1.length c1], box g27 88 #[.int .i64 y16.f0, .int .i64 y16.f1]]) ?_ ?_
        · skip
          have h := hl39; clear hl39
          clear hR40
          refine za0 ?_
          refine o_q rfl rfl (q_ldb Y25 rfl (fun w h => h.zac (i := 1) rfl) rfl) ?_
          refine o_q rfl rfl (za3 rfl) ?_
          refine za8 h (fun b44 hx43 h => ?_) rfl
          refine o_e rfl (za9 0 Z Try.func169 N169 rfl rfl rfl (fun w P1 hF hB hS hT => slices_Contains_int_int.calls A1 c1 l1.length l1 i15 hB hF (hS _ R1) hc1 _ hx43)) (fun _ => ?_)
          refine o_q rfl rfl (q_not rfl) ?_
          refine o_q rfl rfl (za3 rfl) ?_
          refine byB b44 (fun hb45 => ?_) (fun hb45 => ?_)
          · replace h := bb_t hb45 h
            refine @o_n _ _ _ _ _ _ _ _ _ _ _ 36 (za1 rfl rfl rfl (congrArg (fun b => Value.bool (!(b))) hb45) rfl) (Eq.refl (some 36)) ?_
            refine @o_n _ _ _ _ _ _ _ _ _ _ _ 37 (za1 rfl rfl rfl (congrArg (fun b => Value.bool (!(b))) hb45) rfl) (Eq.refl (some 37)) ?_
            refine @o_n _ _ _ _ _ _ _ _ _ _ _ 38 (za1 rfl rfl rfl (congrArg (fun b => Value.bool (!(b))) hb45) rfl) (Eq.refl (some 38)) ?_
            refine @o_n _ _ _ _ _ _ _ _ _ _ _ 39 (za1 rfl rfl rfl (congrArg (fun b => Value.bool (!(b))) hb45) rfl) (Eq.refl (some 39)) ?_
            refine o_q rfl rfl (zaa false (congrArg (fun b => Value.bool (!(b))) hb45) rfl) ?_
            refine o_q rfl rfl (za3 rfl) ?_
            refine @o_n _ _ _ _ _ _ _ _ _ _ _ 42 (za1 rfl rfl rfl rfl rfl) (Eq.refl (some 42)) ?_
            refine @o_n _ _ _ _ _ _ _ _ _ _ _ 43 (za1 rfl rfl rfl rfl rfl) (Eq.refl (some 43)) ?_
            refine @o_n _ _ _ _ _ _ _ _ _ _ _ 44 (za1 rfl rfl rfl rfl rfl) (Eq.refl (some 44)) ?_
            refine @o_n _ _ _ _ _ _ _ _ _ _ _ 45 (za1 rfl rfl rfl rfl rfl) (Eq.refl (some 45)) ?_
            refine o_q rfl rfl (zaa false rfl rfl) ?_
            refine o_end ?_
            refine x_meetJ false h ⟨rfl, trivial⟩ (fun w h => za5 [3, 4, 5, 2, 1, 0] (by decide) rfl w h) ?_
            repeat (first | exact zad _ _ | refine zah rfl ?_ | refine zae rfl ?_ | refine zai rfl ?_)
          · replace h := bb_f hb45 h
            refine o_w (za4 rfl rfl rfl (congrArg (fun b => Value.bool (!(b))) hb45)) rfl (za3 rfl) ?_
            refine o_w (za4 rfl rfl rfl (congrArg (fun b => Value.bool (!(b))) hb45)) rfl (q_f F88_0 rfl) ?_
            refine o_w (za4 rfl rfl rfl (congrArg (fun b => Value.bool (!(b))) hb45)) rfl (q_ldb Y3 rfl (fun w h => h.zac (i := 0) rfl) rfl) ?_
            refine za8 h (fun b47 hx46 h => ?_) rfl
            refine o_ew (za4 rfl rfl rfl (congrArg (fun b => Value.bool (!(b))) hb45)) (za9 0 Z Try.func168 N168 rfl rfl rfl (fun w P1 hF hB hS hT => impl_Plan_orders_1.calls y16.f0 g1 g0 a0_0 A0_1 c0_1 l0_1.length l0_1 A0_2 c0_2 l0_2.length l0_2 g3 A1 c1 l1.length l1 hB hF (hS _ R0_1) hc0_1 (hS _ R0_2) hc0_2 (hS _ B0) (hT 2 _ rfl).box (hS _ R1) hc1 (hT 1 _ rfl).box _ hx46)) (fun _ => ?_)
            refine o_q rfl rfl (zaa true (congrArg (fun b => Value.bool (!(b))) hb45) rfl) ?_
            refine o_q rfl rfl (za3 rfl) ?_
            refine byB b47 (fun hb48 => ?_) (fun hb48 => ?_)
            · replace h := bb_t hb48 h
              refine o_w (za4 rfl rfl rfl (congrArg Value.bool hb48)) rfl (za3 rfl) ?_
              refine o_w (za4 rfl rfl rfl (congrArg Value.bool hb48)) rfl (q_f F88_1 rfl) ?_
              refine o_w (za4 rfl rfl rfl (congrArg Value.bool hb48)) rfl (q_ldb Y3 rfl (fun w h => h.zac (i := 0) rfl) rfl) ?_
              refine za8 h (fun b50 hx49 h => ?_) rfl
              refine o_ew (za4 rfl rfl rfl (congrArg Value.bool hb48)) (za9 0 Z Try.func168 N168 rfl rfl rfl (fun w P1 hF hB hS hT => impl_Plan_orders_1.calls y16.f1 g1 g0 a0_0 A0_1 c0_1 l0_1.length l0_1 A0_2 c0_2 l0_2.length l0_2 g3 A1 c1 l1.length l1 hB hF (hS _ R0_1) hc0_1 (hS _ R0_2) hc0_2 (hS _ B0) (hT 2 _ rfl).box (hS _ R1) hc1 (hT 1 _ rfl).box _ hx49)) (fun _ => ?_)
              refine o_q rfl rfl (zaa true (congrArg Value.bool hb48) rfl) ?_
              refine o_end ?_
              refine x_meetJ b50 h ⟨rfl, trivial⟩ (fun w h => za5 [3, 4, 5, 2, 1, 0] (by decide) rfl w h) ?_
              repeat (first | exact zad _ _ | refine zah rfl ?_ | refine zae rfl ?_ | refine zai rfl ?_)
            · replace h := bb_f hb48 h
              refine @o_n _ _ _ _ _ _ _ _ _ _ _ 42 (za1 rfl rfl rfl (congrArg Value.bool hb48) rfl) (Eq.refl (some 42)) ?_
              refine @o_n _ _ _ _ _ _ _ _ _ _ _ 43 (za1 rfl rfl rfl (congrArg Value.bool hb48) rfl) (Eq.refl (some 43)) ?_
              refine @o_n _ _ _ _ _ _ _ _ _ _ _ 44 (za1 rfl rfl rfl (congrArg Value.bool hb48) rfl) (Eq.refl (some 44)) ?_
              refine @o_n _ _ _ _ _ _ _ _ _ _ _ 45 (za1 rfl rfl rfl (congrArg Value.bool hb48) rfl) (Eq.refl (some 45)) ?_
              refine o_q rfl rfl (zaa false (congrArg Value.bool hb48) rfl) ?_
              refine o_end ?_
              refine x_meetJ false h ⟨rfl, trivial⟩ (fun w h => za5 [3, 4, 5, 2, 1, 0] (by decide) rfl w h) ?_
              repeat (first | exact zad _ _ | refine zah rfl ?_ | refine zae rfl ?_ | refine zai rfl ?_)
        · skip
          refine (fun b37 => fun U41 hJ42 => ?_)
          have e_ := Option.some.inj hJ42; have h := hR40; rw [← e_] at h; clear e_ hJ42 hR40 hl39
          refine zat _ rfl (fun hb51 => ?_) (fun hb51 => ?_)
          · skip
            replace h := bb_t hb51 h
            refine za8 h (fun _ hx173 h => ?_) rfl
            refine za8 h (fun l353 ha354 h => ?_) rfl
            refine bindE2 h (fun i474 l475 hx473 h => ?_) rfl
            refine a_startS (ds := []) [none, none, none, some 3, some 4, some 5] MO rfl ?_
            refine zau 0 rfl rfl rfl (by kernel_rfl) (fun _ _ _ h => h) (fun w h => zab [none, none, none, some 3, some 4, some 5] (by decide) w h rfl) (q_ldb Y97 rfl (fun w h => h.zac (i := 3) rfl) rfl) ?_
            refine zau 1 rfl rfl rfl (by kernel_rfl) (fun _ _ _ h => h) (fun w h => zab [none, none, none, some 3, some 4, some 5] (by decide) w h rfl) (q_ldb Y25 rfl (fun w h => h.zac (i := 4) rfl) rfl) ?_
            refine za7 3 rfl rfl rfl (by kernel_rfl) (fun _ _ _ h => h) (za3 rfl) ?_
            refine za7 6 rfl rfl rfl (by kernel_rfl) (fun _ _ _ h => h) (za3 rfl) ?_
            refine a_two 2 4 rfl rfl rfl rfl (by kernel_rfl) rfl rfl (za9 0 Z Try.func170 N170 rfl rfl rfl (fun w P1 hF hB hS hT => slices_Clip_int_int.calls A1 c1 l1.length l1 hB hF (hS _ R1) hc1 hx173)) (fun s w h => zab [none, none, none, some 3, some 4, some 5] (by decide) w h rfl) (e_lit (vs := [(0, .int .i64 i15)]) (cs := [.int .i64 i15]) (Kd.int .i64) ([i15] : List Int) Try.underlying25 I3 (by decide) rfl (by decide) rfl rfl (fun _ _ => Kd.zao _)) (fun s w h => zab [none, none, none, some 4, some 5, some 6] (by decide) w h rfl) (fun _ => ?_) (cur2 (fun A293 c294 => ?_))
            · skip
              refine a_one 4 rfl rfl (by kernel_rfl) rfl (e_lit (vs := [(0, .int .i64 i15)]) (cs := [.int .i64 i15]) (Kd.int .i64) ([i15] : List Int) Try.underlying25 I3 (by decide) rfl (by decide) rfl rfl (fun _ _ => Kd.zao _)) (fun s w h => zab [none, none, none, some 4, some 5, some 6] (by decide) w h rfl) (cur2 (fun A293 c294 => ?_))
              refine a_one 5 rfl rfl (by kernel_rfl) rfl (e_appF (j := 0) Try.underlying25 I3 rfl (by decide) (fun w h => R1.now Z h) rfl (Nat.succ_pos _) rfl rfl ha354) (fun s w h => zab [none, none, none, some 5, some 6, some 7] (by decide) w h rfl) (cur2 (fun A355 c356 => ?_))
              refine a_pick [2, 3, 4, 0, 5, 6, 7] (by decide) rfl ?_
              refine a_one 7 rfl rfl (by kernel_rfl) rfl (za9 3 Z Try.func123 N123 rfl rfl rfl (fun w P1 hF hB hS hT => ih g0 a0_0 A0_1 c0_1 l0_1.length l0_1 A0_2 c0_2 l0_2.length l0_2 A355 c356 l353.length l353 g2_c0 g2_c0_0 a2_c0_0_0 A2_c0_0_1 c2_c0_0_1 l2_c0_0_1.length l2_c0_0_1 A2_c0_0_2 c2_c0_0_2 l2_c0_0_2.length l2_c0_0_2 g2_c1 i14 g2_c2 A12 c13 l11.length l11 hB hF (hS _ R0_1) hc0_1 (hS _ R0_2) hc0_2 (hS _ B0) (hT 0 _ rfl).row (hT 0 _ rfl).cap (hS _ R2_c0_0_1) hc2_c0_0_1 (hS _ R2_c0_0_2) hc2_c0_0_2 (hS _ B2_c0_0) (hS _ B2_c0) _ _ hx473)) (fun s w h => zab [none, none, none, some 4, some 5, some 6] (by decide) w h rfl) (cur2 (fun A476 c477 => ?_))
              refine zav (by kernel_rfl) ?_
              refine zal ?_
              refine za2 ?_
              refine za0 ?_
              refine o_q rfl rfl (q_up rfl rfl (hr19.up hm20)) ?_
              refine o_q rfl rfl (za3 rfl) ?_
              refine o_end ?_
              refine zak ys17.length (ys17, l475, i474, i15 + 1, A476, c477) (by rw [← hk25]; exact Nat.lt_succ_self _) ⟨hr19.step, rfl, h⟩ ⟨rfl, trivial⟩ (fun w h => za5 [5, 4, 0, 1, 2] (by decide) rfl w h) ?_
              repeat (first | exact zad _ _ | refine zah rfl ?_ | refine zae rfl ?_ | refine zai rfl ?_)
            · skip
              refine a_one 2 rfl rfl (by kernel_rfl) rfl (za9 0 Z Try.func170 N170 rfl rfl rfl (fun w P1 hF hB hS hT => slices_Clip_int_int.calls A1 c1 l1.length l1 hB hF (hS _ R1) hc1 hx173)) (fun s w h => zab [none, none, none, some 4, some 5, some 6] (by decide) w h rfl) (fun _ => ?_)
              refine a_one 5 rfl rfl (by kernel_rfl) rfl (e_appF (j := 0) Try.underlying25 I3 rfl (by decide) (fun w h => R1.now Z h) rfl (Nat.succ_pos _) rfl rfl ha354) (fun s w h => zab [none, none, none, some 5, some 6, some 7] (by decide) w h rfl) (cur2 (fun A355 c356 => ?_))
              refine a_pick [2, 3, 4, 0, 5, 6, 7] (by decide) rfl ?_
              refine a_one 7 rfl rfl (by kernel_rfl) rfl (za9 3 Z Try.func123 N123 rfl rfl rfl (fun w P1 hF hB hS hT => ih g0 a0_0 A0_1 c0_1 l0_1.length l0_1 A0_2 c0_2 l0_2.length l0_2 A355 c356 l353.length l353 g2_c0 g2_c0_0 a2_c0_0_0 A2_c0_0_1 c2_c0_0_1 l2_c0_0_1.length l2_c0_0_1 A2_c0_0_2 c2_c0_0_2 l2_c0_0_2.length l2_c0_0_2 g2_c1 i14 g2_c2 A12 c13 l11.length l11 hB hF (hS _ R0_1) hc0_1 (hS _ R0_2) hc0_2 (hS _ B0) (hT 0 _ rfl).row (hT 0 _ rfl).cap (hS _ R2_c0_0_1) hc2_c0_0_1 (hS _ R2_c0_0_2) hc2_c0_0_2 (hS _ B2_c0_0) (hS _ B2_c0) _ _ hx473)) (fun s w h => zab [none, none, none, some 4, some 5, some 6] (by decide) w h rfl) (cur2 (fun A476 c477 => ?_))
              refine zav (by kernel_rfl) ?_
              refine zal ?_
              refine za2 ?_
              refine za0 ?_
              refine o_q rfl rfl (q_up rfl rfl (hr19.up hm20)) ?_
              refine o_q rfl rfl (za3 rfl) ?_
              refine o_end ?_
              refine zak ys17.length (ys17, l475, i474, i15 + 1, A476, c477) (by rw [← hk25]; exact Nat.lt_succ_self _) ⟨hr19.step, rfl, h⟩ ⟨rfl, trivial⟩ (fun w h => za5 [5, 4, 0, 1, 2] (by decide) rfl w h) ?_
              repeat (first | exact zad _ _ | refine zah rfl ?_ | refine zae rfl ?_ | refine zai rfl ?_)
          · skip
            replace h := bb_f hb51 h
            refine zaq ?_
            refine zal ?_
            refine za2 ?_
            refine za0 ?_
            refine o_q rfl rfl (q_up rfl rfl (hr19.up hm20)) ?_
            refine o_q rfl rfl (za3 rfl) ?_
            refine o_end ?_
            refine zak ys17.length (ys17, l11, i14, i15 + 1, A12, c13) (by rw [← hk25]; exact Nat.lt_succ_self _) ⟨hr19.step, rfl, h⟩ ⟨rfl, trivial⟩ (fun w h => za5 [4, 3, 0, 1, 2] (by decide) rfl w h) ?_
            repeat (first | exact zad _ _ | refine zah rfl ?_ | refine zae rfl ?_ | refine zai rfl ?_)

end Go.Proofs.Ytdicngjloiphkaa.FW
