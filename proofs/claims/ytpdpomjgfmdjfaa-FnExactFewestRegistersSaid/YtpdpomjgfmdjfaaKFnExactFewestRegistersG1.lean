import Derived.Test.YtpdpomjgfmdjfaaKFnExactFewestRegistersG1p3
namespace Go.Proofs.Ytpdpomjgfmdjfaa.G1
open Go.RowKit Go.Proofs.Ytpdpomjgfmdjfaa.Frame Go.Proofs.YtpdpomjgfmdjfaaW.PrintWords Go.Proofs.YtpdpomjgfmdjfaaW.PrintLast
set_option linter.unusedVariables false
/-! ### (*loop.example/g01098/impl.Plan).best: function 111 -/
def impl_Plan_best.f (k : Nat) (a0_0 : Int) (l0_1 : List SStep) (l0_2 : List Int) : Option ((List Int) × Int) := (impl_Plan_orders_2.f k a0_0 l0_1 l0_2 [] a0_0 l0_1 l0_2 (-1) ([] : List Int)).bind fun (i11, l12) => some (l12, i11)
set_option maxHeartbeats 600000 in
set_option maxRecDepth 100000 in
theorem impl_Plan_best.calls (k : Nat) {w0 ws : World} {P0 : Nat → Prop} (g0 : Nat) (a0_0 : Int) (A0_1 : Option Addr) (c0_1 : Nat) (n0_1 : Nat) (l0_1 : List SStep) (A0_2 : Option Addr) (c0_2 : Nat) (n0_2 : Nat) (l0_2 : List Int) (Z : Below w0.heap.size w0 ws) (hF : Fr w0 ws P0 [] ws) (R0_1 : Stable ws P0 (fun w => Kd.C kStep w A0_1 n0_1 l0_1)) (hc0_1 : n0_1 ≤ c0_1) (R0_2 : Stable ws P0 (fun w => Kd.C (Kd.int .i64) w A0_2 n0_2 l0_2)) (hc0_2 : n0_2 ≤ c0_2) (B0 : Stable ws P0 (fun w => w.heap[g0]? = some (.cells #[.int .i64 a0_0, .slice A0_1 n0_1 c0_1, .slice A0_2 n0_2 c0_2] 36 (0, 0)))) (r_1 : List Int) (r_4 : Int) (h : impl_Plan_best.f k a0_0 l0_1 l0_2 = some (r_1, r_4)) :
    Calls Try.prog 111 #[.pointer (some ⟨g0, 0, none⟩)] ws (Post1 w0 ws P0 (fun ((q_2, q_3) : (Option Addr) × Nat) => .tuple #[.slice q_2 r_1.length q_3, .int .i64 r_4]) (fun ((q_2, q_3) : (Option Addr) × Nat) => [row (Kd.int .i64) 3 (.slice q_2 r_1.length q_3) r_1])) := by
  unfold impl_Plan_best.f at h
  obtain rfl := (R0_1 ws (KeptB.refl _ _)).1
  obtain rfl := (R0_2 ws (KeptB.refl _ _)).1
  refine enter Try.func111 rfl Try.ntmps111 rfl hF ?_
  refine c_seq ?_
  refine za0 ?_
  refine o_e rfl (e_box rfl) (fun g1 => ?_)
  refine o_q rfl rfl (q_asg rfl) ?_
  refine o_q rfl rfl (q_asg rfl) ?_
  refine o_end ?_
  refine za1 ?_
  refine c_seq ?_
  refine za0 ?_
  refine o_e rfl (e_lit0 (Kd.int .i64) Try.underlying22 I3) (cur2 (fun A3 c4 => ?_))
  refine o_e rfl (e_alloc V22 rfl) (fun g6 => ?_)
  refine o_e rfl (e_alloc V3 rfl) (fun g8 => ?_)
  refine o_e rfl (e_store (i := 1) rfl rfl rfl rfl Z22 rfl rfl) (fun _ => ?_)
  refine o_e rfl (e_store (i := 0) rfl rfl rfl rfl Z3 rfl rfl) (fun _ => ?_)
  refine o_end ?_
  refine za1 ?_
  refine c_seq ?_
  refine za0 ?_
  refine o_q rfl rfl (q_ldb Y88 rfl (fun w h => h.zaa (i := 3) rfl) rfl) ?_
  refine o_q rfl rfl (q_func rfl rfl) ?_
  refine bindE2 h (fun i11 l12 hx10 h => ?_) rfl
  refine o_e rfl (za9 3 Z Try.func165 N165 rfl rfl rfl (fun w P1 hF hB hS hT => impl_Plan_orders_2.calls k g0 a0_0 A0_1 c0_1 l0_1.length l0_1 A0_2 c0_2 l0_2.length l0_2 none 0 0 [] g1 g0 a0_0 A0_1 c0_1 l0_1.length l0_1 A0_2 c0_2 l0_2.length l0_2 g8 (-1) g6 A3 c4 (([] : List Int).length) ([] : List Int) hB hF (hS _ R0_1) hc0_1 (hS _ R0_2) hc0_2 (hS _ B0) (stab_nil _) (Nat.le_refl 0) (hS _ R0_1) hc0_1 (hS _ R0_2) hc0_2 (hS _ B0) (hT 0 _ rfl).box _ _ hx10)) (cur2 (fun A13 c14 => ?_))
  refine o_end ?_
  refine za1 ?_
  refine c_seq ?_
  refine a_start (ds := []) MO rfl ?_
  refine a_take 0 rfl rfl rfl (by kernel_rfl) (fun _ _ _ h => h) (fun w h => h) (q_ldb Y22 rfl (fun w h => h.zaa (i := 1) rfl) rfl) ?_
  refine a_take 1 rfl rfl rfl (by kernel_rfl) (fun _ _ _ h => h) (fun w h => h) (q_ldb Y3 rfl (fun w h => h.zaa (i := 0) rfl) rfl) ?_
  refine zac 2 rfl rfl rfl (by kernel_rfl) (fun _ _ _ h => h) (q_asg rfl) ?_
  refine zac 3 rfl rfl rfl (by kernel_rfl) (fun _ _ _ h => h) (q_asg rfl) ?_
  refine a_done (by kernel_rfl) ?_
  refine za1 ?_
  refine c_ret ?_
  have e0_ := Option.some.inj h; clear h
  have d0_ := (Prod.mk.inj e0_).1; have e1_ := (Prod.mk.inj e0_).2; clear e0_; subst d0_
  subst e1_
  exact x_r2 (A13, c14) Try.results111 (zab rfl) (zab rfl) rfl (fun w h => za6 [2] (by decide) rfl w h)

/-! ### loop.example/g01098/impl.FewestRegisters: function 50 -/
def impl_FewestRegisters.f (k : Nat) (a0_0 : Int) (l0_1 : List SStep) (l0_2 : List Int) : Option (Int × Bool) := (impl_orderable.f k a0_0 l0_1 l0_2).bind fun b4 => if b4 = true then ((impl_Plan_best.f k a0_0 l0_1 l0_2).bind fun (l7, i8) => some (i8, true)) else (some (0, false))
set_option maxHeartbeats 600000 in
set_option maxRecDepth 100000 in
theorem impl_FewestRegisters.calls (k : Nat) {w0 ws : World} {P0 : Nat → Prop} (a0_0 : Int) (A0_1 : Option Addr) (c0_1 : Nat) (n0_1 : Nat) (l0_1 : List SStep) (A0_2 : Option Addr) (c0_2 : Nat) (n0_2 : Nat) (l0_2 : List Int) (Z : Below w0.heap.size w0 ws) (hF : Fr w0 ws P0 [] ws) (R0_1 : Stable ws P0 (fun w => Kd.C kStep w A0_1 n0_1 l0_1)) (hc0_1 : n0_1 ≤ c0_1) (R0_2 : Stable ws P0 (fun w => Kd.C (Kd.int .i64) w A0_2 n0_2 l0_2)) (hc0_2 : n0_2 ≤ c0_2) (r_1 : Int) (r_2 : Bool) (h : impl_FewestRegisters.f k a0_0 l0_1 l0_2 = some (r_1, r_2)) :
    Calls Try.prog 50 #[.agg #[.int .i64 a0_0, .slice A0_1 n0_1 c0_1, .slice A0_2 n0_2 c0_2]] ws (Post1 w0 ws P0 (fun (_ : Unit) => .tuple #[.int .i64 r_1, .bool r_2]) (fun (_ : Unit) => [])) := by
  unfold impl_FewestRegisters.f at h
  obtain rfl := (R0_1 ws (KeptB.refl _ _)).1
  obtain rfl := (R0_2 ws (KeptB.refl _ _)).1
  refine enter Try.func50 rfl Try.ntmps50 rfl hF ?_
  refine c_seq ?_
  refine za0 ?_
  refine o_e rfl (e_box rfl) (fun g1 => ?_)
  refine o_q rfl rfl (q_asg rfl) ?_
  refine o_q rfl rfl (q_asg rfl) ?_
  refine o_end ?_
  refine za1 ?_
  refine c_seq ?_
  refine c_seq ?_
  refine za0 ?_
  refine o_q rfl rfl (q_ldB G36 Z36 rfl (fun w h => h.zaa (i := 0) rfl) rfl) ?_
  refine za8 h (fun b4 hx3 h => ?_) rfl
  refine o_e rfl (za9 0 Z Try.func108 N108 rfl rfl rfl (fun w P1 hF hB hS hT => impl_orderable.calls k a0_0 A0_1 c0_1 l0_1.length l0_1 A0_2 c0_2 l0_2.length l0_2 hB hF (hS _ R0_1) hc0_1 (hS _ R0_2) hc0_2 _ hx3)) (fun _ => ?_)
  refine o_q rfl rfl (q_not rfl) ?_
  refine o_end ?_
  refine za1 ?_
  refine zar _ rfl (fun hb5 => ?_) (fun hb5 => ?_)
  · replace hb5 := nt_t hb5
    replace h := bb_f hb5 h
    refine c_seq ?_
    refine za0 ?_
    refine o_q rfl rfl (q_asg rfl) ?_
    refine o_q rfl rfl (q_asg rfl) ?_
    refine o_end ?_
    refine za1 ?_
    refine c_ret ?_
    refine za5 ?_
    have e0_ := Option.some.inj h; clear h
    have d0_ := (Prod.mk.inj e0_).1; have e1_ := (Prod.mk.inj e0_).2; clear e0_; subst d0_
    subst e1_
    exact x_r2 () Try.results50 (zab rfl) (zab rfl) rfl (fun w h => za6 [] (by decide) rfl w h)
  · replace hb5 := nt_f hb5
    replace h := bb_t hb5 h
    refine zai ?_
    refine za1 ?_
    refine c_seq ?_
    refine za0 ?_
    refine bindE2 h (fun l7 i8 hx6 h => ?_) rfl
    refine o_e rfl (za9 0 Z Try.func111 N111 rfl rfl rfl (fun w P1 hF hB hS hT => impl_Plan_best.calls k g1 a0_0 A0_1 c0_1 l0_1.length l0_1 A0_2 c0_2 l0_2.length l0_2 hB hF (hS _ R0_1) hc0_1 (hS _ R0_2) hc0_2 (hT 0 _ rfl).box _ _ hx6)) (cur2 (fun A9 c10 => ?_))
    refine o_q rfl rfl (za2 rfl) ?_
    refine o_q rfl rfl (q_ext rfl rfl) ?_
    refine o_q rfl rfl (q_ext rfl rfl) ?_
    refine o_q rfl rfl (q_asg rfl) ?_
    refine o_q rfl rfl (q_asg rfl) ?_
    refine o_end ?_
    refine za1 ?_
    refine c_seq ?_
    refine za0 ?_
    refine o_q rfl rfl (za2 rfl) ?_
    refine o_q rfl rfl (q_asg rfl) ?_
    refine o_q rfl rfl (q_asg rfl) ?_
    refine o_end ?_
    refine za1 ?_
    refine c_ret ?_
    have e0_ := Option.some.inj h; clear h
    have d0_ := (Prod.mk.inj e0_).1; have e1_ := (Prod.mk.inj e0_).2; clear e0_; subst d0_
    subst e1_
    exact x_r2 () Try.results50 (zab rfl) (zab rfl) rfl (fun w h => za6 [] (by decide) rfl w h)

/-! ### loop.example/g01098/laws.FnExactFewestRegisters: function 13 -/
def laws_FnExactFewestRegisters.f (k : Nat) (a0_0 : Int) (l0_1 : List SStep) (l0_2 : List Int) : Option Bool := (laws_szPlan.f a0_0 l0_1 l0_2 1048576).bind fun i4 => if i4 < 0 then (some true) else ((laws_toPlan.f k a0_0 l0_1 l0_2).bind fun (l7, l8) => (spec_FewestRegisters.f k a0_0 l7 l8).bind fun (i14, b15) => (laws_toPlan.f k a0_0 l0_1 l0_2).bind fun (l17, l18) => (impl_FewestRegisters.f k a0_0 l17 l18).bind fun (i26, b27) => if i26 ≠ i14 then (some false) else (if (b27 != b15) = true then (some false) else ((laws_toPlan.f k a0_0 l0_1 l0_2).bind fun (l31, l32) => (laws_eqPlan.f k a0_0 l17 l18 a0_0 l31 l32).bind fun b38 => if b38 = true then (some true) else (some false))))
set_option maxHeartbeats 600000 in
set_option maxRecDepth 100000 in
theorem laws_FnExactFewestRegisters.calls (k : Nat) {w0 ws : World} {P0 : Nat → Prop} (a0_0 : Int) (A0_1 : Option Addr) (c0_1 : Nat) (n0_1 : Nat) (l0_1 : List SStep) (A0_2 : Option Addr) (c0_2 : Nat) (n0_2 : Nat) (l0_2 : List Int) (Z : Below w0.heap.size w0 ws) (hF : Fr w0 ws P0 [] ws) (R0_1 : Stable ws P0 (fun w => Kd.C kStep w A0_1 n0_1 l0_1)) (hc0_1 : n0_1 ≤ c0_1) (R0_2 : Stable ws P0 (fun w => Kd.C (Kd.int .i64) w A0_2 n0_2 l0_2)) (hc0_2 : n0_2 ≤ c0_2) (r_1 : Bool) (h : laws_FnExactFewestRegisters.f k a0_0 l0_1 l0_2 = some r_1) :
    Calls Try.prog 13 #[.agg #[.int .i64 a0_0, .slice A0_1 n0_1 c0_1, .slice A0_2 n0_2 c0_2]] ws (Post1 w0 ws P0 (fun (_ : Unit) => .bool r_1) (fun (_ : Unit) => [])) := by
  unfold laws_FnExactFewestRegisters.f at h
  obtain rfl := (R0_1 ws (KeptB.refl _ _)).1
  obtain rfl := (R0_2 ws (KeptB.refl _ _)).1
  refine enter Try.func13 rfl Try.ntmps13 rfl hF ?_
  refine c_seq ?_
  refine za0 ?_
  refine o_e rfl (e_box rfl) (fun g1 => ?_)
  refine o_q rfl rfl (q_asg rfl) ?_
  refine o_end ?_
  refine za1 ?_
  refine c_seq ?_
  refine za0 ?_
  refine o_q rfl rfl (q_asg rfl) ?_
  refine o_end ?_
  refine za1 ?_
  refine c_seq ?_
  refine za0 ?_
  refine o_q rfl rfl (q_ldB G50 Z50 rfl (fun w h => h.zaa (i := 0) rfl) rfl) ?_
  refine o_q rfl rfl (za2 rfl) ?_
  refine za8 h (fun i4 hx3 h => ?_) rfl
  refine o_e rfl (za9 0 Z Try.func33 N33 rfl rfl rfl (fun w P1 hF hB hS hT => laws_szPlan.calls a0_0 A0_1 c0_1 l0_1.length l0_1 A0_2 c0_2 l0_2.length l0_2 1048576 hB hF (hS _ R0_1) hc0_1 (hS _ R0_2) hc0_2 _ hx3)) (fun _ => ?_)
  refine o_q rfl rfl (q_asg rfl) ?_
  refine o_end ?_
  refine za1 ?_
  refine c_seq ?_
  refine c_seq ?_
  refine za0 ?_
  refine o_q rfl rfl (za2 rfl) ?_
  refine o_q rfl rfl (q_lss rfl rfl) ?_
  refine o_end ?_
  refine za1 ?_
  refine zar _ rfl (fun hb5 => ?_) (fun hb5 => ?_)
  · skip
    replace h := br_t hb5 h
    refine c_seq ?_
    refine za0 ?_
    refine o_q rfl rfl (q_asg rfl) ?_
    refine o_end ?_
    refine za1 ?_
    refine c_ret ?_
    refine za5 ?_
    have e0_ := Option.some.inj h; clear h
    subst e0_
    exact x_r1 () Try.results13 (zab rfl) rfl (fun w h => za6 [] (by decide) rfl w h)
  · skip
    replace h := br_f hb5 h
    refine zai ?_
    refine za1 ?_
    refine c_seq ?_
    refine za0 ?_
    refine o_q rfl rfl (q_ldB G50 Z50 rfl (fun w h => h.zaa (i := 0) rfl) rfl) ?_
    refine bindE2 h (fun l7 l8 hx6 h => ?_) rfl
    refine o_e rfl (za9 0 Z Try.func35 N35 rfl rfl rfl (fun w P1 hF hB hS hT => laws_toPlan.calls k a0_0 A0_1 c0_1 l0_1.length l0_1 A0_2 c0_2 l0_2.length l0_2 hB hF (hS _ R0_1) hc0_1 (hS _ R0_2) hc0_2 _ _ hx6)) (cur4 (fun A9 c10 A11 c12 => ?_))
    refine bindE2 h (fun i14 b15 hx13 h => ?_) rfl
    refine o_e rfl (za9 0 Z Try.func49 N49 rfl rfl rfl (fun w P1 hF hB hS hT => spec_FewestRegisters.calls k a0_0 A9 c10 l7.length l7 A11 c12 l8.length l8 hB hF (hT 0 _ rfl).row (hT 0 _ rfl).cap (hT 1 _ rfl).row (hT 1 _ rfl).cap _ _ hx13)) (fun _ => ?_)
    refine o_q rfl rfl (za2 rfl) ?_
    refine o_q rfl rfl (q_ext rfl rfl) ?_
    refine o_q rfl rfl (q_ext rfl rfl) ?_
    refine o_q rfl rfl (q_asg rfl) ?_
    refine o_q rfl rfl (q_asg rfl) ?_
    refine o_end ?_
    refine za1 ?_
    refine c_seq ?_
    refine za0 ?_
    refine o_q rfl rfl (q_ldB G50 Z50 rfl (fun w h => h.zaa (i := 2) rfl) rfl) ?_
    refine bindE2 h (fun l17 l18 hx16 h => ?_) rfl
    refine o_e rfl (za9 0 Z Try.func35 N35 rfl rfl rfl (fun w P1 hF hB hS hT => laws_toPlan.calls k a0_0 A0_1 c0_1 l0_1.length l0_1 A0_2 c0_2 l0_2.length l0_2 hB hF (hS _ R0_1) hc0_1 (hS _ R0_2) hc0_2 _ _ hx16)) (cur4 (fun A19 c20 A21 c22 => ?_))
    refine o_e rfl (e_alloc V36 rfl) (fun g23 => ?_)
    refine o_e rfl (e_storeA (i := 0) rfl rfl rfl Z36 rfl rfl) (fun _ => ?_)
    refine o_end ?_
    refine za1 ?_
    refine c_seq ?_
    refine za0 ?_
    refine o_q rfl rfl (q_ldB G36 Z36 rfl (fun w h => h.zaa (i := 0) rfl) rfl) ?_
    refine bindE2 h (fun i26 b27 hx25 h => ?_) rfl
    refine o_e rfl (za9 0 Z Try.func50 N50 rfl rfl rfl (fun w P1 hF hB hS hT => impl_FewestRegisters.calls k a0_0 A19 c20 l17.length l17 A21 c22 l18.length l18 hB hF (hT 1 _ rfl).row (hT 1 _ rfl).cap (hT 2 _ rfl).row (hT 2 _ rfl).cap _ _ hx25)) (fun _ => ?_)
    refine o_q rfl rfl (za2 rfl) ?_
    refine o_q rfl rfl (q_ext rfl rfl) ?_
    refine o_q rfl rfl (q_ext rfl rfl) ?_
    refine o_q rfl rfl (q_asg rfl) ?_
    refine o_q rfl rfl (q_asg rfl) ?_
    refine o_end ?_
    refine za1 ?_
    refine c_seq ?_
    refine c_seq ?_
    refine za0 ?_
    refine o_q rfl rfl (za2 rfl) ?_
    refine o_q rfl rfl (za2 rfl) ?_
    refine o_q rfl rfl (q_neq rfl rfl) ?_
    refine o_q rfl rfl (za2 rfl) ?_
    refine byB (decide (i26 ≠ i14)) (fun hb28 => ?_) (fun hb28 => ?_)
    · replace h := br_t hb28 h
      refine @o_n _ _ _ _ _ _ _ _ _ _ _ 31 (za4 rfl rfl rfl (congrArg Value.bool hb28) rfl) (Eq.refl (some 31)) ?_
      refine @o_n _ _ _ _ _ _ _ _ _ _ _ 32 (za4 rfl rfl rfl (congrArg Value.bool hb28) rfl) (Eq.refl (some 32)) ?_
      refine @o_n _ _ _ _ _ _ _ _ _ _ _ 33 (za4 rfl rfl rfl (congrArg Value.bool hb28) rfl) (Eq.refl (some 33)) ?_
      refine o_q rfl rfl (zam true (congrArg Value.bool hb28) rfl) ?_
      refine o_end ?_
      refine za1 ?_
      refine c_true rfl ?_
      refine c_seq ?_
      refine za0 ?_
      refine o_q rfl rfl (q_asg rfl) ?_
      refine o_end ?_
      refine za1 ?_
      refine c_ret ?_
      refine za5 ?_
      have e0_ := Option.some.inj h; clear h
      subst e0_
      exact x_r1 () Try.results13 (zab rfl) rfl (fun w h => za6 [] (by decide) rfl w h)
    · replace h := br_f hb28 h
      refine o_w (za3 rfl rfl rfl (congrArg Value.bool hb28)) rfl (za2 rfl) ?_
      refine o_w (za3 rfl rfl rfl (congrArg Value.bool hb28)) rfl (za2 rfl) ?_
      refine o_w (za3 rfl rfl rfl (congrArg Value.bool hb28)) rfl (q_bneq Try.underlying4 rfl rfl) ?_
      refine o_q rfl rfl (zam false (congrArg Value.bool hb28) rfl) ?_
      refine o_end ?_
      refine za1 ?_
      refine zar _ rfl (fun hb29 => ?_) (fun hb29 => ?_)
      · skip
        replace h := bb_t hb29 h
        refine c_seq ?_
        refine za0 ?_
        refine o_q rfl rfl (q_asg rfl) ?_
        refine o_end ?_
        refine za1 ?_
        refine c_ret ?_
        refine za5 ?_
        have e0_ := Option.some.inj h; clear h
        subst e0_
        exact x_r1 () Try.results13 (zab rfl) rfl (fun w h => za6 [] (by decide) rfl w h)
      · skip
        replace h := bb_f hb29 h
        refine zai ?_
        refine za1 ?_
        refine c_seq ?_
        refine c_seq ?_
        refine a_start (ds := []) MO rfl ?_
        refine a_take 0 rfl rfl rfl (by kernel_rfl) (fun _ _ _ h => h) (fun w h => h) (q_ldB G36 Z36 rfl (fun w h => h.zaa (i := 0) rfl) rfl) ?_
        refine a_take 1 rfl rfl rfl (by kernel_rfl) (fun _ _ _ h => h) (fun w h => h) (q_ldB G50 Z50 rfl (fun w h => h.zaa (i := 5) rfl) rfl) ?_
        refine bindE2 h (fun l31 l32 hx30 h => ?_) rfl
        refine a_one 2 rfl rfl (by kernel_rfl) rfl (za9 0 Z Try.func35 N35 rfl rfl rfl (fun w P1 hF hB hS hT => laws_toPlan.calls k a0_0 A0_1 c0_1 l0_1.length l0_1 A0_2 c0_2 l0_2.length l0_2 hB hF (hS _ R0_1) hc0_1 (hS _ R0_2) hc0_2 _ _ hx30)) (fun s w h => zal [some 2, some 3, some 4, some 5, some 6, some 7] (by decide) w h rfl) (cur4 (fun A33 c34 A35 c36 => ?_))
        refine za8 h (fun b38 hx37 h => ?_) rfl
        refine a_one 3 rfl rfl (by kernel_rfl) rfl (za9 0 Z Try.func23 N23 rfl rfl rfl (fun w P1 hF hB hS hT => laws_eqPlan.calls k a0_0 A19 c20 l17.length l17 A21 c22 l18.length l18 a0_0 A33 c34 l31.length l31 A35 c36 l32.length l32 hB hF (hT 3 _ rfl).row (hT 3 _ rfl).cap (hT 4 _ rfl).row (hT 4 _ rfl).cap (hT 0 _ rfl).row (hT 0 _ rfl).cap (hT 1 _ rfl).row (hT 1 _ rfl).cap _ hx37)) (fun s w h => zal [some 2, some 3, some 4, some 5, some 6, some 7] (by decide) w h rfl) (fun _ => ?_)
        refine zac 4 rfl rfl rfl (by kernel_rfl) (fun _ _ _ h => h) (q_not rfl) ?_
        refine a_done (by kernel_rfl) ?_
        refine za1 ?_
        refine zar _ rfl (fun hb39 => ?_) (fun hb39 => ?_)
        · replace hb39 := nt_t hb39
          replace h := bb_f hb39 h
          refine c_seq ?_
          refine za0 ?_
          refine o_q rfl rfl (q_asg rfl) ?_
          refine o_end ?_
          refine za1 ?_
          refine c_ret ?_
          refine za5 ?_
          have e0_ := Option.some.inj h; clear h
          subst e0_
          exact x_r1 () Try.results13 (zab rfl) rfl (fun w h => za6 [] (by decide) rfl w h)
        · replace hb39 := nt_f hb39
          replace h := bb_t hb39 h
          refine zai ?_
          refine za1 ?_
          refine c_seq ?_
          refine za0 ?_
          refine o_q rfl rfl (q_asg rfl) ?_
          refine o_end ?_
          refine za1 ?_
          refine c_ret ?_
          have e0_ := Option.some.inj h; clear h
          subst e0_
          exact x_r1 () Try.results13 (zab rfl) rfl (fun w h => za6 [] (by decide) rfl w h)

/-! ### loop.example/g01098/spec.BestOrder: function 51 -/
def spec_BestOrder.f (k : Nat) (a0_0 : Int) (l0_1 : List SStep) (l0_2 : List Int) : Option ((List Int) × Bool) := (spec_reFew.f k a0_0 l0_1 l0_2).bind fun b4 => if b4 = true then ((spec_reBest.f k a0_0 l0_1 l0_2).bind fun (l7, i8) => some (l7, true)) else (some (([] : List Int), false))
set_option maxHeartbeats 600000 in
set_option maxRecDepth 100000 in
theorem spec_BestOrder.calls (k : Nat) {w0 ws : World} {P0 : Nat → Prop} (a0_0 : Int) (A0_1 : Option Addr) (c0_1 : Nat) (n0_1 : Nat) (l0_1 : List SStep) (A0_2 : Option Addr) (c0_2 : Nat) (n0_2 : Nat) (l0_2 : List Int) (Z : Below w0.heap.size w0 ws) (hF : Fr w0 ws P0 [] ws) (R0_1 : Stable ws P0 (fun w => Kd.C kStep w A0_1 n0_1 l0_1)) (hc0_1 : n0_1 ≤ c0_1) (R0_2 : Stable ws P0 (fun w => Kd.C (Kd.int .i64) w A0_2 n0_2 l0_2)) (hc0_2 : n0_2 ≤ c0_2) (r_1 : List Int) (r_4 : Bool) (h : spec_BestOrder.f k a0_0 l0_1 l0_2 = some (r_1, r_4)) :
    Calls Try.prog 51 #[.agg #[.int .i64 a0_0, .slice A0_1 n0_1 c0_1, .slice A0_2 n0_2 c0_2]] ws (Post1 w0 ws P0 (fun ((q_2, q_3) : (Option Addr) × Nat) => .tuple #[.slice q_2 r_1.length q_3, .bool r_4]) (fun ((q_2, q_3) : (Option Addr) × Nat) => [row (Kd.int .i64) 3 (.slice q_2 r_1.length q_3) r_1])) := by
  unfold spec_BestOrder.f at h
  obtain rfl := (R0_1 ws (KeptB.refl _ _)).1
  obtain rfl := (R0_2 ws (KeptB.refl _ _)).1
  refine enter Try.func51 rfl Try.ntmps51 rfl hF ?_
  refine c_seq ?_
  refine za0 ?_
  refine o_e rfl (e_box rfl) (fun g1 => ?_)
  refine o_q rfl rfl (q_asg rfl) ?_
  refine o_q rfl rfl (q_asg rfl) ?_
  refine o_end ?_
  refine za1 ?_
  refine c_seq ?_
  refine c_seq ?_
  refine za0 ?_
  refine o_q rfl rfl (q_ldB G36 Z36 rfl (fun w h => h.zaa (i := 0) rfl) rfl) ?_
  refine za8 h (fun b4 hx3 h => ?_) rfl
  refine o_e rfl (za9 0 Z Try.func105 N105 rfl rfl rfl (fun w P1 hF hB hS hT => spec_reFew.calls k a0_0 A0_1 c0_1 l0_1.length l0_1 A0_2 c0_2 l0_2.length l0_2 hB hF (hS _ R0_1) hc0_1 (hS _ R0_2) hc0_2 _ hx3)) (fun _ => ?_)
  refine o_q rfl rfl (q_not rfl) ?_
  refine o_end ?_
  refine za1 ?_
  refine zar _ rfl (fun hb5 => ?_) (fun hb5 => ?_)
  · replace hb5 := nt_t hb5
    replace h := bb_f hb5 h
    refine c_seq ?_
    refine za0 ?_
    refine o_q rfl rfl (q_asg rfl) ?_
    refine o_q rfl rfl (q_asg rfl) ?_
    refine o_end ?_
    refine za1 ?_
    refine c_ret ?_
    refine za5 ?_
    refine x_nil (Kd.int .i64) 3 ?_
    have e0_ := Option.some.inj h; clear h
    have d0_ := (Prod.mk.inj e0_).1; have e1_ := (Prod.mk.inj e0_).2; clear e0_; subst d0_
    subst e1_
    exact x_r2 (none, 0) Try.results51 (zab rfl) (zab rfl) rfl (fun w h => za6 [0] (by decide) rfl w h)
  · replace hb5 := nt_f hb5
    replace h := bb_t hb5 h
    refine zai ?_
    refine za1 ?_
    refine c_seq ?_
    refine za0 ?_
    refine o_q rfl rfl (q_ldB G36 Z36 rfl (fun w h => h.zaa (i := 0) rfl) rfl) ?_
    refine bindE2 h (fun l7 i8 hx6 h => ?_) rfl
    refine o_e rfl (za9 0 Z Try.func110 N110 rfl rfl rfl (fun w P1 hF hB hS hT => spec_reBest.calls k a0_0 A0_1 c0_1 l0_1.length l0_1 A0_2 c0_2 l0_2.length l0_2 hB hF (hS _ R0_1) hc0_1 (hS _ R0_2) hc0_2 _ _ hx6)) (cur2 (fun A9 c10 => ?_))
    refine o_q rfl rfl (za2 rfl) ?_
    refine o_q rfl rfl (q_ext rfl rfl) ?_
    refine o_q rfl rfl (q_ext rfl rfl) ?_
    refine o_q rfl rfl (q_asg rfl) ?_
    refine o_q rfl rfl (q_asg rfl) ?_
    refine o_end ?_
    refine za1 ?_
    refine c_seq ?_
    refine za0 ?_
    refine o_q rfl rfl (za2 rfl) ?_
    refine o_q rfl rfl (q_asg rfl) ?_
    refine o_q rfl rfl (q_asg rfl) ?_
    refine o_end ?_
    refine za1 ?_
    refine c_ret ?_
    have e0_ := Option.some.inj h; clear h
    have d0_ := (Prod.mk.inj e0_).1; have e1_ := (Prod.mk.inj e0_).2; clear e0_; subst d0_
    subst e1_
    exact x_r2 (A9, c10) Try.results51 (zab rfl) (zab rfl) rfl (fun w h => za6 [0] (by decide) rfl w h)

/-! ### loop.example/g01098/impl.BestOrder: function 52 -/
def impl_BestOrder.f (k : Nat) (a0_0 : Int) (l0_1 : List SStep) (l0_2 : List Int) : Option ((List Int) × Bool) := (impl_orderable.f k a0_0 l0_1 l0_2).bind fun b4 => if b4 = true then ((impl_Plan_best.f k a0_0 l0_1 l0_2).bind fun (l7, i8) => some (l7, true)) else (some (([] : List Int), false))
set_option maxHeartbeats 600000 in
set_option maxRecDepth 100000 in
theorem impl_BestOrder.calls (k : Nat) {w0 ws : World} {P0 : Nat → Prop} (a0_0 : Int) (A0_1 : Option Addr) (c0_1 : Nat) (n0_1 : Nat) (l0_1 : List SStep) (A0_2 : Option Addr) (c0_2 : Nat) (n0_2 : Nat) (l0_2 : List Int) (Z : Below w0.heap.size w0 ws) (hF : Fr w0 ws P0 [] ws) (R0_1 : Stable ws P0 (fun w => Kd.C kStep w A0_1 n0_1 l0_1)) (hc0_1 : n0_1 ≤ c0_1) (R0_2 : Stable ws P0 (fun w => Kd.C (Kd.int .i64) w A0_2 n0_2 l0_2)) (hc0_2 : n0_2 ≤ c0_2) (r_1 : List Int) (r_4 : Bool) (h : impl_BestOrder.f k a0_0 l0_1 l0_2 = some (r_1, r_4)) :
    Calls Try.prog 52 #[.agg #[.int .i64 a0_0, .slice A0_1 n0_1 c0_1, .slice A0_2 n0_2 c0_2]] ws (Post1 w0 ws P0 (fun ((q_2, q_3) : (Option Addr) × Nat) => .tuple #[.slice q_2 r_1.length q_3, .bool r_4]) (fun ((q_2, q_3) : (Option Addr) × Nat) => [row (Kd.int .i64) 3 (.slice q_2 r_1.length q_3) r_1])) := by
  unfold impl_BestOrder.f at h
  obtain rfl := (R0_1 ws (KeptB.refl _ _)).1
  obtain rfl := (R0_2 ws (KeptB.refl _ _)).1
  refine enter Try.func52 rfl Try.ntmps52 rfl hF ?_
  refine c_seq ?_
  refine za0 ?_
  refine o_e rfl (e_box rfl) (fun g1 => ?_)
  refine o_q rfl rfl (q_asg rfl) ?_
  refine o_q rfl rfl (q_asg rfl) ?_
  refine o_end ?_
  refine za1 ?_
  refine c_seq ?_
  refine c_seq ?_
  refine za0 ?_
  refine o_q rfl rfl (q_ldB G36 Z36 rfl (fun w h => h.zaa (i := 0) rfl) rfl) ?_
  refine za8 h (fun b4 hx3 h => ?_) rfl
  refine o_e rfl (za9 0 Z Try.func108 N108 rfl rfl rfl (fun w P1 hF hB hS hT => impl_orderable.calls k a0_0 A0_1 c0_1 l0_1.length l0_1 A0_2 c0_2 l0_2.length l0_2 hB hF (hS _ R0_1) hc0_1 (hS _ R0_2) hc0_2 _ hx3)) (fun _ => ?_)
  refine o_q rfl rfl (q_not rfl) ?_
  refine o_end ?_
  refine za1 ?_
  refine zar _ rfl (fun hb5 => ?_) (fun hb5 => ?_)
  · replace hb5 := nt_t hb5
    replace h := bb_f hb5 h
    refine c_seq ?_
    refine za0 ?_
    refine o_q rfl rfl (q_asg rfl) ?_
    refine o_q rfl rfl (q_asg rfl) ?_
    refine o_end ?_
    refine za1 ?_
    refine c_ret ?_
    refine za5 ?_
    refine x_nil (Kd.int .i64) 3 ?_
    have e0_ := Option.some.inj h; clear h
    have d0_ := (Prod.mk.inj e0_).1; have e1_ := (Prod.mk.inj e0_).2; clear e0_; subst d0_
    subst e1_
    exact x_r2 (none, 0) Try.results52 (zab rfl) (zab rfl) rfl (fun w h => za6 [0] (by decide) rfl w h)
  · replace hb5 := nt_f hb5
    replace h := bb_t hb5 h
    refine zai ?_
    refine za1 ?_
    refine c_seq ?_
    refine za0 ?_
    refine bindE2 h (fun l7 i8 hx6 h => ?_) rfl
    refine o_e rfl (za9 0 Z Try.func111 N111 rfl rfl rfl (fun w P1 hF hB hS hT => impl_Plan_best.calls k g1 a0_0 A0_1 c0_1 l0_1.length l0_1 A0_2 c0_2 l0_2.length l0_2 hB hF (hS _ R0_1) hc0_1 (hS _ R0_2) hc0_2 (hT 0 _ rfl).box _ _ hx6)) (cur2 (fun A9 c10 => ?_))
    refine o_q rfl rfl (za2 rfl) ?_
    refine o_q rfl rfl (q_ext rfl rfl) ?_
    refine o_q rfl rfl (q_ext rfl rfl) ?_
    refine o_q rfl rfl (q_asg rfl) ?_
    refine o_q rfl rfl (q_asg rfl) ?_
    refine o_end ?_
    refine za1 ?_
    refine c_seq ?_
    refine za0 ?_
    refine o_q rfl rfl (za2 rfl) ?_
    refine o_q rfl rfl (q_asg rfl) ?_
    refine o_q rfl rfl (q_asg rfl) ?_
    refine o_end ?_
    refine za1 ?_
    refine c_ret ?_
    have e0_ := Option.some.inj h; clear h
    have d0_ := (Prod.mk.inj e0_).1; have e1_ := (Prod.mk.inj e0_).2; clear e0_; subst d0_
    subst e1_
    exact x_r2 (A9, c10) Try.results52 (zab rfl) (zab rfl) rfl (fun w h => za6 [0] (by decide) rfl w h)

/-! ### loop.example/g01098/laws.markStepS: function 65 -/
def laws_markStepS.l0 (l0 : List SStep) : Nat → (List SStep) → Int → Int → Option ((List SStep) × Int)
  | 0, _, _, _ => none
  | k6 + 1, l1, i2, i3 => if i3 < (l0.length : Int) then ((gt l1 i3).bind fun y17 => (st l1 i3 (⟨i2, y17.f1⟩ : SStep)).bind fun l18 => (gt l18 i3).bind fun y22 => (st l18 i3 (⟨y22.f0, w64 (i2 + 1)⟩ : SStep)).bind fun l23 => laws_markStepS.l0 l0 k6 l23 (w64 (w64 (i2 + 1) + 1)) (w64 (i3 + 1))) else (some (l1, i2))
def laws_markStepS.f (k : Nat) (l0 : List SStep) (a1 : Int) : Option (Int × (List SStep)) := (laws_markStepS.l0 l0 k l0 a1 0).bind fun (l1, i2) => some (i2, l1)
set_option maxHeartbeats 600000 in
set_option maxRecDepth 100000 in
theorem laws_markStepS.calls (k : Nat) {w0 ws : World} {P0 : Nat → Prop} (A0 : Option Addr) (c0 : Nat) (n0 : Nat) (l0 : List SStep) (a1 : Int) (Z : Below w0.heap.size w0 ws) (hF : Fr w0 ws P0 [row kStep 117 (.slice A0 n0 c0) l0] ws)  (r_1 : Int) (r_2 : List SStep) (h : laws_markStepS.f k l0 a1 = some (r_1, r_2)) :
    Calls Try.prog 65 #[.slice A0 n0 c0, .int .i64 a1] ws (Post1 w0 ws P0 (fun (_ : Unit) => .int .i64 r_1) (fun (_ : Unit) => [row kStep 117 (.slice A0 n0 c0) r_2])) := by
  unfold laws_markStepS.f at h
  obtain rfl := (hF.row_C (i := 0) rfl).2.1
  refine enter Try.func65 rfl Try.ntmps65 rfl hF ?_
  refine c_seq ?_
  refine za0 ?_
  refine o_q rfl rfl (q_asg rfl) ?_
  refine o_end ?_
  refine za1 ?_
  refine c_seq ?_
  refine c_seq ?_
  refine za0 ?_
  refine o_q rfl rfl (q_asg rfl) ?_
  refine o_end ?_
  refine za1 ?_
  refine zan ?_
  refine za8 h (fun o11 hl10 hR9 => ?_) rfl
  clear h
  refine zax (σ := (List SStep) × Int × Int) (fun k6 ((l1, i2, i3) : (List SStep) × Int × Int) => laws_markStepS.l0 l0 k6 l1 i2 i3 = some o11) [1, 5, 6, 7, 8, 9, 10, 11, 12, 13, 14, 15, 16, 17, 18, 19, 20, 21, 22, 23, 24, 25] (fun ((l1, i2, i3) : (List SStep) × Int × Int) => [(1, .int .i64 i2), (5, .int .i64 i3)]) (fun ((l1, i2, i3) : (List SStep) × Int × Int) => [row kStep 117 (.slice A0 l0.length c0) l1]) k (l0, a1, 0) hl10 ⟨rfl, rfl, trivial⟩ (fun w h => h) ?_
  refine natC (cur3 (fun l1 i2 i3 => fun U12 hJ_ => ?_)) (fun k6 => (cur3 (fun l1 i2 i3 => fun U12 hJ_ => ?_)))
  · skip
    replace hJ_ : laws_markStepS.l0 l0 0 l1 i2 i3 = some o11 := hJ_
    rw [laws_markStepS.l0] at hJ_
    exact noneE hJ_
  · skip
    clear hl10
    have h := hJ_; clear hJ_
    replace h : laws_markStepS.l0 l0 (k6 + 1) l1 i2 i3 = some o11 := h
    rw [laws_markStepS.l0] at h
    refine c_seq ?_
    refine c_seq ?_
    refine za0 ?_
    refine o_q rfl rfl (za2 rfl) ?_
    refine o_q rfl rfl (za2 rfl) ?_
    refine o_q rfl rfl (q_len Try.underlying34 rfl) ?_
    refine o_q rfl rfl (q_lss rfl rfl) ?_
    refine o_end ?_
    refine za1 ?_
    refine zar _ rfl (fun hb14 => ?_) (fun hb14 => ?_)
    · skip
      replace h := br_t hb14 h
      refine zai ?_
      refine za1 ?_
      refine c_seq ?_
      refine zan ?_
      refine c_seq ?_
      refine za0 ?_
      refine o_q rfl rfl (za2 rfl) ?_
      refine o_q rfl rfl (za2 rfl) ?_
      refine o_q rfl rfl (za2 rfl) ?_
      refine zav (p := Sh A0 l0.length l1.length) (fun w h => f_sh (dk := kStep) h (fun w h => h.zat (i := 0) rfl)) (fun hq15 => ?_)
      refine za8 h (fun y17 hg16 h => ?_) rfl
      refine o_q rfl rfl (q_ix Try.underlying34 Z117 rfl rfl hq15 hg16) ?_
      refine o_q rfl rfl (q_fe F117_0 rfl) ?_
      refine za8 h (fun l18 hs19 h => ?_) rfl
      refine o_e rfl (e_setF (i := 0) (off := 0) (vs := [.int .i64 i2]) (q' := (⟨i2, y17.f1⟩ : SStep)) rfl rfl rfl rfl rfl rfl Z3 hg16 rfl rfl hs19) (fun _ => ?_)
      refine o_end ?_
      refine za1 ?_
      refine c_seq ?_
      refine za0 ?_
      refine o_q rfl rfl (za2 rfl) ?_
      refine o_q rfl rfl (q_add64 rfl rfl) ?_
      refine o_q rfl rfl (q_asg rfl) ?_
      refine o_end ?_
      refine za1 ?_
      refine c_seq ?_
      refine za0 ?_
      refine o_q rfl rfl (za2 rfl) ?_
      refine o_q rfl rfl (za2 rfl) ?_
      refine o_q rfl rfl (za2 rfl) ?_
      refine zav (p := Sh A0 l0.length l18.length) (fun w h => f_sh (dk := kStep) h (fun w h => h.zat (i := 0) rfl)) (fun hq20 => ?_)
      refine za8 h (fun y22 hg21 h => ?_) rfl
      refine o_q rfl rfl (q_ix Try.underlying34 Z117 rfl rfl hq20 hg21) ?_
      refine o_q rfl rfl (q_fe F117_1 rfl) ?_
      refine za8 h (fun l23 hs24 h => ?_) rfl
      refine o_e rfl (e_setF (i := 0) (off := 1) (vs := [.int .i64 (w64 (i2 + 1))]) (q' := (⟨y22.f0, w64 (i2 + 1)⟩ : SStep)) rfl rfl rfl rfl rfl rfl Z3 hg21 rfl rfl hs24) (fun _ => ?_)
      refine o_end ?_
      refine za1 ?_
      refine za0 ?_
      refine o_q rfl rfl (za2 rfl) ?_
      refine o_q rfl rfl (q_add64 rfl rfl) ?_
      refine o_q rfl rfl (q_asg rfl) ?_
      refine o_end ?_
      refine zao ?_
      refine za1 ?_
      refine za0 ?_
      refine o_q rfl rfl (za2 rfl) ?_
      refine o_q rfl rfl (q_add64 rfl rfl) ?_
      refine o_q rfl rfl (q_asg rfl) ?_
      refine o_end ?_
      refine zaf k6 (l23, w64 (w64 (i2 + 1) + 1), w64 (i3 + 1)) (Nat.lt_succ_self _) h ⟨rfl, rfl, trivial⟩ (fun w h => za6 [0] (by decide) rfl w h) ?_
      repeat (first | exact zad _ _ | refine zah rfl ?_ | refine zae rfl ?_ | refine zaj rfl ?_)
    · skip
      replace h := br_f hb14 h
      refine c_exit ?_
      refine za7 ?_
      refine za7 ?_
      have e_ := Option.some.inj h; replace h := hR9; rw [← e_] at h; clear e_
      refine x_hit ?_
      refine za1 ?_
      refine c_seq ?_
      refine za0 ?_
      refine o_q rfl rfl (za2 rfl) ?_
      refine o_q rfl rfl (q_asg rfl) ?_
      refine o_end ?_
      refine za1 ?_
      refine c_ret ?_
      have e0_ := Option.some.inj h; clear h
      have d0_ := (Prod.mk.inj e0_).1; have e1_ := (Prod.mk.inj e0_).2; clear e0_; subst d0_
      subst e1_
      exact x_r1 () Try.results65 (zab rfl) rfl (fun w h => za6 [0] (by decide) rfl w h)

/-! ### loop.example/g01098/laws.markIntS: function 31 -/
def laws_markIntS.l0 (l0 : List Int) : Nat → (List Int) → Int → Int → Option ((List Int) × Int)
  | 0, _, _, _ => none
  | k6 + 1, l1, i2, i3 => if i3 < (l0.length : Int) then ((gt l1 i3).bind fun y17 => (st l1 i3 i2).bind fun l18 => laws_markIntS.l0 l0 k6 l18 (w64 (i2 + 1)) (w64 (i3 + 1))) else (some (l1, i2))
def laws_markIntS.f (k : Nat) (l0 : List Int) (a1 : Int) : Option (Int × (List Int)) := (laws_markIntS.l0 l0 k l0 a1 0).bind fun (l1, i2) => some (i2, l1)
set_option maxHeartbeats 600000 in
set_option maxRecDepth 100000 in
theorem laws_markIntS.calls (k : Nat) {w0 ws : World} {P0 : Nat → Prop} (A0 : Option Addr) (c0 : Nat) (n0 : Nat) (l0 : List Int) (a1 : Int) (Z : Below w0.heap.size w0 ws) (hF : Fr w0 ws P0 [row (Kd.int .i64) 3 (.slice A0 n0 c0) l0] ws)  (r_1 : Int) (r_2 : List Int) (h : laws_markIntS.f k l0 a1 = some (r_1, r_2)) :
    Calls Try.prog 31 #[.slice A0 n0 c0, .int .i64 a1] ws (Post1 w0 ws P0 (fun (_ : Unit) => .int .i64 r_1) (fun (_ : Unit) => [row (Kd.int .i64) 3 (.slice A0 n0 c0) r_2])) := by
  unfold laws_markIntS.f at h
  obtain rfl := (hF.row_C (i := 0) rfl).2.1
  refine enter Try.func31 rfl Try.ntmps31 rfl hF ?_
  refine c_seq ?_
  refine za0 ?_
  refine o_q rfl rfl (q_asg rfl) ?_
  refine o_end ?_
  refine za1 ?_
  refine c_seq ?_
  refine c_seq ?_
  refine za0 ?_
  refine o_q rfl rfl (q_asg rfl) ?_
  refine o_end ?_
  refine za1 ?_
  refine zan ?_
  refine za8 h (fun o11 hl10 hR9 => ?_) rfl
  clear h
  refine zax (σ := (List Int) × Int × Int) (fun k6 ((l1, i2, i3) : (List Int) × Int × Int) => laws_markIntS.l0 l0 k6 l1 i2 i3 = some o11) [1, 5, 6, 7, 8, 9, 10, 11, 12, 13, 14, 15, 16, 17] (fun ((l1, i2, i3) : (List Int) × Int × Int) => [(1, .int .i64 i2), (5, .int .i64 i3)]) (fun ((l1, i2, i3) : (List Int) × Int × Int) => [row (Kd.int .i64) 3 (.slice A0 l0.length c0) l1]) k (l0, a1, 0) hl10 ⟨rfl, rfl, trivial⟩ (fun w h => h) ?_
  refine natC (cur3 (fun l1 i2 i3 => fun U12 hJ_ => ?_)) (fun k6 => (cur3 (fun l1 i2 i3 => fun U12 hJ_ => ?_)))
  · skip
    replace hJ_ : laws_markIntS.l0 l0 0 l1 i2 i3 = some o11 := hJ_
    rw [laws_markIntS.l0] at hJ_
    exact noneE hJ_
  · skip
    clear hl10
    have h := hJ_; clear hJ_
    replace h : laws_markIntS.l0 l0 (k6 + 1) l1 i2 i3 = some o11 := h
    rw [laws_markIntS.l0] at h
    refine c_seq ?_
    refine c_seq ?_
    refine za0 ?_
    refine o_q rfl rfl (za2 rfl) ?_
    refine o_q rfl rfl (za2 rfl) ?_
    refine o_q rfl rfl (q_len Try.underlying22 rfl) ?_
    refine o_q rfl rfl (q_lss rfl rfl) ?_
    refine o_end ?_
    refine za1 ?_
    refine zar _ rfl (fun hb14 => ?_) (fun hb14 => ?_)
    · skip
      replace h := br_t hb14 h
      refine zai ?_
      refine za1 ?_
      refine c_seq ?_
      refine zan ?_
      refine c_seq ?_
      refine za0 ?_
      refine o_q rfl rfl (za2 rfl) ?_
      refine o_q rfl rfl (za2 rfl) ?_
      refine o_q rfl rfl (za2 rfl) ?_
      refine zav (p := Sh A0 l0.length l1.length) (fun w h => f_sh (dk := (Kd.int .i64)) h (fun w h => h.zat (i := 0) rfl)) (fun hq15 => ?_)
      refine za8 h (fun y17 hg16 h => ?_) rfl
      refine o_q rfl rfl (q_ix Try.underlying22 Z3 rfl rfl hq15 hg16) ?_
      refine za8 h (fun l18 hs19 h => ?_) rfl
      refine o_e rfl (e_set (i := 0) rfl rfl rfl Z3 hs19) (fun _ => ?_)
      refine o_end ?_
      refine za1 ?_
      refine za0 ?_
      refine o_q rfl rfl (za2 rfl) ?_
      refine o_q rfl rfl (q_add64 rfl rfl) ?_
      refine o_q rfl rfl (q_asg rfl) ?_
      refine o_end ?_
      refine zao ?_
      refine za1 ?_
      refine za0 ?_
      refine o_q rfl rfl (za2 rfl) ?_
      refine o_q rfl rfl (q_add64 rfl rfl) ?_
      refine o_q rfl rfl (q_asg rfl) ?_
      refine o_end ?_
      refine zaf k6 (l18, w64 (i2 + 1), w64 (i3 + 1)) (Nat.lt_succ_self _) h ⟨rfl, rfl, trivial⟩ (fun w h => za6 [0] (by decide) rfl w h) ?_
      repeat (first | exact zad _ _ | refine zah rfl ?_ | refine zae rfl ?_ | refine zaj rfl ?_)
    · skip
      replace h := br_f hb14 h
      refine c_exit ?_
      refine za7 ?_
      refine za7 ?_
      have e_ := Option.some.inj h; replace h := hR9; rw [← e_] at h; clear e_
      refine x_hit ?_
      refine za1 ?_
      refine c_seq ?_
      refine za0 ?_
      refine o_q rfl rfl (za2 rfl) ?_
      refine o_q rfl rfl (q_asg rfl) ?_
      refine o_end ?_
      refine za1 ?_
      refine c_ret ?_
      have e0_ := Option.some.inj h; clear h
      have d0_ := (Prod.mk.inj e0_).1; have e1_ := (Prod.mk.inj e0_).2; clear e0_; subst d0_
      subst e1_
      exact x_r1 () Try.results31 (zab rfl) rfl (fun w h => za6 [0] (by decide) rfl w h)

/-! ### loop.example/g01098/laws.markPlan: function 25 -/
def laws_markPlan.f (k : Nat) (a0_0 : Int) (l0_1 : List SStep) (l0_2 : List Int) (a1 : Int) : Option (Int × (List SStep) × (List Int)) := (laws_markStepS.f k l0_1 a1).bind fun (i4, l5) => (laws_markIntS.f k l0_2 i4).bind fun (i7, l8) => some (i7, l5, l8)
set_option maxHeartbeats 600000 in
set_option maxRecDepth 100000 in
theorem laws_markPlan.calls (k : Nat) {w0 ws : World} {P0 : Nat → Prop} (a0_0 : Int) (A0_1 : Option Addr) (c0_1 : Nat) (n0_1 : Nat) (l0_1 : List SStep) (A0_2 : Option Addr) (c0_2 : Nat) (n0_2 : Nat) (l0_2 : List Int) (a1 : Int) (Z : Below w0.heap.size w0 ws) (hF : Fr w0 ws P0 [row kStep 117 (.slice A0_1 n0_1 c0_1) l0_1, row (Kd.int .i64) 3 (.slice A0_2 n0_2 c0_2) l0_2] ws)  (r_1 : Int) (r_2 : List SStep) (r_3 : List Int) (h : laws_markPlan.f k a0_0 l0_1 l0_2 a1 = some (r_1, r_2, r_3)) :
    Calls Try.prog 25 #[.agg #[.int .i64 a0_0, .slice A0_1 n0_1 c0_1, .slice A0_2 n0_2 c0_2], .int .i64 a1] ws (Post1 w0 ws P0 (fun (_ : Unit) => .int .i64 r_1) (fun (_ : Unit) => [row kStep 117 (.slice A0_1 n0_1 c0_1) r_2, row (Kd.int .i64) 3 (.slice A0_2 n0_2 c0_2) r_3])) := by
  unfold laws_markPlan.f at h
  obtain rfl := (hF.row_C (i := 0) rfl).2.1
  obtain rfl := (hF.row_C (i := 1) rfl).2.1
  refine enter Try.func25 rfl Try.ntmps25 rfl hF ?_
  refine c_seq ?_
  refine za0 ?_
  refine o_e rfl (e_box rfl) (fun g1 => ?_)
  refine o_q rfl rfl (q_asg rfl) ?_
  refine o_end ?_
  refine za1 ?_
  refine c_seq ?_
  refine za0 ?_
  refine o_q rfl rfl (q_f F36_1 rfl) ?_
  refine o_q rfl rfl (q_ldb Y34 rfl (fun w h => h.zaa (i := 0) rfl) rfl) ?_
  refine o_q rfl rfl (za2 rfl) ?_
  refine o_pick [1, 0, 2] (by decide) rfl ?_
  refine bindE2 h (fun i4 l5 hx3 h => ?_) rfl
  refine o_e rfl (za9 1 Z Try.func65 N65 rfl rfl rfl (fun w P1 hF hB hS hT => laws_markStepS.calls k A0_1 c0_1 l0_1.length l0_1 a1 hB hF _ _ hx3)) (fun _ => ?_)
  refine o_q rfl rfl (q_asg rfl) ?_
  refine o_end ?_
  refine za1 ?_
  refine c_seq ?_
  refine za0 ?_
  refine o_q rfl rfl (q_f F36_2 rfl) ?_
  refine o_q rfl rfl (q_ldb Y22 rfl (fun w h => h.zaa (i := 1) rfl) rfl) ?_
  refine o_q rfl rfl (za2 rfl) ?_
  refine o_pick [2, 0, 1] (by decide) rfl ?_
  refine bindE2 h (fun i7 l8 hx6 h => ?_) rfl
  refine o_e rfl (za9 1 Z Try.func31 N31 rfl rfl rfl (fun w P1 hF hB hS hT => laws_markIntS.calls k A0_2 c0_2 l0_2.length l0_2 i4 hB hF _ _ hx6)) (fun _ => ?_)
  refine o_q rfl rfl (q_asg rfl) ?_
  refine o_end ?_
  refine za1 ?_
  refine c_seq ?_
  refine za0 ?_
  refine o_q rfl rfl (za2 rfl) ?_
  refine o_q rfl rfl (q_asg rfl) ?_
  refine o_end ?_
  refine za1 ?_
  refine c_ret ?_
  have e0_ := Option.some.inj h; clear h
  have d0_ := (Prod.mk.inj e0_).1; have e1_ := (Prod.mk.inj e0_).2; clear e0_; subst d0_
  have d1_ := (Prod.mk.inj e1_).1; have e2_ := (Prod.mk.inj e1_).2; clear e1_; subst d1_
  subst e2_
  exact x_r1 () Try.results25 (zab rfl) rfl (fun w h => za6 [1, 0] (by decide) rfl w h)

/-! ### loop.example/g01098/laws.heldIntS: function 32 -/
def laws_heldIntS.l0 (l0 : List Int) : Nat → Int → Int → Option ((Int) ⊕ (Int))
  | 0, _, _ => none
  | k5 + 1, i1, i2 => if i2 < (l0.length : Int) then ((gt l0 i2).bind fun y16 => if y16 ≠ i1 then (some (.inl (-1))) else (laws_heldIntS.l0 l0 k5 (w64 (i1 + 1)) (w64 (i2 + 1)))) else (some (.inr i1))
def laws_heldIntS.f (k : Nat) (l0 : List Int) (a1 : Int) : Option Int := (laws_heldIntS.l0 l0 k a1 0).bind fun o_ => match o_ with | .inl r_ => some r_ | .inr i1 => some i1
set_option maxHeartbeats 600000 in
set_option maxRecDepth 100000 in
theorem laws_heldIntS.calls (k : Nat) {w0 ws : World} {P0 : Nat → Prop} (A0 : Option Addr) (c0 : Nat) (n0 : Nat) (l0 : List Int) (a1 : Int) (Z : Below w0.heap.size w0 ws) (hF : Fr w0 ws P0 [] ws) (R0 : Stable ws P0 (fun w => Kd.C (Kd.int .i64) w A0 n0 l0)) (hc0 : n0 ≤ c0) (r_1 : Int) (h : laws_heldIntS.f k l0 a1 = some r_1) :
    Calls Try.prog 32 #[.slice A0 n0 c0, .int .i64 a1] ws (Post1 w0 ws P0 (fun (_ : Unit) => .int .i64 r_1) (fun (_ : Unit) => [])) := by
  unfold laws_heldIntS.f at h
  obtain rfl := (R0 ws (KeptB.refl _ _)).1
  refine enter Try.func32 rfl Try.ntmps32 rfl hF ?_
  refine c_seq ?_
  refine za0 ?_
  refine o_q rfl rfl (q_asg rfl) ?_
  refine o_end ?_
  refine za1 ?_
  refine c_seq ?_
  refine c_seq ?_
  refine za0 ?_
  refine o_q rfl rfl (q_asg rfl) ?_
  refine o_end ?_
  refine za1 ?_
  refine zan ?_
  refine za8 h (fun o10 hl9 hR8 => ?_) rfl
  clear h
  refine zax (σ := Int × Int) (fun k5 ((i1, i2) : Int × Int) => laws_heldIntS.l0 l0 k5 i1 i2 = some o10) [1, 4, 5, 6, 7, 8, 9, 10, 11, 12, 13, 14, 15, 16, 17, 18, 19] (fun ((i1, i2) : Int × Int) => [(1, .int .i64 i1), (5, .int .i64 i2)]) (fun ((i1, i2) : Int × Int) => []) k (a1, 0) hl9 ⟨rfl, rfl, trivial⟩ (fun w h => h) ?_
  refine natC (cur2 (fun i1 i2 => fun U11 hJ_ => ?_)) (fun k5 => (cur2 (fun i1 i2 => fun U11 hJ_ => ?_)))
  · skip
    replace hJ_ : laws_heldIntS.l0 l0 0 i1 i2 = some o10 := hJ_
    rw [laws_heldIntS.l0] at hJ_
    exact noneE hJ_
  · skip
    clear hl9
    have h := hJ_; clear hJ_
    replace h : laws_heldIntS.l0 l0 (k5 + 1) i1 i2 = some o10 := h
    rw [laws_heldIntS.l0] at h
    refine c_seq ?_
    refine c_seq ?_
    refine za0 ?_
    refine o_q rfl rfl (za2 rfl) ?_
    refine o_q rfl rfl (za2 rfl) ?_
    refine o_q rfl rfl (q_len Try.underlying22 rfl) ?_
    refine o_q rfl rfl (q_lss rfl rfl) ?_
    refine o_end ?_
    refine za1 ?_
    refine zar _ rfl (fun hb13 => ?_) (fun hb13 => ?_)
    · skip
      replace h := br_t hb13 h
      refine zai ?_
      refine za1 ?_
      refine c_seq ?_
      refine zan ?_
      refine c_seq ?_
      refine c_seq ?_
      refine za0 ?_
      refine o_q rfl rfl (za2 rfl) ?_
      refine o_q rfl rfl (za2 rfl) ?_
      refine zav (p := Sh A0 l0.length l0.length) (fun w h => f_sh (dk := (Kd.int .i64)) h (fun w h => R0.now Z h)) (fun hq14 => ?_)
      refine za8 h (fun y16 hg15 h => ?_) rfl
      refine o_q rfl rfl (q_ix Try.underlying22 Z3 rfl rfl hq14 hg15) ?_
      refine o_q rfl rfl (q_lde (off := 0) Y3 rfl rfl (fun w h => R0.now Z h) hg15 (fun _ _ h => h) rfl) ?_
      refine o_q rfl rfl (za2 rfl) ?_
      refine o_q rfl rfl (q_neq rfl rfl) ?_
      refine o_end ?_
      refine za1 ?_
      refine zar _ rfl (fun hb17 => ?_) (fun hb17 => ?_)
      · skip
        replace h := br_t hb17 h
        refine c_seq ?_
        refine za0 ?_
        refine o_q rfl rfl (q_asg rfl) ?_
        refine o_end ?_
        refine za1 ?_
        refine c_ret ?_
        refine za5 ?_
        refine zaq ?_
        refine za5 ?_
        refine za5 ?_
        have e_ := Option.some.inj h; replace h := hR8; rw [← e_] at h; clear e_
        refine zaq ?_
        refine za5 ?_
        have e0_ := Option.some.inj h; clear h
        subst e0_
        exact x_r1 () Try.results32 (zab rfl) rfl (fun w h => za6 [] (by decide) rfl w h)
      · skip
        replace h := br_f hb17 h
        refine zai ?_
        refine za1 ?_
        refine za0 ?_
        refine o_q rfl rfl (za2 rfl) ?_
        refine o_q rfl rfl (q_add64 rfl rfl) ?_
        refine o_q rfl rfl (q_asg rfl) ?_
        refine o_end ?_
        refine zao ?_
        refine za1 ?_
        refine za0 ?_
        refine o_q rfl rfl (za2 rfl) ?_
        refine o_q rfl rfl (q_add64 rfl rfl) ?_
        refine o_q rfl rfl (q_asg rfl) ?_
        refine o_end ?_
        refine zaf k5 (w64 (i1 + 1), w64 (i2 + 1)) (Nat.lt_succ_self _) h ⟨rfl, rfl, trivial⟩ (fun w h => za6 [] (by decide) rfl w h) ?_
        repeat (first | exact zad _ _ | refine zah rfl ?_ | refine zae rfl ?_ | refine zaj rfl ?_)
    · skip
      replace h := br_f hb13 h
      refine c_exit ?_
      refine za7 ?_
      refine za7 ?_
      have e_ := Option.some.inj h; replace h := hR8; rw [← e_] at h; clear e_
      refine x_hit ?_
      refine za1 ?_
      refine c_seq ?_
      refine za0 ?_
      refine o_q rfl rfl (za2 rfl) ?_
      refine o_q rfl rfl (q_asg rfl) ?_
      refine o_end ?_
      refine za1 ?_
      refine c_ret ?_
      have e0_ := Option.some.inj h; clear h
      subst e0_
      exact x_r1 () Try.results32 (zab rfl) rfl (fun w h => za6 [] (by decide) rfl w h)

/-! ### loop.example/g01098/laws.FnExactBestOrder: function 14 -/
def laws_FnExactBestOrder.f (k : Nat) (a0_0 : Int) (l0_1 : List SStep) (l0_2 : List Int) : Option Bool := (laws_szPlan.f a0_0 l0_1 l0_2 1048576).bind fun i4 => if i4 < 0 then (some true) else ((laws_toPlan.f k a0_0 l0_1 l0_2).bind fun (l7, l8) => (spec_BestOrder.f k a0_0 l7 l8).bind fun (l14, b15) => (laws_toPlan.f k a0_0 l0_1 l0_2).bind fun (l19, l20) => (impl_BestOrder.f k a0_0 l19 l20).bind fun (l28, b29) => (laws_eqIntS.f k l28 l14).bind fun b33 => if b33 = true then (if (b29 != b15) = true then (some false) else ((laws_toPlan.f k a0_0 l0_1 l0_2).bind fun (l37, l38) => (laws_eqPlan.f k a0_0 l19 l20 a0_0 l37 l38).bind fun b44 => if b44 = true then ((laws_markPlan.f k a0_0 l19 l20 1).bind fun (i47, l48, l49) => if i47 < 0 then (some false) else ((laws_eqIntS.f k l28 l14).bind fun b52 => if b52 = true then ((laws_markIntS.f k l28 1).bind fun (i55, l56) => (laws_heldIntS.f k l56 1).bind fun i58 => if i58 < 0 then (some false) else (if i58 ≠ i55 then (some false) else ((laws_toPlan.f k a0_0 l0_1 l0_2).bind fun (l62, l63) => (impl_BestOrder.f k a0_0 l62 l63).bind fun (l69, b70) => (laws_eqIntS.f k l69 l14).bind fun b74 => if b74 = true then (if (b70 != b15) = true then (some false) else ((laws_heldIntS.f k l56 1).bind fun i78 => if i78 < 0 then (some false) else (if i78 ≠ i55 then (some false) else (some true)))) else (some false)))) else (some false))) else (some false))) else (some false))
set_option maxHeartbeats 600000 in
set_option maxRecDepth 100000 in
theorem laws_FnExactBestOrder.calls (k : Nat) {w0 ws : World} {P0 : Nat → Prop} (a0_0 : Int) (A0_1 : Option Addr) (c0_1 : Nat) (n0_1 : Nat) (l0_1 : List SStep) (A0_2 : Option Addr) (c0_2 : Nat) (n0_2 : Nat) (l0_2 : List Int) (Z : Below w0.heap.size w0 ws) (hF : Fr w0 ws P0 [] ws) (R0_1 : Stable ws P0 (fun w => Kd.C kStep w A0_1 n0_1 l0_1)) (hc0_1 : n0_1 ≤ c0_1) (R0_2 : Stable ws P0 (fun w => Kd.C (Kd.int .i64) w A0_2 n0_2 l0_2)) (hc0_2 : n0_2 ≤ c0_2) (r_1 : Bool) (h : laws_FnExactBestOrder.f k a0_0 l0_1 l0_2 = some r_1) :
    Calls Try.prog 14 #[.agg #[.int .i64 a0_0, .slice A0_1 n0_1 c0_1, .slice A0_2 n0_2 c0_2]] ws (Post1 w0 ws P0 (fun (_ : Unit) => .bool r_1) (fun (_ : Unit) => [])) := by
  unfold laws_FnExactBestOrder.f at h
  obtain rfl := (R0_1 ws (KeptB.refl _ _)).1
  obtain rfl := (R0_2 ws (KeptB.refl _ _)).1
  refine enter Try.func14 rfl Try.ntmps14 rfl hF ?_
  refine c_seq ?_
  refine za0 ?_
  refine o_e rfl (e_box rfl) (fun g1 => ?_)
  refine o_q rfl rfl (q_asg rfl) ?_
  refine o_end ?_
  refine za1 ?_
  refine c_seq ?_
  refine za0 ?_
  refine o_q rfl rfl (q_asg rfl) ?_
  refine o_end ?_
  refine za1 ?_
  refine c_seq ?_
  refine za0 ?_
  refine o_q rfl rfl (q_ldB G50 Z50 rfl (fun w h => h.zaa (i := 0) rfl) rfl) ?_
  refine o_q rfl rfl (za2 rfl) ?_
  refine za8 h (fun i4 hx3 h => ?_) rfl
  refine o_e rfl (za9 0 Z Try.func33 N33 rfl rfl rfl (fun w P1 hF hB hS hT => laws_szPlan.calls a0_0 A0_1 c0_1 l0_1.length l0_1 A0_2 c0_2 l0_2.length l0_2 1048576 hB hF (hS _ R0_1) hc0_1 (hS _ R0_2) hc0_2 _ hx3)) (fun _ => ?_)
  refine o_q rfl rfl (q_asg rfl) ?_
  refine o_end ?_
  refine za1 ?_
  refine c_seq ?_
  refine c_seq ?_
  refine za0 ?_
  refine o_q rfl rfl (za2 rfl) ?_
  refine o_q rfl rfl (q_lss rfl rfl) ?_
  refine o_end ?_
  refine za1 ?_
  refine zar _ rfl (fun hb5 => ?_) (fun hb5 => ?_)
  · skip
    replace h := br_t hb5 h
    refine c_seq ?_
    refine za0 ?_
    refine o_q rfl rfl (q_asg rfl) ?_
    refine o_end ?_
    refine za1 ?_
    refine c_ret ?_
    refine za5 ?_
    have e0_ := Option.some.inj h; clear h
    subst e0_
    exact x_r1 () Try.results14 (zab rfl) rfl (fun w h => za6 [] (by decide) rfl w h)
  · skip
    replace h := br_f hb5 h
    refine zai ?_
    refine za1 ?_
    refine c_seq ?_
    refine za0 ?_
    refine o_q rfl rfl (q_ldB G50 Z50 rfl (fun w h => h.zaa (i := 0) rfl) rfl) ?_
    refine bindE2 h (fun l7 l8 hx6 h => ?_) rfl
    refine o_e rfl (za9 0 Z Try.func35 N35 rfl rfl rfl (fun w P1 hF hB hS hT => laws_toPlan.calls k a0_0 A0_1 c0_1 l0_1.length l0_1 A0_2 c0_2 l0_2.length l0_2 hB hF (hS _ R0_1) hc0_1 (hS _ R0_2) hc0_2 _ _ hx6)) (cur4 (fun A9 c10 A11 c12 => ?_))
    refine bindE2 h (fun l14 b15 hx13 h => ?_) rfl
    refine o_e rfl (za9 0 Z Try.func51 N51 rfl rfl rfl (fun w P1 hF hB hS hT => spec_BestOrder.calls k a0_0 A9 c10 l7.length l7 A11 c12 l8.length l8 hB hF (hT 0 _ rfl).row (hT 0 _ rfl).cap (hT 1 _ rfl).row (hT 1 _ rfl).cap _ _ hx13)) (cur2 (fun A16 c17 => ?_))
    refine o_q rfl rfl (za2 rfl) ?_
    refine o_q rfl rfl (q_ext rfl rfl) ?_
    refine o_q rfl rfl (q_ext rfl rfl) ?_
    refine o_q rfl rfl (q_asg rfl) ?_
    refine o_q rfl rfl (q_asg rfl) ?_
    refine o_end ?_
    refine za1 ?_
    refine c_seq ?_
    refine za0 ?_
    refine o_q rfl rfl (q_ldB G50 Z50 rfl (fun w h => h.zaa (i := 3) rfl) rfl) ?_
    refine bindE2 h (fun l19 l20 hx18 h => ?_) rfl
    refine o_e rfl (za9 0 Z Try.func35 N35 rfl rfl rfl (fun w P1 hF hB hS hT => laws_toPlan.calls k a0_0 A0_1 c0_1 l0_1.length l0_1 A0_2 c0_2 l0_2.length l0_2 hB hF (hS _ R0_1) hc0_1 (hS _ R0_2) hc0_2 _ _ hx18)) (cur4 (fun A21 c22 A23 c24 => ?_))
    refine o_e rfl (e_alloc V36 rfl) (fun g25 => ?_)
    refine o_e rfl (e_storeA (i := 0) rfl rfl rfl Z36 rfl rfl) (fun _ => ?_)
    refine o_end ?_
    refine za1 ?_
    refine c_seq ?_
    refine za0 ?_
    refine o_q rfl rfl (q_ldB G36 Z36 rfl (fun w h => h.zaa (i := 0) rfl) rfl) ?_
    refine bindE2 h (fun l28 b29 hx27 h => ?_) rfl
    refine o_e rfl (za9 0 Z Try.func52 N52 rfl rfl rfl (fun w P1 hF hB hS hT => impl_BestOrder.calls k a0_0 A21 c22 l19.length l19 A23 c24 l20.length l20 hB hF (hT 1 _ rfl).row (hT 1 _ rfl).cap (hT 2 _ rfl).row (hT 2 _ rfl).cap _ _ hx27)) (cur2 (fun A30 c31 => ?_))
    refine o_q rfl rfl (za2 rfl) ?_
    refine o_q rfl rfl (q_ext rfl rfl) ?_
    refine o_q rfl rfl (q_ext rfl rfl) ?_
    refine o_q rfl rfl (q_asg rfl) ?_
    refine o_q rfl rfl (q_asg rfl) ?_
    refine o_end ?_
    refine za1 ?_
    refine c_seq ?_
    refine c_seq ?_
    refine za0 ?_
    refine o_q rfl rfl (za2 rfl) ?_
    refine o_q rfl rfl (za2 rfl) ?_
    refine za8 h (fun b33 hx32 h => ?_) rfl
    refine o_e rfl (za9 0 Z Try.func30 N30 rfl rfl rfl (fun w P1 hF hB hS hT => laws_eqIntS.calls k A30 c31 l28.length l28 A16 c17 l14.length l14 hB hF (hT 0 _ rfl).row (hT 0 _ rfl).cap (hT 4 _ rfl).row (hT 4 _ rfl).cap _ hx32)) (fun _ => ?_)
    refine o_q rfl rfl (q_not rfl) ?_
    refine o_q rfl rfl (za2 rfl) ?_
    refine byB b33 (fun hb34 => ?_) (fun hb34 => ?_)
    · replace h := bb_t hb34 h
      refine o_w (za3 rfl rfl rfl (congrArg (fun b => Value.bool (!(b))) hb34)) rfl (za2 rfl) ?_
      refine o_w (za3 rfl rfl rfl (congrArg (fun b => Value.bool (!(b))) hb34)) rfl (za2 rfl) ?_
      refine o_w (za3 rfl rfl rfl (congrArg (fun b => Value.bool (!(b))) hb34)) rfl (q_bneq Try.underlying4 rfl rfl) ?_
      refine o_q rfl rfl (zam false (congrArg (fun b => Value.bool (!(b))) hb34) rfl) ?_
      refine o_end ?_
      refine za1 ?_
      refine zar _ rfl (fun hb35 => ?_) (fun hb35 => ?_)
      · skip
        replace h := bb_t hb35 h
        refine c_seq ?_
        refine za0 ?_
        refine o_q rfl rfl (q_asg rfl) ?_
        refine o_end ?_
        refine za1 ?_
        refine c_ret ?_
        refine za5 ?_
        have e0_ := Option.some.inj h; clear h
        subst e0_
        exact x_r1 () Try.results14 (zab rfl) rfl (fun w h => za6 [] (by decide) rfl w h)
      · skip
        replace h := bb_f hb35 h
        refine zai ?_
        refine za1 ?_
        refine c_seq ?_
        refine c_seq ?_
        refine a_start (ds := []) MO rfl ?_
        refine a_take 0 rfl rfl rfl (by kernel_rfl) (fun _ _ _ h => h) (fun w h => h) (q_ldB G36 Z36 rfl (fun w h => h.zaa (i := 1) rfl) rfl) ?_
        refine a_take 1 rfl rfl rfl (by kernel_rfl) (fun _ _ _ h => h) (fun w h => h) (q_ldB G50 Z50 rfl (fun w h => h.zaa (i := 7) rfl) rfl) ?_
        refine bindE2 h (fun l37 l38 hx36 h => ?_) rfl
        refine a_one 2 rfl rfl (by kernel_rfl) rfl (za9 0 Z Try.func35 N35 rfl rfl rfl (fun w P1 hF hB hS hT => laws_toPlan.calls k a0_0 A0_1 c0_1 l0_1.length l0_1 A0_2 c0_2 l0_2.length l0_2 hB hF (hS _ R0_1) hc0_1 (hS _ R0_2) hc0_2 _ _ hx36)) (fun s w h => zal [some 2, some 3, some 4, some 5, some 6, some 7, some 8, some 9] (by decide) w h rfl) (cur4 (fun A39 c40 A41 c42 => ?_))
        refine za8 h (fun b44 hx43 h => ?_) rfl
        refine a_one 3 rfl rfl (by kernel_rfl) rfl (za9 0 Z Try.func23 N23 rfl rfl rfl (fun w P1 hF hB hS hT => laws_eqPlan.calls k a0_0 A21 c22 l19.length l19 A23 c24 l20.length l20 a0_0 A39 c40 l37.length l37 A41 c42 l38.length l38 hB hF (hT 4 _ rfl).row (hT 4 _ rfl).cap (hT 5 _ rfl).row (hT 5 _ rfl).cap (hT 0 _ rfl).row (hT 0 _ rfl).cap (hT 1 _ rfl).row (hT 1 _ rfl).cap _ hx43)) (fun s w h => zal [some 2, some 3, some 4, some 5, some 6, some 7, some 8, some 9] (by decide) w h rfl) (fun _ => ?_)
        refine zac 4 rfl rfl rfl (by kernel_rfl) (fun _ _ _ h => h) (q_not rfl) ?_
        refine a_done (by kernel_rfl) ?_
        refine za1 ?_
        refine zar _ rfl (fun hb45 => ?_) (fun hb45 => ?_)
        · replace hb45 := nt_t hb45
          replace h := bb_f hb45 h
          refine c_seq ?_
          refine za0 ?_
          refine o_q rfl rfl (q_asg rfl) ?_
          refine o_end ?_
          refine za1 ?_
          refine c_ret ?_
          refine za5 ?_
          have e0_ := Option.some.inj h; clear h
          subst e0_
          exact x_r1 () Try.results14 (zab rfl) rfl (fun w h => za6 [] (by decide) rfl w h)
        · replace hb45 := nt_f hb45
          replace h := bb_t hb45 h
          refine zai ?_
          refine za1 ?_
          refine c_seq ?_
          refine za0 ?_
          refine o_q rfl rfl (q_asg rfl) ?_
          refine o_end ?_
          refine za1 ?_
          refine c_seq ?_
          refine za0 ?_
          refine o_q rfl rfl (q_ldB G36 Z36 rfl (fun w h => h.zaa (i := 3) rfl) rfl) ?_
          refine o_q rfl rfl (za2 rfl) ?_
          refine o_pick [4, 5, 0, 1, 2, 3, 6, 7, 8, 9] (by decide) rfl ?_
          refine bindE3 h (fun i47 l48 l49 hx46 h => ?_) rfl
          refine o_e rfl (za9 2 Z Try.func25 N25 rfl rfl rfl (fun w P1 hF hB hS hT => laws_markPlan.calls k a0_0 A21 c22 l19.length l19 A23 c24 l20.length l20 1 hB hF _ _ _ hx46)) (fun _ => ?_)
          refine o_q rfl rfl (q_asg rfl) ?_
          refine o_end ?_
          refine za1 ?_
          refine c_seq ?_
          refine c_seq ?_
          refine za0 ?_
          refine o_q rfl rfl (za2 rfl) ?_
          refine o_q rfl rfl (q_lss rfl rfl) ?_
          refine o_q rfl rfl (za2 rfl) ?_
          refine byB (decide (i47 < 0)) (fun hb50 => ?_) (fun hb50 => ?_)
          · replace h := br_t hb50 h
            refine @o_n _ _ _ _ _ _ _ _ _ _ _ 52 (za4 rfl rfl rfl (congrArg Value.bool hb50) rfl) (Eq.refl (some 52)) ?_
            refine @o_n _ _ _ _ _ _ _ _ _ _ _ 53 (za4 rfl rfl rfl (congrArg Value.bool hb50) rfl) (Eq.refl (some 53)) ?_
            refine @o_n _ _ _ _ _ _ _ _ _ _ _ 54 (za4 rfl rfl rfl (congrArg Value.bool hb50) rfl) (Eq.refl (some 54)) ?_
            refine @o_n _ _ _ _ _ _ _ _ _ _ _ 55 (za4 rfl rfl rfl (congrArg Value.bool hb50) rfl) (Eq.refl (some 55)) ?_
            refine o_q rfl rfl (zam true (congrArg Value.bool hb50) rfl) ?_
            refine o_q rfl rfl (za2 rfl) ?_
            refine @o_n _ _ _ _ _ _ _ _ _ _ _ 58 (za4 rfl rfl rfl rfl rfl) (Eq.refl (some 58)) ?_
            refine @o_n _ _ _ _ _ _ _ _ _ _ _ 59 (za4 rfl rfl rfl rfl rfl) (Eq.refl (some 59)) ?_
            refine @o_n _ _ _ _ _ _ _ _ _ _ _ 60 (za4 rfl rfl rfl rfl rfl) (Eq.refl (some 60)) ?_
            refine o_q rfl rfl (zam true rfl rfl) ?_
            refine o_end ?_
            refine za1 ?_
            refine c_true rfl ?_
            refine c_seq ?_
            refine za0 ?_
            refine o_q rfl rfl (q_asg rfl) ?_
            refine o_end ?_
            refine za1 ?_
            refine c_ret ?_
            refine za5 ?_
            have e0_ := Option.some.inj h; clear h
            subst e0_
            exact x_r1 () Try.results14 (zab rfl) rfl (fun w h => za6 [] (by decide) rfl w h)
          · replace h := br_f hb50 h
            refine o_w (za3 rfl rfl rfl (congrArg Value.bool hb50)) rfl (za2 rfl) ?_
            refine o_w (za3 rfl rfl rfl (congrArg Value.bool hb50)) rfl (za2 rfl) ?_
            refine za8 h (fun b52 hx51 h => ?_) rfl
            refine o_ew (za3 rfl rfl rfl (congrArg Value.bool hb50)) (za9 0 Z Try.func30 N30 rfl rfl rfl (fun w P1 hF hB hS hT => laws_eqIntS.calls k A30 c31 l28.length l28 A16 c17 l14.length l14 hB hF (hT 4 _ rfl).row (hT 4 _ rfl).cap (hT 6 _ rfl).row (hT 6 _ rfl).cap _ hx51)) (fun _ => ?_)
            refine o_w (za3 rfl rfl rfl (congrArg Value.bool hb50)) rfl (q_not rfl) ?_
            refine o_q rfl rfl (zam false (congrArg Value.bool hb50) rfl) ?_
            refine o_q rfl rfl (za2 rfl) ?_
            refine byB b52 (fun hb53 => ?_) (fun hb53 => ?_)
            · replace h := bb_t hb53 h
              refine o_w (za3 rfl rfl rfl (congrArg (fun b => Value.bool (!(b))) hb53)) rfl (za2 rfl) ?_
              refine o_w (za3 rfl rfl rfl (congrArg (fun b => Value.bool (!(b))) hb53)) rfl (za2 rfl) ?_
              refine o_w (za3 rfl rfl rfl (congrArg (fun b => Value.bool (!(b))) hb53)) rfl (q_bneq Try.underlying4 rfl rfl) ?_
              refine o_q rfl rfl (zam false (congrArg (fun b => Value.bool (!(b))) hb53) rfl) ?_
              refine o_end ?_
              refine za1 ?_
              refine c_false (congrArg Value.bool hb35) ?_
              refine zai ?_
              refine za1 ?_
              refine c_seq ?_
              refine za0 ?_
              refine o_q rfl rfl (q_asg rfl) ?_
              refine o_end ?_
              refine za1 ?_
              refine c_seq ?_
              refine za0 ?_
              refine o_q rfl rfl (za2 rfl) ?_
              refine o_q rfl rfl (za2 rfl) ?_
              refine o_pick [4, 0, 1, 2, 3, 5, 6, 7, 8, 9] (by decide) rfl ?_
              refine bindE2 h (fun i55 l56 hx54 h => ?_) rfl
              refine o_e rfl (za9 1 Z Try.func31 N31 rfl rfl rfl (fun w P1 hF hB hS hT => laws_markIntS.calls k A30 c31 l28.length l28 1 hB hF _ _ hx54)) (fun _ => ?_)
              refine o_q rfl rfl (q_asg rfl) ?_
              refine o_end ?_
              refine za1 ?_
              refine c_seq ?_
              refine za0 ?_
              refine o_q rfl rfl (q_asg rfl) ?_
              refine o_end ?_
              refine za1 ?_
              refine c_seq ?_
              refine za0 ?_
              refine o_q rfl rfl (za2 rfl) ?_
              refine o_q rfl rfl (za2 rfl) ?_
              refine za8 h (fun i58 hx57 h => ?_) rfl
              refine o_e rfl (za9 0 Z Try.func32 N32 rfl rfl rfl (fun w P1 hF hB hS hT => laws_heldIntS.calls k A30 c31 l28.length l56 1 hB hF (hT 0 _ rfl).row (hT 0 _ rfl).cap _ hx57)) (fun _ => ?_)
              refine o_q rfl rfl (q_asg rfl) ?_
              refine o_end ?_
              refine za1 ?_
              refine c_seq ?_
              refine c_seq ?_
              refine za0 ?_
              refine o_q rfl rfl (za2 rfl) ?_
              refine o_q rfl rfl (q_lss rfl rfl) ?_
              refine o_end ?_
              refine za1 ?_
              refine zar _ rfl (fun hb59 => ?_) (fun hb59 => ?_)
              · skip
                replace h := br_t hb59 h
                refine c_seq ?_
                refine za0 ?_
                refine o_q rfl rfl (q_asg rfl) ?_
                refine o_end ?_
                refine za1 ?_
                refine c_ret ?_
                refine za5 ?_
                have e0_ := Option.some.inj h; clear h
                subst e0_
                exact x_r1 () Try.results14 (zab rfl) rfl (fun w h => za6 [] (by decide) rfl w h)
              · skip
                replace h := br_f hb59 h
                refine zai ?_
                refine za1 ?_
                refine c_seq ?_
                refine c_seq ?_
                refine za0 ?_
                refine o_q rfl rfl (za2 rfl) ?_
                refine o_q rfl rfl (za2 rfl) ?_
                refine o_q rfl rfl (q_neq rfl rfl) ?_
                refine o_end ?_
                refine za1 ?_
                refine zar _ rfl (fun hb60 => ?_) (fun hb60 => ?_)
                · skip
                  replace h := br_t hb60 h
                  refine c_seq ?_
                  refine za0 ?_
                  refine o_q rfl rfl (q_asg rfl) ?_
                  refine o_end ?_
                  refine za1 ?_
                  refine c_ret ?_
                  refine za5 ?_
                  have e0_ := Option.some.inj h; clear h
                  subst e0_
                  exact x_r1 () Try.results14 (zab rfl) rfl (fun w h => za6 [] (by decide) rfl w h)
                · skip
                  replace h := br_f hb60 h
                  refine zai ?_
                  refine za1 ?_
                  refine c_seq ?_
                  refine za0 ?_
                  refine o_q rfl rfl (q_ldB G50 Z50 rfl (fun w h => h.zaa (i := 9) rfl) rfl) ?_
                  refine bindE2 h (fun l62 l63 hx61 h => ?_) rfl
                  refine o_e rfl (za9 0 Z Try.func35 N35 rfl rfl rfl (fun w P1 hF hB hS hT => laws_toPlan.calls k a0_0 A0_1 c0_1 l0_1.length l0_1 A0_2 c0_2 l0_2.length l0_2 hB hF (hS _ R0_1) hc0_1 (hS _ R0_2) hc0_2 _ _ hx61)) (cur4 (fun A64 c65 A66 c67 => ?_))
                  refine bindE2 h (fun l69 b70 hx68 h => ?_) rfl
                  refine o_e rfl (za9 0 Z Try.func52 N52 rfl rfl rfl (fun w P1 hF hB hS hT => impl_BestOrder.calls k a0_0 A64 c65 l62.length l62 A66 c67 l63.length l63 hB hF (hT 0 _ rfl).row (hT 0 _ rfl).cap (hT 1 _ rfl).row (hT 1 _ rfl).cap _ _ hx68)) (cur2 (fun A71 c72 => ?_))
                  refine o_q rfl rfl (za2 rfl) ?_
                  refine o_q rfl rfl (q_ext rfl rfl) ?_
                  refine o_q rfl rfl (q_ext rfl rfl) ?_
                  refine o_q rfl rfl (q_asg rfl) ?_
                  refine o_q rfl rfl (q_asg rfl) ?_
                  refine o_end ?_
                  refine za1 ?_
                  refine c_seq ?_
                  refine c_seq ?_
                  refine za0 ?_
                  refine o_q rfl rfl (za2 rfl) ?_
                  refine o_q rfl rfl (za2 rfl) ?_
                  refine za8 h (fun b74 hx73 h => ?_) rfl
                  refine o_e rfl (za9 0 Z Try.func30 N30 rfl rfl rfl (fun w P1 hF hB hS hT => laws_eqIntS.calls k A71 c72 l69.length l69 A16 c17 l14.length l14 hB hF (hT 0 _ rfl).row (hT 0 _ rfl).cap (hT 9 _ rfl).row (hT 9 _ rfl).cap _ hx73)) (fun _ => ?_)
                  refine o_q rfl rfl (q_not rfl) ?_
                  refine o_q rfl rfl (za2 rfl) ?_
                  refine byB b74 (fun hb75 => ?_) (fun hb75 => ?_)
                  · replace h := bb_t hb75 h
                    refine o_w (za3 rfl rfl rfl (congrArg (fun b => Value.bool (!(b))) hb75)) rfl (za2 rfl) ?_
                    refine o_w (za3 rfl rfl rfl (congrArg (fun b => Value.bool (!(b))) hb75)) rfl (za2 rfl) ?_
                    refine o_w (za3 rfl rfl rfl (congrArg (fun b => Value.bool (!(b))) hb75)) rfl (q_bneq Try.underlying4 rfl rfl) ?_
                    refine o_q rfl rfl (zam false (congrArg (fun b => Value.bool (!(b))) hb75) rfl) ?_
                    refine o_end ?_
                    refine za1 ?_
                    refine zar _ rfl (fun hb76 => ?_) (fun hb76 => ?_)
                    · skip
                      replace h := bb_t hb76 h
                      refine c_seq ?_
                      refine za0 ?_
                      refine o_q rfl rfl (q_asg rfl) ?_
                      refine o_end ?_
                      refine za1 ?_
                      refine c_ret ?_
                      refine za5 ?_
                      have e0_ := Option.some.inj h; clear h
                      subst e0_
                      exact x_r1 () Try.results14 (zab rfl) rfl (fun w h => za6 [] (by decide) rfl w h)
                    · skip
                      replace h := bb_f hb76 h
                      refine zai ?_
                      refine za1 ?_
                      refine c_seq ?_
                      refine za0 ?_
                      refine o_q rfl rfl (q_asg rfl) ?_
                      refine o_end ?_
                      refine za1 ?_
                      refine c_seq ?_
                      refine za0 ?_
                      refine o_q rfl rfl (za2 rfl) ?_
                      refine o_q rfl rfl (za2 rfl) ?_
                      refine za8 h (fun i78 hx77 h => ?_) rfl
                      refine o_e rfl (za9 0 Z Try.func32 N32 rfl rfl rfl (fun w P1 hF hB hS hT => laws_heldIntS.calls k A30 c31 l28.length l56 1 hB hF (hT 3 _ rfl).row (hT 3 _ rfl).cap _ hx77)) (fun _ => ?_)
                      refine o_q rfl rfl (q_asg rfl) ?_
                      refine o_end ?_
                      refine za1 ?_
                      refine c_seq ?_
                      refine c_seq ?_
                      refine za0 ?_
                      refine o_q rfl rfl (za2 rfl) ?_
                      refine o_q rfl rfl (q_lss rfl rfl) ?_
                      refine o_end ?_
                      refine za1 ?_
                      refine zar _ rfl (fun hb79 => ?_) (fun hb79 => ?_)
                      · skip
                        replace h := br_t hb79 h
                        refine c_seq ?_
                        refine za0 ?_
                        refine o_q rfl rfl (q_asg rfl) ?_
                        refine o_end ?_
                        refine za1 ?_
                        refine c_ret ?_
                        refine za5 ?_
                        have e0_ := Option.some.inj h; clear h
                        subst e0_
                        exact x_r1 () Try.results14 (zab rfl) rfl (fun w h => za6 [] (by decide) rfl w h)
                      · skip
                        replace h := br_f hb79 h
                        refine zai ?_
                        refine za1 ?_
                        refine c_seq ?_
                        refine c_seq ?_
                        refine za0 ?_
                        refine o_q rfl rfl (za2 rfl) ?_
                        refine o_q rfl rfl (za2 rfl) ?_
                        refine o_q rfl rfl (q_neq rfl rfl) ?_
                        refine o_end ?_
                        refine za1 ?_
                        refine zar _ rfl (fun hb80 => ?_) (fun hb80 => ?_)
                        · skip
                          replace h := br_t hb80 h
                          refine c_seq ?_
                          refine za0 ?_
                          refine o_q rfl rfl (q_asg rfl) ?_
                          refine o_end ?_
                          refine za1 ?_
                          refine c_ret ?_
                          refine za5 ?_
                          have e0_ := Option.some.inj h; clear h
                          subst e0_
                          exact x_r1 () Try.results14 (zab rfl) rfl (fun w h => za6 [] (by decide) rfl w h)
                        · skip
                          replace h := br_f hb80 h
                          refine zai ?_
                          refine za1 ?_
                          refine c_seq ?_
                          refine za0 ?_
                          refine o_q rfl rfl (q_asg rfl) ?_
                          refine o_end ?_
                          refine za1 ?_
                          refine c_ret ?_
                          have e0_ := Option.some.inj h; clear h
                          subst e0_
                          exact x_r1 () Try.results14 (zab rfl) rfl (fun w h => za6 [] (by decide) rfl w h)
                  · replace h := bb_f hb75 h
                    refine @o_n _ _ _ _ _ _ _ _ _ _ _ 84 (za4 rfl rfl rfl (congrArg (fun b => Value.bool (!(b))) hb75) rfl) (Eq.refl (some 84)) ?_
                    refine @o_n _ _ _ _ _ _ _ _ _ _ _ 85 (za4 rfl rfl rfl (congrArg (fun b => Value.bool (!(b))) hb75) rfl) (Eq.refl (some 85)) ?_
                    refine @o_n _ _ _ _ _ _ _ _ _ _ _ 86 (za4 rfl rfl rfl (congrArg (fun b => Value.bool (!(b))) hb75) rfl) (Eq.refl (some 86)) ?_
                    refine o_q rfl rfl (zam true (congrArg (fun b => Value.bool (!(b))) hb75) rfl) ?_
                    refine o_end ?_
                    refine za1 ?_
                    refine c_true rfl ?_
                    refine c_seq ?_
                    refine za0 ?_
                    refine o_q rfl rfl (q_asg rfl) ?_
                    refine o_end ?_
                    refine za1 ?_
                    refine c_ret ?_
                    refine za5 ?_
                    have e0_ := Option.some.inj h; clear h
                    subst e0_
                    exact x_r1 () Try.results14 (zab rfl) rfl (fun w h => za6 [] (by decide) rfl w h)
            · replace h := bb_f hb53 h
              refine @o_n _ _ _ _ _ _ _ _ _ _ _ 58 (za4 rfl rfl rfl (congrArg (fun b => Value.bool (!(b))) hb53) rfl) (Eq.refl (some 58)) ?_
              refine @o_n _ _ _ _ _ _ _ _ _ _ _ 59 (za4 rfl rfl rfl (congrArg (fun b => Value.bool (!(b))) hb53) rfl) (Eq.refl (some 59)) ?_
              refine @o_n _ _ _ _ _ _ _ _ _ _ _ 60 (za4 rfl rfl rfl (congrArg (fun b => Value.bool (!(b))) hb53) rfl) (Eq.refl (some 60)) ?_
              refine o_q rfl rfl (zam true (congrArg (fun b => Value.bool (!(b))) hb53) rfl) ?_
              refine o_end ?_
              refine za1 ?_
              refine c_true rfl ?_
              refine c_seq ?_
              refine za0 ?_
              refine o_q rfl rfl (q_asg rfl) ?_
              refine o_end ?_
              refine za1 ?_
              refine c_ret ?_
              refine za5 ?_
              have e0_ := Option.some.inj h; clear h
              subst e0_
              exact x_r1 () Try.results14 (zab rfl) rfl (fun w h => za6 [] (by decide) rfl w h)
    · replace h := bb_f hb34 h
      refine @o_n _ _ _ _ _ _ _ _ _ _ _ 37 (za4 rfl rfl rfl (congrArg (fun b => Value.bool (!(b))) hb34) rfl) (Eq.refl (some 37)) ?_
      refine @o_n _ _ _ _ _ _ _ _ _ _ _ 38 (za4 rfl rfl rfl (congrArg (fun b => Value.bool (!(b))) hb34) rfl) (Eq.refl (some 38)) ?_
      refine @o_n _ _ _ _ _ _ _ _ _ _ _ 39 (za4 rfl rfl rfl (congrArg (fun b => Value.bool (!(b))) hb34) rfl) (Eq.refl (some 39)) ?_
      refine o_q rfl rfl (zam true (congrArg (fun b => Value.bool (!(b))) hb34) rfl) ?_
      refine o_end ?_
      refine za1 ?_
      refine c_true rfl ?_
      refine c_seq ?_
      refine za0 ?_
      refine o_q rfl rfl (q_asg rfl) ?_
      refine o_end ?_
      refine za1 ?_
      refine c_ret ?_
      refine za5 ?_
      have e0_ := Option.some.inj h; clear h
      subst e0_
      exact x_r1 () Try.results14 (zab rfl) rfl (fun w h => za6 [] (by decide) rfl w h)

/-- THE ONE PURE STATEMENT of laws_FnExactOrdersWithin. -/
def laws_FnExactOrdersWithin.Pure : Prop := ∀ (a0_0 : Int) (l0_1 : List SStep) (l0_2 : List Int) (a1 : Int), (Lit.int .i64 a0_0).wf = true → l0_1.length ≤ maxLen → (∀ y ∈ l0_1, (Lit.int .i64 y.f0).wf = true ∧ (Lit.int .i64 y.f1).wf = true) → l0_2.length ≤ maxLen → (∀ y ∈ l0_2, (Lit.int .i64 y).wf = true) → (Lit.int .i64 a1).wf = true → ∃ k, laws_FnExactOrdersWithin.f k a0_0 l0_1 l0_2 a1 = some true
theorem laws_FnExactOrdersWithin.walk (P : laws_FnExactOrdersWithin.Pure) (a0_0 : Int) (A0_1 : Option Addr) (c0_1 : Nat) (l0_1 : List SStep) (A0_2 : Option Addr) (c0_2 : Nat) (l0_2 : List Int) (a1 : Int) (w : World) (hr0_1 : Kd.C kStep w A0_1 l0_1.length l0_1) (hc0_1 : l0_1.length ≤ c0_1) (hr0_2 : Kd.C (Kd.int .i64) w A0_2 l0_2.length l0_2) (hc0_2 : l0_2.length ≤ c0_2) (q0 : (Lit.int .i64 a0_0).wf = true) (q1 : l0_1.length ≤ maxLen) (q2 : (∀ y ∈ l0_1, (Lit.int .i64 y.f0).wf = true ∧ (Lit.int .i64 y.f1).wf = true)) (q3 : l0_2.length ≤ maxLen) (q4 : (∀ y ∈ l0_2, (Lit.int .i64 y).wf = true)) (q5 : (Lit.int .i64 a1).wf = true) :
    Calls Try.prog 12 #[.agg #[.int .i64 a0_0, .slice A0_1 l0_1.length c0_1, .slice A0_2 l0_2.length c0_2], .int .i64 a1] w fun e w' => e = .returned (.bool true) ∧ Below w.heap.size w w' := by
  obtain ⟨k, h⟩ := P a0_0 l0_1 l0_2 a1 q0 q1 q2 q3 q4 q5
  refine (laws_FnExactOrdersWithin.calls k a0_0 A0_1 c0_1 l0_1.length l0_1 A0_2 c0_2 l0_2.length l0_2 a1 (Below.refl _ _) (Fr.start w) (fun W hW => Kd.C_below hr0_1 hW.below) hc0_1 (fun W hW => Kd.C_below hr0_2 hW.below) hc0_2 true h).mono ?_
  rintro e w' ⟨s, rfl, hF⟩
  exact ⟨rfl, hF.bel⟩
/-- THE ONE PURE STATEMENT of laws_FnExactFewestRegisters. -/
def laws_FnExactFewestRegisters.Pure : Prop := ∀ (a0_0 : Int) (l0_1 : List SStep) (l0_2 : List Int), (Lit.int .i64 a0_0).wf = true → l0_1.length ≤ maxLen → (∀ y ∈ l0_1, (Lit.int .i64 y.f0).wf = true ∧ (Lit.int .i64 y.f1).wf = true) → l0_2.length ≤ maxLen → (∀ y ∈ l0_2, (Lit.int .i64 y).wf = true) → ∃ k, laws_FnExactFewestRegisters.f k a0_0 l0_1 l0_2 = some true
theorem laws_FnExactFewestRegisters.walk (P : laws_FnExactFewestRegisters.Pure) (a0_0 : Int) (A0_1 : Option Addr) (c0_1 : Nat) (l0_1 : List SStep) (A0_2 : Option Addr) (c0_2 : Nat) (l0_2 : List Int) (w : World) (hr0_1 : Kd.C kStep w A0_1 l0_1.length l0_1) (hc0_1 : l0_1.length ≤ c0_1) (hr0_2 : Kd.C (Kd.int .i64) w A0_2 l0_2.length l0_2) (hc0_2 : l0_2.length ≤ c0_2) (q0 : (Lit.int .i64 a0_0).wf = true) (q1 : l0_1.length ≤ maxLen) (q2 : (∀ y ∈ l0_1, (Lit.int .i64 y.f0).wf = true ∧ (Lit.int .i64 y.f1).wf = true)) (q3 : l0_2.length ≤ maxLen) (q4 : (∀ y ∈ l0_2, (Lit.int .i64 y).wf = true)) :
    Calls Try.prog 13 #[.agg #[.int .i64 a0_0, .slice A0_1 l0_1.length c0_1, .slice A0_2 l0_2.length c0_2]] w fun e w' => e = .returned (.bool true) ∧ Below w.heap.size w w' := by
  obtain ⟨k, h⟩ := P a0_0 l0_1 l0_2 q0 q1 q2 q3 q4
  refine (laws_FnExactFewestRegisters.calls k a0_0 A0_1 c0_1 l0_1.length l0_1 A0_2 c0_2 l0_2.length l0_2 (Below.refl _ _) (Fr.start w) (fun W hW => Kd.C_below hr0_1 hW.below) hc0_1 (fun W hW => Kd.C_below hr0_2 hW.below) hc0_2 true h).mono ?_
  rintro e w' ⟨s, rfl, hF⟩
  exact ⟨rfl, hF.bel⟩
/-- THE ONE PURE STATEMENT of laws_FnExactBestOrder. -/
def laws_FnExactBestOrder.Pure : Prop := ∀ (a0_0 : Int) (l0_1 : List SStep) (l0_2 : List Int), (Lit.int .i64 a0_0).wf = true → l0_1.length ≤ maxLen → (∀ y ∈ l0_1, (Lit.int .i64 y.f0).wf = true ∧ (Lit.int .i64 y.f1).wf = true) → l0_2.length ≤ maxLen → (∀ y ∈ l0_2, (Lit.int .i64 y).wf = true) → ∃ k, laws_FnExactBestOrder.f k a0_0 l0_1 l0_2 = some true
theorem laws_FnExactBestOrder.walk (P : laws_FnExactBestOrder.Pure) (a0_0 : Int) (A0_1 : Option Addr) (c0_1 : Nat) (l0_1 : List SStep) (A0_2 : Option Addr) (c0_2 : Nat) (l0_2 : List Int) (w : World) (hr0_1 : Kd.C kStep w A0_1 l0_1.length l0_1) (hc0_1 : l0_1.length ≤ c0_1) (hr0_2 : Kd.C (Kd.int .i64) w A0_2 l0_2.length l0_2) (hc0_2 : l0_2.length ≤ c0_2) (q0 : (Lit.int .i64 a0_0).wf = true) (q1 : l0_1.length ≤ maxLen) (q2 : (∀ y ∈ l0_1, (Lit.int .i64 y.f0).wf = true ∧ (Lit.int .i64 y.f1).wf = true)) (q3 : l0_2.length ≤ maxLen) (q4 : (∀ y ∈ l0_2, (Lit.int .i64 y).wf = true)) :
    Calls Try.prog 14 #[.agg #[.int .i64 a0_0, .slice A0_1 l0_1.length c0_1, .slice A0_2 l0_2.length c0_2]] w fun e w' => e = .returned (.bool true) ∧ Below w.heap.size w w' := by
  obtain ⟨k, h⟩ := P a0_0 l0_1 l0_2 q0 q1 q2 q3 q4
  refine (laws_FnExactBestOrder.calls k a0_0 A0_1 c0_1 l0_1.length l0_1 A0_2 c0_2 l0_2.length l0_2 (Below.refl _ _) (Fr.start w) (fun W hW => Kd.C_below hr0_1 hW.below) hc0_1 (fun W hW => Kd.C_below hr0_2 hW.below) hc0_2 true h).mono ?_
  rintro e w' ⟨s, rfl, hF⟩
  exact ⟨rfl, hF.bel⟩
end Go.Proofs.Ytpdpomjgfmdjfaa.G1
