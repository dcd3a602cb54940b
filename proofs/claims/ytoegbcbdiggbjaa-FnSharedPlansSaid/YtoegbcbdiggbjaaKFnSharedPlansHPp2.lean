import Derived.Test.YtoegbcbdiggbjaaKFnSharedPlansHPp1
namespace Go.Proofs.Ytoegbcbdiggbjaa.HP
open Go.RowKit Go.Proofs.Ytoegbcbdiggbjaa.Frame Go.Proofs.YtoegbcbdiggbjaaW.PrintLast Go.Proofs.Ytoegbcbdiggbjaa.Hand
open Go.Proofs.YtoegbcbdiggbjaaW.PrintWords hiding mn mx
set_option linter.unusedVariables false
/-! ### loop.example/g01098/spec.DrawSharePlan: function 34 -/
def spec_DrawSharePlan.f (k : Nat) (l0 : List Int) : Option (Int × (List SStep) × (List Int)) := (spec_l1Cur_anyPlan.f k l0 0 0 2 9).bind fun (i6, l7, l8, i9, i10) => some (i6, l7, l8)
set_option maxHeartbeats 600000 in
set_option maxRecDepth 100000 in
theorem spec_DrawSharePlan.calls (k : Nat) {w0 ws : World} {P0 : Nat → Prop} (A0 : Option Addr) (c0 : Nat) (n0 : Nat) (l0 : List Int) (Z : Below w0.heap.size w0 ws) (hF : Fr w0 ws P0 [] ws) (R0 : Stable ws P0 (fun w => Kd.C (Kd.int .u8) w A0 n0 l0)) (hc0 : n0 ≤ c0) (r_1 : Int) (r_2 : List SStep) (r_5 : List Int) (h : spec_DrawSharePlan.f k l0 = some (r_1, r_2, r_5)) :
    Calls Try.prog 34 #[.slice A0 n0 c0] ws (Post1 w0 ws P0 (fun ((q_3, q_4, q_6, q_7) : (Option Addr) × Nat × (Option Addr) × Nat) => .agg #[.int .i64 r_1, .slice q_3 r_2.length q_4, .slice q_6 r_5.length q_7]) (fun ((q_3, q_4, q_6, q_7) : (Option Addr) × Nat × (Option Addr) × Nat) => [row kStep 89 (.slice q_3 r_2.length q_4) r_2, row (Kd.int .i64) 3 (.slice q_6 r_5.length q_7) r_5])) := by
  unfold spec_DrawSharePlan.f at h
  obtain rfl := (R0 ws (KeptB.refl _ _)).1
  refine enter Try.func34 rfl Try.ntmps34 rfl hF ?_
  refine c_seq ?_
  refine za0 ?_
  refine o_e rfl (e_alloc V27 rfl) (fun g1 => ?_)
  refine o_end ?_
  refine za1 ?_
  refine c_seq ?_
  refine za0 ?_
  refine o_q rfl rfl (za2 rfl) ?_
  refine o_q rfl rfl (q_build (vs := [(0, .slice A0 l0.length c0)]) (cs := [.slice A0 l0.length c0, .int .i64 0, .int .u64 0]) rfl rfl) ?_
  refine o_e rfl (e_box rfl) (fun g3 => ?_)
  refine o_q rfl rfl (q_asg rfl) ?_
  refine o_end ?_
  refine za1 ?_
  refine c_seq ?_
  refine za0 ?_
  refine o_q rfl rfl (za2 rfl) ?_
  refine bindE5 h (fun i6 l7 l8 i9 i10 hx5 h => ?_) rfl
  refine o_e rfl (zac 1 Z Try.func84 N84 rfl rfl rfl (fun w P1 hF hB hS hT => spec_l1Cur_anyPlan.calls k g3 A0 c0 l0.length l0 0 0 2 9 hB hF (hS _ R0) hc0 _ _ _ _ _ hx5)) (cur4 (fun A11 c12 A13 c14 => ?_))
  refine o_e rfl (zax (i := 3) rfl rfl rfl Z27 rfl rfl) (fun _ => ?_)
  refine o_end ?_
  refine za1 ?_
  refine c_ret ?_
  have e0_ := Option.some.inj h; clear h
  have d0_ := (Prod.mk.inj e0_).1; have e1_ := (Prod.mk.inj e0_).2; clear e0_; subst d0_
  have d1_ := (Prod.mk.inj e1_).1; have e2_ := (Prod.mk.inj e1_).2; clear e1_; subst d1_
  subst e2_
  exact x_r1 (A11, c12, A13, c14) Try.results34 (rv_cell rfl G27 Z27 (fun w h => h.zab (i := 3) rfl) rfl) rfl (fun w h => za8 [0, 1] (by decide) rfl w h)

/-! ### slices.Equal[[]int,int]: function 144 -/
def slices_Equal_int_int.l0 (l1 : List Int) : (List Int) → Int → Option ((Bool) ⊕ (Unit))
  | [], i2 => some (.inr ())
  | y3 :: ys4, i2 => (gt l1 i2).bind fun y16 => if y3 ≠ y16 then (some (.inl false)) else (slices_Equal_int_int.l0 l1 ys4 (i2 + 1))
def slices_Equal_int_int.f (l0 : List Int) (l1 : List Int) : Option Bool := if (l0.length : Int) ≠ (l1.length : Int) then (some false) else ((slices_Equal_int_int.l0 l1 l0 0).bind fun o_ => match o_ with | .inl r_ => some r_ | .inr _ => some true)
set_option maxHeartbeats 600000 in
set_option maxRecDepth 100000 in
theorem slices_Equal_int_int.calls {w0 ws : World} {P0 : Nat → Prop} (A0 : Option Addr) (c0 : Nat) (n0 : Nat) (l0 : List Int) (A1 : Option Addr) (c1 : Nat) (n1 : Nat) (l1 : List Int) (Z : Below w0.heap.size w0 ws) (hF : Fr w0 ws P0 [] ws) (R0 : Stable ws P0 (fun w => Kd.C (Kd.int .i64) w A0 n0 l0)) (hc0 : n0 ≤ c0) (R1 : Stable ws P0 (fun w => Kd.C (Kd.int .i64) w A1 n1 l1)) (hc1 : n1 ≤ c1) (r_1 : Bool) (h : slices_Equal_int_int.f l0 l1 = some r_1) :
    Calls Try.prog 144 #[.slice A0 n0 c0, .slice A1 n1 c1] ws (Post1 w0 ws P0 (fun (_ : Unit) => .bool r_1) (fun (_ : Unit) => [])) := by
  unfold slices_Equal_int_int.f at h
  obtain rfl := (R0 ws (KeptB.refl _ _)).1
  obtain rfl := (R1 ws (KeptB.refl _ _)).1
  refine enter Try.func144 rfl Try.ntmps144 rfl hF ?_
  refine c_seq ?_
  refine za0 ?_
  refine o_q rfl rfl (q_asg rfl) ?_
  refine o_end ?_
  refine za1 ?_
  refine c_seq ?_
  refine c_seq ?_
  refine za0 ?_
  refine o_q rfl rfl (za2 rfl) ?_
  refine o_q rfl rfl (q_len Try.underlying25 rfl) ?_
  refine o_q rfl rfl (za2 rfl) ?_
  refine o_q rfl rfl (q_len Try.underlying25 rfl) ?_
  refine o_q rfl rfl (q_neq rfl rfl) ?_
  refine o_end ?_
  refine za1 ?_
  refine zau _ rfl (fun hb1 => ?_) (fun hb1 => ?_)
  · skip
    replace h := br_t hb1 h
    refine c_seq ?_
    refine za0 ?_
    refine o_q rfl rfl (q_asg rfl) ?_
    refine o_end ?_
    refine za1 ?_
    refine c_ret ?_
    refine za9 ?_
    have e0_ := Option.some.inj h; clear h
    subst e0_
    exact x_r1 () Try.results144 (zaf rfl) rfl (fun w h => za8 [] (by decide) rfl w h)
  · skip
    replace h := br_f hb1 h
    refine zan ?_
    refine za1 ?_
    refine c_seq ?_
    refine c_seq ?_
    refine za0 ?_
    refine o_q rfl rfl (za2 rfl) ?_
    refine o_q rfl rfl (q_len Try.underlying25 rfl) ?_
    refine o_q rfl rfl (za2 rfl) ?_
    refine o_end ?_
    refine za1 ?_
    refine zaj ?_
    refine zaa h (fun o10 hl9 hR8 => ?_) rfl
    clear h
    refine c_fact (p := l0.length ≤ 9223372036854775807) (fun w h => (R0.now Z h).2.1) (fun hm7 => ?_)
    refine zaw (σ := (List Int) × Int) (fun k5 ((ys4, i2) : (List Int) × Int) => Rg l0 i2 ys4 ∧ ys4.length = k5 ∧ slices_Equal_int_int.l0 l1 ys4 i2 = some o10) [4, 5, 13, 14, 15, 16, 17, 18, 19, 20, 21, 22, 23, 24, 25] (fun ((ys4, i2) : (List Int) × Int) => [(13, .int .i64 i2)]) (fun ((ys4, i2) : (List Int) × Int) => []) l0.length (l0, 0) ⟨Rg.start _, rfl, hl9⟩ ⟨rfl, trivial⟩ (fun w h => h) ?_
    refine fun k5 => cur2 (listC (fun i2 U11 hJ_ => ?_) (fun y3 ys4 i2 U11 hJ_ => ?_))
    · skip
      clear hl9
      have hr6 := hJ_.1; have hk12 := hJ_.2.1; have h := hJ_.2.2; clear hJ_
      replace h : slices_Equal_int_int.l0 l1 [] i2 = some o10 := h
      rw [slices_Equal_int_int.l0] at h
      refine c_seq ?_
      refine za0 ?_
      refine o_q rfl rfl (q_lss rfl rfl) ?_
      refine o_end ?_
      refine za1 ?_
      refine c_seq ?_
      refine c_false (congrArg Value.bool hr6.ge) ?_
      refine c_exit ?_
      refine za6 ?_
      refine za6 ?_
      have e_ := Option.some.inj h; replace h := hR8; rw [← e_] at h; clear e_
      refine x_hit ?_
      refine za1 ?_
      refine c_seq ?_
      refine za0 ?_
      refine o_q rfl rfl (q_asg rfl) ?_
      refine o_end ?_
      refine za1 ?_
      refine c_ret ?_
      have e0_ := Option.some.inj h; clear h
      subst e0_
      exact x_r1 () Try.results144 (zaf rfl) rfl (fun w h => za8 [] (by decide) rfl w h)
    · skip
      clear hl9
      have hr6 := hJ_.1; have hk12 := hJ_.2.1; have h := hJ_.2.2; clear hJ_
      replace h : slices_Equal_int_int.l0 l1 (y3 :: ys4) i2 = some o10 := h
      rw [slices_Equal_int_int.l0] at h
      refine c_seq ?_
      refine za0 ?_
      refine o_q rfl rfl (q_lss rfl rfl) ?_
      refine o_end ?_
      refine za1 ?_
      refine c_seq ?_
      refine c_true (congrArg Value.bool hr6.lt) ?_
      refine zan ?_
      refine za1 ?_
      refine c_seq ?_
      refine zaj ?_
      refine c_seq ?_
      refine za0 ?_
      refine o_q rfl rfl (za2 rfl) ?_
      refine o_q rfl rfl (q_asg rfl) ?_
      refine o_end ?_
      refine za1 ?_
      refine c_seq ?_
      refine a_start (ds := []) MO rfl ?_
      refine za5 0 rfl rfl rfl (by kernel_rfl) (fun _ _ _ h => h) (za2 rfl) ?_
      refine za5 1 rfl rfl rfl (by kernel_rfl) (fun _ _ _ h => h) (za2 rfl) ?_
      refine a_fact (p := Sh A0 l0.length l0.length) (fun w h => f_sh (dk := (Kd.int .i64)) h (fun w h => R0.now Z h)) (fun hq13 => ?_)
      refine za5 2 rfl rfl rfl (by kernel_rfl) (fun _ _ _ h => h) (q_ix Try.underlying25 Z3 rfl rfl hq13 hr6.get) ?_
      refine zat 3 rfl rfl rfl (by kernel_rfl) (fun _ _ _ h => h) (fun w h => h) (q_lde (off := 0) Y3 rfl rfl (fun w h => R0.now Z h) hr6.get (fun _ _ h => h) rfl) ?_
      refine za5 4 rfl rfl rfl (by kernel_rfl) (fun _ _ _ h => h) (za2 rfl) ?_
      refine za5 5 rfl rfl rfl (by kernel_rfl) (fun _ _ _ h => h) (za2 rfl) ?_
      refine a_fact (p := Sh A1 l1.length l1.length) (fun w h => f_sh (dk := (Kd.int .i64)) h (fun w h => R1.now Z h)) (fun hq14 => ?_)
      refine zaa h (fun y16 hg15 h => ?_) rfl
      refine za5 6 rfl rfl rfl (by kernel_rfl) (fun _ _ _ h => h) (q_ix Try.underlying25 Z3 rfl rfl hq14 hg15) ?_
      refine zat 7 rfl rfl rfl (by kernel_rfl) (fun _ _ _ h => h) (fun w h => h) (q_lde (off := 0) Y3 rfl rfl (fun w h => R1.now Z h) hg15 (fun _ _ h => h) rfl) ?_
      refine za5 8 rfl rfl rfl (by kernel_rfl) (fun _ _ _ h => h) (q_neq rfl rfl) ?_
      refine zav (by kernel_rfl) ?_
      refine za1 ?_
      refine zau _ rfl (fun hb17 => ?_) (fun hb17 => ?_)
      · skip
        replace h := br_t hb17 h
        refine c_seq ?_
        refine za0 ?_
        refine o_q rfl rfl (q_asg rfl) ?_
        refine o_end ?_
        refine za1 ?_
        refine c_ret ?_
        refine zam ?_
        refine za9 ?_
        refine za9 ?_
        have e_ := Option.some.inj h; replace h := hR8; rw [← e_] at h; clear e_
        refine zam ?_
        refine za9 ?_
        have e0_ := Option.some.inj h; clear h
        subst e0_
        exact x_r1 () Try.results144 (zaf rfl) rfl (fun w h => za8 [] (by decide) rfl w h)
      · skip
        replace h := br_f hb17 h
        refine zan ?_
        refine zal ?_
        refine za1 ?_
        refine za0 ?_
        refine o_q rfl rfl (q_up rfl rfl (hr6.up hm7)) ?_
        refine o_q rfl rfl (za2 rfl) ?_
        refine o_end ?_
        refine zak ys4.length (ys4, i2 + 1) (by rw [← hk12]; exact Nat.lt_succ_self _) ⟨hr6.step, rfl, h⟩ ⟨rfl, trivial⟩ (fun w h => za8 [] (by decide) rfl w h) ?_
        repeat (first | exact zad _ _ | refine zah rfl ?_ | refine zae rfl ?_ | refine zai rfl ?_)

/-! ### (*loop.example/g01098/impl.Plan).firstSame$1: function 192 -/
def impl_Plan_firstSame_1.f (l0 : List Int) (l1_0 : List Int) : Option Bool := (slices_Equal_int_int.f l1_0 l0).bind fun b2 => some b2
set_option maxHeartbeats 600000 in
set_option maxRecDepth 100000 in
theorem impl_Plan_firstSame_1.calls {w0 ws : World} {P0 : Nat → Prop} (A0 : Option Addr) (c0 : Nat) (n0 : Nat) (l0 : List Int) (g1 : Nat) (A1_0 : Option Addr) (c1_0 : Nat) (n1_0 : Nat) (l1_0 : List Int) (Z : Below w0.heap.size w0 ws) (hF : Fr w0 ws P0 [] ws) (R0 : Stable ws P0 (fun w => Kd.C (Kd.int .i64) w A0 n0 l0)) (hc0 : n0 ≤ c0) (R1_0 : Stable ws P0 (fun w => Kd.C (Kd.int .i64) w A1_0 n1_0 l1_0)) (hc1_0 : n1_0 ≤ c1_0) (B1 : Stable ws P0 (fun w => w.heap[g1]? = some (.cells #[.slice A1_0 n1_0 c1_0] 25 (0, 0)))) (r_1 : Bool) (h : impl_Plan_firstSame_1.f l0 l1_0 = some r_1) :
    Calls Try.prog 192 #[.slice A0 n0 c0, .pointer (some ⟨g1, 0, none⟩)] ws (Post1 w0 ws P0 (fun (_ : Unit) => .bool r_1) (fun (_ : Unit) => [])) := by
  unfold impl_Plan_firstSame_1.f at h
  obtain rfl := (R0 ws (KeptB.refl _ _)).1
  obtain rfl := (R1_0 ws (KeptB.refl _ _)).1
  refine enter Try.func192 rfl Try.ntmps192 rfl hF ?_
  refine c_seq ?_
  refine za0 ?_
  refine o_q rfl rfl (q_asg rfl) ?_
  refine o_end ?_
  refine za1 ?_
  refine c_seq ?_
  refine za0 ?_
  refine o_q rfl rfl (q_ldb Y25 rfl (fun w h => B1.now Z h) rfl) ?_
  refine o_q rfl rfl (za2 rfl) ?_
  refine zaa h (fun b2 hx1 h => ?_) rfl
  refine o_e rfl (zac 0 Z Try.func144 N144 rfl rfl rfl (fun w P1 hF hB hS hT => slices_Equal_int_int.calls A1_0 c1_0 l1_0.length l1_0 A0 c0 l0.length l0 hB hF (hS _ R1_0) hc1_0 (hS _ R0) hc0 _ hx1)) (fun _ => ?_)
  refine o_q rfl rfl (q_asg rfl) ?_
  refine o_end ?_
  refine za1 ?_
  refine c_ret ?_
  have e0_ := Option.some.inj h; clear h
  subst e0_
  exact x_r1 () Try.results192 (zaf rfl) rfl (fun w h => za8 [] (by decide) rfl w h)

/-! ### slices.IndexFunc[[][]int,[]int]: function 191 -/
def slices_IndexFunc_int_int_3.l0 (l1_c0_0 : List Int) : (List (List Int)) → Int → Option ((Int) ⊕ (Unit))
  | [], i1 => some (.inr ())
  | y2 :: ys3, i1 => (impl_Plan_firstSame_1.f y2 l1_c0_0).bind fun b15 => if b15 = true then (some (.inl i1)) else (slices_IndexFunc_int_int_3.l0 l1_c0_0 ys3 (i1 + 1))
def slices_IndexFunc_int_int_3.f (l0 : List (List Int)) (l1_c0_0 : List Int) : Option Int := (slices_IndexFunc_int_int_3.l0 l1_c0_0 l0 0).bind fun o_ => match o_ with | .inl r_ => some r_ | .inr _ => some (-1)
set_option maxHeartbeats 600000 in
set_option maxRecDepth 100000 in
theorem slices_IndexFunc_int_int_3.calls {w0 ws : World} {P0 : Nat → Prop} (A0 : Option Addr) (c0 : Nat) (n0 : Nat) (H0 : Hd) (l0 : List (List Int)) (g1_c0 : Nat) (A1_c0_0 : Option Addr) (c1_c0_0 : Nat) (n1_c0_0 : Nat) (l1_c0_0 : List Int) (Z : Below w0.heap.size w0 ws) (hF : Fr w0 ws P0 [] ws) (R0 : Stable ws P0 (fun w => Kd.C (gk 3 (Kd.int .i64)) w A0 n0 (zp H0 l0))) (hc0 : n0 ≤ c0) (R1_c0_0 : Stable ws P0 (fun w => Kd.C (Kd.int .i64) w A1_c0_0 n1_c0_0 l1_c0_0)) (hc1_c0_0 : n1_c0_0 ≤ c1_c0_0) (B1_c0 : Stable ws P0 (fun w => w.heap[g1_c0]? = some (.cells #[.slice A1_c0_0 n1_c0_0 c1_c0_0] 25 (0, 0)))) (r_1 : Int) (h : slices_IndexFunc_int_int_3.f l0 l1_c0_0 = some r_1) :
    Calls Try.prog 191 #[.slice A0 n0 c0, .func (.func 192) #[] #[.pointer (some ⟨g1_c0, 0, none⟩)]] ws (Post1 w0 ws P0 (fun (_ : Unit) => .int .i64 r_1) (fun (_ : Unit) => [])) := by
  unfold slices_IndexFunc_int_int_3.f at h
  obtain rfl := (zp_len _ _).symm.trans (R0 ws (KeptB.refl _ _)).1
  obtain rfl := (R1_c0_0 ws (KeptB.refl _ _)).1
  refine enter Try.func191 rfl Try.ntmps191 rfl hF ?_
  refine c_seq ?_
  refine za0 ?_
  refine o_q rfl rfl (q_asg rfl) ?_
  refine o_end ?_
  refine za1 ?_
  refine c_seq ?_
  refine c_seq ?_
  refine za0 ?_
  refine o_q rfl rfl (za2 rfl) ?_
  refine o_q rfl rfl (q_len Try.underlying60 rfl) ?_
  refine o_q rfl rfl (za2 rfl) ?_
  refine o_end ?_
  refine za1 ?_
  refine zaj ?_
  refine zaa h (fun o9 hl8 hR7 => ?_) rfl
  clear h
  refine c_fact (p := l0.length ≤ 9223372036854775807) (fun w h => (R0.now Z h).2.1) (fun hm6 => ?_)
  refine zaw (σ := (List (List Int)) × Int) (fun k4 ((ys3, i1) : (List (List Int)) × Int) => Rg l0 i1 ys3 ∧ ys3.length = k4 ∧ slices_IndexFunc_int_int_3.l0 l1_c0_0 ys3 i1 = some o9) [4, 5, 8, 9, 10, 11, 12, 13, 14, 15, 16, 17, 18] (fun ((ys3, i1) : (List (List Int)) × Int) => [(8, .int .i64 i1)]) (fun ((ys3, i1) : (List (List Int)) × Int) => []) l0.length (l0, 0) ⟨Rg.start _, rfl, hl8⟩ ⟨rfl, trivial⟩ (fun w h => h) ?_
  refine fun k4 => cur2 (listC (fun i1 U10 hJ_ => ?_) (fun y2 ys3 i1 U10 hJ_ => ?_))
  · skip
    clear hl8
    have hr5 := hJ_.1; have hk11 := hJ_.2.1; have h := hJ_.2.2; clear hJ_
    replace h : slices_IndexFunc_int_int_3.l0 l1_c0_0 [] i1 = some o9 := h
    rw [slices_IndexFunc_int_int_3.l0] at h
    refine c_seq ?_
    refine za0 ?_
    refine o_q rfl rfl (q_lss rfl rfl) ?_
    refine o_end ?_
    refine za1 ?_
    refine c_seq ?_
    refine c_false (congrArg Value.bool hr5.ge) ?_
    refine c_exit ?_
    refine za6 ?_
    refine za6 ?_
    have e_ := Option.some.inj h; replace h := hR7; rw [← e_] at h; clear e_
    refine x_hit ?_
    refine za1 ?_
    refine c_seq ?_
    refine za0 ?_
    refine o_q rfl rfl (q_asg rfl) ?_
    refine o_end ?_
    refine za1 ?_
    refine c_ret ?_
    have e0_ := Option.some.inj h; clear h
    subst e0_
    exact x_r1 () Try.results191 (zaf rfl) rfl (fun w h => za8 [] (by decide) rfl w h)
  · skip
    clear hl8
    have hr5 := hJ_.1; have hk11 := hJ_.2.1; have h := hJ_.2.2; clear hJ_
    replace h : slices_IndexFunc_int_int_3.l0 l1_c0_0 (y2 :: ys3) i1 = some o9 := h
    rw [slices_IndexFunc_int_int_3.l0] at h
    refine c_seq ?_
    refine za0 ?_
    refine o_q rfl rfl (q_lss rfl rfl) ?_
    refine o_end ?_
    refine za1 ?_
    refine c_seq ?_
    refine c_true (congrArg Value.bool hr5.lt) ?_
    refine zan ?_
    refine za1 ?_
    refine c_seq ?_
    refine zaj ?_
    refine c_seq ?_
    refine za0 ?_
    refine o_q rfl rfl (za2 rfl) ?_
    refine o_q rfl rfl (q_asg rfl) ?_
    refine o_end ?_
    refine za1 ?_
    refine c_seq ?_
    refine za0 ?_
    refine o_q rfl rfl (za2 rfl) ?_
    refine o_q rfl rfl (za2 rfl) ?_
    refine o_q rfl rfl (za2 rfl) ?_
    refine zaz (p := Sh A0 l0.length (zp H0 l0).length) (fun w h => f_sh (dk := (gk 3 (Kd.int .i64))) h (fun w h => R0.now Z h)) (fun hq12 => ?_)
    refine o_q rfl rfl (q_ix Try.underlying60 Z25 rfl rfl hq12 (gt_zp hr5.get)) ?_
    refine zaz (p := y2.length ≤ hC H0 i1) (fun w h => (K_in (R0.now Z h) hr5.get).1) (fun hc13 => ?_)
    refine o_q rfl rfl (q_lde (off := 0) Y25 rfl rfl (fun w h => R0.now Z h) (gt_zp hr5.get) (fun _ _ h => h.1) rfl) ?_
    refine zaa h (fun b15 hx14 h => ?_) rfl
    refine o_e rfl (zac 0 Z Try.func192 N192 rfl rfl rfl (fun w P1 hF hB hS hT => impl_Plan_firstSame_1.calls (hA H0 i1) (hC H0 i1) y2.length y2 g1_c0 A1_c0_0 c1_c0_0 l1_c0_0.length l1_c0_0 hB hF (stab_in (hS _ R0) hr5.get) hc13 (hS _ R1_c0_0) hc1_c0_0 (hS _ B1_c0) _ hx14)) (fun _ => ?_)
    refine o_end ?_
    refine za1 ?_
    refine zau _ rfl (fun hb16 => ?_) (fun hb16 => ?_)
    · skip
      replace h := bb_t hb16 h
      refine c_seq ?_
      refine za0 ?_
      refine o_q rfl rfl (za2 rfl) ?_
      refine o_q rfl rfl (q_asg rfl) ?_
      refine o_end ?_
      refine za1 ?_
      refine c_ret ?_
      refine zam ?_
      refine za9 ?_
      refine za9 ?_
      have e_ := Option.some.inj h; replace h := hR7; rw [← e_] at h; clear e_
      refine zam ?_
      refine za9 ?_
      have e0_ := Option.some.inj h; clear h
      subst e0_
      exact x_r1 () Try.results191 (zaf rfl) rfl (fun w h => za8 [] (by decide) rfl w h)
    · skip
      replace h := bb_f hb16 h
      refine zan ?_
      refine zal ?_
      refine za1 ?_
      refine za0 ?_
      refine o_q rfl rfl (q_up rfl rfl (hr5.up hm6)) ?_
      refine o_q rfl rfl (za2 rfl) ?_
      refine o_end ?_
      refine zak ys3.length (ys3, i1 + 1) (by rw [← hk11]; exact Nat.lt_succ_self _) ⟨hr5.step, rfl, h⟩ ⟨rfl, trivial⟩ (fun w h => za8 [] (by decide) rfl w h) ?_
      repeat (first | exact zad _ _ | refine zah rfl ?_ | refine zae rfl ?_ | refine zai rfl ?_)

/-! ### (*loop.example/g01098/impl.Plan).firstSame: function 115 -/
def impl_Plan_firstSame.l0 (l2 : List (List Int)) : (List (List Int)) → (List Int) → Int → Option (List Int)
  | [], l9, i12 => some l9
  | y13 :: ys14, l9, i12 => (slices_IndexFunc_int_int_3.f l2 y13).bind fun i28 => (ap l9 ([i28] : List Int)).bind fun l32 => impl_Plan_firstSame.l0 l2 ys14 l32 (i12 + 1)
def impl_Plan_firstSame.f (a0_0 : Int) (l0_1 : List SStep) (l0_2 : List Int) : Option (List Int) := (impl_Plan_exponents.f a0_0 l0_1 l0_2).bind fun l2 => (impl_Plan_firstSame.l0 l2 l2 ([] : List Int) 0).bind fun l9 => some l9
set_option maxHeartbeats 600000 in
set_option maxRecDepth 100000 in
theorem impl_Plan_firstSame.calls {w0 ws : World} {P0 : Nat → Prop} (g0 : Nat) (a0_0 : Int) (A0_1 : Option Addr) (c0_1 : Nat) (n0_1 : Nat) (l0_1 : List SStep) (A0_2 : Option Addr) (c0_2 : Nat) (n0_2 : Nat) (l0_2 : List Int) (Z : Below w0.heap.size w0 ws) (hF : Fr w0 ws P0 [] ws) (R0_1 : Stable ws P0 (fun w => Kd.C kStep w A0_1 n0_1 l0_1)) (hc0_1 : n0_1 ≤ c0_1) (R0_2 : Stable ws P0 (fun w => Kd.C (Kd.int .i64) w A0_2 n0_2 l0_2)) (hc0_2 : n0_2 ≤ c0_2) (B0 : Stable ws P0 (fun w => w.heap[g0]? = some (.cells #[.int .i64 a0_0, .slice A0_1 n0_1 c0_1, .slice A0_2 n0_2 c0_2] 27 (0, 0)))) (r_1 : List Int) (h : impl_Plan_firstSame.f a0_0 l0_1 l0_2 = some r_1) :
    Calls Try.prog 115 #[.pointer (some ⟨g0, 0, none⟩)] ws (Post1 w0 ws P0 (fun ((q_2, q_3) : (Option Addr) × Nat) => .slice q_2 r_1.length q_3) (fun ((q_2, q_3) : (Option Addr) × Nat) => [row (Kd.int .i64) 3 (.slice q_2 r_1.length q_3) r_1])) := by
  unfold impl_Plan_firstSame.f at h
  obtain rfl := (R0_1 ws (KeptB.refl _ _)).1
  obtain rfl := (R0_2 ws (KeptB.refl _ _)).1
  refine enter Try.func115 rfl Try.ntmps115 rfl hF ?_
  refine c_seq ?_
  refine za0 ?_
  refine o_q rfl rfl (q_asg rfl) ?_
  refine o_end ?_
  refine za1 ?_
  refine c_seq ?_
  refine za0 ?_
  refine o_q rfl rfl (za2 rfl) ?_
  refine zaa h (fun l2 hx1 h => ?_) rfl
  refine o_e rfl (zac 0 Z Try.func120 N120 rfl rfl rfl (fun w P1 hF hB hS hT => impl_Plan_exponents.calls g0 a0_0 A0_1 c0_1 l0_1.length l0_1 A0_2 c0_2 l0_2.length l0_2 hB hF (hS _ R0_1) hc0_1 (hS _ R0_2) hc0_2 (hS _ B0) _ hx1)) (cur3 (fun A3 c4 H5 => ?_))
  refine o_e rfl (e_lit0 (Kd.int .i64) Try.underlying25 I3) (cur2 (fun A6 c7 => ?_))
  refine o_q rfl rfl (q_asg rfl) ?_
  refine o_q rfl rfl (q_asg rfl) ?_
  refine o_end ?_
  refine za1 ?_
  refine c_seq ?_
  refine c_seq ?_
  refine za0 ?_
  refine o_q rfl rfl (za2 rfl) ?_
  refine o_q rfl rfl (q_len Try.underlying60 rfl) ?_
  refine o_q rfl rfl (za2 rfl) ?_
  refine o_end ?_
  refine za1 ?_
  refine zaj ?_
  refine zaa h (fun o20 hl19 hR18 => ?_) rfl
  clear h
  refine c_fact (p := l2.length ≤ 9223372036854775807) (fun w h => (h.zas (i := 1) rfl).2.1) (fun hm17 => ?_)
  refine zaw (σ := (List (List Int)) × (List Int) × Int × (Option Addr) × Nat) (fun k15 ((ys14, l9, i12, A10, c11) : (List (List Int)) × (List Int) × Int × (Option Addr) × Nat) => Rg l2 i12 ys14 ∧ ys14.length = k15 ∧ impl_Plan_firstSame.l0 l2 ys14 l9 i12 = some o20) [4, 6, 12, 13, 14, 15, 16, 17, 18, 19, 20, 21, 22] (fun ((ys14, l9, i12, A10, c11) : (List (List Int)) × (List Int) × Int × (Option Addr) × Nat) => [(4, .slice A10 l9.length c11), (12, .int .i64 i12)]) (fun ((ys14, l9, i12, A10, c11) : (List (List Int)) × (List Int) × Int × (Option Addr) × Nat) => [row (Kd.int .i64) 3 (.slice A10 l9.length c11) l9, row (gk 3 (Kd.int .i64)) 25 (.slice A3 l2.length c4) (zp H5 l2)]) l2.length (l2, ([] : List Int), 0, A6, c7) ⟨Rg.start _, rfl, hl19⟩ ⟨rfl, rfl, trivial⟩ (fun w h => h) ?_
  refine fun k15 => cur5 (listC (fun l9 i12 A10 c11 U21 hJ_ => ?_) (fun y13 ys14 l9 i12 A10 c11 U21 hJ_ => ?_))
  · skip
    clear hl19
    have hr16 := hJ_.1; have hk22 := hJ_.2.1; have h := hJ_.2.2; clear hJ_
    replace h : impl_Plan_firstSame.l0 l2 [] l9 i12 = some o20 := h
    rw [impl_Plan_firstSame.l0] at h
    refine c_seq ?_
    refine za0 ?_
    refine o_q rfl rfl (q_lss rfl rfl) ?_
    refine o_end ?_
    refine za1 ?_
    refine c_seq ?_
    refine c_false (congrArg Value.bool hr16.ge) ?_
    refine c_exit ?_
    refine za6 ?_
    refine za6 ?_
    have e_ := Option.some.inj h; replace h := hR18; rw [← e_] at h; clear e_
    refine x_hit ?_
    refine za1 ?_
    refine c_seq ?_
    refine za0 ?_
    refine o_q rfl rfl (za2 rfl) ?_
    refine o_q rfl rfl (q_asg rfl) ?_
    refine o_end ?_
    refine za1 ?_
    refine c_ret ?_
    have e0_ := Option.some.inj h; clear h
    subst e0_
    exact x_r1 (A10, c11) Try.results115 (zaf rfl) rfl (fun w h => za8 [0] (by decide) rfl w h)
  · skip
    clear hl19
    have hr16 := hJ_.1; have hk22 := hJ_.2.1; have h := hJ_.2.2; clear hJ_
    replace h : impl_Plan_firstSame.l0 l2 (y13 :: ys14) l9 i12 = some o20 := h
    rw [impl_Plan_firstSame.l0] at h
    refine c_seq ?_
    refine za0 ?_
    refine o_q rfl rfl (q_lss rfl rfl) ?_
    refine o_end ?_
    refine za1 ?_
    refine c_seq ?_
    refine c_true (congrArg Value.bool hr16.lt) ?_
    refine zan ?_
    refine za1 ?_
    refine c_seq ?_
    refine zaj ?_
    refine c_seq ?_
    refine za0 ?_
    refine zaz (p := Sh A3 l2.length (zp H5 l2).length) (fun w h => f_sh (dk := (gk 3 (Kd.int .i64))) h (fun w h => h.zas (i := 1) rfl)) (fun hq23 => ?_)
    refine o_q rfl rfl (q_ix Try.underlying60 Z25 rfl rfl hq23 (gt_zp hr16.get)) ?_
    refine zaz (p := y13.length ≤ hC H5 i12) (fun w h => (K_in (h.zas (i := 1) rfl) hr16.get).1) (fun hc24 => ?_)
    refine o_q rfl rfl (q_lde (off := 0) Y25 rfl rfl (fun w h => h.zas (i := 1) rfl) (gt_zp hr16.get) (fun _ _ h => h.1) rfl) ?_
    refine o_e rfl (e_alloc V25 rfl) (fun g25 => ?_)
    refine o_e rfl (zay (i := 0) rfl rfl rfl rfl Z25 rfl rfl) (fun _ => ?_)
    refine o_end ?_
    refine za1 ?_
    refine za0 ?_
    refine o_q rfl rfl (za2 rfl) ?_
    refine o_q rfl rfl (za2 rfl) ?_
    refine o_q rfl rfl (q_func rfl rfl) ?_
    refine zaa h (fun i28 hx27 h => ?_) rfl
    refine o_e rfl (zac 0 Z Try.func191 N191 rfl rfl rfl (fun w P1 hF hB hS hT => slices_IndexFunc_int_int_3.calls A3 c4 l2.length H5 l2 g25 (hA H5 i12) (hC H5 i12) y13.length y13 hB hF (hT 2 _ rfl).row (hT 2 _ rfl).cap (stab_in (hT 2 _ rfl).row hr16.get) hc24 (hT 0 _ rfl).box _ hx27)) (fun _ => ?_)
    refine o_e rfl (e_lit (vs := [(0, .int .i64 i28)]) (cs := [.int .i64 i28]) (Kd.int .i64) ([i28] : List Int) Try.underlying25 I3 (by decide) rfl (by decide) rfl rfl (fun _ _ => Kd.zao _)) (cur2 (fun A29 c30 => ?_))
    refine zaa h (fun l32 ha33 h => ?_) rfl
    refine o_e rfl (e_app (i := 2) (j := 0) Try.underlying25 I3 rfl (by decide) (by decide) rfl rfl rfl rfl rfl ha33) (cur2 (fun A34 c35 => ?_))
    refine o_q rfl rfl (q_asg rfl) ?_
    refine o_end ?_
    refine zal ?_
    refine za1 ?_
    refine za0 ?_
    refine o_q rfl rfl (q_up rfl rfl (hr16.up hm17)) ?_
    refine o_q rfl rfl (za2 rfl) ?_
    refine o_end ?_
    refine zak ys14.length (ys14, l32, i12 + 1, A34, c35) (by rw [← hk22]; exact Nat.lt_succ_self _) ⟨hr16.step, rfl, h⟩ ⟨rfl, rfl, trivial⟩ (fun w h => za8 [2, 3] (by decide) rfl w h) ?_
    repeat (first | exact zad _ _ | refine zah rfl ?_ | refine zae rfl ?_ | refine zai rfl ?_)

/-! ### loop.example/g01098/impl.renamed: function 92 -/
def impl_renamed.l0 (l1 : List Int) : (List Int) → (List Int) → Int → Option (List Int)
  | [], l5, i8 => some l5
  | y9 :: ys10, l5, i8 => (gt l1 y9).bind fun y22 => (ap l5 ([y22] : List Int)).bind fun l26 => impl_renamed.l0 l1 ys10 l26 (i8 + 1)
def impl_renamed.f (l0 : List Int) (l1 : List Int) : Option (List Int) := (impl_renamed.l0 l1 l0 ([] : List Int) 0).bind fun l5 => some l5
set_option maxHeartbeats 600000 in
set_option maxRecDepth 100000 in
theorem impl_renamed.calls {w0 ws : World} {P0 : Nat → Prop} (A0 : Option Addr) (c0 : Nat) (n0 : Nat) (l0 : List Int) (A1 : Option Addr) (c1 : Nat) (n1 : Nat) (l1 : List Int) (Z : Below w0.heap.size w0 ws) (hF : Fr w0 ws P0 [] ws) (R0 : Stable ws P0 (fun w => Kd.C (Kd.int .i64) w A0 n0 l0)) (hc0 : n0 ≤ c0) (R1 : Stable ws P0 (fun w => Kd.C (Kd.int .i64) w A1 n1 l1)) (hc1 : n1 ≤ c1) (r_1 : List Int) (h : impl_renamed.f l0 l1 = some r_1) :
    Calls Try.prog 92 #[.slice A0 n0 c0, .slice A1 n1 c1] ws (Post1 w0 ws P0 (fun ((q_2, q_3) : (Option Addr) × Nat) => .slice q_2 r_1.length q_3) (fun ((q_2, q_3) : (Option Addr) × Nat) => [row (Kd.int .i64) 3 (.slice q_2 r_1.length q_3) r_1])) := by
  unfold impl_renamed.f at h
  obtain rfl := (R0 ws (KeptB.refl _ _)).1
  obtain rfl := (R1 ws (KeptB.refl _ _)).1
  refine enter Try.func92 rfl Try.ntmps92 rfl hF ?_
  refine c_seq ?_
  refine za0 ?_
  refine o_q rfl rfl (q_asg rfl) ?_
  refine o_end ?_
  refine za1 ?_
  refine c_seq ?_
  refine za0 ?_
  refine o_e rfl (e_lit0 (Kd.int .i64) Try.underlying25 I3) (cur2 (fun A2 c3 => ?_))
  refine o_q rfl rfl (q_asg rfl) ?_
  refine o_end ?_
  refine za1 ?_
  refine c_seq ?_
  refine c_seq ?_
  refine za0 ?_
  refine o_q rfl rfl (za2 rfl) ?_
  refine o_q rfl rfl (q_len Try.underlying25 rfl) ?_
  refine o_q rfl rfl (za2 rfl) ?_
  refine o_end ?_
  refine za1 ?_
  refine zaj ?_
  refine zaa h (fun o16 hl15 hR14 => ?_) rfl
  clear h
  refine c_fact (p := l0.length ≤ 9223372036854775807) (fun w h => (R0.now Z h).2.1) (fun hm13 => ?_)
  refine zaw (σ := (List Int) × (List Int) × Int × (Option Addr) × Nat) (fun k11 ((ys10, l5, i8, A6, c7) : (List Int) × (List Int) × Int × (Option Addr) × Nat) => Rg l0 i8 ys10 ∧ ys10.length = k11 ∧ impl_renamed.l0 l1 ys10 l5 i8 = some o16) [5, 7, 11, 12, 13, 14, 15, 16, 17, 18, 19, 20, 21, 22] (fun ((ys10, l5, i8, A6, c7) : (List Int) × (List Int) × Int × (Option Addr) × Nat) => [(5, .slice A6 l5.length c7), (11, .int .i64 i8)]) (fun ((ys10, l5, i8, A6, c7) : (List Int) × (List Int) × Int × (Option Addr) × Nat) => [row (Kd.int .i64) 3 (.slice A6 l5.length c7) l5]) l0.length (l0, ([] : List Int), 0, A2, c3) ⟨Rg.start _, rfl, hl15⟩ ⟨rfl, rfl, trivial⟩ (fun w h => h) ?_
  refine fun k11 => cur5 (listC (fun l5 i8 A6 c7 U17 hJ_ => ?_) (fun y9 ys10 l5 i8 A6 c7 U17 hJ_ => ?_))
  · skip
    clear hl15
    have hr12 := hJ_.1; have hk18 := hJ_.2.1; have h := hJ_.2.2; clear hJ_
    replace h : impl_renamed.l0 l1 [] l5 i8 = some o16 := h
    rw [impl_renamed.l0] at h
    refine c_seq ?_
    refine za0 ?_
    refine o_q rfl rfl (q_lss rfl rfl) ?_
    refine o_end ?_
    refine za1 ?_
    refine c_seq ?_
    refine c_false (congrArg Value.bool hr12.ge) ?_
    refine c_exit ?_
    refine za6 ?_
    refine za6 ?_
    have e_ := Option.some.inj h; replace h := hR14; rw [← e_] at h; clear e_
    refine x_hit ?_
    refine za1 ?_
    refine c_seq ?_
    refine za0 ?_
    refine o_q rfl rfl (za2 rfl) ?_
    refine o_q rfl rfl (q_asg rfl) ?_
    refine o_end ?_
    refine za1 ?_
    refine c_ret ?_
    have e0_ := Option.some.inj h; clear h
    subst e0_
    exact x_r1 (A6, c7) Try.results92 (zaf rfl) rfl (fun w h => za8 [0] (by decide) rfl w h)
  · skip
    clear hl15
    have hr12 := hJ_.1; have hk18 := hJ_.2.1; have h := hJ_.2.2; clear hJ_
    replace h : impl_renamed.l0 l1 (y9 :: ys10) l5 i8 = some o16 := h
    rw [impl_renamed.l0] at h
    refine c_seq ?_
    refine za0 ?_
    refine o_q rfl rfl (q_lss rfl rfl) ?_
    refine o_end ?_
    refine za1 ?_
    refine c_seq ?_
    refine c_true (congrArg Value.bool hr12.lt) ?_
    refine zan ?_
    refine za1 ?_
    refine c_seq ?_
    refine zaj ?_
    refine c_seq ?_
    refine za0 ?_
    refine zaz (p := Sh A0 l0.length l0.length) (fun w h => f_sh (dk := (Kd.int .i64)) h (fun w h => R0.now Z h)) (fun hq19 => ?_)
    refine o_q rfl rfl (q_ix Try.underlying25 Z3 rfl rfl hq19 hr12.get) ?_
    refine o_q rfl rfl (q_lde (off := 0) Y3 rfl rfl (fun w h => R0.now Z h) hr12.get (fun _ _ h => h) rfl) ?_
    refine o_q rfl rfl (q_asg rfl) ?_
    refine o_end ?_
    refine za1 ?_
    refine za0 ?_
    refine o_q rfl rfl (za2 rfl) ?_
    refine o_q rfl rfl (za2 rfl) ?_
    refine o_q rfl rfl (za2 rfl) ?_
    refine zaz (p := Sh A1 l1.length l1.length) (fun w h => f_sh (dk := (Kd.int .i64)) h (fun w h => R1.now Z h)) (fun hq20 => ?_)
    refine zaa h (fun y22 hg21 h => ?_) rfl
    refine o_q rfl rfl (q_ix Try.underlying25 Z3 rfl rfl hq20 hg21) ?_
    refine o_q rfl rfl (q_lde (off := 0) Y3 rfl rfl (fun w h => R1.now Z h) hg21 (fun _ _ h => h) rfl) ?_
    refine o_e rfl (e_lit (vs := [(0, .int .i64 y22)]) (cs := [.int .i64 y22]) (Kd.int .i64) ([y22] : List Int) Try.underlying25 I3 (by decide) rfl (by decide) rfl rfl (fun _ _ => Kd.zao _)) (cur2 (fun A23 c24 => ?_))
    refine zaa h (fun l26 ha27 h => ?_) rfl
    refine o_e rfl (e_app (i := 1) (j := 0) Try.underlying25 I3 rfl (by decide) (by decide) rfl rfl rfl rfl rfl ha27) (cur2 (fun A28 c29 => ?_))
    refine o_q rfl rfl (q_asg rfl) ?_
    refine o_end ?_
    refine zal ?_
    refine za1 ?_
    refine za0 ?_
    refine o_q rfl rfl (q_up rfl rfl (hr12.up hm13)) ?_
    refine o_q rfl rfl (za2 rfl) ?_
    refine o_end ?_
    refine zak ys10.length (ys10, l26, i8 + 1, A28, c29) (by rw [← hk18]; exact Nat.lt_succ_self _) ⟨hr12.step, rfl, h⟩ ⟨rfl, rfl, trivial⟩ (fun w h => za8 [1] (by decide) rfl w h) ?_
    repeat (first | exact zad _ _ | refine zah rfl ?_ | refine zae rfl ?_ | refine zai rfl ?_)

/-! ### loop.example/g01098/impl.step: function 91 -/
def impl_step.f (a0 : Int) (a1 : Int) : Option Unit := some ()
set_option maxHeartbeats 600000 in
set_option maxRecDepth 100000 in
theorem impl_step.calls {w0 ws : World} {P0 : Nat → Prop} (a0 : Int) (a1 : Int) (Z : Below w0.heap.size w0 ws) (hF : Fr w0 ws P0 [] ws)   (h : impl_step.f a0 a1 = some ()) :
    Calls Try.prog 91 #[.int .i64 a0, .int .i64 a1] ws (Post1 w0 ws P0 (fun (_ : Unit) => .agg #[.int .i64 (mn a0 a1), .int .i64 (mx a0 a1)]) (fun (_ : Unit) => [])) := by
  unfold impl_step.f at h
  refine enter Try.func91 rfl Try.ntmps91 rfl hF ?_
  refine c_seq ?_
  refine za0 ?_
  refine o_e rfl (e_alloc V89 rfl) (fun g1 => ?_)
  refine o_end ?_
  refine za1 ?_
  refine c_seq ?_
  refine za0 ?_
  refine o_q rfl rfl (za2 rfl) ?_
  refine o_q rfl rfl (za2 rfl) ?_
  refine o_q rfl rfl (q_min rfl rfl) ?_
  refine o_q rfl rfl (za2 rfl) ?_
  refine o_q rfl rfl (za2 rfl) ?_
  refine o_q rfl rfl (q_max rfl rfl) ?_
  refine o_q rfl rfl (q_build (vs := [(0, .int .i64 (mn a0 a1)), (1, .int .i64 (mx a0 a1))]) (cs := [.int .i64 (mn a0 a1), .int .i64 (mx a0 a1)]) rfl rfl) ?_
  refine o_e rfl (zax (i := 0) rfl rfl rfl Z89 rfl rfl) (fun _ => ?_)
  refine o_end ?_
  refine za1 ?_
  refine c_ret ?_
  exact x_r1 () Try.results91 (rv_cell rfl G89 Z89 (fun w h => h.zab (i := 0) rfl) rfl) rfl (fun w h => za8 [] (by decide) rfl w h)

/-! ### slices.Backward at []Step, by hand -/
set_option maxRecDepth 100000 in
theorem bk_Step {w : World} {P1 : Nat → Prop} (Bs : Nat) (A : Option Addr) (cap : Nat) (zs : List SStep) (hR : Stable w P1 (fun W => Kd.C kStep W A zs.length zs)) (hB : Stable w P1 (fun W => W.heap[Bs]? = some (.cells #[.slice A zs.length cap] 24 (0, 0)))) :
    SeqStopsK Fence.wide 2 Try.prog 222 #[.pointer (some ⟨Bs, 0, none⟩)] (fun x : BackT zs => #[Value.int .i64 x.1.1, .agg #[.int .i64 x.1.2.f0, .int .i64 x.1.2.f1]]) (KpS w P1) (fun ys => ys.map Subtype.val = bwL zs) (fun _ => True) zs.length w := by
  intro l J Jx W hW hJ hJx hY h0
  have hk0 : KeptB w W P1 := ⟨⟨hW.size, fun i hi _ => hW.block i hi⟩, hW.os, hW.tape, hW.output⟩
  have hlen : zs.length ≤ 9223372036854775807 := (hR w (KeptB.refl _ _)).2.1
  refine enterG (m := 19) Try.func222 rfl Try.ntmps222 rfl ?_
  refine wpIn_seq (wpIn_region_list ?_)
  refine g_q (fun c hc => by cases hc) rfl rfl (q_ldb (bt := 24) Y24 rfl (fun w' h' => by subst h'; exact hB _ hk0) rfl) ?_
  refine g_q (fun c hc => by cases hc) rfl rfl (q_len Try.underlying24 rfl) ?_
  refine g_q (fun c hc => by cases hc) rfl rfl (q_sub64 rfl rfl) ?_
  refine g_q (fun c hc => by cases hc) rfl rfl (q_asg rfl) ?_
  refine wpListIn_nil ?_
  refine wpIn_block ?_
  refine wpIn_loop_ghost (fun m a W' => ∃ (e : Nat → Value) (pre : List (BackT zs)), m ≤ zs.length ∧ a = act ⟨19, [], none⟩ e ∧ e 0 = .func (.yield l) #[] #[] ∧ e 1 = .pointer (some ⟨Bs, 0, none⟩) ∧ e 3 = .int .i64 ((m : Int) - 1) ∧ pre.map Subtype.val = (bwL zs).take (zs.length - m) ∧ J pre W' ∧ KeptB w W' P1) zs.length ⟨_, [], Nat.le_refl _, rfl, rfl, rfl, ?_, by simp, h0, hk0⟩ ?_
  · show Value.int .i64 (w64 ((zs.length : Int) - 1)) = _
    rw [w64_id (by omega)]
  rintro m a W' ⟨e, pre, hm, rfl, he0, he1, he3, hpre, hJp, hk⟩
  have hpl : pre.length = zs.length - m := by
    have := congrArg List.length hpre
    rw [List.length_map, List.length_take, bwL_len] at this
    omega
  refine wpIn_seq (wpIn_seq (wpIn_region_list ?_))
  refine g_q (fun c hc => by cases hc) rfl rfl (za2 he3) ?_
  refine g_q (fun c hc => by cases hc) rfl rfl (q_geq rfl rfl) ?_
  refine wpListIn_nil ?_
  cases m with
  | zero =>
    refine wpIn_cond_false rfl (wpIn_exit ?_)
    refine exth (exth (inblk ?_))
    refine ⟨rfl, _, results_none rfl _ _ _, ⟨_, rfl⟩, .inl ⟨pre, ?_, hJp⟩⟩
    show pre.map Subtype.val = _
    rw [hpre, Nat.sub_zero, List.take_of_length_le (by rw [bwL_len]; exact Nat.le_refl _)]
  | succ m =>
    refine wpIn_cond_true ?_ (wpIn_skip ?_)
    · rw [act_eval]
      show Value.bool (decide ((0 : Int) ≤ ((m + 1 : Nat) : Int) - 1)) = _
      rw [decide_eq_true (by omega)]
    refine wpIn_seq (wpIn_block (wpIn_seq (wpIn_region_list ?_)))
    have e3 : e 3 = .int .i64 (m : Int) := by rw [he3]; congr 1; omega
    have hml : m < zs.length := hm
    have hC := hR W' hk
    refine g_q (fun c hc => by cases hc) rfl rfl (za2 he0) ?_
    refine g_q (fun c hc => by cases hc) rfl rfl (za2 e3) ?_
    refine g_q (fun c hc => by cases hc) rfl rfl (q_ldb (bt := 24) Y24 he1 (fun w' h' => by subst h'; exact hB _ hk) rfl) ?_
    refine g_q (fun c hc => by cases hc) rfl rfl (za2 e3) ?_
    refine g_q (fun c hc => by cases hc) rfl rfl (q_ix (xs := zs) Try.underlying24 Z89 rfl rfl (C_sh hC) (gt_at hml)) ?_
    refine g_q (fun c hc => by cases hc) rfl rfl (q_ldE G89 Z89 rfl rfl (fun w' h' => by subst h'; exact hC) (gt_at hml) (fun _ _ h => h) rfl) ?_
    have hx : ∃ j : Nat, ((m : Int), zs[m]).1 = (j : Int) ∧ zs[j]? = some ((m : Int), zs[m]).2 := ⟨m, rfl, List.getElem?_eq_getElem hml⟩
    refine g_yield rfl rfl rfl rfl (hY pre ⟨((m : Int), zs[m]), hx⟩ W' hJp (by omega)) (fun e w' h => by rcases h with ⟨rfl, _⟩ | ⟨rfl, _⟩ <;> exact ⟨_, rfl⟩) ?_
    rintro v W3 (⟨hv, hJ3, hk3⟩ | ⟨hv, hJx3⟩)
    · obtain rfl := Ending.returned.inj hv
      refine g_q (fun c hc => by cases hc) rfl rfl (q_not rfl) ?_
      refine wpListIn_nil ?_
      refine wpIn_cond_false rfl (wpIn_skip ?_)
      refine wpIn_region_list ?_
      refine g_q (fun c hc => by cases hc) rfl rfl (za2 e3) ?_
      refine g_q (fun c hc => by cases hc) rfl rfl (q_sub64 rfl rfl) ?_
      refine g_q (fun c hc => by cases hc) rfl rfl (q_asg rfl) ?_
      refine wpListIn_nil ?_
      refine ⟨m, Nat.lt_succ_self m, _, pre ++ [⟨((m : Int), zs[m]), hx⟩], by omega, rfl, he0, he1, ?_, ?_, hJ3, hk3 hk⟩
      · show Value.int .i64 (w64 ((m : Int) - 1)) = _
        rw [w64_id (by omega)]
      · rw [List.map_append, hpre]
        have ht := bwL_take zs (zs.length - (m + 1)) (by omega)
        have ei : zs.length - 1 - (zs.length - (m + 1)) = m := by omega
        rw [show zs.length - (m + 1) + 1 = zs.length - m by omega] at ht
        rw [ht]
        congr 1
        simp only [ei, List.map_cons, List.map_nil]
    · obtain rfl := Ending.returned.inj hv
      refine g_q (fun c hc => by cases hc) rfl rfl (q_not rfl) ?_
      refine wpListIn_nil ?_
      refine wpIn_cond_true rfl (wpIn_ret ?_)
      exact ⟨rfl, _, results_none rfl _ _ _, ⟨_, rfl⟩, .inr ⟨_, trivial, hJx3⟩⟩
theorem bkc_Step.calls {w0 ws : World} {P0 : Nat → Prop} (A : Option Addr) (n c : Nat) (hF : Fr w0 ws P0 [] ws) : Calls Try.prog 190 #[.slice A n c] ws (Post1 w0 ws P0 (fun (q : Nat) => .func (.func 222) #[] #[.pointer (some ⟨q, 0, none⟩)]) (fun (q : Nat) => [box q 24 #[.slice A n c]])) := by
  refine enter Try.func190 rfl Try.ntmps190 rfl hF ?_
  refine c_seq ?_
  refine za0 ?_
  refine o_e rfl (e_box rfl) (fun g1 => ?_)
  refine o_q rfl rfl (q_asg rfl) ?_
  refine o_end ?_
  refine za1 ?_
  refine c_seq ?_
  refine za0 ?_
  refine o_q rfl rfl (q_func (f := .func 222) (a := []) (b := [.tmp 1]) rfl rfl) ?_
  refine o_q rfl rfl (q_asg rfl) ?_
  refine o_end ?_
  refine za1 ?_
  refine c_ret ?_
  exact x_r1 g1 Try.results190 (zaf rfl) rfl (fun w h => h)

/-! ### (*Plan).used, by hand: a range over slices.Backward -/
/-- A round: the factors of a used step are used. -/
def impl_Plan_used.b (I : Int) (s : List Bool) (x : Int × SStep) : List Bool := if s.getD (I + x.1).toNat false = true then (s.set x.2.f0.toNat true).set x.2.f1.toNat true else s
def impl_Plan_used.l0 : (List Int) → (List Bool) → Int → Option (List Bool)
  | [], l11, i12 => some l11
  | y13 :: ys14, l11, i12 => (gt l11 y13).bind fun y46 => (st l11 y13 true).bind fun l47 => impl_Plan_used.l0 ys14 l47 (i12 + 1)
/-- As the rounds may come in any order: all steps must be right. -/
def impl_Plan_used.f (a0_0 : Int) (l0_1 : List SStep) (l0_2 : List Int) : Option (List Bool) := (impl_Plan_many.f a0_0 l0_1 l0_2).bind fun _ => (mk0 (w64 (a0_0 + (l0_1.length : Int))) false).bind fun l4 => (impl_Plan_used.l0 l0_2 l4 0).bind fun l11 =>
  if (0 ≤ a0_0 ∧ a0_0 ≤ 1000 ∧ l0_1.length ≤ 1000 ∧ l4.length = (a0_0 + (l0_1.length : Int)).toNat ∧ l11.length = (a0_0 + (l0_1.length : Int)).toNat) ∧ ∀ y ∈ l0_1, (0 ≤ y.f0 ∧ y.f0 < a0_0 + (l0_1.length : Int)) ∧ (0 ≤ y.f1 ∧ y.f1 < a0_0 + (l0_1.length : Int)) then some ((bwL l0_1).foldl (impl_Plan_used.b a0_0) l11) else none
theorem impl_Plan_used.blen (I : Int) (s : List Bool) (x : Int × SStep) : (impl_Plan_used.b I s x).length = s.length := by
  unfold impl_Plan_used.b
  split <;> simp
theorem impl_Plan_used.flen {zs : List SStep} (I : Int) (pre : List (BackT zs)) (s : List Bool) : (pre.foldl (fun s x => impl_Plan_used.b I s x.1) s).length = s.length := by
  induction pre generalizing s with
  | nil => rfl
  | cons x pre ih => rw [List.foldl_cons, ih, impl_Plan_used.blen]
theorem gt_getD {s : List Bool} {i : Int} (h0 : 0 ≤ i) (h1 : i < (s.length : Int)) : gt s i = some (s.getD i.toNat false) := by
  unfold gt
  rw [if_pos h0, List.getD_eq_getElem?_getD, List.getElem?_eq_getElem (by omega)]
  rfl
theorem st_ok {s : List Bool} {i : Int} (h0 : 0 ≤ i) (h1 : i < (s.length : Int)) : st s i true = some (s.set i.toNat true) := by
  unfold st
  rw [if_pos ⟨h0, h1⟩]
set_option maxHeartbeats 1600000 in
set_option maxRecDepth 100000 in
theorem impl_Plan_used.calls {w0 ws : World} {P0 : Nat → Prop} (g0 : Nat) (a0_0 : Int) (A0_1 : Option Addr) (c0_1 : Nat) (n0_1 : Nat) (l0_1 : List SStep) (A0_2 : Option Addr) (c0_2 : Nat) (n0_2 : Nat) (l0_2 : List Int) (Z : Below w0.heap.size w0 ws) (hF : Fr w0 ws P0 [] ws) (R0_1 : Stable ws P0 (fun w => Kd.C kStep w A0_1 n0_1 l0_1)) (hc0_1 : n0_1 ≤ c0_1) (R0_2 : Stable ws P0 (fun w => Kd.C (Kd.int .i64) w A0_2 n0_2 l0_2)) (hc0_2 : n0_2 ≤ c0_2) (B0 : Stable ws P0 (fun w => w.heap[g0]? = some (.cells #[.int .i64 a0_0, .slice A0_1 n0_1 c0_1, .slice A0_2 n0_2 c0_2] 27 (0, 0)))) (r_1 : List Bool) (h : impl_Plan_used.f a0_0 l0_1 l0_2 = some r_1) :
    Calls Try.prog 113 #[.pointer (some ⟨g0, 0, none⟩)] ws (Post1 w0 ws P0 (fun ((q_2, q_3) : (Option Addr) × Nat) => .slice q_2 r_1.length q_3) (fun ((q_2, q_3) : (Option Addr) × Nat) => [row Kd.bool 4 (.slice q_2 r_1.length q_3) r_1])) := by
  unfold impl_Plan_used.f at h
  obtain rfl := (R0_1 ws (KeptB.refl _ _)).1
  obtain rfl := (R0_2 ws (KeptB.refl _ _)).1
  refine enterM Try.func113 rfl Try.ntmps113 rfl hF ?_
  refine c_seq ?_
  refine za0 ?_
  refine o_e rfl (e_box rfl) (fun g1 => ?_)
  refine o_q rfl rfl (q_asg rfl) ?_
  refine o_end ?_
  refine za1 ?_
  refine c_seq ?_
  refine za0 ?_
  refine o_q rfl rfl (q_ldb Y99 rfl (fun w h => h.zab (i := 0) rfl) rfl) ?_
  refine zaa h (fun _ hx3 h => ?_) rfl
  refine o_e rfl (zac 0 Z Try.func90 N90 rfl rfl rfl (fun w P1 hF hB hS hT => impl_Plan_many.calls g0 a0_0 A0_1 c0_1 l0_1.length l0_1 A0_2 c0_2 l0_2.length l0_2 hB hF (hS _ R0_1) hc0_1 (hS _ R0_2) hc0_2 (hS _ B0) hx3)) (fun _ => ?_)
  refine zaa h (fun l4 hm5 h => ?_) rfl
  refine o_e rfl (e_make Kd.bool false Try.underlying108 I4 rfl (by decide) (by decide) (fun _ _ => rfl) rfl rfl hm5) (cur2 (fun A6 c7 => ?_))
  refine o_e rfl (e_alloc V108 rfl) (fun g9 => ?_)
  refine o_e rfl (zay (i := 0) rfl rfl rfl rfl Z108 rfl rfl) (fun _ => ?_)
  refine o_end ?_
  refine za1 ?_
  refine c_seq ?_
  refine c_seq ?_
  refine za0 ?_
  refine o_q rfl rfl (q_ldb Y99 rfl (fun w h => h.zab (i := 2) rfl) rfl) ?_
  refine o_q rfl rfl (q_nil rfl) ?_
  refine o_q rfl rfl (q_f F27_2 rfl) ?_
  refine o_q rfl rfl (q_ldb Y25 rfl (fun w h => B0.now Z h) rfl) ?_
  refine o_q rfl rfl (q_len Try.underlying25 rfl) ?_
  refine o_q rfl rfl (za2 rfl) ?_
  refine o_end ?_
  refine za1 ?_
  refine zaj ?_
  refine zaa h (fun o20 hl19 hR18 => ?_) rfl
  clear h
  refine c_fact (p := l0_2.length ≤ 9223372036854775807) (fun w h => (R0_2.now Z h).2.1) (fun hm17 => ?_)
  refine zaw (σ := (List Int) × (List Bool) × Int) (fun k15 ((ys14, l11, i12) : (List Int) × (List Bool) × Int) => Rg l0_2 i12 ys14 ∧ ys14.length = k15 ∧ impl_Plan_used.l0 ys14 l11 i12 = some o20) [5, 16, 17, 18, 19, 20, 21, 22, 23] (fun ((ys14, l11, i12) : (List Int) × (List Bool) × Int) => [(16, .int .i64 i12)]) (fun ((ys14, l11, i12) : (List Int) × (List Bool) × Int) => [box g9 108 #[.slice A6 l4.length c7], row Kd.bool 4 (.slice A6 l4.length c7) l11, box g1 99 #[.pointer (some ⟨g0, 0, none⟩)]]) l0_2.length (l0_2, l4, 0) ⟨Rg.start _, rfl, hl19⟩ ⟨rfl, trivial⟩ (fun w h => h) ?_
  refine fun k15 => cur3 (listC (fun l11 i12 U21 hJ_ => ?_) (fun y13 ys14 l11 i12 U21 hJ_ => ?_))
  · skip
    clear hl19
    have hr16 := hJ_.1; have hk22 := hJ_.2.1; have h := hJ_.2.2; clear hJ_
    replace h : impl_Plan_used.l0 [] l11 i12 = some o20 := h
    rw [impl_Plan_used.l0] at h
    refine c_seq ?_
    refine za0 ?_
    refine o_q rfl rfl (q_lss rfl rfl) ?_
    refine o_end ?_
    refine za1 ?_
    refine c_seq ?_
    refine c_false (congrArg Value.bool hr16.ge) ?_
    refine c_exit ?_
    refine za6 ?_
    refine za6 ?_
    have e_ := Option.some.inj h; replace h := hR18; rw [← e_] at h; clear e_
    refine x_hit ?_
    refine za1 ?_
    refine c_seq ?_
    refine c_seq ?_
    refine za0 ?_
    refine o_q rfl rfl (q_ldb Y99 rfl (fun w h => h.zab (i := 2) rfl) rfl) ?_
    refine o_q rfl rfl (q_nil rfl) ?_
    refine o_q rfl rfl (q_f F27_1 rfl) ?_
    refine o_q rfl rfl (q_ldb Y24 rfl (fun w h => B0.now Z h) rfl) ?_
    refine o_e rfl (zac 0 Z Try.func190 N190 rfl rfl rfl (fun w P1 hF hB hS hT => bkc_Step.calls A0_1 l0_1.length c0_1 hF)) (fun Bs => ?_)
    refine o_end ?_
    refine za1 ?_
    refine zaj ?_
    split at h
    rotate_left
    · cases h
    next hok =>
    obtain ⟨⟨o1, o2, o3, o4, o5⟩, o6⟩ := hok
    have e0_ := Option.some.inj h; clear h
    -- the range
    intro w hw
    have hw1 : Fr w0 ws P0 ([box g9 108 #[.slice A6 l4.length c7], row Kd.bool 4 (.slice A6 l4.length c7) l11, box g1 99 #[.pointer (some ⟨g0, 0, none⟩)]] ++ [box Bs 24 #[.slice A0_1 l0_1.length c0_1]]) w := za8 [1, 2, 3, 0] (by decide) rfl w hw
    obtain ⟨P2, hF2, hst, hbx, hc2, hback⟩ := hw1.here Z
    have hZ2 : Below w0.heap.size w0 w := hF2.bel
    have hBs := Own.box (hbx 0 _ rfl)
    refine wpIn_any (N := ⟨49, [], none⟩) (n := 3) ?_
    refine wp_range (σ := List Bool) (α := BackT l0_1) (fun x => #[Value.int .i64 x.1.1, .agg #[.int .i64 x.1.2.f0, .int .i64 x.1.2.f1]]) (fun _ => rfl) l11 (fun s x => impl_Plan_used.b a0_0 s x.1)
      (fun s => [box g9 108 #[.slice A6 l4.length c7], row Kd.bool 4 (.slice A6 l4.length c7) s, box g1 99 #[.pointer (some ⟨g0, 0, none⟩)]])
      (fun s x q => [box q 89 #[.int .i64 x.1.2.f0, .int .i64 x.1.2.f1], box g9 108 #[.slice A6 l4.length c7], row Kd.bool 4 (.slice A6 l4.length c7) s, box g1 99 #[.pointer (some ⟨g0, 0, none⟩)]])
      (fun x => [(30, .agg #[.int .i64 x.1.2.f0, .int .i64 x.1.2.f1]), (29, .int .i64 x.1.1)]) (fun x q => [(7, .pointer (some ⟨q, 0, none⟩)), (6, .int .i64 x.1.1), (30, .agg #[.int .i64 x.1.2.f0, .int .i64 x.1.2.f1]), (29, .int .i64 x.1.1)])
      rfl (enters9 Try.func222 N222 rfl) hF2 (bk_Step Bs A0_1 c0_1 l0_1 (hst _ R0_1) hBs) ?_ ?_ (fun s x q W P3 W' h => za8 [1, 2, 3] (by decide) rfl _ h) ?_ ?_ ?_
    · intro x
      exact act_zip2
    · intro s s' W h1 h2
      have e1 := h1.row_C (i := 1) rfl
      have e2 := h2.row_C (i := 1) rfl
      exact bool_det (by omega) e1.1 e2.1
    · -- the loop's variables
      intro l s x W P3 Z3 hst3
      refine c_seq ?_
      refine za0 ?_
      refine o_q rfl rfl (q_asg rfl) ?_
      refine o_end ?_
      refine za1 ?_
      refine za0 ?_
      refine o_e rfl (e_alloc V89 rfl) (fun g26 => ?_)
      refine o_e rfl (zax (i := 0) rfl rfl rfl Z89 rfl rfl) (fun _ => ?_)
      refine o_end ?_
      intro w' hw'
      exact ⟨g26, rfl, hw'⟩
    · -- a round
      intro l pre x g26 W P3 Z3 hst3 hlen
      have B0' := hst3 _ (hst _ B0)
      obtain ⟨j, hj1, hj2⟩ := x.2
      have hjl := (List.getElem?_eq_some_iff.1 hj2).1
      have hfl := impl_Plan_used.flen a0_0 pre l11
      obtain ⟨⟨q0, q1⟩, ⟨q2, q3⟩⟩ := o6 x.1.2 (List.mem_of_getElem? hj2)
      generalize pre.foldl (fun s x => impl_Plan_used.b a0_0 s x.1) l11 = s at hfl ⊢
      have hsl : (s.length : Int) = a0_0 + (l0_1.length : Int) := by omega
      have hww : w64 (a0_0 + x.1.1) = a0_0 + x.1.1 := w64_id (by omega)
      have hg29 : gt s (w64 (a0_0 + x.1.1)) = some (s.getD (a0_0 + x.1.1).toNat false) := by rw [hww]; exact gt_getD (by omega) (by omega)
      refine zaj ?_
      refine c_seq ?_
      refine a_start (ds := []) MO rfl ?_
      refine zat 0 rfl rfl rfl (by kernel_rfl) (fun _ _ _ h => h) (fun w h => h) (q_ldb Y108 rfl (fun w h => h.zab (i := 1) rfl) rfl) ?_
      refine zat 1 rfl rfl rfl (by kernel_rfl) (fun _ _ _ h => h) (fun w h => h) (q_ldb Y99 rfl (fun w h => h.zab (i := 3) rfl) rfl) ?_
      refine za5 2 rfl rfl rfl (by kernel_rfl) (fun _ _ _ h => h) (q_nil rfl) ?_
      refine za5 3 rfl rfl rfl (by kernel_rfl) (fun _ _ _ h => h) (q_f F27_0 rfl) ?_
      refine zat 4 rfl rfl rfl (by kernel_rfl) (fun _ _ _ h => h) (fun w h => h) (q_ldb Y3 rfl (fun w h => B0'.now Z3 h) rfl) ?_
      refine za5 5 rfl rfl rfl (by kernel_rfl) (fun _ _ _ h => h) (za2 rfl) ?_
      refine za5 6 rfl rfl rfl (by kernel_rfl) (fun _ _ _ h => h) (q_add64 rfl rfl) ?_
      refine a_fact (p := Sh A6 l4.length s.length) (fun w h => f_sh (dk := Kd.bool) h (fun w h => h.zas (i := 2) rfl)) (fun hq28 => ?_)
      refine za5 7 rfl rfl rfl (by kernel_rfl) (fun _ _ _ h => h) (q_ix Try.underlying108 Z4 rfl rfl hq28 hg29) ?_
      refine zat 8 rfl rfl rfl (by kernel_rfl) (fun _ _ _ h => h) (fun w h => h) (q_lde (off := 0) Y4 rfl rfl (fun w h => h.zas (i := 2) rfl) hg29 (fun _ _ h => h) rfl) ?_
      refine zav (by kernel_rfl) ?_
      refine za1 ?_
      refine zau _ rfl (fun hb31 => ?_) (fun hb31 => ?_)
      · skip
        have hg32 := gt_getD q0 (show x.1.2.f0 < (s.length : Int) by omega)
        have hs35 := st_ok q0 (show x.1.2.f0 < (s.length : Int) by omega)
        have hg37 := gt_getD (s := s.set x.1.2.f0.toNat true) q2 (by rw [List.length_set]; omega)
        have hs40 := st_ok (s := s.set x.1.2.f0.toNat true) q2 (by rw [List.length_set]; omega)
        refine a_startS (ds := []) [some 0, some 1, none, some 3] MO rfl ?_
        refine zat 0 rfl rfl rfl (by kernel_rfl) (fun _ _ _ h => h) (fun w h => za7 [some 0, some 1, none, some 3] (by decide) w h rfl) (q_ldb Y108 rfl (fun w h => h.zab (i := 1) rfl) rfl) ?_
        refine za5 1 rfl rfl rfl (by kernel_rfl) (fun _ _ _ h => h) (q_f F89_0 rfl) ?_
        refine zat 2 rfl rfl rfl (by kernel_rfl) (fun _ _ _ h => h) (fun w h => za7 [some 0, some 1, none, some 3] (by decide) w h rfl) (q_ldb Y3 rfl (fun w h => h.zab (i := 0) rfl) rfl) ?_
        refine zat 3 rfl rfl rfl (by kernel_rfl) (fun _ _ _ h => h) (fun w h => za7 [some 0, some 1, none, some 3] (by decide) w h rfl) (q_ldb Y108 rfl (fun w h => h.zab (i := 1) rfl) rfl) ?_
        refine za5 4 rfl rfl rfl (by kernel_rfl) (fun _ _ _ h => h) (q_f F89_1 rfl) ?_
        refine zat 5 rfl rfl rfl (by kernel_rfl) (fun _ _ _ h => h) (fun w h => za7 [some 0, some 1, none, some 3] (by decide) w h rfl) (q_ldb Y3 rfl (fun w h => h.zab (i := 0) rfl) rfl) ?_
        refine za5 6 rfl rfl rfl (by kernel_rfl) (fun _ _ _ h => h) (q_ix Try.underlying108 Z4 rfl rfl hq28 hg32) ?_
        refine a_one 7 rfl rfl (by kernel_rfl) rfl (e_set (i := 2) rfl rfl rfl Z4 hs35) (fun s w h => za7 [some 0, some 1, none, some 3] (by decide) w h rfl) (fun _ => ?_)
        refine a_fact (p := Sh A6 l4.length (s.set x.1.2.f0.toNat true).length) (fun w h => f_sh (dk := Kd.bool) h (fun w h => h.zas (i := 2) rfl)) (fun hq36 => ?_)
        refine za5 8 rfl rfl rfl (by kernel_rfl) (fun _ _ _ h => h) (q_ix Try.underlying108 Z4 rfl rfl hq36 hg37) ?_
        refine a_one 9 rfl rfl (by kernel_rfl) rfl (e_set (i := 2) rfl rfl rfl Z4 hs40) (fun s w h => za7 [some 0, some 1, none, some 3] (by decide) w h rfl) (fun _ => ?_)
        refine zav (by kernel_rfl) ?_
        refine zal ?_
        intro w' hw'
        have ht := za8 [1, 2, 3] (by decide) rfl _ hw'
        have eb : impl_Plan_used.b a0_0 s x.1 = (s.set x.1.2.f0.toNat true).set x.1.2.f1.toNat true := if_pos hb31
        show Fr w0 W P3 _ w'
        rw [eb]
        exact ht
      · skip
        refine zan ?_
        refine zal ?_
        intro w' hw'
        have ht := za8 [1, 2, 3] (by decide) rfl _ hw'
        have eb : impl_Plan_used.b a0_0 s x.1 = s := if_neg (by rw [hb31]; simp)
        show Fr w0 W P3 _ w'
        rw [eb]
        exact ht
    · -- behind the range
      intro D xs W hD hS hFW hdf
      have hmap : xs.foldl (fun s x => impl_Plan_used.b a0_0 s x.1) l11 = r_1 := by
        rw [← e0_, ← hS, List.foldl_map]
      rw [hmap] at hFW
      obtain ⟨P4, hF4, hst4, _, hc4, hback4⟩ := ((show Fr w0 w P2 ([box g9 108 #[.slice A6 l4.length c7], row Kd.bool 4 (.slice A6 l4.length c7) r_1, box g1 99 #[.pointer (some ⟨g0, 0, none⟩)]] ++ []) W from hFW)).here hZ2
      have hmk : Stable W P4 (fun w => w.heap[D]? = some (.deferred (some []))) := fun W' hk => by
        show W'.heap[D]? = _
        rw [hk.kept.2 D (Array.getElem?_eq_some_iff.1 hdf).1 (fun hp => by
          obtain ⟨cs, q, hcc⟩ := hc4 D hp
          rw [hdf] at hcc
          cases hcc)]
        exact hdf
      have hrl : l4.length = r_1.length := by
        rw [← hmap, impl_Plan_used.flen]
        omega
      have hws : ws.heap.size ≤ D := Nat.le_trans (hw.keptB Z).kept.1 hD
      refine (show X ⟨49, [{ target := .collected D, args := #[] }], none⟩ w0 W P4 .normal _ _ _ from ?_) W hF4
      refine zal ?_
      refine za1 ?_
      refine c_seq ?_
      refine za0 ?_
      refine o_q rfl rfl (q_ldb Y108 rfl (fun w h => h.zab (i := 0) rfl) rfl) ?_
      refine o_q rfl rfl (q_asg rfl) ?_
      refine o_end ?_
      refine za1 ?_
      refine c_ret ?_
      refine x_mark (D := D) Z hws hmk hF4.bel (fun Ts w' h => hback _ _ (hback4 _ _ h)) ?_
      exact x_r1 (A6, c7) Try.results113 (zaf (v := .slice A6 l4.length c7) rfl) (by (try rw [hrl]); first | done | rfl) (f_pickE (L1 := [box g9 108 #[.slice A6 l4.length c7], row Kd.bool 4 (.slice A6 l4.length c7) r_1, box g1 99 #[.pointer (some ⟨g0, 0, none⟩)]]) rfl [1] (by decide) rfl (by (try rw [hrl]); first | done | rfl))
  · skip
    clear hl19
    have hr16 := hJ_.1; have hk22 := hJ_.2.1; have h := hJ_.2.2; clear hJ_
    replace h : impl_Plan_used.l0 (y13 :: ys14) l11 i12 = some o20 := h
    rw [impl_Plan_used.l0] at h
    refine c_seq ?_
    refine za0 ?_
    refine o_q rfl rfl (q_lss rfl rfl) ?_
    refine o_end ?_
    refine za1 ?_
    refine c_seq ?_
    refine c_true (congrArg Value.bool hr16.lt) ?_
    refine zan ?_
    refine za1 ?_
    refine c_seq ?_
    refine zaj ?_
    refine c_seq ?_
    refine za0 ?_
    refine zaz (p := Sh A0_2 l0_2.length l0_2.length) (fun w h => f_sh (dk := (Kd.int .i64)) h (fun w h => R0_2.now Z h)) (fun hq43 => ?_)
    refine o_q rfl rfl (q_ix Try.underlying25 Z3 rfl rfl hq43 hr16.get) ?_
    refine o_q rfl rfl (q_lde (off := 0) Y3 rfl rfl (fun w h => R0_2.now Z h) hr16.get (fun _ _ h => h) rfl) ?_
    refine o_q rfl rfl (q_asg rfl) ?_
    refine o_end ?_
    refine za1 ?_
    refine za0 ?_
    refine o_q rfl rfl (q_ldb Y108 rfl (fun w h => h.zab (i := 0) rfl) rfl) ?_
    refine o_q rfl rfl (za2 rfl) ?_
    refine zaz (p := Sh A6 l4.length l11.length) (fun w h => f_sh (dk := Kd.bool) h (fun w h => h.zas (i := 1) rfl)) (fun hq44 => ?_)
    refine zaa h (fun y46 hg45 h => ?_) rfl
    refine o_q rfl rfl (q_ix Try.underlying108 Z4 rfl rfl hq44 hg45) ?_
    refine zaa h (fun l47 hs48 h => ?_) rfl
    refine o_e rfl (e_set (i := 1) rfl rfl rfl Z4 hs48) (fun _ => ?_)
    refine o_end ?_
    refine zal ?_
    refine za1 ?_
    refine za0 ?_
    refine o_q rfl rfl (q_up rfl rfl (hr16.up hm17)) ?_
    refine o_q rfl rfl (za2 rfl) ?_
    refine o_end ?_
    refine zak ys14.length (ys14, l47, i12 + 1) (by rw [← hk22]; exact Nat.lt_succ_self _) ⟨hr16.step, rfl, h⟩ ⟨rfl, trivial⟩ (fun w h => za8 [0, 1, 2] (by decide) rfl w h) ?_
    repeat (first | exact zad _ _ | refine zah rfl ?_ | refine zae rfl ?_ | refine zai rfl ?_)

/-! ### loop.example/g01098/impl.firsts: function 103 -/
def impl_firsts.l0 : Nat → (List Int) → Int → Option (List Int)
  | 0, l4, i7 => some l4
  | k10 + 1, l4, i7 => (ap l4 ([i7] : List Int)).bind fun l22 => impl_firsts.l0 k10 l22 (i7 + 1)
def impl_firsts.f (a0 : Int) : Option (List Int) := (bd a0).bind fun _ => (impl_firsts.l0 ((a0).toNat) ([] : List Int) 0).bind fun l4 => some l4
set_option maxHeartbeats 600000 in
set_option maxRecDepth 100000 in
theorem impl_firsts.calls {w0 ws : World} {P0 : Nat → Prop} (a0 : Int) (Z : Below w0.heap.size w0 ws) (hF : Fr w0 ws P0 [] ws)  (r_1 : List Int) (h : impl_firsts.f a0 = some r_1) :
    Calls Try.prog 103 #[.int .i64 a0] ws (Post1 w0 ws P0 (fun ((q_2, q_3) : (Option Addr) × Nat) => .slice q_2 r_1.length q_3) (fun ((q_2, q_3) : (Option Addr) × Nat) => [row (Kd.int .i64) 3 (.slice q_2 r_1.length q_3) r_1])) := by
  unfold impl_firsts.f at h
  refine enter Try.func103 rfl Try.ntmps103 rfl hF ?_
  refine c_seq ?_
  refine za0 ?_
  refine o_q rfl rfl (q_asg rfl) ?_
  refine o_end ?_
  refine za1 ?_
  refine c_seq ?_
  refine za0 ?_
  refine o_e rfl (e_lit0 (Kd.int .i64) Try.underlying25 I3) (cur2 (fun A1 c2 => ?_))
  refine o_q rfl rfl (q_asg rfl) ?_
  refine o_end ?_
  refine za1 ?_
  refine c_seq ?_
  refine c_seq ?_
  refine za0 ?_
  refine o_q rfl rfl (za2 rfl) ?_
  refine o_q rfl rfl (za2 rfl) ?_
  refine o_end ?_
  refine za1 ?_
  refine zaj ?_
  refine zaa h (fun _ hbd16 h => ?_) rfl
  refine zaa h (fun o15 hl14 hR13 => ?_) rfl
  clear h
  have hm12 : a0 ≤ 9223372036854775807 := bd_le hbd16
  refine zaw (σ := (List Int) × Int × (Option Addr) × Nat) (fun k10 ((l4, i7, A5, c6) : (List Int) × Int × (Option Addr) × Nat) => Cn a0 i7 k10 ∧ impl_firsts.l0 k10 l4 i7 = some o15) [3, 4, 7, 8, 9, 10, 11, 12, 13, 14] (fun ((l4, i7, A5, c6) : (List Int) × Int × (Option Addr) × Nat) => [(3, .slice A5 l4.length c6), (7, .int .i64 i7)]) (fun ((l4, i7, A5, c6) : (List Int) × Int × (Option Addr) × Nat) => [row (Kd.int .i64) 3 (.slice A5 l4.length c6) l4]) (a0).toNat (([] : List Int), 0, A1, c2) ⟨Cn.start hm12, hl14⟩ ⟨rfl, rfl, trivial⟩ (fun w h => h) ?_
  refine natC (cur4 (fun l4 i7 A5 c6 => fun U17 hJ_ => ?_)) (fun k10 => (cur4 (fun l4 i7 A5 c6 => fun U17 hJ_ => ?_)))
  · skip
    clear hl14
    have hr11 := hJ_.1; have h := hJ_.2; clear hJ_
    replace h : impl_firsts.l0 0 l4 i7 = some o15 := h
    rw [impl_firsts.l0] at h
    refine c_seq ?_
    refine za0 ?_
    refine o_q rfl rfl (q_lss rfl rfl) ?_
    refine o_end ?_
    refine za1 ?_
    refine c_seq ?_
    refine c_false (congrArg Value.bool hr11.ge) ?_
    refine c_exit ?_
    refine za6 ?_
    refine za6 ?_
    have e_ := Option.some.inj h; replace h := hR13; rw [← e_] at h; clear e_
    refine x_hit ?_
    refine za1 ?_
    refine c_seq ?_
    refine za0 ?_
    refine o_q rfl rfl (za2 rfl) ?_
    refine o_q rfl rfl (q_asg rfl) ?_
    refine o_end ?_
    refine za1 ?_
    refine c_ret ?_
    have e0_ := Option.some.inj h; clear h
    subst e0_
    exact x_r1 (A5, c6) Try.results103 (zaf rfl) rfl (fun w h => za8 [0] (by decide) rfl w h)
  · skip
    clear hl14
    have hr11 := hJ_.1; have h := hJ_.2; clear hJ_
    replace h : impl_firsts.l0 (k10 + 1) l4 i7 = some o15 := h
    rw [impl_firsts.l0] at h
    refine c_seq ?_
    refine za0 ?_
    refine o_q rfl rfl (q_lss rfl rfl) ?_
    refine o_end ?_
    refine za1 ?_
    refine c_seq ?_
    refine c_true (congrArg Value.bool hr11.lt) ?_
    refine zan ?_
    refine za1 ?_
    refine c_seq ?_
    refine zaj ?_
    refine c_seq ?_
    refine za0 ?_
    refine o_q rfl rfl (za2 rfl) ?_
    refine o_q rfl rfl (q_asg rfl) ?_
    refine o_end ?_
    refine za1 ?_
    refine za0 ?_
    refine o_q rfl rfl (za2 rfl) ?_
    refine o_q rfl rfl (za2 rfl) ?_
    refine o_e rfl (e_lit (vs := [(0, .int .i64 i7)]) (cs := [.int .i64 i7]) (Kd.int .i64) ([i7] : List Int) Try.underlying25 I3 (by decide) rfl (by decide) rfl rfl (fun _ _ => Kd.zao _)) (cur2 (fun A19 c20 => ?_))
    refine zaa h (fun l22 ha23 h => ?_) rfl
    refine o_e rfl (e_app (i := 1) (j := 0) Try.underlying25 I3 rfl (by decide) (by decide) rfl rfl rfl rfl rfl ha23) (cur2 (fun A24 c25 => ?_))
    refine o_q rfl rfl (q_asg rfl) ?_
    refine o_end ?_
    refine zal ?_
    refine za1 ?_
    refine za0 ?_
    refine o_q rfl rfl (q_up rfl rfl hr11.up) ?_
    refine o_q rfl rfl (za2 rfl) ?_
    refine o_end ?_
    refine zak k10 (l22, i7 + 1, A24, c25) (Nat.lt_succ_self _) ⟨hr11.step, h⟩ ⟨rfl, rfl, trivial⟩ (fun w h => za8 [1] (by decide) rfl w h) ?_
    repeat (first | exact zad _ _ | refine zah rfl ?_ | refine zae rfl ?_ | refine zai rfl ?_)

/-! ### (*loop.example/g01098/impl.Plan).trimmed: function 110 -/
def impl_Plan_trimmed.l0 (a0_0 : Int) (l1024 : List Bool) : (List SStep) → (List Int) → (List SStep) → Int → Option ((List Int) × (List SStep))
  | [], l2058, l2061, i2064 => some (l2058, l2061)
  | y2065 :: ys2066, l2058, l2061, i2064 => (impl_Plan_many.f a0_0 l2061 []).bind fun _ => (ap l2058 ([w64 (a0_0 + (l2061.length : Int))] : List Int)).bind fun l2086 => (gt l1024 (w64 (a0_0 + i2064))).bind fun y2092 => if y2092 = true then ((gt l2086 y2065.f0).bind fun y2397 => (gt l2086 y2065.f1).bind fun y2696 => (impl_step.f y2397 y2696).bind fun _ => (ap l2061 ([(⟨mn y2397 y2696, mx y2397 y2696⟩ : SStep)] : List SStep)).bind fun l2935 => impl_Plan_trimmed.l0 a0_0 l1024 ys2066 l2086 l2935 (i2064 + 1)) else (impl_Plan_trimmed.l0 a0_0 l1024 ys2066 l2086 l2061 (i2064 + 1))
def impl_Plan_trimmed.f (a0_0 : Int) (l0_1 : List SStep) (l0_2 : List Int) : Option ((List SStep) × (List Int)) := ((impl_Plan_used.f a0_0 l0_1 l0_2).bind fun l1098 => (impl_firsts.f a0_0).bind fun l1698 => some (l1098, l1698)).bind fun (l1024, l1028) => (impl_Plan_trimmed.l0 a0_0 l1024 l0_1 l1028 ([] : List SStep) 0).bind fun (l2058, l2061) => (impl_renamed.f l0_2 l2058).bind fun l2076 => some (l2061, l2076)
set_option maxHeartbeats 600000 in
set_option maxRecDepth 100000 in
theorem impl_Plan_trimmed.calls {w0 ws : World} {P0 : Nat → Prop} (g0 : Nat) (a0_0 : Int) (A0_1 : Option Addr) (c0_1 : Nat) (n0_1 : Nat) (l0_1 : List SStep) (A0_2 : Option Addr) (c0_2 : Nat) (n0_2 : Nat) (l0_2 : List Int) (Z : Below w0.heap.size w0 ws) (hF : Fr w0 ws P0 [] ws) (R0_1 : Stable ws P0 (fun w => Kd.C kStep w A0_1 n0_1 l0_1)) (hc0_1 : n0_1 ≤ c0_1) (R0_2 : Stable ws P0 (fun w => Kd.C (Kd.int .i64) w A0_2 n0_2 l0_2)) (hc0_2 : n0_2 ≤ c0_2) (B0 : Stable ws P0 (fun w => w.heap[g0]? = some (.cells #[.int .i64 a0_0, .slice A0_1 n0_1 c0_1, .slice A0_2 n0_2 c0_2] 27 (0, 0)))) (r_1 : List SStep) (r_4 : List Int) (h : impl_Plan_trimmed.f a0_0 l0_1 l0_2 = some (r_1, r_4)) :
    Calls Try.prog 110 #[.pointer (some ⟨g0, 0, none⟩)] ws (Post1 w0 ws P0 (fun ((q_2, q_3, q_5, q_6) : (Option Addr) × Nat × (Option Addr) × Nat) => .agg #[.int .i64 a0_0, .slice q_2 r_1.length q_3, .slice q_5 r_4.length q_6]) (fun ((q_2, q_3, q_5, q_6) : (Option Addr) × Nat × (Option Addr) × Nat) => [row kStep 89 (.slice q_2 r_1.length q_3) r_1, row (Kd.int .i64) 3 (.slice q_5 r_4.length q_6) r_4])) := by
  unfold impl_Plan_trimmed.f at h
  obtain rfl := (R0_1 ws (KeptB.refl _ _)).1
  obtain rfl := (R0_2 ws (KeptB.refl _ _)).1
  refine enter Try.func110 rfl Try.ntmps110 rfl hF ?_
  refine c_seq ?_
  refine za0 ?_
  refine o_e rfl (e_alloc V27 rfl) (fun g1 => ?_)
  refine o_end ?_
  refine za1 ?_
  refine zaa h (fun o1031 hl1032 hR1033 => ?_) rfl
  clear h
  refine c_cutJ (σ := (List Bool) × (List Int) × (Option Addr) × Nat × Nat × (Option Addr) × Nat) (fun (l1024, l1028, A1025, c1026, g1027, A1029, c1030) => some (l1024, l1028) = some o1031) [3, 4, 5, 8, 9, 10, 11, 12, 13, 14, 15, 16, 17, 18, 19] (fun (l1024, l1028, A1025, c1026, g1027, A1029, c1030) => [(3, .slice A1025 l1024.length c1026), (4, .pointer (some ⟨g1027, 0, none⟩)), (5, .slice A1029 l1028.length c1030)]) (fun (l1024, l1028, A1025, c1026, g1027, A1029, c1030) => [box g1 27 #[.int .i64 0, .slice none 0 0, .slice none 0 0], row Kd.bool 4 (.slice A1025 l1024.length c1026) l1024, box g1027 27 #[.int .i64 a0_0, .slice none 0 0, .slice none 0 0], row (Kd.int .i64) 3 (.slice A1029 l1028.length c1030) l1028]) ?_ ?_
  · skip
    have h := hl1032; clear hl1032
    clear hR1033
    refine zaa h (fun l1098 hx1097 h => ?_) rfl
    refine zaa h (fun l1698 hx1697 h => ?_) rfl
    refine a_start (ds := []) MO rfl ?_
    refine za5 0 rfl rfl rfl (by kernel_rfl) (fun _ _ _ h => h) (za2 rfl) ?_
    refine za5 2 rfl rfl rfl (by kernel_rfl) (fun _ _ _ h => h) (za2 rfl) ?_
    refine za5 3 rfl rfl rfl (by kernel_rfl) (fun _ _ _ h => h) (q_nil rfl) ?_
    refine za5 4 rfl rfl rfl (by kernel_rfl) (fun _ _ _ h => h) (q_f F27_0 rfl) ?_
    refine zat 5 rfl rfl rfl (by kernel_rfl) (fun _ _ _ h => h) (fun w h => h) (q_ldb Y3 rfl (fun w h => B0.now Z h) rfl) ?_
    refine za5 6 rfl rfl rfl (by kernel_rfl) (fun _ _ _ h => h) (q_build (vs := [(0, .int .i64 a0_0)]) (cs := [.int .i64 a0_0, .slice none 0 0, .slice none 0 0]) rfl rfl) ?_
    refine za5 7 rfl rfl rfl (by kernel_rfl) (fun _ _ _ h => h) (za2 rfl) ?_
    refine za5 8 rfl rfl rfl (by kernel_rfl) (fun _ _ _ h => h) (q_nil rfl) ?_
    refine za5 9 rfl rfl rfl (by kernel_rfl) (fun _ _ _ h => h) (q_f F27_0 rfl) ?_
    refine zat 10 rfl rfl rfl (by kernel_rfl) (fun _ _ _ h => h) (fun w h => h) (q_ldb Y3 rfl (fun w h => B0.now Z h) rfl) ?_
    refine a_two 1 12 rfl rfl rfl rfl (by kernel_rfl) rfl rfl (zac 0 Z Try.func113 N113 rfl rfl rfl (fun w P1 hF hB hS hT => impl_Plan_used.calls g0 a0_0 A0_1 c0_1 l0_1.length l0_1 A0_2 c0_2 l0_2.length l0_2 hB hF (hS _ R0_1) hc0_1 (hS _ R0_2) hc0_2 (hS _ B0) _ hx1097)) (fun s w h => za7 [some 1] (by decide) w h rfl) (e_alloc V27 rfl) (fun s w h => za7 [some 1] (by decide) w h rfl) (cur2 (fun A1099 c1100 => ?_)) (fun g1757 => ?_)
    · skip
      refine a_two 11 12 rfl rfl rfl rfl (by kernel_rfl) rfl rfl (zac 0 Z Try.func103 N103 rfl rfl rfl (fun w P1 hF hB hS hT => impl_firsts.calls a0_0 hB hF _ hx1697)) (fun s w h => za7 [some 2] (by decide) w h rfl) (e_alloc V27 rfl) (fun s w h => za7 [some 2] (by decide) w h rfl) (cur2 (fun A1699 c1700 => ?_)) (fun g1757 => ?_)
      · skip
        refine a_one 12 rfl rfl (by kernel_rfl) rfl (e_alloc V27 rfl) (fun s w h => za7 [some 3] (by decide) w h rfl) (fun g1757 => ?_)
        refine za5 13 rfl rfl rfl (by kernel_rfl) (fun _ _ _ h => h) (q_asg rfl) ?_
        refine a_one 14 rfl rfl (by kernel_rfl) rfl (zax (i := 0) rfl rfl rfl Z27 rfl rfl) (fun s w h => za7 [some 3] (by decide) w h rfl) (fun _ => ?_)
        refine za5 15 rfl rfl rfl (by kernel_rfl) (fun _ _ _ h => h) (q_asg rfl) ?_
        refine zav (by kernel_rfl) ?_
        refine x_meetJ (l1098, l1698, A1099, c1100, g1757, A1699, c1700) h ⟨rfl, rfl, rfl, trivial⟩ (fun w h => za8 [3, 2, 0, 1] (by decide) rfl w h) ?_
        repeat (first | exact zad _ _ | refine zah rfl ?_ | refine zae rfl ?_ | refine zai rfl ?_)
      · skip
        refine a_one 11 rfl rfl (by kernel_rfl) rfl (zac 0 Z Try.func103 N103 rfl rfl rfl (fun w P1 hF hB hS hT => impl_firsts.calls a0_0 hB hF _ hx1697)) (fun s w h => za7 [some 3] (by decide) w h rfl) (cur2 (fun A1699 c1700 => ?_))
        refine za5 13 rfl rfl rfl (by kernel_rfl) (fun _ _ _ h => h) (q_asg rfl) ?_
        refine a_one 14 rfl rfl (by kernel_rfl) rfl (zax (i := 1) rfl rfl rfl Z27 rfl rfl) (fun s w h => za7 [some 3] (by decide) w h rfl) (fun _ => ?_)
        refine za5 15 rfl rfl rfl (by kernel_rfl) (fun _ _ _ h => h) (q_asg rfl) ?_
        refine zav (by kernel_rfl) ?_
        refine x_meetJ (l1098, l1698, A1099, c1100, g1757, A1699, c1700) h ⟨rfl, rfl, rfl, trivial⟩ (fun w h => za8 [3, 2, 1, 0] (by decide) rfl w h) ?_
        repeat (first | exact zad _ _ | refine zah rfl ?_ | refine zae rfl ?_ | refine zai rfl ?_)
    · skip
      refine a_one 1 rfl rfl (by kernel_rfl) rfl (zac 0 Z Try.func113 N113 rfl rfl rfl (fun w P1 hF hB hS hT => impl_Plan_used.calls g0 a0_0 A0_1 c0_1 l0_1.length l0_1 A0_2 c0_2 l0_2.length l0_2 hB hF (hS _ R0_1) hc0_1 (hS _ R0_2) hc0_2 (hS _ B0) _ hx1097)) (fun s w h => za7 [some 2] (by decide) w h rfl) (cur2 (fun A1099 c1100 => ?_))
      refine a_one 11 rfl rfl (by kernel_rfl) rfl (zac 0 Z Try.func103 N103 rfl rfl rfl (fun w P1 hF hB hS hT => impl_firsts.calls a0_0 hB hF _ hx1697)) (fun s w h => za7 [some 3] (by decide) w h rfl) (cur2 (fun A1699 c1700 => ?_))
      refine za5 13 rfl rfl rfl (by kernel_rfl) (fun _ _ _ h => h) (q_asg rfl) ?_
      refine a_one 14 rfl rfl (by kernel_rfl) rfl (zax (i := 2) rfl rfl rfl Z27 rfl rfl) (fun s w h => za7 [some 3] (by decide) w h rfl) (fun _ => ?_)
      refine za5 15 rfl rfl rfl (by kernel_rfl) (fun _ _ _ h => h) (q_asg rfl) ?_
      refine zav (by kernel_rfl) ?_
      refine x_meetJ (l1098, l1698, A1099, c1100, g1757, A1699, c1700) h ⟨rfl, rfl, rfl, trivial⟩ (fun w h => za8 [3, 1, 2, 0] (by decide) rfl w h) ?_
      repeat (first | exact zad _ _ | refine zah rfl ?_ | refine zae rfl ?_ | refine zai rfl ?_)
  · skip
    refine (cur7 (fun l1024 l1028 A1025 c1026 g1027 A1029 c1030 => fun U1034 hJ1035 => ?_))
    have e_ := Option.some.inj hJ1035; have h := hR1033; rw [← e_] at h; clear e_ hJ1035 hR1033 hl1032
    refine c_seq ?_
    refine c_seq ?_
    refine za0 ?_
    refine o_q rfl rfl (za2 rfl) ?_
    refine o_q rfl rfl (q_nil rfl) ?_
    refine o_q rfl rfl (q_f F27_1 rfl) ?_
    refine o_q rfl rfl (q_ldb Y24 rfl (fun w h => B0.now Z h) rfl) ?_
    refine o_q rfl rfl (q_len Try.underlying24 rfl) ?_
    refine o_q rfl rfl (za2 rfl) ?_
    refine o_end ?_
    refine za1 ?_
    refine zaj ?_
    refine c_nil kStep 89 ?_
    refine zaa h (fun o2072 hl2071 hR2070 => ?_) rfl
    clear h
    refine c_fact (p := l0_1.length ≤ 9223372036854775807) (fun w h => (R0_1.now Z h).2.1) (fun hm2069 => ?_)
    refine zaw (σ := (List SStep) × (List Int) × (List SStep) × Int × (Option Addr) × Nat × (Option Addr) × Nat) (fun k2067 ((ys2066, l2058, l2061, i2064, A2059, c2060, A2062, c2063) : (List SStep) × (List Int) × (List SStep) × Int × (Option Addr) × Nat × (Option Addr) × Nat) => Rg l0_1 i2064 ys2066 ∧ ys2066.length = k2067 ∧ impl_Plan_trimmed.l0 a0_0 l1024 ys2066 l2058 l2061 i2064 = some o2072) [5, 6, 7, 25, 26, 27, 28, 29, 30, 31, 32, 33, 34, 35, 36, 37, 38, 39, 40, 41, 42, 43, 44, 45, 46, 47, 48, 49, 50, 51, 52, 53, 54, 55, 56, 57, 58, 59] (fun ((ys2066, l2058, l2061, i2064, A2059, c2060, A2062, c2063) : (List SStep) × (List Int) × (List SStep) × Int × (Option Addr) × Nat × (Option Addr) × Nat) => [(5, .slice A2059 l2058.length c2060), (25, .int .i64 i2064)]) (fun ((ys2066, l2058, l2061, i2064, A2059, c2060, A2062, c2063) : (List SStep) × (List Int) × (List SStep) × Int × (Option Addr) × Nat × (Option Addr) × Nat) => [row kStep 89 (.slice A2062 l2061.length c2063) l2061, box g1 27 #[.int .i64 0, .slice none 0 0, .slice none 0 0], row Kd.bool 4 (.slice A1025 l1024.length c1026) l1024, box g1027 27 #[.int .i64 a0_0, .slice A2062 l2061.length c2063, .slice none 0 0], row (Kd.int .i64) 3 (.slice A2059 l2058.length c2060) l2058]) l0_1.length (l0_1, l1028, ([] : List SStep), 0, A1029, c1030, none, 0) ⟨Rg.start _, rfl, hl2071⟩ ⟨rfl, rfl, trivial⟩ (fun w h => h) ?_
    refine fun k2067 => cur8 (listC (fun l2058 l2061 i2064 A2059 c2060 A2062 c2063 U2073 hJ_ => ?_) (fun y2065 ys2066 l2058 l2061 i2064 A2059 c2060 A2062 c2063 U2073 hJ_ => ?_))
    · skip
      clear hl2071
      have hr2068 := hJ_.1; have hk2074 := hJ_.2.1; have h := hJ_.2.2; clear hJ_
      replace h : impl_Plan_trimmed.l0 a0_0 l1024 [] l2058 l2061 i2064 = some o2072 := h
      rw [impl_Plan_trimmed.l0] at h
      refine c_seq ?_
      refine za0 ?_
      refine o_q rfl rfl (q_lss rfl rfl) ?_
      refine o_end ?_
      refine za1 ?_
      refine c_seq ?_
      refine c_false (congrArg Value.bool hr2068.ge) ?_
      refine c_exit ?_
      refine za6 ?_
      refine za6 ?_
      have e_ := Option.some.inj h; replace h := hR2070; rw [← e_] at h; clear e_
      refine x_hit ?_
      refine za1 ?_
      refine c_seq ?_
      refine za0 ?_
      refine o_q rfl rfl (za2 rfl) ?_
      refine o_q rfl rfl (q_nil rfl) ?_
      refine o_q rfl rfl (q_f F27_2 rfl) ?_
      refine o_q rfl rfl (q_ldb Y25 rfl (fun w h => B0.now Z h) rfl) ?_
      refine o_q rfl rfl (za2 rfl) ?_
      refine zaa h (fun l2076 hx2075 h => ?_) rfl
      refine o_e rfl (zac 0 Z Try.func92 N92 rfl rfl rfl (fun w P1 hF hB hS hT => impl_renamed.calls A0_2 c0_2 l0_2.length l0_2 A2059 c2060 l2058.length l2058 hB hF (hS _ R0_2) hc0_2 (hT 4 _ rfl).row (hT 4 _ rfl).cap _ hx2075)) (cur2 (fun A2077 c2078 => ?_))
      refine o_q rfl rfl (q_f F27_2 rfl) ?_
      refine o_e rfl (zay (i := 4) rfl rfl rfl rfl Z25 rfl rfl) (fun _ => ?_)
      refine o_end ?_
      refine za1 ?_
      refine c_seq ?_
      refine za0 ?_
      refine o_q rfl rfl (q_ldB G27 Z27 rfl (fun w h => h.zab (i := 4) rfl) rfl) ?_
      refine o_e rfl (zax (i := 2) rfl rfl rfl Z27 rfl rfl) (fun _ => ?_)
      refine o_end ?_
      refine za1 ?_
      refine c_ret ?_
      have e0_ := Option.some.inj h; clear h
      have d0_ := (Prod.mk.inj e0_).1; have e1_ := (Prod.mk.inj e0_).2; clear e0_; subst d0_
      subst e1_
      exact x_r1 (A2062, c2063, A2077, c2078) Try.results110 (rv_cell rfl G27 Z27 (fun w h => h.zab (i := 2) rfl) rfl) rfl (fun w h => za8 [1, 0] (by decide) rfl w h)
    · skip
      clear hl2071
      have hr2068 := hJ_.1; have hk2074 := hJ_.2.1; have h := hJ_.2.2; clear hJ_
      replace h : impl_Plan_trimmed.l0 a0_0 l1024 (y2065 :: ys2066) l2058 l2061 i2064 = some o2072 := h
      rw [impl_Plan_trimmed.l0] at h
      refine c_seq ?_
      refine za0 ?_
      refine o_q rfl rfl (q_lss rfl rfl) ?_
      refine o_end ?_
      refine za1 ?_
      refine c_seq ?_
      refine c_true (congrArg Value.bool hr2068.lt) ?_
      refine zan ?_
      refine za1 ?_
      refine c_seq ?_
      refine zaj ?_
      refine c_seq ?_
      refine za0 ?_
      refine o_q rfl rfl (za2 rfl) ?_
      refine zaz (p := Sh A0_1 l0_1.length l0_1.length) (fun w h => f_sh (dk := kStep) h (fun w h => R0_1.now Z h)) (fun hq2079 => ?_)
      refine o_q rfl rfl (q_ix Try.underlying24 Z89 rfl rfl hq2079 hr2068.get) ?_
      refine o_q rfl rfl (q_ldE G89 Z89 rfl rfl (fun w h => R0_1.now Z h) hr2068.get (fun _ _ h => h) rfl) ?_
      refine o_e rfl (e_alloc V89 rfl) (fun g2080 => ?_)
      refine o_q rfl rfl (q_asg rfl) ?_
      refine o_e rfl (zax (i := 0) rfl rfl rfl Z89 rfl rfl) (fun _ => ?_)
      refine o_end ?_
      refine za1 ?_
      refine c_seq ?_
      refine za0 ?_
      refine o_q rfl rfl (za2 rfl) ?_
      refine zaa h (fun _ hx2082 h => ?_) rfl
      refine o_e rfl (zac 0 Z Try.func90 N90 rfl rfl rfl (fun w P1 hF hB hS hT => impl_Plan_many.calls g1027 a0_0 A2062 c2063 l2061.length l2061 none 0 0 [] hB hF (hT 1 _ rfl).row (hT 1 _ rfl).cap (stab_nil _) (Nat.le_refl 0) (hT 4 _ rfl).box hx2082)) (fun _ => ?_)
      refine o_e rfl (e_lit (vs := [(0, .int .i64 (w64 (a0_0 + (l2061.length : Int))))]) (cs := [.int .i64 (w64 (a0_0 + (l2061.length : Int)))]) (Kd.int .i64) ([w64 (a0_0 + (l2061.length : Int))] : List Int) Try.underlying25 I3 (by decide) rfl (by decide) rfl rfl (fun _ _ => Kd.zao _)) (cur2 (fun A2083 c2084 => ?_))
      refine zaa h (fun l2086 ha2087 h => ?_) rfl
      refine o_e rfl (e_app (i := 6) (j := 0) Try.underlying25 I3 rfl (by decide) (by decide) rfl rfl rfl rfl rfl ha2087) (cur2 (fun A2088 c2089 => ?_))
      refine o_q rfl rfl (q_asg rfl) ?_
      refine o_end ?_
      refine za1 ?_
      refine c_seq ?_
      refine za0 ?_
      refine o_q rfl rfl (za2 rfl) ?_
      refine o_q rfl rfl (za2 rfl) ?_
      refine o_q rfl rfl (q_nil rfl) ?_
      refine o_q rfl rfl (q_f F27_0 rfl) ?_
      refine o_q rfl rfl (q_ldb Y3 rfl (fun w h => B0.now Z h) rfl) ?_
      refine o_q rfl rfl (za2 rfl) ?_
      refine o_q rfl rfl (q_add64 rfl rfl) ?_
      refine zaz (p := Sh A1025 l1024.length l1024.length) (fun w h => f_sh (dk := Kd.bool) h (fun w h => h.zas (i := 4) rfl)) (fun hq2090 => ?_)
      refine zaa h (fun y2092 hg2091 h => ?_) rfl
      refine o_q rfl rfl (q_ix Try.underlying108 Z4 rfl rfl hq2090 hg2091) ?_
      refine o_q rfl rfl (q_lde (off := 0) Y4 rfl rfl (fun w h => h.zas (i := 4) rfl) hg2091 (fun _ _ h => h) rfl) ?_
      refine o_end ?_
      refine za1 ?_
      refine zau _ rfl (fun hb2093 => ?_) (fun hb2093 => ?_)
      · skip
        replace h := bb_t hb2093 h
        refine zaa h (fun y2397 hg2396 h => ?_) rfl
        refine zaa h (fun y2696 hg2695 h => ?_) rfl
        refine zaa h (fun _ hx2815 h => ?_) rfl
        refine zaa h (fun l2935 ha2936 h => ?_) rfl
        refine a_startS (ds := []) [none, some 1, none, some 3, some 4, none, some 6] MO rfl ?_
        refine za5 0 rfl rfl rfl (by kernel_rfl) (fun _ _ _ h => h) (q_f F27_1 rfl) ?_
        refine za5 2 rfl rfl rfl (by kernel_rfl) (fun _ _ _ h => h) (za2 rfl) ?_
        refine za5 3 rfl rfl rfl (by kernel_rfl) (fun _ _ _ h => h) (q_f F89_0 rfl) ?_
        refine zat 4 rfl rfl rfl (by kernel_rfl) (fun _ _ _ h => h) (fun w h => za7 [none, some 1, none, some 3, some 4, none, some 6] (by decide) w h rfl) (q_ldb Y3 rfl (fun w h => h.zab (i := 1) rfl) rfl) ?_
        refine a_fact (p := Sh A2088 l2086.length l2086.length) (fun w h => f_sh (dk := (Kd.int .i64)) h (fun w h => h.zas (i := 6) rfl)) (fun hq2395 => ?_)
        refine za5 5 rfl rfl rfl (by kernel_rfl) (fun _ _ _ h => h) (q_ix Try.underlying25 Z3 rfl rfl hq2395 hg2396) ?_
        refine zat 6 rfl rfl rfl (by kernel_rfl) (fun _ _ _ h => h) (fun w h => za7 [none, some 1, none, some 3, some 4, none, some 6] (by decide) w h rfl) (q_lde (off := 0) Y3 rfl rfl (fun w h => h.zas (i := 6) rfl) hg2396 (fun _ _ h => h) rfl) ?_
        refine za5 7 rfl rfl rfl (by kernel_rfl) (fun _ _ _ h => h) (za2 rfl) ?_
        refine za5 8 rfl rfl rfl (by kernel_rfl) (fun _ _ _ h => h) (q_f F89_1 rfl) ?_
        refine zat 9 rfl rfl rfl (by kernel_rfl) (fun _ _ _ h => h) (fun w h => za7 [none, some 1, none, some 3, some 4, none, some 6] (by decide) w h rfl) (q_ldb Y3 rfl (fun w h => h.zab (i := 1) rfl) rfl) ?_
        refine za5 10 rfl rfl rfl (by kernel_rfl) (fun _ _ _ h => h) (q_ix Try.underlying25 Z3 rfl rfl hq2395 hg2695) ?_
        refine zat 11 rfl rfl rfl (by kernel_rfl) (fun _ _ _ h => h) (fun w h => za7 [none, some 1, none, some 3, some 4, none, some 6] (by decide) w h rfl) (q_lde (off := 0) Y3 rfl rfl (fun w h => h.zas (i := 6) rfl) hg2695 (fun _ _ h => h) rfl) ?_
        refine a_two 1 12 rfl rfl rfl rfl (by kernel_rfl) rfl rfl (ev_q rfl (q_ldb Y24 rfl (fun w h => h.zab (i := 5) rfl) rfl)) (fun s w h => za7 [none, some 1, none, some 3, some 4, none, some 6] (by decide) w h rfl) (zac 0 Z Try.func91 N91 rfl rfl rfl (fun w P1 hF hB hS hT => impl_step.calls y2397 y2696 hB hF hx2815)) (fun s w h => za7 [none, some 1, none, some 3, some 4, none, some 6] (by decide) w h rfl) (fun _ => ?_) (fun _ => ?_)
        · skip
          refine a_one 12 rfl rfl (by kernel_rfl) rfl (zac 0 Z Try.func91 N91 rfl rfl rfl (fun w P1 hF hB hS hT => impl_step.calls y2397 y2696 hB hF hx2815)) (fun s w h => za7 [none, some 1, none, some 3, some 4, none, some 6] (by decide) w h rfl) (fun _ => ?_)
          refine a_one 13 rfl rfl (by kernel_rfl) rfl (e_lit (vs := [(0, .agg #[.int .i64 (mn y2397 y2696), .int .i64 (mx y2397 y2696)])]) (cs := [.int .i64 (mn y2397 y2696), .int .i64 (mx y2397 y2696)]) kStep ([(⟨mn y2397 y2696, mx y2397 y2696⟩ : SStep)] : List SStep) Try.underlying24 I89 (by decide) rfl (by decide) rfl rfl (fun _ _ => reps_flat _)) (fun s w h => za7 [none, some 2, none, some 4, some 5, none, some 7] (by decide) w h rfl) (cur2 (fun A2875 c2876 => ?_))
          refine a_one 14 rfl rfl (by kernel_rfl) rfl (e_app (i := 3) (j := 0) Try.underlying24 I89 rfl (by decide) (by decide) rfl rfl rfl rfl rfl ha2936) (fun s w h => za7 [none, some 2, none, some 4, some 5, none, some 7] (by decide) w h rfl) (cur2 (fun A2937 c2938 => ?_))
          refine za5 15 rfl rfl rfl (by kernel_rfl) (fun _ _ _ h => h) (q_f F27_1 rfl) ?_
          refine a_one 16 rfl rfl (by kernel_rfl) rfl (zay (i := 6) rfl rfl rfl rfl Z24 rfl rfl) (fun s w h => za7 [none, some 2, none, some 4, some 5, none, some 7] (by decide) w h rfl) (fun _ => ?_)
          refine zav (by kernel_rfl) ?_
          refine zal ?_
          refine za1 ?_
          refine za0 ?_
          refine o_q rfl rfl (q_up rfl rfl (hr2068.up hm2069)) ?_
          refine o_q rfl rfl (za2 rfl) ?_
          refine o_end ?_
          refine zak ys2066.length (ys2066, l2086, l2935, i2064 + 1, A2088, c2089, A2937, c2938) (by rw [← hk2074]; exact Nat.lt_succ_self _) ⟨hr2068.step, rfl, h⟩ ⟨rfl, rfl, trivial⟩ (fun w h => za8 [3, 4, 5, 6, 7] (by decide) rfl w h) ?_
          repeat (first | exact zad _ _ | refine zah rfl ?_ | refine zae rfl ?_ | refine zai rfl ?_)
        · skip
          refine a_two 1 13 rfl rfl rfl rfl (by kernel_rfl) rfl rfl (ev_q rfl (q_ldb Y24 rfl (fun w h => h.zab (i := 5) rfl) rfl)) (fun s w h => za7 [none, some 1, none, some 3, some 4, none, some 6] (by decide) w h rfl) (e_lit (vs := [(0, .agg #[.int .i64 (mn y2397 y2696), .int .i64 (mx y2397 y2696)])]) (cs := [.int .i64 (mn y2397 y2696), .int .i64 (mx y2397 y2696)]) kStep ([(⟨mn y2397 y2696, mx y2397 y2696⟩ : SStep)] : List SStep) Try.underlying24 I89 (by decide) rfl (by decide) rfl rfl (fun _ _ => reps_flat _)) (fun s w h => za7 [none, some 2, none, some 4, some 5, none, some 7] (by decide) w h rfl) (fun _ => ?_) (cur2 (fun A2875 c2876 => ?_))
          · skip
            refine a_one 13 rfl rfl (by kernel_rfl) rfl (e_lit (vs := [(0, .agg #[.int .i64 (mn y2397 y2696), .int .i64 (mx y2397 y2696)])]) (cs := [.int .i64 (mn y2397 y2696), .int .i64 (mx y2397 y2696)]) kStep ([(⟨mn y2397 y2696, mx y2397 y2696⟩ : SStep)] : List SStep) Try.underlying24 I89 (by decide) rfl (by decide) rfl rfl (fun _ _ => reps_flat _)) (fun s w h => za7 [none, some 2, none, some 4, some 5, none, some 7] (by decide) w h rfl) (cur2 (fun A2875 c2876 => ?_))
            refine a_one 14 rfl rfl (by kernel_rfl) rfl (e_app (i := 3) (j := 0) Try.underlying24 I89 rfl (by decide) (by decide) rfl rfl rfl rfl rfl ha2936) (fun s w h => za7 [none, some 2, none, some 4, some 5, none, some 7] (by decide) w h rfl) (cur2 (fun A2937 c2938 => ?_))
            refine za5 15 rfl rfl rfl (by kernel_rfl) (fun _ _ _ h => h) (q_f F27_1 rfl) ?_
            refine a_one 16 rfl rfl (by kernel_rfl) rfl (zay (i := 6) rfl rfl rfl rfl Z24 rfl rfl) (fun s w h => za7 [none, some 2, none, some 4, some 5, none, some 7] (by decide) w h rfl) (fun _ => ?_)
            refine zav (by kernel_rfl) ?_
            refine zal ?_
            refine za1 ?_
            refine za0 ?_
            refine o_q rfl rfl (q_up rfl rfl (hr2068.up hm2069)) ?_
            refine o_q rfl rfl (za2 rfl) ?_
            refine o_end ?_
            refine zak ys2066.length (ys2066, l2086, l2935, i2064 + 1, A2088, c2089, A2937, c2938) (by rw [← hk2074]; exact Nat.lt_succ_self _) ⟨hr2068.step, rfl, h⟩ ⟨rfl, rfl, trivial⟩ (fun w h => za8 [3, 4, 5, 6, 7] (by decide) rfl w h) ?_
            repeat (first | exact zad _ _ | refine zah rfl ?_ | refine zae rfl ?_ | refine zai rfl ?_)
          · skip
            refine a_one 1 rfl rfl (by kernel_rfl) rfl (ev_q rfl (q_ldb Y24 rfl (fun w h => h.zab (i := 6) rfl) rfl)) (fun s w h => za7 [none, some 2, none, some 4, some 5, none, some 7] (by decide) w h rfl) (fun _ => ?_)
            refine a_one 14 rfl rfl (by kernel_rfl) rfl (e_app (i := 3) (j := 0) Try.underlying24 I89 rfl (by decide) (by decide) rfl rfl rfl rfl rfl ha2936) (fun s w h => za7 [none, some 2, none, some 4, some 5, none, some 7] (by decide) w h rfl) (cur2 (fun A2937 c2938 => ?_))
            refine za5 15 rfl rfl rfl (by kernel_rfl) (fun _ _ _ h => h) (q_f F27_1 rfl) ?_
            refine a_one 16 rfl rfl (by kernel_rfl) rfl (zay (i := 6) rfl rfl rfl rfl Z24 rfl rfl) (fun s w h => za7 [none, some 2, none, some 4, some 5, none, some 7] (by decide) w h rfl) (fun _ => ?_)
            refine zav (by kernel_rfl) ?_
            refine zal ?_
            refine za1 ?_
            refine za0 ?_
            refine o_q rfl rfl (q_up rfl rfl (hr2068.up hm2069)) ?_
            refine o_q rfl rfl (za2 rfl) ?_
            refine o_end ?_
            refine zak ys2066.length (ys2066, l2086, l2935, i2064 + 1, A2088, c2089, A2937, c2938) (by rw [← hk2074]; exact Nat.lt_succ_self _) ⟨hr2068.step, rfl, h⟩ ⟨rfl, rfl, trivial⟩ (fun w h => za8 [3, 4, 5, 6, 7] (by decide) rfl w h) ?_
            repeat (first | exact zad _ _ | refine zah rfl ?_ | refine zae rfl ?_ | refine zai rfl ?_)
      · skip
        replace h := bb_f hb2093 h
        refine zan ?_
        refine zal ?_
        refine za1 ?_
        refine za0 ?_
        refine o_q rfl rfl (q_up rfl rfl (hr2068.up hm2069)) ?_
        refine o_q rfl rfl (za2 rfl) ?_
        refine o_end ?_
        refine zak ys2066.length (ys2066, l2086, l2061, i2064 + 1, A2088, c2089, A2062, c2063) (by rw [← hk2074]; exact Nat.lt_succ_self _) ⟨hr2068.step, rfl, h⟩ ⟨rfl, rfl, trivial⟩ (fun w h => za8 [2, 3, 4, 5, 6] (by decide) rfl w h) ?_
        repeat (first | exact zad _ _ | refine zah rfl ?_ | refine zae rfl ?_ | refine zai rfl ?_)

/-! ### loop.example/g01098/impl.SharePlan: function 35 -/
def impl_SharePlan.l0 (l9 : List Int) : (List SStep) → (List SStep) → Int → Option (List SStep)
  | [], l1224, i1227 => some l1224
  | y1228 :: ys1229, l1224, i1227 => (gt l9 y1228.f0).bind fun y1551 => (gt l9 y1228.f1).bind fun y1850 => (impl_step.f y1551 y1850).bind fun _ => (ap l1224 ([(⟨mn y1551 y1850, mx y1551 y1850⟩ : SStep)] : List SStep)).bind fun l2089 => impl_SharePlan.l0 l9 ys1229 l2089 (i1227 + 1)
def impl_SharePlan.f (k : Nat) (a0_0 : Int) (l0_1 : List SStep) (l0_2 : List Int) : Option (Int × (List SStep) × (List Int) × Bool) := (impl_IsPlan.f k a0_0 l0_1 l0_2).bind fun b6 => if b6 = true then ((impl_Plan_firstSame.f a0_0 l0_1 l0_2).bind fun l9 => ((impl_renamed.f l0_2 l9).bind fun l924 => some l924).bind fun l614 => (impl_SharePlan.l0 l9 l0_1 ([] : List SStep) 0).bind fun l1224 => (impl_Plan_trimmed.f a0_0 l1224 l614).bind fun (l1239, l1240) => some (a0_0, l1239, l1240, true)) else (some (0, ([] : List SStep), ([] : List Int), false))
set_option maxHeartbeats 600000 in
set_option maxRecDepth 100000 in
theorem impl_SharePlan.calls (k : Nat) {w0 ws : World} {P0 : Nat → Prop} (a0_0 : Int) (A0_1 : Option Addr) (c0_1 : Nat) (n0_1 : Nat) (l0_1 : List SStep) (A0_2 : Option Addr) (c0_2 : Nat) (n0_2 : Nat) (l0_2 : List Int) (Z : Below w0.heap.size w0 ws) (hF : Fr w0 ws P0 [] ws) (R0_1 : Stable ws P0 (fun w => Kd.C kStep w A0_1 n0_1 l0_1)) (hc0_1 : n0_1 ≤ c0_1) (R0_2 : Stable ws P0 (fun w => Kd.C (Kd.int .i64) w A0_2 n0_2 l0_2)) (hc0_2 : n0_2 ≤ c0_2) (r_1 : Int) (r_2 : List SStep) (r_5 : List Int) (r_8 : Bool) (h : impl_SharePlan.f k a0_0 l0_1 l0_2 = some (r_1, r_2, r_5, r_8)) :
    Calls Try.prog 35 #[.agg #[.int .i64 a0_0, .slice A0_1 n0_1 c0_1, .slice A0_2 n0_2 c0_2]] ws (Post1 w0 ws P0 (fun ((q_3, q_4, q_6, q_7) : (Option Addr) × Nat × (Option Addr) × Nat) => .tuple #[.agg #[.int .i64 r_1, .slice q_3 r_2.length q_4, .slice q_6 r_5.length q_7], .bool r_8]) (fun ((q_3, q_4, q_6, q_7) : (Option Addr) × Nat × (Option Addr) × Nat) => [row kStep 89 (.slice q_3 r_2.length q_4) r_2, row (Kd.int .i64) 3 (.slice q_6 r_5.length q_7) r_5])) := by
  unfold impl_SharePlan.f at h
  obtain rfl := (R0_1 ws (KeptB.refl _ _)).1
  obtain rfl := (R0_2 ws (KeptB.refl _ _)).1
  refine enter Try.func35 rfl Try.ntmps35 rfl hF ?_
  refine c_seq ?_
  refine za0 ?_
  refine o_e rfl (e_box rfl) (fun g1 => ?_)
  refine o_e rfl (e_alloc V27 rfl) (fun g3 => ?_)
  refine o_q rfl rfl (q_asg rfl) ?_
  refine o_end ?_
  refine za1 ?_
  refine c_seq ?_
  refine c_seq ?_
  refine za0 ?_
  refine o_q rfl rfl (q_ldB G27 Z27 rfl (fun w h => h.zab (i := 1) rfl) rfl) ?_
  refine zaa h (fun b6 hx5 h => ?_) rfl
  refine o_e rfl (zac 0 Z Try.func86 N86 rfl rfl rfl (fun w P1 hF hB hS hT => impl_IsPlan.calls k a0_0 A0_1 c0_1 l0_1.length l0_1 A0_2 c0_2 l0_2.length l0_2 hB hF (hS _ R0_1) hc0_1 (hS _ R0_2) hc0_2 _ hx5)) (fun _ => ?_)
  refine o_q rfl rfl (q_not rfl) ?_
  refine o_end ?_
  refine za1 ?_
  refine zau _ rfl (fun hb7 => ?_) (fun hb7 => ?_)
  · replace hb7 := nt_t hb7
    replace h := bb_f hb7 h
    refine c_seq ?_
    refine za0 ?_
    refine o_q rfl rfl (q_build (vs := []) (cs := [.int .i64 0, .slice none 0 0, .slice none 0 0]) rfl rfl) ?_
    refine o_e rfl (zax (i := 0) rfl rfl rfl Z27 rfl rfl) (fun _ => ?_)
    refine o_q rfl rfl (q_asg rfl) ?_
    refine o_end ?_
    refine za1 ?_
    refine c_ret ?_
    refine za9 ?_
    refine x_nil kStep 89 ?_
    refine x_nil (Kd.int .i64) 3 ?_
    have e0_ := Option.some.inj h; clear h
    have d0_ := (Prod.mk.inj e0_).1; have e1_ := (Prod.mk.inj e0_).2; clear e0_; subst d0_
    have d1_ := (Prod.mk.inj e1_).1; have e2_ := (Prod.mk.inj e1_).2; clear e1_; subst d1_
    have d2_ := (Prod.mk.inj e2_).1; have e3_ := (Prod.mk.inj e2_).2; clear e2_; subst d2_
    subst e3_
    exact x_r2 (none, 0, none, 0) Try.results35 (rv_cell rfl G27 Z27 (fun w h => h.zab (i := 2) rfl) rfl) (zaf rfl) rfl (fun w h => za8 [1, 0] (by decide) rfl w h)
  · replace hb7 := nt_f hb7
    replace h := bb_t hb7 h
    refine zan ?_
    refine za1 ?_
    refine c_seq ?_
    refine za0 ?_
    refine zaa h (fun l9 hx8 h => ?_) rfl
    refine o_e rfl (zac 0 Z Try.func115 N115 rfl rfl rfl (fun w P1 hF hB hS hT => impl_Plan_firstSame.calls g1 a0_0 A0_1 c0_1 l0_1.length l0_1 A0_2 c0_2 l0_2.length l0_2 hB hF (hS _ R0_1) hc0_1 (hS _ R0_2) hc0_2 (hT 1 _ rfl).box _ hx8)) (cur2 (fun A10 c11 => ?_))
    refine o_q rfl rfl (q_asg rfl) ?_
    refine o_end ?_
    refine za1 ?_
    refine zaa h (fun o617 hl618 hR619 => ?_) rfl
    clear h
    refine c_cutJ (σ := (List Int) × Nat × (Option Addr) × Nat) (fun (l614, g613, A615, c616) => some l614 = some o617) [5, 13, 14, 15, 16, 17, 18, 19] (fun (l614, g613, A615, c616) => [(5, .pointer (some ⟨g613, 0, none⟩))]) (fun (l614, g613, A615, c616) => [box g1 27 #[.int .i64 a0_0, .slice A0_1 l0_1.length c0_1, .slice A0_2 l0_2.length c0_2], box g3 27 #[.int .i64 0, .slice none 0 0, .slice none 0 0], row (Kd.int .i64) 3 (.slice A10 l9.length c11) l9, box g613 27 #[.int .i64 a0_0, .slice none 0 0, .slice A615 l614.length c616], row (Kd.int .i64) 3 (.slice A615 l614.length c616) l614]) ?_ ?_
    · skip
      have h := hl618; clear hl618
      clear hR619
      refine zaa h (fun l924 hx923 h => ?_) rfl
      refine a_start (ds := []) MO rfl ?_
      refine za5 0 rfl rfl rfl (by kernel_rfl) (fun _ _ _ h => h) (q_f F27_0 rfl) ?_
      refine zat 1 rfl rfl rfl (by kernel_rfl) (fun _ _ _ h => h) (fun w h => h) (q_ldb Y3 rfl (fun w h => h.zab (i := 2) rfl) rfl) ?_
      refine za5 2 rfl rfl rfl (by kernel_rfl) (fun _ _ _ h => h) (q_f F27_2 rfl) ?_
      refine zat 3 rfl rfl rfl (by kernel_rfl) (fun _ _ _ h => h) (fun w h => h) (q_ldb Y25 rfl (fun w h => h.zab (i := 2) rfl) rfl) ?_
      refine za5 4 rfl rfl rfl (by kernel_rfl) (fun _ _ _ h => h) (za2 rfl) ?_
      refine a_two 5 7 rfl rfl rfl rfl (by kernel_rfl) rfl rfl (zac 0 Z Try.func92 N92 rfl rfl rfl (fun w P1 hF hB hS hT => impl_renamed.calls A0_2 c0_2 l0_2.length l0_2 A10 c11 l9.length l9 hB hF (hS _ R0_2) hc0_2 (hT 0 _ rfl).row (hT 0 _ rfl).cap _ hx923)) (fun s w h => za7 [some 1, some 2, some 3] (by decide) w h rfl) (e_alloc V27 rfl) (fun s w h => za7 [some 1, some 2, some 3] (by decide) w h rfl) (cur2 (fun A925 c926 => ?_)) (fun g1043 => ?_)
      · skip
        refine za5 6 rfl rfl rfl (by kernel_rfl) (fun _ _ _ h => h) (q_build (vs := [(0, .int .i64 a0_0), (2, .slice A925 l924.length c926)]) (cs := [.int .i64 a0_0, .slice none 0 0, .slice A925 l924.length c926]) rfl rfl) ?_
        refine a_one 7 rfl rfl (by kernel_rfl) rfl (e_alloc V27 rfl) (fun s w h => za7 [some 2, some 3, some 4] (by decide) w h rfl) (fun g1043 => ?_)
        refine a_one 8 rfl rfl (by kernel_rfl) rfl (zax (i := 0) rfl rfl rfl Z27 rfl rfl) (fun s w h => za7 [some 2, some 3, some 4] (by decide) w h rfl) (fun _ => ?_)
        refine zav (by kernel_rfl) ?_
        refine x_meetJ (l924, g1043, A925, c926) h ⟨rfl, trivial⟩ (fun w h => za8 [4, 3, 2, 0, 1] (by decide) rfl w h) ?_
        repeat (first | exact zad _ _ | refine zah rfl ?_ | refine zae rfl ?_ | refine zai rfl ?_)
      · skip
        refine a_one 5 rfl rfl (by kernel_rfl) rfl (zac 0 Z Try.func92 N92 rfl rfl rfl (fun w P1 hF hB hS hT => impl_renamed.calls A0_2 c0_2 l0_2.length l0_2 A10 c11 l9.length l9 hB hF (hS _ R0_2) hc0_2 (hT 1 _ rfl).row (hT 1 _ rfl).cap _ hx923)) (fun s w h => za7 [some 2, some 3, some 4] (by decide) w h rfl) (cur2 (fun A925 c926 => ?_))
        refine za5 6 rfl rfl rfl (by kernel_rfl) (fun _ _ _ h => h) (q_build (vs := [(0, .int .i64 a0_0), (2, .slice A925 l924.length c926)]) (cs := [.int .i64 a0_0, .slice none 0 0, .slice A925 l924.length c926]) rfl rfl) ?_
        refine a_one 8 rfl rfl (by kernel_rfl) rfl (zax (i := 1) rfl rfl rfl Z27 rfl rfl) (fun s w h => za7 [some 2, some 3, some 4] (by decide) w h rfl) (fun _ => ?_)
        refine zav (by kernel_rfl) ?_
        refine x_meetJ (l924, g1043, A925, c926) h ⟨rfl, trivial⟩ (fun w h => za8 [4, 3, 2, 1, 0] (by decide) rfl w h) ?_
        repeat (first | exact zad _ _ | refine zah rfl ?_ | refine zae rfl ?_ | refine zai rfl ?_)
    · skip
      refine (cur4 (fun l614 g613 A615 c616 => fun U620 hJ621 => ?_))
      have e_ := Option.some.inj hJ621; have h := hR619; rw [← e_] at h; clear e_ hJ621 hR619 hl618
      refine c_seq ?_
      refine c_seq ?_
      refine za0 ?_
      refine o_q rfl rfl (q_f F27_1 rfl) ?_
      refine o_q rfl rfl (q_ldb Y24 rfl (fun w h => h.zab (i := 0) rfl) rfl) ?_
      refine o_q rfl rfl (q_len Try.underlying24 rfl) ?_
      refine o_q rfl rfl (za2 rfl) ?_
      refine o_end ?_
      refine za1 ?_
      refine zaj ?_
      refine c_nil kStep 89 ?_
      refine zaa h (fun o1235 hl1234 hR1233 => ?_) rfl
      clear h
      refine c_fact (p := l0_1.length ≤ 9223372036854775807) (fun w h => (R0_1.now Z h).2.1) (fun hm1232 => ?_)
      refine zaw (σ := (List SStep) × (List SStep) × Int × (Option Addr) × Nat) (fun k1230 ((ys1229, l1224, i1227, A1225, c1226) : (List SStep) × (List SStep) × Int × (Option Addr) × Nat) => Rg l0_1 i1227 ys1229 ∧ ys1229.length = k1230 ∧ impl_SharePlan.l0 l9 ys1229 l1224 i1227 = some o1235) [7, 23, 24, 25, 26, 27, 28, 29, 30, 31, 32, 33, 34, 35, 36, 37, 38, 39, 40, 41, 42, 43] (fun ((ys1229, l1224, i1227, A1225, c1226) : (List SStep) × (List SStep) × Int × (Option Addr) × Nat) => [(23, .int .i64 i1227)]) (fun ((ys1229, l1224, i1227, A1225, c1226) : (List SStep) × (List SStep) × Int × (Option Addr) × Nat) => [row kStep 89 (.slice A1225 l1224.length c1226) l1224, box g1 27 #[.int .i64 a0_0, .slice A0_1 l0_1.length c0_1, .slice A0_2 l0_2.length c0_2], box g3 27 #[.int .i64 0, .slice none 0 0, .slice none 0 0], row (Kd.int .i64) 3 (.slice A10 l9.length c11) l9, box g613 27 #[.int .i64 a0_0, .slice A1225 l1224.length c1226, .slice A615 l614.length c616], row (Kd.int .i64) 3 (.slice A615 l614.length c616) l614]) l0_1.length (l0_1, ([] : List SStep), 0, none, 0) ⟨Rg.start _, rfl, hl1234⟩ ⟨rfl, trivial⟩ (fun w h => h) ?_
      refine fun k1230 => cur5 (listC (fun l1224 i1227 A1225 c1226 U1236 hJ_ => ?_) (fun y1228 ys1229 l1224 i1227 A1225 c1226 U1236 hJ_ => ?_))
      · skip
        clear hl1234
        have hr1231 := hJ_.1; have hk1237 := hJ_.2.1; have h := hJ_.2.2; clear hJ_
        replace h : impl_SharePlan.l0 l9 [] l1224 i1227 = some o1235 := h
        rw [impl_SharePlan.l0] at h
        refine c_seq ?_
        refine za0 ?_
        refine o_q rfl rfl (q_lss rfl rfl) ?_
        refine o_end ?_
        refine za1 ?_
        refine c_seq ?_
        refine c_false (congrArg Value.bool hr1231.ge) ?_
        refine c_exit ?_
        refine za6 ?_
        refine za6 ?_
        have e_ := Option.some.inj h; replace h := hR1233; rw [← e_] at h; clear e_
        refine x_hit ?_
        refine za1 ?_
        refine c_seq ?_
        refine za0 ?_
        refine bindE2 h (fun l1239 l1240 hx1238 h => ?_) rfl
        refine o_e rfl (zac 0 Z Try.func110 N110 rfl rfl rfl (fun w P1 hF hB hS hT => impl_Plan_trimmed.calls g613 a0_0 A1225 c1226 l1224.length l1224 A615 c616 l614.length l614 hB hF (hT 0 _ rfl).row (hT 0 _ rfl).cap (hT 5 _ rfl).row (hT 5 _ rfl).cap (hT 4 _ rfl).box _ _ hx1238)) (cur4 (fun A1241 c1242 A1243 c1244 => ?_))
        refine o_e rfl (zax (i := 4) rfl rfl rfl Z27 rfl rfl) (fun _ => ?_)
        refine o_q rfl rfl (q_asg rfl) ?_
        refine o_end ?_
        refine za1 ?_
        refine c_ret ?_
        have e0_ := Option.some.inj h; clear h
        have d0_ := (Prod.mk.inj e0_).1; have e1_ := (Prod.mk.inj e0_).2; clear e0_; subst d0_
        have d1_ := (Prod.mk.inj e1_).1; have e2_ := (Prod.mk.inj e1_).2; clear e1_; subst d1_
        have d2_ := (Prod.mk.inj e2_).1; have e3_ := (Prod.mk.inj e2_).2; clear e2_; subst d2_
        subst e3_
        exact x_r2 (A1241, c1242, A1243, c1244) Try.results35 (rv_cell rfl G27 Z27 (fun w h => h.zab (i := 4) rfl) rfl) (zaf rfl) rfl (fun w h => za8 [0, 1] (by decide) rfl w h)
      · skip
        clear hl1234
        have hr1231 := hJ_.1; have hk1237 := hJ_.2.1; have h := hJ_.2.2; clear hJ_
        replace h : impl_SharePlan.l0 l9 (y1228 :: ys1229) l1224 i1227 = some o1235 := h
        rw [impl_SharePlan.l0] at h
        refine c_seq ?_
        refine za0 ?_
        refine o_q rfl rfl (q_lss rfl rfl) ?_
        refine o_end ?_
        refine za1 ?_
        refine c_seq ?_
        refine c_true (congrArg Value.bool hr1231.lt) ?_
        refine zan ?_
        refine za1 ?_
        refine c_seq ?_
        refine zaj ?_
        refine c_seq ?_
        refine za0 ?_
        refine zaz (p := Sh A0_1 l0_1.length l0_1.length) (fun w h => f_sh (dk := kStep) h (fun w h => R0_1.now Z h)) (fun hq1245 => ?_)
        refine o_q rfl rfl (q_ix Try.underlying24 Z89 rfl rfl hq1245 hr1231.get) ?_
        refine o_q rfl rfl (q_ldE G89 Z89 rfl rfl (fun w h => R0_1.now Z h) hr1231.get (fun _ _ h => h) rfl) ?_
        refine o_e rfl (e_alloc V89 rfl) (fun g1246 => ?_)
        refine o_e rfl (zax (i := 0) rfl rfl rfl Z89 rfl rfl) (fun _ => ?_)
        refine o_end ?_
        refine za1 ?_
        refine zaa h (fun y1551 hg1550 h => ?_) rfl
        refine zaa h (fun y1850 hg1849 h => ?_) rfl
        refine zaa h (fun _ hx1969 h => ?_) rfl
        refine zaa h (fun l2089 ha2090 h => ?_) rfl
        refine a_startS (ds := []) [some 0, none, some 2, some 3, some 4, none, some 6] MO rfl ?_
        refine za5 0 rfl rfl rfl (by kernel_rfl) (fun _ _ _ h => h) (q_f F27_1 rfl) ?_
        refine za5 2 rfl rfl rfl (by kernel_rfl) (fun _ _ _ h => h) (za2 rfl) ?_
        refine za5 3 rfl rfl rfl (by kernel_rfl) (fun _ _ _ h => h) (q_f F89_0 rfl) ?_
        refine zat 4 rfl rfl rfl (by kernel_rfl) (fun _ _ _ h => h) (fun w h => za7 [some 0, none, some 2, some 3, some 4, none, some 6] (by decide) w h rfl) (q_ldb Y3 rfl (fun w h => h.zab (i := 0) rfl) rfl) ?_
        refine a_fact (p := Sh A10 l9.length l9.length) (fun w h => f_sh (dk := (Kd.int .i64)) h (fun w h => h.zas (i := 4) rfl)) (fun hq1549 => ?_)
        refine za5 5 rfl rfl rfl (by kernel_rfl) (fun _ _ _ h => h) (q_ix Try.underlying25 Z3 rfl rfl hq1549 hg1550) ?_
        refine zat 6 rfl rfl rfl (by kernel_rfl) (fun _ _ _ h => h) (fun w h => za7 [some 0, none, some 2, some 3, some 4, none, some 6] (by decide) w h rfl) (q_lde (off := 0) Y3 rfl rfl (fun w h => h.zas (i := 4) rfl) hg1550 (fun _ _ h => h) rfl) ?_
        refine za5 7 rfl rfl rfl (by kernel_rfl) (fun _ _ _ h => h) (za2 rfl) ?_
        refine za5 8 rfl rfl rfl (by kernel_rfl) (fun _ _ _ h => h) (q_f F89_1 rfl) ?_
        refine zat 9 rfl rfl rfl (by kernel_rfl) (fun _ _ _ h => h) (fun w h => za7 [some 0, none, some 2, some 3, some 4, none, some 6] (by decide) w h rfl) (q_ldb Y3 rfl (fun w h => h.zab (i := 0) rfl) rfl) ?_
        refine za5 10 rfl rfl rfl (by kernel_rfl) (fun _ _ _ h => h) (q_ix Try.underlying25 Z3 rfl rfl hq1549 hg1849) ?_
        refine zat 11 rfl rfl rfl (by kernel_rfl) (fun _ _ _ h => h) (fun w h => za7 [some 0, none, some 2, some 3, some 4, none, some 6] (by decide) w h rfl) (q_lde (off := 0) Y3 rfl rfl (fun w h => h.zas (i := 4) rfl) hg1849 (fun _ _ h => h) rfl) ?_
        refine a_two 1 12 rfl rfl rfl rfl (by kernel_rfl) rfl rfl (ev_q rfl (q_ldb Y24 rfl (fun w h => h.zab (i := 5) rfl) rfl)) (fun s w h => za7 [some 0, none, some 2, some 3, some 4, none, some 6] (by decide) w h rfl) (zac 0 Z Try.func91 N91 rfl rfl rfl (fun w P1 hF hB hS hT => impl_step.calls y1551 y1850 hB hF hx1969)) (fun s w h => za7 [some 0, none, some 2, some 3, some 4, none, some 6] (by decide) w h rfl) (fun _ => ?_) (fun _ => ?_)
        · skip
          refine a_one 12 rfl rfl (by kernel_rfl) rfl (zac 0 Z Try.func91 N91 rfl rfl rfl (fun w P1 hF hB hS hT => impl_step.calls y1551 y1850 hB hF hx1969)) (fun s w h => za7 [some 0, none, some 2, some 3, some 4, none, some 6] (by decide) w h rfl) (fun _ => ?_)
          refine a_one 13 rfl rfl (by kernel_rfl) rfl (e_lit (vs := [(0, .agg #[.int .i64 (mn y1551 y1850), .int .i64 (mx y1551 y1850)])]) (cs := [.int .i64 (mn y1551 y1850), .int .i64 (mx y1551 y1850)]) kStep ([(⟨mn y1551 y1850, mx y1551 y1850⟩ : SStep)] : List SStep) Try.underlying24 I89 (by decide) rfl (by decide) rfl rfl (fun _ _ => reps_flat _)) (fun s w h => za7 [some 1, none, some 3, some 4, some 5, none, some 7] (by decide) w h rfl) (cur2 (fun A2029 c2030 => ?_))
          refine a_one 14 rfl rfl (by kernel_rfl) rfl (e_app (i := 2) (j := 0) Try.underlying24 I89 rfl (by decide) (by decide) rfl rfl rfl rfl rfl ha2090) (fun s w h => za7 [some 1, none, some 3, some 4, some 5, none, some 7] (by decide) w h rfl) (cur2 (fun A2091 c2092 => ?_))
          refine za5 15 rfl rfl rfl (by kernel_rfl) (fun _ _ _ h => h) (q_f F27_1 rfl) ?_
          refine a_one 16 rfl rfl (by kernel_rfl) rfl (zay (i := 6) rfl rfl rfl rfl Z24 rfl rfl) (fun s w h => za7 [some 1, none, some 3, some 4, some 5, none, some 7] (by decide) w h rfl) (fun _ => ?_)
          refine zav (by kernel_rfl) ?_
          refine zal ?_
          refine za1 ?_
          refine za0 ?_
          refine o_q rfl rfl (q_up rfl rfl (hr1231.up hm1232)) ?_
          refine o_q rfl rfl (za2 rfl) ?_
          refine o_end ?_
          refine zak ys1229.length (ys1229, l2089, i1227 + 1, A2091, c2092) (by rw [← hk1237]; exact Nat.lt_succ_self _) ⟨hr1231.step, rfl, h⟩ ⟨rfl, trivial⟩ (fun w h => za8 [2, 3, 4, 5, 6, 7] (by decide) rfl w h) ?_
          repeat (first | exact zad _ _ | refine zah rfl ?_ | refine zae rfl ?_ | refine zai rfl ?_)
        · skip
          refine a_two 1 13 rfl rfl rfl rfl (by kernel_rfl) rfl rfl (ev_q rfl (q_ldb Y24 rfl (fun w h => h.zab (i := 5) rfl) rfl)) (fun s w h => za7 [some 0, none, some 2, some 3, some 4, none, some 6] (by decide) w h rfl) (e_lit (vs := [(0, .agg #[.int .i64 (mn y1551 y1850), .int .i64 (mx y1551 y1850)])]) (cs := [.int .i64 (mn y1551 y1850), .int .i64 (mx y1551 y1850)]) kStep ([(⟨mn y1551 y1850, mx y1551 y1850⟩ : SStep)] : List SStep) Try.underlying24 I89 (by decide) rfl (by decide) rfl rfl (fun _ _ => reps_flat _)) (fun s w h => za7 [some 1, none, some 3, some 4, some 5, none, some 7] (by decide) w h rfl) (fun _ => ?_) (cur2 (fun A2029 c2030 => ?_))
          · skip
            refine a_one 13 rfl rfl (by kernel_rfl) rfl (e_lit (vs := [(0, .agg #[.int .i64 (mn y1551 y1850), .int .i64 (mx y1551 y1850)])]) (cs := [.int .i64 (mn y1551 y1850), .int .i64 (mx y1551 y1850)]) kStep ([(⟨mn y1551 y1850, mx y1551 y1850⟩ : SStep)] : List SStep) Try.underlying24 I89 (by decide) rfl (by decide) rfl rfl (fun _ _ => reps_flat _)) (fun s w h => za7 [some 1, none, some 3, some 4, some 5, none, some 7] (by decide) w h rfl) (cur2 (fun A2029 c2030 => ?_))
            refine a_one 14 rfl rfl (by kernel_rfl) rfl (e_app (i := 2) (j := 0) Try.underlying24 I89 rfl (by decide) (by decide) rfl rfl rfl rfl rfl ha2090) (fun s w h => za7 [some 1, none, some 3, some 4, some 5, none, some 7] (by decide) w h rfl) (cur2 (fun A2091 c2092 => ?_))
            refine za5 15 rfl rfl rfl (by kernel_rfl) (fun _ _ _ h => h) (q_f F27_1 rfl) ?_
            refine a_one 16 rfl rfl (by kernel_rfl) rfl (zay (i := 6) rfl rfl rfl rfl Z24 rfl rfl) (fun s w h => za7 [some 1, none, some 3, some 4, some 5, none, some 7] (by decide) w h rfl) (fun _ => ?_)
            refine zav (by kernel_rfl) ?_
            refine zal ?_
            refine za1 ?_
            refine za0 ?_
            refine o_q rfl rfl (q_up rfl rfl (hr1231.up hm1232)) ?_
            refine o_q rfl rfl (za2 rfl) ?_
            refine o_end ?_
            refine zak ys1229.length (ys1229, l2089, i1227 + 1, A2091, c2092) (by rw [← hk1237]; exact Nat.lt_succ_self _) ⟨hr1231.step, rfl, h⟩ ⟨rfl, trivial⟩ (fun w h => za8 [2, 3, 4, 5, 6, 7] (by decide) rfl w h) ?_
            repeat (first | exact zad _ _ | refine zah rfl ?_ | refine zae rfl ?_ | refine zai rfl ?_)
          · skip
            refine a_one 1 rfl rfl (by kernel_rfl) rfl (ev_q rfl (q_ldb Y24 rfl (fun w h => h.zab (i := 6) rfl) rfl)) (fun s w h => za7 [some 1, none, some 3, some 4, some 5, none, some 7] (by decide) w h rfl) (fun _ => ?_)
            refine a_one 14 rfl rfl (by kernel_rfl) rfl (e_app (i := 2) (j := 0) Try.underlying24 I89 rfl (by decide) (by decide) rfl rfl rfl rfl rfl ha2090) (fun s w h => za7 [some 1, none, some 3, some 4, some 5, none, some 7] (by decide) w h rfl) (cur2 (fun A2091 c2092 => ?_))
            refine za5 15 rfl rfl rfl (by kernel_rfl) (fun _ _ _ h => h) (q_f F27_1 rfl) ?_
            refine a_one 16 rfl rfl (by kernel_rfl) rfl (zay (i := 6) rfl rfl rfl rfl Z24 rfl rfl) (fun s w h => za7 [some 1, none, some 3, some 4, some 5, none, some 7] (by decide) w h rfl) (fun _ => ?_)
            refine zav (by kernel_rfl) ?_
            refine zal ?_
            refine za1 ?_
            refine za0 ?_
            refine o_q rfl rfl (q_up rfl rfl (hr1231.up hm1232)) ?_
            refine o_q rfl rfl (za2 rfl) ?_
            refine o_end ?_
            refine zak ys1229.length (ys1229, l2089, i1227 + 1, A2091, c2092) (by rw [← hk1237]; exact Nat.lt_succ_self _) ⟨hr1231.step, rfl, h⟩ ⟨rfl, trivial⟩ (fun w h => za8 [2, 3, 4, 5, 6, 7] (by decide) rfl w h) ?_
            repeat (first | exact zad _ _ | refine zah rfl ?_ | refine zae rfl ?_ | refine zai rfl ?_)

/-! ### loop.example/g01098/spec.l1In: function 94 -/
def spec_l1In.f (a0 : Int) (a1 : Int) (a2 : Int) : Option Bool := if a1 ≤ a0 then (some (decide (a0 ≤ a2))) else (some false)
set_option maxHeartbeats 600000 in
set_option maxRecDepth 100000 in
theorem spec_l1In.calls {w0 ws : World} {P0 : Nat → Prop} (a0 : Int) (a1 : Int) (a2 : Int) (Z : Below w0.heap.size w0 ws) (hF : Fr w0 ws P0 [] ws)  (r_1 : Bool) (h : spec_l1In.f a0 a1 a2 = some r_1) :
    Calls Try.prog 94 #[.int .i64 a0, .int .i64 a1, .int .i64 a2] ws (Post1 w0 ws P0 (fun (_ : Unit) => .bool r_1) (fun (_ : Unit) => [])) := by
  unfold spec_l1In.f at h
  refine enter Try.func94 rfl Try.ntmps94 rfl hF ?_
  refine c_seq ?_
  refine za0 ?_
  refine o_q rfl rfl (q_asg rfl) ?_
  refine o_end ?_
  refine za1 ?_
  refine c_seq ?_
  refine za0 ?_
  refine o_q rfl rfl (za2 rfl) ?_
  refine o_q rfl rfl (za2 rfl) ?_
  refine o_q rfl rfl (q_geq rfl rfl) ?_
  refine o_q rfl rfl (za2 rfl) ?_
  refine byB (decide (a1 ≤ a0)) (fun hb1 => ?_) (fun hb1 => ?_)
  · replace h := br_t hb1 h
    refine o_w (za4 rfl rfl rfl (congrArg Value.bool hb1)) rfl (za2 rfl) ?_
    refine o_w (za4 rfl rfl rfl (congrArg Value.bool hb1)) rfl (za2 rfl) ?_
    refine o_w (za4 rfl rfl rfl (congrArg Value.bool hb1)) rfl (q_leq rfl rfl) ?_
    refine o_q rfl rfl (zar true (congrArg Value.bool hb1) rfl) ?_
    refine o_q rfl rfl (q_asg rfl) ?_
    refine o_end ?_
    refine za1 ?_
    refine c_ret ?_
    have e0_ := Option.some.inj h; clear h
    subst e0_
    exact x_r1 () Try.results94 (zaf rfl) rfl (fun w h => za8 [] (by decide) rfl w h)
  · replace h := br_f hb1 h
    refine @o_n _ _ _ _ _ _ _ _ _ _ _ 11 (za3 rfl rfl rfl (congrArg Value.bool hb1) rfl) (Eq.refl (some 11)) ?_
    refine @o_n _ _ _ _ _ _ _ _ _ _ _ 12 (za3 rfl rfl rfl (congrArg Value.bool hb1) rfl) (Eq.refl (some 12)) ?_
    refine @o_n _ _ _ _ _ _ _ _ _ _ _ 13 (za3 rfl rfl rfl (congrArg Value.bool hb1) rfl) (Eq.refl (some 13)) ?_
    refine o_q rfl rfl (zar false (congrArg Value.bool hb1) rfl) ?_
    refine o_q rfl rfl (q_asg rfl) ?_
    refine o_end ?_
    refine za1 ?_
    refine c_ret ?_
    have e0_ := Option.some.inj h; clear h
    subst e0_
    exact x_r1 () Try.results94 (zaf rfl) rfl (fun w h => za8 [] (by decide) rfl w h)

/-! ### loop.example/g01098/spec.plSum: function 221 -/
def spec_plSum.l0 (l1 : List Int) : (List Int) → (List Int) → Int → Option (List Int)
  | [], l3, i6 => some l3
  | y7 :: ys8, l3, i6 => (gt l1 i6).bind fun y20 => (spec_l1Least.f (w64 (y7 + y20)) 1000001).bind fun i22 => (ap l3 ([i22] : List Int)).bind fun l26 => spec_plSum.l0 l1 ys8 l26 (i6 + 1)
def spec_plSum.f (l0 : List Int) (l1 : List Int) : Option (List Int) := (spec_plSum.l0 l1 l0 ([] : List Int) 0).bind fun l3 => some l3
set_option maxHeartbeats 600000 in
set_option maxRecDepth 100000 in
theorem spec_plSum.calls {w0 ws : World} {P0 : Nat → Prop} (A0 : Option Addr) (c0 : Nat) (n0 : Nat) (l0 : List Int) (A1 : Option Addr) (c1 : Nat) (n1 : Nat) (l1 : List Int) (Z : Below w0.heap.size w0 ws) (hF : Fr w0 ws P0 [] ws) (R0 : Stable ws P0 (fun w => Kd.C (Kd.int .i64) w A0 n0 l0)) (hc0 : n0 ≤ c0) (R1 : Stable ws P0 (fun w => Kd.C (Kd.int .i64) w A1 n1 l1)) (hc1 : n1 ≤ c1) (r_1 : List Int) (h : spec_plSum.f l0 l1 = some r_1) :
    Calls Try.prog 221 #[.slice A0 n0 c0, .slice A1 n1 c1] ws (Post1 w0 ws P0 (fun ((q_2, q_3) : (Option Addr) × Nat) => .slice q_2 r_1.length q_3) (fun ((q_2, q_3) : (Option Addr) × Nat) => [row (Kd.int .i64) 3 (.slice q_2 r_1.length q_3) r_1])) := by
  unfold spec_plSum.f at h
  obtain rfl := (R0 ws (KeptB.refl _ _)).1
  obtain rfl := (R1 ws (KeptB.refl _ _)).1
  refine enter Try.func221 rfl Try.ntmps221 rfl hF ?_
  refine c_seq ?_
  refine za0 ?_
  refine o_q rfl rfl (q_asg rfl) ?_
  refine o_end ?_
  refine za1 ?_
  refine c_seq ?_
  refine za0 ?_
  refine o_q rfl rfl (q_asg rfl) ?_
  refine o_end ?_
  refine za1 ?_
  refine c_seq ?_
  refine c_seq ?_
  refine za0 ?_
  refine o_q rfl rfl (za2 rfl) ?_
  refine o_q rfl rfl (q_len Try.underlying25 rfl) ?_
  refine o_q rfl rfl (za2 rfl) ?_
  refine o_end ?_
  refine za1 ?_
  refine zaj ?_
  refine c_nil (Kd.int .i64) 3 ?_
  refine zaa h (fun o14 hl13 hR12 => ?_) rfl
  clear h
  refine c_fact (p := l0.length ≤ 9223372036854775807) (fun w h => (R0.now Z h).2.1) (fun hm11 => ?_)
  refine zaw (σ := (List Int) × (List Int) × Int × (Option Addr) × Nat) (fun k9 ((ys8, l3, i6, A4, c5) : (List Int) × (List Int) × Int × (Option Addr) × Nat) => Rg l0 i6 ys8 ∧ ys8.length = k9 ∧ spec_plSum.l0 l1 ys8 l3 i6 = some o14) [5, 6, 9, 10, 11, 12, 13, 14, 15, 16, 17, 18, 19, 20, 21, 22, 23, 24, 25] (fun ((ys8, l3, i6, A4, c5) : (List Int) × (List Int) × Int × (Option Addr) × Nat) => [(5, .slice A4 l3.length c5), (9, .int .i64 i6)]) (fun ((ys8, l3, i6, A4, c5) : (List Int) × (List Int) × Int × (Option Addr) × Nat) => [row (Kd.int .i64) 3 (.slice A4 l3.length c5) l3]) l0.length (l0, ([] : List Int), 0, none, 0) ⟨Rg.start _, rfl, hl13⟩ ⟨rfl, rfl, trivial⟩ (fun w h => h) ?_
  refine fun k9 => cur5 (listC (fun l3 i6 A4 c5 U15 hJ_ => ?_) (fun y7 ys8 l3 i6 A4 c5 U15 hJ_ => ?_))
  · skip
    clear hl13
    have hr10 := hJ_.1; have hk16 := hJ_.2.1; have h := hJ_.2.2; clear hJ_
    replace h : spec_plSum.l0 l1 [] l3 i6 = some o14 := h
    rw [spec_plSum.l0] at h
    refine c_seq ?_
    refine za0 ?_
    refine o_q rfl rfl (q_lss rfl rfl) ?_
    refine o_end ?_
    refine za1 ?_
    refine c_seq ?_
    refine c_false (congrArg Value.bool hr10.ge) ?_
    refine c_exit ?_
    refine za6 ?_
    refine za6 ?_
    have e_ := Option.some.inj h; replace h := hR12; rw [← e_] at h; clear e_
    refine x_hit ?_
    refine za1 ?_
    refine c_seq ?_
    refine za0 ?_
    refine o_q rfl rfl (za2 rfl) ?_
    refine o_q rfl rfl (q_asg rfl) ?_
    refine o_end ?_
    refine za1 ?_
    refine c_ret ?_
    have e0_ := Option.some.inj h; clear h
    subst e0_
    exact x_r1 (A4, c5) Try.results221 (zaf rfl) rfl (fun w h => za8 [0] (by decide) rfl w h)
  · skip
    clear hl13
    have hr10 := hJ_.1; have hk16 := hJ_.2.1; have h := hJ_.2.2; clear hJ_
    replace h : spec_plSum.l0 l1 (y7 :: ys8) l3 i6 = some o14 := h
    rw [spec_plSum.l0] at h
    refine c_seq ?_
    refine za0 ?_
    refine o_q rfl rfl (q_lss rfl rfl) ?_
    refine o_end ?_
    refine za1 ?_
    refine c_seq ?_
    refine c_true (congrArg Value.bool hr10.lt) ?_
    refine zan ?_
    refine za1 ?_
    refine c_seq ?_
    refine zaj ?_
    refine c_seq ?_
    refine za0 ?_
    refine o_q rfl rfl (za2 rfl) ?_
    refine o_q rfl rfl (q_asg rfl) ?_
    refine o_end ?_
    refine za1 ?_
    refine a_startS (ds := []) [none] MO rfl ?_
    refine za5 0 rfl rfl rfl (by kernel_rfl) (fun _ _ _ h => h) (za2 rfl) ?_
    refine za5 1 rfl rfl rfl (by kernel_rfl) (fun _ _ _ h => h) (za2 rfl) ?_
    refine za5 2 rfl rfl rfl (by kernel_rfl) (fun _ _ _ h => h) (za2 rfl) ?_
    refine a_fact (p := Sh A0 l0.length l0.length) (fun w h => f_sh (dk := (Kd.int .i64)) h (fun w h => R0.now Z h)) (fun hq17 => ?_)
    refine za5 3 rfl rfl rfl (by kernel_rfl) (fun _ _ _ h => h) (q_ix Try.underlying25 Z3 rfl rfl hq17 hr10.get) ?_
    refine zat 4 rfl rfl rfl (by kernel_rfl) (fun _ _ _ h => h) (fun w h => za7 [none] (by decide) w h rfl) (q_lde (off := 0) Y3 rfl rfl (fun w h => R0.now Z h) hr10.get (fun _ _ h => h) rfl) ?_
    refine za5 5 rfl rfl rfl (by kernel_rfl) (fun _ _ _ h => h) (za2 rfl) ?_
    refine za5 6 rfl rfl rfl (by kernel_rfl) (fun _ _ _ h => h) (za2 rfl) ?_
    refine a_fact (p := Sh A1 l1.length l1.length) (fun w h => f_sh (dk := (Kd.int .i64)) h (fun w h => R1.now Z h)) (fun hq18 => ?_)
    refine zaa h (fun y20 hg19 h => ?_) rfl
    refine za5 7 rfl rfl rfl (by kernel_rfl) (fun _ _ _ h => h) (q_ix Try.underlying25 Z3 rfl rfl hq18 hg19) ?_
    refine zat 8 rfl rfl rfl (by kernel_rfl) (fun _ _ _ h => h) (fun w h => za7 [none] (by decide) w h rfl) (q_lde (off := 0) Y3 rfl rfl (fun w h => R1.now Z h) hg19 (fun _ _ h => h) rfl) ?_
    refine za5 9 rfl rfl rfl (by kernel_rfl) (fun _ _ _ h => h) (q_add64 rfl rfl) ?_
    refine zaa h (fun i22 hx21 h => ?_) rfl
    refine a_one 10 rfl rfl (by kernel_rfl) rfl (zac 0 Z Try.func124 N124 rfl rfl rfl (fun w P1 hF hB hS hT => spec_l1Least.calls (w64 (y7 + y20)) 1000001 hB hF _ hx21)) (fun s w h => za7 [none] (by decide) w h rfl) (fun _ => ?_)
    refine a_one 11 rfl rfl (by kernel_rfl) rfl (e_lit (vs := [(0, .int .i64 i22)]) (cs := [.int .i64 i22]) (Kd.int .i64) ([i22] : List Int) Try.underlying25 I3 (by decide) rfl (by decide) rfl rfl (fun _ _ => Kd.zao _)) (fun s w h => za7 [none] (by decide) w h rfl) (cur2 (fun A23 c24 => ?_))
    refine zaa h (fun l26 ha27 h => ?_) rfl
    refine a_one 12 rfl rfl (by kernel_rfl) rfl (e_app (i := 1) (j := 0) Try.underlying25 I3 rfl (by decide) (by decide) rfl rfl rfl rfl rfl ha27) (fun s w h => za7 [none] (by decide) w h rfl) (cur2 (fun A28 c29 => ?_))
    refine za5 13 rfl rfl rfl (by kernel_rfl) (fun _ _ _ h => h) (q_asg rfl) ?_
    refine zav (by kernel_rfl) ?_
    refine zal ?_
    refine za1 ?_
    refine za0 ?_
    refine o_q rfl rfl (q_up rfl rfl (hr10.up hm11)) ?_
    refine o_q rfl rfl (za2 rfl) ?_
    refine o_end ?_
    refine zak ys8.length (ys8, l26, i6 + 1, A28, c29) (by rw [← hk16]; exact Nat.lt_succ_self _) ⟨hr10.step, rfl, h⟩ ⟨rfl, rfl, trivial⟩ (fun w h => za8 [1] (by decide) rfl w h) ?_
    repeat (first | exact zad _ _ | refine zah rfl ?_ | refine zae rfl ?_ | refine zai rfl ?_)

/-! ### loop.example/g01098/spec.plExponents: function 183 -/
def spec_plExponents.l1 : (List SStep) → (List (List Int)) → Int → Option (List (List Int))
  | [], l39, i43 => some l39
  | y44 :: ys45, l39, i43 => (gt l39 y44.f0).bind fun y300 => (gt l39 y44.f1).bind fun y599 => (spec_plSum.f y300 y599).bind fun l719 => (ap l39 ([l719] : List (List Int))).bind fun l838 => spec_plExponents.l1 ys45 l838 (i43 + 1)
def spec_plExponents.l0 (a0_0 : Int) : Nat → (List (List Int)) → Int → Option (List (List Int))
  | 0, _, _ => none
  | k11 + 1, l4, i8 => if i8 < a0_0 then ((mk0 a0_0 (0 : Int)).bind fun l20 => (gt l20 i8).bind fun y27 => (st l20 i8 1).bind fun l28 => (ap l4 ([l28] : List (List Int))).bind fun l34 => spec_plExponents.l0 a0_0 k11 l34 (w64 (i8 + 1))) else (some l4)
def spec_plExponents.f (k : Nat) (a0_0 : Int) (l0_1 : List SStep) (l0_2 : List Int) : Option (List (List Int)) := (spec_plExponents.l0 a0_0 k ([] : List (List Int)) 0).bind fun l4 => (spec_plExponents.l1 l0_1 l4 0).bind fun l39 => some l39
set_option maxHeartbeats 600000 in
set_option maxRecDepth 100000 in
theorem spec_plExponents.calls (k : Nat) {w0 ws : World} {P0 : Nat → Prop} (a0_0 : Int) (A0_1 : Option Addr) (c0_1 : Nat) (n0_1 : Nat) (l0_1 : List SStep) (A0_2 : Option Addr) (c0_2 : Nat) (n0_2 : Nat) (l0_2 : List Int) (Z : Below w0.heap.size w0 ws) (hF : Fr w0 ws P0 [] ws) (R0_1 : Stable ws P0 (fun w => Kd.C kStep w A0_1 n0_1 l0_1)) (hc0_1 : n0_1 ≤ c0_1) (R0_2 : Stable ws P0 (fun w => Kd.C (Kd.int .i64) w A0_2 n0_2 l0_2)) (hc0_2 : n0_2 ≤ c0_2) (r_1 : List (List Int)) (h : spec_plExponents.f k a0_0 l0_1 l0_2 = some r_1) :
    Calls Try.prog 183 #[.agg #[.int .i64 a0_0, .slice A0_1 n0_1 c0_1, .slice A0_2 n0_2 c0_2]] ws (Post1 w0 ws P0 (fun ((q_2, q_3, q_4) : (Option Addr) × Nat × Hd) => .slice q_2 r_1.length q_3) (fun ((q_2, q_3, q_4) : (Option Addr) × Nat × Hd) => [row (gk 3 (Kd.int .i64)) 25 (.slice q_2 r_1.length q_3) (zp q_4 r_1)])) := by
  unfold spec_plExponents.f at h
  obtain rfl := (R0_1 ws (KeptB.refl _ _)).1
  obtain rfl := (R0_2 ws (KeptB.refl _ _)).1
  refine enter Try.func183 rfl Try.ntmps183 rfl hF ?_
  refine c_seq ?_
  refine za0 ?_
  refine o_e rfl (e_box rfl) (fun g1 => ?_)
  refine o_q rfl rfl (q_asg rfl) ?_
  refine o_end ?_
  refine za1 ?_
  refine c_seq ?_
  refine za0 ?_
  refine o_q rfl rfl (q_asg rfl) ?_
  refine o_end ?_
  refine za1 ?_
  refine c_seq ?_
  refine c_seq ?_
  refine za0 ?_
  refine o_q rfl rfl (q_asg rfl) ?_
  refine o_end ?_
  refine za1 ?_
  refine zaj ?_
  refine c_nil (gk 3 (Kd.int .i64)) 25 ?_
  refine zaa h (fun o16 hl15 hR14 => ?_) rfl
  clear h
  refine zaw (σ := (List (List Int)) × Int × (Option Addr) × Nat × Hd) (fun k11 ((l4, i8, A5, c6, H7) : (List (List Int)) × Int × (Option Addr) × Nat × Hd) => spec_plExponents.l0 a0_0 k11 l4 i8 = some o16) [3, 4, 5, 8, 9, 10, 11, 12, 13, 14, 15, 16, 17, 18, 19, 20, 21, 22, 23] (fun ((l4, i8, A5, c6, H7) : (List (List Int)) × Int × (Option Addr) × Nat × Hd) => [(3, .slice A5 l4.length c6), (4, .int .i64 i8)]) (fun ((l4, i8, A5, c6, H7) : (List (List Int)) × Int × (Option Addr) × Nat × Hd) => [row (gk 3 (Kd.int .i64)) 25 (.slice A5 l4.length c6) (zp H7 l4), box g1 27 #[.int .i64 a0_0, .slice A0_1 l0_1.length c0_1, .slice A0_2 l0_2.length c0_2]]) k (([] : List (List Int)), 0, none, 0, ([] : Hd)) hl15 ⟨rfl, rfl, trivial⟩ (fun w h => h) ?_
  refine natC (cur5 (fun l4 i8 A5 c6 H7 => fun U17 hJ_ => ?_)) (fun k11 => (cur5 (fun l4 i8 A5 c6 H7 => fun U17 hJ_ => ?_)))
  · skip
    replace hJ_ : spec_plExponents.l0 a0_0 0 l4 i8 = some o16 := hJ_
    rw [spec_plExponents.l0] at hJ_
    exact noneE hJ_
  · skip
    clear hl15
    have h := hJ_; clear hJ_
    replace h : spec_plExponents.l0 a0_0 (k11 + 1) l4 i8 = some o16 := h
    rw [spec_plExponents.l0] at h
    refine c_seq ?_
    refine c_seq ?_
    refine za0 ?_
    refine o_q rfl rfl (za2 rfl) ?_
    refine o_q rfl rfl (q_f F27_0 rfl) ?_
    refine o_q rfl rfl (q_ldb Y3 rfl (fun w h => h.zab (i := 1) rfl) rfl) ?_
    refine o_q rfl rfl (q_lss rfl rfl) ?_
    refine o_end ?_
    refine za1 ?_
    refine zau _ rfl (fun hb19 => ?_) (fun hb19 => ?_)
    · skip
      replace h := br_t hb19 h
      refine zan ?_
      refine za1 ?_
      refine c_seq ?_
      refine zaj ?_
      refine c_seq ?_
      refine za0 ?_
      refine o_q rfl rfl (q_f F27_0 rfl) ?_
      refine o_q rfl rfl (q_ldb Y3 rfl (fun w h => h.zab (i := 1) rfl) rfl) ?_
      refine zaa h (fun l20 hm21 h => ?_) rfl
      refine o_e rfl (e_make (Kd.int .i64) (0 : Int) Try.underlying25 I3 rfl (by decide) (by decide) (fun _ _ => rfl) rfl rfl hm21) (cur2 (fun A22 c23 => ?_))
      refine o_q rfl rfl (q_asg rfl) ?_
      refine o_end ?_
      refine za1 ?_
      refine c_seq ?_
      refine za0 ?_
      refine o_q rfl rfl (za2 rfl) ?_
      refine o_q rfl rfl (za2 rfl) ?_
      refine zaz (p := Sh A22 l20.length l20.length) (fun w h => f_sh (dk := (Kd.int .i64)) h (fun w h => h.zas (i := 0) rfl)) (fun hq25 => ?_)
      refine zaa h (fun y27 hg26 h => ?_) rfl
      refine o_q rfl rfl (q_ix Try.underlying25 Z3 rfl rfl hq25 hg26) ?_
      refine zaa h (fun l28 hs29 h => ?_) rfl
      refine o_e rfl (e_set (i := 0) rfl rfl rfl Z3 hs29) (fun _ => ?_)
      refine o_end ?_
      refine za1 ?_
      refine za0 ?_
      refine o_q rfl rfl (za2 rfl) ?_
      refine o_q rfl rfl (za2 rfl) ?_
      refine o_e rfl (e_litG (j := 0) (ue := 3) (dk := (Kd.int .i64)) (ys := l28) Try.underlying60 I25 rfl rfl rfl) (cur3 (fun A30 c31 H33 => ?_))
      refine zaa h (fun l34 ha35 h => ?_) rfl
      refine o_e rfl (e_appG (i := 2) (j := 0) Try.underlying60 I25 rfl (by decide) rfl rfl rfl rfl rfl ha35) (cur3 (fun A36 c37 H38 => ?_))
      refine o_q rfl rfl (q_asg rfl) ?_
      refine o_end ?_
      refine zal ?_
      refine za1 ?_
      refine za0 ?_
      refine o_q rfl rfl (za2 rfl) ?_
      refine o_q rfl rfl (q_add64 rfl rfl) ?_
      refine o_q rfl rfl (q_asg rfl) ?_
      refine o_end ?_
      refine zak k11 (l34, w64 (i8 + 1), A36, c37, H38) (Nat.lt_succ_self _) h ⟨rfl, rfl, trivial⟩ (fun w h => za8 [2, 3] (by decide) rfl w h) ?_
      repeat (first | exact zad _ _ | refine zah rfl ?_ | refine zae rfl ?_ | refine zai rfl ?_)
    · skip
      replace h := br_f hb19 h
      refine c_exit ?_
      refine za6 ?_
      refine za6 ?_
      have e_ := Option.some.inj h; replace h := hR14; rw [← e_] at h; clear e_
      refine x_hit ?_
      refine za1 ?_
      refine c_seq ?_
      refine c_seq ?_
      refine za0 ?_
      refine o_q rfl rfl (q_f F27_1 rfl) ?_
      refine o_q rfl rfl (q_ldb Y24 rfl (fun w h => h.zab (i := 1) rfl) rfl) ?_
      refine o_q rfl rfl (q_len Try.underlying24 rfl) ?_
      refine o_q rfl rfl (za2 rfl) ?_
      refine o_end ?_
      refine za1 ?_
      refine zaj ?_
      refine zaa h (fun o51 hl50 hR49 => ?_) rfl
      clear h
      refine c_fact (p := l0_1.length ≤ 9223372036854775807) (fun w h => (R0_1.now Z h).2.1) (fun hm48 => ?_)
      refine zaw (σ := (List SStep) × (List (List Int)) × Int × (Option Addr) × Nat × Hd) (fun k46 ((ys45, l39, i43, A40, c41, H42) : (List SStep) × (List (List Int)) × Int × (Option Addr) × Nat × Hd) => Rg l0_1 i43 ys45 ∧ ys45.length = k46 ∧ spec_plExponents.l1 ys45 l39 i43 = some o51) [3, 7, 27, 28, 29, 30, 31, 32, 33, 34, 35, 36, 37, 38, 39, 40, 41, 42, 43, 44, 45] (fun ((ys45, l39, i43, A40, c41, H42) : (List SStep) × (List (List Int)) × Int × (Option Addr) × Nat × Hd) => [(3, .slice A40 l39.length c41), (27, .int .i64 i43)]) (fun ((ys45, l39, i43, A40, c41, H42) : (List SStep) × (List (List Int)) × Int × (Option Addr) × Nat × Hd) => [row (gk 3 (Kd.int .i64)) 25 (.slice A40 l39.length c41) (zp H42 l39), box g1 27 #[.int .i64 a0_0, .slice A0_1 l0_1.length c0_1, .slice A0_2 l0_2.length c0_2]]) l0_1.length (l0_1, l4, 0, A5, c6, H7) ⟨Rg.start _, rfl, hl50⟩ ⟨rfl, rfl, trivial⟩ (fun w h => h) ?_
      refine fun k46 => cur6 (listC (fun l39 i43 A40 c41 H42 U52 hJ_ => ?_) (fun y44 ys45 l39 i43 A40 c41 H42 U52 hJ_ => ?_))
      · skip
        clear hl50
        have hr47 := hJ_.1; have hk53 := hJ_.2.1; have h := hJ_.2.2; clear hJ_
        replace h : spec_plExponents.l1 [] l39 i43 = some o51 := h
        rw [spec_plExponents.l1] at h
        refine c_seq ?_
        refine za0 ?_
        refine o_q rfl rfl (q_lss rfl rfl) ?_
        refine o_end ?_
        refine za1 ?_
        refine c_seq ?_
        refine c_false (congrArg Value.bool hr47.ge) ?_
        refine c_exit ?_
        refine za6 ?_
        refine za6 ?_
        have e_ := Option.some.inj h; replace h := hR49; rw [← e_] at h; clear e_
        refine x_hit ?_
        refine za1 ?_
        refine c_seq ?_
        refine za0 ?_
        refine o_q rfl rfl (za2 rfl) ?_
        refine o_q rfl rfl (q_asg rfl) ?_
        refine o_end ?_
        refine za1 ?_
        refine c_ret ?_
        have e0_ := Option.some.inj h; clear h
        subst e0_
        exact x_r1 (A40, c41, H42) Try.results183 (zaf rfl) rfl (fun w h => za8 [0] (by decide) rfl w h)
      · skip
        clear hl50
        have hr47 := hJ_.1; have hk53 := hJ_.2.1; have h := hJ_.2.2; clear hJ_
        replace h : spec_plExponents.l1 (y44 :: ys45) l39 i43 = some o51 := h
        rw [spec_plExponents.l1] at h
        refine c_seq ?_
        refine za0 ?_
        refine o_q rfl rfl (q_lss rfl rfl) ?_
        refine o_end ?_
        refine za1 ?_
        refine c_seq ?_
        refine c_true (congrArg Value.bool hr47.lt) ?_
        refine zan ?_
        refine za1 ?_
        refine c_seq ?_
        refine zaj ?_
        refine c_seq ?_
        refine za0 ?_
        refine zaz (p := Sh A0_1 l0_1.length l0_1.length) (fun w h => f_sh (dk := kStep) h (fun w h => R0_1.now Z h)) (fun hq54 => ?_)
        refine o_q rfl rfl (q_ix Try.underlying24 Z89 rfl rfl hq54 hr47.get) ?_
        refine o_q rfl rfl (q_ldE G89 Z89 rfl rfl (fun w h => R0_1.now Z h) hr47.get (fun _ _ h => h) rfl) ?_
        refine o_e rfl (e_alloc V89 rfl) (fun g55 => ?_)
        refine o_e rfl (zax (i := 0) rfl rfl rfl Z89 rfl rfl) (fun _ => ?_)
        refine o_end ?_
        refine za1 ?_
        refine zaa h (fun y300 hg299 h => ?_) rfl
        refine zaa h (fun y599 hg598 h => ?_) rfl
        refine zaa h (fun l719 hx718 h => ?_) rfl
        refine zaa h (fun l838 ha839 h => ?_) rfl
        refine a_startS (ds := []) [some 0, none, some 2] MO rfl ?_
        refine za5 0 rfl rfl rfl (by kernel_rfl) (fun _ _ _ h => h) (za2 rfl) ?_
        refine za5 1 rfl rfl rfl (by kernel_rfl) (fun _ _ _ h => h) (za2 rfl) ?_
        refine za5 2 rfl rfl rfl (by kernel_rfl) (fun _ _ _ h => h) (q_f F89_0 rfl) ?_
        refine zat 3 rfl rfl rfl (by kernel_rfl) (fun _ _ _ h => h) (fun w h => za7 [some 0, none, some 2] (by decide) w h rfl) (q_ldb Y3 rfl (fun w h => h.zab (i := 0) rfl) rfl) ?_
        refine a_fact (p := Sh A40 l39.length (zp H42 l39).length) (fun w h => f_sh (dk := (gk 3 (Kd.int .i64))) h (fun w h => h.zas (i := 1) rfl)) (fun hq298 => ?_)
        refine za5 4 rfl rfl rfl (by kernel_rfl) (fun _ _ _ h => h) (q_ix Try.underlying60 Z25 rfl rfl hq298 (gt_zp hg299)) ?_
        refine za5 6 rfl rfl rfl (by kernel_rfl) (fun _ _ _ h => h) (za2 rfl) ?_
        refine za5 7 rfl rfl rfl (by kernel_rfl) (fun _ _ _ h => h) (q_f F89_1 rfl) ?_
        refine zat 8 rfl rfl rfl (by kernel_rfl) (fun _ _ _ h => h) (fun w h => za7 [some 0, none, some 2] (by decide) w h rfl) (q_ldb Y3 rfl (fun w h => h.zab (i := 0) rfl) rfl) ?_
        refine za5 9 rfl rfl rfl (by kernel_rfl) (fun _ _ _ h => h) (q_ix Try.underlying60 Z25 rfl rfl hq298 (gt_zp hg598)) ?_
        refine a_fact (p := y300.length ≤ hC H42 y44.f0) (fun w h => (K_in (h.zas (i := 1) rfl) hg299).1) (fun hc358 => ?_)
        refine a_fact (p := y599.length ≤ hC H42 y44.f1) (fun w h => (K_in (h.zas (i := 1) rfl) hg598).1) (fun hc658 => ?_)
        refine a_two 5 10 rfl rfl rfl rfl (by kernel_rfl) rfl rfl (ev_q rfl (q_lde (off := 0) Y25 rfl rfl (fun w h => h.zas (i := 1) rfl) (gt_zp hg299) (fun _ _ h => h.1) rfl)) (fun s w h => za7 [some 0, none, some 2] (by decide) w h rfl) (ev_q rfl (q_lde (off := 0) Y25 rfl rfl (fun w h => h.zas (i := 1) rfl) (gt_zp hg598) (fun _ _ h => h.1) rfl)) (fun s w h => za7 [some 0, none, some 2] (by decide) w h rfl) (fun _ => ?_) (fun _ => ?_)
        · skip
          refine a_fact (p := y599.length ≤ hC H42 y44.f1) (fun w h => (K_in (h.zas (i := 1) rfl) hg598).1) (fun hc658 => ?_)
          refine a_one 10 rfl rfl (by kernel_rfl) rfl (ev_q rfl (q_lde (off := 0) Y25 rfl rfl (fun w h => h.zas (i := 1) rfl) (gt_zp hg598) (fun _ _ h => h.1) rfl)) (fun s w h => za7 [some 0, none, some 2] (by decide) w h rfl) (fun _ => ?_)
          refine a_one 11 rfl rfl (by kernel_rfl) rfl (zac 0 Z Try.func221 N221 rfl rfl rfl (fun w P1 hF hB hS hT => spec_plSum.calls (hA H42 y44.f0) (hC H42 y44.f0) y300.length y300 (hA H42 y44.f1) (hC H42 y44.f1) y599.length y599 hB hF (stab_in (hT 1 _ rfl).row hg299) hc358 (stab_in (hT 1 _ rfl).row hg598) hc658 _ hx718)) (fun s w h => za7 [some 1, none, some 3] (by decide) w h rfl) (cur2 (fun A720 c721 => ?_))
          refine a_one 12 rfl rfl (by kernel_rfl) rfl (e_litG (j := 0) (ue := 3) (dk := (Kd.int .i64)) (ys := l719) Try.underlying60 I25 rfl rfl rfl) (fun s w h => za7 [some 2, none, some 4] (by decide) w h rfl) (cur3 (fun A778 c779 H781 => ?_))
          refine a_one 13 rfl rfl (by kernel_rfl) rfl (e_appG (i := 3) (j := 0) Try.underlying60 I25 rfl (by decide) rfl rfl rfl rfl rfl ha839) (fun s w h => za7 [some 2, none, some 4] (by decide) w h rfl) (cur3 (fun A840 c841 H842 => ?_))
          refine za5 14 rfl rfl rfl (by kernel_rfl) (fun _ _ _ h => h) (q_asg rfl) ?_
          refine zav (by kernel_rfl) ?_
          refine zal ?_
          refine za1 ?_
          refine za0 ?_
          refine o_q rfl rfl (q_up rfl rfl (hr47.up hm48)) ?_
          refine o_q rfl rfl (za2 rfl) ?_
          refine o_end ?_
          refine zak ys45.length (ys45, l838, i43 + 1, A840, c841, H842) (by rw [← hk53]; exact Nat.lt_succ_self _) ⟨hr47.step, rfl, h⟩ ⟨rfl, rfl, trivial⟩ (fun w h => za8 [3, 4] (by decide) rfl w h) ?_
          repeat (first | exact zad _ _ | refine zah rfl ?_ | refine zae rfl ?_ | refine zai rfl ?_)
        · skip
          refine a_fact (p := y300.length ≤ hC H42 y44.f0) (fun w h => (K_in (h.zas (i := 1) rfl) hg299).1) (fun hc358 => ?_)
          refine a_one 5 rfl rfl (by kernel_rfl) rfl (ev_q rfl (q_lde (off := 0) Y25 rfl rfl (fun w h => h.zas (i := 1) rfl) (gt_zp hg299) (fun _ _ h => h.1) rfl)) (fun s w h => za7 [some 0, none, some 2] (by decide) w h rfl) (fun _ => ?_)
          refine a_one 11 rfl rfl (by kernel_rfl) rfl (zac 0 Z Try.func221 N221 rfl rfl rfl (fun w P1 hF hB hS hT => spec_plSum.calls (hA H42 y44.f0) (hC H42 y44.f0) y300.length y300 (hA H42 y44.f1) (hC H42 y44.f1) y599.length y599 hB hF (stab_in (hT 1 _ rfl).row hg299) hc358 (stab_in (hT 1 _ rfl).row hg598) hc658 _ hx718)) (fun s w h => za7 [some 1, none, some 3] (by decide) w h rfl) (cur2 (fun A720 c721 => ?_))
          refine a_one 12 rfl rfl (by kernel_rfl) rfl (e_litG (j := 0) (ue := 3) (dk := (Kd.int .i64)) (ys := l719) Try.underlying60 I25 rfl rfl rfl) (fun s w h => za7 [some 2, none, some 4] (by decide) w h rfl) (cur3 (fun A778 c779 H781 => ?_))
          refine a_one 13 rfl rfl (by kernel_rfl) rfl (e_appG (i := 3) (j := 0) Try.underlying60 I25 rfl (by decide) rfl rfl rfl rfl rfl ha839) (fun s w h => za7 [some 2, none, some 4] (by decide) w h rfl) (cur3 (fun A840 c841 H842 => ?_))
          refine za5 14 rfl rfl rfl (by kernel_rfl) (fun _ _ _ h => h) (q_asg rfl) ?_
          refine zav (by kernel_rfl) ?_
          refine zal ?_
          refine za1 ?_
          refine za0 ?_
          refine o_q rfl rfl (q_up rfl rfl (hr47.up hm48)) ?_
          refine o_q rfl rfl (za2 rfl) ?_
          refine o_end ?_
          refine zak ys45.length (ys45, l838, i43 + 1, A840, c841, H842) (by rw [← hk53]; exact Nat.lt_succ_self _) ⟨hr47.step, rfl, h⟩ ⟨rfl, rfl, trivial⟩ (fun w h => za8 [3, 4] (by decide) rfl w h) ?_
          repeat (first | exact zad _ _ | refine zah rfl ?_ | refine zae rfl ?_ | refine zai rfl ?_)

/-! ### loop.example/g01098/spec.l1All: function 133 -/
def spec_l1All.l0 (a1 : Int) (a2 : Int) : (List Int) → Int → Option ((Bool) ⊕ (Unit))
  | [], i1 => some (.inr ())
  | y2 :: ys3, i1 => (spec_l1In.f y2 a1 a2).bind fun b14 => if b14 = true then (spec_l1All.l0 a1 a2 ys3 (i1 + 1)) else (some (.inl false))
def spec_l1All.f (l0 : List Int) (a1 : Int) (a2 : Int) : Option Bool := (spec_l1All.l0 a1 a2 l0 0).bind fun o_ => match o_ with | .inl r_ => some r_ | .inr _ => some true
set_option maxHeartbeats 600000 in
set_option maxRecDepth 100000 in
theorem spec_l1All.calls {w0 ws : World} {P0 : Nat → Prop} (A0 : Option Addr) (c0 : Nat) (n0 : Nat) (l0 : List Int) (a1 : Int) (a2 : Int) (Z : Below w0.heap.size w0 ws) (hF : Fr w0 ws P0 [] ws) (R0 : Stable ws P0 (fun w => Kd.C (Kd.int .i64) w A0 n0 l0)) (hc0 : n0 ≤ c0) (r_1 : Bool) (h : spec_l1All.f l0 a1 a2 = some r_1) :
    Calls Try.prog 133 #[.slice A0 n0 c0, .int .i64 a1, .int .i64 a2] ws (Post1 w0 ws P0 (fun (_ : Unit) => .bool r_1) (fun (_ : Unit) => [])) := by
  unfold spec_l1All.f at h
  obtain rfl := (R0 ws (KeptB.refl _ _)).1
  refine enter Try.func133 rfl Try.ntmps133 rfl hF ?_
  refine c_seq ?_
  refine za0 ?_
  refine o_q rfl rfl (q_asg rfl) ?_
  refine o_end ?_
  refine za1 ?_
  refine c_seq ?_
  refine c_seq ?_
  refine za0 ?_
  refine o_q rfl rfl (za2 rfl) ?_
  refine o_q rfl rfl (q_len Try.underlying25 rfl) ?_
  refine o_q rfl rfl (za2 rfl) ?_
  refine o_end ?_
  refine za1 ?_
  refine zaj ?_
  refine zaa h (fun o9 hl8 hR7 => ?_) rfl
  clear h
  refine c_fact (p := l0.length ≤ 9223372036854775807) (fun w h => (R0.now Z h).2.1) (fun hm6 => ?_)
  refine zaw (σ := (List Int) × Int) (fun k4 ((ys3, i1) : (List Int) × Int) => Rg l0 i1 ys3 ∧ ys3.length = k4 ∧ spec_l1All.l0 a1 a2 ys3 i1 = some o9) [6, 8, 11, 12, 13, 14, 15, 16, 17, 18, 19, 20] (fun ((ys3, i1) : (List Int) × Int) => [(11, .int .i64 i1)]) (fun ((ys3, i1) : (List Int) × Int) => []) l0.length (l0, 0) ⟨Rg.start _, rfl, hl8⟩ ⟨rfl, trivial⟩ (fun w h => h) ?_
  refine fun k4 => cur2 (listC (fun i1 U10 hJ_ => ?_) (fun y2 ys3 i1 U10 hJ_ => ?_))
  · skip
    clear hl8
    have hr5 := hJ_.1; have hk11 := hJ_.2.1; have h := hJ_.2.2; clear hJ_
    replace h : spec_l1All.l0 a1 a2 [] i1 = some o9 := h
    rw [spec_l1All.l0] at h
    refine c_seq ?_
    refine za0 ?_
    refine o_q rfl rfl (q_lss rfl rfl) ?_
    refine o_end ?_
    refine za1 ?_
    refine c_seq ?_
    refine c_false (congrArg Value.bool hr5.ge) ?_
    refine c_exit ?_
    refine za6 ?_
    refine za6 ?_
    have e_ := Option.some.inj h; replace h := hR7; rw [← e_] at h; clear e_
    refine x_hit ?_
    refine za1 ?_
    refine c_seq ?_
    refine za0 ?_
    refine o_q rfl rfl (q_asg rfl) ?_
    refine o_end ?_
    refine za1 ?_
    refine c_ret ?_
    have e0_ := Option.some.inj h; clear h
    subst e0_
    exact x_r1 () Try.results133 (zaf rfl) rfl (fun w h => za8 [] (by decide) rfl w h)
  · skip
    clear hl8
    have hr5 := hJ_.1; have hk11 := hJ_.2.1; have h := hJ_.2.2; clear hJ_
    replace h : spec_l1All.l0 a1 a2 (y2 :: ys3) i1 = some o9 := h
    rw [spec_l1All.l0] at h
    refine c_seq ?_
    refine za0 ?_
    refine o_q rfl rfl (q_lss rfl rfl) ?_
    refine o_end ?_
    refine za1 ?_
    refine c_seq ?_
    refine c_true (congrArg Value.bool hr5.lt) ?_
    refine zan ?_
    refine za1 ?_
    refine c_seq ?_
    refine zaj ?_
    refine c_seq ?_
    refine za0 ?_
    refine zaz (p := Sh A0 l0.length l0.length) (fun w h => f_sh (dk := (Kd.int .i64)) h (fun w h => R0.now Z h)) (fun hq12 => ?_)
    refine o_q rfl rfl (q_ix Try.underlying25 Z3 rfl rfl hq12 hr5.get) ?_
    refine o_q rfl rfl (q_lde (off := 0) Y3 rfl rfl (fun w h => R0.now Z h) hr5.get (fun _ _ h => h) rfl) ?_
    refine o_q rfl rfl (q_asg rfl) ?_
    refine o_end ?_
    refine za1 ?_
    refine c_seq ?_
    refine za0 ?_
    refine o_q rfl rfl (za2 rfl) ?_
    refine o_q rfl rfl (za2 rfl) ?_
    refine o_q rfl rfl (za2 rfl) ?_
    refine zaa h (fun b14 hx13 h => ?_) rfl
    refine o_e rfl (zac 0 Z Try.func94 N94 rfl rfl rfl (fun w P1 hF hB hS hT => spec_l1In.calls y2 a1 a2 hB hF _ hx13)) (fun _ => ?_)
    refine o_q rfl rfl (q_not rfl) ?_
    refine o_end ?_
    refine za1 ?_
    refine zau _ rfl (fun hb15 => ?_) (fun hb15 => ?_)
    · replace hb15 := nt_t hb15
      replace h := bb_f hb15 h
      refine c_seq ?_
      refine za0 ?_
      refine o_q rfl rfl (q_asg rfl) ?_
      refine o_end ?_
      refine za1 ?_
      refine c_ret ?_
      refine zam ?_
      refine za9 ?_
      refine za9 ?_
      have e_ := Option.some.inj h; replace h := hR7; rw [← e_] at h; clear e_
      refine zam ?_
      refine za9 ?_
      have e0_ := Option.some.inj h; clear h
      subst e0_
      exact x_r1 () Try.results133 (zaf rfl) rfl (fun w h => za8 [] (by decide) rfl w h)
    · replace hb15 := nt_f hb15
      replace h := bb_t hb15 h
      refine zan ?_
      refine zal ?_
      refine za1 ?_
      refine za0 ?_
      refine o_q rfl rfl (q_up rfl rfl (hr5.up hm6)) ?_
      refine o_q rfl rfl (za2 rfl) ?_
      refine o_end ?_
      refine zak ys3.length (ys3, i1 + 1) (by rw [← hk11]; exact Nat.lt_succ_self _) ⟨hr5.step, rfl, h⟩ ⟨rfl, trivial⟩ (fun w h => za8 [] (by decide) rfl w h) ?_
      repeat (first | exact zad _ _ | refine zah rfl ?_ | refine zae rfl ?_ | refine zai rfl ?_)

/-! ### loop.example/g01098/spec.plGood: function 93 -/
def spec_plGood.l1 : (List (List Int)) → Int → Option ((Bool) ⊕ (Unit))
  | [], i24 => some (.inr ())
  | y25 :: ys26, i24 => (spec_l1All.f y25 0 1000000).bind fun b40 => if b40 = true then (spec_plGood.l1 ys26 (i24 + 1)) else (some (.inl false))
def spec_plGood.l0 (a0_0 : Int) : (List SStep) → Int → Option ((Bool) ⊕ (Unit))
  | [], i8 => some (.inr ())
  | y9 :: ys10, i8 => (spec_l1In.f y9.f0 0 y9.f1).bind fun b46 => if b46 = true then (if w64 (a0_0 + i8) ≤ y9.f1 then (some (.inl false)) else (spec_plGood.l0 a0_0 ys10 (i8 + 1))) else (some (.inl false))
def spec_plGood.f (k : Nat) (a0_0 : Int) (l0_1 : List SStep) (l0_2 : List Int) : Option Bool := (spec_l1In.f a0_0 1 6).bind fun b4 => if b4 = true then (if 40 < (l0_1.length : Int) then (some false) else (if 6 < (l0_2.length : Int) then (some false) else ((spec_plGood.l0 a0_0 l0_1 0).bind fun o_ => match o_ with | .inl r_ => some r_ | .inr _ => (spec_plExponents.f k a0_0 l0_1 l0_2).bind fun l20 => (spec_plGood.l1 l20 0).bind fun o_ => match o_ with | .inl r_ => some r_ | .inr _ => (spec_l1All.f l0_2 0 (w64 (w64 (a0_0 + (l0_1.length : Int)) - 1))).bind fun b36 => some b36))) else (some false)
set_option maxHeartbeats 600000 in
set_option maxRecDepth 100000 in
theorem spec_plGood.calls (k : Nat) {w0 ws : World} {P0 : Nat → Prop} (a0_0 : Int) (A0_1 : Option Addr) (c0_1 : Nat) (n0_1 : Nat) (l0_1 : List SStep) (A0_2 : Option Addr) (c0_2 : Nat) (n0_2 : Nat) (l0_2 : List Int) (Z : Below w0.heap.size w0 ws) (hF : Fr w0 ws P0 [] ws) (R0_1 : Stable ws P0 (fun w => Kd.C kStep w A0_1 n0_1 l0_1)) (hc0_1 : n0_1 ≤ c0_1) (R0_2 : Stable ws P0 (fun w => Kd.C (Kd.int .i64) w A0_2 n0_2 l0_2)) (hc0_2 : n0_2 ≤ c0_2) (r_1 : Bool) (h : spec_plGood.f k a0_0 l0_1 l0_2 = some r_1) :
    Calls Try.prog 93 #[.agg #[.int .i64 a0_0, .slice A0_1 n0_1 c0_1, .slice A0_2 n0_2 c0_2]] ws (Post1 w0 ws P0 (fun (_ : Unit) => .bool r_1) (fun (_ : Unit) => [])) := by
  unfold spec_plGood.f at h
  obtain rfl := (R0_1 ws (KeptB.refl _ _)).1
  obtain rfl := (R0_2 ws (KeptB.refl _ _)).1
  refine enter Try.func93 rfl Try.ntmps93 rfl hF ?_
  refine c_seq ?_
  refine za0 ?_
  refine o_e rfl (e_box rfl) (fun g1 => ?_)
  refine o_q rfl rfl (q_asg rfl) ?_
  refine o_end ?_
  refine za1 ?_
  refine c_seq ?_
  refine c_seq ?_
  refine za0 ?_
  refine o_q rfl rfl (q_f F27_0 rfl) ?_
  refine o_q rfl rfl (q_ldb Y3 rfl (fun w h => h.zab (i := 0) rfl) rfl) ?_
  refine zaa h (fun b4 hx3 h => ?_) rfl
  refine o_e rfl (zac 0 Z Try.func94 N94 rfl rfl rfl (fun w P1 hF hB hS hT => spec_l1In.calls a0_0 1 6 hB hF _ hx3)) (fun _ => ?_)
  refine o_q rfl rfl (q_not rfl) ?_
  refine o_q rfl rfl (za2 rfl) ?_
  refine byB b4 (fun hb5 => ?_) (fun hb5 => ?_)
  · replace h := bb_t hb5 h
    refine o_w (za4 rfl rfl rfl (congrArg (fun b => Value.bool (!(b))) hb5)) rfl (q_f F27_1 rfl) ?_
    refine o_w (za4 rfl rfl rfl (congrArg (fun b => Value.bool (!(b))) hb5)) rfl (q_ldb Y24 rfl (fun w h => h.zab (i := 0) rfl) rfl) ?_
    refine o_w (za4 rfl rfl rfl (congrArg (fun b => Value.bool (!(b))) hb5)) rfl (q_len Try.underlying24 rfl) ?_
    refine o_w (za4 rfl rfl rfl (congrArg (fun b => Value.bool (!(b))) hb5)) rfl (q_gtr rfl rfl) ?_
    refine o_q rfl rfl (zar false (congrArg (fun b => Value.bool (!(b))) hb5) rfl) ?_
    refine o_q rfl rfl (za2 rfl) ?_
    refine byB (decide (40 < (l0_1.length : Int))) (fun hb6 => ?_) (fun hb6 => ?_)
    · replace h := br_t hb6 h
      refine @o_n _ _ _ _ _ _ _ _ _ _ _ 18 (za3 rfl rfl rfl (congrArg Value.bool hb6) rfl) (Eq.refl (some 18)) ?_
      refine @o_n _ _ _ _ _ _ _ _ _ _ _ 19 (za3 rfl rfl rfl (congrArg Value.bool hb6) rfl) (Eq.refl (some 19)) ?_
      refine @o_n _ _ _ _ _ _ _ _ _ _ _ 20 (za3 rfl rfl rfl (congrArg Value.bool hb6) rfl) (Eq.refl (some 20)) ?_
      refine @o_n _ _ _ _ _ _ _ _ _ _ _ 21 (za3 rfl rfl rfl (congrArg Value.bool hb6) rfl) (Eq.refl (some 21)) ?_
      refine o_q rfl rfl (zar true (congrArg Value.bool hb6) rfl) ?_
      refine o_end ?_
      refine za1 ?_
      refine c_true rfl ?_
      refine c_seq ?_
      refine za0 ?_
      refine o_q rfl rfl (q_asg rfl) ?_
      refine o_end ?_
      refine za1 ?_
      refine c_ret ?_
      refine za9 ?_
      have e0_ := Option.some.inj h; clear h
      subst e0_
      exact x_r1 () Try.results93 (zaf rfl) rfl (fun w h => za8 [] (by decide) rfl w h)
    · replace h := br_f hb6 h
      refine o_w (za4 rfl rfl rfl (congrArg Value.bool hb6)) rfl (q_f F27_2 rfl) ?_
      refine o_w (za4 rfl rfl rfl (congrArg Value.bool hb6)) rfl (q_ldb Y25 rfl (fun w h => h.zab (i := 0) rfl) rfl) ?_
      refine o_w (za4 rfl rfl rfl (congrArg Value.bool hb6)) rfl (q_len Try.underlying25 rfl) ?_
      refine o_w (za4 rfl rfl rfl (congrArg Value.bool hb6)) rfl (q_gtr rfl rfl) ?_
      refine o_q rfl rfl (zar false (congrArg Value.bool hb6) rfl) ?_
      refine o_end ?_
      refine za1 ?_
      refine zau _ rfl (fun hb7 => ?_) (fun hb7 => ?_)
      · skip
        replace h := br_t hb7 h
        refine c_seq ?_
        refine za0 ?_
        refine o_q rfl rfl (q_asg rfl) ?_
        refine o_end ?_
        refine za1 ?_
        refine c_ret ?_
        refine za9 ?_
        have e0_ := Option.some.inj h; clear h
        subst e0_
        exact x_r1 () Try.results93 (zaf rfl) rfl (fun w h => za8 [] (by decide) rfl w h)
      · skip
        replace h := br_f hb7 h
        refine zan ?_
        refine za1 ?_
        refine c_seq ?_
        refine c_seq ?_
        refine za0 ?_
        refine o_q rfl rfl (q_f F27_1 rfl) ?_
        refine o_q rfl rfl (q_ldb Y24 rfl (fun w h => h.zab (i := 0) rfl) rfl) ?_
        refine o_q rfl rfl (q_len Try.underlying24 rfl) ?_
        refine o_q rfl rfl (za2 rfl) ?_
        refine o_end ?_
        refine za1 ?_
        refine zaj ?_
        refine zaa h (fun o16 hl15 hR14 => ?_) rfl
        clear h
        refine c_fact (p := l0_1.length ≤ 9223372036854775807) (fun w h => (R0_1.now Z h).2.1) (fun hm13 => ?_)
        refine zaw (σ := (List SStep) × Int) (fun k11 ((ys10, i8) : (List SStep) × Int) => Rg l0_1 i8 ys10 ∧ ys10.length = k11 ∧ spec_plGood.l0 a0_0 ys10 i8 = some o16) [2, 3, 4, 26, 27, 28, 29, 30, 31, 32, 33, 34, 35, 36, 37, 38, 39, 40, 41, 42, 43, 44, 45, 46] (fun ((ys10, i8) : (List SStep) × Int) => [(26, .int .i64 i8)]) (fun ((ys10, i8) : (List SStep) × Int) => [box g1 27 #[.int .i64 a0_0, .slice A0_1 l0_1.length c0_1, .slice A0_2 l0_2.length c0_2]]) l0_1.length (l0_1, 0) ⟨Rg.start _, rfl, hl15⟩ ⟨rfl, trivial⟩ (fun w h => h) ?_
        refine fun k11 => cur2 (listC (fun i8 U17 hJ_ => ?_) (fun y9 ys10 i8 U17 hJ_ => ?_))
        · skip
          clear hl15
          have hr12 := hJ_.1; have hk18 := hJ_.2.1; have h := hJ_.2.2; clear hJ_
          replace h : spec_plGood.l0 a0_0 [] i8 = some o16 := h
          rw [spec_plGood.l0] at h
          refine c_seq ?_
          refine za0 ?_
          refine o_q rfl rfl (q_lss rfl rfl) ?_
          refine o_end ?_
          refine za1 ?_
          refine c_seq ?_
          refine c_false (congrArg Value.bool hr12.ge) ?_
          refine c_exit ?_
          refine za6 ?_
          refine za6 ?_
          have e_ := Option.some.inj h; replace h := hR14; rw [← e_] at h; clear e_
          refine x_hit ?_
          refine za1 ?_
          refine c_seq ?_
          refine c_seq ?_
          refine za0 ?_
          refine o_q rfl rfl (q_ldB G27 Z27 rfl (fun w h => h.zab (i := 0) rfl) rfl) ?_
          refine zaa h (fun l20 hx19 h => ?_) rfl
          refine o_e rfl (zac 0 Z Try.func183 N183 rfl rfl rfl (fun w P1 hF hB hS hT => spec_plExponents.calls k a0_0 A0_1 c0_1 l0_1.length l0_1 A0_2 c0_2 l0_2.length l0_2 hB hF (hS _ R0_1) hc0_1 (hS _ R0_2) hc0_2 _ hx19)) (cur3 (fun A21 c22 H23 => ?_))
          refine o_q rfl rfl (q_len Try.underlying60 rfl) ?_
          refine o_q rfl rfl (za2 rfl) ?_
          refine o_end ?_
          refine za1 ?_
          refine zaj ?_
          refine zaa h (fun o32 hl31 hR30 => ?_) rfl
          clear h
          refine c_fact (p := l20.length ≤ 9223372036854775807) (fun w h => (h.zas (i := 0) rfl).2.1) (fun hm29 => ?_)
          refine zaw (σ := (List (List Int)) × Int) (fun k27 ((ys26, i24) : (List (List Int)) × Int) => Rg l20 i24 ys26 ∧ ys26.length = k27 ∧ spec_plGood.l1 ys26 i24 = some o32) [2, 6, 50, 51, 52, 53, 54, 55, 56, 57] (fun ((ys26, i24) : (List (List Int)) × Int) => [(50, .int .i64 i24)]) (fun ((ys26, i24) : (List (List Int)) × Int) => [row (gk 3 (Kd.int .i64)) 25 (.slice A21 l20.length c22) (zp H23 l20), box g1 27 #[.int .i64 a0_0, .slice A0_1 l0_1.length c0_1, .slice A0_2 l0_2.length c0_2]]) l20.length (l20, 0) ⟨Rg.start _, rfl, hl31⟩ ⟨rfl, trivial⟩ (fun w h => h) ?_
          refine fun k27 => cur2 (listC (fun i24 U33 hJ_ => ?_) (fun y25 ys26 i24 U33 hJ_ => ?_))
          · skip
            clear hl31
            have hr28 := hJ_.1; have hk34 := hJ_.2.1; have h := hJ_.2.2; clear hJ_
            replace h : spec_plGood.l1 [] i24 = some o32 := h
            rw [spec_plGood.l1] at h
            refine c_seq ?_
            refine za0 ?_
            refine o_q rfl rfl (q_lss rfl rfl) ?_
            refine o_end ?_
            refine za1 ?_
            refine c_seq ?_
            refine c_false (congrArg Value.bool hr28.ge) ?_
            refine c_exit ?_
            refine za6 ?_
            refine za6 ?_
            have e_ := Option.some.inj h; replace h := hR30; rw [← e_] at h; clear e_
            refine x_hit ?_
            refine za1 ?_
            refine c_seq ?_
            refine za0 ?_
            refine o_q rfl rfl (q_f F27_2 rfl) ?_
            refine o_q rfl rfl (q_ldb Y25 rfl (fun w h => h.zab (i := 1) rfl) rfl) ?_
            refine o_q rfl rfl (q_f F27_0 rfl) ?_
            refine o_q rfl rfl (q_ldb Y3 rfl (fun w h => h.zab (i := 1) rfl) rfl) ?_
            refine o_q rfl rfl (q_f F27_1 rfl) ?_
            refine o_q rfl rfl (q_ldb Y24 rfl (fun w h => h.zab (i := 1) rfl) rfl) ?_
            refine o_q rfl rfl (q_len Try.underlying24 rfl) ?_
            refine o_q rfl rfl (q_add64 rfl rfl) ?_
            refine o_q rfl rfl (q_sub64 rfl rfl) ?_
            refine zaa h (fun b36 hx35 h => ?_) rfl
            refine o_e rfl (zac 0 Z Try.func133 N133 rfl rfl rfl (fun w P1 hF hB hS hT => spec_l1All.calls A0_2 c0_2 l0_2.length l0_2 0 (w64 (w64 (a0_0 + (l0_1.length : Int)) - 1)) hB hF (hS _ R0_2) hc0_2 _ hx35)) (fun _ => ?_)
            refine o_q rfl rfl (q_asg rfl) ?_
            refine o_end ?_
            refine za1 ?_
            refine c_ret ?_
            have e0_ := Option.some.inj h; clear h
            subst e0_
            exact x_r1 () Try.results93 (zaf rfl) rfl (fun w h => za8 [] (by decide) rfl w h)
          · skip
            clear hl31
            have hr28 := hJ_.1; have hk34 := hJ_.2.1; have h := hJ_.2.2; clear hJ_
            replace h : spec_plGood.l1 (y25 :: ys26) i24 = some o32 := h
            rw [spec_plGood.l1] at h
            refine c_seq ?_
            refine za0 ?_
            refine o_q rfl rfl (q_lss rfl rfl) ?_
            refine o_end ?_
            refine za1 ?_
            refine c_seq ?_
            refine c_true (congrArg Value.bool hr28.lt) ?_
            refine zan ?_
            refine za1 ?_
            refine c_seq ?_
            refine zaj ?_
            refine c_seq ?_
            refine za0 ?_
            refine zaz (p := Sh A21 l20.length (zp H23 l20).length) (fun w h => f_sh (dk := (gk 3 (Kd.int .i64))) h (fun w h => h.zas (i := 0) rfl)) (fun hq37 => ?_)
            refine o_q rfl rfl (q_ix Try.underlying60 Z25 rfl rfl hq37 (gt_zp hr28.get)) ?_
            refine zaz (p := y25.length ≤ hC H23 i24) (fun w h => (K_in (h.zas (i := 0) rfl) hr28.get).1) (fun hc38 => ?_)
            refine o_q rfl rfl (q_lde (off := 0) Y25 rfl rfl (fun w h => h.zas (i := 0) rfl) (gt_zp hr28.get) (fun _ _ h => h.1) rfl) ?_
            refine o_q rfl rfl (q_asg rfl) ?_
            refine o_end ?_
            refine za1 ?_
            refine c_seq ?_
            refine za0 ?_
            refine o_q rfl rfl (za2 rfl) ?_
            refine zaa h (fun b40 hx39 h => ?_) rfl
            refine o_e rfl (zac 0 Z Try.func133 N133 rfl rfl rfl (fun w P1 hF hB hS hT => spec_l1All.calls (hA H23 i24) (hC H23 i24) y25.length y25 0 1000000 hB hF (stab_in (hT 0 _ rfl).row hr28.get) hc38 _ hx39)) (fun _ => ?_)
            refine o_q rfl rfl (q_not rfl) ?_
            refine o_end ?_
            refine za1 ?_
            refine zau _ rfl (fun hb41 => ?_) (fun hb41 => ?_)
            · replace hb41 := nt_t hb41
              replace h := bb_f hb41 h
              refine c_seq ?_
              refine za0 ?_
              refine o_q rfl rfl (q_asg rfl) ?_
              refine o_end ?_
              refine za1 ?_
              refine c_ret ?_
              refine zam ?_
              refine za9 ?_
              refine za9 ?_
              have e_ := Option.some.inj h; replace h := hR30; rw [← e_] at h; clear e_
              refine zam ?_
              refine za9 ?_
              have e0_ := Option.some.inj h; clear h
              subst e0_
              exact x_r1 () Try.results93 (zaf rfl) rfl (fun w h => za8 [] (by decide) rfl w h)
            · replace hb41 := nt_f hb41
              replace h := bb_t hb41 h
              refine zan ?_
              refine zal ?_
              refine za1 ?_
              refine za0 ?_
              refine o_q rfl rfl (q_up rfl rfl (hr28.up hm29)) ?_
              refine o_q rfl rfl (za2 rfl) ?_
              refine o_end ?_
              refine zak ys26.length (ys26, i24 + 1) (by rw [← hk34]; exact Nat.lt_succ_self _) ⟨hr28.step, rfl, h⟩ ⟨rfl, trivial⟩ (fun w h => za8 [0, 1] (by decide) rfl w h) ?_
              repeat (first | exact zad _ _ | refine zah rfl ?_ | refine zae rfl ?_ | refine zai rfl ?_)
        · skip
          clear hl15
          have hr12 := hJ_.1; have hk18 := hJ_.2.1; have h := hJ_.2.2; clear hJ_
          replace h : spec_plGood.l0 a0_0 (y9 :: ys10) i8 = some o16 := h
          rw [spec_plGood.l0] at h
          refine c_seq ?_
          refine za0 ?_
          refine o_q rfl rfl (q_lss rfl rfl) ?_
          refine o_end ?_
          refine za1 ?_
          refine c_seq ?_
          refine c_true (congrArg Value.bool hr12.lt) ?_
          refine zan ?_
          refine za1 ?_
          refine c_seq ?_
          refine zaj ?_
          refine c_seq ?_
          refine za0 ?_
          refine o_q rfl rfl (za2 rfl) ?_
          refine zaz (p := Sh A0_1 l0_1.length l0_1.length) (fun w h => f_sh (dk := kStep) h (fun w h => R0_1.now Z h)) (fun hq42 => ?_)
          refine o_q rfl rfl (q_ix Try.underlying24 Z89 rfl rfl hq42 hr12.get) ?_
          refine o_q rfl rfl (q_ldE G89 Z89 rfl rfl (fun w h => R0_1.now Z h) hr12.get (fun _ _ h => h) rfl) ?_
          refine o_e rfl (e_alloc V89 rfl) (fun g43 => ?_)
          refine o_q rfl rfl (q_asg rfl) ?_
          refine o_e rfl (zax (i := 0) rfl rfl rfl Z89 rfl rfl) (fun _ => ?_)
          refine o_end ?_
          refine za1 ?_
          refine c_seq ?_
          refine za0 ?_
          refine o_q rfl rfl (q_f F89_0 rfl) ?_
          refine o_q rfl rfl (q_ldb Y3 rfl (fun w h => h.zab (i := 0) rfl) rfl) ?_
          refine o_q rfl rfl (q_f F89_1 rfl) ?_
          refine o_q rfl rfl (q_ldb Y3 rfl (fun w h => h.zab (i := 0) rfl) rfl) ?_
          refine zaa h (fun b46 hx45 h => ?_) rfl
          refine o_e rfl (zac 0 Z Try.func94 N94 rfl rfl rfl (fun w P1 hF hB hS hT => spec_l1In.calls y9.f0 0 y9.f1 hB hF _ hx45)) (fun _ => ?_)
          refine o_q rfl rfl (q_not rfl) ?_
          refine o_q rfl rfl (za2 rfl) ?_
          refine byB b46 (fun hb47 => ?_) (fun hb47 => ?_)
          · replace h := bb_t hb47 h
            refine o_w (za4 rfl rfl rfl (congrArg (fun b => Value.bool (!(b))) hb47)) rfl (q_f F89_1 rfl) ?_
            refine o_w (za4 rfl rfl rfl (congrArg (fun b => Value.bool (!(b))) hb47)) rfl (q_ldb Y3 rfl (fun w h => h.zab (i := 0) rfl) rfl) ?_
            refine o_w (za4 rfl rfl rfl (congrArg (fun b => Value.bool (!(b))) hb47)) rfl (q_f F27_0 rfl) ?_
            refine o_w (za4 rfl rfl rfl (congrArg (fun b => Value.bool (!(b))) hb47)) rfl (q_ldb Y3 rfl (fun w h => h.zab (i := 1) rfl) rfl) ?_
            refine o_w (za4 rfl rfl rfl (congrArg (fun b => Value.bool (!(b))) hb47)) rfl (za2 rfl) ?_
            refine o_w (za4 rfl rfl rfl (congrArg (fun b => Value.bool (!(b))) hb47)) rfl (q_add64 rfl rfl) ?_
            refine o_w (za4 rfl rfl rfl (congrArg (fun b => Value.bool (!(b))) hb47)) rfl (q_geq rfl rfl) ?_
            refine o_q rfl rfl (zar false (congrArg (fun b => Value.bool (!(b))) hb47) rfl) ?_
            refine o_end ?_
            refine za1 ?_
            refine zau _ rfl (fun hb48 => ?_) (fun hb48 => ?_)
            · skip
              replace h := br_t hb48 h
              refine c_seq ?_
              refine za0 ?_
              refine o_q rfl rfl (q_asg rfl) ?_
              refine o_end ?_
              refine za1 ?_
              refine c_ret ?_
              refine zam ?_
              refine za9 ?_
              refine za9 ?_
              have e_ := Option.some.inj h; replace h := hR14; rw [← e_] at h; clear e_
              refine zam ?_
              refine za9 ?_
              have e0_ := Option.some.inj h; clear h
              subst e0_
              exact x_r1 () Try.results93 (zaf rfl) rfl (fun w h => za8 [] (by decide) rfl w h)
            · skip
              replace h := br_f hb48 h
              refine zan ?_
              refine zal ?_
              refine za1 ?_
              refine za0 ?_
              refine o_q rfl rfl (q_up rfl rfl (hr12.up hm13)) ?_
              refine o_q rfl rfl (za2 rfl) ?_
              refine o_end ?_
              refine zak ys10.length (ys10, i8 + 1) (by rw [← hk18]; exact Nat.lt_succ_self _) ⟨hr12.step, rfl, h⟩ ⟨rfl, trivial⟩ (fun w h => za8 [1] (by decide) rfl w h) ?_
              repeat (first | exact zad _ _ | refine zah rfl ?_ | refine zae rfl ?_ | refine zai rfl ?_)
          · replace h := bb_f hb47 h
            refine @o_n _ _ _ _ _ _ _ _ _ _ _ 38 (za3 rfl rfl rfl (congrArg (fun b => Value.bool (!(b))) hb47) rfl) (Eq.refl (some 38)) ?_
            refine @o_n _ _ _ _ _ _ _ _ _ _ _ 39 (za3 rfl rfl rfl (congrArg (fun b => Value.bool (!(b))) hb47) rfl) (Eq.refl (some 39)) ?_
            refine @o_n _ _ _ _ _ _ _ _ _ _ _ 40 (za3 rfl rfl rfl (congrArg (fun b => Value.bool (!(b))) hb47) rfl) (Eq.refl (some 40)) ?_
            refine @o_n _ _ _ _ _ _ _ _ _ _ _ 41 (za3 rfl rfl rfl (congrArg (fun b => Value.bool (!(b))) hb47) rfl) (Eq.refl (some 41)) ?_
            refine @o_n _ _ _ _ _ _ _ _ _ _ _ 42 (za3 rfl rfl rfl (congrArg (fun b => Value.bool (!(b))) hb47) rfl) (Eq.refl (some 42)) ?_
            refine @o_n _ _ _ _ _ _ _ _ _ _ _ 43 (za3 rfl rfl rfl (congrArg (fun b => Value.bool (!(b))) hb47) rfl) (Eq.refl (some 43)) ?_
            refine @o_n _ _ _ _ _ _ _ _ _ _ _ 44 (za3 rfl rfl rfl (congrArg (fun b => Value.bool (!(b))) hb47) rfl) (Eq.refl (some 44)) ?_
            refine o_q rfl rfl (zar true (congrArg (fun b => Value.bool (!(b))) hb47) rfl) ?_
            refine o_end ?_
            refine za1 ?_
            refine c_true rfl ?_
            refine c_seq ?_
            refine za0 ?_
            refine o_q rfl rfl (q_asg rfl) ?_
            refine o_end ?_
            refine za1 ?_
            refine c_ret ?_
            refine zam ?_
            refine za9 ?_
            refine za9 ?_
            have e_ := Option.some.inj h; replace h := hR14; rw [← e_] at h; clear e_
            refine zam ?_
            refine za9 ?_
            have e0_ := Option.some.inj h; clear h
            subst e0_
            exact x_r1 () Try.results93 (zaf rfl) rfl (fun w h => za8 [] (by decide) rfl w h)
  · replace h := bb_f hb5 h
    refine @o_n _ _ _ _ _ _ _ _ _ _ _ 12 (za3 rfl rfl rfl (congrArg (fun b => Value.bool (!(b))) hb5) rfl) (Eq.refl (some 12)) ?_
    refine @o_n _ _ _ _ _ _ _ _ _ _ _ 13 (za3 rfl rfl rfl (congrArg (fun b => Value.bool (!(b))) hb5) rfl) (Eq.refl (some 13)) ?_
    refine @o_n _ _ _ _ _ _ _ _ _ _ _ 14 (za3 rfl rfl rfl (congrArg (fun b => Value.bool (!(b))) hb5) rfl) (Eq.refl (some 14)) ?_
    refine @o_n _ _ _ _ _ _ _ _ _ _ _ 15 (za3 rfl rfl rfl (congrArg (fun b => Value.bool (!(b))) hb5) rfl) (Eq.refl (some 15)) ?_
    refine o_q rfl rfl (zar true (congrArg (fun b => Value.bool (!(b))) hb5) rfl) ?_
    refine o_q rfl rfl (za2 rfl) ?_
    refine @o_n _ _ _ _ _ _ _ _ _ _ _ 18 (za3 rfl rfl rfl rfl rfl) (Eq.refl (some 18)) ?_
    refine @o_n _ _ _ _ _ _ _ _ _ _ _ 19 (za3 rfl rfl rfl rfl rfl) (Eq.refl (some 19)) ?_
    refine @o_n _ _ _ _ _ _ _ _ _ _ _ 20 (za3 rfl rfl rfl rfl rfl) (Eq.refl (some 20)) ?_
    refine @o_n _ _ _ _ _ _ _ _ _ _ _ 21 (za3 rfl rfl rfl rfl rfl) (Eq.refl (some 21)) ?_
    refine o_q rfl rfl (zar true rfl rfl) ?_
    refine o_end ?_
    refine za1 ?_
    refine c_true rfl ?_
    refine c_seq ?_
    refine za0 ?_
    refine o_q rfl rfl (q_asg rfl) ?_
    refine o_end ?_
    refine za1 ?_
    refine c_ret ?_
    refine za9 ?_
    have e0_ := Option.some.inj h; clear h
    subst e0_
    exact x_r1 () Try.results93 (zaf rfl) rfl (fun w h => za8 [] (by decide) rfl w h)

end Go.Proofs.Ytoegbcbdiggbjaa.HP
