import Derived.Test.YtoegbcbdiggbjaaKFnSplitPlansSPp1
namespace Go.Proofs.Ytoegbcbdiggbjaa.SP
open Go.RowKit Go.Proofs.Ytoegbcbdiggbjaa.Frame Go.Proofs.YtoegbcbdiggbjaaW.PrintLast Go.Proofs.Ytoegbcbdiggbjaa.Hand
open Go.Proofs.YtoegbcbdiggbjaaW.PrintWords hiding mn mx
set_option linter.unusedVariables false
/-! ### loop.example/g01098/spec.DrawSplitPlan: function 14 -/
def spec_DrawSplitPlan.f (k : Nat) (l0 : List Int) : Option (Int × (List SStep) × (List Int) × Int) := (spec_l1Cur_anyPlan.f k l0 0 0 3 8).bind fun (i6, l7, l8, i9, i10) => (spec_l1Cur_pick.f l0 i9 i10 (w64 ((l7.length : Int) + 3))).bind fun (i18, i19, i20) => some (i6, l7, l8, w64 (i18 - 1))
set_option maxHeartbeats 600000 in
set_option maxRecDepth 100000 in
theorem spec_DrawSplitPlan.calls (k : Nat) {w0 ws : World} {P0 : Nat → Prop} (A0 : Option Addr) (c0 : Nat) (n0 : Nat) (l0 : List Int) (Z : Below w0.heap.size w0 ws) (hF : Fr w0 ws P0 [] ws) (R0 : Stable ws P0 (fun w => Kd.C (Kd.int .u8) w A0 n0 l0)) (hc0 : n0 ≤ c0) (r_1 : Int) (r_2 : List SStep) (r_5 : List Int) (r_8 : Int) (h : spec_DrawSplitPlan.f k l0 = some (r_1, r_2, r_5, r_8)) :
    Calls Try.prog 14 #[.slice A0 n0 c0] ws (Post1 w0 ws P0 (fun ((q_3, q_4, q_6, q_7) : (Option Addr) × Nat × (Option Addr) × Nat) => .tuple #[.agg #[.int .i64 r_1, .slice q_3 r_2.length q_4, .slice q_6 r_5.length q_7], .int .i64 r_8]) (fun ((q_3, q_4, q_6, q_7) : (Option Addr) × Nat × (Option Addr) × Nat) => [row kStep 89 (.slice q_3 r_2.length q_4) r_2, row (Kd.int .i64) 3 (.slice q_6 r_5.length q_7) r_5])) := by
  unfold spec_DrawSplitPlan.f at h
  obtain rfl := (R0 ws (KeptB.refl _ _)).1
  refine enter Try.func14 rfl Try.ntmps14 rfl hF ?_
  refine c_seq ?_
  refine za0 ?_
  refine o_e rfl (zaw V27 rfl) (fun g1 => ?_)
  refine o_q rfl rfl (q_asg rfl) ?_
  refine o_end ?_
  refine za1 ?_
  refine c_seq ?_
  refine za0 ?_
  refine o_q rfl rfl (za2 rfl) ?_
  refine o_q rfl rfl (q_build (vs := [(0, .slice A0 l0.length c0)]) (cs := [.slice A0 l0.length c0, .int .i64 0, .int .u64 0]) rfl rfl) ?_
  refine o_e rfl (e_box rfl) (fun g3 => ?_)
  refine o_q rfl rfl (q_asg rfl) ?_
  refine o_end ?_
  refine za1 ?_
  refine c_seq ?_
  refine za0 ?_
  refine o_q rfl rfl (za2 rfl) ?_
  refine bindE5 h (fun i6 l7 l8 i9 i10 hx5 h => ?_) rfl
  refine o_e rfl (zac 1 Z Try.func84 N84 rfl rfl rfl (fun w P1 hF hB hS hT => spec_l1Cur_anyPlan.calls k g3 A0 c0 l0.length l0 0 0 3 8 hB hF (hS _ R0) hc0 _ _ _ _ _ hx5)) (cur4 (fun A11 c12 A13 c14 => ?_))
  refine o_e rfl (zaw V27 rfl) (fun g15 => ?_)
  refine o_e rfl (zak (i := 0) rfl rfl rfl Z27 rfl rfl) (fun _ => ?_)
  refine o_end ?_
  refine za1 ?_
  refine c_seq ?_
  refine a_startS (ds := []) [some 0, some 1, some 2, none, none] MO rfl ?_
  refine zax 0 rfl rfl rfl (by kernel_rfl) (fun _ _ _ h => h) (fun w h => za5 [some 0, some 1, some 2, none, none] (by decide) w h rfl) (q_ldB G27 Z27 rfl (fun w h => h.zaa (i := 0) rfl) rfl) ?_
  refine za6 1 rfl rfl rfl (by kernel_rfl) (fun _ _ _ h => h) (za2 rfl) ?_
  refine za6 2 rfl rfl rfl (by kernel_rfl) (fun _ _ _ h => h) (q_f F27_1 rfl) ?_
  refine zax 3 rfl rfl rfl (by kernel_rfl) (fun _ _ _ h => h) (fun w h => za5 [some 0, some 1, some 2, none, none] (by decide) w h rfl) (q_ldb Y24 rfl (fun w h => h.zaa (i := 0) rfl) rfl) ?_
  refine za6 4 rfl rfl rfl (by kernel_rfl) (fun _ _ _ h => h) (q_len Try.underlying24 rfl) ?_
  refine za6 5 rfl rfl rfl (by kernel_rfl) (fun _ _ _ h => h) (q_add64 rfl rfl) ?_
  refine a_pick [3, 0, 1, 2, 4] (by decide) rfl ?_
  refine bindE3 h (fun i18 i19 i20 hx17 h => ?_) rfl
  refine a_one 6 rfl rfl (by kernel_rfl) rfl (zac 1 Z Try.func85 N85 rfl rfl rfl (fun w P1 hF hB hS hT => spec_l1Cur_pick.calls g3 A0 c0 l0.length l0 i9 i10 (w64 ((l7.length : Int) + 3)) hB hF (hS _ R0) hc0 _ _ _ hx17)) (fun s w h => za5 [some 1, some 2, some 3, none, none] (by decide) w h rfl) (fun _ => ?_)
  refine za6 7 rfl rfl rfl (by kernel_rfl) (fun _ _ _ h => h) (q_sub64 rfl rfl) ?_
  refine a_one 8 rfl rfl (by kernel_rfl) rfl (zak (i := 4) rfl rfl rfl Z27 rfl rfl) (fun s w h => za5 [some 1, some 2, some 3, none, none] (by decide) w h rfl) (fun _ => ?_)
  refine za6 9 rfl rfl rfl (by kernel_rfl) (fun _ _ _ h => h) (q_asg rfl) ?_
  refine zav (by kernel_rfl) ?_
  refine za1 ?_
  refine c_ret ?_
  have e0_ := Option.some.inj h; clear h
  have d0_ := (Prod.mk.inj e0_).1; have e1_ := (Prod.mk.inj e0_).2; clear e0_; subst d0_
  have d1_ := (Prod.mk.inj e1_).1; have e2_ := (Prod.mk.inj e1_).2; clear e1_; subst d1_
  have d2_ := (Prod.mk.inj e2_).1; have e3_ := (Prod.mk.inj e2_).2; clear e2_; subst d2_
  subst e3_
  exact x_r2 (A11, c12, A13, c14) Try.results14 (rv_cell rfl G27 Z27 (fun w h => h.zaa (i := 4) rfl) rfl) (zai rfl) rfl (fun w h => za7 [2, 3] (by decide) rfl w h)

/-! ### (*loop.example/g01098/impl.Plan).liveAt: function 88 -/
def impl_Plan_liveAt.l2 : (List Bool) → (List Int) → Int → Option (List Int)
  | [], l39, i42 => some l39
  | y43 :: ys44, l39, i42 => if y43 = true then ((ap l39 ([i42] : List Int)).bind fun l58 => impl_Plan_liveAt.l2 ys44 l58 (i42 + 1)) else (impl_Plan_liveAt.l2 ys44 l39 (i42 + 1))
def impl_Plan_liveAt.l1 : (List SStep) → (List Bool) → Int → Option (List Bool)
  | [], l24, i25 => some l24
  | y26 :: ys27, l24, i25 => (gt l24 y26.f0).bind fun y67 => (st l24 y26.f0 true).bind fun l68 => (gt l68 y26.f1).bind fun y72 => (st l68 y26.f1 true).bind fun l73 => impl_Plan_liveAt.l1 ys27 l73 (i25 + 1)
def impl_Plan_liveAt.l0 : (List Int) → (List Bool) → Int → Option (List Bool)
  | [], l10, i11 => some l10
  | y12 :: ys13, l10, i11 => (gt l10 y12).bind fun y78 => (st l10 y12 true).bind fun l79 => impl_Plan_liveAt.l0 ys13 l79 (i11 + 1)
def impl_Plan_liveAt.f (a0_0 : Int) (l0_1 : List SStep) (l0_2 : List Int) (a1 : Int) : Option (List Int) := (impl_Plan_many.f a0_0 l0_1 l0_2).bind fun _ => (mk0 (w64 (a0_0 + (l0_1.length : Int))) false).bind fun l2 => (impl_Plan_liveAt.l0 l0_2 l2 0).bind fun l10 => (ct l0_1 a1 (l0_1.length : Int)).bind fun l22 => (impl_Plan_liveAt.l1 l22 l10 0).bind fun l24 => (ct l24 (0 : Int) (w64 (a0_0 + a1))).bind fun l36 => (impl_Plan_liveAt.l2 l36 ([] : List Int) 0).bind fun l39 => some l39
set_option maxHeartbeats 600000 in
set_option maxRecDepth 100000 in
theorem impl_Plan_liveAt.calls {w0 ws : World} {P0 : Nat → Prop} (g0 : Nat) (a0_0 : Int) (A0_1 : Option Addr) (c0_1 : Nat) (n0_1 : Nat) (l0_1 : List SStep) (A0_2 : Option Addr) (c0_2 : Nat) (n0_2 : Nat) (l0_2 : List Int) (a1 : Int) (Z : Below w0.heap.size w0 ws) (hF : Fr w0 ws P0 [] ws) (R0_1 : Stable ws P0 (fun w => Kd.C kStep w A0_1 n0_1 l0_1)) (hc0_1 : n0_1 ≤ c0_1) (R0_2 : Stable ws P0 (fun w => Kd.C (Kd.int .i64) w A0_2 n0_2 l0_2)) (hc0_2 : n0_2 ≤ c0_2) (B0 : Stable ws P0 (fun w => w.heap[g0]? = some (.cells #[.int .i64 a0_0, .slice A0_1 n0_1 c0_1, .slice A0_2 n0_2 c0_2] 27 (0, 0)))) (r_1 : List Int) (h : impl_Plan_liveAt.f a0_0 l0_1 l0_2 a1 = some r_1) :
    Calls Try.prog 88 #[.pointer (some ⟨g0, 0, none⟩), .int .i64 a1] ws (Post1 w0 ws P0 (fun ((q_2, q_3) : (Option Addr) × Nat) => .slice q_2 r_1.length q_3) (fun ((q_2, q_3) : (Option Addr) × Nat) => [row (Kd.int .i64) 3 (.slice q_2 r_1.length q_3) r_1])) := by
  unfold impl_Plan_liveAt.f at h
  obtain rfl := (R0_1 ws (KeptB.refl _ _)).1
  obtain rfl := (R0_2 ws (KeptB.refl _ _)).1
  refine enter Try.func88 rfl Try.ntmps88 rfl hF ?_
  refine c_seq ?_
  refine za0 ?_
  refine o_q rfl rfl (q_asg rfl) ?_
  refine o_end ?_
  refine za1 ?_
  refine c_seq ?_
  refine za0 ?_
  refine o_q rfl rfl (za2 rfl) ?_
  refine za8 h (fun _ hx1 h => ?_) rfl
  refine o_e rfl (zac 0 Z Try.func90 N90 rfl rfl rfl (fun w P1 hF hB hS hT => impl_Plan_many.calls g0 a0_0 A0_1 c0_1 l0_1.length l0_1 A0_2 c0_2 l0_2.length l0_2 hB hF (hS _ R0_1) hc0_1 (hS _ R0_2) hc0_2 (hS _ B0) hx1)) (fun _ => ?_)
  refine za8 h (fun l2 hm3 h => ?_) rfl
  refine o_e rfl (e_make Kd.bool false Try.underlying108 I4 rfl (by decide) (by decide) (fun _ _ => rfl) rfl rfl hm3) (cur2 (fun A4 c5 => ?_))
  refine o_e rfl (e_lit0 (Kd.int .i64) Try.underlying25 I3) (cur2 (fun A7 c8 => ?_))
  refine o_q rfl rfl (q_asg rfl) ?_
  refine o_q rfl rfl (q_asg rfl) ?_
  refine o_end ?_
  refine za1 ?_
  refine c_seq ?_
  refine c_seq ?_
  refine za0 ?_
  refine o_q rfl rfl (za2 rfl) ?_
  refine o_q rfl rfl (q_nil rfl) ?_
  refine o_q rfl rfl (q_f F27_2 rfl) ?_
  refine o_q rfl rfl (q_ldb Y25 rfl (fun w h => B0.now Z h) rfl) ?_
  refine o_q rfl rfl (q_len Try.underlying25 rfl) ?_
  refine o_q rfl rfl (za2 rfl) ?_
  refine o_end ?_
  refine za1 ?_
  refine zaj ?_
  refine za8 h (fun o19 hl18 hR17 => ?_) rfl
  clear h
  refine c_fact (p := l0_2.length ≤ 9223372036854775807) (fun w h => (R0_2.now Z h).2.1) (fun hm16 => ?_)
  refine c_loopL (σ := (List Int) × (List Bool) × Int) (fun k14 ((ys13, l10, i11) : (List Int) × (List Bool) × Int) => Rg l0_2 i11 ys13 ∧ ys13.length = k14 ∧ impl_Plan_liveAt.l0 ys13 l10 i11 = some o19) [8, 22, 23, 24, 25, 26, 27, 28, 29] (fun ((ys13, l10, i11) : (List Int) × (List Bool) × Int) => [(22, .int .i64 i11)]) (fun ((ys13, l10, i11) : (List Int) × (List Bool) × Int) => [row (Kd.int .i64) 3 (.slice A7 (([] : List Int).length) c8) ([] : List Int), row Kd.bool 4 (.slice A4 l2.length c5) l10]) l0_2.length (l0_2, l2, 0) ⟨Rg.start _, rfl, hl18⟩ ⟨rfl, trivial⟩ (fun w h => h) ?_
  refine fun k14 => cur3 (listC (fun l10 i11 U20 hJ_ => ?_) (fun y12 ys13 l10 i11 U20 hJ_ => ?_))
  · skip
    clear hl18
    have hr15 := hJ_.1; have hk21 := hJ_.2.1; have h := hJ_.2.2; clear hJ_
    replace h : impl_Plan_liveAt.l0 [] l10 i11 = some o19 := h
    rw [impl_Plan_liveAt.l0] at h
    refine c_seq ?_
    refine za0 ?_
    refine o_q rfl rfl (q_lss rfl rfl) ?_
    refine o_end ?_
    refine za1 ?_
    refine c_seq ?_
    refine c_false (congrArg Value.bool hr15.ge) ?_
    refine c_exit ?_
    refine za9 ?_
    refine za9 ?_
    have e_ := Option.some.inj h; replace h := hR17; rw [← e_] at h; clear e_
    refine x_hit ?_
    refine za1 ?_
    refine c_seq ?_
    refine c_seq ?_
    refine za0 ?_
    refine o_q rfl rfl (za2 rfl) ?_
    refine o_q rfl rfl (q_nil rfl) ?_
    refine o_q rfl rfl (q_f F27_1 rfl) ?_
    refine o_q rfl rfl (q_ldb Y24 rfl (fun w h => B0.now Z h) rfl) ?_
    refine o_q rfl rfl (za2 rfl) ?_
    refine za8 h (fun l22 hz23 h => ?_) rfl
    refine o_q rfl rfl (q_ctv Try.underlying24 Z89 rfl ⟨_, rfl⟩ rfl rfl hc0_1 hz23) ?_
    refine o_q rfl rfl (q_len Try.underlying24 rfl) ?_
    refine o_q rfl rfl (za2 rfl) ?_
    refine o_end ?_
    refine za1 ?_
    refine zaj ?_
    refine za8 h (fun o33 hl32 hR31 => ?_) rfl
    clear h
    refine c_fact (p := l22.length ≤ 9223372036854775807) (fun w h => (C_cut (dk := kStep) rfl hz23 hc0_1 (R0_1.now Z h)).2.1) (fun hm30 => ?_)
    refine c_loopL (σ := (List SStep) × (List Bool) × Int) (fun k28 ((ys27, l24, i25) : (List SStep) × (List Bool) × Int) => Rg l22 i25 ys27 ∧ ys27.length = k28 ∧ impl_Plan_liveAt.l1 ys27 l24 i25 = some o33) [10, 37, 38, 39, 40, 41, 42, 43, 44, 45, 46, 47, 48, 49] (fun ((ys27, l24, i25) : (List SStep) × (List Bool) × Int) => [(37, .int .i64 i25)]) (fun ((ys27, l24, i25) : (List SStep) × (List Bool) × Int) => [row (Kd.int .i64) 3 (.slice A7 (([] : List Int).length) c8) ([] : List Int), row Kd.bool 4 (.slice A4 l2.length c5) l24]) l22.length (l22, l10, 0) ⟨Rg.start _, rfl, hl32⟩ ⟨rfl, trivial⟩ (fun w h => h) ?_
    refine fun k28 => cur3 (listC (fun l24 i25 U34 hJ_ => ?_) (fun y26 ys27 l24 i25 U34 hJ_ => ?_))
    · skip
      clear hl32
      have hr29 := hJ_.1; have hk35 := hJ_.2.1; have h := hJ_.2.2; clear hJ_
      replace h : impl_Plan_liveAt.l1 [] l24 i25 = some o33 := h
      rw [impl_Plan_liveAt.l1] at h
      refine c_seq ?_
      refine za0 ?_
      refine o_q rfl rfl (q_lss rfl rfl) ?_
      refine o_end ?_
      refine za1 ?_
      refine c_seq ?_
      refine c_false (congrArg Value.bool hr29.ge) ?_
      refine c_exit ?_
      refine za9 ?_
      refine za9 ?_
      have e_ := Option.some.inj h; replace h := hR31; rw [← e_] at h; clear e_
      refine x_hit ?_
      refine za1 ?_
      refine c_seq ?_
      refine c_seq ?_
      refine za0 ?_
      refine o_q rfl rfl (za2 rfl) ?_
      refine o_q rfl rfl (za2 rfl) ?_
      refine o_q rfl rfl (q_nil rfl) ?_
      refine o_q rfl rfl (q_f F27_0 rfl) ?_
      refine o_q rfl rfl (q_ldb Y3 rfl (fun w h => B0.now Z h) rfl) ?_
      refine o_q rfl rfl (za2 rfl) ?_
      refine o_q rfl rfl (q_add64 rfl rfl) ?_
      refine za8 h (fun l36 hz37 h => ?_) rfl
      refine o_fact (p := l2.length = l24.length ∧ l2.length ≤ c5) (fun w h => h.row_nc (i := 1) rfl) (fun hk38 => ?_)
      refine o_q rfl rfl (q_ctv Try.underlying108 Z4 rfl rfl ⟨_, rfl⟩ hk38.1 hk38.2 hz37) ?_
      refine o_q rfl rfl (q_len Try.underlying108 rfl) ?_
      refine o_q rfl rfl (za2 rfl) ?_
      refine o_end ?_
      refine za1 ?_
      refine zaj ?_
      refine za8 h (fun o50 hl49 hR48 => ?_) rfl
      clear h
      refine c_fact (p := l36.length ≤ 9223372036854775807) (fun w h => (C_cut (dk := Kd.bool) rfl hz37 hk38.2 (h.zay (i := 1) rfl)).2.1) (fun hm47 => ?_)
      refine c_loopL (σ := (List Bool) × (List Int) × Int × (Option Addr) × Nat) (fun k45 ((ys44, l39, i42, A40, c41) : (List Bool) × (List Int) × Int × (Option Addr) × Nat) => Rg l36 i42 ys44 ∧ ys44.length = k45 ∧ impl_Plan_liveAt.l2 ys44 l39 i42 = some o50) [6, 11, 12, 59, 60, 61, 62, 63, 64, 65, 66, 67, 68, 69] (fun ((ys44, l39, i42, A40, c41) : (List Bool) × (List Int) × Int × (Option Addr) × Nat) => [(6, .slice A40 l39.length c41), (59, .int .i64 i42)]) (fun ((ys44, l39, i42, A40, c41) : (List Bool) × (List Int) × Int × (Option Addr) × Nat) => [row (Kd.int .i64) 3 (.slice A40 l39.length c41) l39, row Kd.bool 4 (.slice A4 l2.length c5) l24]) l36.length (l36, ([] : List Int), 0, A7, c8) ⟨Rg.start _, rfl, hl49⟩ ⟨rfl, rfl, trivial⟩ (fun w h => h) ?_
      refine fun k45 => cur5 (listC (fun l39 i42 A40 c41 U51 hJ_ => ?_) (fun y43 ys44 l39 i42 A40 c41 U51 hJ_ => ?_))
      · skip
        clear hl49
        have hr46 := hJ_.1; have hk52 := hJ_.2.1; have h := hJ_.2.2; clear hJ_
        replace h : impl_Plan_liveAt.l2 [] l39 i42 = some o50 := h
        rw [impl_Plan_liveAt.l2] at h
        refine c_seq ?_
        refine za0 ?_
        refine o_q rfl rfl (q_lss rfl rfl) ?_
        refine o_end ?_
        refine za1 ?_
        refine c_seq ?_
        refine c_false (congrArg Value.bool hr46.ge) ?_
        refine c_exit ?_
        refine za9 ?_
        refine za9 ?_
        have e_ := Option.some.inj h; replace h := hR48; rw [← e_] at h; clear e_
        refine x_hit ?_
        refine za1 ?_
        refine c_seq ?_
        refine za0 ?_
        refine o_q rfl rfl (za2 rfl) ?_
        refine o_q rfl rfl (q_asg rfl) ?_
        refine o_end ?_
        refine za1 ?_
        refine c_ret ?_
        have e0_ := Option.some.inj h; clear h
        subst e0_
        exact x_r1 (A40, c41) Try.results88 (zai rfl) rfl (fun w h => za7 [0] (by decide) rfl w h)
      · skip
        clear hl49
        have hr46 := hJ_.1; have hk52 := hJ_.2.1; have h := hJ_.2.2; clear hJ_
        replace h : impl_Plan_liveAt.l2 (y43 :: ys44) l39 i42 = some o50 := h
        rw [impl_Plan_liveAt.l2] at h
        refine c_seq ?_
        refine za0 ?_
        refine o_q rfl rfl (q_lss rfl rfl) ?_
        refine o_end ?_
        refine za1 ?_
        refine c_seq ?_
        refine c_true (congrArg Value.bool hr46.lt) ?_
        refine zan ?_
        refine za1 ?_
        refine c_seq ?_
        refine zaj ?_
        refine c_seq ?_
        refine za0 ?_
        refine o_q rfl rfl (za2 rfl) ?_
        refine o_fact (p := Sh (cutA A4 c5 (0 : Int).toNat 1) l36.length l36.length) (fun w h => f_sh (dk := Kd.bool) h (fun w h => C_cut (dk := Kd.bool) rfl hz37 hk38.2 (h.zay (i := 1) rfl))) (fun hq53 => ?_)
        refine o_q rfl rfl (q_ix Try.underlying108 Z4 rfl rfl hq53 hr46.get) ?_
        refine o_q rfl rfl (q_lde (off := 0) Y4 rfl rfl (fun w h => C_cut (dk := Kd.bool) rfl hz37 hk38.2 (h.zay (i := 1) rfl)) hr46.get (fun _ _ h => h) rfl) ?_
        refine o_q rfl rfl (q_asg rfl) ?_
        refine o_q rfl rfl (q_asg rfl) ?_
        refine o_end ?_
        refine za1 ?_
        refine c_seq ?_
        refine za0 ?_
        refine o_q rfl rfl (za2 rfl) ?_
        refine o_end ?_
        refine za1 ?_
        refine zau _ rfl (fun hb54 => ?_) (fun hb54 => ?_)
        · skip
          replace h := bb_t hb54 h
          refine za0 ?_
          refine o_q rfl rfl (za2 rfl) ?_
          refine o_q rfl rfl (za2 rfl) ?_
          refine o_e rfl (e_lit (vs := [(0, .int .i64 i42)]) (cs := [.int .i64 i42]) (Kd.int .i64) ([i42] : List Int) Try.underlying25 I3 (by decide) rfl (by decide) rfl rfl (fun _ _ => Kd.zas _)) (cur2 (fun A55 c56 => ?_))
          refine za8 h (fun l58 ha59 h => ?_) rfl
          refine o_e rfl (e_app (i := 1) (j := 0) Try.underlying25 I3 rfl (by decide) (by decide) rfl rfl rfl rfl rfl ha59) (cur2 (fun A60 c61 => ?_))
          refine o_q rfl rfl (q_asg rfl) ?_
          refine o_end ?_
          refine zam ?_
          refine za1 ?_
          refine za0 ?_
          refine o_q rfl rfl (q_up rfl rfl (hr46.up hm47)) ?_
          refine o_q rfl rfl (za2 rfl) ?_
          refine o_end ?_
          refine zal ys44.length (ys44, l58, i42 + 1, A60, c61) (by rw [← hk52]; exact Nat.lt_succ_self _) ⟨hr46.step, rfl, h⟩ ⟨rfl, rfl, trivial⟩ (fun w h => za7 [1, 2] (by decide) rfl w h) ?_
          repeat (first | exact zad _ _ | refine zaf rfl ?_ | refine zae rfl ?_ | refine zah rfl ?_)
        · skip
          replace h := bb_f hb54 h
          refine zan ?_
          refine zam ?_
          refine za1 ?_
          refine za0 ?_
          refine o_q rfl rfl (q_up rfl rfl (hr46.up hm47)) ?_
          refine o_q rfl rfl (za2 rfl) ?_
          refine o_end ?_
          refine zal ys44.length (ys44, l39, i42 + 1, A40, c41) (by rw [← hk52]; exact Nat.lt_succ_self _) ⟨hr46.step, rfl, h⟩ ⟨rfl, rfl, trivial⟩ (fun w h => za7 [0, 1] (by decide) rfl w h) ?_
          repeat (first | exact zad _ _ | refine zaf rfl ?_ | refine zae rfl ?_ | refine zah rfl ?_)
    · skip
      clear hl32
      have hr29 := hJ_.1; have hk35 := hJ_.2.1; have h := hJ_.2.2; clear hJ_
      replace h : impl_Plan_liveAt.l1 (y26 :: ys27) l24 i25 = some o33 := h
      rw [impl_Plan_liveAt.l1] at h
      refine c_seq ?_
      refine za0 ?_
      refine o_q rfl rfl (q_lss rfl rfl) ?_
      refine o_end ?_
      refine za1 ?_
      refine c_seq ?_
      refine c_true (congrArg Value.bool hr29.lt) ?_
      refine zan ?_
      refine za1 ?_
      refine c_seq ?_
      refine zaj ?_
      refine c_seq ?_
      refine za0 ?_
      refine o_fact (p := Sh (cutA A0_1 c0_1 a1.toNat 2) l22.length l22.length) (fun w h => f_sh (dk := kStep) h (fun w h => C_cut (dk := kStep) rfl hz23 hc0_1 (R0_1.now Z h))) (fun hq62 => ?_)
      refine o_q rfl rfl (q_ix Try.underlying24 Z89 rfl rfl hq62 hr29.get) ?_
      refine o_q rfl rfl (q_ldE G89 Z89 rfl rfl (fun w h => C_cut (dk := kStep) rfl hz23 hc0_1 (R0_1.now Z h)) hr29.get (fun _ _ h => h) rfl) ?_
      refine o_e rfl (zaw V89 rfl) (fun g63 => ?_)
      refine o_e rfl (zak (i := 0) rfl rfl rfl Z89 rfl rfl) (fun _ => ?_)
      refine o_end ?_
      refine za1 ?_
      refine a_startS (ds := []) [some 0, some 1, none] MO rfl ?_
      refine za6 0 rfl rfl rfl (by kernel_rfl) (fun _ _ _ h => h) (za2 rfl) ?_
      refine za6 1 rfl rfl rfl (by kernel_rfl) (fun _ _ _ h => h) (q_f F89_0 rfl) ?_
      refine zax 2 rfl rfl rfl (by kernel_rfl) (fun _ _ _ h => h) (fun w h => za5 [some 0, some 1, none] (by decide) w h rfl) (q_ldb Y3 rfl (fun w h => h.zaa (i := 0) rfl) rfl) ?_
      refine za6 3 rfl rfl rfl (by kernel_rfl) (fun _ _ _ h => h) (za2 rfl) ?_
      refine za6 4 rfl rfl rfl (by kernel_rfl) (fun _ _ _ h => h) (q_f F89_1 rfl) ?_
      refine zax 5 rfl rfl rfl (by kernel_rfl) (fun _ _ _ h => h) (fun w h => za5 [some 0, some 1, none] (by decide) w h rfl) (q_ldb Y3 rfl (fun w h => h.zaa (i := 0) rfl) rfl) ?_
      refine a_fact (p := Sh A4 l2.length l24.length) (fun w h => f_sh (dk := Kd.bool) h (fun w h => h.zay (i := 2) rfl)) (fun hq65 => ?_)
      refine za8 h (fun y67 hg66 h => ?_) rfl
      refine za6 6 rfl rfl rfl (by kernel_rfl) (fun _ _ _ h => h) (q_ix Try.underlying108 Z4 rfl rfl hq65 hg66) ?_
      refine za8 h (fun l68 hs69 h => ?_) rfl
      refine a_one 7 rfl rfl (by kernel_rfl) rfl (e_set (i := 2) rfl rfl rfl Z4 hs69) (fun s w h => za5 [some 0, some 1, none] (by decide) w h rfl) (fun _ => ?_)
      refine a_fact (p := Sh A4 l2.length l68.length) (fun w h => f_sh (dk := Kd.bool) h (fun w h => h.zay (i := 2) rfl)) (fun hq70 => ?_)
      refine za8 h (fun y72 hg71 h => ?_) rfl
      refine za6 8 rfl rfl rfl (by kernel_rfl) (fun _ _ _ h => h) (q_ix Try.underlying108 Z4 rfl rfl hq70 hg71) ?_
      refine za8 h (fun l73 hs74 h => ?_) rfl
      refine a_one 9 rfl rfl (by kernel_rfl) rfl (e_set (i := 2) rfl rfl rfl Z4 hs74) (fun s w h => za5 [some 0, some 1, none] (by decide) w h rfl) (fun _ => ?_)
      refine zav (by kernel_rfl) ?_
      refine zam ?_
      refine za1 ?_
      refine za0 ?_
      refine o_q rfl rfl (q_up rfl rfl (hr29.up hm30)) ?_
      refine o_q rfl rfl (za2 rfl) ?_
      refine o_end ?_
      refine zal ys27.length (ys27, l73, i25 + 1) (by rw [← hk35]; exact Nat.lt_succ_self _) ⟨hr29.step, rfl, h⟩ ⟨rfl, trivial⟩ (fun w h => za7 [1, 2] (by decide) rfl w h) ?_
      repeat (first | exact zad _ _ | refine zaf rfl ?_ | refine zae rfl ?_ | refine zah rfl ?_)
  · skip
    clear hl18
    have hr15 := hJ_.1; have hk21 := hJ_.2.1; have h := hJ_.2.2; clear hJ_
    replace h : impl_Plan_liveAt.l0 (y12 :: ys13) l10 i11 = some o19 := h
    rw [impl_Plan_liveAt.l0] at h
    refine c_seq ?_
    refine za0 ?_
    refine o_q rfl rfl (q_lss rfl rfl) ?_
    refine o_end ?_
    refine za1 ?_
    refine c_seq ?_
    refine c_true (congrArg Value.bool hr15.lt) ?_
    refine zan ?_
    refine za1 ?_
    refine c_seq ?_
    refine zaj ?_
    refine c_seq ?_
    refine za0 ?_
    refine o_fact (p := Sh A0_2 l0_2.length l0_2.length) (fun w h => f_sh (dk := (Kd.int .i64)) h (fun w h => R0_2.now Z h)) (fun hq75 => ?_)
    refine o_q rfl rfl (q_ix Try.underlying25 Z3 rfl rfl hq75 hr15.get) ?_
    refine o_q rfl rfl (q_lde (off := 0) Y3 rfl rfl (fun w h => R0_2.now Z h) hr15.get (fun _ _ h => h) rfl) ?_
    refine o_q rfl rfl (q_asg rfl) ?_
    refine o_end ?_
    refine za1 ?_
    refine za0 ?_
    refine o_q rfl rfl (za2 rfl) ?_
    refine o_q rfl rfl (za2 rfl) ?_
    refine o_fact (p := Sh A4 l2.length l10.length) (fun w h => f_sh (dk := Kd.bool) h (fun w h => h.zay (i := 1) rfl)) (fun hq76 => ?_)
    refine za8 h (fun y78 hg77 h => ?_) rfl
    refine o_q rfl rfl (q_ix Try.underlying108 Z4 rfl rfl hq76 hg77) ?_
    refine za8 h (fun l79 hs80 h => ?_) rfl
    refine o_e rfl (e_set (i := 1) rfl rfl rfl Z4 hs80) (fun _ => ?_)
    refine o_end ?_
    refine zam ?_
    refine za1 ?_
    refine za0 ?_
    refine o_q rfl rfl (q_up rfl rfl (hr15.up hm16)) ?_
    refine o_q rfl rfl (za2 rfl) ?_
    refine o_end ?_
    refine zal ys13.length (ys13, l79, i11 + 1) (by rw [← hk21]; exact Nat.lt_succ_self _) ⟨hr15.step, rfl, h⟩ ⟨rfl, trivial⟩ (fun w h => za7 [0, 1] (by decide) rfl w h) ?_
    repeat (first | exact zad _ _ | refine zaf rfl ?_ | refine zae rfl ?_ | refine zah rfl ?_)

/-! ### slices.Clone[[]loop.example/g01098/impl.Step,loop.example/g01098/impl.Step]: function 89 -/
def slices_Clone_impl_Step_impl_Step.f (l0 : List SStep) : Option (List SStep) := (ap ([] : List SStep) l0).bind fun l5 => some l5
set_option maxHeartbeats 600000 in
set_option maxRecDepth 100000 in
theorem slices_Clone_impl_Step_impl_Step.calls {w0 ws : World} {P0 : Nat → Prop} (A0 : Option Addr) (c0 : Nat) (n0 : Nat) (l0 : List SStep) (Z : Below w0.heap.size w0 ws) (hF : Fr w0 ws P0 [] ws) (R0 : Stable ws P0 (fun w => Kd.C kStep w A0 n0 l0)) (hc0 : n0 ≤ c0) (r_1 : List SStep) (h : slices_Clone_impl_Step_impl_Step.f l0 = some r_1) :
    Calls Try.prog 89 #[.slice A0 n0 c0] ws (Post1 w0 ws P0 (fun ((q_2, q_3) : (Option Addr) × Nat) => .slice q_2 r_1.length q_3) (fun ((q_2, q_3) : (Option Addr) × Nat) => [row kStep 89 (.slice q_2 r_1.length q_3) r_1])) := by
  unfold slices_Clone_impl_Step_impl_Step.f at h
  obtain rfl := (R0 ws (KeptB.refl _ _)).1
  refine enter Try.func89 rfl Try.ntmps89 rfl hF ?_
  refine c_seq ?_
  refine za0 ?_
  refine o_q rfl rfl (q_asg rfl) ?_
  refine o_end ?_
  refine za1 ?_
  refine c_seq ?_
  refine c_seq ?_
  refine za0 ?_
  refine o_q rfl rfl (za2 rfl) ?_
  refine o_q rfl rfl (q_snil Try.underlying24 rfl rfl) ?_
  refine o_end ?_
  refine za1 ?_
  refine zau _ rfl (fun hb1 => ?_) (fun hb1 => ?_)
  · skip
    have hl_ := nil_of hb1 (R0 ws (KeptB.refl _ _)); subst hl_
    replace h : some ([] : List SStep) = some r_1 := h
    refine c_seq ?_
    refine za0 ?_
    refine o_q rfl rfl (q_asg rfl) ?_
    refine o_end ?_
    refine za1 ?_
    refine c_ret ?_
    refine zab ?_
    refine x_nil kStep 89 ?_
    have e0_ := Option.some.inj h; clear h
    subst e0_
    exact x_r1 (none, 0) Try.results89 (zai rfl) rfl (fun w h => za7 [0] (by decide) rfl w h)
  · skip
    refine zan ?_
    refine za1 ?_
    refine c_seq ?_
    refine za0 ?_
    refine o_e rfl (e_lit0 kStep Try.underlying24 I89) (cur2 (fun A2 c3 => ?_))
    refine o_q rfl rfl (za2 rfl) ?_
    refine za8 h (fun l5 ha6 h => ?_) rfl
    refine o_e rfl (e_appr (i := 0) Try.underlying24 I89 rfl (by decide) (by decide) (fun _ _ _ _ h => h) rfl (fun w h => R0.now Z h) rfl rfl ha6) (cur2 (fun A7 c8 => ?_))
    refine o_q rfl rfl (q_asg rfl) ?_
    refine o_end ?_
    refine za1 ?_
    refine c_ret ?_
    have e0_ := Option.some.inj h; clear h
    subst e0_
    exact x_r1 (A7, c8) Try.results89 (zai rfl) rfl (fun w h => za7 [0] (by decide) rfl w h)

/-! ### loop.example/g01098/impl.step: function 91 -/
def impl_step.f (a0 : Int) (a1 : Int) : Option Unit := some ()
set_option maxHeartbeats 600000 in
set_option maxRecDepth 100000 in
theorem impl_step.calls {w0 ws : World} {P0 : Nat → Prop} (a0 : Int) (a1 : Int) (Z : Below w0.heap.size w0 ws) (hF : Fr w0 ws P0 [] ws)   (h : impl_step.f a0 a1 = some ()) :
    Calls Try.prog 91 #[.int .i64 a0, .int .i64 a1] ws (Post1 w0 ws P0 (fun (_ : Unit) => .agg #[.int .i64 (mn a0 a1), .int .i64 (mx a0 a1)]) (fun (_ : Unit) => [])) := by
  unfold impl_step.f at h
  refine enter Try.func91 rfl Try.ntmps91 rfl hF ?_
  refine c_seq ?_
  refine za0 ?_
  refine o_e rfl (zaw V89 rfl) (fun g1 => ?_)
  refine o_end ?_
  refine za1 ?_
  refine c_seq ?_
  refine za0 ?_
  refine o_q rfl rfl (za2 rfl) ?_
  refine o_q rfl rfl (za2 rfl) ?_
  refine o_q rfl rfl (q_min rfl rfl) ?_
  refine o_q rfl rfl (za2 rfl) ?_
  refine o_q rfl rfl (za2 rfl) ?_
  refine o_q rfl rfl (q_max rfl rfl) ?_
  refine o_q rfl rfl (q_build (vs := [(0, .int .i64 (mn a0 a1)), (1, .int .i64 (mx a0 a1))]) (cs := [.int .i64 (mn a0 a1), .int .i64 (mx a0 a1)]) rfl rfl) ?_
  refine o_e rfl (zak (i := 0) rfl rfl rfl Z89 rfl rfl) (fun _ => ?_)
  refine o_end ?_
  refine za1 ?_
  refine c_ret ?_
  exact x_r1 () Try.results91 (rv_cell rfl G89 Z89 (fun w h => h.zaa (i := 0) rfl) rfl) rfl (fun w h => za7 [] (by decide) rfl w h)

/-! ### loop.example/g01098/impl.renamed: function 92 -/
def impl_renamed.l0 (l1 : List Int) : (List Int) → (List Int) → Int → Option (List Int)
  | [], l5, i8 => some l5
  | y9 :: ys10, l5, i8 => (gt l1 y9).bind fun y22 => (ap l5 ([y22] : List Int)).bind fun l26 => impl_renamed.l0 l1 ys10 l26 (i8 + 1)
def impl_renamed.f (l0 : List Int) (l1 : List Int) : Option (List Int) := (impl_renamed.l0 l1 l0 ([] : List Int) 0).bind fun l5 => some l5
set_option maxHeartbeats 600000 in
set_option maxRecDepth 100000 in
theorem impl_renamed.calls {w0 ws : World} {P0 : Nat → Prop} (A0 : Option Addr) (c0 : Nat) (n0 : Nat) (l0 : List Int) (A1 : Option Addr) (c1 : Nat) (n1 : Nat) (l1 : List Int) (Z : Below w0.heap.size w0 ws) (hF : Fr w0 ws P0 [] ws) (R0 : Stable ws P0 (fun w => Kd.C (Kd.int .i64) w A0 n0 l0)) (hc0 : n0 ≤ c0) (R1 : Stable ws P0 (fun w => Kd.C (Kd.int .i64) w A1 n1 l1)) (hc1 : n1 ≤ c1) (r_1 : List Int) (h : impl_renamed.f l0 l1 = some r_1) :
    Calls Try.prog 92 #[.slice A0 n0 c0, .slice A1 n1 c1] ws (Post1 w0 ws P0 (fun ((q_2, q_3) : (Option Addr) × Nat) => .slice q_2 r_1.length q_3) (fun ((q_2, q_3) : (Option Addr) × Nat) => [row (Kd.int .i64) 3 (.slice q_2 r_1.length q_3) r_1])) := by
  unfold impl_renamed.f at h
  obtain rfl := (R0 ws (KeptB.refl _ _)).1
  obtain rfl := (R1 ws (KeptB.refl _ _)).1
  refine enter Try.func92 rfl Try.ntmps92 rfl hF ?_
  refine c_seq ?_
  refine za0 ?_
  refine o_q rfl rfl (q_asg rfl) ?_
  refine o_end ?_
  refine za1 ?_
  refine c_seq ?_
  refine za0 ?_
  refine o_e rfl (e_lit0 (Kd.int .i64) Try.underlying25 I3) (cur2 (fun A2 c3 => ?_))
  refine o_q rfl rfl (q_asg rfl) ?_
  refine o_end ?_
  refine za1 ?_
  refine c_seq ?_
  refine c_seq ?_
  refine za0 ?_
  refine o_q rfl rfl (za2 rfl) ?_
  refine o_q rfl rfl (q_len Try.underlying25 rfl) ?_
  refine o_q rfl rfl (za2 rfl) ?_
  refine o_end ?_
  refine za1 ?_
  refine zaj ?_
  refine za8 h (fun o16 hl15 hR14 => ?_) rfl
  clear h
  refine c_fact (p := l0.length ≤ 9223372036854775807) (fun w h => (R0.now Z h).2.1) (fun hm13 => ?_)
  refine c_loopL (σ := (List Int) × (List Int) × Int × (Option Addr) × Nat) (fun k11 ((ys10, l5, i8, A6, c7) : (List Int) × (List Int) × Int × (Option Addr) × Nat) => Rg l0 i8 ys10 ∧ ys10.length = k11 ∧ impl_renamed.l0 l1 ys10 l5 i8 = some o16) [5, 7, 11, 12, 13, 14, 15, 16, 17, 18, 19, 20, 21, 22] (fun ((ys10, l5, i8, A6, c7) : (List Int) × (List Int) × Int × (Option Addr) × Nat) => [(5, .slice A6 l5.length c7), (11, .int .i64 i8)]) (fun ((ys10, l5, i8, A6, c7) : (List Int) × (List Int) × Int × (Option Addr) × Nat) => [row (Kd.int .i64) 3 (.slice A6 l5.length c7) l5]) l0.length (l0, ([] : List Int), 0, A2, c3) ⟨Rg.start _, rfl, hl15⟩ ⟨rfl, rfl, trivial⟩ (fun w h => h) ?_
  refine fun k11 => cur5 (listC (fun l5 i8 A6 c7 U17 hJ_ => ?_) (fun y9 ys10 l5 i8 A6 c7 U17 hJ_ => ?_))
  · skip
    clear hl15
    have hr12 := hJ_.1; have hk18 := hJ_.2.1; have h := hJ_.2.2; clear hJ_
    replace h : impl_renamed.l0 l1 [] l5 i8 = some o16 := h
    rw [impl_renamed.l0] at h
    refine c_seq ?_
    refine za0 ?_
    refine o_q rfl rfl (q_lss rfl rfl) ?_
    refine o_end ?_
    refine za1 ?_
    refine c_seq ?_
    refine c_false (congrArg Value.bool hr12.ge) ?_
    refine c_exit ?_
    refine za9 ?_
    refine za9 ?_
    have e_ := Option.some.inj h; replace h := hR14; rw [← e_] at h; clear e_
    refine x_hit ?_
    refine za1 ?_
    refine c_seq ?_
    refine za0 ?_
    refine o_q rfl rfl (za2 rfl) ?_
    refine o_q rfl rfl (q_asg rfl) ?_
    refine o_end ?_
    refine za1 ?_
    refine c_ret ?_
    have e0_ := Option.some.inj h; clear h
    subst e0_
    exact x_r1 (A6, c7) Try.results92 (zai rfl) rfl (fun w h => za7 [0] (by decide) rfl w h)
  · skip
    clear hl15
    have hr12 := hJ_.1; have hk18 := hJ_.2.1; have h := hJ_.2.2; clear hJ_
    replace h : impl_renamed.l0 l1 (y9 :: ys10) l5 i8 = some o16 := h
    rw [impl_renamed.l0] at h
    refine c_seq ?_
    refine za0 ?_
    refine o_q rfl rfl (q_lss rfl rfl) ?_
    refine o_end ?_
    refine za1 ?_
    refine c_seq ?_
    refine c_true (congrArg Value.bool hr12.lt) ?_
    refine zan ?_
    refine za1 ?_
    refine c_seq ?_
    refine zaj ?_
    refine c_seq ?_
    refine za0 ?_
    refine o_fact (p := Sh A0 l0.length l0.length) (fun w h => f_sh (dk := (Kd.int .i64)) h (fun w h => R0.now Z h)) (fun hq19 => ?_)
    refine o_q rfl rfl (q_ix Try.underlying25 Z3 rfl rfl hq19 hr12.get) ?_
    refine o_q rfl rfl (q_lde (off := 0) Y3 rfl rfl (fun w h => R0.now Z h) hr12.get (fun _ _ h => h) rfl) ?_
    refine o_q rfl rfl (q_asg rfl) ?_
    refine o_end ?_
    refine za1 ?_
    refine za0 ?_
    refine o_q rfl rfl (za2 rfl) ?_
    refine o_q rfl rfl (za2 rfl) ?_
    refine o_q rfl rfl (za2 rfl) ?_
    refine o_fact (p := Sh A1 l1.length l1.length) (fun w h => f_sh (dk := (Kd.int .i64)) h (fun w h => R1.now Z h)) (fun hq20 => ?_)
    refine za8 h (fun y22 hg21 h => ?_) rfl
    refine o_q rfl rfl (q_ix Try.underlying25 Z3 rfl rfl hq20 hg21) ?_
    refine o_q rfl rfl (q_lde (off := 0) Y3 rfl rfl (fun w h => R1.now Z h) hg21 (fun _ _ h => h) rfl) ?_
    refine o_e rfl (e_lit (vs := [(0, .int .i64 y22)]) (cs := [.int .i64 y22]) (Kd.int .i64) ([y22] : List Int) Try.underlying25 I3 (by decide) rfl (by decide) rfl rfl (fun _ _ => Kd.zas _)) (cur2 (fun A23 c24 => ?_))
    refine za8 h (fun l26 ha27 h => ?_) rfl
    refine o_e rfl (e_app (i := 1) (j := 0) Try.underlying25 I3 rfl (by decide) (by decide) rfl rfl rfl rfl rfl ha27) (cur2 (fun A28 c29 => ?_))
    refine o_q rfl rfl (q_asg rfl) ?_
    refine o_end ?_
    refine zam ?_
    refine za1 ?_
    refine za0 ?_
    refine o_q rfl rfl (q_up rfl rfl (hr12.up hm13)) ?_
    refine o_q rfl rfl (za2 rfl) ?_
    refine o_end ?_
    refine zal ys10.length (ys10, l26, i8 + 1, A28, c29) (by rw [← hk18]; exact Nat.lt_succ_self _) ⟨hr12.step, rfl, h⟩ ⟨rfl, rfl, trivial⟩ (fun w h => za7 [1] (by decide) rfl w h) ?_
    repeat (first | exact zad _ _ | refine zaf rfl ?_ | refine zae rfl ?_ | refine zah rfl ?_)

/-! ### loop.example/g01098/impl.SplitPlan: function 15 -/
def impl_SplitPlan.l1 (a0_0 : Int) (a1 : Int) (l25 : List Int) : (List SStep) → (List Int) → (List SStep) → Int → Option ((List Int) × (List SStep))
  | [], l2585, l2586, i2589 => some (l2585, l2586)
  | y2590 :: ys2591, l2585, l2586, i2589 => (impl_Plan_many.f (l25.length : Int) l2586 []).bind fun _ => (gt l2585 (w64 (w64 (a0_0 + a1) + i2589))).bind fun y2627 => (st l2585 (w64 (w64 (a0_0 + a1) + i2589)) (w64 ((l25.length : Int) + (l2586.length : Int)))).bind fun l2628 => (gt l2628 y2590.f0).bind fun y2933 => (gt l2628 y2590.f1).bind fun y3232 => (impl_step.f y2933 y3232).bind fun _ => (ap l2586 ([(⟨mn y2933 y3232, mx y2933 y3232⟩ : SStep)] : List SStep)).bind fun l3471 => impl_SplitPlan.l1 a0_0 a1 l25 ys2591 l2628 l3471 (i2589 + 1)
def impl_SplitPlan.l0 : (List Int) → (List Int) → Int → Option (List Int)
  | [], l2570, i2571 => some l2570
  | y2572 :: ys2573, l2570, i2571 => (gt l2570 y2572).bind fun y3714 => (st l2570 y2572 i2571).bind fun l3715 => impl_SplitPlan.l0 ys2573 l3715 (i2571 + 1)
def impl_SplitPlan.f (k : Nat) (a0_0 : Int) (l0_1 : List SStep) (l0_2 : List Int) (a1 : Int) : Option (Int × (List SStep) × (List Int) × Int × (List SStep) × (List Int) × Bool) := ((impl_IsPlan.f k a0_0 l0_1 l0_2).bind fun b19 => if b19 = true then ((impl_in.f a1 0 (l0_1.length : Int)).bind fun b22 => some (!b22)) else (some true)).bind fun b12 => if b12 = true then (some (0, ([] : List SStep), ([] : List Int), 0, ([] : List SStep), ([] : List Int), false)) else ((impl_Plan_liveAt.f a0_0 l0_1 l0_2 a1).bind fun l25 => ((ct l0_1 (0 : Int) a1).bind fun l1059 => (slices_Clone_impl_Step_impl_Step.f l1059).bind fun l1120 => some l1120).bind fun l750 => ((impl_Plan_many.f a0_0 l0_1 l0_2).bind fun _ => (mk0 (w64 (a0_0 + (l0_1.length : Int))) (0 : Int)).bind fun l2270 => some l2270).bind fun l2021 => (impl_SplitPlan.l0 l25 l2021 0).bind fun l2570 => (ct l0_1 a1 (l0_1.length : Int)).bind fun l2582 => (impl_SplitPlan.l1 a0_0 a1 l25 l2582 l2570 ([] : List SStep) 0).bind fun (l2585, l2586) => (impl_renamed.f l0_2 l2585).bind fun l2601 => ((impl_IsPlan.f k a0_0 l750 l25).bind fun b2616 => if b2616 = true then ((impl_IsPlan.f k (l25.length : Int) l2586 l2601).bind fun b2619 => some (!b2619)) else (some true)).bind fun b2609 => if b2609 = true then (some (0, ([] : List SStep), ([] : List Int), 0, ([] : List SStep), ([] : List Int), false)) else (some (a0_0, l750, l25, (l25.length : Int), l2586, l2601, true)))
set_option maxHeartbeats 600000 in
set_option maxRecDepth 100000 in
theorem impl_SplitPlan.calls (k : Nat) {w0 ws : World} {P0 : Nat → Prop} (a0_0 : Int) (A0_1 : Option Addr) (c0_1 : Nat) (n0_1 : Nat) (l0_1 : List SStep) (A0_2 : Option Addr) (c0_2 : Nat) (n0_2 : Nat) (l0_2 : List Int) (a1 : Int) (Z : Below w0.heap.size w0 ws) (hF : Fr w0 ws P0 [] ws) (R0_1 : Stable ws P0 (fun w => Kd.C kStep w A0_1 n0_1 l0_1)) (hc0_1 : n0_1 ≤ c0_1) (R0_2 : Stable ws P0 (fun w => Kd.C (Kd.int .i64) w A0_2 n0_2 l0_2)) (hc0_2 : n0_2 ≤ c0_2) (r_1 : Int) (r_2 : List SStep) (r_5 : List Int) (r_8 : Int) (r_9 : List SStep) (r_12 : List Int) (r_15 : Bool) (h : impl_SplitPlan.f k a0_0 l0_1 l0_2 a1 = some (r_1, r_2, r_5, r_8, r_9, r_12, r_15)) :
    Calls Try.prog 15 #[.agg #[.int .i64 a0_0, .slice A0_1 n0_1 c0_1, .slice A0_2 n0_2 c0_2], .int .i64 a1] ws (Post1 w0 ws P0 (fun ((q_3, q_4, q_6, q_7, q_10, q_11, q_13, q_14) : (Option Addr) × Nat × (Option Addr) × Nat × (Option Addr) × Nat × (Option Addr) × Nat) => .tuple #[.agg #[.int .i64 r_1, .slice q_3 r_2.length q_4, .slice q_6 r_5.length q_7], .agg #[.int .i64 r_8, .slice q_10 r_9.length q_11, .slice q_13 r_12.length q_14], .bool r_15]) (fun ((q_3, q_4, q_6, q_7, q_10, q_11, q_13, q_14) : (Option Addr) × Nat × (Option Addr) × Nat × (Option Addr) × Nat × (Option Addr) × Nat) => [row kStep 89 (.slice q_3 r_2.length q_4) r_2, row (Kd.int .i64) 3 (.slice q_6 r_5.length q_7) r_5, row kStep 89 (.slice q_10 r_9.length q_11) r_9, row (Kd.int .i64) 3 (.slice q_13 r_12.length q_14) r_12])) := by
  unfold impl_SplitPlan.f at h
  obtain rfl := (R0_1 ws (KeptB.refl _ _)).1
  obtain rfl := (R0_2 ws (KeptB.refl _ _)).1
  refine enter Try.func15 rfl Try.ntmps15 rfl hF ?_
  refine c_seq ?_
  refine za0 ?_
  refine o_e rfl (e_box rfl) (fun g1 => ?_)
  refine o_e rfl (zaw V27 rfl) (fun g3 => ?_)
  refine o_e rfl (zaw V27 rfl) (fun g5 => ?_)
  refine o_q rfl rfl (q_asg rfl) ?_
  refine o_end ?_
  refine za1 ?_
  refine c_seq ?_
  refine za8 h (fun o13 hl14 hR15 => ?_) rfl
  clear h
  refine c_cutJ (σ := Bool) (fun b12 => some b12 = some o13) [15, 16, 17, 18, 19, 20, 21, 22, 23, 24, 25] (fun b12 => [(25, .bool b12)]) (fun b12 => [box g1 27 #[.int .i64 a0_0, .slice A0_1 l0_1.length c0_1, .slice A0_2 l0_2.length c0_2], box g3 27 #[.int .i64 0, .slice none 0 0, .slice none 0 0], box g5 27 #[.int .i64 0, .slice none 0 0, .slice none 0 0]]) ?_ ?_
  · skip
    have h := hl14; clear hl14
    clear hR15
    refine za0 ?_
    refine o_q rfl rfl (q_ldB G27 Z27 rfl (fun w h => h.zaa (i := 2) rfl) rfl) ?_
    refine za8 h (fun b19 hx18 h => ?_) rfl
    refine o_e rfl (zac 0 Z Try.func86 N86 rfl rfl rfl (fun w P1 hF hB hS hT => impl_IsPlan.calls k a0_0 A0_1 c0_1 l0_1.length l0_1 A0_2 c0_2 l0_2.length l0_2 hB hF (hS _ R0_1) hc0_1 (hS _ R0_2) hc0_2 _ hx18)) (fun _ => ?_)
    refine o_q rfl rfl (q_not rfl) ?_
    refine o_q rfl rfl (za2 rfl) ?_
    refine byB b19 (fun hb20 => ?_) (fun hb20 => ?_)
    · replace h := bb_t hb20 h
      refine o_w (za4 rfl rfl rfl (congrArg (fun b => Value.bool (!(b))) hb20)) rfl (za2 rfl) ?_
      refine o_w (za4 rfl rfl rfl (congrArg (fun b => Value.bool (!(b))) hb20)) rfl (q_f F27_1 rfl) ?_
      refine o_w (za4 rfl rfl rfl (congrArg (fun b => Value.bool (!(b))) hb20)) rfl (q_ldb Y24 rfl (fun w h => h.zaa (i := 2) rfl) rfl) ?_
      refine o_w (za4 rfl rfl rfl (congrArg (fun b => Value.bool (!(b))) hb20)) rfl (q_len Try.underlying24 rfl) ?_
      refine za8 h (fun b22 hx21 h => ?_) rfl
      refine o_ew (za4 rfl rfl rfl (congrArg (fun b => Value.bool (!(b))) hb20)) (zac 0 Z Try.func87 N87 rfl rfl rfl (fun w P1 hF hB hS hT => impl_in.calls a1 0 (l0_1.length : Int) hB hF _ hx21)) (fun _ => ?_)
      refine o_w (za4 rfl rfl rfl (congrArg (fun b => Value.bool (!(b))) hb20)) rfl (q_not rfl) ?_
      refine o_q rfl rfl (zao false (congrArg (fun b => Value.bool (!(b))) hb20) rfl) ?_
      refine o_end ?_
      refine zat (!b22) h ⟨rfl, trivial⟩ (fun w h => za7 [2, 1, 0] (by decide) rfl w h) ?_
      repeat (first | exact zad _ _ | refine zaf rfl ?_ | refine zae rfl ?_ | refine zah rfl ?_)
    · replace h := bb_f hb20 h
      refine @o_n _ _ _ _ _ _ _ _ _ _ _ 19 (za3 rfl rfl rfl (congrArg (fun b => Value.bool (!(b))) hb20) rfl) (Eq.refl (some 19)) ?_
      refine @o_n _ _ _ _ _ _ _ _ _ _ _ 20 (za3 rfl rfl rfl (congrArg (fun b => Value.bool (!(b))) hb20) rfl) (Eq.refl (some 20)) ?_
      refine @o_n _ _ _ _ _ _ _ _ _ _ _ 21 (za3 rfl rfl rfl (congrArg (fun b => Value.bool (!(b))) hb20) rfl) (Eq.refl (some 21)) ?_
      refine @o_n _ _ _ _ _ _ _ _ _ _ _ 22 (za3 rfl rfl rfl (congrArg (fun b => Value.bool (!(b))) hb20) rfl) (Eq.refl (some 22)) ?_
      refine @o_n _ _ _ _ _ _ _ _ _ _ _ 23 (za3 rfl rfl rfl (congrArg (fun b => Value.bool (!(b))) hb20) rfl) (Eq.refl (some 23)) ?_
      refine @o_n _ _ _ _ _ _ _ _ _ _ _ 24 (za3 rfl rfl rfl (congrArg (fun b => Value.bool (!(b))) hb20) rfl) (Eq.refl (some 24)) ?_
      refine o_q rfl rfl (zao true (congrArg (fun b => Value.bool (!(b))) hb20) rfl) ?_
      refine o_end ?_
      refine zat true h ⟨rfl, trivial⟩ (fun w h => za7 [2, 1, 0] (by decide) rfl w h) ?_
      repeat (first | exact zad _ _ | refine zaf rfl ?_ | refine zae rfl ?_ | refine zah rfl ?_)
  · skip
    refine (fun b12 => fun U16 hJ17 => ?_)
    have e_ := Option.some.inj hJ17; have h := hR15; rw [← e_] at h; clear e_ hJ17 hR15 hl14
    refine zau _ rfl (fun hb23 => ?_) (fun hb23 => ?_)
    · skip
      replace h := bb_t hb23 h
      refine c_seq ?_
      refine za0 ?_
      refine o_q rfl rfl (q_build (vs := []) (cs := [.int .i64 0, .slice none 0 0, .slice none 0 0]) rfl rfl) ?_
      refine o_q rfl rfl (q_build (vs := []) (cs := [.int .i64 0, .slice none 0 0, .slice none 0 0]) rfl rfl) ?_
      refine o_e rfl (zak (i := 1) rfl rfl rfl Z27 rfl rfl) (fun _ => ?_)
      refine o_e rfl (zak (i := 2) rfl rfl rfl Z27 rfl rfl) (fun _ => ?_)
      refine o_q rfl rfl (q_asg rfl) ?_
      refine o_end ?_
      refine za1 ?_
      refine c_ret ?_
      refine zab ?_
      refine x_nil kStep 89 ?_
      refine x_nil (Kd.int .i64) 3 ?_
      refine x_nil kStep 89 ?_
      refine x_nil (Kd.int .i64) 3 ?_
      have e0_ := Option.some.inj h; clear h
      have d0_ := (Prod.mk.inj e0_).1; have e1_ := (Prod.mk.inj e0_).2; clear e0_; subst d0_
      have d1_ := (Prod.mk.inj e1_).1; have e2_ := (Prod.mk.inj e1_).2; clear e1_; subst d1_
      have d2_ := (Prod.mk.inj e2_).1; have e3_ := (Prod.mk.inj e2_).2; clear e2_; subst d2_
      have d3_ := (Prod.mk.inj e3_).1; have e4_ := (Prod.mk.inj e3_).2; clear e3_; subst d3_
      have d4_ := (Prod.mk.inj e4_).1; have e5_ := (Prod.mk.inj e4_).2; clear e4_; subst d4_
      have d5_ := (Prod.mk.inj e5_).1; have e6_ := (Prod.mk.inj e5_).2; clear e5_; subst d5_
      subst e6_
      exact x_r3 (none, 0, none, 0, none, 0, none, 0) Try.results15 (rv_cell rfl G27 Z27 (fun w h => h.zaa (i := 5) rfl) rfl) (rv_cell rfl G27 Z27 (fun w h => h.zaa (i := 6) rfl) rfl) (zai rfl) rfl (fun w h => za7 [3, 2, 1, 0] (by decide) rfl w h)
    · skip
      replace h := bb_f hb23 h
      refine zan ?_
      refine za1 ?_
      refine c_seq ?_
      refine za0 ?_
      refine o_q rfl rfl (za2 rfl) ?_
      refine za8 h (fun l25 hx24 h => ?_) rfl
      refine o_e rfl (zac 0 Z Try.func88 N88 rfl rfl rfl (fun w P1 hF hB hS hT => impl_Plan_liveAt.calls g1 a0_0 A0_1 c0_1 l0_1.length l0_1 A0_2 c0_2 l0_2.length l0_2 a1 hB hF (hS _ R0_1) hc0_1 (hS _ R0_2) hc0_2 (hT 0 _ rfl).box _ hx24)) (cur2 (fun A26 c27 => ?_))
      refine o_q rfl rfl (q_asg rfl) ?_
      refine o_end ?_
      refine za1 ?_
      refine za8 h (fun o753 hl754 hR755 => ?_) rfl
      clear h
      refine c_cutJ (σ := (List SStep) × Nat × (Option Addr) × Nat) (fun (l750, g749, A751, c752) => some l750 = some o753) [8, 30, 31, 32, 33, 34, 35, 36, 37, 38] (fun (l750, g749, A751, c752) => [(8, .pointer (some ⟨g749, 0, none⟩))]) (fun (l750, g749, A751, c752) => [box g1 27 #[.int .i64 a0_0, .slice A0_1 l0_1.length c0_1, .slice A0_2 l0_2.length c0_2], box g3 27 #[.int .i64 0, .slice none 0 0, .slice none 0 0], box g5 27 #[.int .i64 0, .slice none 0 0, .slice none 0 0], row (Kd.int .i64) 3 (.slice A26 l25.length c27) l25, box g749 27 #[.int .i64 a0_0, .slice A751 l750.length c752, .slice A26 l25.length c27], row kStep 89 (.slice A751 l750.length c752) l750]) ?_ ?_
      · skip
        have h := hl754; clear hl754
        clear hR755
        refine za8 h (fun l1059 hz1060 h => ?_) rfl
        refine za8 h (fun l1120 hx1119 h => ?_) rfl
        refine a_start (ds := []) MO rfl ?_
        refine za6 0 rfl rfl rfl (by kernel_rfl) (fun _ _ _ h => h) (q_f F27_0 rfl) ?_
        refine zax 1 rfl rfl rfl (by kernel_rfl) (fun _ _ _ h => h) (fun w h => h) (q_ldb Y3 rfl (fun w h => h.zaa (i := 1) rfl) rfl) ?_
        refine za6 2 rfl rfl rfl (by kernel_rfl) (fun _ _ _ h => h) (q_f F27_1 rfl) ?_
        refine zax 3 rfl rfl rfl (by kernel_rfl) (fun _ _ _ h => h) (fun w h => h) (q_ldb Y24 rfl (fun w h => h.zaa (i := 1) rfl) rfl) ?_
        refine za6 4 rfl rfl rfl (by kernel_rfl) (fun _ _ _ h => h) (za2 rfl) ?_
        refine za6 5 rfl rfl rfl (by kernel_rfl) (fun _ _ _ h => h) (q_ctv Try.underlying24 Z89 rfl rfl ⟨_, rfl⟩ rfl hc0_1 hz1060) ?_
        refine za6 7 rfl rfl rfl (by kernel_rfl) (fun _ _ _ h => h) (za2 rfl) ?_
        refine a_two 6 9 rfl rfl rfl rfl (by kernel_rfl) rfl rfl (zac 0 Z Try.func89 N89 rfl rfl rfl (fun w P1 hF hB hS hT => slices_Clone_impl_Step_impl_Step.calls (cutA A0_1 c0_1 (0 : Int).toNat 2) (c0_1 - (0 : Int).toNat) l1059.length l1059 hB hF (stab_cut (dk := kStep) rfl hz1060 hc0_1 (hS _ R0_1)) (ct_cap hz1060 rfl hc0_1) _ hx1119)) (fun s w h => za5 [some 1, some 2, some 3, some 4] (by decide) w h rfl) (zaw V27 rfl) (fun s w h => za5 [some 1, some 2, some 3, some 4] (by decide) w h rfl) (cur2 (fun A1121 c1122 => ?_)) (fun g1299 => ?_)
        · skip
          refine za6 8 rfl rfl rfl (by kernel_rfl) (fun _ _ _ h => h) (q_build (vs := [(0, .int .i64 a0_0), (1, .slice A1121 l1120.length c1122), (2, .slice A26 l25.length c27)]) (cs := [.int .i64 a0_0, .slice A1121 l1120.length c1122, .slice A26 l25.length c27]) rfl rfl) ?_
          refine a_one 9 rfl rfl (by kernel_rfl) rfl (zaw V27 rfl) (fun s w h => za5 [some 2, some 3, some 4, some 5] (by decide) w h rfl) (fun g1299 => ?_)
          refine a_one 10 rfl rfl (by kernel_rfl) rfl (zak (i := 0) rfl rfl rfl Z27 rfl rfl) (fun s w h => za5 [some 2, some 3, some 4, some 5] (by decide) w h rfl) (fun _ => ?_)
          refine zav (by kernel_rfl) ?_
          refine zat (l1120, g1299, A1121, c1122) h ⟨rfl, trivial⟩ (fun w h => za7 [3, 4, 5, 2, 0, 1] (by decide) rfl w h) ?_
          repeat (first | exact zad _ _ | refine zaf rfl ?_ | refine zae rfl ?_ | refine zah rfl ?_)
        · skip
          refine a_one 6 rfl rfl (by kernel_rfl) rfl (zac 0 Z Try.func89 N89 rfl rfl rfl (fun w P1 hF hB hS hT => slices_Clone_impl_Step_impl_Step.calls (cutA A0_1 c0_1 (0 : Int).toNat 2) (c0_1 - (0 : Int).toNat) l1059.length l1059 hB hF (stab_cut (dk := kStep) rfl hz1060 hc0_1 (hS _ R0_1)) (ct_cap hz1060 rfl hc0_1) _ hx1119)) (fun s w h => za5 [some 2, some 3, some 4, some 5] (by decide) w h rfl) (cur2 (fun A1121 c1122 => ?_))
          refine za6 8 rfl rfl rfl (by kernel_rfl) (fun _ _ _ h => h) (q_build (vs := [(0, .int .i64 a0_0), (1, .slice A1121 l1120.length c1122), (2, .slice A26 l25.length c27)]) (cs := [.int .i64 a0_0, .slice A1121 l1120.length c1122, .slice A26 l25.length c27]) rfl rfl) ?_
          refine a_one 10 rfl rfl (by kernel_rfl) rfl (zak (i := 1) rfl rfl rfl Z27 rfl rfl) (fun s w h => za5 [some 2, some 3, some 4, some 5] (by decide) w h rfl) (fun _ => ?_)
          refine zav (by kernel_rfl) ?_
          refine zat (l1120, g1299, A1121, c1122) h ⟨rfl, trivial⟩ (fun w h => za7 [3, 4, 5, 2, 1, 0] (by decide) rfl w h) ?_
          repeat (first | exact zad _ _ | refine zaf rfl ?_ | refine zae rfl ?_ | refine zah rfl ?_)
      · skip
        refine (cur4 (fun l750 g749 A751 c752 => fun U756 hJ757 => ?_))
        have e_ := Option.some.inj hJ757; have h := hR755; rw [← e_] at h; clear e_ hJ757 hR755 hl754
        refine za8 h (fun o2024 hl2025 hR2026 => ?_) rfl
        clear h
        refine c_cutJ (σ := (List Int) × Nat × (Option Addr) × Nat) (fun (l2021, g2020, A2022, c2023) => some l2021 = some o2024) [9, 10, 39, 40, 41, 42, 43] (fun (l2021, g2020, A2022, c2023) => [(9, .pointer (some ⟨g2020, 0, none⟩)), (10, .slice A2022 l2021.length c2023)]) (fun (l2021, g2020, A2022, c2023) => [box g1 27 #[.int .i64 a0_0, .slice A0_1 l0_1.length c0_1, .slice A0_2 l0_2.length c0_2], box g3 27 #[.int .i64 0, .slice none 0 0, .slice none 0 0], box g5 27 #[.int .i64 0, .slice none 0 0, .slice none 0 0], row (Kd.int .i64) 3 (.slice A26 l25.length c27) l25, box g749 27 #[.int .i64 a0_0, .slice A751 l750.length c752, .slice A26 l25.length c27], row kStep 89 (.slice A751 l750.length c752) l750, box g2020 27 #[.int .i64 (l25.length : Int), .slice none 0 0, .slice none 0 0], row (Kd.int .i64) 3 (.slice A2022 l2021.length c2023) l2021]) ?_ ?_
        · skip
          have h := hl2025; clear hl2025
          clear hR2026
          refine za8 h (fun _ hx2210 h => ?_) rfl
          refine za8 h (fun l2270 hm2271 h => ?_) rfl
          refine a_start (ds := []) MO rfl ?_
          refine za6 0 rfl rfl rfl (by kernel_rfl) (fun _ _ _ h => h) (za2 rfl) ?_
          refine za6 1 rfl rfl rfl (by kernel_rfl) (fun _ _ _ h => h) (q_len Try.underlying25 rfl) ?_
          refine za6 2 rfl rfl rfl (by kernel_rfl) (fun _ _ _ h => h) (q_build (vs := [(0, .int .i64 (l25.length : Int))]) (cs := [.int .i64 (l25.length : Int), .slice none 0 0, .slice none 0 0]) rfl rfl) ?_
          refine a_two 3 5 rfl rfl rfl rfl (by kernel_rfl) rfl rfl (zac 0 Z Try.func90 N90 rfl rfl rfl (fun w P1 hF hB hS hT => impl_Plan_many.calls g1 a0_0 A0_1 c0_1 l0_1.length l0_1 A0_2 c0_2 l0_2.length l0_2 hB hF (hS _ R0_1) hc0_1 (hS _ R0_2) hc0_2 (hT 0 _ rfl).box hx2210)) (fun s w h => h) (zaw V27 rfl) (fun s w h => za5 [some 1, some 2, some 3, some 4, some 5, some 6] (by decide) w h rfl) (fun _ => ?_) (fun g2330 => ?_)
          · skip
            refine a_two 4 5 rfl rfl rfl rfl (by kernel_rfl) rfl rfl (e_make (Kd.int .i64) (0 : Int) Try.underlying25 I3 rfl (by decide) (by decide) (fun _ _ => rfl) rfl rfl hm2271) (fun s w h => za5 [some 1, some 2, some 3, some 4, some 5, some 6] (by decide) w h rfl) (zaw V27 rfl) (fun s w h => za5 [some 1, some 2, some 3, some 4, some 5, some 6] (by decide) w h rfl) (cur2 (fun A2272 c2273 => ?_)) (fun g2330 => ?_)
            · skip
              refine a_one 5 rfl rfl (by kernel_rfl) rfl (zaw V27 rfl) (fun s w h => za5 [some 2, some 3, some 4, some 5, some 6, some 7] (by decide) w h rfl) (fun g2330 => ?_)
              refine a_one 6 rfl rfl (by kernel_rfl) rfl (zak (i := 0) rfl rfl rfl Z27 rfl rfl) (fun s w h => za5 [some 2, some 3, some 4, some 5, some 6, some 7] (by decide) w h rfl) (fun _ => ?_)
              refine za6 7 rfl rfl rfl (by kernel_rfl) (fun _ _ _ h => h) (q_asg rfl) ?_
              refine zav (by kernel_rfl) ?_
              refine zat (l2270, g2330, A2272, c2273) h ⟨rfl, rfl, trivial⟩ (fun w h => za7 [2, 3, 4, 5, 6, 7, 0, 1] (by decide) rfl w h) ?_
              repeat (first | exact zad _ _ | refine zaf rfl ?_ | refine zae rfl ?_ | refine zah rfl ?_)
            · skip
              refine a_two 4 6 rfl rfl rfl rfl (by kernel_rfl) rfl rfl (e_make (Kd.int .i64) (0 : Int) Try.underlying25 I3 rfl (by decide) (by decide) (fun _ _ => rfl) rfl rfl hm2271) (fun s w h => za5 [some 2, some 3, some 4, some 5, some 6, some 7] (by decide) w h rfl) (zak (i := 0) rfl rfl rfl Z27 rfl rfl) (fun s w h => za5 [some 1, some 2, some 3, some 4, some 5, some 6] (by decide) w h rfl) (cur2 (fun A2272 c2273 => ?_)) (fun _ => ?_)
              · skip
                refine a_one 6 rfl rfl (by kernel_rfl) rfl (zak (i := 1) rfl rfl rfl Z27 rfl rfl) (fun s w h => za5 [some 2, some 3, some 4, some 5, some 6, some 7] (by decide) w h rfl) (fun _ => ?_)
                refine za6 7 rfl rfl rfl (by kernel_rfl) (fun _ _ _ h => h) (q_asg rfl) ?_
                refine zav (by kernel_rfl) ?_
                refine zat (l2270, g2330, A2272, c2273) h ⟨rfl, rfl, trivial⟩ (fun w h => za7 [2, 3, 4, 5, 6, 7, 1, 0] (by decide) rfl w h) ?_
                repeat (first | exact zad _ _ | refine zaf rfl ?_ | refine zae rfl ?_ | refine zah rfl ?_)
              · skip
                refine a_one 4 rfl rfl (by kernel_rfl) rfl (e_make (Kd.int .i64) (0 : Int) Try.underlying25 I3 rfl (by decide) (by decide) (fun _ _ => rfl) rfl rfl hm2271) (fun s w h => za5 [some 2, some 3, some 4, some 5, some 6, some 7] (by decide) w h rfl) (cur2 (fun A2272 c2273 => ?_))
                refine za6 7 rfl rfl rfl (by kernel_rfl) (fun _ _ _ h => h) (q_asg rfl) ?_
                refine zav (by kernel_rfl) ?_
                refine zat (l2270, g2330, A2272, c2273) h ⟨rfl, rfl, trivial⟩ (fun w h => za7 [2, 3, 4, 5, 6, 7, 1, 0] (by decide) rfl w h) ?_
                repeat (first | exact zad _ _ | refine zaf rfl ?_ | refine zae rfl ?_ | refine zah rfl ?_)
          · skip
            refine a_one 3 rfl rfl (by kernel_rfl) rfl (zac 0 Z Try.func90 N90 rfl rfl rfl (fun w P1 hF hB hS hT => impl_Plan_many.calls g1 a0_0 A0_1 c0_1 l0_1.length l0_1 A0_2 c0_2 l0_2.length l0_2 hB hF (hS _ R0_1) hc0_1 (hS _ R0_2) hc0_2 (hT 1 _ rfl).box hx2210)) (fun s w h => za5 [some 1, some 2, some 3, some 4, some 5, some 6] (by decide) w h rfl) (fun _ => ?_)
            refine a_two 4 6 rfl rfl rfl rfl (by kernel_rfl) rfl rfl (e_make (Kd.int .i64) (0 : Int) Try.underlying25 I3 rfl (by decide) (by decide) (fun _ _ => rfl) rfl rfl hm2271) (fun s w h => za5 [some 2, some 3, some 4, some 5, some 6, some 7] (by decide) w h rfl) (zak (i := 0) rfl rfl rfl Z27 rfl rfl) (fun s w h => za5 [some 1, some 2, some 3, some 4, some 5, some 6] (by decide) w h rfl) (cur2 (fun A2272 c2273 => ?_)) (fun _ => ?_)
            · skip
              refine a_one 6 rfl rfl (by kernel_rfl) rfl (zak (i := 1) rfl rfl rfl Z27 rfl rfl) (fun s w h => za5 [some 2, some 3, some 4, some 5, some 6, some 7] (by decide) w h rfl) (fun _ => ?_)
              refine za6 7 rfl rfl rfl (by kernel_rfl) (fun _ _ _ h => h) (q_asg rfl) ?_
              refine zav (by kernel_rfl) ?_
              refine zat (l2270, g2330, A2272, c2273) h ⟨rfl, rfl, trivial⟩ (fun w h => za7 [2, 3, 4, 5, 6, 7, 1, 0] (by decide) rfl w h) ?_
              repeat (first | exact zad _ _ | refine zaf rfl ?_ | refine zae rfl ?_ | refine zah rfl ?_)
            · skip
              refine a_one 4 rfl rfl (by kernel_rfl) rfl (e_make (Kd.int .i64) (0 : Int) Try.underlying25 I3 rfl (by decide) (by decide) (fun _ _ => rfl) rfl rfl hm2271) (fun s w h => za5 [some 2, some 3, some 4, some 5, some 6, some 7] (by decide) w h rfl) (cur2 (fun A2272 c2273 => ?_))
              refine za6 7 rfl rfl rfl (by kernel_rfl) (fun _ _ _ h => h) (q_asg rfl) ?_
              refine zav (by kernel_rfl) ?_
              refine zat (l2270, g2330, A2272, c2273) h ⟨rfl, rfl, trivial⟩ (fun w h => za7 [2, 3, 4, 5, 6, 7, 1, 0] (by decide) rfl w h) ?_
              repeat (first | exact zad _ _ | refine zaf rfl ?_ | refine zae rfl ?_ | refine zah rfl ?_)
        · skip
          refine (cur4 (fun l2021 g2020 A2022 c2023 => fun U2027 hJ2028 => ?_))
          have e_ := Option.some.inj hJ2028; have h := hR2026; rw [← e_] at h; clear e_ hJ2028 hR2026 hl2025
          refine c_seq ?_
          refine c_seq ?_
          refine za0 ?_
          refine o_q rfl rfl (za2 rfl) ?_
          refine o_q rfl rfl (q_len Try.underlying25 rfl) ?_
          refine o_q rfl rfl (za2 rfl) ?_
          refine o_end ?_
          refine za1 ?_
          refine zaj ?_
          refine za8 h (fun o2579 hl2578 hR2577 => ?_) rfl
          clear h
          refine c_fact (p := l25.length ≤ 9223372036854775807) (fun w h => (h.zay (i := 3) rfl).2.1) (fun hm2576 => ?_)
          refine c_loopL (σ := (List Int) × (List Int) × Int) (fun k2574 ((ys2573, l2570, i2571) : (List Int) × (List Int) × Int) => Rg l25 i2571 ys2573 ∧ ys2573.length = k2574 ∧ impl_SplitPlan.l0 ys2573 l2570 i2571 = some o2579) [11, 12, 46, 47, 48, 49, 50, 51, 52, 53, 54, 55] (fun ((ys2573, l2570, i2571) : (List Int) × (List Int) × Int) => [(46, .int .i64 i2571)]) (fun ((ys2573, l2570, i2571) : (List Int) × (List Int) × Int) => [box g1 27 #[.int .i64 a0_0, .slice A0_1 l0_1.length c0_1, .slice A0_2 l0_2.length c0_2], box g3 27 #[.int .i64 0, .slice none 0 0, .slice none 0 0], box g5 27 #[.int .i64 0, .slice none 0 0, .slice none 0 0], row (Kd.int .i64) 3 (.slice A26 l25.length c27) l25, box g749 27 #[.int .i64 a0_0, .slice A751 l750.length c752, .slice A26 l25.length c27], row kStep 89 (.slice A751 l750.length c752) l750, box g2020 27 #[.int .i64 (l25.length : Int), .slice none 0 0, .slice none 0 0], row (Kd.int .i64) 3 (.slice A2022 l2021.length c2023) l2570]) l25.length (l25, l2021, 0) ⟨Rg.start _, rfl, hl2578⟩ ⟨rfl, trivial⟩ (fun w h => h) ?_
          refine fun k2574 => cur3 (listC (fun l2570 i2571 U2580 hJ_ => ?_) (fun y2572 ys2573 l2570 i2571 U2580 hJ_ => ?_))
          · skip
            clear hl2578
            have hr2575 := hJ_.1; have hk2581 := hJ_.2.1; have h := hJ_.2.2; clear hJ_
            replace h : impl_SplitPlan.l0 [] l2570 i2571 = some o2579 := h
            rw [impl_SplitPlan.l0] at h
            refine c_seq ?_
            refine za0 ?_
            refine o_q rfl rfl (q_lss rfl rfl) ?_
            refine o_end ?_
            refine za1 ?_
            refine c_seq ?_
            refine c_false (congrArg Value.bool hr2575.ge) ?_
            refine c_exit ?_
            refine za9 ?_
            refine za9 ?_
            have e_ := Option.some.inj h; replace h := hR2577; rw [← e_] at h; clear e_
            refine x_hit ?_
            refine za1 ?_
            refine c_seq ?_
            refine c_seq ?_
            refine za0 ?_
            refine o_q rfl rfl (q_f F27_1 rfl) ?_
            refine o_q rfl rfl (q_ldb Y24 rfl (fun w h => h.zaa (i := 0) rfl) rfl) ?_
            refine o_q rfl rfl (za2 rfl) ?_
            refine za8 h (fun l2582 hz2583 h => ?_) rfl
            refine o_q rfl rfl (q_ctv Try.underlying24 Z89 rfl ⟨_, rfl⟩ rfl rfl hc0_1 hz2583) ?_
            refine o_q rfl rfl (q_len Try.underlying24 rfl) ?_
            refine o_q rfl rfl (za2 rfl) ?_
            refine o_end ?_
            refine za1 ?_
            refine zaj ?_
            refine c_nil kStep 89 ?_
            refine za8 h (fun o2597 hl2596 hR2595 => ?_) rfl
            clear h
            refine c_fact (p := l2582.length ≤ 9223372036854775807) (fun w h => (C_cut (dk := kStep) rfl hz2583 hc0_1 (R0_1.now Z h)).2.1) (fun hm2594 => ?_)
            refine c_loopL (σ := (List SStep) × (List Int) × (List SStep) × Int × (Option Addr) × Nat) (fun k2592 ((ys2591, l2585, l2586, i2589, A2587, c2588) : (List SStep) × (List Int) × (List SStep) × Int × (Option Addr) × Nat) => Rg l2582 i2589 ys2591 ∧ ys2591.length = k2592 ∧ impl_SplitPlan.l1 a0_0 a1 l25 ys2591 l2585 l2586 i2589 = some o2597) [13, 14, 61, 62, 63, 64, 65, 66, 67, 68, 69, 70, 71, 72, 73, 74, 75, 76, 77, 78, 79, 80, 81, 82, 83, 84, 85, 86, 87, 88, 89, 90, 91] (fun ((ys2591, l2585, l2586, i2589, A2587, c2588) : (List SStep) × (List Int) × (List SStep) × Int × (Option Addr) × Nat) => [(61, .int .i64 i2589)]) (fun ((ys2591, l2585, l2586, i2589, A2587, c2588) : (List SStep) × (List Int) × (List SStep) × Int × (Option Addr) × Nat) => [row kStep 89 (.slice A2587 l2586.length c2588) l2586, box g1 27 #[.int .i64 a0_0, .slice A0_1 l0_1.length c0_1, .slice A0_2 l0_2.length c0_2], box g3 27 #[.int .i64 0, .slice none 0 0, .slice none 0 0], box g5 27 #[.int .i64 0, .slice none 0 0, .slice none 0 0], row (Kd.int .i64) 3 (.slice A26 l25.length c27) l25, box g749 27 #[.int .i64 a0_0, .slice A751 l750.length c752, .slice A26 l25.length c27], row kStep 89 (.slice A751 l750.length c752) l750, box g2020 27 #[.int .i64 (l25.length : Int), .slice A2587 l2586.length c2588, .slice none 0 0], row (Kd.int .i64) 3 (.slice A2022 l2021.length c2023) l2585]) l2582.length (l2582, l2570, ([] : List SStep), 0, none, 0) ⟨Rg.start _, rfl, hl2596⟩ ⟨rfl, trivial⟩ (fun w h => h) ?_
            refine fun k2592 => cur6 (listC (fun l2585 l2586 i2589 A2587 c2588 U2598 hJ_ => ?_) (fun y2590 ys2591 l2585 l2586 i2589 A2587 c2588 U2598 hJ_ => ?_))
            · skip
              clear hl2596
              have hr2593 := hJ_.1; have hk2599 := hJ_.2.1; have h := hJ_.2.2; clear hJ_
              replace h : impl_SplitPlan.l1 a0_0 a1 l25 [] l2585 l2586 i2589 = some o2597 := h
              rw [impl_SplitPlan.l1] at h
              refine c_seq ?_
              refine za0 ?_
              refine o_q rfl rfl (q_lss rfl rfl) ?_
              refine o_end ?_
              refine za1 ?_
              refine c_seq ?_
              refine c_false (congrArg Value.bool hr2593.ge) ?_
              refine c_exit ?_
              refine za9 ?_
              refine za9 ?_
              have e_ := Option.some.inj h; replace h := hR2595; rw [← e_] at h; clear e_
              refine x_hit ?_
              refine za1 ?_
              refine c_seq ?_
              refine za0 ?_
              refine o_q rfl rfl (q_f F27_2 rfl) ?_
              refine o_q rfl rfl (q_ldb Y25 rfl (fun w h => h.zaa (i := 1) rfl) rfl) ?_
              refine o_q rfl rfl (za2 rfl) ?_
              refine za8 h (fun l2601 hx2600 h => ?_) rfl
              refine o_e rfl (zac 0 Z Try.func92 N92 rfl rfl rfl (fun w P1 hF hB hS hT => impl_renamed.calls A0_2 c0_2 l0_2.length l0_2 A2022 c2023 l2021.length l2585 hB hF (hS _ R0_2) hc0_2 (hT 8 _ rfl).row (hT 8 _ rfl).cap _ hx2600)) (cur2 (fun A2602 c2603 => ?_))
              refine o_q rfl rfl (q_f F27_2 rfl) ?_
              refine o_e rfl (e_store (i := 8) rfl rfl rfl rfl Z25 rfl rfl) (fun _ => ?_)
              refine o_end ?_
              refine za1 ?_
              refine c_seq ?_
              refine za8 h (fun o2610 hl2611 hR2612 => ?_) rfl
              clear h
              refine c_cutJ (σ := Bool) (fun b2609 => some b2609 = some o2610) [97, 98, 99, 100, 101, 102, 103, 104] (fun b2609 => [(104, .bool b2609)]) (fun b2609 => [box g3 27 #[.int .i64 0, .slice none 0 0, .slice none 0 0], box g5 27 #[.int .i64 0, .slice none 0 0, .slice none 0 0], box g749 27 #[.int .i64 a0_0, .slice A751 l750.length c752, .slice A26 l25.length c27], row kStep 89 (.slice A751 l750.length c752) l750, row (Kd.int .i64) 3 (.slice A26 l25.length c27) l25, box g2020 27 #[.int .i64 (l25.length : Int), .slice A2587 l2586.length c2588, .slice A2602 l2601.length c2603], row kStep 89 (.slice A2587 l2586.length c2588) l2586, row (Kd.int .i64) 3 (.slice A2602 l2601.length c2603) l2601, box g1 27 #[.int .i64 a0_0, .slice A0_1 l0_1.length c0_1, .slice A0_2 l0_2.length c0_2], row (Kd.int .i64) 3 (.slice A2022 l2021.length c2023) l2585]) ?_ ?_
              · skip
                have h := hl2611; clear hl2611
                clear hR2612
                refine za0 ?_
                refine o_q rfl rfl (q_ldB G27 Z27 rfl (fun w h => h.zaa (i := 6) rfl) rfl) ?_
                refine za8 h (fun b2616 hx2615 h => ?_) rfl
                refine o_e rfl (zac 0 Z Try.func86 N86 rfl rfl rfl (fun w P1 hF hB hS hT => impl_IsPlan.calls k a0_0 A751 c752 l750.length l750 A26 c27 l25.length l25 hB hF (hT 7 _ rfl).row (hT 7 _ rfl).cap (hT 5 _ rfl).row (hT 5 _ rfl).cap _ hx2615)) (fun _ => ?_)
                refine o_q rfl rfl (q_not rfl) ?_
                refine o_q rfl rfl (za2 rfl) ?_
                refine byB b2616 (fun hb2617 => ?_) (fun hb2617 => ?_)
                · replace h := bb_t hb2617 h
                  refine o_w (za4 rfl rfl rfl (congrArg (fun b => Value.bool (!(b))) hb2617)) rfl (q_ldB G27 Z27 rfl (fun w h => h.zaa (i := 8) rfl) rfl) ?_
                  refine za8 h (fun b2619 hx2618 h => ?_) rfl
                  refine o_ew (za4 rfl rfl rfl (congrArg (fun b => Value.bool (!(b))) hb2617)) (zac 0 Z Try.func86 N86 rfl rfl rfl (fun w P1 hF hB hS hT => impl_IsPlan.calls k (l25.length : Int) A2587 c2588 l2586.length l2586 A2602 c2603 l2601.length l2601 hB hF (hT 1 _ rfl).row (hT 1 _ rfl).cap (hT 0 _ rfl).row (hT 0 _ rfl).cap _ hx2618)) (fun _ => ?_)
                  refine o_w (za4 rfl rfl rfl (congrArg (fun b => Value.bool (!(b))) hb2617)) rfl (q_not rfl) ?_
                  refine o_q rfl rfl (zao false (congrArg (fun b => Value.bool (!(b))) hb2617) rfl) ?_
                  refine o_end ?_
                  refine zat (!b2619) h ⟨rfl, trivial⟩ (fun w h => za7 [3, 4, 6, 7, 5, 8, 1, 0, 2, 9] (by decide) rfl w h) ?_
                  repeat (first | exact zad _ _ | refine zaf rfl ?_ | refine zae rfl ?_ | refine zah rfl ?_)
                · replace h := bb_f hb2617 h
                  refine @o_n _ _ _ _ _ _ _ _ _ _ _ 101 (za3 rfl rfl rfl (congrArg (fun b => Value.bool (!(b))) hb2617) rfl) (Eq.refl (some 101)) ?_
                  refine @o_n _ _ _ _ _ _ _ _ _ _ _ 102 (za3 rfl rfl rfl (congrArg (fun b => Value.bool (!(b))) hb2617) rfl) (Eq.refl (some 102)) ?_
                  refine @o_n _ _ _ _ _ _ _ _ _ _ _ 103 (za3 rfl rfl rfl (congrArg (fun b => Value.bool (!(b))) hb2617) rfl) (Eq.refl (some 103)) ?_
                  refine o_q rfl rfl (zao true (congrArg (fun b => Value.bool (!(b))) hb2617) rfl) ?_
                  refine o_end ?_
                  refine zat true h ⟨rfl, trivial⟩ (fun w h => za7 [3, 4, 6, 7, 5, 8, 1, 0, 2, 9] (by decide) rfl w h) ?_
                  repeat (first | exact zad _ _ | refine zaf rfl ?_ | refine zae rfl ?_ | refine zah rfl ?_)
              · skip
                refine (fun b2609 => fun U2613 hJ2614 => ?_)
                have e_ := Option.some.inj hJ2614; have h := hR2612; rw [← e_] at h; clear e_ hJ2614 hR2612 hl2611
                refine zau _ rfl (fun hb2620 => ?_) (fun hb2620 => ?_)
                · skip
                  replace h := bb_t hb2620 h
                  refine c_seq ?_
                  refine za0 ?_
                  refine o_q rfl rfl (q_build (vs := []) (cs := [.int .i64 0, .slice none 0 0, .slice none 0 0]) rfl rfl) ?_
                  refine o_q rfl rfl (q_build (vs := []) (cs := [.int .i64 0, .slice none 0 0, .slice none 0 0]) rfl rfl) ?_
                  refine o_e rfl (zak (i := 0) rfl rfl rfl Z27 rfl rfl) (fun _ => ?_)
                  refine o_e rfl (zak (i := 1) rfl rfl rfl Z27 rfl rfl) (fun _ => ?_)
                  refine o_q rfl rfl (q_asg rfl) ?_
                  refine o_end ?_
                  refine za1 ?_
                  refine c_ret ?_
                  refine zab ?_
                  refine x_nil kStep 89 ?_
                  refine x_nil (Kd.int .i64) 3 ?_
                  refine x_nil kStep 89 ?_
                  refine x_nil (Kd.int .i64) 3 ?_
                  have e0_ := Option.some.inj h; clear h
                  have d0_ := (Prod.mk.inj e0_).1; have e1_ := (Prod.mk.inj e0_).2; clear e0_; subst d0_
                  have d1_ := (Prod.mk.inj e1_).1; have e2_ := (Prod.mk.inj e1_).2; clear e1_; subst d1_
                  have d2_ := (Prod.mk.inj e2_).1; have e3_ := (Prod.mk.inj e2_).2; clear e2_; subst d2_
                  have d3_ := (Prod.mk.inj e3_).1; have e4_ := (Prod.mk.inj e3_).2; clear e3_; subst d3_
                  have d4_ := (Prod.mk.inj e4_).1; have e5_ := (Prod.mk.inj e4_).2; clear e4_; subst d4_
                  have d5_ := (Prod.mk.inj e5_).1; have e6_ := (Prod.mk.inj e5_).2; clear e5_; subst d5_
                  subst e6_
                  exact x_r3 (none, 0, none, 0, none, 0, none, 0) Try.results15 (rv_cell rfl G27 Z27 (fun w h => h.zaa (i := 4) rfl) rfl) (rv_cell rfl G27 Z27 (fun w h => h.zaa (i := 5) rfl) rfl) (zai rfl) rfl (fun w h => za7 [3, 2, 1, 0] (by decide) rfl w h)
                · skip
                  replace h := bb_f hb2620 h
                  refine zan ?_
                  refine za1 ?_
                  refine c_seq ?_
                  refine a_startS (ds := []) [none, none, some 2, some 3, some 4, some 5, some 6, some 7, some 8, some 9] MO rfl ?_
                  refine zax 0 rfl rfl rfl (by kernel_rfl) (fun _ _ _ h => h) (fun w h => za5 [none, none, some 2, some 3, some 4, some 5, some 6, some 7, some 8, some 9] (by decide) w h rfl) (q_ldB G27 Z27 rfl (fun w h => h.zaa (i := 2) rfl) rfl) ?_
                  refine zax 1 rfl rfl rfl (by kernel_rfl) (fun _ _ _ h => h) (fun w h => za5 [none, none, some 2, some 3, some 4, some 5, some 6, some 7, some 8, some 9] (by decide) w h rfl) (q_ldB G27 Z27 rfl (fun w h => h.zaa (i := 5) rfl) rfl) ?_
                  refine a_one 2 rfl rfl (by kernel_rfl) rfl (zak (i := 0) rfl rfl rfl Z27 rfl rfl) (fun s w h => za5 [none, none, some 2, some 3, some 4, some 5, some 6, some 7, some 8, some 9] (by decide) w h rfl) (fun _ => ?_)
                  refine a_one 3 rfl rfl (by kernel_rfl) rfl (zak (i := 1) rfl rfl rfl Z27 rfl rfl) (fun s w h => za5 [none, none, some 2, some 3, some 4, some 5, some 6, some 7, some 8, some 9] (by decide) w h rfl) (fun _ => ?_)
                  refine za6 4 rfl rfl rfl (by kernel_rfl) (fun _ _ _ h => h) (q_asg rfl) ?_
                  refine zav (by kernel_rfl) ?_
                  refine za1 ?_
                  refine c_ret ?_
                  have e0_ := Option.some.inj h; clear h
                  have d0_ := (Prod.mk.inj e0_).1; have e1_ := (Prod.mk.inj e0_).2; clear e0_; subst d0_
                  have d1_ := (Prod.mk.inj e1_).1; have e2_ := (Prod.mk.inj e1_).2; clear e1_; subst d1_
                  have d2_ := (Prod.mk.inj e2_).1; have e3_ := (Prod.mk.inj e2_).2; clear e2_; subst d2_
                  have d3_ := (Prod.mk.inj e3_).1; have e4_ := (Prod.mk.inj e3_).2; clear e3_; subst d3_
                  have d4_ := (Prod.mk.inj e4_).1; have e5_ := (Prod.mk.inj e4_).2; clear e4_; subst d4_
                  have d5_ := (Prod.mk.inj e5_).1; have e6_ := (Prod.mk.inj e5_).2; clear e5_; subst d5_
                  subst e6_
                  exact x_r3 (A751, c752, A26, c27, A2587, c2588, A2602, c2603) Try.results15 (rv_cell rfl G27 Z27 (fun w h => h.zaa (i := 0) rfl) rfl) (rv_cell rfl G27 Z27 (fun w h => h.zaa (i := 1) rfl) rfl) (zai rfl) rfl (fun w h => za7 [3, 4, 6, 7] (by decide) rfl w h)
            · skip
              clear hl2596
              have hr2593 := hJ_.1; have hk2599 := hJ_.2.1; have h := hJ_.2.2; clear hJ_
              replace h : impl_SplitPlan.l1 a0_0 a1 l25 (y2590 :: ys2591) l2585 l2586 i2589 = some o2597 := h
              rw [impl_SplitPlan.l1] at h
              refine c_seq ?_
              refine za0 ?_
              refine o_q rfl rfl (q_lss rfl rfl) ?_
              refine o_end ?_
              refine za1 ?_
              refine c_seq ?_
              refine c_true (congrArg Value.bool hr2593.lt) ?_
              refine zan ?_
              refine za1 ?_
              refine c_seq ?_
              refine zaj ?_
              refine c_seq ?_
              refine za0 ?_
              refine o_q rfl rfl (za2 rfl) ?_
              refine o_fact (p := Sh (cutA A0_1 c0_1 a1.toNat 2) l2582.length l2582.length) (fun w h => f_sh (dk := kStep) h (fun w h => C_cut (dk := kStep) rfl hz2583 hc0_1 (R0_1.now Z h))) (fun hq2621 => ?_)
              refine o_q rfl rfl (q_ix Try.underlying24 Z89 rfl rfl hq2621 hr2593.get) ?_
              refine o_q rfl rfl (q_ldE G89 Z89 rfl rfl (fun w h => C_cut (dk := kStep) rfl hz2583 hc0_1 (R0_1.now Z h)) hr2593.get (fun _ _ h => h) rfl) ?_
              refine o_e rfl (zaw V89 rfl) (fun g2622 => ?_)
              refine o_q rfl rfl (q_asg rfl) ?_
              refine o_e rfl (zak (i := 0) rfl rfl rfl Z89 rfl rfl) (fun _ => ?_)
              refine o_end ?_
              refine za1 ?_
              refine c_seq ?_
              refine a_startS (ds := []) [some 0, some 1, some 2, some 3, some 4, some 5, some 6, some 7, some 8, none] MO rfl ?_
              refine za6 0 rfl rfl rfl (by kernel_rfl) (fun _ _ _ h => h) (za2 rfl) ?_
              refine za6 1 rfl rfl rfl (by kernel_rfl) (fun _ _ _ h => h) (q_f F27_0 rfl) ?_
              refine zax 2 rfl rfl rfl (by kernel_rfl) (fun _ _ _ h => h) (fun w h => za5 [some 0, some 1, some 2, some 3, some 4, some 5, some 6, some 7, some 8, none] (by decide) w h rfl) (q_ldb Y3 rfl (fun w h => h.zaa (i := 2) rfl) rfl) ?_
              refine za6 3 rfl rfl rfl (by kernel_rfl) (fun _ _ _ h => h) (za2 rfl) ?_
              refine za6 4 rfl rfl rfl (by kernel_rfl) (fun _ _ _ h => h) (q_add64 rfl rfl) ?_
              refine za6 5 rfl rfl rfl (by kernel_rfl) (fun _ _ _ h => h) (za2 rfl) ?_
              refine za6 6 rfl rfl rfl (by kernel_rfl) (fun _ _ _ h => h) (q_add64 rfl rfl) ?_
              refine za8 h (fun _ hx2624 h => ?_) rfl
              refine a_one 7 rfl rfl (by kernel_rfl) rfl (zac 0 Z Try.func90 N90 rfl rfl rfl (fun w P1 hF hB hS hT => impl_Plan_many.calls g2020 (l25.length : Int) A2587 c2588 l2586.length l2586 none 0 0 [] hB hF (hT 1 _ rfl).row (hT 1 _ rfl).cap (stab_nil _) (Nat.le_refl 0) (hT 8 _ rfl).box hx2624)) (fun s w h => za5 [some 0, some 1, some 2, some 3, some 4, some 5, some 6, some 7, some 8, none] (by decide) w h rfl) (fun _ => ?_)
              refine a_fact (p := Sh A2022 l2021.length l2585.length) (fun w h => f_sh (dk := (Kd.int .i64)) h (fun w h => h.zay (i := 9) rfl)) (fun hq2625 => ?_)
              refine za8 h (fun y2627 hg2626 h => ?_) rfl
              refine za6 8 rfl rfl rfl (by kernel_rfl) (fun _ _ _ h => h) (q_ix Try.underlying25 Z3 rfl rfl hq2625 hg2626) ?_
              refine za8 h (fun l2628 hs2629 h => ?_) rfl
              refine a_one 9 rfl rfl (by kernel_rfl) rfl (e_set (i := 9) rfl rfl rfl Z3 hs2629) (fun s w h => za5 [some 0, some 1, some 2, some 3, some 4, some 5, some 6, some 7, some 8, none] (by decide) w h rfl) (fun _ => ?_)
              refine zav (by kernel_rfl) ?_
              refine za1 ?_
              refine za8 h (fun y2933 hg2932 h => ?_) rfl
              refine za8 h (fun y3232 hg3231 h => ?_) rfl
              refine za8 h (fun _ hx3351 h => ?_) rfl
              refine za8 h (fun l3471 ha3472 h => ?_) rfl
              refine a_startS (ds := []) [some 0, none, some 2, some 3, some 4, some 5, some 6, some 7, none, some 9] MO rfl ?_
              refine za6 0 rfl rfl rfl (by kernel_rfl) (fun _ _ _ h => h) (q_f F27_1 rfl) ?_
              refine za6 2 rfl rfl rfl (by kernel_rfl) (fun _ _ _ h => h) (za2 rfl) ?_
              refine za6 3 rfl rfl rfl (by kernel_rfl) (fun _ _ _ h => h) (q_f F89_0 rfl) ?_
              refine zax 4 rfl rfl rfl (by kernel_rfl) (fun _ _ _ h => h) (fun w h => za5 [some 0, none, some 2, some 3, some 4, some 5, some 6, some 7, none, some 9] (by decide) w h rfl) (q_ldb Y3 rfl (fun w h => h.zaa (i := 0) rfl) rfl) ?_
              refine a_fact (p := Sh A2022 l2021.length l2628.length) (fun w h => f_sh (dk := (Kd.int .i64)) h (fun w h => h.zay (i := 9) rfl)) (fun hq2931 => ?_)
              refine za6 5 rfl rfl rfl (by kernel_rfl) (fun _ _ _ h => h) (q_ix Try.underlying25 Z3 rfl rfl hq2931 hg2932) ?_
              refine zax 6 rfl rfl rfl (by kernel_rfl) (fun _ _ _ h => h) (fun w h => za5 [some 0, none, some 2, some 3, some 4, some 5, some 6, some 7, none, some 9] (by decide) w h rfl) (q_lde (off := 0) Y3 rfl rfl (fun w h => h.zay (i := 9) rfl) hg2932 (fun _ _ h => h) rfl) ?_
              refine za6 7 rfl rfl rfl (by kernel_rfl) (fun _ _ _ h => h) (za2 rfl) ?_
              refine za6 8 rfl rfl rfl (by kernel_rfl) (fun _ _ _ h => h) (q_f F89_1 rfl) ?_
              refine zax 9 rfl rfl rfl (by kernel_rfl) (fun _ _ _ h => h) (fun w h => za5 [some 0, none, some 2, some 3, some 4, some 5, some 6, some 7, none, some 9] (by decide) w h rfl) (q_ldb Y3 rfl (fun w h => h.zaa (i := 0) rfl) rfl) ?_
              refine za6 10 rfl rfl rfl (by kernel_rfl) (fun _ _ _ h => h) (q_ix Try.underlying25 Z3 rfl rfl hq2931 hg3231) ?_
              refine zax 11 rfl rfl rfl (by kernel_rfl) (fun _ _ _ h => h) (fun w h => za5 [some 0, none, some 2, some 3, some 4, some 5, some 6, some 7, none, some 9] (by decide) w h rfl) (q_lde (off := 0) Y3 rfl rfl (fun w h => h.zay (i := 9) rfl) hg3231 (fun _ _ h => h) rfl) ?_
              refine a_two 1 12 rfl rfl rfl rfl (by kernel_rfl) rfl rfl (ev_q rfl (q_ldb Y24 rfl (fun w h => h.zaa (i := 8) rfl) rfl)) (fun s w h => za5 [some 0, none, some 2, some 3, some 4, some 5, some 6, some 7, none, some 9] (by decide) w h rfl) (zac 0 Z Try.func91 N91 rfl rfl rfl (fun w P1 hF hB hS hT => impl_step.calls y2933 y3232 hB hF hx3351)) (fun s w h => za5 [some 0, none, some 2, some 3, some 4, some 5, some 6, some 7, none, some 9] (by decide) w h rfl) (fun _ => ?_) (fun _ => ?_)
              · skip
                refine a_one 12 rfl rfl (by kernel_rfl) rfl (zac 0 Z Try.func91 N91 rfl rfl rfl (fun w P1 hF hB hS hT => impl_step.calls y2933 y3232 hB hF hx3351)) (fun s w h => za5 [some 0, none, some 2, some 3, some 4, some 5, some 6, some 7, none, some 9] (by decide) w h rfl) (fun _ => ?_)
                refine a_one 13 rfl rfl (by kernel_rfl) rfl (e_lit (vs := [(0, .agg #[.int .i64 (mn y2933 y3232), .int .i64 (mx y2933 y3232)])]) (cs := [.int .i64 (mn y2933 y3232), .int .i64 (mx y2933 y3232)]) kStep ([(⟨mn y2933 y3232, mx y2933 y3232⟩ : SStep)] : List SStep) Try.underlying24 I89 (by decide) rfl (by decide) rfl rfl (fun _ _ => reps_flat _)) (fun s w h => za5 [some 1, none, some 3, some 4, some 5, some 6, some 7, some 8, none, some 10] (by decide) w h rfl) (cur2 (fun A3411 c3412 => ?_))
                refine a_one 14 rfl rfl (by kernel_rfl) rfl (e_app (i := 2) (j := 0) Try.underlying24 I89 rfl (by decide) (by decide) rfl rfl rfl rfl rfl ha3472) (fun s w h => za5 [some 1, none, some 3, some 4, some 5, some 6, some 7, some 8, none, some 10] (by decide) w h rfl) (cur2 (fun A3473 c3474 => ?_))
                refine za6 15 rfl rfl rfl (by kernel_rfl) (fun _ _ _ h => h) (q_f F27_1 rfl) ?_
                refine a_one 16 rfl rfl (by kernel_rfl) rfl (e_store (i := 9) rfl rfl rfl rfl Z24 rfl rfl) (fun s w h => za5 [some 1, none, some 3, some 4, some 5, some 6, some 7, some 8, none, some 10] (by decide) w h rfl) (fun _ => ?_)
                refine zav (by kernel_rfl) ?_
                refine zam ?_
                refine za1 ?_
                refine za0 ?_
                refine o_q rfl rfl (q_up rfl rfl (hr2593.up hm2594)) ?_
                refine o_q rfl rfl (za2 rfl) ?_
                refine o_end ?_
                refine zal ys2591.length (ys2591, l2628, l3471, i2589 + 1, A3473, c3474) (by rw [← hk2599]; exact Nat.lt_succ_self _) ⟨hr2593.step, rfl, h⟩ ⟨rfl, trivial⟩ (fun w h => za7 [2, 3, 4, 5, 6, 7, 8, 9, 10] (by decide) rfl w h) ?_
                repeat (first | exact zad _ _ | refine zaf rfl ?_ | refine zae rfl ?_ | refine zah rfl ?_)
              · skip
                refine a_two 1 13 rfl rfl rfl rfl (by kernel_rfl) rfl rfl (ev_q rfl (q_ldb Y24 rfl (fun w h => h.zaa (i := 8) rfl) rfl)) (fun s w h => za5 [some 0, none, some 2, some 3, some 4, some 5, some 6, some 7, none, some 9] (by decide) w h rfl) (e_lit (vs := [(0, .agg #[.int .i64 (mn y2933 y3232), .int .i64 (mx y2933 y3232)])]) (cs := [.int .i64 (mn y2933 y3232), .int .i64 (mx y2933 y3232)]) kStep ([(⟨mn y2933 y3232, mx y2933 y3232⟩ : SStep)] : List SStep) Try.underlying24 I89 (by decide) rfl (by decide) rfl rfl (fun _ _ => reps_flat _)) (fun s w h => za5 [some 1, none, some 3, some 4, some 5, some 6, some 7, some 8, none, some 10] (by decide) w h rfl) (fun _ => ?_) (cur2 (fun A3411 c3412 => ?_))
                · skip
                  refine a_one 13 rfl rfl (by kernel_rfl) rfl (e_lit (vs := [(0, .agg #[.int .i64 (mn y2933 y3232), .int .i64 (mx y2933 y3232)])]) (cs := [.int .i64 (mn y2933 y3232), .int .i64 (mx y2933 y3232)]) kStep ([(⟨mn y2933 y3232, mx y2933 y3232⟩ : SStep)] : List SStep) Try.underlying24 I89 (by decide) rfl (by decide) rfl rfl (fun _ _ => reps_flat _)) (fun s w h => za5 [some 1, none, some 3, some 4, some 5, some 6, some 7, some 8, none, some 10] (by decide) w h rfl) (cur2 (fun A3411 c3412 => ?_))
                  refine a_one 14 rfl rfl (by kernel_rfl) rfl (e_app (i := 2) (j := 0) Try.underlying24 I89 rfl (by decide) (by decide) rfl rfl rfl rfl rfl ha3472) (fun s w h => za5 [some 1, none, some 3, some 4, some 5, some 6, some 7, some 8, none, some 10] (by decide) w h rfl) (cur2 (fun A3473 c3474 => ?_))
                  refine za6 15 rfl rfl rfl (by kernel_rfl) (fun _ _ _ h => h) (q_f F27_1 rfl) ?_
                  refine a_one 16 rfl rfl (by kernel_rfl) rfl (e_store (i := 9) rfl rfl rfl rfl Z24 rfl rfl) (fun s w h => za5 [some 1, none, some 3, some 4, some 5, some 6, some 7, some 8, none, some 10] (by decide) w h rfl) (fun _ => ?_)
                  refine zav (by kernel_rfl) ?_
                  refine zam ?_
                  refine za1 ?_
                  refine za0 ?_
                  refine o_q rfl rfl (q_up rfl rfl (hr2593.up hm2594)) ?_
                  refine o_q rfl rfl (za2 rfl) ?_
                  refine o_end ?_
                  refine zal ys2591.length (ys2591, l2628, l3471, i2589 + 1, A3473, c3474) (by rw [← hk2599]; exact Nat.lt_succ_self _) ⟨hr2593.step, rfl, h⟩ ⟨rfl, trivial⟩ (fun w h => za7 [2, 3, 4, 5, 6, 7, 8, 9, 10] (by decide) rfl w h) ?_
                  repeat (first | exact zad _ _ | refine zaf rfl ?_ | refine zae rfl ?_ | refine zah rfl ?_)
                · skip
                  refine a_one 1 rfl rfl (by kernel_rfl) rfl (ev_q rfl (q_ldb Y24 rfl (fun w h => h.zaa (i := 9) rfl) rfl)) (fun s w h => za5 [some 1, none, some 3, some 4, some 5, some 6, some 7, some 8, none, some 10] (by decide) w h rfl) (fun _ => ?_)
                  refine a_one 14 rfl rfl (by kernel_rfl) rfl (e_app (i := 2) (j := 0) Try.underlying24 I89 rfl (by decide) (by decide) rfl rfl rfl rfl rfl ha3472) (fun s w h => za5 [some 1, none, some 3, some 4, some 5, some 6, some 7, some 8, none, some 10] (by decide) w h rfl) (cur2 (fun A3473 c3474 => ?_))
                  refine za6 15 rfl rfl rfl (by kernel_rfl) (fun _ _ _ h => h) (q_f F27_1 rfl) ?_
                  refine a_one 16 rfl rfl (by kernel_rfl) rfl (e_store (i := 9) rfl rfl rfl rfl Z24 rfl rfl) (fun s w h => za5 [some 1, none, some 3, some 4, some 5, some 6, some 7, some 8, none, some 10] (by decide) w h rfl) (fun _ => ?_)
                  refine zav (by kernel_rfl) ?_
                  refine zam ?_
                  refine za1 ?_
                  refine za0 ?_
                  refine o_q rfl rfl (q_up rfl rfl (hr2593.up hm2594)) ?_
                  refine o_q rfl rfl (za2 rfl) ?_
                  refine o_end ?_
                  refine zal ys2591.length (ys2591, l2628, l3471, i2589 + 1, A3473, c3474) (by rw [← hk2599]; exact Nat.lt_succ_self _) ⟨hr2593.step, rfl, h⟩ ⟨rfl, trivial⟩ (fun w h => za7 [2, 3, 4, 5, 6, 7, 8, 9, 10] (by decide) rfl w h) ?_
                  repeat (first | exact zad _ _ | refine zaf rfl ?_ | refine zae rfl ?_ | refine zah rfl ?_)
          · skip
            clear hl2578
            have hr2575 := hJ_.1; have hk2581 := hJ_.2.1; have h := hJ_.2.2; clear hJ_
            replace h : impl_SplitPlan.l0 (y2572 :: ys2573) l2570 i2571 = some o2579 := h
            rw [impl_SplitPlan.l0] at h
            refine c_seq ?_
            refine za0 ?_
            refine o_q rfl rfl (q_lss rfl rfl) ?_
            refine o_end ?_
            refine za1 ?_
            refine c_seq ?_
            refine c_true (congrArg Value.bool hr2575.lt) ?_
            refine zan ?_
            refine za1 ?_
            refine c_seq ?_
            refine zaj ?_
            refine c_seq ?_
            refine za0 ?_
            refine o_q rfl rfl (za2 rfl) ?_
            refine o_fact (p := Sh A26 l25.length l25.length) (fun w h => f_sh (dk := (Kd.int .i64)) h (fun w h => h.zay (i := 3) rfl)) (fun hq3711 => ?_)
            refine o_q rfl rfl (q_ix Try.underlying25 Z3 rfl rfl hq3711 hr2575.get) ?_
            refine o_q rfl rfl (q_lde (off := 0) Y3 rfl rfl (fun w h => h.zay (i := 3) rfl) hr2575.get (fun _ _ h => h) rfl) ?_
            refine o_q rfl rfl (q_asg rfl) ?_
            refine o_q rfl rfl (q_asg rfl) ?_
            refine o_end ?_
            refine za1 ?_
            refine za0 ?_
            refine o_q rfl rfl (za2 rfl) ?_
            refine o_q rfl rfl (za2 rfl) ?_
            refine o_q rfl rfl (za2 rfl) ?_
            refine o_fact (p := Sh A2022 l2021.length l2570.length) (fun w h => f_sh (dk := (Kd.int .i64)) h (fun w h => h.zay (i := 7) rfl)) (fun hq3712 => ?_)
            refine za8 h (fun y3714 hg3713 h => ?_) rfl
            refine o_q rfl rfl (q_ix Try.underlying25 Z3 rfl rfl hq3712 hg3713) ?_
            refine za8 h (fun l3715 hs3716 h => ?_) rfl
            refine o_e rfl (e_set (i := 7) rfl rfl rfl Z3 hs3716) (fun _ => ?_)
            refine o_end ?_
            refine zam ?_
            refine za1 ?_
            refine za0 ?_
            refine o_q rfl rfl (q_up rfl rfl (hr2575.up hm2576)) ?_
            refine o_q rfl rfl (za2 rfl) ?_
            refine o_end ?_
            refine zal ys2573.length (ys2573, l3715, i2571 + 1) (by rw [← hk2581]; exact Nat.lt_succ_self _) ⟨hr2575.step, rfl, h⟩ ⟨rfl, trivial⟩ (fun w h => za7 [0, 1, 2, 3, 4, 5, 6, 7] (by decide) rfl w h) ?_
            repeat (first | exact zad _ _ | refine zaf rfl ?_ | refine zae rfl ?_ | refine zah rfl ?_)

/-! ### loop.example/g01098/spec.l1In: function 94 -/
def spec_l1In.f (a0 : Int) (a1 : Int) (a2 : Int) : Option Bool := if a1 ≤ a0 then (some (decide (a0 ≤ a2))) else (some false)
set_option maxHeartbeats 600000 in
set_option maxRecDepth 100000 in
theorem spec_l1In.calls {w0 ws : World} {P0 : Nat → Prop} (a0 : Int) (a1 : Int) (a2 : Int) (Z : Below w0.heap.size w0 ws) (hF : Fr w0 ws P0 [] ws)  (r_1 : Bool) (h : spec_l1In.f a0 a1 a2 = some r_1) :
    Calls Try.prog 94 #[.int .i64 a0, .int .i64 a1, .int .i64 a2] ws (Post1 w0 ws P0 (fun (_ : Unit) => .bool r_1) (fun (_ : Unit) => [])) := by
  unfold spec_l1In.f at h
  refine enter Try.func94 rfl Try.ntmps94 rfl hF ?_
  refine c_seq ?_
  refine za0 ?_
  refine o_q rfl rfl (q_asg rfl) ?_
  refine o_end ?_
  refine za1 ?_
  refine c_seq ?_
  refine za0 ?_
  refine o_q rfl rfl (za2 rfl) ?_
  refine o_q rfl rfl (za2 rfl) ?_
  refine o_q rfl rfl (q_geq rfl rfl) ?_
  refine o_q rfl rfl (za2 rfl) ?_
  refine byB (decide (a1 ≤ a0)) (fun hb1 => ?_) (fun hb1 => ?_)
  · replace h := br_t hb1 h
    refine o_w (za4 rfl rfl rfl (congrArg Value.bool hb1)) rfl (za2 rfl) ?_
    refine o_w (za4 rfl rfl rfl (congrArg Value.bool hb1)) rfl (za2 rfl) ?_
    refine o_w (za4 rfl rfl rfl (congrArg Value.bool hb1)) rfl (q_leq rfl rfl) ?_
    refine o_q rfl rfl (zao true (congrArg Value.bool hb1) rfl) ?_
    refine o_q rfl rfl (q_asg rfl) ?_
    refine o_end ?_
    refine za1 ?_
    refine c_ret ?_
    have e0_ := Option.some.inj h; clear h
    subst e0_
    exact x_r1 () Try.results94 (zai rfl) rfl (fun w h => za7 [] (by decide) rfl w h)
  · replace h := br_f hb1 h
    refine @o_n _ _ _ _ _ _ _ _ _ _ _ 11 (za3 rfl rfl rfl (congrArg Value.bool hb1) rfl) (Eq.refl (some 11)) ?_
    refine @o_n _ _ _ _ _ _ _ _ _ _ _ 12 (za3 rfl rfl rfl (congrArg Value.bool hb1) rfl) (Eq.refl (some 12)) ?_
    refine @o_n _ _ _ _ _ _ _ _ _ _ _ 13 (za3 rfl rfl rfl (congrArg Value.bool hb1) rfl) (Eq.refl (some 13)) ?_
    refine o_q rfl rfl (zao false (congrArg Value.bool hb1) rfl) ?_
    refine o_q rfl rfl (q_asg rfl) ?_
    refine o_end ?_
    refine za1 ?_
    refine c_ret ?_
    have e0_ := Option.some.inj h; clear h
    subst e0_
    exact x_r1 () Try.results94 (zai rfl) rfl (fun w h => za7 [] (by decide) rfl w h)

/-! ### loop.example/g01098/spec.plSum: function 221 -/
def spec_plSum.l0 (l1 : List Int) : (List Int) → (List Int) → Int → Option (List Int)
  | [], l3, i6 => some l3
  | y7 :: ys8, l3, i6 => (gt l1 i6).bind fun y20 => (spec_l1Least.f (w64 (y7 + y20)) 1000001).bind fun i22 => (ap l3 ([i22] : List Int)).bind fun l26 => spec_plSum.l0 l1 ys8 l26 (i6 + 1)
def spec_plSum.f (l0 : List Int) (l1 : List Int) : Option (List Int) := (spec_plSum.l0 l1 l0 ([] : List Int) 0).bind fun l3 => some l3
set_option maxHeartbeats 600000 in
set_option maxRecDepth 100000 in
theorem spec_plSum.calls {w0 ws : World} {P0 : Nat → Prop} (A0 : Option Addr) (c0 : Nat) (n0 : Nat) (l0 : List Int) (A1 : Option Addr) (c1 : Nat) (n1 : Nat) (l1 : List Int) (Z : Below w0.heap.size w0 ws) (hF : Fr w0 ws P0 [] ws) (R0 : Stable ws P0 (fun w => Kd.C (Kd.int .i64) w A0 n0 l0)) (hc0 : n0 ≤ c0) (R1 : Stable ws P0 (fun w => Kd.C (Kd.int .i64) w A1 n1 l1)) (hc1 : n1 ≤ c1) (r_1 : List Int) (h : spec_plSum.f l0 l1 = some r_1) :
    Calls Try.prog 221 #[.slice A0 n0 c0, .slice A1 n1 c1] ws (Post1 w0 ws P0 (fun ((q_2, q_3) : (Option Addr) × Nat) => .slice q_2 r_1.length q_3) (fun ((q_2, q_3) : (Option Addr) × Nat) => [row (Kd.int .i64) 3 (.slice q_2 r_1.length q_3) r_1])) := by
  unfold spec_plSum.f at h
  obtain rfl := (R0 ws (KeptB.refl _ _)).1
  obtain rfl := (R1 ws (KeptB.refl _ _)).1
  refine enter Try.func221 rfl Try.ntmps221 rfl hF ?_
  refine c_seq ?_
  refine za0 ?_
  refine o_q rfl rfl (q_asg rfl) ?_
  refine o_end ?_
  refine za1 ?_
  refine c_seq ?_
  refine za0 ?_
  refine o_q rfl rfl (q_asg rfl) ?_
  refine o_end ?_
  refine za1 ?_
  refine c_seq ?_
  refine c_seq ?_
  refine za0 ?_
  refine o_q rfl rfl (za2 rfl) ?_
  refine o_q rfl rfl (q_len Try.underlying25 rfl) ?_
  refine o_q rfl rfl (za2 rfl) ?_
  refine o_end ?_
  refine za1 ?_
  refine zaj ?_
  refine c_nil (Kd.int .i64) 3 ?_
  refine za8 h (fun o14 hl13 hR12 => ?_) rfl
  clear h
  refine c_fact (p := l0.length ≤ 9223372036854775807) (fun w h => (R0.now Z h).2.1) (fun hm11 => ?_)
  refine c_loopL (σ := (List Int) × (List Int) × Int × (Option Addr) × Nat) (fun k9 ((ys8, l3, i6, A4, c5) : (List Int) × (List Int) × Int × (Option Addr) × Nat) => Rg l0 i6 ys8 ∧ ys8.length = k9 ∧ spec_plSum.l0 l1 ys8 l3 i6 = some o14) [5, 6, 9, 10, 11, 12, 13, 14, 15, 16, 17, 18, 19, 20, 21, 22, 23, 24, 25] (fun ((ys8, l3, i6, A4, c5) : (List Int) × (List Int) × Int × (Option Addr) × Nat) => [(5, .slice A4 l3.length c5), (9, .int .i64 i6)]) (fun ((ys8, l3, i6, A4, c5) : (List Int) × (List Int) × Int × (Option Addr) × Nat) => [row (Kd.int .i64) 3 (.slice A4 l3.length c5) l3]) l0.length (l0, ([] : List Int), 0, none, 0) ⟨Rg.start _, rfl, hl13⟩ ⟨rfl, rfl, trivial⟩ (fun w h => h) ?_
  refine fun k9 => cur5 (listC (fun l3 i6 A4 c5 U15 hJ_ => ?_) (fun y7 ys8 l3 i6 A4 c5 U15 hJ_ => ?_))
  · skip
    clear hl13
    have hr10 := hJ_.1; have hk16 := hJ_.2.1; have h := hJ_.2.2; clear hJ_
    replace h : spec_plSum.l0 l1 [] l3 i6 = some o14 := h
    rw [spec_plSum.l0] at h
    refine c_seq ?_
    refine za0 ?_
    refine o_q rfl rfl (q_lss rfl rfl) ?_
    refine o_end ?_
    refine za1 ?_
    refine c_seq ?_
    refine c_false (congrArg Value.bool hr10.ge) ?_
    refine c_exit ?_
    refine za9 ?_
    refine za9 ?_
    have e_ := Option.some.inj h; replace h := hR12; rw [← e_] at h; clear e_
    refine x_hit ?_
    refine za1 ?_
    refine c_seq ?_
    refine za0 ?_
    refine o_q rfl rfl (za2 rfl) ?_
    refine o_q rfl rfl (q_asg rfl) ?_
    refine o_end ?_
    refine za1 ?_
    refine c_ret ?_
    have e0_ := Option.some.inj h; clear h
    subst e0_
    exact x_r1 (A4, c5) Try.results221 (zai rfl) rfl (fun w h => za7 [0] (by decide) rfl w h)
  · skip
    clear hl13
    have hr10 := hJ_.1; have hk16 := hJ_.2.1; have h := hJ_.2.2; clear hJ_
    replace h : spec_plSum.l0 l1 (y7 :: ys8) l3 i6 = some o14 := h
    rw [spec_plSum.l0] at h
    refine c_seq ?_
    refine za0 ?_
    refine o_q rfl rfl (q_lss rfl rfl) ?_
    refine o_end ?_
    refine za1 ?_
    refine c_seq ?_
    refine c_true (congrArg Value.bool hr10.lt) ?_
    refine zan ?_
    refine za1 ?_
    refine c_seq ?_
    refine zaj ?_
    refine c_seq ?_
    refine za0 ?_
    refine o_q rfl rfl (za2 rfl) ?_
    refine o_q rfl rfl (q_asg rfl) ?_
    refine o_end ?_
    refine za1 ?_
    refine a_startS (ds := []) [none] MO rfl ?_
    refine za6 0 rfl rfl rfl (by kernel_rfl) (fun _ _ _ h => h) (za2 rfl) ?_
    refine za6 1 rfl rfl rfl (by kernel_rfl) (fun _ _ _ h => h) (za2 rfl) ?_
    refine za6 2 rfl rfl rfl (by kernel_rfl) (fun _ _ _ h => h) (za2 rfl) ?_
    refine a_fact (p := Sh A0 l0.length l0.length) (fun w h => f_sh (dk := (Kd.int .i64)) h (fun w h => R0.now Z h)) (fun hq17 => ?_)
    refine za6 3 rfl rfl rfl (by kernel_rfl) (fun _ _ _ h => h) (q_ix Try.underlying25 Z3 rfl rfl hq17 hr10.get) ?_
    refine zax 4 rfl rfl rfl (by kernel_rfl) (fun _ _ _ h => h) (fun w h => za5 [none] (by decide) w h rfl) (q_lde (off := 0) Y3 rfl rfl (fun w h => R0.now Z h) hr10.get (fun _ _ h => h) rfl) ?_
    refine za6 5 rfl rfl rfl (by kernel_rfl) (fun _ _ _ h => h) (za2 rfl) ?_
    refine za6 6 rfl rfl rfl (by kernel_rfl) (fun _ _ _ h => h) (za2 rfl) ?_
    refine a_fact (p := Sh A1 l1.length l1.length) (fun w h => f_sh (dk := (Kd.int .i64)) h (fun w h => R1.now Z h)) (fun hq18 => ?_)
    refine za8 h (fun y20 hg19 h => ?_) rfl
    refine za6 7 rfl rfl rfl (by kernel_rfl) (fun _ _ _ h => h) (q_ix Try.underlying25 Z3 rfl rfl hq18 hg19) ?_
    refine zax 8 rfl rfl rfl (by kernel_rfl) (fun _ _ _ h => h) (fun w h => za5 [none] (by decide) w h rfl) (q_lde (off := 0) Y3 rfl rfl (fun w h => R1.now Z h) hg19 (fun _ _ h => h) rfl) ?_
    refine za6 9 rfl rfl rfl (by kernel_rfl) (fun _ _ _ h => h) (q_add64 rfl rfl) ?_
    refine za8 h (fun i22 hx21 h => ?_) rfl
    refine a_one 10 rfl rfl (by kernel_rfl) rfl (zac 0 Z Try.func124 N124 rfl rfl rfl (fun w P1 hF hB hS hT => spec_l1Least.calls (w64 (y7 + y20)) 1000001 hB hF _ hx21)) (fun s w h => za5 [none] (by decide) w h rfl) (fun _ => ?_)
    refine a_one 11 rfl rfl (by kernel_rfl) rfl (e_lit (vs := [(0, .int .i64 i22)]) (cs := [.int .i64 i22]) (Kd.int .i64) ([i22] : List Int) Try.underlying25 I3 (by decide) rfl (by decide) rfl rfl (fun _ _ => Kd.zas _)) (fun s w h => za5 [none] (by decide) w h rfl) (cur2 (fun A23 c24 => ?_))
    refine za8 h (fun l26 ha27 h => ?_) rfl
    refine a_one 12 rfl rfl (by kernel_rfl) rfl (e_app (i := 1) (j := 0) Try.underlying25 I3 rfl (by decide) (by decide) rfl rfl rfl rfl rfl ha27) (fun s w h => za5 [none] (by decide) w h rfl) (cur2 (fun A28 c29 => ?_))
    refine za6 13 rfl rfl rfl (by kernel_rfl) (fun _ _ _ h => h) (q_asg rfl) ?_
    refine zav (by kernel_rfl) ?_
    refine zam ?_
    refine za1 ?_
    refine za0 ?_
    refine o_q rfl rfl (q_up rfl rfl (hr10.up hm11)) ?_
    refine o_q rfl rfl (za2 rfl) ?_
    refine o_end ?_
    refine zal ys8.length (ys8, l26, i6 + 1, A28, c29) (by rw [← hk16]; exact Nat.lt_succ_self _) ⟨hr10.step, rfl, h⟩ ⟨rfl, rfl, trivial⟩ (fun w h => za7 [1] (by decide) rfl w h) ?_
    repeat (first | exact zad _ _ | refine zaf rfl ?_ | refine zae rfl ?_ | refine zah rfl ?_)

/-! ### loop.example/g01098/spec.plExponents: function 183 -/
def spec_plExponents.l1 : (List SStep) → (List (List Int)) → Int → Option (List (List Int))
  | [], l39, i43 => some l39
  | y44 :: ys45, l39, i43 => (gt l39 y44.f0).bind fun y300 => (gt l39 y44.f1).bind fun y599 => (spec_plSum.f y300 y599).bind fun l719 => (ap l39 ([l719] : List (List Int))).bind fun l838 => spec_plExponents.l1 ys45 l838 (i43 + 1)
def spec_plExponents.l0 (a0_0 : Int) : Nat → (List (List Int)) → Int → Option (List (List Int))
  | 0, _, _ => none
  | k11 + 1, l4, i8 => if i8 < a0_0 then ((mk0 a0_0 (0 : Int)).bind fun l20 => (gt l20 i8).bind fun y27 => (st l20 i8 1).bind fun l28 => (ap l4 ([l28] : List (List Int))).bind fun l34 => spec_plExponents.l0 a0_0 k11 l34 (w64 (i8 + 1))) else (some l4)
def spec_plExponents.f (k : Nat) (a0_0 : Int) (l0_1 : List SStep) (l0_2 : List Int) : Option (List (List Int)) := (spec_plExponents.l0 a0_0 k ([] : List (List Int)) 0).bind fun l4 => (spec_plExponents.l1 l0_1 l4 0).bind fun l39 => some l39
set_option maxHeartbeats 600000 in
set_option maxRecDepth 100000 in
theorem spec_plExponents.calls (k : Nat) {w0 ws : World} {P0 : Nat → Prop} (a0_0 : Int) (A0_1 : Option Addr) (c0_1 : Nat) (n0_1 : Nat) (l0_1 : List SStep) (A0_2 : Option Addr) (c0_2 : Nat) (n0_2 : Nat) (l0_2 : List Int) (Z : Below w0.heap.size w0 ws) (hF : Fr w0 ws P0 [] ws) (R0_1 : Stable ws P0 (fun w => Kd.C kStep w A0_1 n0_1 l0_1)) (hc0_1 : n0_1 ≤ c0_1) (R0_2 : Stable ws P0 (fun w => Kd.C (Kd.int .i64) w A0_2 n0_2 l0_2)) (hc0_2 : n0_2 ≤ c0_2) (r_1 : List (List Int)) (h : spec_plExponents.f k a0_0 l0_1 l0_2 = some r_1) :
    Calls Try.prog 183 #[.agg #[.int .i64 a0_0, .slice A0_1 n0_1 c0_1, .slice A0_2 n0_2 c0_2]] ws (Post1 w0 ws P0 (fun ((q_2, q_3, q_4) : (Option Addr) × Nat × Hd) => .slice q_2 r_1.length q_3) (fun ((q_2, q_3, q_4) : (Option Addr) × Nat × Hd) => [row (gk 3 (Kd.int .i64)) 25 (.slice q_2 r_1.length q_3) (zp q_4 r_1)])) := by
  unfold spec_plExponents.f at h
  obtain rfl := (R0_1 ws (KeptB.refl _ _)).1
  obtain rfl := (R0_2 ws (KeptB.refl _ _)).1
  refine enter Try.func183 rfl Try.ntmps183 rfl hF ?_
  refine c_seq ?_
  refine za0 ?_
  refine o_e rfl (e_box rfl) (fun g1 => ?_)
  refine o_q rfl rfl (q_asg rfl) ?_
  refine o_end ?_
  refine za1 ?_
  refine c_seq ?_
  refine za0 ?_
  refine o_q rfl rfl (q_asg rfl) ?_
  refine o_end ?_
  refine za1 ?_
  refine c_seq ?_
  refine c_seq ?_
  refine za0 ?_
  refine o_q rfl rfl (q_asg rfl) ?_
  refine o_end ?_
  refine za1 ?_
  refine zaj ?_
  refine c_nil (gk 3 (Kd.int .i64)) 25 ?_
  refine za8 h (fun o16 hl15 hR14 => ?_) rfl
  clear h
  refine c_loopL (σ := (List (List Int)) × Int × (Option Addr) × Nat × Hd) (fun k11 ((l4, i8, A5, c6, H7) : (List (List Int)) × Int × (Option Addr) × Nat × Hd) => spec_plExponents.l0 a0_0 k11 l4 i8 = some o16) [3, 4, 5, 8, 9, 10, 11, 12, 13, 14, 15, 16, 17, 18, 19, 20, 21, 22, 23] (fun ((l4, i8, A5, c6, H7) : (List (List Int)) × Int × (Option Addr) × Nat × Hd) => [(3, .slice A5 l4.length c6), (4, .int .i64 i8)]) (fun ((l4, i8, A5, c6, H7) : (List (List Int)) × Int × (Option Addr) × Nat × Hd) => [row (gk 3 (Kd.int .i64)) 25 (.slice A5 l4.length c6) (zp H7 l4), box g1 27 #[.int .i64 a0_0, .slice A0_1 l0_1.length c0_1, .slice A0_2 l0_2.length c0_2]]) k (([] : List (List Int)), 0, none, 0, ([] : Hd)) hl15 ⟨rfl, rfl, trivial⟩ (fun w h => h) ?_
  refine natC (cur5 (fun l4 i8 A5 c6 H7 => fun U17 hJ_ => ?_)) (fun k11 => (cur5 (fun l4 i8 A5 c6 H7 => fun U17 hJ_ => ?_)))
  · skip
    replace hJ_ : spec_plExponents.l0 a0_0 0 l4 i8 = some o16 := hJ_
    rw [spec_plExponents.l0] at hJ_
    exact noneE hJ_
  · skip
    clear hl15
    have h := hJ_; clear hJ_
    replace h : spec_plExponents.l0 a0_0 (k11 + 1) l4 i8 = some o16 := h
    rw [spec_plExponents.l0] at h
    refine c_seq ?_
    refine c_seq ?_
    refine za0 ?_
    refine o_q rfl rfl (za2 rfl) ?_
    refine o_q rfl rfl (q_f F27_0 rfl) ?_
    refine o_q rfl rfl (q_ldb Y3 rfl (fun w h => h.zaa (i := 1) rfl) rfl) ?_
    refine o_q rfl rfl (q_lss rfl rfl) ?_
    refine o_end ?_
    refine za1 ?_
    refine zau _ rfl (fun hb19 => ?_) (fun hb19 => ?_)
    · skip
      replace h := br_t hb19 h
      refine zan ?_
      refine za1 ?_
      refine c_seq ?_
      refine zaj ?_
      refine c_seq ?_
      refine za0 ?_
      refine o_q rfl rfl (q_f F27_0 rfl) ?_
      refine o_q rfl rfl (q_ldb Y3 rfl (fun w h => h.zaa (i := 1) rfl) rfl) ?_
      refine za8 h (fun l20 hm21 h => ?_) rfl
      refine o_e rfl (e_make (Kd.int .i64) (0 : Int) Try.underlying25 I3 rfl (by decide) (by decide) (fun _ _ => rfl) rfl rfl hm21) (cur2 (fun A22 c23 => ?_))
      refine o_q rfl rfl (q_asg rfl) ?_
      refine o_end ?_
      refine za1 ?_
      refine c_seq ?_
      refine za0 ?_
      refine o_q rfl rfl (za2 rfl) ?_
      refine o_q rfl rfl (za2 rfl) ?_
      refine o_fact (p := Sh A22 l20.length l20.length) (fun w h => f_sh (dk := (Kd.int .i64)) h (fun w h => h.zay (i := 0) rfl)) (fun hq25 => ?_)
      refine za8 h (fun y27 hg26 h => ?_) rfl
      refine o_q rfl rfl (q_ix Try.underlying25 Z3 rfl rfl hq25 hg26) ?_
      refine za8 h (fun l28 hs29 h => ?_) rfl
      refine o_e rfl (e_set (i := 0) rfl rfl rfl Z3 hs29) (fun _ => ?_)
      refine o_end ?_
      refine za1 ?_
      refine za0 ?_
      refine o_q rfl rfl (za2 rfl) ?_
      refine o_q rfl rfl (za2 rfl) ?_
      refine o_e rfl (e_litG (j := 0) (ue := 3) (dk := (Kd.int .i64)) (ys := l28) Try.underlying60 I25 rfl rfl rfl) (cur3 (fun A30 c31 H33 => ?_))
      refine za8 h (fun l34 ha35 h => ?_) rfl
      refine o_e rfl (e_appG (i := 2) (j := 0) Try.underlying60 I25 rfl (by decide) rfl rfl rfl rfl rfl ha35) (cur3 (fun A36 c37 H38 => ?_))
      refine o_q rfl rfl (q_asg rfl) ?_
      refine o_end ?_
      refine zam ?_
      refine za1 ?_
      refine za0 ?_
      refine o_q rfl rfl (za2 rfl) ?_
      refine o_q rfl rfl (q_add64 rfl rfl) ?_
      refine o_q rfl rfl (q_asg rfl) ?_
      refine o_end ?_
      refine zal k11 (l34, w64 (i8 + 1), A36, c37, H38) (Nat.lt_succ_self _) h ⟨rfl, rfl, trivial⟩ (fun w h => za7 [2, 3] (by decide) rfl w h) ?_
      repeat (first | exact zad _ _ | refine zaf rfl ?_ | refine zae rfl ?_ | refine zah rfl ?_)
    · skip
      replace h := br_f hb19 h
      refine c_exit ?_
      refine za9 ?_
      refine za9 ?_
      have e_ := Option.some.inj h; replace h := hR14; rw [← e_] at h; clear e_
      refine x_hit ?_
      refine za1 ?_
      refine c_seq ?_
      refine c_seq ?_
      refine za0 ?_
      refine o_q rfl rfl (q_f F27_1 rfl) ?_
      refine o_q rfl rfl (q_ldb Y24 rfl (fun w h => h.zaa (i := 1) rfl) rfl) ?_
      refine o_q rfl rfl (q_len Try.underlying24 rfl) ?_
      refine o_q rfl rfl (za2 rfl) ?_
      refine o_end ?_
      refine za1 ?_
      refine zaj ?_
      refine za8 h (fun o51 hl50 hR49 => ?_) rfl
      clear h
      refine c_fact (p := l0_1.length ≤ 9223372036854775807) (fun w h => (R0_1.now Z h).2.1) (fun hm48 => ?_)
      refine c_loopL (σ := (List SStep) × (List (List Int)) × Int × (Option Addr) × Nat × Hd) (fun k46 ((ys45, l39, i43, A40, c41, H42) : (List SStep) × (List (List Int)) × Int × (Option Addr) × Nat × Hd) => Rg l0_1 i43 ys45 ∧ ys45.length = k46 ∧ spec_plExponents.l1 ys45 l39 i43 = some o51) [3, 7, 27, 28, 29, 30, 31, 32, 33, 34, 35, 36, 37, 38, 39, 40, 41, 42, 43, 44, 45] (fun ((ys45, l39, i43, A40, c41, H42) : (List SStep) × (List (List Int)) × Int × (Option Addr) × Nat × Hd) => [(3, .slice A40 l39.length c41), (27, .int .i64 i43)]) (fun ((ys45, l39, i43, A40, c41, H42) : (List SStep) × (List (List Int)) × Int × (Option Addr) × Nat × Hd) => [row (gk 3 (Kd.int .i64)) 25 (.slice A40 l39.length c41) (zp H42 l39), box g1 27 #[.int .i64 a0_0, .slice A0_1 l0_1.length c0_1, .slice A0_2 l0_2.length c0_2]]) l0_1.length (l0_1, l4, 0, A5, c6, H7) ⟨Rg.start _, rfl, hl50⟩ ⟨rfl, rfl, trivial⟩ (fun w h => h) ?_
      refine fun k46 => cur6 (listC (fun l39 i43 A40 c41 H42 U52 hJ_ => ?_) (fun y44 ys45 l39 i43 A40 c41 H42 U52 hJ_ => ?_))
      · skip
        clear hl50
        have hr47 := hJ_.1; have hk53 := hJ_.2.1; have h := hJ_.2.2; clear hJ_
        replace h : spec_plExponents.l1 [] l39 i43 = some o51 := h
        rw [spec_plExponents.l1] at h
        refine c_seq ?_
        refine za0 ?_
        refine o_q rfl rfl (q_lss rfl rfl) ?_
        refine o_end ?_
        refine za1 ?_
        refine c_seq ?_
        refine c_false (congrArg Value.bool hr47.ge) ?_
        refine c_exit ?_
        refine za9 ?_
        refine za9 ?_
        have e_ := Option.some.inj h; replace h := hR49; rw [← e_] at h; clear e_
        refine x_hit ?_
        refine za1 ?_
        refine c_seq ?_
        refine za0 ?_
        refine o_q rfl rfl (za2 rfl) ?_
        refine o_q rfl rfl (q_asg rfl) ?_
        refine o_end ?_
        refine za1 ?_
        refine c_ret ?_
        have e0_ := Option.some.inj h; clear h
        subst e0_
        exact x_r1 (A40, c41, H42) Try.results183 (zai rfl) rfl (fun w h => za7 [0] (by decide) rfl w h)
      · skip
        clear hl50
        have hr47 := hJ_.1; have hk53 := hJ_.2.1; have h := hJ_.2.2; clear hJ_
        replace h : spec_plExponents.l1 (y44 :: ys45) l39 i43 = some o51 := h
        rw [spec_plExponents.l1] at h
        refine c_seq ?_
        refine za0 ?_
        refine o_q rfl rfl (q_lss rfl rfl) ?_
        refine o_end ?_
        refine za1 ?_
        refine c_seq ?_
        refine c_true (congrArg Value.bool hr47.lt) ?_
        refine zan ?_
        refine za1 ?_
        refine c_seq ?_
        refine zaj ?_
        refine c_seq ?_
        refine za0 ?_
        refine o_fact (p := Sh A0_1 l0_1.length l0_1.length) (fun w h => f_sh (dk := kStep) h (fun w h => R0_1.now Z h)) (fun hq54 => ?_)
        refine o_q rfl rfl (q_ix Try.underlying24 Z89 rfl rfl hq54 hr47.get) ?_
        refine o_q rfl rfl (q_ldE G89 Z89 rfl rfl (fun w h => R0_1.now Z h) hr47.get (fun _ _ h => h) rfl) ?_
        refine o_e rfl (zaw V89 rfl) (fun g55 => ?_)
        refine o_e rfl (zak (i := 0) rfl rfl rfl Z89 rfl rfl) (fun _ => ?_)
        refine o_end ?_
        refine za1 ?_
        refine za8 h (fun y300 hg299 h => ?_) rfl
        refine za8 h (fun y599 hg598 h => ?_) rfl
        refine za8 h (fun l719 hx718 h => ?_) rfl
        refine za8 h (fun l838 ha839 h => ?_) rfl
        refine a_startS (ds := []) [some 0, none, some 2] MO rfl ?_
        refine za6 0 rfl rfl rfl (by kernel_rfl) (fun _ _ _ h => h) (za2 rfl) ?_
        refine za6 1 rfl rfl rfl (by kernel_rfl) (fun _ _ _ h => h) (za2 rfl) ?_
        refine za6 2 rfl rfl rfl (by kernel_rfl) (fun _ _ _ h => h) (q_f F89_0 rfl) ?_
        refine zax 3 rfl rfl rfl (by kernel_rfl) (fun _ _ _ h => h) (fun w h => za5 [some 0, none, some 2] (by decide) w h rfl) (q_ldb Y3 rfl (fun w h => h.zaa (i := 0) rfl) rfl) ?_
        refine a_fact (p := Sh A40 l39.length (zp H42 l39).length) (fun w h => f_sh (dk := (gk 3 (Kd.int .i64))) h (fun w h => h.zay (i := 1) rfl)) (fun hq298 => ?_)
        refine za6 4 rfl rfl rfl (by kernel_rfl) (fun _ _ _ h => h) (q_ix Try.underlying60 Z25 rfl rfl hq298 (gt_zp hg299)) ?_
        refine za6 6 rfl rfl rfl (by kernel_rfl) (fun _ _ _ h => h) (za2 rfl) ?_
        refine za6 7 rfl rfl rfl (by kernel_rfl) (fun _ _ _ h => h) (q_f F89_1 rfl) ?_
        refine zax 8 rfl rfl rfl (by kernel_rfl) (fun _ _ _ h => h) (fun w h => za5 [some 0, none, some 2] (by decide) w h rfl) (q_ldb Y3 rfl (fun w h => h.zaa (i := 0) rfl) rfl) ?_
        refine za6 9 rfl rfl rfl (by kernel_rfl) (fun _ _ _ h => h) (q_ix Try.underlying60 Z25 rfl rfl hq298 (gt_zp hg598)) ?_
        refine a_fact (p := y300.length ≤ hC H42 y44.f0) (fun w h => (K_in (h.zay (i := 1) rfl) hg299).1) (fun hc358 => ?_)
        refine a_fact (p := y599.length ≤ hC H42 y44.f1) (fun w h => (K_in (h.zay (i := 1) rfl) hg598).1) (fun hc658 => ?_)
        refine a_two 5 10 rfl rfl rfl rfl (by kernel_rfl) rfl rfl (ev_q rfl (q_lde (off := 0) Y25 rfl rfl (fun w h => h.zay (i := 1) rfl) (gt_zp hg299) (fun _ _ h => h.1) rfl)) (fun s w h => za5 [some 0, none, some 2] (by decide) w h rfl) (ev_q rfl (q_lde (off := 0) Y25 rfl rfl (fun w h => h.zay (i := 1) rfl) (gt_zp hg598) (fun _ _ h => h.1) rfl)) (fun s w h => za5 [some 0, none, some 2] (by decide) w h rfl) (fun _ => ?_) (fun _ => ?_)
        · skip
          refine a_fact (p := y599.length ≤ hC H42 y44.f1) (fun w h => (K_in (h.zay (i := 1) rfl) hg598).1) (fun hc658 => ?_)
          refine a_one 10 rfl rfl (by kernel_rfl) rfl (ev_q rfl (q_lde (off := 0) Y25 rfl rfl (fun w h => h.zay (i := 1) rfl) (gt_zp hg598) (fun _ _ h => h.1) rfl)) (fun s w h => za5 [some 0, none, some 2] (by decide) w h rfl) (fun _ => ?_)
          refine a_one 11 rfl rfl (by kernel_rfl) rfl (zac 0 Z Try.func221 N221 rfl rfl rfl (fun w P1 hF hB hS hT => spec_plSum.calls (hA H42 y44.f0) (hC H42 y44.f0) y300.length y300 (hA H42 y44.f1) (hC H42 y44.f1) y599.length y599 hB hF (stab_in (hT 1 _ rfl).row hg299) hc358 (stab_in (hT 1 _ rfl).row hg598) hc658 _ hx718)) (fun s w h => za5 [some 1, none, some 3] (by decide) w h rfl) (cur2 (fun A720 c721 => ?_))
          refine a_one 12 rfl rfl (by kernel_rfl) rfl (e_litG (j := 0) (ue := 3) (dk := (Kd.int .i64)) (ys := l719) Try.underlying60 I25 rfl rfl rfl) (fun s w h => za5 [some 2, none, some 4] (by decide) w h rfl) (cur3 (fun A778 c779 H781 => ?_))
          refine a_one 13 rfl rfl (by kernel_rfl) rfl (e_appG (i := 3) (j := 0) Try.underlying60 I25 rfl (by decide) rfl rfl rfl rfl rfl ha839) (fun s w h => za5 [some 2, none, some 4] (by decide) w h rfl) (cur3 (fun A840 c841 H842 => ?_))
          refine za6 14 rfl rfl rfl (by kernel_rfl) (fun _ _ _ h => h) (q_asg rfl) ?_
          refine zav (by kernel_rfl) ?_
          refine zam ?_
          refine za1 ?_
          refine za0 ?_
          refine o_q rfl rfl (q_up rfl rfl (hr47.up hm48)) ?_
          refine o_q rfl rfl (za2 rfl) ?_
          refine o_end ?_
          refine zal ys45.length (ys45, l838, i43 + 1, A840, c841, H842) (by rw [← hk53]; exact Nat.lt_succ_self _) ⟨hr47.step, rfl, h⟩ ⟨rfl, rfl, trivial⟩ (fun w h => za7 [3, 4] (by decide) rfl w h) ?_
          repeat (first | exact zad _ _ | refine zaf rfl ?_ | refine zae rfl ?_ | refine zah rfl ?_)
        · skip
          refine a_fact (p := y300.length ≤ hC H42 y44.f0) (fun w h => (K_in (h.zay (i := 1) rfl) hg299).1) (fun hc358 => ?_)
          refine a_one 5 rfl rfl (by kernel_rfl) rfl (ev_q rfl (q_lde (off := 0) Y25 rfl rfl (fun w h => h.zay (i := 1) rfl) (gt_zp hg299) (fun _ _ h => h.1) rfl)) (fun s w h => za5 [some 0, none, some 2] (by decide) w h rfl) (fun _ => ?_)
          refine a_one 11 rfl rfl (by kernel_rfl) rfl (zac 0 Z Try.func221 N221 rfl rfl rfl (fun w P1 hF hB hS hT => spec_plSum.calls (hA H42 y44.f0) (hC H42 y44.f0) y300.length y300 (hA H42 y44.f1) (hC H42 y44.f1) y599.length y599 hB hF (stab_in (hT 1 _ rfl).row hg299) hc358 (stab_in (hT 1 _ rfl).row hg598) hc658 _ hx718)) (fun s w h => za5 [some 1, none, some 3] (by decide) w h rfl) (cur2 (fun A720 c721 => ?_))
          refine a_one 12 rfl rfl (by kernel_rfl) rfl (e_litG (j := 0) (ue := 3) (dk := (Kd.int .i64)) (ys := l719) Try.underlying60 I25 rfl rfl rfl) (fun s w h => za5 [some 2, none, some 4] (by decide) w h rfl) (cur3 (fun A778 c779 H781 => ?_))
          refine a_one 13 rfl rfl (by kernel_rfl) rfl (e_appG (i := 3) (j := 0) Try.underlying60 I25 rfl (by decide) rfl rfl rfl rfl rfl ha839) (fun s w h => za5 [some 2, none, some 4] (by decide) w h rfl) (cur3 (fun A840 c841 H842 => ?_))
          refine za6 14 rfl rfl rfl (by kernel_rfl) (fun _ _ _ h => h) (q_asg rfl) ?_
          refine zav (by kernel_rfl) ?_
          refine zam ?_
          refine za1 ?_
          refine za0 ?_
          refine o_q rfl rfl (q_up rfl rfl (hr47.up hm48)) ?_
          refine o_q rfl rfl (za2 rfl) ?_
          refine o_end ?_
          refine zal ys45.length (ys45, l838, i43 + 1, A840, c841, H842) (by rw [← hk53]; exact Nat.lt_succ_self _) ⟨hr47.step, rfl, h⟩ ⟨rfl, rfl, trivial⟩ (fun w h => za7 [3, 4] (by decide) rfl w h) ?_
          repeat (first | exact zad _ _ | refine zaf rfl ?_ | refine zae rfl ?_ | refine zah rfl ?_)

/-! ### loop.example/g01098/spec.l1All: function 133 -/
def spec_l1All.l0 (a1 : Int) (a2 : Int) : (List Int) → Int → Option ((Bool) ⊕ (Unit))
  | [], i1 => some (.inr ())
  | y2 :: ys3, i1 => (spec_l1In.f y2 a1 a2).bind fun b14 => if b14 = true then (spec_l1All.l0 a1 a2 ys3 (i1 + 1)) else (some (.inl false))
def spec_l1All.f (l0 : List Int) (a1 : Int) (a2 : Int) : Option Bool := (spec_l1All.l0 a1 a2 l0 0).bind fun o_ => match o_ with | .inl r_ => some r_ | .inr _ => some true
set_option maxHeartbeats 600000 in
set_option maxRecDepth 100000 in
theorem spec_l1All.calls {w0 ws : World} {P0 : Nat → Prop} (A0 : Option Addr) (c0 : Nat) (n0 : Nat) (l0 : List Int) (a1 : Int) (a2 : Int) (Z : Below w0.heap.size w0 ws) (hF : Fr w0 ws P0 [] ws) (R0 : Stable ws P0 (fun w => Kd.C (Kd.int .i64) w A0 n0 l0)) (hc0 : n0 ≤ c0) (r_1 : Bool) (h : spec_l1All.f l0 a1 a2 = some r_1) :
    Calls Try.prog 133 #[.slice A0 n0 c0, .int .i64 a1, .int .i64 a2] ws (Post1 w0 ws P0 (fun (_ : Unit) => .bool r_1) (fun (_ : Unit) => [])) := by
  unfold spec_l1All.f at h
  obtain rfl := (R0 ws (KeptB.refl _ _)).1
  refine enter Try.func133 rfl Try.ntmps133 rfl hF ?_
  refine c_seq ?_
  refine za0 ?_
  refine o_q rfl rfl (q_asg rfl) ?_
  refine o_end ?_
  refine za1 ?_
  refine c_seq ?_
  refine c_seq ?_
  refine za0 ?_
  refine o_q rfl rfl (za2 rfl) ?_
  refine o_q rfl rfl (q_len Try.underlying25 rfl) ?_
  refine o_q rfl rfl (za2 rfl) ?_
  refine o_end ?_
  refine za1 ?_
  refine zaj ?_
  refine za8 h (fun o9 hl8 hR7 => ?_) rfl
  clear h
  refine c_fact (p := l0.length ≤ 9223372036854775807) (fun w h => (R0.now Z h).2.1) (fun hm6 => ?_)
  refine c_loopL (σ := (List Int) × Int) (fun k4 ((ys3, i1) : (List Int) × Int) => Rg l0 i1 ys3 ∧ ys3.length = k4 ∧ spec_l1All.l0 a1 a2 ys3 i1 = some o9) [6, 8, 11, 12, 13, 14, 15, 16, 17, 18, 19, 20] (fun ((ys3, i1) : (List Int) × Int) => [(11, .int .i64 i1)]) (fun ((ys3, i1) : (List Int) × Int) => []) l0.length (l0, 0) ⟨Rg.start _, rfl, hl8⟩ ⟨rfl, trivial⟩ (fun w h => h) ?_
  refine fun k4 => cur2 (listC (fun i1 U10 hJ_ => ?_) (fun y2 ys3 i1 U10 hJ_ => ?_))
  · skip
    clear hl8
    have hr5 := hJ_.1; have hk11 := hJ_.2.1; have h := hJ_.2.2; clear hJ_
    replace h : spec_l1All.l0 a1 a2 [] i1 = some o9 := h
    rw [spec_l1All.l0] at h
    refine c_seq ?_
    refine za0 ?_
    refine o_q rfl rfl (q_lss rfl rfl) ?_
    refine o_end ?_
    refine za1 ?_
    refine c_seq ?_
    refine c_false (congrArg Value.bool hr5.ge) ?_
    refine c_exit ?_
    refine za9 ?_
    refine za9 ?_
    have e_ := Option.some.inj h; replace h := hR7; rw [← e_] at h; clear e_
    refine x_hit ?_
    refine za1 ?_
    refine c_seq ?_
    refine za0 ?_
    refine o_q rfl rfl (q_asg rfl) ?_
    refine o_end ?_
    refine za1 ?_
    refine c_ret ?_
    have e0_ := Option.some.inj h; clear h
    subst e0_
    exact x_r1 () Try.results133 (zai rfl) rfl (fun w h => za7 [] (by decide) rfl w h)
  · skip
    clear hl8
    have hr5 := hJ_.1; have hk11 := hJ_.2.1; have h := hJ_.2.2; clear hJ_
    replace h : spec_l1All.l0 a1 a2 (y2 :: ys3) i1 = some o9 := h
    rw [spec_l1All.l0] at h
    refine c_seq ?_
    refine za0 ?_
    refine o_q rfl rfl (q_lss rfl rfl) ?_
    refine o_end ?_
    refine za1 ?_
    refine c_seq ?_
    refine c_true (congrArg Value.bool hr5.lt) ?_
    refine zan ?_
    refine za1 ?_
    refine c_seq ?_
    refine zaj ?_
    refine c_seq ?_
    refine za0 ?_
    refine o_fact (p := Sh A0 l0.length l0.length) (fun w h => f_sh (dk := (Kd.int .i64)) h (fun w h => R0.now Z h)) (fun hq12 => ?_)
    refine o_q rfl rfl (q_ix Try.underlying25 Z3 rfl rfl hq12 hr5.get) ?_
    refine o_q rfl rfl (q_lde (off := 0) Y3 rfl rfl (fun w h => R0.now Z h) hr5.get (fun _ _ h => h) rfl) ?_
    refine o_q rfl rfl (q_asg rfl) ?_
    refine o_end ?_
    refine za1 ?_
    refine c_seq ?_
    refine za0 ?_
    refine o_q rfl rfl (za2 rfl) ?_
    refine o_q rfl rfl (za2 rfl) ?_
    refine o_q rfl rfl (za2 rfl) ?_
    refine za8 h (fun b14 hx13 h => ?_) rfl
    refine o_e rfl (zac 0 Z Try.func94 N94 rfl rfl rfl (fun w P1 hF hB hS hT => spec_l1In.calls y2 a1 a2 hB hF _ hx13)) (fun _ => ?_)
    refine o_q rfl rfl (q_not rfl) ?_
    refine o_end ?_
    refine za1 ?_
    refine zau _ rfl (fun hb15 => ?_) (fun hb15 => ?_)
    · replace hb15 := nt_t hb15
      replace h := bb_f hb15 h
      refine c_seq ?_
      refine za0 ?_
      refine o_q rfl rfl (q_asg rfl) ?_
      refine o_end ?_
      refine za1 ?_
      refine c_ret ?_
      refine zar ?_
      refine zab ?_
      refine zab ?_
      have e_ := Option.some.inj h; replace h := hR7; rw [← e_] at h; clear e_
      refine zar ?_
      refine zab ?_
      have e0_ := Option.some.inj h; clear h
      subst e0_
      exact x_r1 () Try.results133 (zai rfl) rfl (fun w h => za7 [] (by decide) rfl w h)
    · replace hb15 := nt_f hb15
      replace h := bb_t hb15 h
      refine zan ?_
      refine zam ?_
      refine za1 ?_
      refine za0 ?_
      refine o_q rfl rfl (q_up rfl rfl (hr5.up hm6)) ?_
      refine o_q rfl rfl (za2 rfl) ?_
      refine o_end ?_
      refine zal ys3.length (ys3, i1 + 1) (by rw [← hk11]; exact Nat.lt_succ_self _) ⟨hr5.step, rfl, h⟩ ⟨rfl, trivial⟩ (fun w h => za7 [] (by decide) rfl w h) ?_
      repeat (first | exact zad _ _ | refine zaf rfl ?_ | refine zae rfl ?_ | refine zah rfl ?_)

/-! ### loop.example/g01098/spec.plGood: function 93 -/
def spec_plGood.l1 : (List (List Int)) → Int → Option ((Bool) ⊕ (Unit))
  | [], i24 => some (.inr ())
  | y25 :: ys26, i24 => (spec_l1All.f y25 0 1000000).bind fun b40 => if b40 = true then (spec_plGood.l1 ys26 (i24 + 1)) else (some (.inl false))
def spec_plGood.l0 (a0_0 : Int) : (List SStep) → Int → Option ((Bool) ⊕ (Unit))
  | [], i8 => some (.inr ())
  | y9 :: ys10, i8 => (spec_l1In.f y9.f0 0 y9.f1).bind fun b46 => if b46 = true then (if w64 (a0_0 + i8) ≤ y9.f1 then (some (.inl false)) else (spec_plGood.l0 a0_0 ys10 (i8 + 1))) else (some (.inl false))
def spec_plGood.f (k : Nat) (a0_0 : Int) (l0_1 : List SStep) (l0_2 : List Int) : Option Bool := (spec_l1In.f a0_0 1 6).bind fun b4 => if b4 = true then (if 40 < (l0_1.length : Int) then (some false) else (if 6 < (l0_2.length : Int) then (some false) else ((spec_plGood.l0 a0_0 l0_1 0).bind fun o_ => match o_ with | .inl r_ => some r_ | .inr _ => (spec_plExponents.f k a0_0 l0_1 l0_2).bind fun l20 => (spec_plGood.l1 l20 0).bind fun o_ => match o_ with | .inl r_ => some r_ | .inr _ => (spec_l1All.f l0_2 0 (w64 (w64 (a0_0 + (l0_1.length : Int)) - 1))).bind fun b36 => some b36))) else (some false)
set_option maxHeartbeats 600000 in
set_option maxRecDepth 100000 in
theorem spec_plGood.calls (k : Nat) {w0 ws : World} {P0 : Nat → Prop} (a0_0 : Int) (A0_1 : Option Addr) (c0_1 : Nat) (n0_1 : Nat) (l0_1 : List SStep) (A0_2 : Option Addr) (c0_2 : Nat) (n0_2 : Nat) (l0_2 : List Int) (Z : Below w0.heap.size w0 ws) (hF : Fr w0 ws P0 [] ws) (R0_1 : Stable ws P0 (fun w => Kd.C kStep w A0_1 n0_1 l0_1)) (hc0_1 : n0_1 ≤ c0_1) (R0_2 : Stable ws P0 (fun w => Kd.C (Kd.int .i64) w A0_2 n0_2 l0_2)) (hc0_2 : n0_2 ≤ c0_2) (r_1 : Bool) (h : spec_plGood.f k a0_0 l0_1 l0_2 = some r_1) :
    Calls Try.prog 93 #[.agg #[.int .i64 a0_0, .slice A0_1 n0_1 c0_1, .slice A0_2 n0_2 c0_2]] ws (Post1 w0 ws P0 (fun (_ : Unit) => .bool r_1) (fun (_ : Unit) => [])) := by
  unfold spec_plGood.f at h
  obtain rfl := (R0_1 ws (KeptB.refl _ _)).1
  obtain rfl := (R0_2 ws (KeptB.refl _ _)).1
  refine enter Try.func93 rfl Try.ntmps93 rfl hF ?_
  refine c_seq ?_
  refine za0 ?_
  refine o_e rfl (e_box rfl) (fun g1 => ?_)
  refine o_q rfl rfl (q_asg rfl) ?_
  refine o_end ?_
  refine za1 ?_
  refine c_seq ?_
  refine c_seq ?_
  refine za0 ?_
  refine o_q rfl rfl (q_f F27_0 rfl) ?_
  refine o_q rfl rfl (q_ldb Y3 rfl (fun w h => h.zaa (i := 0) rfl) rfl) ?_
  refine za8 h (fun b4 hx3 h => ?_) rfl
  refine o_e rfl (zac 0 Z Try.func94 N94 rfl rfl rfl (fun w P1 hF hB hS hT => spec_l1In.calls a0_0 1 6 hB hF _ hx3)) (fun _ => ?_)
  refine o_q rfl rfl (q_not rfl) ?_
  refine o_q rfl rfl (za2 rfl) ?_
  refine byB b4 (fun hb5 => ?_) (fun hb5 => ?_)
  · replace h := bb_t hb5 h
    refine o_w (za4 rfl rfl rfl (congrArg (fun b => Value.bool (!(b))) hb5)) rfl (q_f F27_1 rfl) ?_
    refine o_w (za4 rfl rfl rfl (congrArg (fun b => Value.bool (!(b))) hb5)) rfl (q_ldb Y24 rfl (fun w h => h.zaa (i := 0) rfl) rfl) ?_
    refine o_w (za4 rfl rfl rfl (congrArg (fun b => Value.bool (!(b))) hb5)) rfl (q_len Try.underlying24 rfl) ?_
    refine o_w (za4 rfl rfl rfl (congrArg (fun b => Value.bool (!(b))) hb5)) rfl (q_gtr rfl rfl) ?_
    refine o_q rfl rfl (zao false (congrArg (fun b => Value.bool (!(b))) hb5) rfl) ?_
    refine o_q rfl rfl (za2 rfl) ?_
    refine byB (decide (40 < (l0_1.length : Int))) (fun hb6 => ?_) (fun hb6 => ?_)
    · replace h := br_t hb6 h
      refine @o_n _ _ _ _ _ _ _ _ _ _ _ 18 (za3 rfl rfl rfl (congrArg Value.bool hb6) rfl) (Eq.refl (some 18)) ?_
      refine @o_n _ _ _ _ _ _ _ _ _ _ _ 19 (za3 rfl rfl rfl (congrArg Value.bool hb6) rfl) (Eq.refl (some 19)) ?_
      refine @o_n _ _ _ _ _ _ _ _ _ _ _ 20 (za3 rfl rfl rfl (congrArg Value.bool hb6) rfl) (Eq.refl (some 20)) ?_
      refine @o_n _ _ _ _ _ _ _ _ _ _ _ 21 (za3 rfl rfl rfl (congrArg Value.bool hb6) rfl) (Eq.refl (some 21)) ?_
      refine o_q rfl rfl (zao true (congrArg Value.bool hb6) rfl) ?_
      refine o_end ?_
      refine za1 ?_
      refine c_true rfl ?_
      refine c_seq ?_
      refine za0 ?_
      refine o_q rfl rfl (q_asg rfl) ?_
      refine o_end ?_
      refine za1 ?_
      refine c_ret ?_
      refine zab ?_
      have e0_ := Option.some.inj h; clear h
      subst e0_
      exact x_r1 () Try.results93 (zai rfl) rfl (fun w h => za7 [] (by decide) rfl w h)
    · replace h := br_f hb6 h
      refine o_w (za4 rfl rfl rfl (congrArg Value.bool hb6)) rfl (q_f F27_2 rfl) ?_
      refine o_w (za4 rfl rfl rfl (congrArg Value.bool hb6)) rfl (q_ldb Y25 rfl (fun w h => h.zaa (i := 0) rfl) rfl) ?_
      refine o_w (za4 rfl rfl rfl (congrArg Value.bool hb6)) rfl (q_len Try.underlying25 rfl) ?_
      refine o_w (za4 rfl rfl rfl (congrArg Value.bool hb6)) rfl (q_gtr rfl rfl) ?_
      refine o_q rfl rfl (zao false (congrArg Value.bool hb6) rfl) ?_
      refine o_end ?_
      refine za1 ?_
      refine zau _ rfl (fun hb7 => ?_) (fun hb7 => ?_)
      · skip
        replace h := br_t hb7 h
        refine c_seq ?_
        refine za0 ?_
        refine o_q rfl rfl (q_asg rfl) ?_
        refine o_end ?_
        refine za1 ?_
        refine c_ret ?_
        refine zab ?_
        have e0_ := Option.some.inj h; clear h
        subst e0_
        exact x_r1 () Try.results93 (zai rfl) rfl (fun w h => za7 [] (by decide) rfl w h)
      · skip
        replace h := br_f hb7 h
        refine zan ?_
        refine za1 ?_
        refine c_seq ?_
        refine c_seq ?_
        refine za0 ?_
        refine o_q rfl rfl (q_f F27_1 rfl) ?_
        refine o_q rfl rfl (q_ldb Y24 rfl (fun w h => h.zaa (i := 0) rfl) rfl) ?_
        refine o_q rfl rfl (q_len Try.underlying24 rfl) ?_
        refine o_q rfl rfl (za2 rfl) ?_
        refine o_end ?_
        refine za1 ?_
        refine zaj ?_
        refine za8 h (fun o16 hl15 hR14 => ?_) rfl
        clear h
        refine c_fact (p := l0_1.length ≤ 9223372036854775807) (fun w h => (R0_1.now Z h).2.1) (fun hm13 => ?_)
        refine c_loopL (σ := (List SStep) × Int) (fun k11 ((ys10, i8) : (List SStep) × Int) => Rg l0_1 i8 ys10 ∧ ys10.length = k11 ∧ spec_plGood.l0 a0_0 ys10 i8 = some o16) [2, 3, 4, 26, 27, 28, 29, 30, 31, 32, 33, 34, 35, 36, 37, 38, 39, 40, 41, 42, 43, 44, 45, 46] (fun ((ys10, i8) : (List SStep) × Int) => [(26, .int .i64 i8)]) (fun ((ys10, i8) : (List SStep) × Int) => [box g1 27 #[.int .i64 a0_0, .slice A0_1 l0_1.length c0_1, .slice A0_2 l0_2.length c0_2]]) l0_1.length (l0_1, 0) ⟨Rg.start _, rfl, hl15⟩ ⟨rfl, trivial⟩ (fun w h => h) ?_
        refine fun k11 => cur2 (listC (fun i8 U17 hJ_ => ?_) (fun y9 ys10 i8 U17 hJ_ => ?_))
        · skip
          clear hl15
          have hr12 := hJ_.1; have hk18 := hJ_.2.1; have h := hJ_.2.2; clear hJ_
          replace h : spec_plGood.l0 a0_0 [] i8 = some o16 := h
          rw [spec_plGood.l0] at h
          refine c_seq ?_
          refine za0 ?_
          refine o_q rfl rfl (q_lss rfl rfl) ?_
          refine o_end ?_
          refine za1 ?_
          refine c_seq ?_
          refine c_false (congrArg Value.bool hr12.ge) ?_
          refine c_exit ?_
          refine za9 ?_
          refine za9 ?_
          have e_ := Option.some.inj h; replace h := hR14; rw [← e_] at h; clear e_
          refine x_hit ?_
          refine za1 ?_
          refine c_seq ?_
          refine c_seq ?_
          refine za0 ?_
          refine o_q rfl rfl (q_ldB G27 Z27 rfl (fun w h => h.zaa (i := 0) rfl) rfl) ?_
          refine za8 h (fun l20 hx19 h => ?_) rfl
          refine o_e rfl (zac 0 Z Try.func183 N183 rfl rfl rfl (fun w P1 hF hB hS hT => spec_plExponents.calls k a0_0 A0_1 c0_1 l0_1.length l0_1 A0_2 c0_2 l0_2.length l0_2 hB hF (hS _ R0_1) hc0_1 (hS _ R0_2) hc0_2 _ hx19)) (cur3 (fun A21 c22 H23 => ?_))
          refine o_q rfl rfl (q_len Try.underlying60 rfl) ?_
          refine o_q rfl rfl (za2 rfl) ?_
          refine o_end ?_
          refine za1 ?_
          refine zaj ?_
          refine za8 h (fun o32 hl31 hR30 => ?_) rfl
          clear h
          refine c_fact (p := l20.length ≤ 9223372036854775807) (fun w h => (h.zay (i := 0) rfl).2.1) (fun hm29 => ?_)
          refine c_loopL (σ := (List (List Int)) × Int) (fun k27 ((ys26, i24) : (List (List Int)) × Int) => Rg l20 i24 ys26 ∧ ys26.length = k27 ∧ spec_plGood.l1 ys26 i24 = some o32) [2, 6, 50, 51, 52, 53, 54, 55, 56, 57] (fun ((ys26, i24) : (List (List Int)) × Int) => [(50, .int .i64 i24)]) (fun ((ys26, i24) : (List (List Int)) × Int) => [row (gk 3 (Kd.int .i64)) 25 (.slice A21 l20.length c22) (zp H23 l20), box g1 27 #[.int .i64 a0_0, .slice A0_1 l0_1.length c0_1, .slice A0_2 l0_2.length c0_2]]) l20.length (l20, 0) ⟨Rg.start _, rfl, hl31⟩ ⟨rfl, trivial⟩ (fun w h => h) ?_
          refine fun k27 => cur2 (listC (fun i24 U33 hJ_ => ?_) (fun y25 ys26 i24 U33 hJ_ => ?_))
          · skip
            clear hl31
            have hr28 := hJ_.1; have hk34 := hJ_.2.1; have h := hJ_.2.2; clear hJ_
            replace h : spec_plGood.l1 [] i24 = some o32 := h
            rw [spec_plGood.l1] at h
            refine c_seq ?_
            refine za0 ?_
            refine o_q rfl rfl (q_lss rfl rfl) ?_
            refine o_end ?_
            refine za1 ?_
            refine c_seq ?_
            refine c_false (congrArg Value.bool hr28.ge) ?_
            refine c_exit ?_
            refine za9 ?_
            refine za9 ?_
            have e_ := Option.some.inj h; replace h := hR30; rw [← e_] at h; clear e_
            refine x_hit ?_
            refine za1 ?_
            refine c_seq ?_
            refine za0 ?_
            refine o_q rfl rfl (q_f F27_2 rfl) ?_
            refine o_q rfl rfl (q_ldb Y25 rfl (fun w h => h.zaa (i := 1) rfl) rfl) ?_
            refine o_q rfl rfl (q_f F27_0 rfl) ?_
            refine o_q rfl rfl (q_ldb Y3 rfl (fun w h => h.zaa (i := 1) rfl) rfl) ?_
            refine o_q rfl rfl (q_f F27_1 rfl) ?_
            refine o_q rfl rfl (q_ldb Y24 rfl (fun w h => h.zaa (i := 1) rfl) rfl) ?_
            refine o_q rfl rfl (q_len Try.underlying24 rfl) ?_
            refine o_q rfl rfl (q_add64 rfl rfl) ?_
            refine o_q rfl rfl (q_sub64 rfl rfl) ?_
            refine za8 h (fun b36 hx35 h => ?_) rfl
            refine o_e rfl (zac 0 Z Try.func133 N133 rfl rfl rfl (fun w P1 hF hB hS hT => spec_l1All.calls A0_2 c0_2 l0_2.length l0_2 0 (w64 (w64 (a0_0 + (l0_1.length : Int)) - 1)) hB hF (hS _ R0_2) hc0_2 _ hx35)) (fun _ => ?_)
            refine o_q rfl rfl (q_asg rfl) ?_
            refine o_end ?_
            refine za1 ?_
            refine c_ret ?_
            have e0_ := Option.some.inj h; clear h
            subst e0_
            exact x_r1 () Try.results93 (zai rfl) rfl (fun w h => za7 [] (by decide) rfl w h)
          · skip
            clear hl31
            have hr28 := hJ_.1; have hk34 := hJ_.2.1; have h := hJ_.2.2; clear hJ_
            replace h : spec_plGood.l1 (y25 :: ys26) i24 = some o32 := h
            rw [spec_plGood.l1] at h
            refine c_seq ?_
            refine za0 ?_
            refine o_q rfl rfl (q_lss rfl rfl) ?_
            refine o_end ?_
            refine za1 ?_
            refine c_seq ?_
            refine c_true (congrArg Value.bool hr28.lt) ?_
            refine zan ?_
            refine za1 ?_
            refine c_seq ?_
            refine zaj ?_
            refine c_seq ?_
            refine za0 ?_
            refine o_fact (p := Sh A21 l20.length (zp H23 l20).length) (fun w h => f_sh (dk := (gk 3 (Kd.int .i64))) h (fun w h => h.zay (i := 0) rfl)) (fun hq37 => ?_)
            refine o_q rfl rfl (q_ix Try.underlying60 Z25 rfl rfl hq37 (gt_zp hr28.get)) ?_
            refine o_fact (p := y25.length ≤ hC H23 i24) (fun w h => (K_in (h.zay (i := 0) rfl) hr28.get).1) (fun hc38 => ?_)
            refine o_q rfl rfl (q_lde (off := 0) Y25 rfl rfl (fun w h => h.zay (i := 0) rfl) (gt_zp hr28.get) (fun _ _ h => h.1) rfl) ?_
            refine o_q rfl rfl (q_asg rfl) ?_
            refine o_end ?_
            refine za1 ?_
            refine c_seq ?_
            refine za0 ?_
            refine o_q rfl rfl (za2 rfl) ?_
            refine za8 h (fun b40 hx39 h => ?_) rfl
            refine o_e rfl (zac 0 Z Try.func133 N133 rfl rfl rfl (fun w P1 hF hB hS hT => spec_l1All.calls (hA H23 i24) (hC H23 i24) y25.length y25 0 1000000 hB hF (stab_in (hT 0 _ rfl).row hr28.get) hc38 _ hx39)) (fun _ => ?_)
            refine o_q rfl rfl (q_not rfl) ?_
            refine o_end ?_
            refine za1 ?_
            refine zau _ rfl (fun hb41 => ?_) (fun hb41 => ?_)
            · replace hb41 := nt_t hb41
              replace h := bb_f hb41 h
              refine c_seq ?_
              refine za0 ?_
              refine o_q rfl rfl (q_asg rfl) ?_
              refine o_end ?_
              refine za1 ?_
              refine c_ret ?_
              refine zar ?_
              refine zab ?_
              refine zab ?_
              have e_ := Option.some.inj h; replace h := hR30; rw [← e_] at h; clear e_
              refine zar ?_
              refine zab ?_
              have e0_ := Option.some.inj h; clear h
              subst e0_
              exact x_r1 () Try.results93 (zai rfl) rfl (fun w h => za7 [] (by decide) rfl w h)
            · replace hb41 := nt_f hb41
              replace h := bb_t hb41 h
              refine zan ?_
              refine zam ?_
              refine za1 ?_
              refine za0 ?_
              refine o_q rfl rfl (q_up rfl rfl (hr28.up hm29)) ?_
              refine o_q rfl rfl (za2 rfl) ?_
              refine o_end ?_
              refine zal ys26.length (ys26, i24 + 1) (by rw [← hk34]; exact Nat.lt_succ_self _) ⟨hr28.step, rfl, h⟩ ⟨rfl, trivial⟩ (fun w h => za7 [0, 1] (by decide) rfl w h) ?_
              repeat (first | exact zad _ _ | refine zaf rfl ?_ | refine zae rfl ?_ | refine zah rfl ?_)
        · skip
          clear hl15
          have hr12 := hJ_.1; have hk18 := hJ_.2.1; have h := hJ_.2.2; clear hJ_
          replace h : spec_plGood.l0 a0_0 (y9 :: ys10) i8 = some o16 := h
          rw [spec_plGood.l0] at h
          refine c_seq ?_
          refine za0 ?_
          refine o_q rfl rfl (q_lss rfl rfl) ?_
          refine o_end ?_
          refine za1 ?_
          refine c_seq ?_
          refine c_true (congrArg Value.bool hr12.lt) ?_
          refine zan ?_
          refine za1 ?_
          refine c_seq ?_
          refine zaj ?_
          refine c_seq ?_
          refine za0 ?_
          refine o_q rfl rfl (za2 rfl) ?_
          refine o_fact (p := Sh A0_1 l0_1.length l0_1.length) (fun w h => f_sh (dk := kStep) h (fun w h => R0_1.now Z h)) (fun hq42 => ?_)
          refine o_q rfl rfl (q_ix Try.underlying24 Z89 rfl rfl hq42 hr12.get) ?_
          refine o_q rfl rfl (q_ldE G89 Z89 rfl rfl (fun w h => R0_1.now Z h) hr12.get (fun _ _ h => h) rfl) ?_
          refine o_e rfl (zaw V89 rfl) (fun g43 => ?_)
          refine o_q rfl rfl (q_asg rfl) ?_
          refine o_e rfl (zak (i := 0) rfl rfl rfl Z89 rfl rfl) (fun _ => ?_)
          refine o_end ?_
          refine za1 ?_
          refine c_seq ?_
          refine za0 ?_
          refine o_q rfl rfl (q_f F89_0 rfl) ?_
          refine o_q rfl rfl (q_ldb Y3 rfl (fun w h => h.zaa (i := 0) rfl) rfl) ?_
          refine o_q rfl rfl (q_f F89_1 rfl) ?_
          refine o_q rfl rfl (q_ldb Y3 rfl (fun w h => h.zaa (i := 0) rfl) rfl) ?_
          refine za8 h (fun b46 hx45 h => ?_) rfl
          refine o_e rfl (zac 0 Z Try.func94 N94 rfl rfl rfl (fun w P1 hF hB hS hT => spec_l1In.calls y9.f0 0 y9.f1 hB hF _ hx45)) (fun _ => ?_)
          refine o_q rfl rfl (q_not rfl) ?_
          refine o_q rfl rfl (za2 rfl) ?_
          refine byB b46 (fun hb47 => ?_) (fun hb47 => ?_)
          · replace h := bb_t hb47 h
            refine o_w (za4 rfl rfl rfl (congrArg (fun b => Value.bool (!(b))) hb47)) rfl (q_f F89_1 rfl) ?_
            refine o_w (za4 rfl rfl rfl (congrArg (fun b => Value.bool (!(b))) hb47)) rfl (q_ldb Y3 rfl (fun w h => h.zaa (i := 0) rfl) rfl) ?_
            refine o_w (za4 rfl rfl rfl (congrArg (fun b => Value.bool (!(b))) hb47)) rfl (q_f F27_0 rfl) ?_
            refine o_w (za4 rfl rfl rfl (congrArg (fun b => Value.bool (!(b))) hb47)) rfl (q_ldb Y3 rfl (fun w h => h.zaa (i := 1) rfl) rfl) ?_
            refine o_w (za4 rfl rfl rfl (congrArg (fun b => Value.bool (!(b))) hb47)) rfl (za2 rfl) ?_
            refine o_w (za4 rfl rfl rfl (congrArg (fun b => Value.bool (!(b))) hb47)) rfl (q_add64 rfl rfl) ?_
            refine o_w (za4 rfl rfl rfl (congrArg (fun b => Value.bool (!(b))) hb47)) rfl (q_geq rfl rfl) ?_
            refine o_q rfl rfl (zao false (congrArg (fun b => Value.bool (!(b))) hb47) rfl) ?_
            refine o_end ?_
            refine za1 ?_
            refine zau _ rfl (fun hb48 => ?_) (fun hb48 => ?_)
            · skip
              replace h := br_t hb48 h
              refine c_seq ?_
              refine za0 ?_
              refine o_q rfl rfl (q_asg rfl) ?_
              refine o_end ?_
              refine za1 ?_
              refine c_ret ?_
              refine zar ?_
              refine zab ?_
              refine zab ?_
              have e_ := Option.some.inj h; replace h := hR14; rw [← e_] at h; clear e_
              refine zar ?_
              refine zab ?_
              have e0_ := Option.some.inj h; clear h
              subst e0_
              exact x_r1 () Try.results93 (zai rfl) rfl (fun w h => za7 [] (by decide) rfl w h)
            · skip
              replace h := br_f hb48 h
              refine zan ?_
              refine zam ?_
              refine za1 ?_
              refine za0 ?_
              refine o_q rfl rfl (q_up rfl rfl (hr12.up hm13)) ?_
              refine o_q rfl rfl (za2 rfl) ?_
              refine o_end ?_
              refine zal ys10.length (ys10, i8 + 1) (by rw [← hk18]; exact Nat.lt_succ_self _) ⟨hr12.step, rfl, h⟩ ⟨rfl, trivial⟩ (fun w h => za7 [1] (by decide) rfl w h) ?_
              repeat (first | exact zad _ _ | refine zaf rfl ?_ | refine zae rfl ?_ | refine zah rfl ?_)
          · replace h := bb_f hb47 h
            refine @o_n _ _ _ _ _ _ _ _ _ _ _ 38 (za3 rfl rfl rfl (congrArg (fun b => Value.bool (!(b))) hb47) rfl) (Eq.refl (some 38)) ?_
            refine @o_n _ _ _ _ _ _ _ _ _ _ _ 39 (za3 rfl rfl rfl (congrArg (fun b => Value.bool (!(b))) hb47) rfl) (Eq.refl (some 39)) ?_
            refine @o_n _ _ _ _ _ _ _ _ _ _ _ 40 (za3 rfl rfl rfl (congrArg (fun b => Value.bool (!(b))) hb47) rfl) (Eq.refl (some 40)) ?_
            refine @o_n _ _ _ _ _ _ _ _ _ _ _ 41 (za3 rfl rfl rfl (congrArg (fun b => Value.bool (!(b))) hb47) rfl) (Eq.refl (some 41)) ?_
            refine @o_n _ _ _ _ _ _ _ _ _ _ _ 42 (za3 rfl rfl rfl (congrArg (fun b => Value.bool (!(b))) hb47) rfl) (Eq.refl (some 42)) ?_
            refine @o_n _ _ _ _ _ _ _ _ _ _ _ 43 (za3 rfl rfl rfl (congrArg (fun b => Value.bool (!(b))) hb47) rfl) (Eq.refl (some 43)) ?_
            refine @o_n _ _ _ _ _ _ _ _ _ _ _ 44 (za3 rfl rfl rfl (congrArg (fun b => Value.bool (!(b))) hb47) rfl) (Eq.refl (some 44)) ?_
            refine o_q rfl rfl (zao true (congrArg (fun b => Value.bool (!(b))) hb47) rfl) ?_
            refine o_end ?_
            refine za1 ?_
            refine c_true rfl ?_
            refine c_seq ?_
            refine za0 ?_
            refine o_q rfl rfl (q_asg rfl) ?_
            refine o_end ?_
            refine za1 ?_
            refine c_ret ?_
            refine zar ?_
            refine zab ?_
            refine zab ?_
            have e_ := Option.some.inj h; replace h := hR14; rw [← e_] at h; clear e_
            refine zar ?_
            refine zab ?_
            have e0_ := Option.some.inj h; clear h
            subst e0_
            exact x_r1 () Try.results93 (zai rfl) rfl (fun w h => za7 [] (by decide) rfl w h)
  · replace h := bb_f hb5 h
    refine @o_n _ _ _ _ _ _ _ _ _ _ _ 12 (za3 rfl rfl rfl (congrArg (fun b => Value.bool (!(b))) hb5) rfl) (Eq.refl (some 12)) ?_
    refine @o_n _ _ _ _ _ _ _ _ _ _ _ 13 (za3 rfl rfl rfl (congrArg (fun b => Value.bool (!(b))) hb5) rfl) (Eq.refl (some 13)) ?_
    refine @o_n _ _ _ _ _ _ _ _ _ _ _ 14 (za3 rfl rfl rfl (congrArg (fun b => Value.bool (!(b))) hb5) rfl) (Eq.refl (some 14)) ?_
    refine @o_n _ _ _ _ _ _ _ _ _ _ _ 15 (za3 rfl rfl rfl (congrArg (fun b => Value.bool (!(b))) hb5) rfl) (Eq.refl (some 15)) ?_
    refine o_q rfl rfl (zao true (congrArg (fun b => Value.bool (!(b))) hb5) rfl) ?_
    refine o_q rfl rfl (za2 rfl) ?_
    refine @o_n _ _ _ _ _ _ _ _ _ _ _ 18 (za3 rfl rfl rfl rfl rfl) (Eq.refl (some 18)) ?_
    refine @o_n _ _ _ _ _ _ _ _ _ _ _ 19 (za3 rfl rfl rfl rfl rfl) (Eq.refl (some 19)) ?_
    refine @o_n _ _ _ _ _ _ _ _ _ _ _ 20 (za3 rfl rfl rfl rfl rfl) (Eq.refl (some 20)) ?_
    refine @o_n _ _ _ _ _ _ _ _ _ _ _ 21 (za3 rfl rfl rfl rfl rfl) (Eq.refl (some 21)) ?_
    refine o_q rfl rfl (zao true rfl rfl) ?_
    refine o_end ?_
    refine za1 ?_
    refine c_true rfl ?_
    refine c_seq ?_
    refine za0 ?_
    refine o_q rfl rfl (q_asg rfl) ?_
    refine o_end ?_
    refine za1 ?_
    refine c_ret ?_
    refine zab ?_
    have e0_ := Option.some.inj h; clear h
    subst e0_
    exact x_r1 () Try.results93 (zai rfl) rfl (fun w h => za7 [] (by decide) rfl w h)

/-! ### loop.example/g01098/spec.l1Put: function 184 -/
def spec_l1Put.l0 (l0 : List Int) (a1 : Int) : Nat → Int → Option Int
  | 0, _ => none
  | k26 + 1, i23 => if i23 < (l0.length : Int) then ((gt l0 i23).bind fun y37 => if y37 < a1 then (spec_l1Put.l0 l0 a1 k26 (w64 (i23 + 1))) else (some i23)) else (some i23)
def spec_l1Put.f (k : Nat) (l0 : List Int) (a1 : Int) : Option (List Int) := ((spec_l1Put.l0 l0 a1 k 0)).bind fun i17 => (if i17 < (l0.length : Int) then ((gt l0 i17).bind fun y52 => if y52 = a1 then (some (.inl l0)) else (some (.inr ()))) else (some (.inr ())) : Option (((List Int)) ⊕ (Unit))).bind fun o_ => match o_ with | .inl r_ => some r_ | .inr _ => (ct l0 (0 : Int) i17).bind fun l57 => (ap ([] : List Int) l57).bind fun l60 => (ap l60 ([a1] : List Int)).bind fun l67 => (ct l0 i17 (l0.length : Int)).bind fun l71 => (ap l67 l71).bind fun l74 => some l74
set_option maxHeartbeats 600000 in
set_option maxRecDepth 100000 in
theorem spec_l1Put.calls (k : Nat) {w0 ws : World} {P0 : Nat → Prop} (A0 : Option Addr) (c0 : Nat) (n0 : Nat) (l0 : List Int) (a1 : Int) (Z : Below w0.heap.size w0 ws) (hF : Fr w0 ws P0 [row (Kd.int .i64) 3 (.slice A0 n0 c0) l0] ws)  (r_1 : List Int) (h : spec_l1Put.f k l0 a1 = some r_1) :
    Calls Try.prog 184 #[.slice A0 n0 c0, .int .i64 a1] ws (Post1 w0 ws P0 (fun ((q_2, q_3) : (Option Addr) × Nat) => .slice q_2 r_1.length q_3) (fun ((q_2, q_3) : (Option Addr) × Nat) => [row (Kd.int .i64) 3 (.slice q_2 r_1.length q_3) r_1])) := by
  unfold spec_l1Put.f at h
  obtain rfl := (hF.row_C (i := 0) rfl).2.1
  refine enter Try.func184 rfl Try.ntmps184 rfl hF ?_
  refine c_seq ?_
  refine za0 ?_
  refine o_q rfl rfl (q_asg rfl) ?_
  refine o_end ?_
  refine za1 ?_
  refine c_seq ?_
  refine za0 ?_
  refine o_q rfl rfl (q_asg rfl) ?_
  refine o_end ?_
  refine za1 ?_
  refine za8 h (fun o18 hl19 hR20 => ?_) rfl
  clear h
  refine c_cutJ (σ := Int) (fun i17 => some i17 = some o18) [5, 7, 8, 9, 10, 11, 12, 13, 14, 15, 16, 17, 18, 19, 20] (fun i17 => [(5, .int .i64 i17)]) (fun i17 => [row (Kd.int .i64) 3 (.slice A0 l0.length c0) l0]) ?_ ?_
  · skip
    have h := hl19; clear hl19
    clear hR20
    refine zaj ?_
    have hl30 := h; clear h
    refine c_loopL (σ := Int) (fun k26 (i23 : Int) => spec_l1Put.l0 l0 a1 k26 i23 = some o18) [5, 7, 8, 9, 10, 11, 12, 13, 14, 15, 16, 17, 18, 19, 20] (fun (i23 : Int) => [(5, .int .i64 i23)]) (fun (i23 : Int) => [row (Kd.int .i64) 3 (.slice A0 l0.length c0) l0]) k 0 hl30 ⟨rfl, trivial⟩ (fun w h => h) ?_
    refine natC (fun i23 => fun U32 hJ_ => ?_) (fun k26 => (fun i23 => fun U32 hJ_ => ?_))
    · skip
      replace hJ_ : spec_l1Put.l0 l0 a1 0 i23 = some o18 := hJ_
      rw [spec_l1Put.l0] at hJ_
      exact noneE hJ_
    · skip
      clear hl30
      have h := hJ_; clear hJ_
      replace h : spec_l1Put.l0 l0 a1 (k26 + 1) i23 = some o18 := h
      rw [spec_l1Put.l0] at h
      refine c_seq ?_
      refine c_seq ?_
      refine za0 ?_
      refine o_q rfl rfl (za2 rfl) ?_
      refine o_q rfl rfl (za2 rfl) ?_
      refine o_q rfl rfl (q_len Try.underlying25 rfl) ?_
      refine o_q rfl rfl (q_lss rfl rfl) ?_
      refine o_q rfl rfl (za2 rfl) ?_
      refine byB (decide (i23 < (l0.length : Int))) (fun hb34 => ?_) (fun hb34 => ?_)
      · replace h := br_t hb34 h
        refine o_w (za4 rfl rfl rfl (congrArg Value.bool hb34)) rfl (za2 rfl) ?_
        refine o_w (za4 rfl rfl rfl (congrArg Value.bool hb34)) rfl (za2 rfl) ?_
        refine o_fact (p := Sh A0 l0.length l0.length) (fun w h => f_sh (dk := (Kd.int .i64)) h (fun w h => h.zay (i := 0) rfl)) (fun hq35 => ?_)
        refine za8 h (fun y37 hg36 h => ?_) rfl
        refine o_w (za4 rfl rfl rfl (congrArg Value.bool hb34)) rfl (q_ix Try.underlying25 Z3 rfl rfl hq35 hg36) ?_
        refine o_w (za4 rfl rfl rfl (congrArg Value.bool hb34)) rfl (q_lde (off := 0) Y3 rfl rfl (fun w h => h.zay (i := 0) rfl) hg36 (fun _ _ h => h) rfl) ?_
        refine o_w (za4 rfl rfl rfl (congrArg Value.bool hb34)) rfl (za2 rfl) ?_
        refine o_w (za4 rfl rfl rfl (congrArg Value.bool hb34)) rfl (q_lss rfl rfl) ?_
        refine o_q rfl rfl (zao true (congrArg Value.bool hb34) rfl) ?_
        refine o_end ?_
        refine za1 ?_
        refine zau _ rfl (fun hb38 => ?_) (fun hb38 => ?_)
        · skip
          replace h := br_t hb38 h
          refine zan ?_
          refine za1 ?_
          refine zaj ?_
          refine za0 ?_
          refine o_q rfl rfl (za2 rfl) ?_
          refine o_q rfl rfl (q_add64 rfl rfl) ?_
          refine o_q rfl rfl (q_asg rfl) ?_
          refine o_end ?_
          refine zam ?_
          refine zal k26 (w64 (i23 + 1)) (Nat.lt_succ_self _) h ⟨rfl, trivial⟩ (fun w h => za7 [0] (by decide) rfl w h) ?_
          repeat (first | exact zad _ _ | refine zaf rfl ?_ | refine zae rfl ?_ | refine zah rfl ?_)
        · skip
          replace h := br_f hb38 h
          refine c_exit ?_
          refine za9 ?_
          refine za9 ?_
          refine x_hit ?_
          refine zat i23 h ⟨rfl, trivial⟩ (fun w h => za7 [0] (by decide) rfl w h) ?_
          repeat (first | exact zad _ _ | refine zaf rfl ?_ | refine zae rfl ?_ | refine zah rfl ?_)
      · replace h := br_f hb34 h
        refine @o_n _ _ _ _ _ _ _ _ _ _ _ 12 (za3 rfl rfl rfl (congrArg Value.bool hb34) rfl) (Eq.refl (some 12)) ?_
        refine @o_n _ _ _ _ _ _ _ _ _ _ _ 13 (za3 rfl rfl rfl (congrArg Value.bool hb34) rfl) (Eq.refl (some 13)) ?_
        refine @o_n _ _ _ _ _ _ _ _ _ _ _ 14 (za3 rfl rfl rfl (congrArg Value.bool hb34) rfl) (Eq.refl (some 14)) ?_
        refine @o_n _ _ _ _ _ _ _ _ _ _ _ 15 (za3 rfl rfl rfl (congrArg Value.bool hb34) rfl) (Eq.refl (some 15)) ?_
        refine @o_n _ _ _ _ _ _ _ _ _ _ _ 16 (za3 rfl rfl rfl (congrArg Value.bool hb34) rfl) (Eq.refl (some 16)) ?_
        refine @o_n _ _ _ _ _ _ _ _ _ _ _ 17 (za3 rfl rfl rfl (congrArg Value.bool hb34) rfl) (Eq.refl (some 17)) ?_
        refine o_q rfl rfl (zao false (congrArg Value.bool hb34) rfl) ?_
        refine o_end ?_
        refine za1 ?_
        refine c_false rfl ?_
        refine c_exit ?_
        refine za9 ?_
        refine za9 ?_
        refine x_hit ?_
        refine zat i23 h ⟨rfl, trivial⟩ (fun w h => za7 [0] (by decide) rfl w h) ?_
        repeat (first | exact zad _ _ | refine zaf rfl ?_ | refine zae rfl ?_ | refine zah rfl ?_)
  · skip
    refine (fun i17 => fun U21 hJ22 => ?_)
    have e_ := Option.some.inj hJ22; have h := hR20; rw [← e_] at h; clear e_ hJ22 hR20 hl19
    refine za8 h (fun o44 hl45 hR46 => ?_) rfl
    clear h
    refine c_cutJ (σ := Unit) (fun _ => some (.inr ()) = some o44) [4, 21, 22, 23, 24, 25, 26, 27, 28, 29, 30, 31, 32, 33] (fun _ => []) (fun _ => [row (Kd.int .i64) 3 (.slice A0 l0.length c0) l0]) ?_ ?_
    · skip
      have h := hl45; clear hl45
      refine c_seq ?_
      refine za0 ?_
      refine o_q rfl rfl (za2 rfl) ?_
      refine o_q rfl rfl (za2 rfl) ?_
      refine o_q rfl rfl (q_len Try.underlying25 rfl) ?_
      refine o_q rfl rfl (q_lss rfl rfl) ?_
      refine o_q rfl rfl (za2 rfl) ?_
      refine byB (decide (i17 < (l0.length : Int))) (fun hb49 => ?_) (fun hb49 => ?_)
      · replace h := br_t hb49 h
        refine o_w (za4 rfl rfl rfl (congrArg Value.bool hb49)) rfl (za2 rfl) ?_
        refine o_w (za4 rfl rfl rfl (congrArg Value.bool hb49)) rfl (za2 rfl) ?_
        refine o_fact (p := Sh A0 l0.length l0.length) (fun w h => f_sh (dk := (Kd.int .i64)) h (fun w h => h.zay (i := 0) rfl)) (fun hq50 => ?_)
        refine za8 h (fun y52 hg51 h => ?_) rfl
        refine o_w (za4 rfl rfl rfl (congrArg Value.bool hb49)) rfl (q_ix Try.underlying25 Z3 rfl rfl hq50 hg51) ?_
        refine o_w (za4 rfl rfl rfl (congrArg Value.bool hb49)) rfl (q_lde (off := 0) Y3 rfl rfl (fun w h => h.zay (i := 0) rfl) hg51 (fun _ _ h => h) rfl) ?_
        refine o_w (za4 rfl rfl rfl (congrArg Value.bool hb49)) rfl (za2 rfl) ?_
        refine o_w (za4 rfl rfl rfl (congrArg Value.bool hb49)) rfl (q_eql rfl rfl) ?_
        refine o_q rfl rfl (zao true (congrArg Value.bool hb49) rfl) ?_
        refine o_end ?_
        refine za1 ?_
        refine zau _ rfl (fun hb53 => ?_) (fun hb53 => ?_)
        · skip
          replace h := br_t hb53 h
          refine c_seq ?_
          refine za0 ?_
          refine o_q rfl rfl (za2 rfl) ?_
          refine o_q rfl rfl (q_asg rfl) ?_
          refine o_end ?_
          refine za1 ?_
          refine c_ret ?_
          refine zab ?_
          have e_ := Option.some.inj h; replace h := hR46; rw [← e_] at h; clear e_
          have e0_ := Option.some.inj h; clear h
          subst e0_
          exact x_r1 (A0, c0) Try.results184 (zai rfl) rfl (fun w h => za7 [0] (by decide) rfl w h)
        · skip
          replace h := br_f hb53 h
          refine zan ?_
          refine zat () h trivial (fun w h => za7 [0] (by decide) rfl w h) ?_
          repeat (first | exact zad _ _ | refine zaf rfl ?_ | refine zae rfl ?_ | refine zah rfl ?_)
      · replace h := br_f hb49 h
        refine @o_n _ _ _ _ _ _ _ _ _ _ _ 26 (za3 rfl rfl rfl (congrArg Value.bool hb49) rfl) (Eq.refl (some 26)) ?_
        refine @o_n _ _ _ _ _ _ _ _ _ _ _ 27 (za3 rfl rfl rfl (congrArg Value.bool hb49) rfl) (Eq.refl (some 27)) ?_
        refine @o_n _ _ _ _ _ _ _ _ _ _ _ 28 (za3 rfl rfl rfl (congrArg Value.bool hb49) rfl) (Eq.refl (some 28)) ?_
        refine @o_n _ _ _ _ _ _ _ _ _ _ _ 29 (za3 rfl rfl rfl (congrArg Value.bool hb49) rfl) (Eq.refl (some 29)) ?_
        refine @o_n _ _ _ _ _ _ _ _ _ _ _ 30 (za3 rfl rfl rfl (congrArg Value.bool hb49) rfl) (Eq.refl (some 30)) ?_
        refine @o_n _ _ _ _ _ _ _ _ _ _ _ 31 (za3 rfl rfl rfl (congrArg Value.bool hb49) rfl) (Eq.refl (some 31)) ?_
        refine o_q rfl rfl (zao false (congrArg Value.bool hb49) rfl) ?_
        refine o_end ?_
        refine za1 ?_
        refine c_false rfl ?_
        refine zan ?_
        refine zat () h trivial (fun w h => za7 [0] (by decide) rfl w h) ?_
        repeat (first | exact zad _ _ | refine zaf rfl ?_ | refine zae rfl ?_ | refine zah rfl ?_)
    · skip
      refine (fun _ => fun U47 hJ48 => ?_)
      have e_ := Option.some.inj hJ48; have h := hR46; rw [← e_] at h; clear e_ hJ48 hR46 hl45
      refine c_seq ?_
      refine za0 ?_
      refine o_e rfl (e_lit0 (Kd.int .i64) Try.underlying25 I3) (cur2 (fun A54 c55 => ?_))
      refine o_q rfl rfl (za2 rfl) ?_
      refine o_q rfl rfl (za2 rfl) ?_
      refine za8 h (fun l57 hz58 h => ?_) rfl
      refine o_fact (p := l0.length = l0.length ∧ l0.length ≤ c0) (fun w h => h.row_nc (i := 1) rfl) (fun hk59 => ?_)
      refine o_q rfl rfl (q_ctv Try.underlying25 Z3 rfl rfl ⟨_, rfl⟩ hk59.1 hk59.2 hz58) ?_
      refine za8 h (fun l60 ha61 h => ?_) rfl
      refine o_e rfl (e_appr (i := 0) Try.underlying25 I3 rfl (by decide) (by decide) (fun _ _ _ _ h => h) rfl (fun w h => C_cut (dk := (Kd.int .i64)) rfl hz58 hk59.2 (h.zay (i := 1) rfl)) rfl rfl ha61) (cur2 (fun A62 c63 => ?_))
      refine o_q rfl rfl (q_asg rfl) ?_
      refine o_end ?_
      refine za1 ?_
      refine c_seq ?_
      refine za0 ?_
      refine o_q rfl rfl (za2 rfl) ?_
      refine o_q rfl rfl (za2 rfl) ?_
      refine o_e rfl (e_lit (vs := [(0, .int .i64 a1)]) (cs := [.int .i64 a1]) (Kd.int .i64) ([a1] : List Int) Try.underlying25 I3 (by decide) rfl (by decide) rfl rfl (fun _ _ => Kd.zas _)) (cur2 (fun A64 c65 => ?_))
      refine za8 h (fun l67 ha68 h => ?_) rfl
      refine o_e rfl (e_app (i := 1) (j := 0) Try.underlying25 I3 rfl (by decide) (by decide) rfl rfl rfl rfl rfl ha68) (cur2 (fun A69 c70 => ?_))
      refine o_q rfl rfl (q_asg rfl) ?_
      refine o_end ?_
      refine za1 ?_
      refine c_seq ?_
      refine za0 ?_
      refine o_q rfl rfl (za2 rfl) ?_
      refine o_q rfl rfl (za2 rfl) ?_
      refine o_q rfl rfl (za2 rfl) ?_
      refine za8 h (fun l71 hz72 h => ?_) rfl
      refine o_fact (p := l0.length = l0.length ∧ l0.length ≤ c0) (fun w h => h.row_nc (i := 2) rfl) (fun hk73 => ?_)
      refine o_q rfl rfl (q_ctv Try.underlying25 Z3 rfl ⟨_, rfl⟩ rfl hk73.1 hk73.2 hz72) ?_
      refine za8 h (fun l74 ha75 h => ?_) rfl
      refine o_e rfl (e_appr (i := 1) Try.underlying25 I3 rfl (by decide) (by decide) (fun _ _ _ _ h => h) rfl (fun w h => C_cut (dk := (Kd.int .i64)) rfl hz72 hk73.2 (h.zay (i := 2) rfl)) rfl rfl ha75) (cur2 (fun A76 c77 => ?_))
      refine o_q rfl rfl (q_asg rfl) ?_
      refine o_end ?_
      refine za1 ?_
      refine c_ret ?_
      have e0_ := Option.some.inj h; clear h
      subst e0_
      exact x_r1 (A76, c77) Try.results184 (zai rfl) rfl (fun w h => za7 [1] (by decide) rfl w h)

end Go.Proofs.Ytoegbcbdiggbjaa.SP
