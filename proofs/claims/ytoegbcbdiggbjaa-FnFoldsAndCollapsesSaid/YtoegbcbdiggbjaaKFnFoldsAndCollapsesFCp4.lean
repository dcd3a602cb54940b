import Derived.Test.YtoegbcbdiggbjaaKFnFoldsAndCollapsesFCp3
namespace Go.Proofs.Ytoegbcbdiggbjaa.FC
open Go.RowKit Go.Proofs.Ytoegbcbdiggbjaa.Frame Go.Proofs.YtoegbcbdiggbjaaW.PrintLast Go.Proofs.Ytoegbcbdiggbjaa.Hand
open Go.Proofs.YtoegbcbdiggbjaaW.PrintWords hiding mn mx
set_option linter.unusedVariables false
/-! ### loop.example/g01098/spec.plThen: function 104 -/
def spec_plThen.l1 (l14 : List Int) : (List Int) → (List Int) → Int → Option (List Int)
  | [], l32, i35 => some l32
  | y36 :: ys37, l32, i35 => (gt l14 y36).bind fun y49 => (ap l32 ([y49] : List Int)).bind fun l53 => spec_plThen.l1 l14 ys37 l53 (i35 + 1)
def spec_plThen.l0 (a1 : Int) : (List SStep) → (List Int) → (List SStep) → Int → Option ((List Int) × (List SStep))
  | [], l14, l17, i20 => some (l14, l17)
  | y21 :: ys22, l14, l17, i20 => (gt l14 y21.f0).bind fun y62 => (gt l14 y21.f1).bind fun y64 => (spec_plStep.f y62 y64).bind fun z66 => (ap l17 ([z66] : List SStep)).bind fun l70 => (ap l14 ([w64 (w64 (a1 + (l70.length : Int)) - 1)] : List Int)).bind fun l77 => spec_plThen.l0 a1 ys22 l77 l70 (i20 + 1)
def spec_plThen.f (l0 : List SStep) (a1 : Int) (a2_0 : Int) (l2_1 : List SStep) (l2_2 : List Int) (l3 : List Int) : Option ((List SStep) × (List Int)) := (spec_l1Own.f l3).bind fun l4 => (ap ([] : List SStep) l0).bind fun l10 => (spec_plThen.l0 a1 l2_1 l4 l10 0).bind fun (l14, l17) => (spec_plThen.l1 l14 l2_2 ([] : List Int) 0).bind fun l32 => some (l17, l32)
set_option maxHeartbeats 600000 in
set_option maxRecDepth 100000 in
theorem spec_plThen.calls {w0 ws : World} {P0 : Nat → Prop} (A0 : Option Addr) (c0 : Nat) (n0 : Nat) (l0 : List SStep) (a1 : Int) (a2_0 : Int) (A2_1 : Option Addr) (c2_1 : Nat) (n2_1 : Nat) (l2_1 : List SStep) (A2_2 : Option Addr) (c2_2 : Nat) (n2_2 : Nat) (l2_2 : List Int) (A3 : Option Addr) (c3 : Nat) (n3 : Nat) (l3 : List Int) (Z : Below w0.heap.size w0 ws) (hF : Fr w0 ws P0 [] ws) (R0 : Stable ws P0 (fun w => Kd.C kStep w A0 n0 l0)) (hc0 : n0 ≤ c0) (R2_1 : Stable ws P0 (fun w => Kd.C kStep w A2_1 n2_1 l2_1)) (hc2_1 : n2_1 ≤ c2_1) (R2_2 : Stable ws P0 (fun w => Kd.C (Kd.int .i64) w A2_2 n2_2 l2_2)) (hc2_2 : n2_2 ≤ c2_2) (R3 : Stable ws P0 (fun w => Kd.C (Kd.int .i64) w A3 n3 l3)) (hc3 : n3 ≤ c3) (r_1 : List SStep) (r_4 : List Int) (h : spec_plThen.f l0 a1 a2_0 l2_1 l2_2 l3 = some (r_1, r_4)) :
    Calls Try.prog 104 #[.slice A0 n0 c0, .int .i64 a1, .agg #[.int .i64 a2_0, .slice A2_1 n2_1 c2_1, .slice A2_2 n2_2 c2_2], .slice A3 n3 c3] ws (Post1 w0 ws P0 (fun ((q_2, q_3, q_5, q_6) : (Option Addr) × Nat × (Option Addr) × Nat) => .tuple #[.slice q_2 r_1.length q_3, .slice q_5 r_4.length q_6]) (fun ((q_2, q_3, q_5, q_6) : (Option Addr) × Nat × (Option Addr) × Nat) => [row kStep 89 (.slice q_2 r_1.length q_3) r_1, row (Kd.int .i64) 3 (.slice q_5 r_4.length q_6) r_4])) := by
  unfold spec_plThen.f at h
  obtain rfl := (R0 ws (KeptB.refl _ _)).1
  obtain rfl := (R2_1 ws (KeptB.refl _ _)).1
  obtain rfl := (R2_2 ws (KeptB.refl _ _)).1
  obtain rfl := (R3 ws (KeptB.refl _ _)).1
  refine enter Try.func104 rfl Try.ntmps104 rfl hF ?_
  refine c_seq ?_
  refine za0 ?_
  refine o_e rfl (e_box rfl) (fun g1 => ?_)
  refine o_q rfl rfl (q_asg rfl) ?_
  refine o_q rfl rfl (q_asg rfl) ?_
  refine o_end ?_
  refine za1 ?_
  refine c_seq ?_
  refine za0 ?_
  refine o_q rfl rfl (za2 rfl) ?_
  refine za8 h (fun l4 hx3 h => ?_) rfl
  refine o_e rfl (zac 0 Z Try.func96 N96 rfl rfl rfl (fun w P1 hF hB hS hT => spec_l1Own.calls A3 c3 l3.length l3 hB hF (hS _ R3) hc3 _ hx3)) (cur2 (fun A5 c6 => ?_))
  refine o_q rfl rfl (q_asg rfl) ?_
  refine o_end ?_
  refine za1 ?_
  refine c_seq ?_
  refine za0 ?_
  refine o_e rfl (e_lit0 kStep Try.underlying24 I89) (cur2 (fun A7 c8 => ?_))
  refine o_q rfl rfl (za2 rfl) ?_
  refine za8 h (fun l10 ha11 h => ?_) rfl
  refine o_e rfl (e_appr (i := 0) Try.underlying24 I89 rfl (by decide) (by decide) (fun _ _ _ _ h => h) rfl (fun w h => R0.now Z h) rfl rfl ha11) (cur2 (fun A12 c13 => ?_))
  refine o_q rfl rfl (q_asg rfl) ?_
  refine o_end ?_
  refine za1 ?_
  refine c_seq ?_
  refine c_seq ?_
  refine za0 ?_
  refine o_q rfl rfl (q_f F27_1 rfl) ?_
  refine o_q rfl rfl (q_ldb Y24 rfl (fun w h => h.zab (i := 2) rfl) rfl) ?_
  refine o_q rfl rfl (q_len Try.underlying24 rfl) ?_
  refine o_q rfl rfl (za2 rfl) ?_
  refine o_end ?_
  refine za1 ?_
  refine zaj ?_
  refine za8 h (fun o28 hl27 hR26 => ?_) rfl
  clear h
  refine c_fact (p := l2_1.length ≤ 9223372036854775807) (fun w h => (R2_1.now Z h).2.1) (fun hm25 => ?_)
  refine zax (σ := (List SStep) × (List Int) × (List SStep) × Int × (Option Addr) × Nat × (Option Addr) × Nat) (fun k23 ((ys22, l14, l17, i20, A15, c16, A18, c19) : (List SStep) × (List Int) × (List SStep) × Int × (Option Addr) × Nat × (Option Addr) × Nat) => Rg l2_1 i20 ys22 ∧ ys22.length = k23 ∧ spec_plThen.l0 a1 ys22 l14 l17 i20 = some o28) [10, 11, 13, 25, 26, 27, 28, 29, 30, 31, 32, 33, 34, 35, 36, 37, 38, 39, 40, 41, 42, 43, 44, 45, 46, 47, 48, 49, 50, 51] (fun ((ys22, l14, l17, i20, A15, c16, A18, c19) : (List SStep) × (List Int) × (List SStep) × Int × (Option Addr) × Nat × (Option Addr) × Nat) => [(10, .slice A15 l14.length c16), (11, .slice A18 l17.length c19), (25, .int .i64 i20)]) (fun ((ys22, l14, l17, i20, A15, c16, A18, c19) : (List SStep) × (List Int) × (List SStep) × Int × (Option Addr) × Nat × (Option Addr) × Nat) => [row kStep 89 (.slice A18 l17.length c19) l17, row (Kd.int .i64) 3 (.slice A15 l14.length c16) l14, box g1 27 #[.int .i64 a2_0, .slice A2_1 l2_1.length c2_1, .slice A2_2 l2_2.length c2_2]]) l2_1.length (l2_1, l4, l10, 0, A5, c6, A12, c13) ⟨Rg.start _, rfl, hl27⟩ ⟨rfl, rfl, rfl, trivial⟩ (fun w h => h) ?_
  refine fun k23 => cur8 (listC (fun l14 l17 i20 A15 c16 A18 c19 U29 hJ_ => ?_) (fun y21 ys22 l14 l17 i20 A15 c16 A18 c19 U29 hJ_ => ?_))
  · skip
    clear hl27
    have hr24 := hJ_.1; have hk30 := hJ_.2.1; have h := hJ_.2.2; clear hJ_
    replace h : spec_plThen.l0 a1 [] l14 l17 i20 = some o28 := h
    rw [spec_plThen.l0] at h
    refine c_seq ?_
    refine za0 ?_
    refine o_q rfl rfl (q_lss rfl rfl) ?_
    refine o_end ?_
    refine za1 ?_
    refine c_seq ?_
    refine zb3 (congrArg Value.bool hr24.ge) ?_
    refine zb6 ?_
    refine za6 ?_
    refine za6 ?_
    have e_ := Option.some.inj h; replace h := hR26; rw [← e_] at h; clear e_
    refine x_hit ?_
    refine za1 ?_
    refine c_seq ?_
    refine za0 ?_
    refine o_q rfl rfl (q_asg rfl) ?_
    refine o_end ?_
    refine za1 ?_
    refine c_seq ?_
    refine c_seq ?_
    refine za0 ?_
    refine o_q rfl rfl (q_f F27_2 rfl) ?_
    refine o_q rfl rfl (q_ldb Y25 rfl (fun w h => h.zab (i := 2) rfl) rfl) ?_
    refine o_q rfl rfl (q_len Try.underlying25 rfl) ?_
    refine o_q rfl rfl (za2 rfl) ?_
    refine o_end ?_
    refine za1 ?_
    refine zaj ?_
    refine c_nil (Kd.int .i64) 3 ?_
    refine za8 h (fun o43 hl42 hR41 => ?_) rfl
    clear h
    refine c_fact (p := l2_2.length ≤ 9223372036854775807) (fun w h => (R2_2.now Z h).2.1) (fun hm40 => ?_)
    refine zax (σ := (List Int) × (List Int) × Int × (Option Addr) × Nat) (fun k38 ((ys37, l32, i35, A33, c34) : (List Int) × (List Int) × Int × (Option Addr) × Nat) => Rg l2_2 i35 ys37 ∧ ys37.length = k38 ∧ spec_plThen.l1 l14 ys37 l32 i35 = some o43) [14, 16, 55, 56, 57, 58, 59, 60, 61, 62, 63, 64, 65, 66] (fun ((ys37, l32, i35, A33, c34) : (List Int) × (List Int) × Int × (Option Addr) × Nat) => [(14, .slice A33 l32.length c34), (55, .int .i64 i35)]) (fun ((ys37, l32, i35, A33, c34) : (List Int) × (List Int) × Int × (Option Addr) × Nat) => [row (Kd.int .i64) 3 (.slice A33 l32.length c34) l32, row kStep 89 (.slice A18 l17.length c19) l17, row (Kd.int .i64) 3 (.slice A15 l14.length c16) l14, box g1 27 #[.int .i64 a2_0, .slice A2_1 l2_1.length c2_1, .slice A2_2 l2_2.length c2_2]]) l2_2.length (l2_2, ([] : List Int), 0, none, 0) ⟨Rg.start _, rfl, hl42⟩ ⟨rfl, rfl, trivial⟩ (fun w h => h) ?_
    refine fun k38 => cur5 (listC (fun l32 i35 A33 c34 U44 hJ_ => ?_) (fun y36 ys37 l32 i35 A33 c34 U44 hJ_ => ?_))
    · skip
      clear hl42
      have hr39 := hJ_.1; have hk45 := hJ_.2.1; have h := hJ_.2.2; clear hJ_
      replace h : spec_plThen.l1 l14 [] l32 i35 = some o43 := h
      rw [spec_plThen.l1] at h
      refine c_seq ?_
      refine za0 ?_
      refine o_q rfl rfl (q_lss rfl rfl) ?_
      refine o_end ?_
      refine za1 ?_
      refine c_seq ?_
      refine zb3 (congrArg Value.bool hr39.ge) ?_
      refine zb6 ?_
      refine za6 ?_
      refine za6 ?_
      have e_ := Option.some.inj h; replace h := hR41; rw [← e_] at h; clear e_
      refine x_hit ?_
      refine za1 ?_
      refine c_seq ?_
      refine za0 ?_
      refine o_q rfl rfl (za2 rfl) ?_
      refine o_q rfl rfl (za2 rfl) ?_
      refine o_q rfl rfl (q_asg rfl) ?_
      refine o_q rfl rfl (q_asg rfl) ?_
      refine o_end ?_
      refine za1 ?_
      refine c_ret ?_
      have e0_ := Option.some.inj h; clear h
      have d0_ := (Prod.mk.inj e0_).1; have e1_ := (Prod.mk.inj e0_).2; clear e0_; subst d0_
      subst e1_
      exact x_r2 (A18, c19, A33, c34) Try.results104 (zai rfl) (zai rfl) rfl (fun w h => za7 [1, 0] (by decide) rfl w h)
    · skip
      clear hl42
      have hr39 := hJ_.1; have hk45 := hJ_.2.1; have h := hJ_.2.2; clear hJ_
      replace h : spec_plThen.l1 l14 (y36 :: ys37) l32 i35 = some o43 := h
      rw [spec_plThen.l1] at h
      refine c_seq ?_
      refine za0 ?_
      refine o_q rfl rfl (q_lss rfl rfl) ?_
      refine o_end ?_
      refine za1 ?_
      refine c_seq ?_
      refine zb2 (congrArg Value.bool hr39.lt) ?_
      refine zam ?_
      refine za1 ?_
      refine c_seq ?_
      refine zaj ?_
      refine c_seq ?_
      refine za0 ?_
      refine zau (p := Sh A2_2 l2_2.length l2_2.length) (fun w h => f_sh (dk := (Kd.int .i64)) h (fun w h => R2_2.now Z h)) (fun hq46 => ?_)
      refine o_q rfl rfl (q_ix Try.underlying25 Z3 rfl rfl hq46 hr39.get) ?_
      refine o_q rfl rfl (q_lde (off := 0) Y3 rfl rfl (fun w h => R2_2.now Z h) hr39.get (fun _ _ h => h) rfl) ?_
      refine o_q rfl rfl (q_asg rfl) ?_
      refine o_end ?_
      refine za1 ?_
      refine za0 ?_
      refine o_q rfl rfl (za2 rfl) ?_
      refine o_q rfl rfl (za2 rfl) ?_
      refine o_q rfl rfl (za2 rfl) ?_
      refine zau (p := Sh A15 l14.length l14.length) (fun w h => f_sh (dk := (Kd.int .i64)) h (fun w h => h.zaq (i := 2) rfl)) (fun hq47 => ?_)
      refine za8 h (fun y49 hg48 h => ?_) rfl
      refine o_q rfl rfl (q_ix Try.underlying25 Z3 rfl rfl hq47 hg48) ?_
      refine o_q rfl rfl (q_lde (off := 0) Y3 rfl rfl (fun w h => h.zaq (i := 2) rfl) hg48 (fun _ _ h => h) rfl) ?_
      refine o_e rfl (e_lit (vs := [(0, .int .i64 y49)]) (cs := [.int .i64 y49]) (Kd.int .i64) ([y49] : List Int) Try.underlying25 I3 (by decide) rfl (by decide) rfl rfl (fun _ _ => Kd.zat _)) (cur2 (fun A50 c51 => ?_))
      refine za8 h (fun l53 ha54 h => ?_) rfl
      refine o_e rfl (e_app (i := 1) (j := 0) Try.underlying25 I3 rfl (by decide) (by decide) rfl rfl rfl rfl rfl ha54) (cur2 (fun A55 c56 => ?_))
      refine o_q rfl rfl (q_asg rfl) ?_
      refine o_end ?_
      refine zan ?_
      refine za1 ?_
      refine za0 ?_
      refine o_q rfl rfl (q_up rfl rfl (hr39.up hm40)) ?_
      refine o_q rfl rfl (za2 rfl) ?_
      refine o_end ?_
      refine zak ys37.length (ys37, l53, i35 + 1, A55, c56) (by rw [← hk45]; exact Nat.lt_succ_self _) ⟨hr39.step, rfl, h⟩ ⟨rfl, rfl, trivial⟩ (fun w h => za7 [1, 2, 3, 4] (by decide) rfl w h) ?_
      repeat (first | exact zad _ _ | refine zaf rfl ?_ | refine zae rfl ?_ | refine zah rfl ?_)
  · skip
    clear hl27
    have hr24 := hJ_.1; have hk30 := hJ_.2.1; have h := hJ_.2.2; clear hJ_
    replace h : spec_plThen.l0 a1 (y21 :: ys22) l14 l17 i20 = some o28 := h
    rw [spec_plThen.l0] at h
    refine c_seq ?_
    refine za0 ?_
    refine o_q rfl rfl (q_lss rfl rfl) ?_
    refine o_end ?_
    refine za1 ?_
    refine c_seq ?_
    refine zb2 (congrArg Value.bool hr24.lt) ?_
    refine zam ?_
    refine za1 ?_
    refine c_seq ?_
    refine zaj ?_
    refine c_seq ?_
    refine za0 ?_
    refine zau (p := Sh A2_1 l2_1.length l2_1.length) (fun w h => f_sh (dk := kStep) h (fun w h => R2_1.now Z h)) (fun hq57 => ?_)
    refine o_q rfl rfl (q_ix Try.underlying24 Z89 rfl rfl hq57 hr24.get) ?_
    refine o_q rfl rfl (q_ldE G89 Z89 rfl rfl (fun w h => R2_1.now Z h) hr24.get (fun _ _ h => h) rfl) ?_
    refine o_e rfl (zav V89 rfl) (fun g58 => ?_)
    refine o_e rfl (zal (i := 0) rfl rfl rfl Z89 rfl rfl) (fun _ => ?_)
    refine o_end ?_
    refine za1 ?_
    refine c_seq ?_
    refine a_startS (ds := []) [some 0, none, some 2, some 3] MO rfl ?_
    refine za5 0 rfl rfl rfl (by kernel_rfl) (fun _ _ _ h => h) (za2 rfl) ?_
    refine za5 1 rfl rfl rfl (by kernel_rfl) (fun _ _ _ h => h) (za2 rfl) ?_
    refine za5 2 rfl rfl rfl (by kernel_rfl) (fun _ _ _ h => h) (q_f F89_0 rfl) ?_
    refine zay 3 rfl rfl rfl (by kernel_rfl) (fun _ _ _ h => h) (fun w h => za9 [some 0, none, some 2, some 3] (by decide) w h rfl) (q_ldb Y3 rfl (fun w h => h.zab (i := 0) rfl) rfl) ?_
    refine a_fact (p := Sh A15 l14.length l14.length) (fun w h => f_sh (dk := (Kd.int .i64)) h (fun w h => h.zaq (i := 2) rfl)) (fun hq60 => ?_)
    refine za8 h (fun y62 hg61 h => ?_) rfl
    refine za5 4 rfl rfl rfl (by kernel_rfl) (fun _ _ _ h => h) (q_ix Try.underlying25 Z3 rfl rfl hq60 hg61) ?_
    refine zay 5 rfl rfl rfl (by kernel_rfl) (fun _ _ _ h => h) (fun w h => za9 [some 0, none, some 2, some 3] (by decide) w h rfl) (q_lde (off := 0) Y3 rfl rfl (fun w h => h.zaq (i := 2) rfl) hg61 (fun _ _ h => h) rfl) ?_
    refine za5 6 rfl rfl rfl (by kernel_rfl) (fun _ _ _ h => h) (za2 rfl) ?_
    refine za5 7 rfl rfl rfl (by kernel_rfl) (fun _ _ _ h => h) (q_f F89_1 rfl) ?_
    refine zay 8 rfl rfl rfl (by kernel_rfl) (fun _ _ _ h => h) (fun w h => za9 [some 0, none, some 2, some 3] (by decide) w h rfl) (q_ldb Y3 rfl (fun w h => h.zab (i := 0) rfl) rfl) ?_
    refine za8 h (fun y64 hg63 h => ?_) rfl
    refine za5 9 rfl rfl rfl (by kernel_rfl) (fun _ _ _ h => h) (q_ix Try.underlying25 Z3 rfl rfl hq60 hg63) ?_
    refine zay 10 rfl rfl rfl (by kernel_rfl) (fun _ _ _ h => h) (fun w h => za9 [some 0, none, some 2, some 3] (by decide) w h rfl) (q_lde (off := 0) Y3 rfl rfl (fun w h => h.zaq (i := 2) rfl) hg63 (fun _ _ h => h) rfl) ?_
    refine za8 h (fun z66 hx65 h => ?_) rfl
    refine a_one 11 rfl rfl (by kernel_rfl) rfl (zac 0 Z Try.func97 N97 rfl rfl rfl (fun w P1 hF hB hS hT => spec_plStep.calls y62 y64 hB hF _ hx65)) (fun s w h => za9 [some 0, none, some 2, some 3] (by decide) w h rfl) (fun _ => ?_)
    refine a_one 12 rfl rfl (by kernel_rfl) rfl (e_lit (vs := [(0, .agg #[.int .i64 z66.f0, .int .i64 z66.f1])]) (cs := [.int .i64 z66.f0, .int .i64 z66.f1]) kStep ([z66] : List SStep) Try.underlying24 I89 (by decide) rfl (by decide) rfl rfl (fun _ _ => zb5 _)) (fun s w h => za9 [some 1, none, some 3, some 4] (by decide) w h rfl) (cur2 (fun A67 c68 => ?_))
    refine za8 h (fun l70 ha71 h => ?_) rfl
    refine a_one 13 rfl rfl (by kernel_rfl) rfl (e_app (i := 2) (j := 0) Try.underlying24 I89 rfl (by decide) (by decide) rfl rfl rfl rfl rfl ha71) (fun s w h => za9 [some 1, none, some 3, some 4] (by decide) w h rfl) (cur2 (fun A72 c73 => ?_))
    refine za5 14 rfl rfl rfl (by kernel_rfl) (fun _ _ _ h => h) (q_asg rfl) ?_
    refine zaz (by kernel_rfl) ?_
    refine za1 ?_
    refine za0 ?_
    refine o_q rfl rfl (za2 rfl) ?_
    refine o_q rfl rfl (za2 rfl) ?_
    refine o_q rfl rfl (za2 rfl) ?_
    refine o_q rfl rfl (q_len Try.underlying24 rfl) ?_
    refine o_q rfl rfl (q_add64 rfl rfl) ?_
    refine o_q rfl rfl (q_sub64 rfl rfl) ?_
    refine o_e rfl (e_lit (vs := [(0, .int .i64 (w64 (w64 (a1 + (l70.length : Int)) - 1)))]) (cs := [.int .i64 (w64 (w64 (a1 + (l70.length : Int)) - 1))]) (Kd.int .i64) ([w64 (w64 (a1 + (l70.length : Int)) - 1)] : List Int) Try.underlying25 I3 (by decide) rfl (by decide) rfl rfl (fun _ _ => Kd.zat _)) (cur2 (fun A74 c75 => ?_))
    refine za8 h (fun l77 ha78 h => ?_) rfl
    refine o_e rfl (e_app (i := 4) (j := 0) Try.underlying25 I3 rfl (by decide) (by decide) rfl rfl rfl rfl rfl ha78) (cur2 (fun A79 c80 => ?_))
    refine o_q rfl rfl (q_asg rfl) ?_
    refine o_end ?_
    refine zan ?_
    refine za1 ?_
    refine za0 ?_
    refine o_q rfl rfl (q_up rfl rfl (hr24.up hm25)) ?_
    refine o_q rfl rfl (za2 rfl) ?_
    refine o_end ?_
    refine zak ys22.length (ys22, l77, l70, i20 + 1, A79, c80, A72, c73) (by rw [← hk30]; exact Nat.lt_succ_self _) ⟨hr24.step, rfl, h⟩ ⟨rfl, rfl, rfl, trivial⟩ (fun w h => za7 [3, 4, 5] (by decide) rfl w h) ?_
    repeat (first | exact zad _ _ | refine zaf rfl ?_ | refine zae rfl ?_ | refine zah rfl ?_)

/-! ### loop.example/g01098/spec.CollapseInputs: function 65 -/
def spec_CollapseInputs.f (k : Nat) (a0_0 : Int) (l0_1 : List SStep) (l0_2 : List Int) : Option (Int × (List SStep) × (List Int) × Bool) := (spec_plGood.f k a0_0 l0_1 l0_2).bind fun b6 => if b6 = true then ((mk0 a0_0 (0 : Int)).bind fun l8 => (spec_plThen.f [] 1 a0_0 l0_1 l0_2 l8).bind fun (l14, l15) => (spec_plIf.f k 1 l14 l15).bind fun (i21, l22, l23, b24) => some (i21, l22, l23, b24)) else (some (0, ([] : List SStep), ([] : List Int), false))
set_option maxHeartbeats 600000 in
set_option maxRecDepth 100000 in
theorem spec_CollapseInputs.calls (k : Nat) {w0 ws : World} {P0 : Nat → Prop} (a0_0 : Int) (A0_1 : Option Addr) (c0_1 : Nat) (n0_1 : Nat) (l0_1 : List SStep) (A0_2 : Option Addr) (c0_2 : Nat) (n0_2 : Nat) (l0_2 : List Int) (Z : Below w0.heap.size w0 ws) (hF : Fr w0 ws P0 [] ws) (R0_1 : Stable ws P0 (fun w => Kd.C kStep w A0_1 n0_1 l0_1)) (hc0_1 : n0_1 ≤ c0_1) (R0_2 : Stable ws P0 (fun w => Kd.C (Kd.int .i64) w A0_2 n0_2 l0_2)) (hc0_2 : n0_2 ≤ c0_2) (r_1 : Int) (r_2 : List SStep) (r_5 : List Int) (r_8 : Bool) (h : spec_CollapseInputs.f k a0_0 l0_1 l0_2 = some (r_1, r_2, r_5, r_8)) :
    Calls Try.prog 65 #[.agg #[.int .i64 a0_0, .slice A0_1 n0_1 c0_1, .slice A0_2 n0_2 c0_2]] ws (Post1 w0 ws P0 (fun ((q_3, q_4, q_6, q_7) : (Option Addr) × Nat × (Option Addr) × Nat) => .tuple #[.agg #[.int .i64 r_1, .slice q_3 r_2.length q_4, .slice q_6 r_5.length q_7], .bool r_8]) (fun ((q_3, q_4, q_6, q_7) : (Option Addr) × Nat × (Option Addr) × Nat) => [row kStep 89 (.slice q_3 r_2.length q_4) r_2, row (Kd.int .i64) 3 (.slice q_6 r_5.length q_7) r_5])) := by
  unfold spec_CollapseInputs.f at h
  obtain rfl := (R0_1 ws (KeptB.refl _ _)).1
  obtain rfl := (R0_2 ws (KeptB.refl _ _)).1
  refine enter Try.func65 rfl Try.ntmps65 rfl hF ?_
  refine c_seq ?_
  refine za0 ?_
  refine o_e rfl (e_box rfl) (fun g1 => ?_)
  refine o_e rfl (zav V27 rfl) (fun g3 => ?_)
  refine o_q rfl rfl (q_asg rfl) ?_
  refine o_end ?_
  refine za1 ?_
  refine c_seq ?_
  refine c_seq ?_
  refine za0 ?_
  refine o_q rfl rfl (q_ldB G27 Z27 rfl (fun w h => h.zab (i := 1) rfl) rfl) ?_
  refine za8 h (fun b6 hx5 h => ?_) rfl
  refine o_e rfl (zac 0 Z Try.func93 N93 rfl rfl rfl (fun w P1 hF hB hS hT => spec_plGood.calls k a0_0 A0_1 c0_1 l0_1.length l0_1 A0_2 c0_2 l0_2.length l0_2 hB hF (hS _ R0_1) hc0_1 (hS _ R0_2) hc0_2 _ hx5)) (fun _ => ?_)
  refine o_q rfl rfl (q_not rfl) ?_
  refine o_end ?_
  refine za1 ?_
  refine zar _ rfl (fun hb7 => ?_) (fun hb7 => ?_)
  · replace hb7 := nt_t hb7
    replace h := bb_f hb7 h
    refine c_seq ?_
    refine za0 ?_
    refine o_q rfl rfl (q_build (vs := []) (cs := [.int .i64 0, .slice none 0 0, .slice none 0 0]) rfl rfl) ?_
    refine o_e rfl (zal (i := 0) rfl rfl rfl Z27 rfl rfl) (fun _ => ?_)
    refine o_q rfl rfl (q_asg rfl) ?_
    refine o_end ?_
    refine za1 ?_
    refine c_ret ?_
    refine zaa ?_
    refine x_nil kStep 89 ?_
    refine x_nil (Kd.int .i64) 3 ?_
    have e0_ := Option.some.inj h; clear h
    have d0_ := (Prod.mk.inj e0_).1; have e1_ := (Prod.mk.inj e0_).2; clear e0_; subst d0_
    have d1_ := (Prod.mk.inj e1_).1; have e2_ := (Prod.mk.inj e1_).2; clear e1_; subst d1_
    have d2_ := (Prod.mk.inj e2_).1; have e3_ := (Prod.mk.inj e2_).2; clear e2_; subst d2_
    subst e3_
    exact x_r2 (none, 0, none, 0) Try.results65 (rv_cell rfl G27 Z27 (fun w h => h.zab (i := 2) rfl) rfl) (zai rfl) rfl (fun w h => za7 [1, 0] (by decide) rfl w h)
  · replace hb7 := nt_f hb7
    replace h := bb_t hb7 h
    refine zam ?_
    refine za1 ?_
    refine c_seq ?_
    refine a_start (ds := []) MO rfl ?_
    refine zay 0 rfl rfl rfl (by kernel_rfl) (fun _ _ _ h => h) (fun w h => h) (q_ldB G27 Z27 rfl (fun w h => h.zab (i := 1) rfl) rfl) ?_
    refine za5 1 rfl rfl rfl (by kernel_rfl) (fun _ _ _ h => h) (q_f F27_0 rfl) ?_
    refine zay 2 rfl rfl rfl (by kernel_rfl) (fun _ _ _ h => h) (fun w h => h) (q_ldb Y3 rfl (fun w h => h.zab (i := 1) rfl) rfl) ?_
    refine za8 h (fun l8 hm9 h => ?_) rfl
    refine a_one 3 rfl rfl (by kernel_rfl) rfl (e_make (Kd.int .i64) (0 : Int) Try.underlying25 I3 rfl (by decide) (by decide) (fun _ _ => rfl) rfl rfl hm9) (fun s w h => za9 [some 1, some 2] (by decide) w h rfl) (cur2 (fun A10 c11 => ?_))
    refine bindE2 h (fun l14 l15 hx13 h => ?_) rfl
    refine a_one 4 rfl rfl (by kernel_rfl) rfl (zac 0 Z Try.func104 N104 rfl rfl rfl (fun w P1 hF hB hS hT => spec_plThen.calls none 0 0 [] 1 a0_0 A0_1 c0_1 l0_1.length l0_1 A0_2 c0_2 l0_2.length l0_2 A10 c11 l8.length l8 hB hF (stab_nil _) (Nat.le_refl 0) (hS _ R0_1) hc0_1 (hS _ R0_2) hc0_2 (hT 0 _ rfl).row (hT 0 _ rfl).cap _ _ hx13)) (fun s w h => za9 [some 3, some 4] (by decide) w h rfl) (cur4 (fun A16 c17 A18 c19 => ?_))
    refine za5 5 rfl rfl rfl (by kernel_rfl) (fun _ _ _ h => h) (za2 rfl) ?_
    refine za5 6 rfl rfl rfl (by kernel_rfl) (fun _ _ _ h => h) (q_ext rfl rfl) ?_
    refine za5 7 rfl rfl rfl (by kernel_rfl) (fun _ _ _ h => h) (q_ext rfl rfl) ?_
    refine za5 8 rfl rfl rfl (by kernel_rfl) (fun _ _ _ h => h) (q_asg rfl) ?_
    refine za5 9 rfl rfl rfl (by kernel_rfl) (fun _ _ _ h => h) (q_asg rfl) ?_
    refine zaz (by kernel_rfl) ?_
    refine za1 ?_
    refine c_seq ?_
    refine za0 ?_
    refine o_q rfl rfl (za2 rfl) ?_
    refine o_q rfl rfl (za2 rfl) ?_
    refine o_q rfl rfl (q_build (vs := [(0, .int .i64 1), (1, .slice A16 l14.length c17), (2, .slice A18 l15.length c19)]) (cs := [.int .i64 1, .slice A16 l14.length c17, .slice A18 l15.length c19]) rfl rfl) ?_
    refine bindE4 h (fun i21 l22 l23 b24 hx20 h => ?_) rfl
    refine o_e rfl (zac 2 Z Try.func106 N106 rfl rfl rfl (fun w P1 hF hB hS hT => spec_plIf.calls k 1 A16 c17 l14.length l14 A18 c19 l15.length l15 hB hF _ _ _ _ hx20)) (cur4 (fun A25 c26 A27 c28 => ?_))
    refine o_q rfl rfl (q_ext rfl rfl) ?_
    refine o_q rfl rfl (q_ext rfl rfl) ?_
    refine o_e rfl (zal (i := 3) rfl rfl rfl Z27 rfl rfl) (fun _ => ?_)
    refine o_q rfl rfl (q_asg rfl) ?_
    refine o_end ?_
    refine za1 ?_
    refine c_ret ?_
    have e0_ := Option.some.inj h; clear h
    have d0_ := (Prod.mk.inj e0_).1; have e1_ := (Prod.mk.inj e0_).2; clear e0_; subst d0_
    have d1_ := (Prod.mk.inj e1_).1; have e2_ := (Prod.mk.inj e1_).2; clear e1_; subst d1_
    have d2_ := (Prod.mk.inj e2_).1; have e3_ := (Prod.mk.inj e2_).2; clear e2_; subst d2_
    subst e3_
    exact x_r2 (A25, c26, A27, c28) Try.results65 (rv_cell rfl G27 Z27 (fun w h => h.zab (i := 3) rfl) rfl) (zai rfl) rfl (fun w h => za7 [0, 1] (by decide) rfl w h)

/-! ### loop.example/g01098/laws.pSameSteps: function 99 -/
def laws_pSameSteps.l0 (l1 : List SStep) : (List SStep) → Int → Option ((Bool) ⊕ (Unit))
  | [], i2 => some (.inr ())
  | y3 :: ys4, i2 => (gt l1 i2).bind fun y16 => if (y3.f0 == y16.f0 && (y3.f1 == y16.f1 && true)) = true then (laws_pSameSteps.l0 l1 ys4 (i2 + 1)) else (some (.inl false))
def laws_pSameSteps.f (l0 : List SStep) (l1 : List SStep) : Option Bool := if (l0.length : Int) ≠ (l1.length : Int) then (some false) else ((laws_pSameSteps.l0 l1 l0 0).bind fun o_ => match o_ with | .inl r_ => some r_ | .inr _ => some true)
set_option maxHeartbeats 600000 in
set_option maxRecDepth 100000 in
theorem laws_pSameSteps.calls {w0 ws : World} {P0 : Nat → Prop} (A0 : Option Addr) (c0 : Nat) (n0 : Nat) (l0 : List SStep) (A1 : Option Addr) (c1 : Nat) (n1 : Nat) (l1 : List SStep) (Z : Below w0.heap.size w0 ws) (hF : Fr w0 ws P0 [] ws) (R0 : Stable ws P0 (fun w => Kd.C kStep w A0 n0 l0)) (hc0 : n0 ≤ c0) (R1 : Stable ws P0 (fun w => Kd.C kStep w A1 n1 l1)) (hc1 : n1 ≤ c1) (r_1 : Bool) (h : laws_pSameSteps.f l0 l1 = some r_1) :
    Calls Try.prog 99 #[.slice A0 n0 c0, .slice A1 n1 c1] ws (Post1 w0 ws P0 (fun (_ : Unit) => .bool r_1) (fun (_ : Unit) => [])) := by
  unfold laws_pSameSteps.f at h
  obtain rfl := (R0 ws (KeptB.refl _ _)).1
  obtain rfl := (R1 ws (KeptB.refl _ _)).1
  refine enter Try.func99 rfl Try.ntmps99 rfl hF ?_
  refine c_seq ?_
  refine za0 ?_
  refine o_q rfl rfl (q_asg rfl) ?_
  refine o_end ?_
  refine za1 ?_
  refine c_seq ?_
  refine c_seq ?_
  refine za0 ?_
  refine o_q rfl rfl (za2 rfl) ?_
  refine o_q rfl rfl (q_len Try.underlying24 rfl) ?_
  refine o_q rfl rfl (za2 rfl) ?_
  refine o_q rfl rfl (q_len Try.underlying24 rfl) ?_
  refine o_q rfl rfl (q_neq rfl rfl) ?_
  refine o_end ?_
  refine za1 ?_
  refine zar _ rfl (fun hb1 => ?_) (fun hb1 => ?_)
  · skip
    replace h := br_t hb1 h
    refine c_seq ?_
    refine za0 ?_
    refine o_q rfl rfl (q_asg rfl) ?_
    refine o_end ?_
    refine za1 ?_
    refine c_ret ?_
    refine zaa ?_
    have e0_ := Option.some.inj h; clear h
    subst e0_
    exact x_r1 () Try.results99 (zai rfl) rfl (fun w h => za7 [] (by decide) rfl w h)
  · skip
    replace h := br_f hb1 h
    refine zam ?_
    refine za1 ?_
    refine c_seq ?_
    refine c_seq ?_
    refine za0 ?_
    refine o_q rfl rfl (za2 rfl) ?_
    refine o_q rfl rfl (q_len Try.underlying24 rfl) ?_
    refine o_q rfl rfl (za2 rfl) ?_
    refine o_end ?_
    refine za1 ?_
    refine zaj ?_
    refine za8 h (fun o10 hl9 hR8 => ?_) rfl
    clear h
    refine c_fact (p := l0.length ≤ 9223372036854775807) (fun w h => (R0.now Z h).2.1) (fun hm7 => ?_)
    refine zax (σ := (List SStep) × Int) (fun k5 ((ys4, i2) : (List SStep) × Int) => Rg l0 i2 ys4 ∧ ys4.length = k5 ∧ laws_pSameSteps.l0 l1 ys4 i2 = some o10) [4, 5, 13, 14, 15, 16, 17, 18, 19, 20, 21, 22, 23, 24, 25] (fun ((ys4, i2) : (List SStep) × Int) => [(13, .int .i64 i2)]) (fun ((ys4, i2) : (List SStep) × Int) => []) l0.length (l0, 0) ⟨Rg.start _, rfl, hl9⟩ ⟨rfl, trivial⟩ (fun w h => h) ?_
    refine fun k5 => cur2 (listC (fun i2 U11 hJ_ => ?_) (fun y3 ys4 i2 U11 hJ_ => ?_))
    · skip
      clear hl9
      have hr6 := hJ_.1; have hk12 := hJ_.2.1; have h := hJ_.2.2; clear hJ_
      replace h : laws_pSameSteps.l0 l1 [] i2 = some o10 := h
      rw [laws_pSameSteps.l0] at h
      refine c_seq ?_
      refine za0 ?_
      refine o_q rfl rfl (q_lss rfl rfl) ?_
      refine o_end ?_
      refine za1 ?_
      refine c_seq ?_
      refine zb3 (congrArg Value.bool hr6.ge) ?_
      refine zb6 ?_
      refine za6 ?_
      refine za6 ?_
      have e_ := Option.some.inj h; replace h := hR8; rw [← e_] at h; clear e_
      refine x_hit ?_
      refine za1 ?_
      refine c_seq ?_
      refine za0 ?_
      refine o_q rfl rfl (q_asg rfl) ?_
      refine o_end ?_
      refine za1 ?_
      refine c_ret ?_
      have e0_ := Option.some.inj h; clear h
      subst e0_
      exact x_r1 () Try.results99 (zai rfl) rfl (fun w h => za7 [] (by decide) rfl w h)
    · skip
      clear hl9
      have hr6 := hJ_.1; have hk12 := hJ_.2.1; have h := hJ_.2.2; clear hJ_
      replace h : laws_pSameSteps.l0 l1 (y3 :: ys4) i2 = some o10 := h
      rw [laws_pSameSteps.l0] at h
      refine c_seq ?_
      refine za0 ?_
      refine o_q rfl rfl (q_lss rfl rfl) ?_
      refine o_end ?_
      refine za1 ?_
      refine c_seq ?_
      refine zb2 (congrArg Value.bool hr6.lt) ?_
      refine zam ?_
      refine za1 ?_
      refine c_seq ?_
      refine zaj ?_
      refine c_seq ?_
      refine za0 ?_
      refine o_q rfl rfl (za2 rfl) ?_
      refine o_q rfl rfl (q_asg rfl) ?_
      refine o_end ?_
      refine za1 ?_
      refine c_seq ?_
      refine a_start (ds := []) MO rfl ?_
      refine za5 0 rfl rfl rfl (by kernel_rfl) (fun _ _ _ h => h) (za2 rfl) ?_
      refine za5 1 rfl rfl rfl (by kernel_rfl) (fun _ _ _ h => h) (za2 rfl) ?_
      refine a_fact (p := Sh A0 l0.length l0.length) (fun w h => f_sh (dk := kStep) h (fun w h => R0.now Z h)) (fun hq13 => ?_)
      refine za5 2 rfl rfl rfl (by kernel_rfl) (fun _ _ _ h => h) (q_ix Try.underlying24 Z89 rfl rfl hq13 hr6.get) ?_
      refine zay 3 rfl rfl rfl (by kernel_rfl) (fun _ _ _ h => h) (fun w h => h) (q_ldE G89 Z89 rfl rfl (fun w h => R0.now Z h) hr6.get (fun _ _ h => h) rfl) ?_
      refine za5 4 rfl rfl rfl (by kernel_rfl) (fun _ _ _ h => h) (za2 rfl) ?_
      refine za5 5 rfl rfl rfl (by kernel_rfl) (fun _ _ _ h => h) (za2 rfl) ?_
      refine a_fact (p := Sh A1 l1.length l1.length) (fun w h => f_sh (dk := kStep) h (fun w h => R1.now Z h)) (fun hq14 => ?_)
      refine za8 h (fun y16 hg15 h => ?_) rfl
      refine za5 6 rfl rfl rfl (by kernel_rfl) (fun _ _ _ h => h) (q_ix Try.underlying24 Z89 rfl rfl hq14 hg15) ?_
      refine zay 7 rfl rfl rfl (by kernel_rfl) (fun _ _ _ h => h) (fun w h => h) (q_ldE G89 Z89 rfl rfl (fun w h => R1.now Z h) hg15 (fun _ _ h => h) rfl) ?_
      refine za5 8 rfl rfl rfl (by kernel_rfl) (fun _ _ _ h => h) (q_aneq E89 O89 P89 (Q89 y3.f0 y3.f1 y16.f0 y16.f1) rfl rfl) ?_
      refine zaz (by kernel_rfl) ?_
      refine za1 ?_
      refine zar _ rfl (fun hb17 => ?_) (fun hb17 => ?_)
      · replace hb17 := nt_t hb17
        replace h := bb_f hb17 h
        refine c_seq ?_
        refine za0 ?_
        refine o_q rfl rfl (q_asg rfl) ?_
        refine o_end ?_
        refine za1 ?_
        refine c_ret ?_
        refine zao ?_
        refine zaa ?_
        refine zaa ?_
        have e_ := Option.some.inj h; replace h := hR8; rw [← e_] at h; clear e_
        refine zao ?_
        refine zaa ?_
        have e0_ := Option.some.inj h; clear h
        subst e0_
        exact x_r1 () Try.results99 (zai rfl) rfl (fun w h => za7 [] (by decide) rfl w h)
      · replace hb17 := nt_f hb17
        replace h := bb_t hb17 h
        refine zam ?_
        refine zan ?_
        refine za1 ?_
        refine za0 ?_
        refine o_q rfl rfl (q_up rfl rfl (hr6.up hm7)) ?_
        refine o_q rfl rfl (za2 rfl) ?_
        refine o_end ?_
        refine zak ys4.length (ys4, i2 + 1) (by rw [← hk12]; exact Nat.lt_succ_self _) ⟨hr6.step, rfl, h⟩ ⟨rfl, trivial⟩ (fun w h => za7 [] (by decide) rfl w h) ?_
        repeat (first | exact zad _ _ | refine zaf rfl ?_ | refine zae rfl ?_ | refine zah rfl ?_)

/-! ### loop.example/g01098/laws.pSameInts: function 21 -/
def laws_pSameInts.l0 (l1 : List Int) : (List Int) → Int → Option ((Bool) ⊕ (Unit))
  | [], i2 => some (.inr ())
  | y3 :: ys4, i2 => (gt l1 i2).bind fun y16 => if y3 ≠ y16 then (some (.inl false)) else (laws_pSameInts.l0 l1 ys4 (i2 + 1))
def laws_pSameInts.f (l0 : List Int) (l1 : List Int) : Option Bool := if (l0.length : Int) ≠ (l1.length : Int) then (some false) else ((laws_pSameInts.l0 l1 l0 0).bind fun o_ => match o_ with | .inl r_ => some r_ | .inr _ => some true)
set_option maxHeartbeats 600000 in
set_option maxRecDepth 100000 in
theorem laws_pSameInts.calls {w0 ws : World} {P0 : Nat → Prop} (A0 : Option Addr) (c0 : Nat) (n0 : Nat) (l0 : List Int) (A1 : Option Addr) (c1 : Nat) (n1 : Nat) (l1 : List Int) (Z : Below w0.heap.size w0 ws) (hF : Fr w0 ws P0 [] ws) (R0 : Stable ws P0 (fun w => Kd.C (Kd.int .i64) w A0 n0 l0)) (hc0 : n0 ≤ c0) (R1 : Stable ws P0 (fun w => Kd.C (Kd.int .i64) w A1 n1 l1)) (hc1 : n1 ≤ c1) (r_1 : Bool) (h : laws_pSameInts.f l0 l1 = some r_1) :
    Calls Try.prog 21 #[.slice A0 n0 c0, .slice A1 n1 c1] ws (Post1 w0 ws P0 (fun (_ : Unit) => .bool r_1) (fun (_ : Unit) => [])) := by
  unfold laws_pSameInts.f at h
  obtain rfl := (R0 ws (KeptB.refl _ _)).1
  obtain rfl := (R1 ws (KeptB.refl _ _)).1
  refine enter Try.func21 rfl Try.ntmps21 rfl hF ?_
  refine c_seq ?_
  refine za0 ?_
  refine o_q rfl rfl (q_asg rfl) ?_
  refine o_end ?_
  refine za1 ?_
  refine c_seq ?_
  refine c_seq ?_
  refine za0 ?_
  refine o_q rfl rfl (za2 rfl) ?_
  refine o_q rfl rfl (q_len Try.underlying25 rfl) ?_
  refine o_q rfl rfl (za2 rfl) ?_
  refine o_q rfl rfl (q_len Try.underlying25 rfl) ?_
  refine o_q rfl rfl (q_neq rfl rfl) ?_
  refine o_end ?_
  refine za1 ?_
  refine zar _ rfl (fun hb1 => ?_) (fun hb1 => ?_)
  · skip
    replace h := br_t hb1 h
    refine c_seq ?_
    refine za0 ?_
    refine o_q rfl rfl (q_asg rfl) ?_
    refine o_end ?_
    refine za1 ?_
    refine c_ret ?_
    refine zaa ?_
    have e0_ := Option.some.inj h; clear h
    subst e0_
    exact x_r1 () Try.results21 (zai rfl) rfl (fun w h => za7 [] (by decide) rfl w h)
  · skip
    replace h := br_f hb1 h
    refine zam ?_
    refine za1 ?_
    refine c_seq ?_
    refine c_seq ?_
    refine za0 ?_
    refine o_q rfl rfl (za2 rfl) ?_
    refine o_q rfl rfl (q_len Try.underlying25 rfl) ?_
    refine o_q rfl rfl (za2 rfl) ?_
    refine o_end ?_
    refine za1 ?_
    refine zaj ?_
    refine za8 h (fun o10 hl9 hR8 => ?_) rfl
    clear h
    refine c_fact (p := l0.length ≤ 9223372036854775807) (fun w h => (R0.now Z h).2.1) (fun hm7 => ?_)
    refine zax (σ := (List Int) × Int) (fun k5 ((ys4, i2) : (List Int) × Int) => Rg l0 i2 ys4 ∧ ys4.length = k5 ∧ laws_pSameInts.l0 l1 ys4 i2 = some o10) [4, 5, 13, 14, 15, 16, 17, 18, 19, 20, 21, 22, 23, 24, 25] (fun ((ys4, i2) : (List Int) × Int) => [(13, .int .i64 i2)]) (fun ((ys4, i2) : (List Int) × Int) => []) l0.length (l0, 0) ⟨Rg.start _, rfl, hl9⟩ ⟨rfl, trivial⟩ (fun w h => h) ?_
    refine fun k5 => cur2 (listC (fun i2 U11 hJ_ => ?_) (fun y3 ys4 i2 U11 hJ_ => ?_))
    · skip
      clear hl9
      have hr6 := hJ_.1; have hk12 := hJ_.2.1; have h := hJ_.2.2; clear hJ_
      replace h : laws_pSameInts.l0 l1 [] i2 = some o10 := h
      rw [laws_pSameInts.l0] at h
      refine c_seq ?_
      refine za0 ?_
      refine o_q rfl rfl (q_lss rfl rfl) ?_
      refine o_end ?_
      refine za1 ?_
      refine c_seq ?_
      refine zb3 (congrArg Value.bool hr6.ge) ?_
      refine zb6 ?_
      refine za6 ?_
      refine za6 ?_
      have e_ := Option.some.inj h; replace h := hR8; rw [← e_] at h; clear e_
      refine x_hit ?_
      refine za1 ?_
      refine c_seq ?_
      refine za0 ?_
      refine o_q rfl rfl (q_asg rfl) ?_
      refine o_end ?_
      refine za1 ?_
      refine c_ret ?_
      have e0_ := Option.some.inj h; clear h
      subst e0_
      exact x_r1 () Try.results21 (zai rfl) rfl (fun w h => za7 [] (by decide) rfl w h)
    · skip
      clear hl9
      have hr6 := hJ_.1; have hk12 := hJ_.2.1; have h := hJ_.2.2; clear hJ_
      replace h : laws_pSameInts.l0 l1 (y3 :: ys4) i2 = some o10 := h
      rw [laws_pSameInts.l0] at h
      refine c_seq ?_
      refine za0 ?_
      refine o_q rfl rfl (q_lss rfl rfl) ?_
      refine o_end ?_
      refine za1 ?_
      refine c_seq ?_
      refine zb2 (congrArg Value.bool hr6.lt) ?_
      refine zam ?_
      refine za1 ?_
      refine c_seq ?_
      refine zaj ?_
      refine c_seq ?_
      refine za0 ?_
      refine o_q rfl rfl (za2 rfl) ?_
      refine o_q rfl rfl (q_asg rfl) ?_
      refine o_end ?_
      refine za1 ?_
      refine c_seq ?_
      refine a_start (ds := []) MO rfl ?_
      refine za5 0 rfl rfl rfl (by kernel_rfl) (fun _ _ _ h => h) (za2 rfl) ?_
      refine za5 1 rfl rfl rfl (by kernel_rfl) (fun _ _ _ h => h) (za2 rfl) ?_
      refine a_fact (p := Sh A0 l0.length l0.length) (fun w h => f_sh (dk := (Kd.int .i64)) h (fun w h => R0.now Z h)) (fun hq13 => ?_)
      refine za5 2 rfl rfl rfl (by kernel_rfl) (fun _ _ _ h => h) (q_ix Try.underlying25 Z3 rfl rfl hq13 hr6.get) ?_
      refine zay 3 rfl rfl rfl (by kernel_rfl) (fun _ _ _ h => h) (fun w h => h) (q_lde (off := 0) Y3 rfl rfl (fun w h => R0.now Z h) hr6.get (fun _ _ h => h) rfl) ?_
      refine za5 4 rfl rfl rfl (by kernel_rfl) (fun _ _ _ h => h) (za2 rfl) ?_
      refine za5 5 rfl rfl rfl (by kernel_rfl) (fun _ _ _ h => h) (za2 rfl) ?_
      refine a_fact (p := Sh A1 l1.length l1.length) (fun w h => f_sh (dk := (Kd.int .i64)) h (fun w h => R1.now Z h)) (fun hq14 => ?_)
      refine za8 h (fun y16 hg15 h => ?_) rfl
      refine za5 6 rfl rfl rfl (by kernel_rfl) (fun _ _ _ h => h) (q_ix Try.underlying25 Z3 rfl rfl hq14 hg15) ?_
      refine zay 7 rfl rfl rfl (by kernel_rfl) (fun _ _ _ h => h) (fun w h => h) (q_lde (off := 0) Y3 rfl rfl (fun w h => R1.now Z h) hg15 (fun _ _ h => h) rfl) ?_
      refine za5 8 rfl rfl rfl (by kernel_rfl) (fun _ _ _ h => h) (q_neq rfl rfl) ?_
      refine zaz (by kernel_rfl) ?_
      refine za1 ?_
      refine zar _ rfl (fun hb17 => ?_) (fun hb17 => ?_)
      · skip
        replace h := br_t hb17 h
        refine c_seq ?_
        refine za0 ?_
        refine o_q rfl rfl (q_asg rfl) ?_
        refine o_end ?_
        refine za1 ?_
        refine c_ret ?_
        refine zao ?_
        refine zaa ?_
        refine zaa ?_
        have e_ := Option.some.inj h; replace h := hR8; rw [← e_] at h; clear e_
        refine zao ?_
        refine zaa ?_
        have e0_ := Option.some.inj h; clear h
        subst e0_
        exact x_r1 () Try.results21 (zai rfl) rfl (fun w h => za7 [] (by decide) rfl w h)
      · skip
        replace h := br_f hb17 h
        refine zam ?_
        refine zan ?_
        refine za1 ?_
        refine za0 ?_
        refine o_q rfl rfl (q_up rfl rfl (hr6.up hm7)) ?_
        refine o_q rfl rfl (za2 rfl) ?_
        refine o_end ?_
        refine zak ys4.length (ys4, i2 + 1) (by rw [← hk12]; exact Nat.lt_succ_self _) ⟨hr6.step, rfl, h⟩ ⟨rfl, trivial⟩ (fun w h => za7 [] (by decide) rfl w h) ?_
        repeat (first | exact zad _ _ | refine zaf rfl ?_ | refine zae rfl ?_ | refine zah rfl ?_)

/-! ### loop.example/g01098/laws.pSamePlan: function 17 -/
def laws_pSamePlan.f (a0_0 : Int) (l0_1 : List SStep) (l0_2 : List Int) (a1_0 : Int) (l1_1 : List SStep) (l1_2 : List Int) : Option Bool := if a0_0 = a1_0 then ((laws_pSameSteps.f l0_1 l1_1).bind fun b7 => if b7 = true then ((laws_pSameInts.f l0_2 l1_2).bind fun b10 => some b10) else (some false)) else (some false)
set_option maxHeartbeats 600000 in
set_option maxRecDepth 100000 in
theorem laws_pSamePlan.calls {w0 ws : World} {P0 : Nat → Prop} (a0_0 : Int) (A0_1 : Option Addr) (c0_1 : Nat) (n0_1 : Nat) (l0_1 : List SStep) (A0_2 : Option Addr) (c0_2 : Nat) (n0_2 : Nat) (l0_2 : List Int) (a1_0 : Int) (A1_1 : Option Addr) (c1_1 : Nat) (n1_1 : Nat) (l1_1 : List SStep) (A1_2 : Option Addr) (c1_2 : Nat) (n1_2 : Nat) (l1_2 : List Int) (Z : Below w0.heap.size w0 ws) (hF : Fr w0 ws P0 [] ws) (R0_1 : Stable ws P0 (fun w => Kd.C kStep w A0_1 n0_1 l0_1)) (hc0_1 : n0_1 ≤ c0_1) (R0_2 : Stable ws P0 (fun w => Kd.C (Kd.int .i64) w A0_2 n0_2 l0_2)) (hc0_2 : n0_2 ≤ c0_2) (R1_1 : Stable ws P0 (fun w => Kd.C kStep w A1_1 n1_1 l1_1)) (hc1_1 : n1_1 ≤ c1_1) (R1_2 : Stable ws P0 (fun w => Kd.C (Kd.int .i64) w A1_2 n1_2 l1_2)) (hc1_2 : n1_2 ≤ c1_2) (r_1 : Bool) (h : laws_pSamePlan.f a0_0 l0_1 l0_2 a1_0 l1_1 l1_2 = some r_1) :
    Calls Try.prog 17 #[.agg #[.int .i64 a0_0, .slice A0_1 n0_1 c0_1, .slice A0_2 n0_2 c0_2], .agg #[.int .i64 a1_0, .slice A1_1 n1_1 c1_1, .slice A1_2 n1_2 c1_2]] ws (Post1 w0 ws P0 (fun (_ : Unit) => .bool r_1) (fun (_ : Unit) => [])) := by
  unfold laws_pSamePlan.f at h
  obtain rfl := (R0_1 ws (KeptB.refl _ _)).1
  obtain rfl := (R0_2 ws (KeptB.refl _ _)).1
  obtain rfl := (R1_1 ws (KeptB.refl _ _)).1
  obtain rfl := (R1_2 ws (KeptB.refl _ _)).1
  refine enter Try.func17 rfl Try.ntmps17 rfl hF ?_
  refine c_seq ?_
  refine za0 ?_
  refine o_e rfl (e_box rfl) (fun g1 => ?_)
  refine o_e rfl (e_box rfl) (fun g3 => ?_)
  refine o_q rfl rfl (q_asg rfl) ?_
  refine o_end ?_
  refine za1 ?_
  refine c_seq ?_
  refine za0 ?_
  refine o_q rfl rfl (q_f F27_0 rfl) ?_
  refine o_q rfl rfl (q_ldb Y3 rfl (fun w h => h.zab (i := 1) rfl) rfl) ?_
  refine o_q rfl rfl (q_f F27_0 rfl) ?_
  refine o_q rfl rfl (q_ldb Y3 rfl (fun w h => h.zab (i := 0) rfl) rfl) ?_
  refine o_q rfl rfl (q_eql rfl rfl) ?_
  refine o_q rfl rfl (za2 rfl) ?_
  refine byB (decide (a0_0 = a1_0)) (fun hb5 => ?_) (fun hb5 => ?_)
  · replace h := br_t hb5 h
    refine o_w (za4 rfl rfl rfl (congrArg Value.bool hb5)) rfl (q_f F27_1 rfl) ?_
    refine o_w (za4 rfl rfl rfl (congrArg Value.bool hb5)) rfl (q_ldb Y24 rfl (fun w h => h.zab (i := 1) rfl) rfl) ?_
    refine o_w (za4 rfl rfl rfl (congrArg Value.bool hb5)) rfl (q_f F27_1 rfl) ?_
    refine o_w (za4 rfl rfl rfl (congrArg Value.bool hb5)) rfl (q_ldb Y24 rfl (fun w h => h.zab (i := 0) rfl) rfl) ?_
    refine za8 h (fun b7 hx6 h => ?_) rfl
    refine o_ew (za4 rfl rfl rfl (congrArg Value.bool hb5)) (zac 0 Z Try.func99 N99 rfl rfl rfl (fun w P1 hF hB hS hT => laws_pSameSteps.calls A0_1 c0_1 l0_1.length l0_1 A1_1 c1_1 l1_1.length l1_1 hB hF (hS _ R0_1) hc0_1 (hS _ R1_1) hc1_1 _ hx6)) (fun _ => ?_)
    refine o_q rfl rfl (zas true (congrArg Value.bool hb5) rfl) ?_
    refine o_q rfl rfl (za2 rfl) ?_
    refine byB b7 (fun hb8 => ?_) (fun hb8 => ?_)
    · replace h := bb_t hb8 h
      refine o_w (za4 rfl rfl rfl (congrArg Value.bool hb8)) rfl (q_f F27_2 rfl) ?_
      refine o_w (za4 rfl rfl rfl (congrArg Value.bool hb8)) rfl (q_ldb Y25 rfl (fun w h => h.zab (i := 1) rfl) rfl) ?_
      refine o_w (za4 rfl rfl rfl (congrArg Value.bool hb8)) rfl (q_f F27_2 rfl) ?_
      refine o_w (za4 rfl rfl rfl (congrArg Value.bool hb8)) rfl (q_ldb Y25 rfl (fun w h => h.zab (i := 0) rfl) rfl) ?_
      refine za8 h (fun b10 hx9 h => ?_) rfl
      refine o_ew (za4 rfl rfl rfl (congrArg Value.bool hb8)) (zac 0 Z Try.func21 N21 rfl rfl rfl (fun w P1 hF hB hS hT => laws_pSameInts.calls A0_2 c0_2 l0_2.length l0_2 A1_2 c1_2 l1_2.length l1_2 hB hF (hS _ R0_2) hc0_2 (hS _ R1_2) hc1_2 _ hx9)) (fun _ => ?_)
      refine o_q rfl rfl (zas true (congrArg Value.bool hb8) rfl) ?_
      refine o_q rfl rfl (q_asg rfl) ?_
      refine o_end ?_
      refine za1 ?_
      refine c_ret ?_
      have e0_ := Option.some.inj h; clear h
      subst e0_
      exact x_r1 () Try.results17 (zai rfl) rfl (fun w h => za7 [] (by decide) rfl w h)
    · replace h := bb_f hb8 h
      refine @o_n _ _ _ _ _ _ _ _ _ _ _ 18 (za3 rfl rfl rfl (congrArg Value.bool hb8) rfl) (Eq.refl (some 18)) ?_
      refine @o_n _ _ _ _ _ _ _ _ _ _ _ 19 (za3 rfl rfl rfl (congrArg Value.bool hb8) rfl) (Eq.refl (some 19)) ?_
      refine @o_n _ _ _ _ _ _ _ _ _ _ _ 20 (za3 rfl rfl rfl (congrArg Value.bool hb8) rfl) (Eq.refl (some 20)) ?_
      refine @o_n _ _ _ _ _ _ _ _ _ _ _ 21 (za3 rfl rfl rfl (congrArg Value.bool hb8) rfl) (Eq.refl (some 21)) ?_
      refine @o_n _ _ _ _ _ _ _ _ _ _ _ 22 (za3 rfl rfl rfl (congrArg Value.bool hb8) rfl) (Eq.refl (some 22)) ?_
      refine o_q rfl rfl (zas false (congrArg Value.bool hb8) rfl) ?_
      refine o_q rfl rfl (q_asg rfl) ?_
      refine o_end ?_
      refine za1 ?_
      refine c_ret ?_
      have e0_ := Option.some.inj h; clear h
      subst e0_
      exact x_r1 () Try.results17 (zai rfl) rfl (fun w h => za7 [] (by decide) rfl w h)
  · replace h := br_f hb5 h
    refine @o_n _ _ _ _ _ _ _ _ _ _ _ 11 (za3 rfl rfl rfl (congrArg Value.bool hb5) rfl) (Eq.refl (some 11)) ?_
    refine @o_n _ _ _ _ _ _ _ _ _ _ _ 12 (za3 rfl rfl rfl (congrArg Value.bool hb5) rfl) (Eq.refl (some 12)) ?_
    refine @o_n _ _ _ _ _ _ _ _ _ _ _ 13 (za3 rfl rfl rfl (congrArg Value.bool hb5) rfl) (Eq.refl (some 13)) ?_
    refine @o_n _ _ _ _ _ _ _ _ _ _ _ 14 (za3 rfl rfl rfl (congrArg Value.bool hb5) rfl) (Eq.refl (some 14)) ?_
    refine @o_n _ _ _ _ _ _ _ _ _ _ _ 15 (za3 rfl rfl rfl (congrArg Value.bool hb5) rfl) (Eq.refl (some 15)) ?_
    refine o_q rfl rfl (zas false (congrArg Value.bool hb5) rfl) ?_
    refine o_q rfl rfl (za2 rfl) ?_
    refine @o_n _ _ _ _ _ _ _ _ _ _ _ 18 (za3 rfl rfl rfl rfl rfl) (Eq.refl (some 18)) ?_
    refine @o_n _ _ _ _ _ _ _ _ _ _ _ 19 (za3 rfl rfl rfl rfl rfl) (Eq.refl (some 19)) ?_
    refine @o_n _ _ _ _ _ _ _ _ _ _ _ 20 (za3 rfl rfl rfl rfl rfl) (Eq.refl (some 20)) ?_
    refine @o_n _ _ _ _ _ _ _ _ _ _ _ 21 (za3 rfl rfl rfl rfl rfl) (Eq.refl (some 21)) ?_
    refine @o_n _ _ _ _ _ _ _ _ _ _ _ 22 (za3 rfl rfl rfl rfl rfl) (Eq.refl (some 22)) ?_
    refine o_q rfl rfl (zas false rfl rfl) ?_
    refine o_q rfl rfl (q_asg rfl) ?_
    refine o_end ?_
    refine za1 ?_
    refine c_ret ?_
    have e0_ := Option.some.inj h; clear h
    subst e0_
    exact x_r1 () Try.results17 (zai rfl) rfl (fun w h => za7 [] (by decide) rfl w h)

/-! ### (*loop.example/g01098/impl.Plan).outputExponents: function 135 -/
def impl_Plan_outputExponents.l0 (l2 : List (List Int)) : (List Int) → (List (List Int)) → Int → Option (List (List Int))
  | [], l9, i13 => some l9
  | y14 :: ys15, l9, i13 => (gt l2 y14).bind fun y27 => (slices_Clone_int_int.f y27).bind fun l30 => (ap l9 ([l30] : List (List Int))).bind fun l37 => impl_Plan_outputExponents.l0 l2 ys15 l37 (i13 + 1)
def impl_Plan_outputExponents.f (a0_0 : Int) (l0_1 : List SStep) (l0_2 : List Int) : Option (List (List Int)) := (impl_Plan_exponents.f a0_0 l0_1 l0_2).bind fun l2 => (impl_Plan_outputExponents.l0 l2 l0_2 ([] : List (List Int)) 0).bind fun l9 => some l9
set_option maxHeartbeats 600000 in
set_option maxRecDepth 100000 in
theorem impl_Plan_outputExponents.calls {w0 ws : World} {P0 : Nat → Prop} (g0 : Nat) (a0_0 : Int) (A0_1 : Option Addr) (c0_1 : Nat) (n0_1 : Nat) (l0_1 : List SStep) (A0_2 : Option Addr) (c0_2 : Nat) (n0_2 : Nat) (l0_2 : List Int) (Z : Below w0.heap.size w0 ws) (hF : Fr w0 ws P0 [] ws) (R0_1 : Stable ws P0 (fun w => Kd.C kStep w A0_1 n0_1 l0_1)) (hc0_1 : n0_1 ≤ c0_1) (R0_2 : Stable ws P0 (fun w => Kd.C (Kd.int .i64) w A0_2 n0_2 l0_2)) (hc0_2 : n0_2 ≤ c0_2) (B0 : Stable ws P0 (fun w => w.heap[g0]? = some (.cells #[.int .i64 a0_0, .slice A0_1 n0_1 c0_1, .slice A0_2 n0_2 c0_2] 27 (0, 0)))) (r_1 : List (List Int)) (h : impl_Plan_outputExponents.f a0_0 l0_1 l0_2 = some r_1) :
    Calls Try.prog 135 #[.pointer (some ⟨g0, 0, none⟩)] ws (Post1 w0 ws P0 (fun ((q_2, q_3, q_4) : (Option Addr) × Nat × Hd) => .slice q_2 r_1.length q_3) (fun ((q_2, q_3, q_4) : (Option Addr) × Nat × Hd) => [row (gk 3 (Kd.int .i64)) 25 (.slice q_2 r_1.length q_3) (zp q_4 r_1)])) := by
  unfold impl_Plan_outputExponents.f at h
  obtain rfl := (R0_1 ws (KeptB.refl _ _)).1
  obtain rfl := (R0_2 ws (KeptB.refl _ _)).1
  refine enter Try.func135 rfl Try.ntmps135 rfl hF ?_
  refine c_seq ?_
  refine za0 ?_
  refine o_q rfl rfl (q_asg rfl) ?_
  refine o_end ?_
  refine za1 ?_
  refine c_seq ?_
  refine za0 ?_
  refine o_q rfl rfl (za2 rfl) ?_
  refine za8 h (fun l2 hx1 h => ?_) rfl
  refine o_e rfl (zac 0 Z Try.func120 N120 rfl rfl rfl (fun w P1 hF hB hS hT => impl_Plan_exponents.calls g0 a0_0 A0_1 c0_1 l0_1.length l0_1 A0_2 c0_2 l0_2.length l0_2 hB hF (hS _ R0_1) hc0_1 (hS _ R0_2) hc0_2 (hS _ B0) _ hx1)) (cur3 (fun A3 c4 H5 => ?_))
  refine o_e rfl (e_lit0 (gk 3 (Kd.int .i64)) Try.underlying60 I25) (cur2 (fun A6 c7 => ?_))
  refine o_q rfl rfl (q_asg rfl) ?_
  refine o_q rfl rfl (q_asg rfl) ?_
  refine o_end ?_
  refine za1 ?_
  refine c_seq ?_
  refine c_seq ?_
  refine za0 ?_
  refine o_q rfl rfl (za2 rfl) ?_
  refine o_q rfl rfl (q_nil rfl) ?_
  refine o_q rfl rfl (q_f F27_2 rfl) ?_
  refine o_q rfl rfl (q_ldb Y25 rfl (fun w h => B0.now Z h) rfl) ?_
  refine o_q rfl rfl (q_len Try.underlying25 rfl) ?_
  refine o_q rfl rfl (za2 rfl) ?_
  refine o_end ?_
  refine za1 ?_
  refine zaj ?_
  refine za8 h (fun o21 hl20 hR19 => ?_) rfl
  clear h
  refine c_fact (p := l0_2.length ≤ 9223372036854775807) (fun w h => (R0_2.now Z h).2.1) (fun hm18 => ?_)
  refine zax (σ := (List Int) × (List (List Int)) × Int × (Option Addr) × Nat × Hd) (fun k16 ((ys15, l9, i13, A10, c11, H12) : (List Int) × (List (List Int)) × Int × (Option Addr) × Nat × Hd) => Rg l0_2 i13 ys15 ∧ ys15.length = k16 ∧ impl_Plan_outputExponents.l0 l2 ys15 l9 i13 = some o21) [4, 6, 15, 16, 17, 18, 19, 20, 21, 22, 23, 24, 25, 26, 27] (fun ((ys15, l9, i13, A10, c11, H12) : (List Int) × (List (List Int)) × Int × (Option Addr) × Nat × Hd) => [(4, .slice A10 l9.length c11), (15, .int .i64 i13)]) (fun ((ys15, l9, i13, A10, c11, H12) : (List Int) × (List (List Int)) × Int × (Option Addr) × Nat × Hd) => [row (gk 3 (Kd.int .i64)) 25 (.slice A10 l9.length c11) (zp H12 l9), row (gk 3 (Kd.int .i64)) 25 (.slice A3 l2.length c4) (zp H5 l2)]) l0_2.length (l0_2, ([] : List (List Int)), 0, A6, c7, ([] : Hd)) ⟨Rg.start _, rfl, hl20⟩ ⟨rfl, rfl, trivial⟩ (fun w h => h) ?_
  refine fun k16 => cur6 (listC (fun l9 i13 A10 c11 H12 U22 hJ_ => ?_) (fun y14 ys15 l9 i13 A10 c11 H12 U22 hJ_ => ?_))
  · skip
    clear hl20
    have hr17 := hJ_.1; have hk23 := hJ_.2.1; have h := hJ_.2.2; clear hJ_
    replace h : impl_Plan_outputExponents.l0 l2 [] l9 i13 = some o21 := h
    rw [impl_Plan_outputExponents.l0] at h
    refine c_seq ?_
    refine za0 ?_
    refine o_q rfl rfl (q_lss rfl rfl) ?_
    refine o_end ?_
    refine za1 ?_
    refine c_seq ?_
    refine zb3 (congrArg Value.bool hr17.ge) ?_
    refine zb6 ?_
    refine za6 ?_
    refine za6 ?_
    have e_ := Option.some.inj h; replace h := hR19; rw [← e_] at h; clear e_
    refine x_hit ?_
    refine za1 ?_
    refine c_seq ?_
    refine za0 ?_
    refine o_q rfl rfl (za2 rfl) ?_
    refine o_q rfl rfl (q_asg rfl) ?_
    refine o_end ?_
    refine za1 ?_
    refine c_ret ?_
    have e0_ := Option.some.inj h; clear h
    subst e0_
    exact x_r1 (A10, c11, H12) Try.results135 (zai rfl) rfl (fun w h => za7 [0] (by decide) rfl w h)
  · skip
    clear hl20
    have hr17 := hJ_.1; have hk23 := hJ_.2.1; have h := hJ_.2.2; clear hJ_
    replace h : impl_Plan_outputExponents.l0 l2 (y14 :: ys15) l9 i13 = some o21 := h
    rw [impl_Plan_outputExponents.l0] at h
    refine c_seq ?_
    refine za0 ?_
    refine o_q rfl rfl (q_lss rfl rfl) ?_
    refine o_end ?_
    refine za1 ?_
    refine c_seq ?_
    refine zb2 (congrArg Value.bool hr17.lt) ?_
    refine zam ?_
    refine za1 ?_
    refine c_seq ?_
    refine zaj ?_
    refine c_seq ?_
    refine za0 ?_
    refine zau (p := Sh A0_2 l0_2.length l0_2.length) (fun w h => f_sh (dk := (Kd.int .i64)) h (fun w h => R0_2.now Z h)) (fun hq24 => ?_)
    refine o_q rfl rfl (q_ix Try.underlying25 Z3 rfl rfl hq24 hr17.get) ?_
    refine o_q rfl rfl (q_lde (off := 0) Y3 rfl rfl (fun w h => R0_2.now Z h) hr17.get (fun _ _ h => h) rfl) ?_
    refine o_q rfl rfl (q_asg rfl) ?_
    refine o_end ?_
    refine za1 ?_
    refine za0 ?_
    refine o_q rfl rfl (za2 rfl) ?_
    refine o_q rfl rfl (za2 rfl) ?_
    refine o_q rfl rfl (za2 rfl) ?_
    refine zau (p := Sh A3 l2.length (zp H5 l2).length) (fun w h => f_sh (dk := (gk 3 (Kd.int .i64))) h (fun w h => h.zaq (i := 1) rfl)) (fun hq25 => ?_)
    refine za8 h (fun y27 hg26 h => ?_) rfl
    refine o_q rfl rfl (q_ix Try.underlying60 Z25 rfl rfl hq25 (gt_zp hg26)) ?_
    refine zau (p := y27.length ≤ hC H5 y14) (fun w h => (K_in (h.zaq (i := 1) rfl) hg26).1) (fun hc28 => ?_)
    refine o_q rfl rfl (q_lde (off := 0) Y25 rfl rfl (fun w h => h.zaq (i := 1) rfl) (gt_zp hg26) (fun _ _ h => h.1) rfl) ?_
    refine za8 h (fun l30 hx29 h => ?_) rfl
    refine o_e rfl (zac 0 Z Try.func141 N141 rfl rfl rfl (fun w P1 hF hB hS hT => slices_Clone_int_int.calls (hA H5 y14) (hC H5 y14) y27.length y27 hB hF (stab_in (hT 1 _ rfl).row hg26) hc28 _ hx29)) (cur2 (fun A31 c32 => ?_))
    refine o_e rfl (e_litG (j := 0) (ue := 3) (dk := (Kd.int .i64)) (ys := l30) Try.underlying60 I25 rfl rfl rfl) (cur3 (fun A33 c34 H36 => ?_))
    refine za8 h (fun l37 ha38 h => ?_) rfl
    refine o_e rfl (e_appG (i := 2) (j := 0) Try.underlying60 I25 rfl (by decide) rfl rfl rfl rfl rfl ha38) (cur3 (fun A39 c40 H41 => ?_))
    refine o_q rfl rfl (q_asg rfl) ?_
    refine o_end ?_
    refine zan ?_
    refine za1 ?_
    refine za0 ?_
    refine o_q rfl rfl (q_up rfl rfl (hr17.up hm18)) ?_
    refine o_q rfl rfl (za2 rfl) ?_
    refine o_end ?_
    refine zak ys15.length (ys15, l37, i13 + 1, A39, c40, H41) (by rw [← hk23]; exact Nat.lt_succ_self _) ⟨hr17.step, rfl, h⟩ ⟨rfl, rfl, trivial⟩ (fun w h => za7 [2, 3] (by decide) rfl w h) ?_
    repeat (first | exact zad _ _ | refine zaf rfl ?_ | refine zae rfl ?_ | refine zah rfl ?_)

/-! ### loop.example/g01098/impl.OutputExponents: function 52 -/
def impl_OutputExponents.f (k : Nat) (a0_0 : Int) (l0_1 : List SStep) (l0_2 : List Int) : Option ((List (List Int)) × Bool) := (impl_IsPlan.f k a0_0 l0_1 l0_2).bind fun b4 => if b4 = true then ((impl_Plan_outputExponents.f a0_0 l0_1 l0_2).bind fun l7 => some (l7, true)) else (some (([] : List (List Int)), false))
set_option maxHeartbeats 600000 in
set_option maxRecDepth 100000 in
theorem impl_OutputExponents.calls (k : Nat) {w0 ws : World} {P0 : Nat → Prop} (a0_0 : Int) (A0_1 : Option Addr) (c0_1 : Nat) (n0_1 : Nat) (l0_1 : List SStep) (A0_2 : Option Addr) (c0_2 : Nat) (n0_2 : Nat) (l0_2 : List Int) (Z : Below w0.heap.size w0 ws) (hF : Fr w0 ws P0 [] ws) (R0_1 : Stable ws P0 (fun w => Kd.C kStep w A0_1 n0_1 l0_1)) (hc0_1 : n0_1 ≤ c0_1) (R0_2 : Stable ws P0 (fun w => Kd.C (Kd.int .i64) w A0_2 n0_2 l0_2)) (hc0_2 : n0_2 ≤ c0_2) (r_1 : List (List Int)) (r_5 : Bool) (h : impl_OutputExponents.f k a0_0 l0_1 l0_2 = some (r_1, r_5)) :
    Calls Try.prog 52 #[.agg #[.int .i64 a0_0, .slice A0_1 n0_1 c0_1, .slice A0_2 n0_2 c0_2]] ws (Post1 w0 ws P0 (fun ((q_2, q_3, q_4) : (Option Addr) × Nat × Hd) => .tuple #[.slice q_2 r_1.length q_3, .bool r_5]) (fun ((q_2, q_3, q_4) : (Option Addr) × Nat × Hd) => [row (gk 3 (Kd.int .i64)) 25 (.slice q_2 r_1.length q_3) (zp q_4 r_1)])) := by
  unfold impl_OutputExponents.f at h
  obtain rfl := (R0_1 ws (KeptB.refl _ _)).1
  obtain rfl := (R0_2 ws (KeptB.refl _ _)).1
  refine enter Try.func52 rfl Try.ntmps52 rfl hF ?_
  refine c_seq ?_
  refine za0 ?_
  refine o_e rfl (e_box rfl) (fun g1 => ?_)
  refine o_q rfl rfl (q_asg rfl) ?_
  refine o_q rfl rfl (q_asg rfl) ?_
  refine o_end ?_
  refine za1 ?_
  refine c_seq ?_
  refine c_seq ?_
  refine za0 ?_
  refine o_q rfl rfl (q_ldB G27 Z27 rfl (fun w h => h.zab (i := 0) rfl) rfl) ?_
  refine za8 h (fun b4 hx3 h => ?_) rfl
  refine o_e rfl (zac 0 Z Try.func86 N86 rfl rfl rfl (fun w P1 hF hB hS hT => impl_IsPlan.calls k a0_0 A0_1 c0_1 l0_1.length l0_1 A0_2 c0_2 l0_2.length l0_2 hB hF (hS _ R0_1) hc0_1 (hS _ R0_2) hc0_2 _ hx3)) (fun _ => ?_)
  refine o_q rfl rfl (q_not rfl) ?_
  refine o_end ?_
  refine za1 ?_
  refine zar _ rfl (fun hb5 => ?_) (fun hb5 => ?_)
  · replace hb5 := nt_t hb5
    replace h := bb_f hb5 h
    refine c_seq ?_
    refine za0 ?_
    refine o_q rfl rfl (q_asg rfl) ?_
    refine o_q rfl rfl (q_asg rfl) ?_
    refine o_end ?_
    refine za1 ?_
    refine c_ret ?_
    refine zaa ?_
    refine x_nil (gk 3 (Kd.int .i64)) 25 ?_
    have e0_ := Option.some.inj h; clear h
    have d0_ := (Prod.mk.inj e0_).1; have e1_ := (Prod.mk.inj e0_).2; clear e0_; subst d0_
    subst e1_
    exact x_r2 (none, 0, ([] : Hd)) Try.results52 (zai rfl) (zai rfl) rfl (fun w h => za7 [0] (by decide) rfl w h)
  · replace hb5 := nt_f hb5
    replace h := bb_t hb5 h
    refine zam ?_
    refine za1 ?_
    refine c_seq ?_
    refine za0 ?_
    refine za8 h (fun l7 hx6 h => ?_) rfl
    refine o_e rfl (zac 0 Z Try.func135 N135 rfl rfl rfl (fun w P1 hF hB hS hT => impl_Plan_outputExponents.calls g1 a0_0 A0_1 c0_1 l0_1.length l0_1 A0_2 c0_2 l0_2.length l0_2 hB hF (hS _ R0_1) hc0_1 (hS _ R0_2) hc0_2 (hT 0 _ rfl).box _ hx6)) (cur3 (fun A8 c9 H10 => ?_))
    refine o_q rfl rfl (q_asg rfl) ?_
    refine o_q rfl rfl (q_asg rfl) ?_
    refine o_end ?_
    refine za1 ?_
    refine c_ret ?_
    have e0_ := Option.some.inj h; clear h
    have d0_ := (Prod.mk.inj e0_).1; have e1_ := (Prod.mk.inj e0_).2; clear e0_; subst d0_
    subst e1_
    exact x_r2 (A8, c9, H10) Try.results52 (zai rfl) (zai rfl) rfl (fun w h => za7 [0] (by decide) rfl w h)

/-! ### loop.example/g01098/laws.pSum: function 66 -/
def laws_pSum.l0 : (List Int) → Int → Int → Option Int
  | [], i1, i2 => some i1
  | y3 :: ys4, i1, i2 => laws_pSum.l0 ys4 (w64 (i1 + y3)) (i2 + 1)
def laws_pSum.f (l0 : List Int) : Option Int := (laws_pSum.l0 l0 0 0).bind fun i1 => some i1
set_option maxHeartbeats 600000 in
set_option maxRecDepth 100000 in
theorem laws_pSum.calls {w0 ws : World} {P0 : Nat → Prop} (A0 : Option Addr) (c0 : Nat) (n0 : Nat) (l0 : List Int) (Z : Below w0.heap.size w0 ws) (hF : Fr w0 ws P0 [] ws) (R0 : Stable ws P0 (fun w => Kd.C (Kd.int .i64) w A0 n0 l0)) (hc0 : n0 ≤ c0) (r_1 : Int) (h : laws_pSum.f l0 = some r_1) :
    Calls Try.prog 66 #[.slice A0 n0 c0] ws (Post1 w0 ws P0 (fun (_ : Unit) => .int .i64 r_1) (fun (_ : Unit) => [])) := by
  unfold laws_pSum.f at h
  obtain rfl := (R0 ws (KeptB.refl _ _)).1
  refine enter Try.func66 rfl Try.ntmps66 rfl hF ?_
  refine c_seq ?_
  refine za0 ?_
  refine o_q rfl rfl (q_asg rfl) ?_
  refine o_end ?_
  refine za1 ?_
  refine c_seq ?_
  refine za0 ?_
  refine o_q rfl rfl (q_asg rfl) ?_
  refine o_end ?_
  refine za1 ?_
  refine c_seq ?_
  refine c_seq ?_
  refine za0 ?_
  refine o_q rfl rfl (za2 rfl) ?_
  refine o_q rfl rfl (q_len Try.underlying25 rfl) ?_
  refine o_q rfl rfl (za2 rfl) ?_
  refine o_end ?_
  refine za1 ?_
  refine zaj ?_
  refine za8 h (fun o10 hl9 hR8 => ?_) rfl
  clear h
  refine c_fact (p := l0.length ≤ 9223372036854775807) (fun w h => (R0.now Z h).2.1) (fun hm7 => ?_)
  refine zax (σ := (List Int) × Int × Int) (fun k5 ((ys4, i1, i2) : (List Int) × Int × Int) => Rg l0 i2 ys4 ∧ ys4.length = k5 ∧ laws_pSum.l0 ys4 i1 i2 = some o10) [3, 5, 8, 9, 10, 11, 12, 13, 14, 15] (fun ((ys4, i1, i2) : (List Int) × Int × Int) => [(3, .int .i64 i1), (8, .int .i64 i2)]) (fun ((ys4, i1, i2) : (List Int) × Int × Int) => []) l0.length (l0, 0, 0) ⟨Rg.start _, rfl, hl9⟩ ⟨rfl, rfl, trivial⟩ (fun w h => h) ?_
  refine fun k5 => cur3 (listC (fun i1 i2 U11 hJ_ => ?_) (fun y3 ys4 i1 i2 U11 hJ_ => ?_))
  · skip
    clear hl9
    have hr6 := hJ_.1; have hk12 := hJ_.2.1; have h := hJ_.2.2; clear hJ_
    replace h : laws_pSum.l0 [] i1 i2 = some o10 := h
    rw [laws_pSum.l0] at h
    refine c_seq ?_
    refine za0 ?_
    refine o_q rfl rfl (q_lss rfl rfl) ?_
    refine o_end ?_
    refine za1 ?_
    refine c_seq ?_
    refine zb3 (congrArg Value.bool hr6.ge) ?_
    refine zb6 ?_
    refine za6 ?_
    refine za6 ?_
    have e_ := Option.some.inj h; replace h := hR8; rw [← e_] at h; clear e_
    refine x_hit ?_
    refine za1 ?_
    refine c_seq ?_
    refine za0 ?_
    refine o_q rfl rfl (za2 rfl) ?_
    refine o_q rfl rfl (q_asg rfl) ?_
    refine o_end ?_
    refine za1 ?_
    refine c_ret ?_
    have e0_ := Option.some.inj h; clear h
    subst e0_
    exact x_r1 () Try.results66 (zai rfl) rfl (fun w h => za7 [] (by decide) rfl w h)
  · skip
    clear hl9
    have hr6 := hJ_.1; have hk12 := hJ_.2.1; have h := hJ_.2.2; clear hJ_
    replace h : laws_pSum.l0 (y3 :: ys4) i1 i2 = some o10 := h
    rw [laws_pSum.l0] at h
    refine c_seq ?_
    refine za0 ?_
    refine o_q rfl rfl (q_lss rfl rfl) ?_
    refine o_end ?_
    refine za1 ?_
    refine c_seq ?_
    refine zb2 (congrArg Value.bool hr6.lt) ?_
    refine zam ?_
    refine za1 ?_
    refine c_seq ?_
    refine zaj ?_
    refine c_seq ?_
    refine za0 ?_
    refine zau (p := Sh A0 l0.length l0.length) (fun w h => f_sh (dk := (Kd.int .i64)) h (fun w h => R0.now Z h)) (fun hq13 => ?_)
    refine o_q rfl rfl (q_ix Try.underlying25 Z3 rfl rfl hq13 hr6.get) ?_
    refine o_q rfl rfl (q_lde (off := 0) Y3 rfl rfl (fun w h => R0.now Z h) hr6.get (fun _ _ h => h) rfl) ?_
    refine o_q rfl rfl (q_asg rfl) ?_
    refine o_end ?_
    refine za1 ?_
    refine za0 ?_
    refine o_q rfl rfl (za2 rfl) ?_
    refine o_q rfl rfl (za2 rfl) ?_
    refine o_q rfl rfl (q_add64 rfl rfl) ?_
    refine o_q rfl rfl (q_asg rfl) ?_
    refine o_end ?_
    refine zan ?_
    refine za1 ?_
    refine za0 ?_
    refine o_q rfl rfl (q_up rfl rfl (hr6.up hm7)) ?_
    refine o_q rfl rfl (za2 rfl) ?_
    refine o_end ?_
    refine zak ys4.length (ys4, w64 (i1 + y3), i2 + 1) (by rw [← hk12]; exact Nat.lt_succ_self _) ⟨hr6.step, rfl, h⟩ ⟨rfl, rfl, trivial⟩ (fun w h => za7 [] (by decide) rfl w h) ?_
    repeat (first | exact zad _ _ | refine zaf rfl ?_ | refine zae rfl ?_ | refine zah rfl ?_)

/-! ### (*loop.example/g01098/impl.Plan).uses: function 114 -/
def impl_Plan_uses.l1 : (List Int) → (List Int) → Int → Option (List Int)
  | [], l19, i20 => some l19
  | y21 :: ys22, l19, i20 => (gt l19 y21).bind fun y35 => (gt l19 y21).bind fun y37 => (st l19 y21 (w64 (y35 + 1))).bind fun l38 => impl_Plan_uses.l1 ys22 l38 (i20 + 1)
def impl_Plan_uses.l0 : (List SStep) → (List Int) → Int → Option (List Int)
  | [], l7, i8 => some l7
  | y9 :: ys10, l7, i8 => (gt l7 y9.f0).bind fun y45 => (gt l7 y9.f0).bind fun y47 => (st l7 y9.f0 (w64 (y45 + 1))).bind fun l48 => (gt l48 y9.f1).bind fun y52 => (gt l48 y9.f1).bind fun y54 => (st l48 y9.f1 (w64 (y52 + 1))).bind fun l55 => impl_Plan_uses.l0 ys10 l55 (i8 + 1)
def impl_Plan_uses.f (a0_0 : Int) (l0_1 : List SStep) (l0_2 : List Int) : Option (List Int) := (impl_Plan_many.f a0_0 l0_1 l0_2).bind fun _ => (mk0 (w64 (a0_0 + (l0_1.length : Int))) (0 : Int)).bind fun l2 => (impl_Plan_uses.l0 l0_1 l2 0).bind fun l7 => (impl_Plan_uses.l1 l0_2 l7 0).bind fun l19 => some l19
set_option maxHeartbeats 600000 in
set_option maxRecDepth 100000 in
theorem impl_Plan_uses.calls {w0 ws : World} {P0 : Nat → Prop} (g0 : Nat) (a0_0 : Int) (A0_1 : Option Addr) (c0_1 : Nat) (n0_1 : Nat) (l0_1 : List SStep) (A0_2 : Option Addr) (c0_2 : Nat) (n0_2 : Nat) (l0_2 : List Int) (Z : Below w0.heap.size w0 ws) (hF : Fr w0 ws P0 [] ws) (R0_1 : Stable ws P0 (fun w => Kd.C kStep w A0_1 n0_1 l0_1)) (hc0_1 : n0_1 ≤ c0_1) (R0_2 : Stable ws P0 (fun w => Kd.C (Kd.int .i64) w A0_2 n0_2 l0_2)) (hc0_2 : n0_2 ≤ c0_2) (B0 : Stable ws P0 (fun w => w.heap[g0]? = some (.cells #[.int .i64 a0_0, .slice A0_1 n0_1 c0_1, .slice A0_2 n0_2 c0_2] 27 (0, 0)))) (r_1 : List Int) (h : impl_Plan_uses.f a0_0 l0_1 l0_2 = some r_1) :
    Calls Try.prog 114 #[.pointer (some ⟨g0, 0, none⟩)] ws (Post1 w0 ws P0 (fun ((q_2, q_3) : (Option Addr) × Nat) => .slice q_2 r_1.length q_3) (fun ((q_2, q_3) : (Option Addr) × Nat) => [row (Kd.int .i64) 3 (.slice q_2 r_1.length q_3) r_1])) := by
  unfold impl_Plan_uses.f at h
  obtain rfl := (R0_1 ws (KeptB.refl _ _)).1
  obtain rfl := (R0_2 ws (KeptB.refl _ _)).1
  refine enter Try.func114 rfl Try.ntmps114 rfl hF ?_
  refine c_seq ?_
  refine za0 ?_
  refine o_q rfl rfl (q_asg rfl) ?_
  refine o_end ?_
  refine za1 ?_
  refine c_seq ?_
  refine za0 ?_
  refine o_q rfl rfl (za2 rfl) ?_
  refine za8 h (fun _ hx1 h => ?_) rfl
  refine o_e rfl (zac 0 Z Try.func90 N90 rfl rfl rfl (fun w P1 hF hB hS hT => impl_Plan_many.calls g0 a0_0 A0_1 c0_1 l0_1.length l0_1 A0_2 c0_2 l0_2.length l0_2 hB hF (hS _ R0_1) hc0_1 (hS _ R0_2) hc0_2 (hS _ B0) hx1)) (fun _ => ?_)
  refine za8 h (fun l2 hm3 h => ?_) rfl
  refine o_e rfl (e_make (Kd.int .i64) (0 : Int) Try.underlying25 I3 rfl (by decide) (by decide) (fun _ _ => rfl) rfl rfl hm3) (cur2 (fun A4 c5 => ?_))
  refine o_q rfl rfl (q_asg rfl) ?_
  refine o_end ?_
  refine za1 ?_
  refine c_seq ?_
  refine c_seq ?_
  refine za0 ?_
  refine o_q rfl rfl (za2 rfl) ?_
  refine o_q rfl rfl (q_nil rfl) ?_
  refine o_q rfl rfl (q_f F27_1 rfl) ?_
  refine o_q rfl rfl (q_ldb Y24 rfl (fun w h => B0.now Z h) rfl) ?_
  refine o_q rfl rfl (q_len Try.underlying24 rfl) ?_
  refine o_q rfl rfl (za2 rfl) ?_
  refine o_end ?_
  refine za1 ?_
  refine zaj ?_
  refine za8 h (fun o16 hl15 hR14 => ?_) rfl
  clear h
  refine c_fact (p := l0_1.length ≤ 9223372036854775807) (fun w h => (R0_1.now Z h).2.1) (fun hm13 => ?_)
  refine zax (σ := (List SStep) × (List Int) × Int) (fun k11 ((ys10, l7, i8) : (List SStep) × (List Int) × Int) => Rg l0_1 i8 ys10 ∧ ys10.length = k11 ∧ impl_Plan_uses.l0 ys10 l7 i8 = some o16) [5, 16, 17, 18, 19, 20, 21, 22, 23, 24, 25, 26, 27, 28, 29, 30, 31, 32, 33, 34] (fun ((ys10, l7, i8) : (List SStep) × (List Int) × Int) => [(16, .int .i64 i8)]) (fun ((ys10, l7, i8) : (List SStep) × (List Int) × Int) => [row (Kd.int .i64) 3 (.slice A4 l2.length c5) l7]) l0_1.length (l0_1, l2, 0) ⟨Rg.start _, rfl, hl15⟩ ⟨rfl, trivial⟩ (fun w h => h) ?_
  refine fun k11 => cur3 (listC (fun l7 i8 U17 hJ_ => ?_) (fun y9 ys10 l7 i8 U17 hJ_ => ?_))
  · skip
    clear hl15
    have hr12 := hJ_.1; have hk18 := hJ_.2.1; have h := hJ_.2.2; clear hJ_
    replace h : impl_Plan_uses.l0 [] l7 i8 = some o16 := h
    rw [impl_Plan_uses.l0] at h
    refine c_seq ?_
    refine za0 ?_
    refine o_q rfl rfl (q_lss rfl rfl) ?_
    refine o_end ?_
    refine za1 ?_
    refine c_seq ?_
    refine zb3 (congrArg Value.bool hr12.ge) ?_
    refine zb6 ?_
    refine za6 ?_
    refine za6 ?_
    have e_ := Option.some.inj h; replace h := hR14; rw [← e_] at h; clear e_
    refine x_hit ?_
    refine za1 ?_
    refine c_seq ?_
    refine c_seq ?_
    refine za0 ?_
    refine o_q rfl rfl (za2 rfl) ?_
    refine o_q rfl rfl (q_nil rfl) ?_
    refine o_q rfl rfl (q_f F27_2 rfl) ?_
    refine o_q rfl rfl (q_ldb Y25 rfl (fun w h => B0.now Z h) rfl) ?_
    refine o_q rfl rfl (q_len Try.underlying25 rfl) ?_
    refine o_q rfl rfl (za2 rfl) ?_
    refine o_end ?_
    refine za1 ?_
    refine zaj ?_
    refine za8 h (fun o28 hl27 hR26 => ?_) rfl
    clear h
    refine c_fact (p := l0_2.length ≤ 9223372036854775807) (fun w h => (R0_2.now Z h).2.1) (fun hm25 => ?_)
    refine zax (σ := (List Int) × (List Int) × Int) (fun k23 ((ys22, l19, i20) : (List Int) × (List Int) × Int) => Rg l0_2 i20 ys22 ∧ ys22.length = k23 ∧ impl_Plan_uses.l1 ys22 l19 i20 = some o28) [7, 40, 41, 42, 43, 44, 45, 46, 47, 48, 49, 50] (fun ((ys22, l19, i20) : (List Int) × (List Int) × Int) => [(40, .int .i64 i20)]) (fun ((ys22, l19, i20) : (List Int) × (List Int) × Int) => [row (Kd.int .i64) 3 (.slice A4 l2.length c5) l19]) l0_2.length (l0_2, l7, 0) ⟨Rg.start _, rfl, hl27⟩ ⟨rfl, trivial⟩ (fun w h => h) ?_
    refine fun k23 => cur3 (listC (fun l19 i20 U29 hJ_ => ?_) (fun y21 ys22 l19 i20 U29 hJ_ => ?_))
    · skip
      clear hl27
      have hr24 := hJ_.1; have hk30 := hJ_.2.1; have h := hJ_.2.2; clear hJ_
      replace h : impl_Plan_uses.l1 [] l19 i20 = some o28 := h
      rw [impl_Plan_uses.l1] at h
      refine c_seq ?_
      refine za0 ?_
      refine o_q rfl rfl (q_lss rfl rfl) ?_
      refine o_end ?_
      refine za1 ?_
      refine c_seq ?_
      refine zb3 (congrArg Value.bool hr24.ge) ?_
      refine zb6 ?_
      refine za6 ?_
      refine za6 ?_
      have e_ := Option.some.inj h; replace h := hR26; rw [← e_] at h; clear e_
      refine x_hit ?_
      refine za1 ?_
      refine c_seq ?_
      refine za0 ?_
      refine o_q rfl rfl (za2 rfl) ?_
      refine o_q rfl rfl (q_asg rfl) ?_
      refine o_end ?_
      refine za1 ?_
      refine c_ret ?_
      refine x_fact (p := l2.length = l19.length) (fun w h => (h.row_C (i := 0) rfl).2.1) (fun hn31 => ?_)
      have e0_ := Option.some.inj h; clear h
      subst e0_
      exact x_r1 (A4, c5) Try.results114 (zai (v := .slice A4 l2.length c5) rfl) (by (try rw [hn31]); first | done | rfl) (f_pickE (L1 := [row (Kd.int .i64) 3 (.slice A4 l2.length c5) l19]) rfl [0] (by decide) rfl (by (try rw [hn31]); first | done | rfl))
    · skip
      clear hl27
      have hr24 := hJ_.1; have hk30 := hJ_.2.1; have h := hJ_.2.2; clear hJ_
      replace h : impl_Plan_uses.l1 (y21 :: ys22) l19 i20 = some o28 := h
      rw [impl_Plan_uses.l1] at h
      refine c_seq ?_
      refine za0 ?_
      refine o_q rfl rfl (q_lss rfl rfl) ?_
      refine o_end ?_
      refine za1 ?_
      refine c_seq ?_
      refine zb2 (congrArg Value.bool hr24.lt) ?_
      refine zam ?_
      refine za1 ?_
      refine c_seq ?_
      refine zaj ?_
      refine c_seq ?_
      refine za0 ?_
      refine zau (p := Sh A0_2 l0_2.length l0_2.length) (fun w h => f_sh (dk := (Kd.int .i64)) h (fun w h => R0_2.now Z h)) (fun hq32 => ?_)
      refine o_q rfl rfl (q_ix Try.underlying25 Z3 rfl rfl hq32 hr24.get) ?_
      refine o_q rfl rfl (q_lde (off := 0) Y3 rfl rfl (fun w h => R0_2.now Z h) hr24.get (fun _ _ h => h) rfl) ?_
      refine o_q rfl rfl (q_asg rfl) ?_
      refine o_end ?_
      refine za1 ?_
      refine za0 ?_
      refine o_q rfl rfl (za2 rfl) ?_
      refine o_q rfl rfl (za2 rfl) ?_
      refine zau (p := Sh A4 l2.length l19.length) (fun w h => f_sh (dk := (Kd.int .i64)) h (fun w h => h.zaq (i := 0) rfl)) (fun hq33 => ?_)
      refine za8 h (fun y35 hg34 h => ?_) rfl
      refine o_q rfl rfl (q_ix Try.underlying25 Z3 rfl rfl hq33 hg34) ?_
      refine o_q rfl rfl (q_lde (off := 0) Y3 rfl rfl (fun w h => h.zaq (i := 0) rfl) hg34 (fun _ _ h => h) rfl) ?_
      refine o_q rfl rfl (q_add64 rfl rfl) ?_
      refine za8 h (fun y37 hg36 h => ?_) rfl
      refine o_q rfl rfl (q_ix Try.underlying25 Z3 rfl rfl hq33 hg36) ?_
      refine za8 h (fun l38 hs39 h => ?_) rfl
      refine o_e rfl (e_set (i := 0) rfl rfl rfl Z3 hs39) (fun _ => ?_)
      refine o_end ?_
      refine zan ?_
      refine za1 ?_
      refine za0 ?_
      refine o_q rfl rfl (q_up rfl rfl (hr24.up hm25)) ?_
      refine o_q rfl rfl (za2 rfl) ?_
      refine o_end ?_
      refine zak ys22.length (ys22, l38, i20 + 1) (by rw [← hk30]; exact Nat.lt_succ_self _) ⟨hr24.step, rfl, h⟩ ⟨rfl, trivial⟩ (fun w h => za7 [0] (by decide) rfl w h) ?_
      repeat (first | exact zad _ _ | refine zaf rfl ?_ | refine zae rfl ?_ | refine zah rfl ?_)
  · skip
    clear hl15
    have hr12 := hJ_.1; have hk18 := hJ_.2.1; have h := hJ_.2.2; clear hJ_
    replace h : impl_Plan_uses.l0 (y9 :: ys10) l7 i8 = some o16 := h
    rw [impl_Plan_uses.l0] at h
    refine c_seq ?_
    refine za0 ?_
    refine o_q rfl rfl (q_lss rfl rfl) ?_
    refine o_end ?_
    refine za1 ?_
    refine c_seq ?_
    refine zb2 (congrArg Value.bool hr12.lt) ?_
    refine zam ?_
    refine za1 ?_
    refine c_seq ?_
    refine zaj ?_
    refine c_seq ?_
    refine za0 ?_
    refine zau (p := Sh A0_1 l0_1.length l0_1.length) (fun w h => f_sh (dk := kStep) h (fun w h => R0_1.now Z h)) (fun hq40 => ?_)
    refine o_q rfl rfl (q_ix Try.underlying24 Z89 rfl rfl hq40 hr12.get) ?_
    refine o_q rfl rfl (q_ldE G89 Z89 rfl rfl (fun w h => R0_1.now Z h) hr12.get (fun _ _ h => h) rfl) ?_
    refine o_e rfl (zav V89 rfl) (fun g41 => ?_)
    refine o_e rfl (zal (i := 0) rfl rfl rfl Z89 rfl rfl) (fun _ => ?_)
    refine o_end ?_
    refine za1 ?_
    refine c_seq ?_
    refine za0 ?_
    refine o_q rfl rfl (za2 rfl) ?_
    refine o_q rfl rfl (q_f F89_0 rfl) ?_
    refine o_q rfl rfl (q_ldb Y3 rfl (fun w h => h.zab (i := 0) rfl) rfl) ?_
    refine zau (p := Sh A4 l2.length l7.length) (fun w h => f_sh (dk := (Kd.int .i64)) h (fun w h => h.zaq (i := 1) rfl)) (fun hq43 => ?_)
    refine za8 h (fun y45 hg44 h => ?_) rfl
    refine o_q rfl rfl (q_ix Try.underlying25 Z3 rfl rfl hq43 hg44) ?_
    refine o_q rfl rfl (q_lde (off := 0) Y3 rfl rfl (fun w h => h.zaq (i := 1) rfl) hg44 (fun _ _ h => h) rfl) ?_
    refine o_q rfl rfl (q_add64 rfl rfl) ?_
    refine za8 h (fun y47 hg46 h => ?_) rfl
    refine o_q rfl rfl (q_ix Try.underlying25 Z3 rfl rfl hq43 hg46) ?_
    refine za8 h (fun l48 hs49 h => ?_) rfl
    refine o_e rfl (e_set (i := 1) rfl rfl rfl Z3 hs49) (fun _ => ?_)
    refine o_end ?_
    refine za1 ?_
    refine za0 ?_
    refine o_q rfl rfl (za2 rfl) ?_
    refine o_q rfl rfl (q_f F89_1 rfl) ?_
    refine o_q rfl rfl (q_ldb Y3 rfl (fun w h => h.zab (i := 0) rfl) rfl) ?_
    refine zau (p := Sh A4 l2.length l48.length) (fun w h => f_sh (dk := (Kd.int .i64)) h (fun w h => h.zaq (i := 1) rfl)) (fun hq50 => ?_)
    refine za8 h (fun y52 hg51 h => ?_) rfl
    refine o_q rfl rfl (q_ix Try.underlying25 Z3 rfl rfl hq50 hg51) ?_
    refine o_q rfl rfl (q_lde (off := 0) Y3 rfl rfl (fun w h => h.zaq (i := 1) rfl) hg51 (fun _ _ h => h) rfl) ?_
    refine o_q rfl rfl (q_add64 rfl rfl) ?_
    refine za8 h (fun y54 hg53 h => ?_) rfl
    refine o_q rfl rfl (q_ix Try.underlying25 Z3 rfl rfl hq50 hg53) ?_
    refine za8 h (fun l55 hs56 h => ?_) rfl
    refine o_e rfl (e_set (i := 1) rfl rfl rfl Z3 hs56) (fun _ => ?_)
    refine o_end ?_
    refine zan ?_
    refine za1 ?_
    refine za0 ?_
    refine o_q rfl rfl (q_up rfl rfl (hr12.up hm13)) ?_
    refine o_q rfl rfl (za2 rfl) ?_
    refine o_end ?_
    refine zak ys10.length (ys10, l55, i8 + 1) (by rw [← hk18]; exact Nat.lt_succ_self _) ⟨hr12.step, rfl, h⟩ ⟨rfl, trivial⟩ (fun w h => za7 [1] (by decide) rfl w h) ?_
    repeat (first | exact zad _ _ | refine zaf rfl ?_ | refine zae rfl ?_ | refine zah rfl ?_)

/-! ### slices.Index[[]int,int]: function 229 -/
def slices_Index_int_int.l0 (a1 : Int) : (List Int) → Int → Option ((Int) ⊕ (Unit))
  | [], i1 => some (.inr ())
  | y2 :: ys3, i1 => if a1 = y2 then (some (.inl i1)) else (slices_Index_int_int.l0 a1 ys3 (i1 + 1))
def slices_Index_int_int.f (l0 : List Int) (a1 : Int) : Option Int := (slices_Index_int_int.l0 a1 l0 0).bind fun o_ => match o_ with | .inl r_ => some r_ | .inr _ => some (-1)
set_option maxHeartbeats 600000 in
set_option maxRecDepth 100000 in
theorem slices_Index_int_int.calls {w0 ws : World} {P0 : Nat → Prop} (A0 : Option Addr) (c0 : Nat) (n0 : Nat) (l0 : List Int) (a1 : Int) (Z : Below w0.heap.size w0 ws) (hF : Fr w0 ws P0 [] ws) (R0 : Stable ws P0 (fun w => Kd.C (Kd.int .i64) w A0 n0 l0)) (hc0 : n0 ≤ c0) (r_1 : Int) (h : slices_Index_int_int.f l0 a1 = some r_1) :
    Calls Try.prog 229 #[.slice A0 n0 c0, .int .i64 a1] ws (Post1 w0 ws P0 (fun (_ : Unit) => .int .i64 r_1) (fun (_ : Unit) => [])) := by
  unfold slices_Index_int_int.f at h
  obtain rfl := (R0 ws (KeptB.refl _ _)).1
  refine enter Try.func229 rfl Try.ntmps229 rfl hF ?_
  refine c_seq ?_
  refine za0 ?_
  refine o_q rfl rfl (q_asg rfl) ?_
  refine o_end ?_
  refine za1 ?_
  refine c_seq ?_
  refine c_seq ?_
  refine za0 ?_
  refine o_q rfl rfl (za2 rfl) ?_
  refine o_q rfl rfl (q_len Try.underlying25 rfl) ?_
  refine o_q rfl rfl (za2 rfl) ?_
  refine o_end ?_
  refine za1 ?_
  refine zaj ?_
  refine za8 h (fun o9 hl8 hR7 => ?_) rfl
  clear h
  refine c_fact (p := l0.length ≤ 9223372036854775807) (fun w h => (R0.now Z h).2.1) (fun hm6 => ?_)
  refine zax (σ := (List Int) × Int) (fun k4 ((ys3, i1) : (List Int) × Int) => Rg l0 i1 ys3 ∧ ys3.length = k4 ∧ slices_Index_int_int.l0 a1 ys3 i1 = some o9) [4, 5, 8, 9, 10, 11, 12, 13, 14, 15, 16, 17, 18] (fun ((ys3, i1) : (List Int) × Int) => [(8, .int .i64 i1)]) (fun ((ys3, i1) : (List Int) × Int) => []) l0.length (l0, 0) ⟨Rg.start _, rfl, hl8⟩ ⟨rfl, trivial⟩ (fun w h => h) ?_
  refine fun k4 => cur2 (listC (fun i1 U10 hJ_ => ?_) (fun y2 ys3 i1 U10 hJ_ => ?_))
  · skip
    clear hl8
    have hr5 := hJ_.1; have hk11 := hJ_.2.1; have h := hJ_.2.2; clear hJ_
    replace h : slices_Index_int_int.l0 a1 [] i1 = some o9 := h
    rw [slices_Index_int_int.l0] at h
    refine c_seq ?_
    refine za0 ?_
    refine o_q rfl rfl (q_lss rfl rfl) ?_
    refine o_end ?_
    refine za1 ?_
    refine c_seq ?_
    refine zb3 (congrArg Value.bool hr5.ge) ?_
    refine zb6 ?_
    refine za6 ?_
    refine za6 ?_
    have e_ := Option.some.inj h; replace h := hR7; rw [← e_] at h; clear e_
    refine x_hit ?_
    refine za1 ?_
    refine c_seq ?_
    refine za0 ?_
    refine o_q rfl rfl (q_asg rfl) ?_
    refine o_end ?_
    refine za1 ?_
    refine c_ret ?_
    have e0_ := Option.some.inj h; clear h
    subst e0_
    exact x_r1 () Try.results229 (zai rfl) rfl (fun w h => za7 [] (by decide) rfl w h)
  · skip
    clear hl8
    have hr5 := hJ_.1; have hk11 := hJ_.2.1; have h := hJ_.2.2; clear hJ_
    replace h : slices_Index_int_int.l0 a1 (y2 :: ys3) i1 = some o9 := h
    rw [slices_Index_int_int.l0] at h
    refine c_seq ?_
    refine za0 ?_
    refine o_q rfl rfl (q_lss rfl rfl) ?_
    refine o_end ?_
    refine za1 ?_
    refine c_seq ?_
    refine zb2 (congrArg Value.bool hr5.lt) ?_
    refine zam ?_
    refine za1 ?_
    refine c_seq ?_
    refine zaj ?_
    refine c_seq ?_
    refine za0 ?_
    refine o_q rfl rfl (za2 rfl) ?_
    refine o_q rfl rfl (q_asg rfl) ?_
    refine o_end ?_
    refine za1 ?_
    refine c_seq ?_
    refine za0 ?_
    refine o_q rfl rfl (za2 rfl) ?_
    refine o_q rfl rfl (za2 rfl) ?_
    refine o_q rfl rfl (za2 rfl) ?_
    refine zau (p := Sh A0 l0.length l0.length) (fun w h => f_sh (dk := (Kd.int .i64)) h (fun w h => R0.now Z h)) (fun hq12 => ?_)
    refine o_q rfl rfl (q_ix Try.underlying25 Z3 rfl rfl hq12 hr5.get) ?_
    refine o_q rfl rfl (q_lde (off := 0) Y3 rfl rfl (fun w h => R0.now Z h) hr5.get (fun _ _ h => h) rfl) ?_
    refine o_q rfl rfl (q_eql rfl rfl) ?_
    refine o_end ?_
    refine za1 ?_
    refine zar _ rfl (fun hb13 => ?_) (fun hb13 => ?_)
    · skip
      replace h := br_t hb13 h
      refine c_seq ?_
      refine za0 ?_
      refine o_q rfl rfl (za2 rfl) ?_
      refine o_q rfl rfl (q_asg rfl) ?_
      refine o_end ?_
      refine za1 ?_
      refine c_ret ?_
      refine zao ?_
      refine zaa ?_
      refine zaa ?_
      have e_ := Option.some.inj h; replace h := hR7; rw [← e_] at h; clear e_
      refine zao ?_
      refine zaa ?_
      have e0_ := Option.some.inj h; clear h
      subst e0_
      exact x_r1 () Try.results229 (zai rfl) rfl (fun w h => za7 [] (by decide) rfl w h)
    · skip
      replace h := br_f hb13 h
      refine zam ?_
      refine zan ?_
      refine za1 ?_
      refine za0 ?_
      refine o_q rfl rfl (q_up rfl rfl (hr5.up hm6)) ?_
      refine o_q rfl rfl (za2 rfl) ?_
      refine o_end ?_
      refine zak ys3.length (ys3, i1 + 1) (by rw [← hk11]; exact Nat.lt_succ_self _) ⟨hr5.step, rfl, h⟩ ⟨rfl, trivial⟩ (fun w h => za7 [] (by decide) rfl w h) ?_
      repeat (first | exact zad _ _ | refine zaf rfl ?_ | refine zae rfl ?_ | refine zah rfl ?_)

/-! ### slices.Contains[[]int,int]: function 210 -/
def slices_Contains_int_int.f (l0 : List Int) (a1 : Int) : Option Bool := (slices_Index_int_int.f l0 a1).bind fun i2 => some (decide (0 ≤ i2))
set_option maxHeartbeats 600000 in
set_option maxRecDepth 100000 in
theorem slices_Contains_int_int.calls {w0 ws : World} {P0 : Nat → Prop} (A0 : Option Addr) (c0 : Nat) (n0 : Nat) (l0 : List Int) (a1 : Int) (Z : Below w0.heap.size w0 ws) (hF : Fr w0 ws P0 [] ws) (R0 : Stable ws P0 (fun w => Kd.C (Kd.int .i64) w A0 n0 l0)) (hc0 : n0 ≤ c0) (r_1 : Bool) (h : slices_Contains_int_int.f l0 a1 = some r_1) :
    Calls Try.prog 210 #[.slice A0 n0 c0, .int .i64 a1] ws (Post1 w0 ws P0 (fun (_ : Unit) => .bool r_1) (fun (_ : Unit) => [])) := by
  unfold slices_Contains_int_int.f at h
  obtain rfl := (R0 ws (KeptB.refl _ _)).1
  refine enter Try.func210 rfl Try.ntmps210 rfl hF ?_
  refine c_seq ?_
  refine za0 ?_
  refine o_q rfl rfl (q_asg rfl) ?_
  refine o_end ?_
  refine za1 ?_
  refine c_seq ?_
  refine za0 ?_
  refine o_q rfl rfl (za2 rfl) ?_
  refine o_q rfl rfl (za2 rfl) ?_
  refine za8 h (fun i2 hx1 h => ?_) rfl
  refine o_e rfl (zac 0 Z Try.func229 N229 rfl rfl rfl (fun w P1 hF hB hS hT => slices_Index_int_int.calls A0 c0 l0.length l0 a1 hB hF (hS _ R0) hc0 _ hx1)) (fun _ => ?_)
  refine o_q rfl rfl (q_geq rfl rfl) ?_
  refine o_q rfl rfl (q_asg rfl) ?_
  refine o_end ?_
  refine za1 ?_
  refine c_ret ?_
  have e0_ := Option.some.inj h; clear h
  subst e0_
  exact x_r1 () Try.results210 (zai rfl) rfl (fun w h => za7 [] (by decide) rfl w h)

/-! ### (*loop.example/g01098/impl.Plan).canTurn: function 155 -/
def impl_Plan_canTurn.f (a0_0 : Int) (l0_1 : List SStep) (l0_2 : List Int) : Option Bool := if 0 < (l0_2.length : Int) then ((impl_Plan_uses.f a0_0 l0_1 l0_2).bind fun l3 => (slices_Contains_int_int.f l3 0).bind fun b7 => some (!b7)) else (some false)
set_option maxHeartbeats 600000 in
set_option maxRecDepth 100000 in
theorem impl_Plan_canTurn.calls {w0 ws : World} {P0 : Nat → Prop} (g0 : Nat) (a0_0 : Int) (A0_1 : Option Addr) (c0_1 : Nat) (n0_1 : Nat) (l0_1 : List SStep) (A0_2 : Option Addr) (c0_2 : Nat) (n0_2 : Nat) (l0_2 : List Int) (Z : Below w0.heap.size w0 ws) (hF : Fr w0 ws P0 [] ws) (R0_1 : Stable ws P0 (fun w => Kd.C kStep w A0_1 n0_1 l0_1)) (hc0_1 : n0_1 ≤ c0_1) (R0_2 : Stable ws P0 (fun w => Kd.C (Kd.int .i64) w A0_2 n0_2 l0_2)) (hc0_2 : n0_2 ≤ c0_2) (B0 : Stable ws P0 (fun w => w.heap[g0]? = some (.cells #[.int .i64 a0_0, .slice A0_1 n0_1 c0_1, .slice A0_2 n0_2 c0_2] 27 (0, 0)))) (r_1 : Bool) (h : impl_Plan_canTurn.f a0_0 l0_1 l0_2 = some r_1) :
    Calls Try.prog 155 #[.pointer (some ⟨g0, 0, none⟩)] ws (Post1 w0 ws P0 (fun (_ : Unit) => .bool r_1) (fun (_ : Unit) => [])) := by
  unfold impl_Plan_canTurn.f at h
  obtain rfl := (R0_1 ws (KeptB.refl _ _)).1
  obtain rfl := (R0_2 ws (KeptB.refl _ _)).1
  refine enter Try.func155 rfl Try.ntmps155 rfl hF ?_
  refine c_seq ?_
  refine za0 ?_
  refine o_q rfl rfl (q_asg rfl) ?_
  refine o_end ?_
  refine za1 ?_
  refine c_seq ?_
  refine za0 ?_
  refine o_q rfl rfl (za2 rfl) ?_
  refine o_q rfl rfl (q_nil rfl) ?_
  refine o_q rfl rfl (q_f F27_2 rfl) ?_
  refine o_q rfl rfl (q_ldb Y25 rfl (fun w h => B0.now Z h) rfl) ?_
  refine o_q rfl rfl (q_len Try.underlying25 rfl) ?_
  refine o_q rfl rfl (q_gtr rfl rfl) ?_
  refine o_q rfl rfl (za2 rfl) ?_
  refine byB (decide (0 < (l0_2.length : Int))) (fun hb1 => ?_) (fun hb1 => ?_)
  · replace h := br_t hb1 h
    refine o_w (za4 rfl rfl rfl (congrArg Value.bool hb1)) rfl (za2 rfl) ?_
    refine za8 h (fun l3 hx2 h => ?_) rfl
    refine o_ew (za4 rfl rfl rfl (congrArg Value.bool hb1)) (zac 0 Z Try.func114 N114 rfl rfl rfl (fun w P1 hF hB hS hT => impl_Plan_uses.calls g0 a0_0 A0_1 c0_1 l0_1.length l0_1 A0_2 c0_2 l0_2.length l0_2 hB hF (hS _ R0_1) hc0_1 (hS _ R0_2) hc0_2 (hS _ B0) _ hx2)) (cur2 (fun A4 c5 => ?_))
    refine za8 h (fun b7 hx6 h => ?_) rfl
    refine o_ew (za4 rfl rfl rfl (congrArg Value.bool hb1)) (zac 0 Z Try.func210 N210 rfl rfl rfl (fun w P1 hF hB hS hT => slices_Contains_int_int.calls A4 c5 l3.length l3 0 hB hF (hT 0 _ rfl).row (hT 0 _ rfl).cap _ hx6)) (fun _ => ?_)
    refine o_w (za4 rfl rfl rfl (congrArg Value.bool hb1)) rfl (q_not rfl) ?_
    refine o_q rfl rfl (zas true (congrArg Value.bool hb1) rfl) ?_
    refine o_q rfl rfl (q_asg rfl) ?_
    refine o_end ?_
    refine za1 ?_
    refine c_ret ?_
    have e0_ := Option.some.inj h; clear h
    subst e0_
    exact x_r1 () Try.results155 (zai rfl) rfl (fun w h => za7 [] (by decide) rfl w h)
  · replace h := br_f hb1 h
    refine @o_n _ _ _ _ _ _ _ _ _ _ _ 10 (za3 rfl rfl rfl (congrArg Value.bool hb1) rfl) (Eq.refl (some 10)) ?_
    refine @o_n _ _ _ _ _ _ _ _ _ _ _ 11 (za3 rfl rfl rfl (congrArg Value.bool hb1) rfl) (Eq.refl (some 11)) ?_
    refine @o_n _ _ _ _ _ _ _ _ _ _ _ 12 (za3 rfl rfl rfl (congrArg Value.bool hb1) rfl) (Eq.refl (some 12)) ?_
    refine @o_n _ _ _ _ _ _ _ _ _ _ _ 13 (za3 rfl rfl rfl (congrArg Value.bool hb1) rfl) (Eq.refl (some 13)) ?_
    refine o_q rfl rfl (zas false (congrArg Value.bool hb1) rfl) ?_
    refine o_q rfl rfl (q_asg rfl) ?_
    refine o_end ?_
    refine za1 ?_
    refine c_ret ?_
    have e0_ := Option.some.inj h; clear h
    subst e0_
    exact x_r1 () Try.results155 (zai rfl) rfl (fun w h => za7 [] (by decide) rfl w h)

/-! ### loop.example/g01098/impl.newMaker: function 163 -/
def impl_newMaker.f (a0 : Int) : Option Unit := some ()
set_option maxHeartbeats 600000 in
set_option maxRecDepth 100000 in
theorem impl_newMaker.calls {w0 ws : World} {P0 : Nat → Prop} (a0 : Int) (Z : Below w0.heap.size w0 ws) (hF : Fr w0 ws P0 [] ws)   (h : impl_newMaker.f a0 = some ()) :
    Calls Try.prog 163 #[.int .i64 a0] ws (Post1 w0 ws P0 (fun (q_1 : Nat) => .pointer (some ⟨q_1, 0, none⟩)) (fun (q_1 : Nat) => [box q_1 131 #[.int .i64 a0, .slice none 0 0, .slice none 0 0], row kStep 89 (.slice none 0 0) [], row (Kd.int .i64) 3 (.slice none 0 0) []])) := by
  unfold impl_newMaker.f at h
  refine enter Try.func163 rfl Try.ntmps163 rfl hF ?_
  refine c_seq ?_
  refine za0 ?_
  refine o_q rfl rfl (q_asg rfl) ?_
  refine o_end ?_
  refine za1 ?_
  refine c_seq ?_
  refine za0 ?_
  refine o_q rfl rfl (za2 rfl) ?_
  refine o_q rfl rfl (q_build (vs := [(0, .int .i64 a0)]) (cs := [.int .i64 a0, .slice none 0 0, .slice none 0 0]) rfl rfl) ?_
  refine o_q rfl rfl (q_build (vs := [(0, .agg #[.int .i64 a0, .slice none 0 0, .slice none 0 0])]) (cs := [.int .i64 a0, .slice none 0 0, .slice none 0 0]) rfl rfl) ?_
  refine o_e rfl (e_box rfl) (fun g1 => ?_)
  refine o_q rfl rfl (q_asg rfl) ?_
  refine o_end ?_
  refine za1 ?_
  refine c_ret ?_
  refine x_nil kStep 89 ?_
  refine x_nil (Kd.int .i64) 3 ?_
  exact x_r1 g1 Try.results163 (zai rfl) rfl (fun w h => za7 [2, 1, 0] (by decide) rfl w h)

/-! ### (*loop.example/g01098/impl.maker).plan: function 151 -/
def impl_maker_plan_2.f (a0_0 : Int) (l0_1 : List SStep) (l0_2 : List Int) (l1 : List Int) (k1 : Nat) : Option Unit := some ()
set_option maxHeartbeats 600000 in
set_option maxRecDepth 100000 in
theorem impl_maker_plan_2.calls {w0 ws : World} {P0 : Nat → Prop} (g0 : Nat) (a0_0 : Int) (A0_1 : Option Addr) (c0_1 : Nat) (n0_1 : Nat) (l0_1 : List SStep) (A0_2 : Option Addr) (c0_2 : Nat) (n0_2 : Nat) (l0_2 : List Int) (A1 : Option Addr) (c1 : Nat) (n1 : Nat) (l1 : List Int) (k1 : Nat) (Z : Below w0.heap.size w0 ws) (hF : Fr w0 ws P0 [box g0 131 #[.int .i64 a0_0, .slice A0_1 n0_1 c0_1, .slice A0_2 n0_2 c0_2], row kStep 89 (.slice A0_1 n0_1 c0_1) l0_1, row (Kd.int .i64) 3 (.slice A1 n1 c1) l1] ws) (R0_2 : Stable ws P0 (fun w => Kd.C (Kd.int .i64) w A0_2 n0_2 l0_2)) (hc0_2 : n0_2 ≤ c0_2)  (h : impl_maker_plan_2.f a0_0 l0_1 l0_2 l1 k1 = some ()) :
    Calls Try.prog 151 #[.pointer (some ⟨g0, 0, none⟩), .slice A1 (tl k1 n1) (tl k1 n1)] ws (Post1 w0 ws P0 (fun (_ : Unit) => .agg #[.int .i64 a0_0, .slice A0_1 n0_1 c0_1, .slice A1 (tl k1 n1) (tl k1 n1)]) (fun (_ : Unit) => [row kStep 89 (.slice A0_1 n0_1 c0_1) l0_1, row (Kd.int .i64) 3 (.slice A1 n1 c1) l1, box g0 131 #[.int .i64 a0_0, .slice A0_1 n0_1 c0_1, .slice A1 (tl k1 n1) (tl k1 n1)]])) := by
  unfold impl_maker_plan_2.f at h
  obtain rfl := (hF.row_C (i := 1) rfl).2.1
  obtain rfl := (hF.row_C (i := 2) rfl).2.1
  obtain rfl := (R0_2 ws (KeptB.refl _ _)).1
  refine enter Try.func151 rfl Try.ntmps151 rfl hF ?_
  refine c_seq ?_
  refine za0 ?_
  refine o_e rfl (zav V27 rfl) (fun g1 => ?_)
  refine o_end ?_
  refine za1 ?_
  refine c_seq ?_
  refine za0 ?_
  refine o_q rfl rfl (za2 rfl) ?_
  refine o_q rfl rfl (za2 rfl) ?_
  refine o_q rfl rfl (q_nil rfl) ?_
  refine o_q rfl rfl (q_f F131_0 rfl) ?_
  refine o_q rfl rfl (q_f F27_2 rfl) ?_
  refine o_e rfl (zb4 (i := 1) rfl rfl rfl rfl Z25 rfl rfl) (fun _ => ?_)
  refine o_end ?_
  refine za1 ?_
  refine c_seq ?_
  refine za0 ?_
  refine o_q rfl rfl (za2 rfl) ?_
  refine o_q rfl rfl (q_nil rfl) ?_
  refine o_q rfl rfl (q_f F131_0 rfl) ?_
  refine o_q rfl rfl (q_ldB G27 Z27 rfl (fun w h => h.zab (i := 1) rfl) rfl) ?_
  refine o_e rfl (zal (i := 0) rfl rfl rfl Z27 rfl rfl) (fun _ => ?_)
  refine o_end ?_
  refine za1 ?_
  refine c_ret ?_
  exact x_r1 () Try.results151 (rv_cell rfl G27 Z27 (fun w h => h.zab (i := 0) rfl) rfl) rfl (fun w h => za7 [2, 3, 1] (by decide) rfl w h)

/-! ### (*loop.example/g01098/impl.Plan).turned: function 156 -/
def impl_Plan_turned.l3 (a0_0 : Int) (l0_2 : List Int) (i16 : Int) (l15 : List Int) (i46 : Int) : (List Int) → (List SStep) → Int → Int → Option ((List SStep) × Int)
  | [], l69, i72, i73 => some (l69, i72)
  | y74 :: ys75, l69, i72, i73 => if y74 = i16 then ((gt l15 (w64 (a0_0 + i46))).bind fun y88 => (impl_maker_times.f (l0_2.length : Int) l69 [] i72 y88).bind fun (i90, l91) => impl_Plan_turned.l3 a0_0 l0_2 i16 l15 i46 ys75 l91 i90 (i73 + 1)) else (impl_Plan_turned.l3 a0_0 l0_2 i16 l15 i46 ys75 l69 i72 (i73 + 1))
def impl_Plan_turned.l2 (a0_0 : Int) (l0_2 : List Int) (i16 : Int) (l15 : List Int) : (List SStep) → (List SStep) → Int → Int → Option ((List SStep) × Int)
  | [], l43, i46, i47 => some (l43, i47)
  | y48 :: ys49, l43, i46, i47 => (impl_Plan_turned.l3 a0_0 l0_2 i16 l15 i46 ([y48.f0, y48.f1] : List Int) l43 i47 0).bind fun (l69, i72) => impl_Plan_turned.l2 a0_0 l0_2 i16 l15 ys49 l69 (i46 + 1) i72
def impl_Plan_turned.l1 (l0_2 : List Int) (i16 : Int) : (List Int) → (List SStep) → Int → Int → Option ((List SStep) × Int)
  | [], l28, i31, i32 => some (l28, i32)
  | y33 :: ys34, l28, i31, i32 => if y33 = i16 then ((impl_maker_times.f (l0_2.length : Int) l28 [] i32 i31).bind fun (i97, l98) => impl_Plan_turned.l1 l0_2 i16 ys34 l98 (i31 + 1) i97) else (impl_Plan_turned.l1 l0_2 i16 ys34 l28 (i31 + 1) i32)
def impl_Plan_turned.l0 (a0_0 : Int) (l0_1 : List SStep) (l0_2 : List Int) : Nat → (List SStep) → (List Int) → Int → Option ((List SStep) × (List Int))
  | 0, _, _, _ => none
  | k19 + 1, l12, l15, i16 => if 0 ≤ i16 then ((impl_Plan_turned.l1 l0_2 i16 l0_2 l12 0 (-1)).bind fun (l28, i32) => (impl_Plan_turned.l2 a0_0 l0_2 i16 l15 l0_1 l28 0 i32).bind fun (l43, i47) => (gt l15 i16).bind fun y60 => (st l15 i16 i47).bind fun l61 => impl_Plan_turned.l0 a0_0 l0_1 l0_2 k19 l43 l61 (w64 (i16 - 1))) else (some (l12, l15))
def impl_Plan_turned.f (k : Nat) (a0_0 : Int) (l0_1 : List SStep) (l0_2 : List Int) : Option ((List SStep) × (List Int)) := (impl_newMaker.f (l0_2.length : Int)).bind fun _ => (impl_Plan_many.f a0_0 l0_1 l0_2).bind fun _ => (mk0 (w64 (a0_0 + (l0_1.length : Int))) (0 : Int)).bind fun l6 => (impl_Plan_many.f a0_0 l0_1 l0_2).bind fun _ => (impl_Plan_turned.l0 a0_0 l0_1 l0_2 k [] l6 (w64 (w64 (a0_0 + (l0_1.length : Int)) - 1))).bind fun (l12, l15) => (ctk l15 a0_0).bind fun _ => (impl_maker_plan_2.f (l0_2.length : Int) l12 [] l15 ((a0_0 : Int).toNat)).bind fun _ => some (l12, l15)
set_option maxHeartbeats 600000 in
set_option maxRecDepth 100000 in
theorem impl_Plan_turned.calls (k : Nat) {w0 ws : World} {P0 : Nat → Prop} (g0 : Nat) (a0_0 : Int) (A0_1 : Option Addr) (c0_1 : Nat) (n0_1 : Nat) (l0_1 : List SStep) (A0_2 : Option Addr) (c0_2 : Nat) (n0_2 : Nat) (l0_2 : List Int) (Z : Below w0.heap.size w0 ws) (hF : Fr w0 ws P0 [] ws) (R0_1 : Stable ws P0 (fun w => Kd.C kStep w A0_1 n0_1 l0_1)) (hc0_1 : n0_1 ≤ c0_1) (R0_2 : Stable ws P0 (fun w => Kd.C (Kd.int .i64) w A0_2 n0_2 l0_2)) (hc0_2 : n0_2 ≤ c0_2) (B0 : Stable ws P0 (fun w => w.heap[g0]? = some (.cells #[.int .i64 a0_0, .slice A0_1 n0_1 c0_1, .slice A0_2 n0_2 c0_2] 27 (0, 0)))) (r_1 : List SStep) (r_4 : List Int) (h : impl_Plan_turned.f k a0_0 l0_1 l0_2 = some (r_1, r_4)) :
    Calls Try.prog 156 #[.pointer (some ⟨g0, 0, none⟩)] ws (Post1 w0 ws P0 (fun ((q_2, q_3, q_5, q_6) : (Option Addr) × Nat × (Option Addr) × Nat) => .agg #[.int .i64 (l0_2.length : Int), .slice q_2 r_1.length q_3, .slice q_5 (tl ((a0_0 : Int).toNat) r_4.length) (tl ((a0_0 : Int).toNat) r_4.length)]) (fun ((q_2, q_3, q_5, q_6) : (Option Addr) × Nat × (Option Addr) × Nat) => [row kStep 89 (.slice q_2 r_1.length q_3) r_1, row (Kd.int .i64) 3 (.slice q_5 r_4.length q_6) r_4])) := by
  unfold impl_Plan_turned.f at h
  obtain rfl := (R0_1 ws (KeptB.refl _ _)).1
  obtain rfl := (R0_2 ws (KeptB.refl _ _)).1
  refine enter Try.func156 rfl Try.ntmps156 rfl hF ?_
  refine c_seq ?_
  refine za0 ?_
  refine o_e rfl (zav V27 rfl) (fun g1 => ?_)
  refine o_end ?_
  refine za1 ?_
  refine c_seq ?_
  refine a_start (ds := []) MO rfl ?_
  refine za5 0 rfl rfl rfl (by kernel_rfl) (fun _ _ _ h => h) (za2 rfl) ?_
  refine za5 1 rfl rfl rfl (by kernel_rfl) (fun _ _ _ h => h) (q_nil rfl) ?_
  refine za5 2 rfl rfl rfl (by kernel_rfl) (fun _ _ _ h => h) (q_f F27_2 rfl) ?_
  refine zay 3 rfl rfl rfl (by kernel_rfl) (fun _ _ _ h => h) (fun w h => h) (q_ldb Y25 rfl (fun w h => B0.now Z h) rfl) ?_
  refine za5 4 rfl rfl rfl (by kernel_rfl) (fun _ _ _ h => h) (q_len Try.underlying25 rfl) ?_
  refine za5 6 rfl rfl rfl (by kernel_rfl) (fun _ _ _ h => h) (za2 rfl) ?_
  refine za8 h (fun _ hx3 h => ?_) rfl
  refine a_one 5 rfl rfl (by kernel_rfl) rfl (zac 0 Z Try.func163 N163 rfl rfl rfl (fun w P1 hF hB hS hT => impl_newMaker.calls (l0_2.length : Int) hB hF hx3)) (fun s w h => za9 [some 3] (by decide) w h rfl) (fun c4 => ?_)
  refine za8 h (fun _ hx5 h => ?_) rfl
  refine a_one 7 rfl rfl (by kernel_rfl) rfl (zac 0 Z Try.func90 N90 rfl rfl rfl (fun w P1 hF hB hS hT => impl_Plan_many.calls g0 a0_0 A0_1 c0_1 l0_1.length l0_1 A0_2 c0_2 l0_2.length l0_2 hB hF (hS _ R0_1) hc0_1 (hS _ R0_2) hc0_2 (hS _ B0) hx5)) (fun s w h => za9 [some 3] (by decide) w h rfl) (fun _ => ?_)
  refine za5 9 rfl rfl rfl (by kernel_rfl) (fun _ _ _ h => h) (q_asg rfl) ?_
  refine za8 h (fun l6 hm7 h => ?_) rfl
  refine a_one 8 rfl rfl (by kernel_rfl) rfl (e_make (Kd.int .i64) (0 : Int) Try.underlying25 I3 rfl (by decide) (by decide) (fun _ _ => rfl) rfl rfl hm7) (fun s w h => za9 [some 4] (by decide) w h rfl) (cur2 (fun A8 c9 => ?_))
  refine za5 10 rfl rfl rfl (by kernel_rfl) (fun _ _ _ h => h) (q_asg rfl) ?_
  refine zaz (by kernel_rfl) ?_
  refine za1 ?_
  refine c_seq ?_
  refine c_seq ?_
  refine za0 ?_
  refine o_q rfl rfl (za2 rfl) ?_
  refine za8 h (fun _ hx11 h => ?_) rfl
  refine o_e rfl (zac 0 Z Try.func90 N90 rfl rfl rfl (fun w P1 hF hB hS hT => impl_Plan_many.calls g0 a0_0 A0_1 c0_1 l0_1.length l0_1 A0_2 c0_2 l0_2.length l0_2 hB hF (hS _ R0_1) hc0_1 (hS _ R0_2) hc0_2 (hS _ B0) hx11)) (fun _ => ?_)
  refine o_q rfl rfl (q_sub64 rfl rfl) ?_
  refine o_q rfl rfl (q_asg rfl) ?_
  refine o_end ?_
  refine za1 ?_
  refine zaj ?_
  refine za8 h (fun o24 hl23 hR22 => ?_) rfl
  clear h
  refine zax (σ := (List SStep) × (List Int) × Int × (Option Addr) × Nat) (fun k19 ((l12, l15, i16, A13, c14) : (List SStep) × (List Int) × Int × (Option Addr) × Nat) => impl_Plan_turned.l0 a0_0 l0_1 l0_2 k19 l12 l15 i16 = some o24) [5, 6, 7, 8, 9, 10, 12, 25, 26, 27, 28, 29, 30, 31, 32, 33, 34, 35, 36, 37, 38, 39, 40, 41, 42, 43, 44, 45, 46, 47, 48, 49, 50, 51, 52, 53, 54, 55, 56, 57, 58, 59, 60, 61, 62, 63, 64, 65, 66, 67, 68, 69, 70, 71, 72, 73, 74, 75, 76, 77, 78, 79, 80, 81, 82, 83, 84, 85, 86, 87] (fun ((l12, l15, i16, A13, c14) : (List SStep) × (List Int) × Int × (Option Addr) × Nat) => [(5, .int .i64 i16)]) (fun ((l12, l15, i16, A13, c14) : (List SStep) × (List Int) × Int × (Option Addr) × Nat) => [row (Kd.int .i64) 3 (.slice A8 l6.length c9) l15, box c4 131 #[.int .i64 (l0_2.length : Int), .slice A13 l12.length c14, .slice none 0 0], row kStep 89 (.slice A13 l12.length c14) l12, row (Kd.int .i64) 3 (.slice none 0 0) [], box g1 27 #[.int .i64 0, .slice none 0 0, .slice none 0 0]]) k ([], l6, w64 (w64 (a0_0 + (l0_1.length : Int)) - 1), none, 0) hl23 ⟨rfl, trivial⟩ (fun w h => h) ?_
  refine natC (cur5 (fun l12 l15 i16 A13 c14 => fun U25 hJ_ => ?_)) (fun k19 => (cur5 (fun l12 l15 i16 A13 c14 => fun U25 hJ_ => ?_)))
  · skip
    replace hJ_ : impl_Plan_turned.l0 a0_0 l0_1 l0_2 0 l12 l15 i16 = some o24 := hJ_
    rw [impl_Plan_turned.l0] at hJ_
    exact noneE hJ_
  · skip
    clear hl23
    have h := hJ_; clear hJ_
    replace h : impl_Plan_turned.l0 a0_0 l0_1 l0_2 (k19 + 1) l12 l15 i16 = some o24 := h
    rw [impl_Plan_turned.l0] at h
    refine c_seq ?_
    refine c_seq ?_
    refine za0 ?_
    refine o_q rfl rfl (za2 rfl) ?_
    refine o_q rfl rfl (q_geq rfl rfl) ?_
    refine o_end ?_
    refine za1 ?_
    refine zar _ rfl (fun hb27 => ?_) (fun hb27 => ?_)
    · skip
      replace h := br_t hb27 h
      refine zam ?_
      refine za1 ?_
      refine c_seq ?_
      refine zaj ?_
      refine c_seq ?_
      refine za0 ?_
      refine o_q rfl rfl (q_asg rfl) ?_
      refine o_end ?_
      refine za1 ?_
      refine c_seq ?_
      refine c_seq ?_
      refine za0 ?_
      refine o_q rfl rfl (za2 rfl) ?_
      refine o_q rfl rfl (q_nil rfl) ?_
      refine o_q rfl rfl (q_f F27_2 rfl) ?_
      refine o_q rfl rfl (q_ldb Y25 rfl (fun w h => B0.now Z h) rfl) ?_
      refine o_q rfl rfl (q_len Try.underlying25 rfl) ?_
      refine o_q rfl rfl (za2 rfl) ?_
      refine o_end ?_
      refine za1 ?_
      refine zaj ?_
      refine za8 h (fun o40 hl39 hR38 => ?_) rfl
      clear h
      refine c_fact (p := l0_2.length ≤ 9223372036854775807) (fun w h => (R0_2.now Z h).2.1) (fun hm37 => ?_)
      refine zax (σ := (List Int) × (List SStep) × Int × Int × (Option Addr) × Nat) (fun k35 ((ys34, l28, i31, i32, A29, c30) : (List Int) × (List SStep) × Int × Int × (Option Addr) × Nat) => Rg l0_2 i31 ys34 ∧ ys34.length = k35 ∧ impl_Plan_turned.l1 l0_2 i16 ys34 l28 i31 i32 = some o40) [6, 7, 8, 34, 35, 36, 37, 38, 39, 40, 41, 42, 43, 44, 45, 46] (fun ((ys34, l28, i31, i32, A29, c30) : (List Int) × (List SStep) × Int × Int × (Option Addr) × Nat) => [(6, .int .i64 i32), (34, .int .i64 i31)]) (fun ((ys34, l28, i31, i32, A29, c30) : (List Int) × (List SStep) × Int × Int × (Option Addr) × Nat) => [row (Kd.int .i64) 3 (.slice A8 l6.length c9) l15, box c4 131 #[.int .i64 (l0_2.length : Int), .slice A29 l28.length c30, .slice none 0 0], row kStep 89 (.slice A29 l28.length c30) l28, row (Kd.int .i64) 3 (.slice none 0 0) [], box g1 27 #[.int .i64 0, .slice none 0 0, .slice none 0 0]]) l0_2.length (l0_2, l12, 0, (-1), A13, c14) ⟨Rg.start _, rfl, hl39⟩ ⟨rfl, rfl, trivial⟩ (fun w h => h) ?_
      refine fun k35 => cur6 (listC (fun l28 i31 i32 A29 c30 U41 hJ_ => ?_) (fun y33 ys34 l28 i31 i32 A29 c30 U41 hJ_ => ?_))
      · skip
        clear hl39
        have hr36 := hJ_.1; have hk42 := hJ_.2.1; have h := hJ_.2.2; clear hJ_
        replace h : impl_Plan_turned.l1 l0_2 i16 [] l28 i31 i32 = some o40 := h
        rw [impl_Plan_turned.l1] at h
        refine c_seq ?_
        refine za0 ?_
        refine o_q rfl rfl (q_lss rfl rfl) ?_
        refine o_end ?_
        refine za1 ?_
        refine c_seq ?_
        refine zb3 (congrArg Value.bool hr36.ge) ?_
        refine zb6 ?_
        refine za6 ?_
        refine za6 ?_
        have e_ := Option.some.inj h; replace h := hR38; rw [← e_] at h; clear e_
        refine x_hit ?_
        refine za1 ?_
        refine c_seq ?_
        refine c_seq ?_
        refine za0 ?_
        refine o_q rfl rfl (za2 rfl) ?_
        refine o_q rfl rfl (q_nil rfl) ?_
        refine o_q rfl rfl (q_f F27_1 rfl) ?_
        refine o_q rfl rfl (q_ldb Y24 rfl (fun w h => B0.now Z h) rfl) ?_
        refine o_q rfl rfl (q_len Try.underlying24 rfl) ?_
        refine o_q rfl rfl (za2 rfl) ?_
        refine o_end ?_
        refine za1 ?_
        refine zaj ?_
        refine za8 h (fun o55 hl54 hR53 => ?_) rfl
        clear h
        refine c_fact (p := l0_1.length ≤ 9223372036854775807) (fun w h => (R0_1.now Z h).2.1) (fun hm52 => ?_)
        refine zax (σ := (List SStep) × (List SStep) × Int × Int × (Option Addr) × Nat) (fun k50 ((ys49, l43, i46, i47, A44, c45) : (List SStep) × (List SStep) × Int × Int × (Option Addr) × Nat) => Rg l0_1 i46 ys49 ∧ ys49.length = k50 ∧ impl_Plan_turned.l2 a0_0 l0_2 i16 l15 ys49 l43 i46 i47 = some o55) [6, 9, 10, 12, 52, 53, 54, 55, 56, 57, 58, 59, 60, 61, 62, 63, 64, 65, 66, 67, 68, 69, 70, 71, 72, 73, 74, 75, 76, 77, 78, 79, 80, 81, 82, 83] (fun ((ys49, l43, i46, i47, A44, c45) : (List SStep) × (List SStep) × Int × Int × (Option Addr) × Nat) => [(6, .int .i64 i47), (52, .int .i64 i46)]) (fun ((ys49, l43, i46, i47, A44, c45) : (List SStep) × (List SStep) × Int × Int × (Option Addr) × Nat) => [row (Kd.int .i64) 3 (.slice A8 l6.length c9) l15, box c4 131 #[.int .i64 (l0_2.length : Int), .slice A44 l43.length c45, .slice none 0 0], row kStep 89 (.slice A44 l43.length c45) l43, row (Kd.int .i64) 3 (.slice none 0 0) [], box g1 27 #[.int .i64 0, .slice none 0 0, .slice none 0 0]]) l0_1.length (l0_1, l28, 0, i32, A29, c30) ⟨Rg.start _, rfl, hl54⟩ ⟨rfl, rfl, trivial⟩ (fun w h => h) ?_
        refine fun k50 => cur6 (listC (fun l43 i46 i47 A44 c45 U56 hJ_ => ?_) (fun y48 ys49 l43 i46 i47 A44 c45 U56 hJ_ => ?_))
        · skip
          clear hl54
          have hr51 := hJ_.1; have hk57 := hJ_.2.1; have h := hJ_.2.2; clear hJ_
          replace h : impl_Plan_turned.l2 a0_0 l0_2 i16 l15 [] l43 i46 i47 = some o55 := h
          rw [impl_Plan_turned.l2] at h
          refine c_seq ?_
          refine za0 ?_
          refine o_q rfl rfl (q_lss rfl rfl) ?_
          refine o_end ?_
          refine za1 ?_
          refine c_seq ?_
          refine zb3 (congrArg Value.bool hr51.ge) ?_
          refine zb6 ?_
          refine za6 ?_
          refine za6 ?_
          have e_ := Option.some.inj h; replace h := hR53; rw [← e_] at h; clear e_
          refine x_hit ?_
          refine za1 ?_
          refine za0 ?_
          refine o_q rfl rfl (za2 rfl) ?_
          refine o_q rfl rfl (za2 rfl) ?_
          refine o_q rfl rfl (za2 rfl) ?_
          refine zau (p := Sh A8 l6.length l15.length) (fun w h => f_sh (dk := (Kd.int .i64)) h (fun w h => h.zaq (i := 0) rfl)) (fun hq58 => ?_)
          refine za8 h (fun y60 hg59 h => ?_) rfl
          refine o_q rfl rfl (q_ix Try.underlying25 Z3 rfl rfl hq58 hg59) ?_
          refine za8 h (fun l61 hs62 h => ?_) rfl
          refine o_e rfl (e_set (i := 0) rfl rfl rfl Z3 hs62) (fun _ => ?_)
          refine o_end ?_
          refine zan ?_
          refine za1 ?_
          refine za0 ?_
          refine o_q rfl rfl (za2 rfl) ?_
          refine o_q rfl rfl (q_sub64 rfl rfl) ?_
          refine o_q rfl rfl (q_asg rfl) ?_
          refine o_end ?_
          refine zak k19 (l43, l61, w64 (i16 - 1), A44, c45) (Nat.lt_succ_self _) h ⟨rfl, trivial⟩ (fun w h => za7 [0, 1, 2, 3, 4] (by decide) rfl w h) ?_
          repeat (first | exact zad _ _ | refine zaf rfl ?_ | refine zae rfl ?_ | refine zah rfl ?_)
        · skip
          clear hl54
          have hr51 := hJ_.1; have hk57 := hJ_.2.1; have h := hJ_.2.2; clear hJ_
          replace h : impl_Plan_turned.l2 a0_0 l0_2 i16 l15 (y48 :: ys49) l43 i46 i47 = some o55 := h
          rw [impl_Plan_turned.l2] at h
          refine c_seq ?_
          refine za0 ?_
          refine o_q rfl rfl (q_lss rfl rfl) ?_
          refine o_end ?_
          refine za1 ?_
          refine c_seq ?_
          refine zb2 (congrArg Value.bool hr51.lt) ?_
          refine zam ?_
          refine za1 ?_
          refine c_seq ?_
          refine zaj ?_
          refine c_seq ?_
          refine za0 ?_
          refine o_q rfl rfl (za2 rfl) ?_
          refine zau (p := Sh A0_1 l0_1.length l0_1.length) (fun w h => f_sh (dk := kStep) h (fun w h => R0_1.now Z h)) (fun hq63 => ?_)
          refine o_q rfl rfl (q_ix Try.underlying24 Z89 rfl rfl hq63 hr51.get) ?_
          refine o_q rfl rfl (q_ldE G89 Z89 rfl rfl (fun w h => R0_1.now Z h) hr51.get (fun _ _ h => h) rfl) ?_
          refine o_e rfl (zav V89 rfl) (fun g64 => ?_)
          refine o_q rfl rfl (q_asg rfl) ?_
          refine o_e rfl (zal (i := 0) rfl rfl rfl Z89 rfl rfl) (fun _ => ?_)
          refine o_end ?_
          refine za1 ?_
          refine c_seq ?_
          refine za0 ?_
          refine o_q rfl rfl (q_f F89_0 rfl) ?_
          refine o_q rfl rfl (q_ldb Y3 rfl (fun w h => h.zab (i := 0) rfl) rfl) ?_
          refine o_q rfl rfl (q_f F89_1 rfl) ?_
          refine o_q rfl rfl (q_ldb Y3 rfl (fun w h => h.zab (i := 0) rfl) rfl) ?_
          refine o_e rfl (e_lit (vs := [(0, .int .i64 y48.f0), (1, .int .i64 y48.f1)]) (cs := [.int .i64 y48.f0, .int .i64 y48.f1]) (Kd.int .i64) ([y48.f0, y48.f1] : List Int) Try.underlying25 I3 (by decide) rfl (by decide) rfl rfl (fun _ _ => Kd.zat _)) (cur2 (fun A66 c67 => ?_))
          refine o_q rfl rfl (q_len Try.underlying25 rfl) ?_
          refine o_q rfl rfl (za2 rfl) ?_
          refine o_end ?_
          refine za1 ?_
          refine zaj ?_
          refine za8 h (fun o81 hl80 hR79 => ?_) rfl
          clear h
          refine c_fact (p := ([y48.f0, y48.f1] : List Int).length ≤ 9223372036854775807) (fun w h => (h.zaq (i := 0) rfl).2.1) (fun hm78 => ?_)
          refine zax (σ := (List Int) × (List SStep) × Int × Int × (Option Addr) × Nat) (fun k76 ((ys75, l69, i72, i73, A70, c71) : (List Int) × (List SStep) × Int × Int × (Option Addr) × Nat) => Rg ([y48.f0, y48.f1] : List Int) i73 ys75 ∧ ys75.length = k76 ∧ impl_Plan_turned.l3 a0_0 l0_2 i16 l15 i46 ys75 l69 i72 i73 = some o81) [6, 12, 63, 64, 65, 66, 67, 68, 69, 70, 71, 72, 73, 74, 75, 76, 77, 78, 79, 80, 81, 82] (fun ((ys75, l69, i72, i73, A70, c71) : (List Int) × (List SStep) × Int × Int × (Option Addr) × Nat) => [(6, .int .i64 i72), (63, .int .i64 i73)]) (fun ((ys75, l69, i72, i73, A70, c71) : (List Int) × (List SStep) × Int × Int × (Option Addr) × Nat) => [row (Kd.int .i64) 3 (.slice A66 (([y48.f0, y48.f1] : List Int).length) c67) ([y48.f0, y48.f1] : List Int), box g64 89 #[.int .i64 y48.f0, .int .i64 y48.f1], row (Kd.int .i64) 3 (.slice A8 l6.length c9) l15, box c4 131 #[.int .i64 (l0_2.length : Int), .slice A70 l69.length c71, .slice none 0 0], row kStep 89 (.slice A70 l69.length c71) l69, row (Kd.int .i64) 3 (.slice none 0 0) [], box g1 27 #[.int .i64 0, .slice none 0 0, .slice none 0 0]]) ([y48.f0, y48.f1] : List Int).length (([y48.f0, y48.f1] : List Int), l43, i47, 0, A44, c45) ⟨Rg.start _, rfl, hl80⟩ ⟨rfl, rfl, trivial⟩ (fun w h => h) ?_
          refine fun k76 => cur6 (listC (fun l69 i72 i73 A70 c71 U82 hJ_ => ?_) (fun y74 ys75 l69 i72 i73 A70 c71 U82 hJ_ => ?_))
          · skip
            clear hl80
            have hr77 := hJ_.1; have hk83 := hJ_.2.1; have h := hJ_.2.2; clear hJ_
            replace h : impl_Plan_turned.l3 a0_0 l0_2 i16 l15 i46 [] l69 i72 i73 = some o81 := h
            rw [impl_Plan_turned.l3] at h
            refine c_seq ?_
            refine za0 ?_
            refine o_q rfl rfl (q_lss rfl rfl) ?_
            refine o_end ?_
            refine za1 ?_
            refine c_seq ?_
            refine zb3 (congrArg Value.bool hr77.ge) ?_
            refine zb6 ?_
            refine za6 ?_
            refine za6 ?_
            have e_ := Option.some.inj h; replace h := hR79; rw [← e_] at h; clear e_
            refine x_hit ?_
            refine zan ?_
            refine za1 ?_
            refine za0 ?_
            refine o_q rfl rfl (q_up rfl rfl (hr51.up hm52)) ?_
            refine o_q rfl rfl (za2 rfl) ?_
            refine o_end ?_
            refine zak ys49.length (ys49, l69, i46 + 1, i72, A70, c71) (by rw [← hk57]; exact Nat.lt_succ_self _) ⟨hr51.step, rfl, h⟩ ⟨rfl, rfl, trivial⟩ (fun w h => za7 [2, 3, 4, 5, 6] (by decide) rfl w h) ?_
            repeat (first | exact zad _ _ | refine zaf rfl ?_ | refine zae rfl ?_ | refine zah rfl ?_)
          · skip
            clear hl80
            have hr77 := hJ_.1; have hk83 := hJ_.2.1; have h := hJ_.2.2; clear hJ_
            replace h : impl_Plan_turned.l3 a0_0 l0_2 i16 l15 i46 (y74 :: ys75) l69 i72 i73 = some o81 := h
            rw [impl_Plan_turned.l3] at h
            refine c_seq ?_
            refine za0 ?_
            refine o_q rfl rfl (q_lss rfl rfl) ?_
            refine o_end ?_
            refine za1 ?_
            refine c_seq ?_
            refine zb2 (congrArg Value.bool hr77.lt) ?_
            refine zam ?_
            refine za1 ?_
            refine c_seq ?_
            refine zaj ?_
            refine c_seq ?_
            refine za0 ?_
            refine zau (p := Sh A66 (([y48.f0, y48.f1] : List Int).length) ([y48.f0, y48.f1] : List Int).length) (fun w h => f_sh (dk := (Kd.int .i64)) h (fun w h => h.zaq (i := 0) rfl)) (fun hq84 => ?_)
            refine o_q rfl rfl (q_ix Try.underlying25 Z3 rfl rfl hq84 hr77.get) ?_
            refine o_q rfl rfl (q_lde (off := 0) Y3 rfl rfl (fun w h => h.zaq (i := 0) rfl) hr77.get (fun _ _ h => h) rfl) ?_
            refine o_q rfl rfl (q_asg rfl) ?_
            refine o_end ?_
            refine za1 ?_
            refine c_seq ?_
            refine za0 ?_
            refine o_q rfl rfl (za2 rfl) ?_
            refine o_q rfl rfl (za2 rfl) ?_
            refine o_q rfl rfl (q_eql rfl rfl) ?_
            refine o_end ?_
            refine za1 ?_
            refine zar _ rfl (fun hb85 => ?_) (fun hb85 => ?_)
            · skip
              replace h := br_t hb85 h
              refine za0 ?_
              refine o_q rfl rfl (za2 rfl) ?_
              refine o_q rfl rfl (za2 rfl) ?_
              refine o_q rfl rfl (za2 rfl) ?_
              refine o_q rfl rfl (za2 rfl) ?_
              refine o_q rfl rfl (q_nil rfl) ?_
              refine o_q rfl rfl (q_f F27_0 rfl) ?_
              refine o_q rfl rfl (q_ldb Y3 rfl (fun w h => B0.now Z h) rfl) ?_
              refine o_q rfl rfl (za2 rfl) ?_
              refine o_q rfl rfl (q_add64 rfl rfl) ?_
              refine zau (p := Sh A8 l6.length l15.length) (fun w h => f_sh (dk := (Kd.int .i64)) h (fun w h => h.zaq (i := 2) rfl)) (fun hq86 => ?_)
              refine za8 h (fun y88 hg87 h => ?_) rfl
              refine o_q rfl rfl (q_ix Try.underlying25 Z3 rfl rfl hq86 hg87) ?_
              refine o_q rfl rfl (q_lde (off := 0) Y3 rfl rfl (fun w h => h.zaq (i := 2) rfl) hg87 (fun _ _ h => h) rfl) ?_
              refine o_pick [3, 4, 0, 1, 2, 5, 6] (by decide) rfl ?_
              refine bindE2 h (fun i90 l91 hx89 h => ?_) rfl
              refine o_e rfl (zac 2 Z Try.func150 N150 rfl rfl rfl (fun w P1 hF hB hS hT => impl_maker_times.calls c4 (l0_2.length : Int) A70 c71 l69.length l69 none 0 0 [] i72 y88 hB hF (hT 3 _ rfl).row (hT 3 _ rfl).cap _ _ hx89)) (cur2 (fun A92 c93 => ?_))
              refine o_q rfl rfl (q_asg rfl) ?_
              refine o_end ?_
              refine zan ?_
              refine za1 ?_
              refine za0 ?_
              refine o_q rfl rfl (q_up rfl rfl (hr77.up hm78)) ?_
              refine o_q rfl rfl (za2 rfl) ?_
              refine o_end ?_
              refine zak ys75.length (ys75, l91, i90, i73 + 1, A92, c93) (by rw [← hk83]; exact Nat.lt_succ_self _) ⟨hr77.step, rfl, h⟩ ⟨rfl, rfl, trivial⟩ (fun w h => za7 [2, 3, 4, 0, 1, 5, 6] (by decide) rfl w h) ?_
              repeat (first | exact zad _ _ | refine zaf rfl ?_ | refine zae rfl ?_ | refine zah rfl ?_)
            · skip
              replace h := br_f hb85 h
              refine zam ?_
              refine zan ?_
              refine za1 ?_
              refine za0 ?_
              refine o_q rfl rfl (q_up rfl rfl (hr77.up hm78)) ?_
              refine o_q rfl rfl (za2 rfl) ?_
              refine o_end ?_
              refine zak ys75.length (ys75, l69, i72, i73 + 1, A70, c71) (by rw [← hk83]; exact Nat.lt_succ_self _) ⟨hr77.step, rfl, h⟩ ⟨rfl, rfl, trivial⟩ (fun w h => za7 [0, 1, 2, 3, 4, 5, 6] (by decide) rfl w h) ?_
              repeat (first | exact zad _ _ | refine zaf rfl ?_ | refine zae rfl ?_ | refine zah rfl ?_)
      · skip
        clear hl39
        have hr36 := hJ_.1; have hk42 := hJ_.2.1; have h := hJ_.2.2; clear hJ_
        replace h : impl_Plan_turned.l1 l0_2 i16 (y33 :: ys34) l28 i31 i32 = some o40 := h
        rw [impl_Plan_turned.l1] at h
        refine c_seq ?_
        refine za0 ?_
        refine o_q rfl rfl (q_lss rfl rfl) ?_
        refine o_end ?_
        refine za1 ?_
        refine c_seq ?_
        refine zb2 (congrArg Value.bool hr36.lt) ?_
        refine zam ?_
        refine za1 ?_
        refine c_seq ?_
        refine zaj ?_
        refine c_seq ?_
        refine za0 ?_
        refine o_q rfl rfl (za2 rfl) ?_
        refine zau (p := Sh A0_2 l0_2.length l0_2.length) (fun w h => f_sh (dk := (Kd.int .i64)) h (fun w h => R0_2.now Z h)) (fun hq94 => ?_)
        refine o_q rfl rfl (q_ix Try.underlying25 Z3 rfl rfl hq94 hr36.get) ?_
        refine o_q rfl rfl (q_lde (off := 0) Y3 rfl rfl (fun w h => R0_2.now Z h) hr36.get (fun _ _ h => h) rfl) ?_
        refine o_q rfl rfl (q_asg rfl) ?_
        refine o_q rfl rfl (q_asg rfl) ?_
        refine o_end ?_
        refine za1 ?_
        refine c_seq ?_
        refine za0 ?_
        refine o_q rfl rfl (za2 rfl) ?_
        refine o_q rfl rfl (za2 rfl) ?_
        refine o_q rfl rfl (q_eql rfl rfl) ?_
        refine o_end ?_
        refine za1 ?_
        refine zar _ rfl (fun hb95 => ?_) (fun hb95 => ?_)
        · skip
          replace h := br_t hb95 h
          refine za0 ?_
          refine o_q rfl rfl (za2 rfl) ?_
          refine o_q rfl rfl (za2 rfl) ?_
          refine o_q rfl rfl (za2 rfl) ?_
          refine o_pick [1, 2, 0, 3, 4] (by decide) rfl ?_
          refine bindE2 h (fun i97 l98 hx96 h => ?_) rfl
          refine o_e rfl (zac 2 Z Try.func150 N150 rfl rfl rfl (fun w P1 hF hB hS hT => impl_maker_times.calls c4 (l0_2.length : Int) A29 c30 l28.length l28 none 0 0 [] i32 i31 hB hF (hT 1 _ rfl).row (hT 1 _ rfl).cap _ _ hx96)) (cur2 (fun A99 c100 => ?_))
          refine o_q rfl rfl (q_asg rfl) ?_
          refine o_end ?_
          refine zan ?_
          refine za1 ?_
          refine za0 ?_
          refine o_q rfl rfl (q_up rfl rfl (hr36.up hm37)) ?_
          refine o_q rfl rfl (za2 rfl) ?_
          refine o_end ?_
          refine zak ys34.length (ys34, l98, i31 + 1, i97, A99, c100) (by rw [← hk42]; exact Nat.lt_succ_self _) ⟨hr36.step, rfl, h⟩ ⟨rfl, rfl, trivial⟩ (fun w h => za7 [2, 0, 1, 3, 4] (by decide) rfl w h) ?_
          repeat (first | exact zad _ _ | refine zaf rfl ?_ | refine zae rfl ?_ | refine zah rfl ?_)
        · skip
          replace h := br_f hb95 h
          refine zam ?_
          refine zan ?_
          refine za1 ?_
          refine za0 ?_
          refine o_q rfl rfl (q_up rfl rfl (hr36.up hm37)) ?_
          refine o_q rfl rfl (za2 rfl) ?_
          refine o_end ?_
          refine zak ys34.length (ys34, l28, i31 + 1, i32, A29, c30) (by rw [← hk42]; exact Nat.lt_succ_self _) ⟨hr36.step, rfl, h⟩ ⟨rfl, rfl, trivial⟩ (fun w h => za7 [0, 1, 2, 3, 4] (by decide) rfl w h) ?_
          repeat (first | exact zad _ _ | refine zaf rfl ?_ | refine zae rfl ?_ | refine zah rfl ?_)
    · skip
      replace h := br_f hb27 h
      refine zb6 ?_
      refine za6 ?_
      refine za6 ?_
      have e_ := Option.some.inj h; replace h := hR22; rw [← e_] at h; clear e_
      refine x_hit ?_
      refine za1 ?_
      refine c_seq ?_
      refine a_startS (ds := []) [none, none, none, some 3, none] MO rfl ?_
      refine za5 0 rfl rfl rfl (by kernel_rfl) (fun _ _ _ h => h) (za2 rfl) ?_
      refine za5 1 rfl rfl rfl (by kernel_rfl) (fun _ _ _ h => h) (za2 rfl) ?_
      refine za5 2 rfl rfl rfl (by kernel_rfl) (fun _ _ _ h => h) (za2 rfl) ?_
      refine za5 3 rfl rfl rfl (by kernel_rfl) (fun _ _ _ h => h) (q_nil rfl) ?_
      refine za5 4 rfl rfl rfl (by kernel_rfl) (fun _ _ _ h => h) (q_f F27_0 rfl) ?_
      refine zay 5 rfl rfl rfl (by kernel_rfl) (fun _ _ _ h => h) (fun w h => za9 [none, none, none, some 3, none] (by decide) w h rfl) (q_ldb Y3 rfl (fun w h => B0.now Z h) rfl) ?_
      refine za5 6 rfl rfl rfl (by kernel_rfl) (fun _ _ _ h => h) (za2 rfl) ?_
      refine za5 7 rfl rfl rfl (by kernel_rfl) (fun _ _ _ h => h) (q_nil rfl) ?_
      refine za5 8 rfl rfl rfl (by kernel_rfl) (fun _ _ _ h => h) (q_f F27_0 rfl) ?_
      refine zay 9 rfl rfl rfl (by kernel_rfl) (fun _ _ _ h => h) (fun w h => za9 [none, none, none, some 3, none] (by decide) w h rfl) (q_ldb Y3 rfl (fun w h => B0.now Z h) rfl) ?_
      refine a_fact (p := l6.length = l15.length ∧ l6.length ≤ c9) (fun w h => h.row_nc (i := 0) rfl) (fun hk101 => ?_)
      refine za8 h (fun _ hz102 h => ?_) rfl
      refine za5 10 rfl rfl rfl (by kernel_rfl) (fun _ _ _ h => h) (q_tk Try.underlying25 Z3 rfl ⟨_, rfl⟩ ⟨_, rfl⟩ hk101.1 hk101.2 hz102) ?_
      refine a_pick [1, 2, 0, 3, 4] (by decide) rfl ?_
      refine za8 h (fun _ hx103 h => ?_) rfl
      refine a_one 11 rfl rfl (by kernel_rfl) rfl (zac 3 Z Try.func151 N151 rfl rfl rfl (fun w P1 hF hB hS hT => impl_maker_plan_2.calls c4 (l0_2.length : Int) A13 c14 l12.length l12 none 0 0 [] A8 c9 l6.length l15 ((a0_0 : Int).toNat) hB hF (hT 0 _ rfl).row (hT 0 _ rfl).cap hx103)) (fun s w h => za9 [none, none, none, some 3, none] (by decide) w h rfl) (fun _ => ?_)
      refine a_one 12 rfl rfl (by kernel_rfl) rfl (zal (i := 4) rfl rfl rfl Z27 rfl rfl) (fun s w h => za9 [none, none, none, some 3, none] (by decide) w h rfl) (fun _ => ?_)
      refine zaz (by kernel_rfl) ?_
      refine za1 ?_
      refine c_ret ?_
      refine x_fact (p := l6.length = l15.length) (fun w h => (h.row_C (i := 1) rfl).2.1) (fun hn104 => ?_)
      have e0_ := Option.some.inj h; clear h
      have d0_ := (Prod.mk.inj e0_).1; have e1_ := (Prod.mk.inj e0_).2; clear e0_; subst d0_
      subst e1_
      exact x_r1 (A13, c14, A8, c9) Try.results156 (rv_cell (cs := #[.int .i64 (l0_2.length : Int), .slice A13 l12.length c14, .slice A8 (tl ((a0_0 : Int).toNat) l6.length) (tl ((a0_0 : Int).toNat) l6.length)]) rfl G27 Z27 (fun w h => h.zab (i := 4) rfl) rfl) (by (try rw [hn104]); first | done | rfl) (f_pickE (L1 := [row kStep 89 (.slice A13 l12.length c14) l12, row (Kd.int .i64) 3 (.slice A8 l6.length c9) l15, box c4 131 #[.int .i64 (l0_2.length : Int), .slice A13 l12.length c14, .slice A8 (tl ((a0_0 : Int).toNat) l6.length) (tl ((a0_0 : Int).toNat) l6.length)], row (Kd.int .i64) 3 (.slice none 0 0) [], box g1 27 #[.int .i64 (l0_2.length : Int), .slice A13 l12.length c14, .slice A8 (tl ((a0_0 : Int).toNat) l6.length) (tl ((a0_0 : Int).toNat) l6.length)]]) rfl [0, 1] (by decide) rfl (by (try rw [hn104]); first | done | rfl))

/-! ### loop.example/g01098/impl.told: function 102 -/
def impl_told_2.f (k : Nat) (a0_0 : Int) (l0_1 : List SStep) (l0_2 : List Int) (k0_2 : Nat) : Option (Int × (List SStep) × (List Int) × Nat × Bool) := (impl_IsPlan.f k a0_0 l0_1 (l0_2.take k0_2)).bind fun b6 => if b6 = true then (some (a0_0, l0_1, l0_2, k0_2, true)) else (some (0, ([] : List SStep), ([] : List Int), 0, false))
set_option maxHeartbeats 600000 in
set_option maxRecDepth 100000 in
theorem impl_told_2.calls (k : Nat) {w0 ws : World} {P0 : Nat → Prop} (a0_0 : Int) (A0_1 : Option Addr) (c0_1 : Nat) (n0_1 : Nat) (l0_1 : List SStep) (A0_2 : Option Addr) (c0_2 : Nat) (n0_2 : Nat) (l0_2 : List Int) (k0_2 : Nat) (Z : Below w0.heap.size w0 ws) (hF : Fr w0 ws P0 [row kStep 89 (.slice A0_1 n0_1 c0_1) l0_1, row (Kd.int .i64) 3 (.slice A0_2 n0_2 c0_2) l0_2] ws)  (r_1 : Int) (r_2 : List SStep) (r_5 : List Int) (q_8 : Nat) (r_9 : Bool) (h : impl_told_2.f k a0_0 l0_1 l0_2 k0_2 = some (r_1, r_2, r_5, q_8, r_9)) :
    Calls Try.prog 102 #[.agg #[.int .i64 a0_0, .slice A0_1 n0_1 c0_1, .slice A0_2 (tl k0_2 n0_2) (tl k0_2 n0_2)]] ws (Post1 w0 ws P0 (fun ((q_3, q_4, q_6, q_7) : (Option Addr) × Nat × (Option Addr) × Nat) => .tuple #[.agg #[.int .i64 r_1, .slice q_3 r_2.length q_4, .slice q_6 (tl q_8 r_5.length) (tl q_8 r_5.length)], .bool r_9]) (fun ((q_3, q_4, q_6, q_7) : (Option Addr) × Nat × (Option Addr) × Nat) => [row kStep 89 (.slice q_3 r_2.length q_4) r_2, row (Kd.int .i64) 3 (.slice q_6 r_5.length q_7) r_5])) := by
  unfold impl_told_2.f at h
  obtain rfl := (hF.row_C (i := 0) rfl).2.1
  obtain rfl := (hF.row_C (i := 1) rfl).2.1
  refine enter Try.func102 rfl Try.ntmps102 rfl hF ?_
  refine c_seq ?_
  refine za0 ?_
  refine o_e rfl (e_box rfl) (fun g1 => ?_)
  refine o_e rfl (zav V27 rfl) (fun g3 => ?_)
  refine o_q rfl rfl (q_asg rfl) ?_
  refine o_end ?_
  refine za1 ?_
  refine c_seq ?_
  refine c_seq ?_
  refine za0 ?_
  refine o_q rfl rfl (q_ldB G27 Z27 rfl (fun w h => h.zab (i := 1) rfl) rfl) ?_
  refine za8 h (fun b6 hx5 h => ?_) rfl
  refine o_e rfl (zac 0 Z Try.func86 N86 rfl rfl rfl (fun w P1 hF hB hS hT => impl_IsPlan.calls k a0_0 A0_1 c0_1 l0_1.length l0_1 A0_2 (tl k0_2 l0_2.length) (tl k0_2 l0_2.length) (l0_2.take k0_2) hB hF (hT 2 _ rfl).row (hT 2 _ rfl).cap (stab_tk k0_2 (hT 3 _ rfl).row) (Nat.le_refl _) _ hx5)) (fun _ => ?_)
  refine o_q rfl rfl (q_not rfl) ?_
  refine o_end ?_
  refine za1 ?_
  refine zar _ rfl (fun hb7 => ?_) (fun hb7 => ?_)
  · replace hb7 := nt_t hb7
    replace h := bb_f hb7 h
    refine c_seq ?_
    refine za0 ?_
    refine o_q rfl rfl (q_build (vs := []) (cs := [.int .i64 0, .slice none 0 0, .slice none 0 0]) rfl rfl) ?_
    refine o_e rfl (zal (i := 0) rfl rfl rfl Z27 rfl rfl) (fun _ => ?_)
    refine o_q rfl rfl (q_asg rfl) ?_
    refine o_end ?_
    refine za1 ?_
    refine c_ret ?_
    refine zaa ?_
    refine x_nil kStep 89 ?_
    refine x_nil (Kd.int .i64) 3 ?_
    have e0_ := Option.some.inj h; clear h
    have d0_ := (Prod.mk.inj e0_).1; have e1_ := (Prod.mk.inj e0_).2; clear e0_; subst d0_
    have d1_ := (Prod.mk.inj e1_).1; have e2_ := (Prod.mk.inj e1_).2; clear e1_; subst d1_
    have d2_ := (Prod.mk.inj e2_).1; have e3_ := (Prod.mk.inj e2_).2; clear e2_; subst d2_
    have d3_ := (Prod.mk.inj e3_).1; have e4_ := (Prod.mk.inj e3_).2; clear e3_; subst d3_
    subst e4_
    exact x_r2 (none, 0, none, 0) Try.results102 (rv_cell rfl G27 Z27 (fun w h => h.zab (i := 2) rfl) rfl) (zai rfl) rfl (fun w h => za7 [1, 0] (by decide) rfl w h)
  · replace hb7 := nt_f hb7
    replace h := bb_t hb7 h
    refine zam ?_
    refine za1 ?_
    refine c_seq ?_
    refine za0 ?_
    refine o_q rfl rfl (q_ldB G27 Z27 rfl (fun w h => h.zab (i := 1) rfl) rfl) ?_
    refine o_e rfl (zal (i := 0) rfl rfl rfl Z27 rfl rfl) (fun _ => ?_)
    refine o_q rfl rfl (q_asg rfl) ?_
    refine o_end ?_
    refine za1 ?_
    refine c_ret ?_
    have e0_ := Option.some.inj h; clear h
    have d0_ := (Prod.mk.inj e0_).1; have e1_ := (Prod.mk.inj e0_).2; clear e0_; subst d0_
    have d1_ := (Prod.mk.inj e1_).1; have e2_ := (Prod.mk.inj e1_).2; clear e1_; subst d1_
    have d2_ := (Prod.mk.inj e2_).1; have e3_ := (Prod.mk.inj e2_).2; clear e2_; subst d2_
    have d3_ := (Prod.mk.inj e3_).1; have e4_ := (Prod.mk.inj e3_).2; clear e3_; subst d3_
    subst e4_
    exact x_r2 (A0_1, c0_1, A0_2, c0_2) Try.results102 (rv_cell rfl G27 Z27 (fun w h => h.zab (i := 0) rfl) rfl) (zai rfl) rfl (fun w h => za7 [2, 3] (by decide) rfl w h)

/-! ### loop.example/g01098/impl.TurnPlan: function 67 -/
def impl_TurnPlan.f (k : Nat) (a0_0 : Int) (l0_1 : List SStep) (l0_2 : List Int) : Option (Int × (List SStep) × (List Int) × Nat × Bool) := ((impl_IsPlan.f k a0_0 l0_1 l0_2).bind fun b17 => if b17 = true then ((impl_Plan_canTurn.f a0_0 l0_1 l0_2).bind fun b20 => some (!b20)) else (some true)).bind fun b10 => if b10 = true then (some (0, ([] : List SStep), ([] : List Int), 0, false)) else ((impl_Plan_turned.f k a0_0 l0_1 l0_2).bind fun (l23, l24) => (impl_told_2.f k (l0_2.length : Int) l23 l24 ((a0_0 : Int).toNat)).bind fun (i30, l31, l32, z33, b34) => some (i30, l31, l32, z33, b34))
set_option maxHeartbeats 600000 in
set_option maxRecDepth 100000 in
theorem impl_TurnPlan.calls (k : Nat) {w0 ws : World} {P0 : Nat → Prop} (a0_0 : Int) (A0_1 : Option Addr) (c0_1 : Nat) (n0_1 : Nat) (l0_1 : List SStep) (A0_2 : Option Addr) (c0_2 : Nat) (n0_2 : Nat) (l0_2 : List Int) (Z : Below w0.heap.size w0 ws) (hF : Fr w0 ws P0 [] ws) (R0_1 : Stable ws P0 (fun w => Kd.C kStep w A0_1 n0_1 l0_1)) (hc0_1 : n0_1 ≤ c0_1) (R0_2 : Stable ws P0 (fun w => Kd.C (Kd.int .i64) w A0_2 n0_2 l0_2)) (hc0_2 : n0_2 ≤ c0_2) (r_1 : Int) (r_2 : List SStep) (r_5 : List Int) (q_8 : Nat) (r_9 : Bool) (h : impl_TurnPlan.f k a0_0 l0_1 l0_2 = some (r_1, r_2, r_5, q_8, r_9)) :
    Calls Try.prog 67 #[.agg #[.int .i64 a0_0, .slice A0_1 n0_1 c0_1, .slice A0_2 n0_2 c0_2]] ws (Post1 w0 ws P0 (fun ((q_3, q_4, q_6, q_7) : (Option Addr) × Nat × (Option Addr) × Nat) => .tuple #[.agg #[.int .i64 r_1, .slice q_3 r_2.length q_4, .slice q_6 (tl q_8 r_5.length) (tl q_8 r_5.length)], .bool r_9]) (fun ((q_3, q_4, q_6, q_7) : (Option Addr) × Nat × (Option Addr) × Nat) => [row kStep 89 (.slice q_3 r_2.length q_4) r_2, row (Kd.int .i64) 3 (.slice q_6 r_5.length q_7) r_5])) := by
  unfold impl_TurnPlan.f at h
  obtain rfl := (R0_1 ws (KeptB.refl _ _)).1
  obtain rfl := (R0_2 ws (KeptB.refl _ _)).1
  refine enter Try.func67 rfl Try.ntmps67 rfl hF ?_
  refine c_seq ?_
  refine za0 ?_
  refine o_e rfl (e_box rfl) (fun g1 => ?_)
  refine o_e rfl (zav V27 rfl) (fun g3 => ?_)
  refine o_q rfl rfl (q_asg rfl) ?_
  refine o_end ?_
  refine za1 ?_
  refine c_seq ?_
  refine za8 h (fun o11 hl12 hR13 => ?_) rfl
  clear h
  refine c_cutJ (σ := Bool) (fun b10 => some b10 = some o11) [4, 5, 6, 7, 8, 9, 10] (fun b10 => [(10, .bool b10)]) (fun b10 => [box g1 27 #[.int .i64 a0_0, .slice A0_1 l0_1.length c0_1, .slice A0_2 l0_2.length c0_2], box g3 27 #[.int .i64 0, .slice none 0 0, .slice none 0 0]]) ?_ ?_
  · skip
    have h := hl12; clear hl12
    clear hR13
    refine za0 ?_
    refine o_q rfl rfl (q_ldB G27 Z27 rfl (fun w h => h.zab (i := 1) rfl) rfl) ?_
    refine za8 h (fun b17 hx16 h => ?_) rfl
    refine o_e rfl (zac 0 Z Try.func86 N86 rfl rfl rfl (fun w P1 hF hB hS hT => impl_IsPlan.calls k a0_0 A0_1 c0_1 l0_1.length l0_1 A0_2 c0_2 l0_2.length l0_2 hB hF (hS _ R0_1) hc0_1 (hS _ R0_2) hc0_2 _ hx16)) (fun _ => ?_)
    refine o_q rfl rfl (q_not rfl) ?_
    refine o_q rfl rfl (za2 rfl) ?_
    refine byB b17 (fun hb18 => ?_) (fun hb18 => ?_)
    · replace h := bb_t hb18 h
      refine za8 h (fun b20 hx19 h => ?_) rfl
      refine o_ew (za4 rfl rfl rfl (congrArg (fun b => Value.bool (!(b))) hb18)) (zac 0 Z Try.func155 N155 rfl rfl rfl (fun w P1 hF hB hS hT => impl_Plan_canTurn.calls g1 a0_0 A0_1 c0_1 l0_1.length l0_1 A0_2 c0_2 l0_2.length l0_2 hB hF (hS _ R0_1) hc0_1 (hS _ R0_2) hc0_2 (hT 1 _ rfl).box _ hx19)) (fun _ => ?_)
      refine o_w (za4 rfl rfl rfl (congrArg (fun b => Value.bool (!(b))) hb18)) rfl (q_not rfl) ?_
      refine o_q rfl rfl (zas false (congrArg (fun b => Value.bool (!(b))) hb18) rfl) ?_
      refine o_end ?_
      refine zb0 (!b20) h ⟨rfl, trivial⟩ (fun w h => za7 [1, 0] (by decide) rfl w h) ?_
      repeat (first | exact zad _ _ | refine zaf rfl ?_ | refine zae rfl ?_ | refine zah rfl ?_)
    · replace h := bb_f hb18 h
      refine @o_n _ _ _ _ _ _ _ _ _ _ _ 8 (za3 rfl rfl rfl (congrArg (fun b => Value.bool (!(b))) hb18) rfl) (Eq.refl (some 8)) ?_
      refine @o_n _ _ _ _ _ _ _ _ _ _ _ 9 (za3 rfl rfl rfl (congrArg (fun b => Value.bool (!(b))) hb18) rfl) (Eq.refl (some 9)) ?_
      refine o_q rfl rfl (zas true (congrArg (fun b => Value.bool (!(b))) hb18) rfl) ?_
      refine o_end ?_
      refine zb0 true h ⟨rfl, trivial⟩ (fun w h => za7 [1, 0] (by decide) rfl w h) ?_
      repeat (first | exact zad _ _ | refine zaf rfl ?_ | refine zae rfl ?_ | refine zah rfl ?_)
  · skip
    refine (fun b10 => fun U14 hJ15 => ?_)
    have e_ := Option.some.inj hJ15; have h := hR13; rw [← e_] at h; clear e_ hJ15 hR13 hl12
    refine zar _ rfl (fun hb21 => ?_) (fun hb21 => ?_)
    · skip
      replace h := bb_t hb21 h
      refine c_seq ?_
      refine za0 ?_
      refine o_q rfl rfl (q_build (vs := []) (cs := [.int .i64 0, .slice none 0 0, .slice none 0 0]) rfl rfl) ?_
      refine o_e rfl (zal (i := 1) rfl rfl rfl Z27 rfl rfl) (fun _ => ?_)
      refine o_q rfl rfl (q_asg rfl) ?_
      refine o_end ?_
      refine za1 ?_
      refine c_ret ?_
      refine zaa ?_
      refine x_nil kStep 89 ?_
      refine x_nil (Kd.int .i64) 3 ?_
      have e0_ := Option.some.inj h; clear h
      have d0_ := (Prod.mk.inj e0_).1; have e1_ := (Prod.mk.inj e0_).2; clear e0_; subst d0_
      have d1_ := (Prod.mk.inj e1_).1; have e2_ := (Prod.mk.inj e1_).2; clear e1_; subst d1_
      have d2_ := (Prod.mk.inj e2_).1; have e3_ := (Prod.mk.inj e2_).2; clear e2_; subst d2_
      have d3_ := (Prod.mk.inj e3_).1; have e4_ := (Prod.mk.inj e3_).2; clear e3_; subst d3_
      subst e4_
      exact x_r2 (none, 0, none, 0) Try.results67 (rv_cell rfl G27 Z27 (fun w h => h.zab (i := 3) rfl) rfl) (zai rfl) rfl (fun w h => za7 [1, 0] (by decide) rfl w h)
    · skip
      replace h := bb_f hb21 h
      refine zam ?_
      refine za1 ?_
      refine c_seq ?_
      refine za0 ?_
      refine bindE2 h (fun l23 l24 hx22 h => ?_) rfl
      refine o_e rfl (zac 0 Z Try.func156 N156 rfl rfl rfl (fun w P1 hF hB hS hT => impl_Plan_turned.calls k g1 a0_0 A0_1 c0_1 l0_1.length l0_1 A0_2 c0_2 l0_2.length l0_2 hB hF (hS _ R0_1) hc0_1 (hS _ R0_2) hc0_2 (hT 0 _ rfl).box _ _ hx22)) (cur4 (fun A25 c26 A27 c28 => ?_))
      refine bindE5 h (fun i30 l31 l32 z33 b34 hx29 h => ?_) rfl
      refine o_e rfl (zac 2 Z Try.func102 N102 rfl rfl rfl (fun w P1 hF hB hS hT => impl_told_2.calls k (l0_2.length : Int) A25 c26 l23.length l23 A27 c28 l24.length l24 ((a0_0 : Int).toNat) hB hF _ _ _ _ _ hx29)) (cur4 (fun A35 c36 A37 c38 => ?_))
      refine o_q rfl rfl (q_ext rfl rfl) ?_
      refine o_q rfl rfl (q_ext rfl rfl) ?_
      refine o_e rfl (zal (i := 3) rfl rfl rfl Z27 rfl rfl) (fun _ => ?_)
      refine o_q rfl rfl (q_asg rfl) ?_
      refine o_end ?_
      refine za1 ?_
      refine c_ret ?_
      have e0_ := Option.some.inj h; clear h
      have d0_ := (Prod.mk.inj e0_).1; have e1_ := (Prod.mk.inj e0_).2; clear e0_; subst d0_
      have d1_ := (Prod.mk.inj e1_).1; have e2_ := (Prod.mk.inj e1_).2; clear e1_; subst d1_
      have d2_ := (Prod.mk.inj e2_).1; have e3_ := (Prod.mk.inj e2_).2; clear e2_; subst d2_
      have d3_ := (Prod.mk.inj e3_).1; have e4_ := (Prod.mk.inj e3_).2; clear e3_; subst d3_
      subst e4_
      exact x_r2 (A35, c36, A37, c38) Try.results67 (rv_cell rfl G27 Z27 (fun w h => h.zab (i := 3) rfl) rfl) (zai rfl) rfl (fun w h => za7 [0, 1] (by decide) rfl w h)

/-! ### slices.Equal[[]int,int]: function 144 -/
def slices_Equal_int_int.l0 (l1 : List Int) : (List Int) → Int → Option ((Bool) ⊕ (Unit))
  | [], i2 => some (.inr ())
  | y3 :: ys4, i2 => (gt l1 i2).bind fun y16 => if y3 ≠ y16 then (some (.inl false)) else (slices_Equal_int_int.l0 l1 ys4 (i2 + 1))
def slices_Equal_int_int.f (l0 : List Int) (l1 : List Int) : Option Bool := if (l0.length : Int) ≠ (l1.length : Int) then (some false) else ((slices_Equal_int_int.l0 l1 l0 0).bind fun o_ => match o_ with | .inl r_ => some r_ | .inr _ => some true)
set_option maxHeartbeats 600000 in
set_option maxRecDepth 100000 in
theorem slices_Equal_int_int.calls {w0 ws : World} {P0 : Nat → Prop} (A0 : Option Addr) (c0 : Nat) (n0 : Nat) (l0 : List Int) (A1 : Option Addr) (c1 : Nat) (n1 : Nat) (l1 : List Int) (Z : Below w0.heap.size w0 ws) (hF : Fr w0 ws P0 [] ws) (R0 : Stable ws P0 (fun w => Kd.C (Kd.int .i64) w A0 n0 l0)) (hc0 : n0 ≤ c0) (R1 : Stable ws P0 (fun w => Kd.C (Kd.int .i64) w A1 n1 l1)) (hc1 : n1 ≤ c1) (r_1 : Bool) (h : slices_Equal_int_int.f l0 l1 = some r_1) :
    Calls Try.prog 144 #[.slice A0 n0 c0, .slice A1 n1 c1] ws (Post1 w0 ws P0 (fun (_ : Unit) => .bool r_1) (fun (_ : Unit) => [])) := by
  unfold slices_Equal_int_int.f at h
  obtain rfl := (R0 ws (KeptB.refl _ _)).1
  obtain rfl := (R1 ws (KeptB.refl _ _)).1
  refine enter Try.func144 rfl Try.ntmps144 rfl hF ?_
  refine c_seq ?_
  refine za0 ?_
  refine o_q rfl rfl (q_asg rfl) ?_
  refine o_end ?_
  refine za1 ?_
  refine c_seq ?_
  refine c_seq ?_
  refine za0 ?_
  refine o_q rfl rfl (za2 rfl) ?_
  refine o_q rfl rfl (q_len Try.underlying25 rfl) ?_
  refine o_q rfl rfl (za2 rfl) ?_
  refine o_q rfl rfl (q_len Try.underlying25 rfl) ?_
  refine o_q rfl rfl (q_neq rfl rfl) ?_
  refine o_end ?_
  refine za1 ?_
  refine zar _ rfl (fun hb1 => ?_) (fun hb1 => ?_)
  · skip
    replace h := br_t hb1 h
    refine c_seq ?_
    refine za0 ?_
    refine o_q rfl rfl (q_asg rfl) ?_
    refine o_end ?_
    refine za1 ?_
    refine c_ret ?_
    refine zaa ?_
    have e0_ := Option.some.inj h; clear h
    subst e0_
    exact x_r1 () Try.results144 (zai rfl) rfl (fun w h => za7 [] (by decide) rfl w h)
  · skip
    replace h := br_f hb1 h
    refine zam ?_
    refine za1 ?_
    refine c_seq ?_
    refine c_seq ?_
    refine za0 ?_
    refine o_q rfl rfl (za2 rfl) ?_
    refine o_q rfl rfl (q_len Try.underlying25 rfl) ?_
    refine o_q rfl rfl (za2 rfl) ?_
    refine o_end ?_
    refine za1 ?_
    refine zaj ?_
    refine za8 h (fun o10 hl9 hR8 => ?_) rfl
    clear h
    refine c_fact (p := l0.length ≤ 9223372036854775807) (fun w h => (R0.now Z h).2.1) (fun hm7 => ?_)
    refine zax (σ := (List Int) × Int) (fun k5 ((ys4, i2) : (List Int) × Int) => Rg l0 i2 ys4 ∧ ys4.length = k5 ∧ slices_Equal_int_int.l0 l1 ys4 i2 = some o10) [4, 5, 13, 14, 15, 16, 17, 18, 19, 20, 21, 22, 23, 24, 25] (fun ((ys4, i2) : (List Int) × Int) => [(13, .int .i64 i2)]) (fun ((ys4, i2) : (List Int) × Int) => []) l0.length (l0, 0) ⟨Rg.start _, rfl, hl9⟩ ⟨rfl, trivial⟩ (fun w h => h) ?_
    refine fun k5 => cur2 (listC (fun i2 U11 hJ_ => ?_) (fun y3 ys4 i2 U11 hJ_ => ?_))
    · skip
      clear hl9
      have hr6 := hJ_.1; have hk12 := hJ_.2.1; have h := hJ_.2.2; clear hJ_
      replace h : slices_Equal_int_int.l0 l1 [] i2 = some o10 := h
      rw [slices_Equal_int_int.l0] at h
      refine c_seq ?_
      refine za0 ?_
      refine o_q rfl rfl (q_lss rfl rfl) ?_
      refine o_end ?_
      refine za1 ?_
      refine c_seq ?_
      refine zb3 (congrArg Value.bool hr6.ge) ?_
      refine zb6 ?_
      refine za6 ?_
      refine za6 ?_
      have e_ := Option.some.inj h; replace h := hR8; rw [← e_] at h; clear e_
      refine x_hit ?_
      refine za1 ?_
      refine c_seq ?_
      refine za0 ?_
      refine o_q rfl rfl (q_asg rfl) ?_
      refine o_end ?_
      refine za1 ?_
      refine c_ret ?_
      have e0_ := Option.some.inj h; clear h
      subst e0_
      exact x_r1 () Try.results144 (zai rfl) rfl (fun w h => za7 [] (by decide) rfl w h)
    · skip
      clear hl9
      have hr6 := hJ_.1; have hk12 := hJ_.2.1; have h := hJ_.2.2; clear hJ_
      replace h : slices_Equal_int_int.l0 l1 (y3 :: ys4) i2 = some o10 := h
      rw [slices_Equal_int_int.l0] at h
      refine c_seq ?_
      refine za0 ?_
      refine o_q rfl rfl (q_lss rfl rfl) ?_
      refine o_end ?_
      refine za1 ?_
      refine c_seq ?_
      refine zb2 (congrArg Value.bool hr6.lt) ?_
      refine zam ?_
      refine za1 ?_
      refine c_seq ?_
      refine zaj ?_
      refine c_seq ?_
      refine za0 ?_
      refine o_q rfl rfl (za2 rfl) ?_
      refine o_q rfl rfl (q_asg rfl) ?_
      refine o_end ?_
      refine za1 ?_
      refine c_seq ?_
      refine a_start (ds := []) MO rfl ?_
      refine za5 0 rfl rfl rfl (by kernel_rfl) (fun _ _ _ h => h) (za2 rfl) ?_
      refine za5 1 rfl rfl rfl (by kernel_rfl) (fun _ _ _ h => h) (za2 rfl) ?_
      refine a_fact (p := Sh A0 l0.length l0.length) (fun w h => f_sh (dk := (Kd.int .i64)) h (fun w h => R0.now Z h)) (fun hq13 => ?_)
      refine za5 2 rfl rfl rfl (by kernel_rfl) (fun _ _ _ h => h) (q_ix Try.underlying25 Z3 rfl rfl hq13 hr6.get) ?_
      refine zay 3 rfl rfl rfl (by kernel_rfl) (fun _ _ _ h => h) (fun w h => h) (q_lde (off := 0) Y3 rfl rfl (fun w h => R0.now Z h) hr6.get (fun _ _ h => h) rfl) ?_
      refine za5 4 rfl rfl rfl (by kernel_rfl) (fun _ _ _ h => h) (za2 rfl) ?_
      refine za5 5 rfl rfl rfl (by kernel_rfl) (fun _ _ _ h => h) (za2 rfl) ?_
      refine a_fact (p := Sh A1 l1.length l1.length) (fun w h => f_sh (dk := (Kd.int .i64)) h (fun w h => R1.now Z h)) (fun hq14 => ?_)
      refine za8 h (fun y16 hg15 h => ?_) rfl
      refine za5 6 rfl rfl rfl (by kernel_rfl) (fun _ _ _ h => h) (q_ix Try.underlying25 Z3 rfl rfl hq14 hg15) ?_
      refine zay 7 rfl rfl rfl (by kernel_rfl) (fun _ _ _ h => h) (fun w h => h) (q_lde (off := 0) Y3 rfl rfl (fun w h => R1.now Z h) hg15 (fun _ _ h => h) rfl) ?_
      refine za5 8 rfl rfl rfl (by kernel_rfl) (fun _ _ _ h => h) (q_neq rfl rfl) ?_
      refine zaz (by kernel_rfl) ?_
      refine za1 ?_
      refine zar _ rfl (fun hb17 => ?_) (fun hb17 => ?_)
      · skip
        replace h := br_t hb17 h
        refine c_seq ?_
        refine za0 ?_
        refine o_q rfl rfl (q_asg rfl) ?_
        refine o_end ?_
        refine za1 ?_
        refine c_ret ?_
        refine zao ?_
        refine zaa ?_
        refine zaa ?_
        have e_ := Option.some.inj h; replace h := hR8; rw [← e_] at h; clear e_
        refine zao ?_
        refine zaa ?_
        have e0_ := Option.some.inj h; clear h
        subst e0_
        exact x_r1 () Try.results144 (zai rfl) rfl (fun w h => za7 [] (by decide) rfl w h)
      · skip
        replace h := br_f hb17 h
        refine zam ?_
        refine zan ?_
        refine za1 ?_
        refine za0 ?_
        refine o_q rfl rfl (q_up rfl rfl (hr6.up hm7)) ?_
        refine o_q rfl rfl (za2 rfl) ?_
        refine o_end ?_
        refine zak ys4.length (ys4, i2 + 1) (by rw [← hk12]; exact Nat.lt_succ_self _) ⟨hr6.step, rfl, h⟩ ⟨rfl, trivial⟩ (fun w h => za7 [] (by decide) rfl w h) ?_
        repeat (first | exact zad _ _ | refine zaf rfl ?_ | refine zae rfl ?_ | refine zah rfl ?_)

/-! ### slices.EqualFunc[[][]int,[][]int,[]int,[]int]: function 187 -/
def slices_EqualFunc_int_int_int_int.l0 (l1 : List (List Int)) : (List (List Int)) → Int → Option ((Bool) ⊕ (Unit))
  | [], i2 => some (.inr ())
  | y3 :: ys4, i2 => (gt l1 i2).bind fun y17 => (slices_Equal_int_int.f y3 y17).bind fun b20 => if b20 = true then (slices_EqualFunc_int_int_int_int.l0 l1 ys4 (i2 + 1)) else (some (.inl false))
def slices_EqualFunc_int_int_int_int.f (l0 : List (List Int)) (l1 : List (List Int)) : Option Bool := if (l0.length : Int) ≠ (l1.length : Int) then (some false) else ((slices_EqualFunc_int_int_int_int.l0 l1 l0 0).bind fun o_ => match o_ with | .inl r_ => some r_ | .inr _ => some true)
set_option maxHeartbeats 600000 in
set_option maxRecDepth 100000 in
theorem slices_EqualFunc_int_int_int_int.calls {w0 ws : World} {P0 : Nat → Prop} (A0 : Option Addr) (c0 : Nat) (n0 : Nat) (H0 : Hd) (l0 : List (List Int)) (A1 : Option Addr) (c1 : Nat) (n1 : Nat) (H1 : Hd) (l1 : List (List Int)) (Z : Below w0.heap.size w0 ws) (hF : Fr w0 ws P0 [] ws) (R0 : Stable ws P0 (fun w => Kd.C (gk 3 (Kd.int .i64)) w A0 n0 (zp H0 l0))) (hc0 : n0 ≤ c0) (R1 : Stable ws P0 (fun w => Kd.C (gk 3 (Kd.int .i64)) w A1 n1 (zp H1 l1))) (hc1 : n1 ≤ c1) (r_1 : Bool) (h : slices_EqualFunc_int_int_int_int.f l0 l1 = some r_1) :
    Calls Try.prog 187 #[.slice A0 n0 c0, .slice A1 n1 c1, .func (.func 144) #[] #[]] ws (Post1 w0 ws P0 (fun (_ : Unit) => .bool r_1) (fun (_ : Unit) => [])) := by
  unfold slices_EqualFunc_int_int_int_int.f at h
  obtain rfl := (zp_len _ _).symm.trans (R0 ws (KeptB.refl _ _)).1
  obtain rfl := (zp_len _ _).symm.trans (R1 ws (KeptB.refl _ _)).1
  refine enter Try.func187 rfl Try.ntmps187 rfl hF ?_
  refine c_seq ?_
  refine za0 ?_
  refine o_q rfl rfl (q_asg rfl) ?_
  refine o_end ?_
  refine za1 ?_
  refine c_seq ?_
  refine c_seq ?_
  refine za0 ?_
  refine o_q rfl rfl (za2 rfl) ?_
  refine o_q rfl rfl (q_len Try.underlying60 rfl) ?_
  refine o_q rfl rfl (za2 rfl) ?_
  refine o_q rfl rfl (q_len Try.underlying60 rfl) ?_
  refine o_q rfl rfl (q_neq rfl rfl) ?_
  refine o_end ?_
  refine za1 ?_
  refine zar _ rfl (fun hb1 => ?_) (fun hb1 => ?_)
  · skip
    replace h := br_t hb1 h
    refine c_seq ?_
    refine za0 ?_
    refine o_q rfl rfl (q_asg rfl) ?_
    refine o_end ?_
    refine za1 ?_
    refine c_ret ?_
    refine zaa ?_
    have e0_ := Option.some.inj h; clear h
    subst e0_
    exact x_r1 () Try.results187 (zai rfl) rfl (fun w h => za7 [] (by decide) rfl w h)
  · skip
    replace h := br_f hb1 h
    refine zam ?_
    refine za1 ?_
    refine c_seq ?_
    refine c_seq ?_
    refine za0 ?_
    refine o_q rfl rfl (za2 rfl) ?_
    refine o_q rfl rfl (q_len Try.underlying60 rfl) ?_
    refine o_q rfl rfl (za2 rfl) ?_
    refine o_end ?_
    refine za1 ?_
    refine zaj ?_
    refine za8 h (fun o10 hl9 hR8 => ?_) rfl
    clear h
    refine c_fact (p := l0.length ≤ 9223372036854775807) (fun w h => (R0.now Z h).2.1) (fun hm7 => ?_)
    refine zax (σ := (List (List Int)) × Int) (fun k5 ((ys4, i2) : (List (List Int)) × Int) => Rg l0 i2 ys4 ∧ ys4.length = k5 ∧ slices_EqualFunc_int_int_int_int.l0 l1 ys4 i2 = some o10) [6, 7, 8, 9, 17, 18, 19, 20, 21, 22, 23, 24, 25, 26, 27, 28, 29, 30, 31] (fun ((ys4, i2) : (List (List Int)) × Int) => [(17, .int .i64 i2)]) (fun ((ys4, i2) : (List (List Int)) × Int) => []) l0.length (l0, 0) ⟨Rg.start _, rfl, hl9⟩ ⟨rfl, trivial⟩ (fun w h => h) ?_
    refine fun k5 => cur2 (listC (fun i2 U11 hJ_ => ?_) (fun y3 ys4 i2 U11 hJ_ => ?_))
    · skip
      clear hl9
      have hr6 := hJ_.1; have hk12 := hJ_.2.1; have h := hJ_.2.2; clear hJ_
      replace h : slices_EqualFunc_int_int_int_int.l0 l1 [] i2 = some o10 := h
      rw [slices_EqualFunc_int_int_int_int.l0] at h
      refine c_seq ?_
      refine za0 ?_
      refine o_q rfl rfl (q_lss rfl rfl) ?_
      refine o_end ?_
      refine za1 ?_
      refine c_seq ?_
      refine zb3 (congrArg Value.bool hr6.ge) ?_
      refine zb6 ?_
      refine za6 ?_
      refine za6 ?_
      have e_ := Option.some.inj h; replace h := hR8; rw [← e_] at h; clear e_
      refine x_hit ?_
      refine za1 ?_
      refine c_seq ?_
      refine za0 ?_
      refine o_q rfl rfl (q_asg rfl) ?_
      refine o_end ?_
      refine za1 ?_
      refine c_ret ?_
      have e0_ := Option.some.inj h; clear h
      subst e0_
      exact x_r1 () Try.results187 (zai rfl) rfl (fun w h => za7 [] (by decide) rfl w h)
    · skip
      clear hl9
      have hr6 := hJ_.1; have hk12 := hJ_.2.1; have h := hJ_.2.2; clear hJ_
      replace h : slices_EqualFunc_int_int_int_int.l0 l1 (y3 :: ys4) i2 = some o10 := h
      rw [slices_EqualFunc_int_int_int_int.l0] at h
      refine c_seq ?_
      refine za0 ?_
      refine o_q rfl rfl (q_lss rfl rfl) ?_
      refine o_end ?_
      refine za1 ?_
      refine c_seq ?_
      refine zb2 (congrArg Value.bool hr6.lt) ?_
      refine zam ?_
      refine za1 ?_
      refine c_seq ?_
      refine zaj ?_
      refine c_seq ?_
      refine za0 ?_
      refine o_q rfl rfl (za2 rfl) ?_
      refine zau (p := Sh A0 l0.length (zp H0 l0).length) (fun w h => f_sh (dk := (gk 3 (Kd.int .i64))) h (fun w h => R0.now Z h)) (fun hq13 => ?_)
      refine o_q rfl rfl (q_ix Try.underlying60 Z25 rfl rfl hq13 (gt_zp hr6.get)) ?_
      refine zau (p := y3.length ≤ hC H0 i2) (fun w h => (K_in (R0.now Z h) hr6.get).1) (fun hc14 => ?_)
      refine o_q rfl rfl (q_lde (off := 0) Y25 rfl rfl (fun w h => R0.now Z h) (gt_zp hr6.get) (fun _ _ h => h.1) rfl) ?_
      refine o_q rfl rfl (q_asg rfl) ?_
      refine o_q rfl rfl (q_asg rfl) ?_
      refine o_end ?_
      refine za1 ?_
      refine c_seq ?_
      refine za0 ?_
      refine o_q rfl rfl (za2 rfl) ?_
      refine o_q rfl rfl (za2 rfl) ?_
      refine zau (p := Sh A1 l1.length (zp H1 l1).length) (fun w h => f_sh (dk := (gk 3 (Kd.int .i64))) h (fun w h => R1.now Z h)) (fun hq15 => ?_)
      refine za8 h (fun y17 hg16 h => ?_) rfl
      refine o_q rfl rfl (q_ix Try.underlying60 Z25 rfl rfl hq15 (gt_zp hg16)) ?_
      refine zau (p := y17.length ≤ hC H1 i2) (fun w h => (K_in (R1.now Z h) hg16).1) (fun hc18 => ?_)
      refine o_q rfl rfl (q_lde (off := 0) Y25 rfl rfl (fun w h => R1.now Z h) (gt_zp hg16) (fun _ _ h => h.1) rfl) ?_
      refine o_q rfl rfl (q_asg rfl) ?_
      refine o_end ?_
      refine za1 ?_
      refine c_seq ?_
      refine za0 ?_
      refine o_q rfl rfl (za2 rfl) ?_
      refine o_q rfl rfl (za2 rfl) ?_
      refine o_q rfl rfl (za2 rfl) ?_
      refine za8 h (fun b20 hx19 h => ?_) rfl
      refine o_e rfl (zac 0 Z Try.func144 N144 rfl rfl rfl (fun w P1 hF hB hS hT => slices_Equal_int_int.calls (hA H0 i2) (hC H0 i2) y3.length y3 (hA H1 i2) (hC H1 i2) y17.length y17 hB hF (stab_in (hS _ R0) hr6.get) hc14 (stab_in (hS _ R1) hg16) hc18 _ hx19)) (fun _ => ?_)
      refine o_q rfl rfl (q_not rfl) ?_
      refine o_end ?_
      refine za1 ?_
      refine zar _ rfl (fun hb21 => ?_) (fun hb21 => ?_)
      · replace hb21 := nt_t hb21
        replace h := bb_f hb21 h
        refine c_seq ?_
        refine za0 ?_
        refine o_q rfl rfl (q_asg rfl) ?_
        refine o_end ?_
        refine za1 ?_
        refine c_ret ?_
        refine zao ?_
        refine zaa ?_
        refine zaa ?_
        have e_ := Option.some.inj h; replace h := hR8; rw [← e_] at h; clear e_
        refine zao ?_
        refine zaa ?_
        have e0_ := Option.some.inj h; clear h
        subst e0_
        exact x_r1 () Try.results187 (zai rfl) rfl (fun w h => za7 [] (by decide) rfl w h)
      · replace hb21 := nt_f hb21
        replace h := bb_t hb21 h
        refine zam ?_
        refine zan ?_
        refine za1 ?_
        refine za0 ?_
        refine o_q rfl rfl (q_up rfl rfl (hr6.up hm7)) ?_
        refine o_q rfl rfl (za2 rfl) ?_
        refine o_end ?_
        refine zak ys4.length (ys4, i2 + 1) (by rw [← hk12]; exact Nat.lt_succ_self _) ⟨hr6.step, rfl, h⟩ ⟨rfl, trivial⟩ (fun w h => za7 [] (by decide) rfl w h) ?_
        repeat (first | exact zad _ _ | refine zaf rfl ?_ | refine zae rfl ?_ | refine zah rfl ?_)

/-! ### loop.example/g01098/impl.samePowers: function 109 -/
def impl_samePowers.f (a0_0 : Int) (l0_1 : List SStep) (l0_2 : List Int) (a1_0 : Int) (l1_1 : List SStep) (l1_2 : List Int) : Option Bool := if a0_0 = a1_0 then ((impl_Plan_outputExponents.f a0_0 l0_1 l0_2).bind fun l3 => (impl_Plan_outputExponents.f a1_0 l1_1 l1_2).bind fun l8 => (slices_EqualFunc_int_int_int_int.f l3 l8).bind fun b13 => some b13) else (some false)
set_option maxHeartbeats 600000 in
set_option maxRecDepth 100000 in
theorem impl_samePowers.calls {w0 ws : World} {P0 : Nat → Prop} (g0 : Nat) (a0_0 : Int) (A0_1 : Option Addr) (c0_1 : Nat) (n0_1 : Nat) (l0_1 : List SStep) (A0_2 : Option Addr) (c0_2 : Nat) (n0_2 : Nat) (l0_2 : List Int) (g1 : Nat) (a1_0 : Int) (A1_1 : Option Addr) (c1_1 : Nat) (n1_1 : Nat) (l1_1 : List SStep) (A1_2 : Option Addr) (c1_2 : Nat) (n1_2 : Nat) (l1_2 : List Int) (Z : Below w0.heap.size w0 ws) (hF : Fr w0 ws P0 [] ws) (R0_1 : Stable ws P0 (fun w => Kd.C kStep w A0_1 n0_1 l0_1)) (hc0_1 : n0_1 ≤ c0_1) (R0_2 : Stable ws P0 (fun w => Kd.C (Kd.int .i64) w A0_2 n0_2 l0_2)) (hc0_2 : n0_2 ≤ c0_2) (B0 : Stable ws P0 (fun w => w.heap[g0]? = some (.cells #[.int .i64 a0_0, .slice A0_1 n0_1 c0_1, .slice A0_2 n0_2 c0_2] 27 (0, 0)))) (R1_1 : Stable ws P0 (fun w => Kd.C kStep w A1_1 n1_1 l1_1)) (hc1_1 : n1_1 ≤ c1_1) (R1_2 : Stable ws P0 (fun w => Kd.C (Kd.int .i64) w A1_2 n1_2 l1_2)) (hc1_2 : n1_2 ≤ c1_2) (B1 : Stable ws P0 (fun w => w.heap[g1]? = some (.cells #[.int .i64 a1_0, .slice A1_1 n1_1 c1_1, .slice A1_2 n1_2 c1_2] 27 (0, 0)))) (r_1 : Bool) (h : impl_samePowers.f a0_0 l0_1 l0_2 a1_0 l1_1 l1_2 = some r_1) :
    Calls Try.prog 109 #[.pointer (some ⟨g0, 0, none⟩), .pointer (some ⟨g1, 0, none⟩)] ws (Post1 w0 ws P0 (fun (_ : Unit) => .bool r_1) (fun (_ : Unit) => [])) := by
  unfold impl_samePowers.f at h
  obtain rfl := (R0_1 ws (KeptB.refl _ _)).1
  obtain rfl := (R0_2 ws (KeptB.refl _ _)).1
  obtain rfl := (R1_1 ws (KeptB.refl _ _)).1
  obtain rfl := (R1_2 ws (KeptB.refl _ _)).1
  refine enter Try.func109 rfl Try.ntmps109 rfl hF ?_
  refine c_seq ?_
  refine za0 ?_
  refine o_q rfl rfl (q_asg rfl) ?_
  refine o_end ?_
  refine za1 ?_
  refine c_seq ?_
  refine a_start (ds := []) MO rfl ?_
  refine za5 0 rfl rfl rfl (by kernel_rfl) (fun _ _ _ h => h) (za2 rfl) ?_
  refine za5 1 rfl rfl rfl (by kernel_rfl) (fun _ _ _ h => h) (q_nil rfl) ?_
  refine za5 2 rfl rfl rfl (by kernel_rfl) (fun _ _ _ h => h) (q_f F27_0 rfl) ?_
  refine zay 3 rfl rfl rfl (by kernel_rfl) (fun _ _ _ h => h) (fun w h => h) (q_ldb Y3 rfl (fun w h => B0.now Z h) rfl) ?_
  refine za5 4 rfl rfl rfl (by kernel_rfl) (fun _ _ _ h => h) (za2 rfl) ?_
  refine za5 5 rfl rfl rfl (by kernel_rfl) (fun _ _ _ h => h) (q_nil rfl) ?_
  refine za5 6 rfl rfl rfl (by kernel_rfl) (fun _ _ _ h => h) (q_f F27_0 rfl) ?_
  refine zay 7 rfl rfl rfl (by kernel_rfl) (fun _ _ _ h => h) (fun w h => h) (q_ldb Y3 rfl (fun w h => B1.now Z h) rfl) ?_
  refine za5 8 rfl rfl rfl (by kernel_rfl) (fun _ _ _ h => h) (q_eql rfl rfl) ?_
  refine za5 9 rfl rfl rfl (by kernel_rfl) (fun _ _ _ h => h) (za2 rfl) ?_
  refine byB (decide (a0_0 = a1_0)) (fun hb1 => ?_) (fun hb1 => ?_)
  · replace h := br_t hb1 h
    refine a_purew 10 rfl rfl (za4 rfl rfl rfl (congrArg Value.bool hb1)) (by kernel_rfl) (fun _ _ _ h => h) (za2 rfl) ?_
    refine a_purew 12 rfl rfl (za4 rfl rfl rfl (congrArg Value.bool hb1)) (by kernel_rfl) (fun _ _ _ h => h) (za2 rfl) ?_
    refine za8 h (fun l3 hx2 h => ?_) rfl
    refine a_onew 11 rfl (za4 rfl rfl rfl (congrArg Value.bool hb1)) (by kernel_rfl) rfl (zac 0 Z Try.func135 N135 rfl rfl rfl (fun w P1 hF hB hS hT => impl_Plan_outputExponents.calls g0 a0_0 A0_1 c0_1 l0_1.length l0_1 A0_2 c0_2 l0_2.length l0_2 hB hF (hS _ R0_1) hc0_1 (hS _ R0_2) hc0_2 (hS _ B0) _ hx2)) (fun s w h => za9 [] (by decide) w h rfl) (cur3 (fun A4 c5 H6 => ?_))
    refine za8 h (fun l8 hx7 h => ?_) rfl
    refine a_onew 13 rfl (za4 rfl rfl rfl (congrArg Value.bool hb1)) (by kernel_rfl) rfl (zac 0 Z Try.func135 N135 rfl rfl rfl (fun w P1 hF hB hS hT => impl_Plan_outputExponents.calls g1 a1_0 A1_1 c1_1 l1_1.length l1_1 A1_2 c1_2 l1_2.length l1_2 hB hF (hS _ R1_1) hc1_1 (hS _ R1_2) hc1_2 (hS _ B1) _ hx7)) (fun s w h => za9 [] (by decide) w h rfl) (cur3 (fun A9 c10 H11 => ?_))
    refine za8 h (fun b13 hx12 h => ?_) rfl
    refine a_onew 14 rfl (za4 rfl rfl rfl (congrArg Value.bool hb1)) (by kernel_rfl) rfl (zac 0 Z Try.func187 N187 rfl rfl rfl (fun w P1 hF hB hS hT => slices_EqualFunc_int_int_int_int.calls A4 c5 l3.length H6 l3 A9 c10 l8.length H11 l8 hB hF (hT 1 _ rfl).row (hT 1 _ rfl).cap (hT 0 _ rfl).row (hT 0 _ rfl).cap _ hx12)) (fun s w h => za9 [] (by decide) w h rfl) (fun _ => ?_)
    refine za5 15 rfl rfl rfl (by kernel_rfl) (fun _ _ _ h => h) (zas true (congrArg Value.bool hb1) rfl) ?_
    refine za5 16 rfl rfl rfl (by kernel_rfl) (fun _ _ _ h => h) (q_asg rfl) ?_
    refine zaz (by kernel_rfl) ?_
    refine za1 ?_
    refine c_ret ?_
    have e0_ := Option.some.inj h; clear h
    subst e0_
    exact x_r1 () Try.results109 (zai rfl) rfl (fun w h => za7 [] (by decide) rfl w h)
  · replace h := br_f hb1 h
    refine a_no 10 rfl rfl (za3 rfl rfl rfl (congrArg Value.bool hb1) rfl) (by kernel_rfl) (fun _ _ _ h => h) ?_
    refine a_no 11 rfl rfl (za3 rfl rfl rfl (congrArg Value.bool hb1) rfl) (by kernel_rfl) (fun _ _ _ h => h) ?_
    refine a_no 12 rfl rfl (za3 rfl rfl rfl (congrArg Value.bool hb1) rfl) (by kernel_rfl) (fun _ _ _ h => h) ?_
    refine a_no 13 rfl rfl (za3 rfl rfl rfl (congrArg Value.bool hb1) rfl) (by kernel_rfl) (fun _ _ _ h => h) ?_
    refine a_no 14 rfl rfl (za3 rfl rfl rfl (congrArg Value.bool hb1) rfl) (by kernel_rfl) (fun _ _ _ h => h) ?_
    refine za5 15 rfl rfl rfl (by kernel_rfl) (fun _ _ _ h => h) (zas false (congrArg Value.bool hb1) rfl) ?_
    refine za5 16 rfl rfl rfl (by kernel_rfl) (fun _ _ _ h => h) (q_asg rfl) ?_
    refine zaz (by kernel_rfl) ?_
    refine za1 ?_
    refine c_ret ?_
    have e0_ := Option.some.inj h; clear h
    subst e0_
    exact x_r1 () Try.results109 (zai rfl) rfl (fun w h => za7 [] (by decide) rfl w h)

end Go.Proofs.Ytoegbcbdiggbjaa.FC
