import Derived.Test.YtoegbcbdiggbjaaKFnSplitPlansSPp2
namespace Go.Proofs.Ytoegbcbdiggbjaa.SP
open Go.RowKit Go.Proofs.Ytoegbcbdiggbjaa.Frame Go.Proofs.YtoegbcbdiggbjaaW.PrintLast Go.Proofs.Ytoegbcbdiggbjaa.Hand
open Go.Proofs.YtoegbcbdiggbjaaW.PrintWords hiding mn mx
set_option linter.unusedVariables false
/-! ### loop.example/g01098/spec.duLive: function 95 -/
def spec_duLive.l2 (a0_0 : Int) (a1 : Int) : (List Int) → (List Int) → Int → Option (List Int)
  | [], l35, i38 => some l35
  | y39 :: ys40, l35, i38 => if y39 < w64 (a0_0 + a1) then ((ap l35 ([y39] : List Int)).bind fun l54 => spec_duLive.l2 a0_0 a1 ys40 l54 (i38 + 1)) else (spec_duLive.l2 a0_0 a1 ys40 l35 (i38 + 1))
def spec_duLive.l1 (k : Nat) : (List Int) → (List Int) → Int → Option (List Int)
  | [], l20, i23 => some l20
  | y24 :: ys25, l20, i23 => (spec_l1Put.f k l20 y24).bind fun l60 => spec_duLive.l1 k ys25 l60 (i23 + 1)
def spec_duLive.l0 (k : Nat) : (List SStep) → (List Int) → Int → Option (List Int)
  | [], l6, i9 => some l6
  | y10 :: ys11, l6, i9 => (spec_l1Put.f k l6 y10.f0).bind fun l67 => (spec_l1Put.f k l67 y10.f1).bind fun l71 => spec_duLive.l0 k ys11 l71 (i9 + 1)
def spec_duLive.f (k : Nat) (a0_0 : Int) (l0_1 : List SStep) (l0_2 : List Int) (a1 : Int) : Option (List Int) := (ct l0_1 a1 (l0_1.length : Int)).bind fun l3 => (spec_duLive.l0 k l3 ([] : List Int) 0).bind fun l6 => (spec_duLive.l1 k l0_2 l6 0).bind fun l20 => (spec_duLive.l2 a0_0 a1 l20 ([] : List Int) 0).bind fun l35 => some l35
set_option maxHeartbeats 600000 in
set_option maxRecDepth 100000 in
theorem spec_duLive.calls (k : Nat) {w0 ws : World} {P0 : Nat → Prop} (a0_0 : Int) (A0_1 : Option Addr) (c0_1 : Nat) (n0_1 : Nat) (l0_1 : List SStep) (A0_2 : Option Addr) (c0_2 : Nat) (n0_2 : Nat) (l0_2 : List Int) (a1 : Int) (Z : Below w0.heap.size w0 ws) (hF : Fr w0 ws P0 [] ws) (R0_1 : Stable ws P0 (fun w => Kd.C kStep w A0_1 n0_1 l0_1)) (hc0_1 : n0_1 ≤ c0_1) (R0_2 : Stable ws P0 (fun w => Kd.C (Kd.int .i64) w A0_2 n0_2 l0_2)) (hc0_2 : n0_2 ≤ c0_2) (r_1 : List Int) (h : spec_duLive.f k a0_0 l0_1 l0_2 a1 = some r_1) :
    Calls Try.prog 95 #[.agg #[.int .i64 a0_0, .slice A0_1 n0_1 c0_1, .slice A0_2 n0_2 c0_2], .int .i64 a1] ws (Post1 w0 ws P0 (fun ((q_2, q_3) : (Option Addr) × Nat) => .slice q_2 r_1.length q_3) (fun ((q_2, q_3) : (Option Addr) × Nat) => [row (Kd.int .i64) 3 (.slice q_2 r_1.length q_3) r_1])) := by
  unfold spec_duLive.f at h
  obtain rfl := (R0_1 ws (KeptB.refl _ _)).1
  obtain rfl := (R0_2 ws (KeptB.refl _ _)).1
  refine enter Try.func95 rfl Try.ntmps95 rfl hF ?_
  refine c_seq ?_
  refine za0 ?_
  refine o_e rfl (e_box rfl) (fun g1 => ?_)
  refine o_q rfl rfl (q_asg rfl) ?_
  refine o_end ?_
  refine za1 ?_
  refine c_seq ?_
  refine za0 ?_
  refine o_q rfl rfl (q_asg rfl) ?_
  refine o_end ?_
  refine za1 ?_
  refine c_seq ?_
  refine c_seq ?_
  refine za0 ?_
  refine o_q rfl rfl (q_f F27_1 rfl) ?_
  refine o_q rfl rfl (q_ldb Y24 rfl (fun w h => h.zaa (i := 0) rfl) rfl) ?_
  refine o_q rfl rfl (za2 rfl) ?_
  refine za8 h (fun l3 hz4 h => ?_) rfl
  refine o_q rfl rfl (q_ctv Try.underlying24 Z89 rfl ⟨_, rfl⟩ rfl rfl hc0_1 hz4) ?_
  refine o_q rfl rfl (q_len Try.underlying24 rfl) ?_
  refine o_q rfl rfl (za2 rfl) ?_
  refine o_end ?_
  refine za1 ?_
  refine zaj ?_
  refine c_nil (Kd.int .i64) 3 ?_
  refine za8 h (fun o17 hl16 hR15 => ?_) rfl
  clear h
  refine c_fact (p := l3.length ≤ 9223372036854775807) (fun w h => (C_cut (dk := kStep) rfl hz4 hc0_1 (R0_1.now Z h)).2.1) (fun hm14 => ?_)
  refine c_loopL (σ := (List SStep) × (List Int) × Int × (Option Addr) × Nat) (fun k12 ((ys11, l6, i9, A7, c8) : (List SStep) × (List Int) × Int × (Option Addr) × Nat) => Rg l3 i9 ys11 ∧ ys11.length = k12 ∧ spec_duLive.l0 k ys11 l6 i9 = some o17) [5, 7, 18, 19, 20, 21, 22, 23, 24, 25, 26, 27, 28, 29] (fun ((ys11, l6, i9, A7, c8) : (List SStep) × (List Int) × Int × (Option Addr) × Nat) => [(5, .slice A7 l6.length c8), (18, .int .i64 i9)]) (fun ((ys11, l6, i9, A7, c8) : (List SStep) × (List Int) × Int × (Option Addr) × Nat) => [row (Kd.int .i64) 3 (.slice A7 l6.length c8) l6, box g1 27 #[.int .i64 a0_0, .slice A0_1 l0_1.length c0_1, .slice A0_2 l0_2.length c0_2]]) l3.length (l3, ([] : List Int), 0, none, 0) ⟨Rg.start _, rfl, hl16⟩ ⟨rfl, rfl, trivial⟩ (fun w h => h) ?_
  refine fun k12 => cur5 (listC (fun l6 i9 A7 c8 U18 hJ_ => ?_) (fun y10 ys11 l6 i9 A7 c8 U18 hJ_ => ?_))
  · skip
    clear hl16
    have hr13 := hJ_.1; have hk19 := hJ_.2.1; have h := hJ_.2.2; clear hJ_
    replace h : spec_duLive.l0 k [] l6 i9 = some o17 := h
    rw [spec_duLive.l0] at h
    refine c_seq ?_
    refine za0 ?_
    refine o_q rfl rfl (q_lss rfl rfl) ?_
    refine o_end ?_
    refine za1 ?_
    refine c_seq ?_
    refine c_false (congrArg Value.bool hr13.ge) ?_
    refine c_exit ?_
    refine za9 ?_
    refine za9 ?_
    have e_ := Option.some.inj h; replace h := hR15; rw [← e_] at h; clear e_
    refine x_hit ?_
    refine za1 ?_
    refine c_seq ?_
    refine c_seq ?_
    refine za0 ?_
    refine o_q rfl rfl (q_f F27_2 rfl) ?_
    refine o_q rfl rfl (q_ldb Y25 rfl (fun w h => h.zaa (i := 1) rfl) rfl) ?_
    refine o_q rfl rfl (q_len Try.underlying25 rfl) ?_
    refine o_q rfl rfl (za2 rfl) ?_
    refine o_end ?_
    refine za1 ?_
    refine zaj ?_
    refine za8 h (fun o31 hl30 hR29 => ?_) rfl
    clear h
    refine c_fact (p := l0_2.length ≤ 9223372036854775807) (fun w h => (R0_2.now Z h).2.1) (fun hm28 => ?_)
    refine c_loopL (σ := (List Int) × (List Int) × Int × (Option Addr) × Nat) (fun k26 ((ys25, l20, i23, A21, c22) : (List Int) × (List Int) × Int × (Option Addr) × Nat) => Rg l0_2 i23 ys25 ∧ ys25.length = k26 ∧ spec_duLive.l1 k ys25 l20 i23 = some o31) [5, 9, 33, 34, 35, 36, 37, 38, 39, 40] (fun ((ys25, l20, i23, A21, c22) : (List Int) × (List Int) × Int × (Option Addr) × Nat) => [(5, .slice A21 l20.length c22), (33, .int .i64 i23)]) (fun ((ys25, l20, i23, A21, c22) : (List Int) × (List Int) × Int × (Option Addr) × Nat) => [row (Kd.int .i64) 3 (.slice A21 l20.length c22) l20, box g1 27 #[.int .i64 a0_0, .slice A0_1 l0_1.length c0_1, .slice A0_2 l0_2.length c0_2]]) l0_2.length (l0_2, l6, 0, A7, c8) ⟨Rg.start _, rfl, hl30⟩ ⟨rfl, rfl, trivial⟩ (fun w h => h) ?_
    refine fun k26 => cur5 (listC (fun l20 i23 A21 c22 U32 hJ_ => ?_) (fun y24 ys25 l20 i23 A21 c22 U32 hJ_ => ?_))
    · skip
      clear hl30
      have hr27 := hJ_.1; have hk33 := hJ_.2.1; have h := hJ_.2.2; clear hJ_
      replace h : spec_duLive.l1 k [] l20 i23 = some o31 := h
      rw [spec_duLive.l1] at h
      refine c_seq ?_
      refine za0 ?_
      refine o_q rfl rfl (q_lss rfl rfl) ?_
      refine o_end ?_
      refine za1 ?_
      refine c_seq ?_
      refine c_false (congrArg Value.bool hr27.ge) ?_
      refine c_exit ?_
      refine za9 ?_
      refine za9 ?_
      have e_ := Option.some.inj h; replace h := hR29; rw [← e_] at h; clear e_
      refine x_hit ?_
      refine za1 ?_
      refine c_seq ?_
      refine za0 ?_
      refine o_q rfl rfl (q_asg rfl) ?_
      refine o_end ?_
      refine za1 ?_
      refine c_seq ?_
      refine c_seq ?_
      refine za0 ?_
      refine o_q rfl rfl (za2 rfl) ?_
      refine o_q rfl rfl (q_len Try.underlying25 rfl) ?_
      refine o_q rfl rfl (za2 rfl) ?_
      refine o_end ?_
      refine za1 ?_
      refine zaj ?_
      refine c_nil (Kd.int .i64) 3 ?_
      refine za8 h (fun o46 hl45 hR44 => ?_) rfl
      clear h
      refine c_fact (p := l20.length ≤ 9223372036854775807) (fun w h => (h.zay (i := 1) rfl).2.1) (fun hm43 => ?_)
      refine c_loopL (σ := (List Int) × (List Int) × Int × (Option Addr) × Nat) (fun k41 ((ys40, l35, i38, A36, c37) : (List Int) × (List Int) × Int × (Option Addr) × Nat) => Rg l20 i38 ys40 ∧ ys40.length = k41 ∧ spec_duLive.l2 a0_0 a1 ys40 l35 i38 = some o46) [10, 12, 43, 44, 45, 46, 47, 48, 49, 50, 51, 52, 53, 54, 55, 56, 57] (fun ((ys40, l35, i38, A36, c37) : (List Int) × (List Int) × Int × (Option Addr) × Nat) => [(10, .slice A36 l35.length c37), (43, .int .i64 i38)]) (fun ((ys40, l35, i38, A36, c37) : (List Int) × (List Int) × Int × (Option Addr) × Nat) => [row (Kd.int .i64) 3 (.slice A36 l35.length c37) l35, row (Kd.int .i64) 3 (.slice A21 l20.length c22) l20, box g1 27 #[.int .i64 a0_0, .slice A0_1 l0_1.length c0_1, .slice A0_2 l0_2.length c0_2]]) l20.length (l20, ([] : List Int), 0, none, 0) ⟨Rg.start _, rfl, hl45⟩ ⟨rfl, rfl, trivial⟩ (fun w h => h) ?_
      refine fun k41 => cur5 (listC (fun l35 i38 A36 c37 U47 hJ_ => ?_) (fun y39 ys40 l35 i38 A36 c37 U47 hJ_ => ?_))
      · skip
        clear hl45
        have hr42 := hJ_.1; have hk48 := hJ_.2.1; have h := hJ_.2.2; clear hJ_
        replace h : spec_duLive.l2 a0_0 a1 [] l35 i38 = some o46 := h
        rw [spec_duLive.l2] at h
        refine c_seq ?_
        refine za0 ?_
        refine o_q rfl rfl (q_lss rfl rfl) ?_
        refine o_end ?_
        refine za1 ?_
        refine c_seq ?_
        refine c_false (congrArg Value.bool hr42.ge) ?_
        refine c_exit ?_
        refine za9 ?_
        refine za9 ?_
        have e_ := Option.some.inj h; replace h := hR44; rw [← e_] at h; clear e_
        refine x_hit ?_
        refine za1 ?_
        refine c_seq ?_
        refine za0 ?_
        refine o_q rfl rfl (za2 rfl) ?_
        refine o_q rfl rfl (q_asg rfl) ?_
        refine o_end ?_
        refine za1 ?_
        refine c_ret ?_
        have e0_ := Option.some.inj h; clear h
        subst e0_
        exact x_r1 (A36, c37) Try.results95 (zai rfl) rfl (fun w h => za7 [0] (by decide) rfl w h)
      · skip
        clear hl45
        have hr42 := hJ_.1; have hk48 := hJ_.2.1; have h := hJ_.2.2; clear hJ_
        replace h : spec_duLive.l2 a0_0 a1 (y39 :: ys40) l35 i38 = some o46 := h
        rw [spec_duLive.l2] at h
        refine c_seq ?_
        refine za0 ?_
        refine o_q rfl rfl (q_lss rfl rfl) ?_
        refine o_end ?_
        refine za1 ?_
        refine c_seq ?_
        refine c_true (congrArg Value.bool hr42.lt) ?_
        refine zan ?_
        refine za1 ?_
        refine c_seq ?_
        refine zaj ?_
        refine c_seq ?_
        refine za0 ?_
        refine o_fact (p := Sh A21 l20.length l20.length) (fun w h => f_sh (dk := (Kd.int .i64)) h (fun w h => h.zay (i := 1) rfl)) (fun hq49 => ?_)
        refine o_q rfl rfl (q_ix Try.underlying25 Z3 rfl rfl hq49 hr42.get) ?_
        refine o_q rfl rfl (q_lde (off := 0) Y3 rfl rfl (fun w h => h.zay (i := 1) rfl) hr42.get (fun _ _ h => h) rfl) ?_
        refine o_q rfl rfl (q_asg rfl) ?_
        refine o_end ?_
        refine za1 ?_
        refine c_seq ?_
        refine za0 ?_
        refine o_q rfl rfl (za2 rfl) ?_
        refine o_q rfl rfl (q_f F27_0 rfl) ?_
        refine o_q rfl rfl (q_ldb Y3 rfl (fun w h => h.zaa (i := 2) rfl) rfl) ?_
        refine o_q rfl rfl (za2 rfl) ?_
        refine o_q rfl rfl (q_add64 rfl rfl) ?_
        refine o_q rfl rfl (q_lss rfl rfl) ?_
        refine o_end ?_
        refine za1 ?_
        refine zau _ rfl (fun hb50 => ?_) (fun hb50 => ?_)
        · skip
          replace h := br_t hb50 h
          refine za0 ?_
          refine o_q rfl rfl (za2 rfl) ?_
          refine o_q rfl rfl (za2 rfl) ?_
          refine o_e rfl (e_lit (vs := [(0, .int .i64 y39)]) (cs := [.int .i64 y39]) (Kd.int .i64) ([y39] : List Int) Try.underlying25 I3 (by decide) rfl (by decide) rfl rfl (fun _ _ => Kd.zas _)) (cur2 (fun A51 c52 => ?_))
          refine za8 h (fun l54 ha55 h => ?_) rfl
          refine o_e rfl (e_app (i := 1) (j := 0) Try.underlying25 I3 rfl (by decide) (by decide) rfl rfl rfl rfl rfl ha55) (cur2 (fun A56 c57 => ?_))
          refine o_q rfl rfl (q_asg rfl) ?_
          refine o_end ?_
          refine zam ?_
          refine za1 ?_
          refine za0 ?_
          refine o_q rfl rfl (q_up rfl rfl (hr42.up hm43)) ?_
          refine o_q rfl rfl (za2 rfl) ?_
          refine o_end ?_
          refine zal ys40.length (ys40, l54, i38 + 1, A56, c57) (by rw [← hk48]; exact Nat.lt_succ_self _) ⟨hr42.step, rfl, h⟩ ⟨rfl, rfl, trivial⟩ (fun w h => za7 [1, 2, 3] (by decide) rfl w h) ?_
          repeat (first | exact zad _ _ | refine zaf rfl ?_ | refine zae rfl ?_ | refine zah rfl ?_)
        · skip
          replace h := br_f hb50 h
          refine zan ?_
          refine zam ?_
          refine za1 ?_
          refine za0 ?_
          refine o_q rfl rfl (q_up rfl rfl (hr42.up hm43)) ?_
          refine o_q rfl rfl (za2 rfl) ?_
          refine o_end ?_
          refine zal ys40.length (ys40, l35, i38 + 1, A36, c37) (by rw [← hk48]; exact Nat.lt_succ_self _) ⟨hr42.step, rfl, h⟩ ⟨rfl, rfl, trivial⟩ (fun w h => za7 [0, 1, 2] (by decide) rfl w h) ?_
          repeat (first | exact zad _ _ | refine zaf rfl ?_ | refine zae rfl ?_ | refine zah rfl ?_)
    · skip
      clear hl30
      have hr27 := hJ_.1; have hk33 := hJ_.2.1; have h := hJ_.2.2; clear hJ_
      replace h : spec_duLive.l1 k (y24 :: ys25) l20 i23 = some o31 := h
      rw [spec_duLive.l1] at h
      refine c_seq ?_
      refine za0 ?_
      refine o_q rfl rfl (q_lss rfl rfl) ?_
      refine o_end ?_
      refine za1 ?_
      refine c_seq ?_
      refine c_true (congrArg Value.bool hr27.lt) ?_
      refine zan ?_
      refine za1 ?_
      refine c_seq ?_
      refine zaj ?_
      refine c_seq ?_
      refine za0 ?_
      refine o_fact (p := Sh A0_2 l0_2.length l0_2.length) (fun w h => f_sh (dk := (Kd.int .i64)) h (fun w h => R0_2.now Z h)) (fun hq58 => ?_)
      refine o_q rfl rfl (q_ix Try.underlying25 Z3 rfl rfl hq58 hr27.get) ?_
      refine o_q rfl rfl (q_lde (off := 0) Y3 rfl rfl (fun w h => R0_2.now Z h) hr27.get (fun _ _ h => h) rfl) ?_
      refine o_q rfl rfl (q_asg rfl) ?_
      refine o_end ?_
      refine za1 ?_
      refine za0 ?_
      refine o_q rfl rfl (za2 rfl) ?_
      refine o_q rfl rfl (za2 rfl) ?_
      refine za8 h (fun l60 hx59 h => ?_) rfl
      refine o_e rfl (zac 1 Z Try.func184 N184 rfl rfl rfl (fun w P1 hF hB hS hT => spec_l1Put.calls k A21 c22 l20.length l20 y24 hB hF _ hx59)) (cur2 (fun A61 c62 => ?_))
      refine o_q rfl rfl (q_asg rfl) ?_
      refine o_end ?_
      refine zam ?_
      refine za1 ?_
      refine za0 ?_
      refine o_q rfl rfl (q_up rfl rfl (hr27.up hm28)) ?_
      refine o_q rfl rfl (za2 rfl) ?_
      refine o_end ?_
      refine zal ys25.length (ys25, l60, i23 + 1, A61, c62) (by rw [← hk33]; exact Nat.lt_succ_self _) ⟨hr27.step, rfl, h⟩ ⟨rfl, rfl, trivial⟩ (fun w h => za7 [0, 1] (by decide) rfl w h) ?_
      repeat (first | exact zad _ _ | refine zaf rfl ?_ | refine zae rfl ?_ | refine zah rfl ?_)
  · skip
    clear hl16
    have hr13 := hJ_.1; have hk19 := hJ_.2.1; have h := hJ_.2.2; clear hJ_
    replace h : spec_duLive.l0 k (y10 :: ys11) l6 i9 = some o17 := h
    rw [spec_duLive.l0] at h
    refine c_seq ?_
    refine za0 ?_
    refine o_q rfl rfl (q_lss rfl rfl) ?_
    refine o_end ?_
    refine za1 ?_
    refine c_seq ?_
    refine c_true (congrArg Value.bool hr13.lt) ?_
    refine zan ?_
    refine za1 ?_
    refine c_seq ?_
    refine zaj ?_
    refine c_seq ?_
    refine za0 ?_
    refine o_fact (p := Sh (cutA A0_1 c0_1 a1.toNat 2) l3.length l3.length) (fun w h => f_sh (dk := kStep) h (fun w h => C_cut (dk := kStep) rfl hz4 hc0_1 (R0_1.now Z h))) (fun hq63 => ?_)
    refine o_q rfl rfl (q_ix Try.underlying24 Z89 rfl rfl hq63 hr13.get) ?_
    refine o_q rfl rfl (q_ldE G89 Z89 rfl rfl (fun w h => C_cut (dk := kStep) rfl hz4 hc0_1 (R0_1.now Z h)) hr13.get (fun _ _ h => h) rfl) ?_
    refine o_e rfl (zaw V89 rfl) (fun g64 => ?_)
    refine o_e rfl (zak (i := 0) rfl rfl rfl Z89 rfl rfl) (fun _ => ?_)
    refine o_end ?_
    refine za1 ?_
    refine a_startS (ds := []) [some 0, none, some 2] MO rfl ?_
    refine za6 0 rfl rfl rfl (by kernel_rfl) (fun _ _ _ h => h) (za2 rfl) ?_
    refine za6 1 rfl rfl rfl (by kernel_rfl) (fun _ _ _ h => h) (q_f F89_0 rfl) ?_
    refine zax 2 rfl rfl rfl (by kernel_rfl) (fun _ _ _ h => h) (fun w h => za5 [some 0, none, some 2] (by decide) w h rfl) (q_ldb Y3 rfl (fun w h => h.zaa (i := 0) rfl) rfl) ?_
    refine za6 4 rfl rfl rfl (by kernel_rfl) (fun _ _ _ h => h) (q_f F89_1 rfl) ?_
    refine zax 5 rfl rfl rfl (by kernel_rfl) (fun _ _ _ h => h) (fun w h => za5 [some 0, none, some 2] (by decide) w h rfl) (q_ldb Y3 rfl (fun w h => h.zaa (i := 0) rfl) rfl) ?_
    refine a_pick [1, 0, 2] (by decide) rfl ?_
    refine za8 h (fun l67 hx66 h => ?_) rfl
    refine a_one 3 rfl rfl (by kernel_rfl) rfl (zac 1 Z Try.func184 N184 rfl rfl rfl (fun w P1 hF hB hS hT => spec_l1Put.calls k A7 c8 l6.length l6 y10.f0 hB hF _ hx66)) (fun s w h => za5 [some 1, none, some 2] (by decide) w h rfl) (cur2 (fun A68 c69 => ?_))
    refine za8 h (fun l71 hx70 h => ?_) rfl
    refine a_one 6 rfl rfl (by kernel_rfl) rfl (zac 1 Z Try.func184 N184 rfl rfl rfl (fun w P1 hF hB hS hT => spec_l1Put.calls k A68 c69 l67.length l67 y10.f1 hB hF _ hx70)) (fun s w h => za5 [some 1, none, some 2] (by decide) w h rfl) (cur2 (fun A72 c73 => ?_))
    refine za6 7 rfl rfl rfl (by kernel_rfl) (fun _ _ _ h => h) (q_asg rfl) ?_
    refine zav (by kernel_rfl) ?_
    refine zam ?_
    refine za1 ?_
    refine za0 ?_
    refine o_q rfl rfl (q_up rfl rfl (hr13.up hm14)) ?_
    refine o_q rfl rfl (za2 rfl) ?_
    refine o_end ?_
    refine zal ys11.length (ys11, l71, i9 + 1, A72, c73) (by rw [← hk19]; exact Nat.lt_succ_self _) ⟨hr13.step, rfl, h⟩ ⟨rfl, rfl, trivial⟩ (fun w h => za7 [0, 2] (by decide) rfl w h) ?_
    repeat (first | exact zad _ _ | refine zaf rfl ?_ | refine zae rfl ?_ | refine zah rfl ?_)

/-! ### loop.example/g01098/spec.l1Own: function 96 -/
def spec_l1Own.f (l0 : List Int) : Option (List Int) := (ap ([] : List Int) l0).bind fun l4 => some l4
set_option maxHeartbeats 600000 in
set_option maxRecDepth 100000 in
theorem spec_l1Own.calls {w0 ws : World} {P0 : Nat → Prop} (A0 : Option Addr) (c0 : Nat) (n0 : Nat) (l0 : List Int) (Z : Below w0.heap.size w0 ws) (hF : Fr w0 ws P0 [] ws) (R0 : Stable ws P0 (fun w => Kd.C (Kd.int .i64) w A0 n0 l0)) (hc0 : n0 ≤ c0) (r_1 : List Int) (h : spec_l1Own.f l0 = some r_1) :
    Calls Try.prog 96 #[.slice A0 n0 c0] ws (Post1 w0 ws P0 (fun ((q_2, q_3) : (Option Addr) × Nat) => .slice q_2 r_1.length q_3) (fun ((q_2, q_3) : (Option Addr) × Nat) => [row (Kd.int .i64) 3 (.slice q_2 r_1.length q_3) r_1])) := by
  unfold spec_l1Own.f at h
  obtain rfl := (R0 ws (KeptB.refl _ _)).1
  refine enter Try.func96 rfl Try.ntmps96 rfl hF ?_
  refine c_seq ?_
  refine za0 ?_
  refine o_q rfl rfl (q_asg rfl) ?_
  refine o_end ?_
  refine za1 ?_
  refine c_seq ?_
  refine za0 ?_
  refine o_e rfl (e_lit0 (Kd.int .i64) Try.underlying25 I3) (cur2 (fun A1 c2 => ?_))
  refine o_q rfl rfl (za2 rfl) ?_
  refine za8 h (fun l4 ha5 h => ?_) rfl
  refine o_e rfl (e_appr (i := 0) Try.underlying25 I3 rfl (by decide) (by decide) (fun _ _ _ _ h => h) rfl (fun w h => R0.now Z h) rfl rfl ha5) (cur2 (fun A6 c7 => ?_))
  refine o_q rfl rfl (q_asg rfl) ?_
  refine o_end ?_
  refine za1 ?_
  refine c_ret ?_
  have e0_ := Option.some.inj h; clear h
  subst e0_
  exact x_r1 (A6, c7) Try.results96 (zai rfl) rfl (fun w h => za7 [0] (by decide) rfl w h)

/-! ### loop.example/g01098/spec.plPlace: function 185 -/
def spec_plPlace.l0 (a1 : Int) : (List Int) → Int → Option ((Int) ⊕ (Unit))
  | [], i1 => some (.inr ())
  | y2 :: ys3, i1 => if y2 = a1 then (some (.inl i1)) else (spec_plPlace.l0 a1 ys3 (i1 + 1))
def spec_plPlace.f (l0 : List Int) (a1 : Int) : Option Int := (spec_plPlace.l0 a1 l0 0).bind fun o_ => match o_ with | .inl r_ => some r_ | .inr _ => some (-1)
set_option maxHeartbeats 600000 in
set_option maxRecDepth 100000 in
theorem spec_plPlace.calls {w0 ws : World} {P0 : Nat → Prop} (A0 : Option Addr) (c0 : Nat) (n0 : Nat) (l0 : List Int) (a1 : Int) (Z : Below w0.heap.size w0 ws) (hF : Fr w0 ws P0 [] ws) (R0 : Stable ws P0 (fun w => Kd.C (Kd.int .i64) w A0 n0 l0)) (hc0 : n0 ≤ c0) (r_1 : Int) (h : spec_plPlace.f l0 a1 = some r_1) :
    Calls Try.prog 185 #[.slice A0 n0 c0, .int .i64 a1] ws (Post1 w0 ws P0 (fun (_ : Unit) => .int .i64 r_1) (fun (_ : Unit) => [])) := by
  unfold spec_plPlace.f at h
  obtain rfl := (R0 ws (KeptB.refl _ _)).1
  refine enter Try.func185 rfl Try.ntmps185 rfl hF ?_
  refine c_seq ?_
  refine za0 ?_
  refine o_q rfl rfl (q_asg rfl) ?_
  refine o_end ?_
  refine za1 ?_
  refine c_seq ?_
  refine c_seq ?_
  refine za0 ?_
  refine o_q rfl rfl (za2 rfl) ?_
  refine o_q rfl rfl (q_len Try.underlying25 rfl) ?_
  refine o_q rfl rfl (za2 rfl) ?_
  refine o_end ?_
  refine za1 ?_
  refine zaj ?_
  refine za8 h (fun o9 hl8 hR7 => ?_) rfl
  clear h
  refine c_fact (p := l0.length ≤ 9223372036854775807) (fun w h => (R0.now Z h).2.1) (fun hm6 => ?_)
  refine c_loopL (σ := (List Int) × Int) (fun k4 ((ys3, i1) : (List Int) × Int) => Rg l0 i1 ys3 ∧ ys3.length = k4 ∧ spec_plPlace.l0 a1 ys3 i1 = some o9) [4, 5, 6, 9, 10, 11, 12, 13, 14, 15, 16, 17, 18] (fun ((ys3, i1) : (List Int) × Int) => [(9, .int .i64 i1)]) (fun ((ys3, i1) : (List Int) × Int) => []) l0.length (l0, 0) ⟨Rg.start _, rfl, hl8⟩ ⟨rfl, trivial⟩ (fun w h => h) ?_
  refine fun k4 => cur2 (listC (fun i1 U10 hJ_ => ?_) (fun y2 ys3 i1 U10 hJ_ => ?_))
  · skip
    clear hl8
    have hr5 := hJ_.1; have hk11 := hJ_.2.1; have h := hJ_.2.2; clear hJ_
    replace h : spec_plPlace.l0 a1 [] i1 = some o9 := h
    rw [spec_plPlace.l0] at h
    refine c_seq ?_
    refine za0 ?_
    refine o_q rfl rfl (q_lss rfl rfl) ?_
    refine o_end ?_
    refine za1 ?_
    refine c_seq ?_
    refine c_false (congrArg Value.bool hr5.ge) ?_
    refine c_exit ?_
    refine za9 ?_
    refine za9 ?_
    have e_ := Option.some.inj h; replace h := hR7; rw [← e_] at h; clear e_
    refine x_hit ?_
    refine za1 ?_
    refine c_seq ?_
    refine za0 ?_
    refine o_q rfl rfl (q_asg rfl) ?_
    refine o_end ?_
    refine za1 ?_
    refine c_ret ?_
    have e0_ := Option.some.inj h; clear h
    subst e0_
    exact x_r1 () Try.results185 (zai rfl) rfl (fun w h => za7 [] (by decide) rfl w h)
  · skip
    clear hl8
    have hr5 := hJ_.1; have hk11 := hJ_.2.1; have h := hJ_.2.2; clear hJ_
    replace h : spec_plPlace.l0 a1 (y2 :: ys3) i1 = some o9 := h
    rw [spec_plPlace.l0] at h
    refine c_seq ?_
    refine za0 ?_
    refine o_q rfl rfl (q_lss rfl rfl) ?_
    refine o_end ?_
    refine za1 ?_
    refine c_seq ?_
    refine c_true (congrArg Value.bool hr5.lt) ?_
    refine zan ?_
    refine za1 ?_
    refine c_seq ?_
    refine zaj ?_
    refine c_seq ?_
    refine za0 ?_
    refine o_q rfl rfl (za2 rfl) ?_
    refine o_fact (p := Sh A0 l0.length l0.length) (fun w h => f_sh (dk := (Kd.int .i64)) h (fun w h => R0.now Z h)) (fun hq12 => ?_)
    refine o_q rfl rfl (q_ix Try.underlying25 Z3 rfl rfl hq12 hr5.get) ?_
    refine o_q rfl rfl (q_lde (off := 0) Y3 rfl rfl (fun w h => R0.now Z h) hr5.get (fun _ _ h => h) rfl) ?_
    refine o_q rfl rfl (q_asg rfl) ?_
    refine o_q rfl rfl (q_asg rfl) ?_
    refine o_end ?_
    refine za1 ?_
    refine c_seq ?_
    refine za0 ?_
    refine o_q rfl rfl (za2 rfl) ?_
    refine o_q rfl rfl (za2 rfl) ?_
    refine o_q rfl rfl (q_eql rfl rfl) ?_
    refine o_end ?_
    refine za1 ?_
    refine zau _ rfl (fun hb13 => ?_) (fun hb13 => ?_)
    · skip
      replace h := br_t hb13 h
      refine c_seq ?_
      refine za0 ?_
      refine o_q rfl rfl (za2 rfl) ?_
      refine o_q rfl rfl (q_asg rfl) ?_
      refine o_end ?_
      refine za1 ?_
      refine c_ret ?_
      refine zar ?_
      refine zab ?_
      refine zab ?_
      have e_ := Option.some.inj h; replace h := hR7; rw [← e_] at h; clear e_
      refine zar ?_
      refine zab ?_
      have e0_ := Option.some.inj h; clear h
      subst e0_
      exact x_r1 () Try.results185 (zai rfl) rfl (fun w h => za7 [] (by decide) rfl w h)
    · skip
      replace h := br_f hb13 h
      refine zan ?_
      refine zam ?_
      refine za1 ?_
      refine za0 ?_
      refine o_q rfl rfl (q_up rfl rfl (hr5.up hm6)) ?_
      refine o_q rfl rfl (za2 rfl) ?_
      refine o_end ?_
      refine zal ys3.length (ys3, i1 + 1) (by rw [← hk11]; exact Nat.lt_succ_self _) ⟨hr5.step, rfl, h⟩ ⟨rfl, trivial⟩ (fun w h => za7 [] (by decide) rfl w h) ?_
      repeat (first | exact zad _ _ | refine zaf rfl ?_ | refine zae rfl ?_ | refine zah rfl ?_)

/-! ### loop.example/g01098/spec.duLater: function 98 -/
def spec_duLater.f (a0_0 : Int) (l0_1 : List SStep) (l0_2 : List Int) (a1 : Int) (l2 : List Int) (a3 : Int) : Option Int := if a3 < w64 (a0_0 + a1) then ((spec_plPlace.f l2 a3).bind fun i5 => some i5) else (some (w64 (w64 (w64 ((l2.length : Int) + a3) - a0_0) - a1)))
set_option maxHeartbeats 600000 in
set_option maxRecDepth 100000 in
theorem spec_duLater.calls {w0 ws : World} {P0 : Nat → Prop} (a0_0 : Int) (A0_1 : Option Addr) (c0_1 : Nat) (n0_1 : Nat) (l0_1 : List SStep) (A0_2 : Option Addr) (c0_2 : Nat) (n0_2 : Nat) (l0_2 : List Int) (a1 : Int) (A2 : Option Addr) (c2 : Nat) (n2 : Nat) (l2 : List Int) (a3 : Int) (Z : Below w0.heap.size w0 ws) (hF : Fr w0 ws P0 [] ws) (R0_1 : Stable ws P0 (fun w => Kd.C kStep w A0_1 n0_1 l0_1)) (hc0_1 : n0_1 ≤ c0_1) (R0_2 : Stable ws P0 (fun w => Kd.C (Kd.int .i64) w A0_2 n0_2 l0_2)) (hc0_2 : n0_2 ≤ c0_2) (R2 : Stable ws P0 (fun w => Kd.C (Kd.int .i64) w A2 n2 l2)) (hc2 : n2 ≤ c2) (r_1 : Int) (h : spec_duLater.f a0_0 l0_1 l0_2 a1 l2 a3 = some r_1) :
    Calls Try.prog 98 #[.agg #[.int .i64 a0_0, .slice A0_1 n0_1 c0_1, .slice A0_2 n0_2 c0_2], .int .i64 a1, .slice A2 n2 c2, .int .i64 a3] ws (Post1 w0 ws P0 (fun (_ : Unit) => .int .i64 r_1) (fun (_ : Unit) => [])) := by
  unfold spec_duLater.f at h
  obtain rfl := (R0_1 ws (KeptB.refl _ _)).1
  obtain rfl := (R0_2 ws (KeptB.refl _ _)).1
  obtain rfl := (R2 ws (KeptB.refl _ _)).1
  refine enter Try.func98 rfl Try.ntmps98 rfl hF ?_
  refine c_seq ?_
  refine za0 ?_
  refine o_e rfl (e_box rfl) (fun g1 => ?_)
  refine o_q rfl rfl (q_asg rfl) ?_
  refine o_end ?_
  refine za1 ?_
  refine c_seq ?_
  refine c_seq ?_
  refine za0 ?_
  refine o_q rfl rfl (za2 rfl) ?_
  refine o_q rfl rfl (q_f F27_0 rfl) ?_
  refine o_q rfl rfl (q_ldb Y3 rfl (fun w h => h.zaa (i := 0) rfl) rfl) ?_
  refine o_q rfl rfl (za2 rfl) ?_
  refine o_q rfl rfl (q_add64 rfl rfl) ?_
  refine o_q rfl rfl (q_lss rfl rfl) ?_
  refine o_end ?_
  refine za1 ?_
  refine zau _ rfl (fun hb3 => ?_) (fun hb3 => ?_)
  · skip
    replace h := br_t hb3 h
    refine c_seq ?_
    refine za0 ?_
    refine o_q rfl rfl (za2 rfl) ?_
    refine o_q rfl rfl (za2 rfl) ?_
    refine za8 h (fun i5 hx4 h => ?_) rfl
    refine o_e rfl (zac 0 Z Try.func185 N185 rfl rfl rfl (fun w P1 hF hB hS hT => spec_plPlace.calls A2 c2 l2.length l2 a3 hB hF (hS _ R2) hc2 _ hx4)) (fun _ => ?_)
    refine o_q rfl rfl (q_asg rfl) ?_
    refine o_end ?_
    refine za1 ?_
    refine c_ret ?_
    refine zab ?_
    have e0_ := Option.some.inj h; clear h
    subst e0_
    exact x_r1 () Try.results98 (zai rfl) rfl (fun w h => za7 [] (by decide) rfl w h)
  · skip
    replace h := br_f hb3 h
    refine zan ?_
    refine za1 ?_
    refine c_seq ?_
    refine za0 ?_
    refine o_q rfl rfl (za2 rfl) ?_
    refine o_q rfl rfl (q_len Try.underlying25 rfl) ?_
    refine o_q rfl rfl (za2 rfl) ?_
    refine o_q rfl rfl (q_add64 rfl rfl) ?_
    refine o_q rfl rfl (q_f F27_0 rfl) ?_
    refine o_q rfl rfl (q_ldb Y3 rfl (fun w h => h.zaa (i := 0) rfl) rfl) ?_
    refine o_q rfl rfl (q_sub64 rfl rfl) ?_
    refine o_q rfl rfl (za2 rfl) ?_
    refine o_q rfl rfl (q_sub64 rfl rfl) ?_
    refine o_q rfl rfl (q_asg rfl) ?_
    refine o_end ?_
    refine za1 ?_
    refine c_ret ?_
    have e0_ := Option.some.inj h; clear h
    subst e0_
    exact x_r1 () Try.results98 (zai rfl) rfl (fun w h => za7 [] (by decide) rfl w h)

/-! ### loop.example/g01098/spec.SplitPlan: function 16 -/
def spec_SplitPlan.l1 (a0_0 : Int) (l0_1 : List SStep) (l0_2 : List Int) (a1 : Int) (l25 : List Int) : (List Int) → (List Int) → Int → Option (List Int)
  | [], l1742, i1745 => some l1742
  | y1746 :: ys1747, l1742, i1745 => (spec_duLater.f a0_0 l0_1 l0_2 a1 l25 y1746).bind fun i2136 => (ap l1742 ([i2136] : List Int)).bind fun l2255 => spec_SplitPlan.l1 a0_0 l0_1 l0_2 a1 l25 ys1747 l2255 (i1745 + 1)
def spec_SplitPlan.l0 (a0_0 : Int) (l0_1 : List SStep) (l0_2 : List Int) (a1 : Int) (l25 : List Int) : (List SStep) → (List SStep) → Int → Option (List SStep)
  | [], l1727, i1730 => some l1727
  | y1731 :: ys1732, l1727, i1730 => (spec_duLater.f a0_0 l0_1 l0_2 a1 l25 y1731.f0).bind fun i2920 => (spec_duLater.f a0_0 l0_1 l0_2 a1 l25 y1731.f1).bind fun i3280 => (spec_plStep.f i2920 i3280).bind fun z3340 => (ap l1727 ([z3340] : List SStep)).bind fun l3459 => spec_SplitPlan.l0 a0_0 l0_1 l0_2 a1 l25 ys1732 l3459 (i1730 + 1)
def spec_SplitPlan.f (k : Nat) (a0_0 : Int) (l0_1 : List SStep) (l0_2 : List Int) (a1 : Int) : Option (Int × (List SStep) × (List Int) × Int × (List SStep) × (List Int) × Bool) := ((spec_plGood.f k a0_0 l0_1 l0_2).bind fun b19 => if b19 = true then ((spec_l1In.f a1 0 (l0_1.length : Int)).bind fun b22 => some (!b22)) else (some true)).bind fun b12 => if b12 = true then (some (0, ([] : List SStep), ([] : List Int), 0, ([] : List SStep), ([] : List Int), false)) else ((spec_duLive.f k a0_0 l0_1 l0_2 a1).bind fun l25 => ((ct l0_1 (0 : Int) a1).bind fun l1242 => (ap ([] : List SStep) l1242).bind fun l1302 => (spec_l1Own.f l25).bind fun l1423 => some (l1302, l1423)).bind fun (l870, l873) => (ct l0_1 a1 (l0_1.length : Int)).bind fun l1724 => (spec_SplitPlan.l0 a0_0 l0_1 l0_2 a1 l25 l1724 ([] : List SStep) 0).bind fun l1727 => (spec_SplitPlan.l1 a0_0 l0_1 l0_2 a1 l25 l0_2 ([] : List Int) 0).bind fun l1742 => ((spec_plGood.f k a0_0 l870 l873).bind fun b1768 => if b1768 = true then ((spec_plGood.f k (l25.length : Int) l1727 l1742).bind fun b1771 => some (!b1771)) else (some true)).bind fun b1761 => if b1761 = true then (some (0, ([] : List SStep), ([] : List Int), 0, ([] : List SStep), ([] : List Int), false)) else (some (a0_0, l870, l873, (l25.length : Int), l1727, l1742, true)))
set_option maxHeartbeats 600000 in
set_option maxRecDepth 100000 in
theorem spec_SplitPlan.calls (k : Nat) {w0 ws : World} {P0 : Nat → Prop} (a0_0 : Int) (A0_1 : Option Addr) (c0_1 : Nat) (n0_1 : Nat) (l0_1 : List SStep) (A0_2 : Option Addr) (c0_2 : Nat) (n0_2 : Nat) (l0_2 : List Int) (a1 : Int) (Z : Below w0.heap.size w0 ws) (hF : Fr w0 ws P0 [] ws) (R0_1 : Stable ws P0 (fun w => Kd.C kStep w A0_1 n0_1 l0_1)) (hc0_1 : n0_1 ≤ c0_1) (R0_2 : Stable ws P0 (fun w => Kd.C (Kd.int .i64) w A0_2 n0_2 l0_2)) (hc0_2 : n0_2 ≤ c0_2) (r_1 : Int) (r_2 : List SStep) (r_5 : List Int) (r_8 : Int) (r_9 : List SStep) (r_12 : List Int) (r_15 : Bool) (h : spec_SplitPlan.f k a0_0 l0_1 l0_2 a1 = some (r_1, r_2, r_5, r_8, r_9, r_12, r_15)) :
    Calls Try.prog 16 #[.agg #[.int .i64 a0_0, .slice A0_1 n0_1 c0_1, .slice A0_2 n0_2 c0_2], .int .i64 a1] ws (Post1 w0 ws P0 (fun ((q_3, q_4, q_6, q_7, q_10, q_11, q_13, q_14) : (Option Addr) × Nat × (Option Addr) × Nat × (Option Addr) × Nat × (Option Addr) × Nat) => .tuple #[.agg #[.int .i64 r_1, .slice q_3 r_2.length q_4, .slice q_6 r_5.length q_7], .agg #[.int .i64 r_8, .slice q_10 r_9.length q_11, .slice q_13 r_12.length q_14], .bool r_15]) (fun ((q_3, q_4, q_6, q_7, q_10, q_11, q_13, q_14) : (Option Addr) × Nat × (Option Addr) × Nat × (Option Addr) × Nat × (Option Addr) × Nat) => [row kStep 89 (.slice q_3 r_2.length q_4) r_2, row (Kd.int .i64) 3 (.slice q_6 r_5.length q_7) r_5, row kStep 89 (.slice q_10 r_9.length q_11) r_9, row (Kd.int .i64) 3 (.slice q_13 r_12.length q_14) r_12])) := by
  unfold spec_SplitPlan.f at h
  obtain rfl := (R0_1 ws (KeptB.refl _ _)).1
  obtain rfl := (R0_2 ws (KeptB.refl _ _)).1
  refine enter Try.func16 rfl Try.ntmps16 rfl hF ?_
  refine c_seq ?_
  refine za0 ?_
  refine o_e rfl (e_box rfl) (fun g1 => ?_)
  refine o_e rfl (zaw V27 rfl) (fun g3 => ?_)
  refine o_e rfl (zaw V27 rfl) (fun g5 => ?_)
  refine o_q rfl rfl (q_asg rfl) ?_
  refine o_end ?_
  refine za1 ?_
  refine c_seq ?_
  refine za8 h (fun o13 hl14 hR15 => ?_) rfl
  clear h
  refine c_cutJ (σ := Bool) (fun b12 => some b12 = some o13) [14, 15, 16, 17, 18, 19, 20, 21, 22, 23, 24] (fun b12 => [(24, .bool b12)]) (fun b12 => [box g1 27 #[.int .i64 a0_0, .slice A0_1 l0_1.length c0_1, .slice A0_2 l0_2.length c0_2], box g3 27 #[.int .i64 0, .slice none 0 0, .slice none 0 0], box g5 27 #[.int .i64 0, .slice none 0 0, .slice none 0 0]]) ?_ ?_
  · skip
    have h := hl14; clear hl14
    clear hR15
    refine za0 ?_
    refine o_q rfl rfl (q_ldB G27 Z27 rfl (fun w h => h.zaa (i := 2) rfl) rfl) ?_
    refine za8 h (fun b19 hx18 h => ?_) rfl
    refine o_e rfl (zac 0 Z Try.func93 N93 rfl rfl rfl (fun w P1 hF hB hS hT => spec_plGood.calls k a0_0 A0_1 c0_1 l0_1.length l0_1 A0_2 c0_2 l0_2.length l0_2 hB hF (hS _ R0_1) hc0_1 (hS _ R0_2) hc0_2 _ hx18)) (fun _ => ?_)
    refine o_q rfl rfl (q_not rfl) ?_
    refine o_q rfl rfl (za2 rfl) ?_
    refine byB b19 (fun hb20 => ?_) (fun hb20 => ?_)
    · replace h := bb_t hb20 h
      refine o_w (za4 rfl rfl rfl (congrArg (fun b => Value.bool (!(b))) hb20)) rfl (za2 rfl) ?_
      refine o_w (za4 rfl rfl rfl (congrArg (fun b => Value.bool (!(b))) hb20)) rfl (q_f F27_1 rfl) ?_
      refine o_w (za4 rfl rfl rfl (congrArg (fun b => Value.bool (!(b))) hb20)) rfl (q_ldb Y24 rfl (fun w h => h.zaa (i := 2) rfl) rfl) ?_
      refine o_w (za4 rfl rfl rfl (congrArg (fun b => Value.bool (!(b))) hb20)) rfl (q_len Try.underlying24 rfl) ?_
      refine za8 h (fun b22 hx21 h => ?_) rfl
      refine o_ew (za4 rfl rfl rfl (congrArg (fun b => Value.bool (!(b))) hb20)) (zac 0 Z Try.func94 N94 rfl rfl rfl (fun w P1 hF hB hS hT => spec_l1In.calls a1 0 (l0_1.length : Int) hB hF _ hx21)) (fun _ => ?_)
      refine o_w (za4 rfl rfl rfl (congrArg (fun b => Value.bool (!(b))) hb20)) rfl (q_not rfl) ?_
      refine o_q rfl rfl (zao false (congrArg (fun b => Value.bool (!(b))) hb20) rfl) ?_
      refine o_end ?_
      refine zat (!b22) h ⟨rfl, trivial⟩ (fun w h => za7 [2, 1, 0] (by decide) rfl w h) ?_
      repeat (first | exact zad _ _ | refine zaf rfl ?_ | refine zae rfl ?_ | refine zah rfl ?_)
    · replace h := bb_f hb20 h
      refine @o_n _ _ _ _ _ _ _ _ _ _ _ 18 (za3 rfl rfl rfl (congrArg (fun b => Value.bool (!(b))) hb20) rfl) (Eq.refl (some 18)) ?_
      refine @o_n _ _ _ _ _ _ _ _ _ _ _ 19 (za3 rfl rfl rfl (congrArg (fun b => Value.bool (!(b))) hb20) rfl) (Eq.refl (some 19)) ?_
      refine @o_n _ _ _ _ _ _ _ _ _ _ _ 20 (za3 rfl rfl rfl (congrArg (fun b => Value.bool (!(b))) hb20) rfl) (Eq.refl (some 20)) ?_
      refine @o_n _ _ _ _ _ _ _ _ _ _ _ 21 (za3 rfl rfl rfl (congrArg (fun b => Value.bool (!(b))) hb20) rfl) (Eq.refl (some 21)) ?_
      refine @o_n _ _ _ _ _ _ _ _ _ _ _ 22 (za3 rfl rfl rfl (congrArg (fun b => Value.bool (!(b))) hb20) rfl) (Eq.refl (some 22)) ?_
      refine @o_n _ _ _ _ _ _ _ _ _ _ _ 23 (za3 rfl rfl rfl (congrArg (fun b => Value.bool (!(b))) hb20) rfl) (Eq.refl (some 23)) ?_
      refine o_q rfl rfl (zao true (congrArg (fun b => Value.bool (!(b))) hb20) rfl) ?_
      refine o_end ?_
      refine zat true h ⟨rfl, trivial⟩ (fun w h => za7 [2, 1, 0] (by decide) rfl w h) ?_
      repeat (first | exact zad _ _ | refine zaf rfl ?_ | refine zae rfl ?_ | refine zah rfl ?_)
  · skip
    refine (fun b12 => fun U16 hJ17 => ?_)
    have e_ := Option.some.inj hJ17; have h := hR15; rw [← e_] at h; clear e_ hJ17 hR15 hl14
    refine zau _ rfl (fun hb23 => ?_) (fun hb23 => ?_)
    · skip
      replace h := bb_t hb23 h
      refine c_seq ?_
      refine za0 ?_
      refine o_q rfl rfl (q_build (vs := []) (cs := [.int .i64 0, .slice none 0 0, .slice none 0 0]) rfl rfl) ?_
      refine o_q rfl rfl (q_build (vs := []) (cs := [.int .i64 0, .slice none 0 0, .slice none 0 0]) rfl rfl) ?_
      refine o_e rfl (zak (i := 1) rfl rfl rfl Z27 rfl rfl) (fun _ => ?_)
      refine o_e rfl (zak (i := 2) rfl rfl rfl Z27 rfl rfl) (fun _ => ?_)
      refine o_q rfl rfl (q_asg rfl) ?_
      refine o_end ?_
      refine za1 ?_
      refine c_ret ?_
      refine zab ?_
      refine x_nil kStep 89 ?_
      refine x_nil (Kd.int .i64) 3 ?_
      refine x_nil kStep 89 ?_
      refine x_nil (Kd.int .i64) 3 ?_
      have e0_ := Option.some.inj h; clear h
      have d0_ := (Prod.mk.inj e0_).1; have e1_ := (Prod.mk.inj e0_).2; clear e0_; subst d0_
      have d1_ := (Prod.mk.inj e1_).1; have e2_ := (Prod.mk.inj e1_).2; clear e1_; subst d1_
      have d2_ := (Prod.mk.inj e2_).1; have e3_ := (Prod.mk.inj e2_).2; clear e2_; subst d2_
      have d3_ := (Prod.mk.inj e3_).1; have e4_ := (Prod.mk.inj e3_).2; clear e3_; subst d3_
      have d4_ := (Prod.mk.inj e4_).1; have e5_ := (Prod.mk.inj e4_).2; clear e4_; subst d4_
      have d5_ := (Prod.mk.inj e5_).1; have e6_ := (Prod.mk.inj e5_).2; clear e5_; subst d5_
      subst e6_
      exact x_r3 (none, 0, none, 0, none, 0, none, 0) Try.results16 (rv_cell rfl G27 Z27 (fun w h => h.zaa (i := 5) rfl) rfl) (rv_cell rfl G27 Z27 (fun w h => h.zaa (i := 6) rfl) rfl) (zai rfl) rfl (fun w h => za7 [3, 2, 1, 0] (by decide) rfl w h)
    · skip
      replace h := bb_f hb23 h
      refine zan ?_
      refine za1 ?_
      refine c_seq ?_
      refine za0 ?_
      refine o_q rfl rfl (q_ldB G27 Z27 rfl (fun w h => h.zaa (i := 0) rfl) rfl) ?_
      refine o_q rfl rfl (za2 rfl) ?_
      refine za8 h (fun l25 hx24 h => ?_) rfl
      refine o_e rfl (zac 0 Z Try.func95 N95 rfl rfl rfl (fun w P1 hF hB hS hT => spec_duLive.calls k a0_0 A0_1 c0_1 l0_1.length l0_1 A0_2 c0_2 l0_2.length l0_2 a1 hB hF (hS _ R0_1) hc0_1 (hS _ R0_2) hc0_2 _ hx24)) (cur2 (fun A26 c27 => ?_))
      refine o_q rfl rfl (q_asg rfl) ?_
      refine o_end ?_
      refine za1 ?_
      refine za8 h (fun o876 hl877 hR878 => ?_) rfl
      clear h
      refine c_cutJ (σ := (List SStep) × (List Int) × Nat × (Option Addr) × Nat × (Option Addr) × Nat) (fun (l870, l873, g869, A871, c872, A874, c875) => some (l870, l873) = some o876) [8, 30, 31, 32, 33, 34, 35, 36, 37, 38, 39, 40] (fun (l870, l873, g869, A871, c872, A874, c875) => [(8, .pointer (some ⟨g869, 0, none⟩))]) (fun (l870, l873, g869, A871, c872, A874, c875) => [box g1 27 #[.int .i64 a0_0, .slice A0_1 l0_1.length c0_1, .slice A0_2 l0_2.length c0_2], box g3 27 #[.int .i64 0, .slice none 0 0, .slice none 0 0], box g5 27 #[.int .i64 0, .slice none 0 0, .slice none 0 0], row (Kd.int .i64) 3 (.slice A26 l25.length c27) l25, box g869 27 #[.int .i64 a0_0, .slice A871 l870.length c872, .slice A874 l873.length c875], row kStep 89 (.slice A871 l870.length c872) l870, row (Kd.int .i64) 3 (.slice A874 l873.length c875) l873]) ?_ ?_
      · skip
        have h := hl877; clear hl877
        clear hR878
        refine za8 h (fun l1242 hz1243 h => ?_) rfl
        refine za8 h (fun l1302 ha1303 h => ?_) rfl
        refine za8 h (fun l1423 hx1422 h => ?_) rfl
        refine a_start (ds := []) MO rfl ?_
        refine za6 0 rfl rfl rfl (by kernel_rfl) (fun _ _ _ h => h) (q_f F27_0 rfl) ?_
        refine zax 1 rfl rfl rfl (by kernel_rfl) (fun _ _ _ h => h) (fun w h => h) (q_ldb Y3 rfl (fun w h => h.zaa (i := 1) rfl) rfl) ?_
        refine za6 3 rfl rfl rfl (by kernel_rfl) (fun _ _ _ h => h) (q_f F27_1 rfl) ?_
        refine zax 4 rfl rfl rfl (by kernel_rfl) (fun _ _ _ h => h) (fun w h => h) (q_ldb Y24 rfl (fun w h => h.zaa (i := 1) rfl) rfl) ?_
        refine za6 5 rfl rfl rfl (by kernel_rfl) (fun _ _ _ h => h) (za2 rfl) ?_
        refine za6 6 rfl rfl rfl (by kernel_rfl) (fun _ _ _ h => h) (q_ctv Try.underlying24 Z89 rfl rfl ⟨_, rfl⟩ rfl hc0_1 hz1243) ?_
        refine za6 8 rfl rfl rfl (by kernel_rfl) (fun _ _ _ h => h) (za2 rfl) ?_
        refine a_two 2 11 rfl rfl rfl rfl (by kernel_rfl) rfl rfl (e_lit0 kStep Try.underlying24 I89) (fun s w h => za5 [some 1, some 2, some 3, some 4] (by decide) w h rfl) (zaw V27 rfl) (fun s w h => za5 [some 1, some 2, some 3, some 4] (by decide) w h rfl) (cur2 (fun A1002 c1003 => ?_)) (fun g1542 => ?_)
        · skip
          refine a_two 7 11 rfl rfl rfl rfl (by kernel_rfl) rfl rfl (e_appr (i := 0) Try.underlying24 I89 rfl (by decide) (by decide) (fun _ _ _ _ h => h) rfl (fun w h => C_cut (dk := kStep) rfl hz1243 hc0_1 (R0_1.now Z h)) rfl rfl ha1303) (fun s w h => za5 [some 1, some 2, some 3, some 4] (by decide) w h rfl) (zaw V27 rfl) (fun s w h => za5 [some 2, some 3, some 4, some 5] (by decide) w h rfl) (cur2 (fun A1304 c1305 => ?_)) (fun g1542 => ?_)
          · skip
            refine a_two 9 11 rfl rfl rfl rfl (by kernel_rfl) rfl rfl (zac 0 Z Try.func96 N96 rfl rfl rfl (fun w P1 hF hB hS hT => spec_l1Own.calls A26 c27 l25.length l25 hB hF (hT 1 _ rfl).row (hT 1 _ rfl).cap _ hx1422)) (fun s w h => za5 [some 2, some 3, some 4, some 5] (by decide) w h rfl) (zaw V27 rfl) (fun s w h => za5 [some 2, some 3, some 4, some 5] (by decide) w h rfl) (cur2 (fun A1424 c1425 => ?_)) (fun g1542 => ?_)
            · skip
              refine za6 10 rfl rfl rfl (by kernel_rfl) (fun _ _ _ h => h) (q_build (vs := [(0, .int .i64 a0_0), (1, .slice A1304 l1302.length c1305), (2, .slice A1424 l1423.length c1425)]) (cs := [.int .i64 a0_0, .slice A1304 l1302.length c1305, .slice A1424 l1423.length c1425]) rfl rfl) ?_
              refine a_one 11 rfl rfl (by kernel_rfl) rfl (zaw V27 rfl) (fun s w h => za5 [some 3, some 4, some 5, some 6] (by decide) w h rfl) (fun g1542 => ?_)
              refine a_one 12 rfl rfl (by kernel_rfl) rfl (zak (i := 0) rfl rfl rfl Z27 rfl rfl) (fun s w h => za5 [some 3, some 4, some 5, some 6] (by decide) w h rfl) (fun _ => ?_)
              refine zav (by kernel_rfl) ?_
              refine zat (l1302, l1423, g1542, A1304, c1305, A1424, c1425) h ⟨rfl, trivial⟩ (fun w h => za7 [4, 5, 6, 3, 0, 2, 1] (by decide) rfl w h) ?_
              repeat (first | exact zad _ _ | refine zaf rfl ?_ | refine zae rfl ?_ | refine zah rfl ?_)
            · skip
              refine a_one 9 rfl rfl (by kernel_rfl) rfl (zac 0 Z Try.func96 N96 rfl rfl rfl (fun w P1 hF hB hS hT => spec_l1Own.calls A26 c27 l25.length l25 hB hF (hT 2 _ rfl).row (hT 2 _ rfl).cap _ hx1422)) (fun s w h => za5 [some 3, some 4, some 5, some 6] (by decide) w h rfl) (cur2 (fun A1424 c1425 => ?_))
              refine za6 10 rfl rfl rfl (by kernel_rfl) (fun _ _ _ h => h) (q_build (vs := [(0, .int .i64 a0_0), (1, .slice A1304 l1302.length c1305), (2, .slice A1424 l1423.length c1425)]) (cs := [.int .i64 a0_0, .slice A1304 l1302.length c1305, .slice A1424 l1423.length c1425]) rfl rfl) ?_
              refine a_one 12 rfl rfl (by kernel_rfl) rfl (zak (i := 1) rfl rfl rfl Z27 rfl rfl) (fun s w h => za5 [some 3, some 4, some 5, some 6] (by decide) w h rfl) (fun _ => ?_)
              refine zav (by kernel_rfl) ?_
              refine zat (l1302, l1423, g1542, A1304, c1305, A1424, c1425) h ⟨rfl, trivial⟩ (fun w h => za7 [4, 5, 6, 3, 1, 2, 0] (by decide) rfl w h) ?_
              repeat (first | exact zad _ _ | refine zaf rfl ?_ | refine zae rfl ?_ | refine zah rfl ?_)
          · skip
            refine a_one 7 rfl rfl (by kernel_rfl) rfl (e_appr (i := 1) Try.underlying24 I89 rfl (by decide) (by decide) (fun _ _ _ _ h => h) rfl (fun w h => C_cut (dk := kStep) rfl hz1243 hc0_1 (R0_1.now Z h)) rfl rfl ha1303) (fun s w h => za5 [some 2, some 3, some 4, some 5] (by decide) w h rfl) (cur2 (fun A1304 c1305 => ?_))
            refine a_one 9 rfl rfl (by kernel_rfl) rfl (zac 0 Z Try.func96 N96 rfl rfl rfl (fun w P1 hF hB hS hT => spec_l1Own.calls A26 c27 l25.length l25 hB hF (hT 2 _ rfl).row (hT 2 _ rfl).cap _ hx1422)) (fun s w h => za5 [some 3, some 4, some 5, some 6] (by decide) w h rfl) (cur2 (fun A1424 c1425 => ?_))
            refine za6 10 rfl rfl rfl (by kernel_rfl) (fun _ _ _ h => h) (q_build (vs := [(0, .int .i64 a0_0), (1, .slice A1304 l1302.length c1305), (2, .slice A1424 l1423.length c1425)]) (cs := [.int .i64 a0_0, .slice A1304 l1302.length c1305, .slice A1424 l1423.length c1425]) rfl rfl) ?_
            refine a_one 12 rfl rfl (by kernel_rfl) rfl (zak (i := 1) rfl rfl rfl Z27 rfl rfl) (fun s w h => za5 [some 3, some 4, some 5, some 6] (by decide) w h rfl) (fun _ => ?_)
            refine zav (by kernel_rfl) ?_
            refine zat (l1302, l1423, g1542, A1304, c1305, A1424, c1425) h ⟨rfl, trivial⟩ (fun w h => za7 [4, 5, 6, 3, 1, 2, 0] (by decide) rfl w h) ?_
            repeat (first | exact zad _ _ | refine zaf rfl ?_ | refine zae rfl ?_ | refine zah rfl ?_)
        · skip
          refine a_one 2 rfl rfl (by kernel_rfl) rfl (e_lit0 kStep Try.underlying24 I89) (fun s w h => za5 [some 2, some 3, some 4, some 5] (by decide) w h rfl) (cur2 (fun A1002 c1003 => ?_))
          refine a_one 7 rfl rfl (by kernel_rfl) rfl (e_appr (i := 0) Try.underlying24 I89 rfl (by decide) (by decide) (fun _ _ _ _ h => h) rfl (fun w h => C_cut (dk := kStep) rfl hz1243 hc0_1 (R0_1.now Z h)) rfl rfl ha1303) (fun s w h => za5 [some 2, some 3, some 4, some 5] (by decide) w h rfl) (cur2 (fun A1304 c1305 => ?_))
          refine a_one 9 rfl rfl (by kernel_rfl) rfl (zac 0 Z Try.func96 N96 rfl rfl rfl (fun w P1 hF hB hS hT => spec_l1Own.calls A26 c27 l25.length l25 hB hF (hT 2 _ rfl).row (hT 2 _ rfl).cap _ hx1422)) (fun s w h => za5 [some 3, some 4, some 5, some 6] (by decide) w h rfl) (cur2 (fun A1424 c1425 => ?_))
          refine za6 10 rfl rfl rfl (by kernel_rfl) (fun _ _ _ h => h) (q_build (vs := [(0, .int .i64 a0_0), (1, .slice A1304 l1302.length c1305), (2, .slice A1424 l1423.length c1425)]) (cs := [.int .i64 a0_0, .slice A1304 l1302.length c1305, .slice A1424 l1423.length c1425]) rfl rfl) ?_
          refine a_one 12 rfl rfl (by kernel_rfl) rfl (zak (i := 2) rfl rfl rfl Z27 rfl rfl) (fun s w h => za5 [some 3, some 4, some 5, some 6] (by decide) w h rfl) (fun _ => ?_)
          refine zav (by kernel_rfl) ?_
          refine zat (l1302, l1423, g1542, A1304, c1305, A1424, c1425) h ⟨rfl, trivial⟩ (fun w h => za7 [4, 5, 6, 3, 2, 1, 0] (by decide) rfl w h) ?_
          repeat (first | exact zad _ _ | refine zaf rfl ?_ | refine zae rfl ?_ | refine zah rfl ?_)
      · skip
        refine (cur7 (fun l870 l873 g869 A871 c872 A874 c875 => fun U879 hJ880 => ?_))
        have e_ := Option.some.inj hJ880; have h := hR878; rw [← e_] at h; clear e_ hJ880 hR878 hl877
        refine c_seq ?_
        refine za0 ?_
        refine o_q rfl rfl (za2 rfl) ?_
        refine o_q rfl rfl (q_len Try.underlying25 rfl) ?_
        refine o_q rfl rfl (q_build (vs := [(0, .int .i64 (l25.length : Int))]) (cs := [.int .i64 (l25.length : Int), .slice none 0 0, .slice none 0 0]) rfl rfl) ?_
        refine o_e rfl (zaw V27 rfl) (fun g1722 => ?_)
        refine o_e rfl (zak (i := 0) rfl rfl rfl Z27 rfl rfl) (fun _ => ?_)
        refine o_end ?_
        refine za1 ?_
        refine c_seq ?_
        refine c_seq ?_
        refine za0 ?_
        refine o_q rfl rfl (q_f F27_1 rfl) ?_
        refine o_q rfl rfl (q_ldb Y24 rfl (fun w h => h.zaa (i := 1) rfl) rfl) ?_
        refine o_q rfl rfl (za2 rfl) ?_
        refine za8 h (fun l1724 hz1725 h => ?_) rfl
        refine o_q rfl rfl (q_ctv Try.underlying24 Z89 rfl ⟨_, rfl⟩ rfl rfl hc0_1 hz1725) ?_
        refine o_q rfl rfl (q_len Try.underlying24 rfl) ?_
        refine o_q rfl rfl (za2 rfl) ?_
        refine o_end ?_
        refine za1 ?_
        refine zaj ?_
        refine c_nil kStep 89 ?_
        refine za8 h (fun o1738 hl1737 hR1736 => ?_) rfl
        clear h
        refine c_fact (p := l1724.length ≤ 9223372036854775807) (fun w h => (C_cut (dk := kStep) rfl hz1725 hc0_1 (R0_1.now Z h)).2.1) (fun hm1735 => ?_)
        refine c_loopL (σ := (List SStep) × (List SStep) × Int × (Option Addr) × Nat) (fun k1733 ((ys1732, l1727, i1730, A1728, c1729) : (List SStep) × (List SStep) × Int × (Option Addr) × Nat) => Rg l1724 i1730 ys1732 ∧ ys1732.length = k1733 ∧ spec_SplitPlan.l0 a0_0 l0_1 l0_2 a1 l25 ys1732 l1727 i1730 = some o1738) [11, 49, 50, 51, 52, 53, 54, 55, 56, 57, 58, 59, 60, 61, 62, 63, 64, 65, 66, 67, 68, 69, 70, 71] (fun ((ys1732, l1727, i1730, A1728, c1729) : (List SStep) × (List SStep) × Int × (Option Addr) × Nat) => [(49, .int .i64 i1730)]) (fun ((ys1732, l1727, i1730, A1728, c1729) : (List SStep) × (List SStep) × Int × (Option Addr) × Nat) => [row kStep 89 (.slice A1728 l1727.length c1729) l1727, box g1722 27 #[.int .i64 (l25.length : Int), .slice A1728 l1727.length c1729, .slice none 0 0], box g1 27 #[.int .i64 a0_0, .slice A0_1 l0_1.length c0_1, .slice A0_2 l0_2.length c0_2], box g3 27 #[.int .i64 0, .slice none 0 0, .slice none 0 0], box g5 27 #[.int .i64 0, .slice none 0 0, .slice none 0 0], row (Kd.int .i64) 3 (.slice A26 l25.length c27) l25, box g869 27 #[.int .i64 a0_0, .slice A871 l870.length c872, .slice A874 l873.length c875], row kStep 89 (.slice A871 l870.length c872) l870, row (Kd.int .i64) 3 (.slice A874 l873.length c875) l873]) l1724.length (l1724, ([] : List SStep), 0, none, 0) ⟨Rg.start _, rfl, hl1737⟩ ⟨rfl, trivial⟩ (fun w h => h) ?_
        refine fun k1733 => cur5 (listC (fun l1727 i1730 A1728 c1729 U1739 hJ_ => ?_) (fun y1731 ys1732 l1727 i1730 A1728 c1729 U1739 hJ_ => ?_))
        · skip
          clear hl1737
          have hr1734 := hJ_.1; have hk1740 := hJ_.2.1; have h := hJ_.2.2; clear hJ_
          replace h : spec_SplitPlan.l0 a0_0 l0_1 l0_2 a1 l25 [] l1727 i1730 = some o1738 := h
          rw [spec_SplitPlan.l0] at h
          refine c_seq ?_
          refine za0 ?_
          refine o_q rfl rfl (q_lss rfl rfl) ?_
          refine o_end ?_
          refine za1 ?_
          refine c_seq ?_
          refine c_false (congrArg Value.bool hr1734.ge) ?_
          refine c_exit ?_
          refine za9 ?_
          refine za9 ?_
          have e_ := Option.some.inj h; replace h := hR1736; rw [← e_] at h; clear e_
          refine x_hit ?_
          refine za1 ?_
          refine c_seq ?_
          refine c_seq ?_
          refine za0 ?_
          refine o_q rfl rfl (q_f F27_2 rfl) ?_
          refine o_q rfl rfl (q_ldb Y25 rfl (fun w h => h.zaa (i := 2) rfl) rfl) ?_
          refine o_q rfl rfl (q_len Try.underlying25 rfl) ?_
          refine o_q rfl rfl (za2 rfl) ?_
          refine o_end ?_
          refine za1 ?_
          refine zaj ?_
          refine c_nil (Kd.int .i64) 3 ?_
          refine za8 h (fun o1753 hl1752 hR1751 => ?_) rfl
          clear h
          refine c_fact (p := l0_2.length ≤ 9223372036854775807) (fun w h => (R0_2.now Z h).2.1) (fun hm1750 => ?_)
          refine c_loopL (σ := (List Int) × (List Int) × Int × (Option Addr) × Nat) (fun k1748 ((ys1747, l1742, i1745, A1743, c1744) : (List Int) × (List Int) × Int × (Option Addr) × Nat) => Rg l0_2 i1745 ys1747 ∧ ys1747.length = k1748 ∧ spec_SplitPlan.l1 a0_0 l0_1 l0_2 a1 l25 ys1747 l1742 i1745 = some o1753) [13, 75, 76, 77, 78, 79, 80, 81, 82, 83, 84, 85, 86, 87, 88, 89] (fun ((ys1747, l1742, i1745, A1743, c1744) : (List Int) × (List Int) × Int × (Option Addr) × Nat) => [(75, .int .i64 i1745)]) (fun ((ys1747, l1742, i1745, A1743, c1744) : (List Int) × (List Int) × Int × (Option Addr) × Nat) => [row (Kd.int .i64) 3 (.slice A1743 l1742.length c1744) l1742, row kStep 89 (.slice A1728 l1727.length c1729) l1727, box g1722 27 #[.int .i64 (l25.length : Int), .slice A1728 l1727.length c1729, .slice A1743 l1742.length c1744], box g1 27 #[.int .i64 a0_0, .slice A0_1 l0_1.length c0_1, .slice A0_2 l0_2.length c0_2], box g3 27 #[.int .i64 0, .slice none 0 0, .slice none 0 0], box g5 27 #[.int .i64 0, .slice none 0 0, .slice none 0 0], row (Kd.int .i64) 3 (.slice A26 l25.length c27) l25, box g869 27 #[.int .i64 a0_0, .slice A871 l870.length c872, .slice A874 l873.length c875], row kStep 89 (.slice A871 l870.length c872) l870, row (Kd.int .i64) 3 (.slice A874 l873.length c875) l873]) l0_2.length (l0_2, ([] : List Int), 0, none, 0) ⟨Rg.start _, rfl, hl1752⟩ ⟨rfl, trivial⟩ (fun w h => h) ?_
          refine fun k1748 => cur5 (listC (fun l1742 i1745 A1743 c1744 U1754 hJ_ => ?_) (fun y1746 ys1747 l1742 i1745 A1743 c1744 U1754 hJ_ => ?_))
          · skip
            clear hl1752
            have hr1749 := hJ_.1; have hk1755 := hJ_.2.1; have h := hJ_.2.2; clear hJ_
            replace h : spec_SplitPlan.l1 a0_0 l0_1 l0_2 a1 l25 [] l1742 i1745 = some o1753 := h
            rw [spec_SplitPlan.l1] at h
            refine c_seq ?_
            refine za0 ?_
            refine o_q rfl rfl (q_lss rfl rfl) ?_
            refine o_end ?_
            refine za1 ?_
            refine c_seq ?_
            refine c_false (congrArg Value.bool hr1749.ge) ?_
            refine c_exit ?_
            refine za9 ?_
            refine za9 ?_
            have e_ := Option.some.inj h; replace h := hR1751; rw [← e_] at h; clear e_
            refine x_hit ?_
            refine za1 ?_
            refine c_seq ?_
            refine za8 h (fun o1762 hl1763 hR1764 => ?_) rfl
            clear h
            refine c_cutJ (σ := Bool) (fun b1761 => some b1761 = some o1762) [90, 91, 92, 93, 94, 95, 96, 97] (fun b1761 => [(97, .bool b1761)]) (fun b1761 => [box g3 27 #[.int .i64 0, .slice none 0 0, .slice none 0 0], box g5 27 #[.int .i64 0, .slice none 0 0, .slice none 0 0], box g869 27 #[.int .i64 a0_0, .slice A871 l870.length c872, .slice A874 l873.length c875], row kStep 89 (.slice A871 l870.length c872) l870, row (Kd.int .i64) 3 (.slice A874 l873.length c875) l873, box g1722 27 #[.int .i64 (l25.length : Int), .slice A1728 l1727.length c1729, .slice A1743 l1742.length c1744], row kStep 89 (.slice A1728 l1727.length c1729) l1727, row (Kd.int .i64) 3 (.slice A1743 l1742.length c1744) l1742, box g1 27 #[.int .i64 a0_0, .slice A0_1 l0_1.length c0_1, .slice A0_2 l0_2.length c0_2], row (Kd.int .i64) 3 (.slice A26 l25.length c27) l25]) ?_ ?_
            · skip
              have h := hl1763; clear hl1763
              clear hR1764
              refine za0 ?_
              refine o_q rfl rfl (q_ldB G27 Z27 rfl (fun w h => h.zaa (i := 7) rfl) rfl) ?_
              refine za8 h (fun b1768 hx1767 h => ?_) rfl
              refine o_e rfl (zac 0 Z Try.func93 N93 rfl rfl rfl (fun w P1 hF hB hS hT => spec_plGood.calls k a0_0 A871 c872 l870.length l870 A874 c875 l873.length l873 hB hF (hT 8 _ rfl).row (hT 8 _ rfl).cap (hT 9 _ rfl).row (hT 9 _ rfl).cap _ hx1767)) (fun _ => ?_)
              refine o_q rfl rfl (q_not rfl) ?_
              refine o_q rfl rfl (za2 rfl) ?_
              refine byB b1768 (fun hb1769 => ?_) (fun hb1769 => ?_)
              · replace h := bb_t hb1769 h
                refine o_w (za4 rfl rfl rfl (congrArg (fun b => Value.bool (!(b))) hb1769)) rfl (q_ldB G27 Z27 rfl (fun w h => h.zaa (i := 2) rfl) rfl) ?_
                refine za8 h (fun b1771 hx1770 h => ?_) rfl
                refine o_ew (za4 rfl rfl rfl (congrArg (fun b => Value.bool (!(b))) hb1769)) (zac 0 Z Try.func93 N93 rfl rfl rfl (fun w P1 hF hB hS hT => spec_plGood.calls k (l25.length : Int) A1728 c1729 l1727.length l1727 A1743 c1744 l1742.length l1742 hB hF (hT 1 _ rfl).row (hT 1 _ rfl).cap (hT 0 _ rfl).row (hT 0 _ rfl).cap _ hx1770)) (fun _ => ?_)
                refine o_w (za4 rfl rfl rfl (congrArg (fun b => Value.bool (!(b))) hb1769)) rfl (q_not rfl) ?_
                refine o_q rfl rfl (zao false (congrArg (fun b => Value.bool (!(b))) hb1769) rfl) ?_
                refine o_end ?_
                refine zat (!b1771) h ⟨rfl, trivial⟩ (fun w h => za7 [4, 5, 7, 8, 9, 2, 1, 0, 3, 6] (by decide) rfl w h) ?_
                repeat (first | exact zad _ _ | refine zaf rfl ?_ | refine zae rfl ?_ | refine zah rfl ?_)
              · replace h := bb_f hb1769 h
                refine @o_n _ _ _ _ _ _ _ _ _ _ _ 94 (za3 rfl rfl rfl (congrArg (fun b => Value.bool (!(b))) hb1769) rfl) (Eq.refl (some 94)) ?_
                refine @o_n _ _ _ _ _ _ _ _ _ _ _ 95 (za3 rfl rfl rfl (congrArg (fun b => Value.bool (!(b))) hb1769) rfl) (Eq.refl (some 95)) ?_
                refine @o_n _ _ _ _ _ _ _ _ _ _ _ 96 (za3 rfl rfl rfl (congrArg (fun b => Value.bool (!(b))) hb1769) rfl) (Eq.refl (some 96)) ?_
                refine o_q rfl rfl (zao true (congrArg (fun b => Value.bool (!(b))) hb1769) rfl) ?_
                refine o_end ?_
                refine zat true h ⟨rfl, trivial⟩ (fun w h => za7 [4, 5, 7, 8, 9, 2, 1, 0, 3, 6] (by decide) rfl w h) ?_
                repeat (first | exact zad _ _ | refine zaf rfl ?_ | refine zae rfl ?_ | refine zah rfl ?_)
            · skip
              refine (fun b1761 => fun U1765 hJ1766 => ?_)
              have e_ := Option.some.inj hJ1766; have h := hR1764; rw [← e_] at h; clear e_ hJ1766 hR1764 hl1763
              refine zau _ rfl (fun hb1772 => ?_) (fun hb1772 => ?_)
              · skip
                replace h := bb_t hb1772 h
                refine c_seq ?_
                refine za0 ?_
                refine o_q rfl rfl (q_build (vs := []) (cs := [.int .i64 0, .slice none 0 0, .slice none 0 0]) rfl rfl) ?_
                refine o_q rfl rfl (q_build (vs := []) (cs := [.int .i64 0, .slice none 0 0, .slice none 0 0]) rfl rfl) ?_
                refine o_e rfl (zak (i := 0) rfl rfl rfl Z27 rfl rfl) (fun _ => ?_)
                refine o_e rfl (zak (i := 1) rfl rfl rfl Z27 rfl rfl) (fun _ => ?_)
                refine o_q rfl rfl (q_asg rfl) ?_
                refine o_end ?_
                refine za1 ?_
                refine c_ret ?_
                refine zab ?_
                refine x_nil kStep 89 ?_
                refine x_nil (Kd.int .i64) 3 ?_
                refine x_nil kStep 89 ?_
                refine x_nil (Kd.int .i64) 3 ?_
                have e0_ := Option.some.inj h; clear h
                have d0_ := (Prod.mk.inj e0_).1; have e1_ := (Prod.mk.inj e0_).2; clear e0_; subst d0_
                have d1_ := (Prod.mk.inj e1_).1; have e2_ := (Prod.mk.inj e1_).2; clear e1_; subst d1_
                have d2_ := (Prod.mk.inj e2_).1; have e3_ := (Prod.mk.inj e2_).2; clear e2_; subst d2_
                have d3_ := (Prod.mk.inj e3_).1; have e4_ := (Prod.mk.inj e3_).2; clear e3_; subst d3_
                have d4_ := (Prod.mk.inj e4_).1; have e5_ := (Prod.mk.inj e4_).2; clear e4_; subst d4_
                have d5_ := (Prod.mk.inj e5_).1; have e6_ := (Prod.mk.inj e5_).2; clear e5_; subst d5_
                subst e6_
                exact x_r3 (none, 0, none, 0, none, 0, none, 0) Try.results16 (rv_cell rfl G27 Z27 (fun w h => h.zaa (i := 4) rfl) rfl) (rv_cell rfl G27 Z27 (fun w h => h.zaa (i := 5) rfl) rfl) (zai rfl) rfl (fun w h => za7 [3, 2, 1, 0] (by decide) rfl w h)
              · skip
                replace h := bb_f hb1772 h
                refine zan ?_
                refine za1 ?_
                refine c_seq ?_
                refine a_startS (ds := []) [none, none, some 2, some 3, some 4, some 5, some 6, some 7, some 8, some 9] MO rfl ?_
                refine zax 0 rfl rfl rfl (by kernel_rfl) (fun _ _ _ h => h) (fun w h => za5 [none, none, some 2, some 3, some 4, some 5, some 6, some 7, some 8, some 9] (by decide) w h rfl) (q_ldB G27 Z27 rfl (fun w h => h.zaa (i := 2) rfl) rfl) ?_
                refine zax 1 rfl rfl rfl (by kernel_rfl) (fun _ _ _ h => h) (fun w h => za5 [none, none, some 2, some 3, some 4, some 5, some 6, some 7, some 8, some 9] (by decide) w h rfl) (q_ldB G27 Z27 rfl (fun w h => h.zaa (i := 5) rfl) rfl) ?_
                refine a_one 2 rfl rfl (by kernel_rfl) rfl (zak (i := 0) rfl rfl rfl Z27 rfl rfl) (fun s w h => za5 [none, none, some 2, some 3, some 4, some 5, some 6, some 7, some 8, some 9] (by decide) w h rfl) (fun _ => ?_)
                refine a_one 3 rfl rfl (by kernel_rfl) rfl (zak (i := 1) rfl rfl rfl Z27 rfl rfl) (fun s w h => za5 [none, none, some 2, some 3, some 4, some 5, some 6, some 7, some 8, some 9] (by decide) w h rfl) (fun _ => ?_)
                refine za6 4 rfl rfl rfl (by kernel_rfl) (fun _ _ _ h => h) (q_asg rfl) ?_
                refine zav (by kernel_rfl) ?_
                refine za1 ?_
                refine c_ret ?_
                have e0_ := Option.some.inj h; clear h
                have d0_ := (Prod.mk.inj e0_).1; have e1_ := (Prod.mk.inj e0_).2; clear e0_; subst d0_
                have d1_ := (Prod.mk.inj e1_).1; have e2_ := (Prod.mk.inj e1_).2; clear e1_; subst d1_
                have d2_ := (Prod.mk.inj e2_).1; have e3_ := (Prod.mk.inj e2_).2; clear e2_; subst d2_
                have d3_ := (Prod.mk.inj e3_).1; have e4_ := (Prod.mk.inj e3_).2; clear e3_; subst d3_
                have d4_ := (Prod.mk.inj e4_).1; have e5_ := (Prod.mk.inj e4_).2; clear e4_; subst d4_
                have d5_ := (Prod.mk.inj e5_).1; have e6_ := (Prod.mk.inj e5_).2; clear e5_; subst d5_
                subst e6_
                exact x_r3 (A871, c872, A874, c875, A1728, c1729, A1743, c1744) Try.results16 (rv_cell rfl G27 Z27 (fun w h => h.zaa (i := 0) rfl) rfl) (rv_cell rfl G27 Z27 (fun w h => h.zaa (i := 1) rfl) rfl) (zai rfl) rfl (fun w h => za7 [3, 4, 6, 7] (by decide) rfl w h)
          · skip
            clear hl1752
            have hr1749 := hJ_.1; have hk1755 := hJ_.2.1; have h := hJ_.2.2; clear hJ_
            replace h : spec_SplitPlan.l1 a0_0 l0_1 l0_2 a1 l25 (y1746 :: ys1747) l1742 i1745 = some o1753 := h
            rw [spec_SplitPlan.l1] at h
            refine c_seq ?_
            refine za0 ?_
            refine o_q rfl rfl (q_lss rfl rfl) ?_
            refine o_end ?_
            refine za1 ?_
            refine c_seq ?_
            refine c_true (congrArg Value.bool hr1749.lt) ?_
            refine zan ?_
            refine za1 ?_
            refine c_seq ?_
            refine zaj ?_
            refine c_seq ?_
            refine za0 ?_
            refine o_fact (p := Sh A0_2 l0_2.length l0_2.length) (fun w h => f_sh (dk := (Kd.int .i64)) h (fun w h => R0_2.now Z h)) (fun hq1773 => ?_)
            refine o_q rfl rfl (q_ix Try.underlying25 Z3 rfl rfl hq1773 hr1749.get) ?_
            refine o_q rfl rfl (q_lde (off := 0) Y3 rfl rfl (fun w h => R0_2.now Z h) hr1749.get (fun _ _ h => h) rfl) ?_
            refine o_q rfl rfl (q_asg rfl) ?_
            refine o_end ?_
            refine za1 ?_
            refine za8 h (fun i2136 hx2135 h => ?_) rfl
            refine za8 h (fun l2255 ha2256 h => ?_) rfl
            refine a_startS (ds := []) [none, some 1, none, some 3, some 4, some 5, some 6, some 7, some 8, some 9] MO rfl ?_
            refine za6 0 rfl rfl rfl (by kernel_rfl) (fun _ _ _ h => h) (q_f F27_2 rfl) ?_
            refine zax 2 rfl rfl rfl (by kernel_rfl) (fun _ _ _ h => h) (fun w h => za5 [none, some 1, none, some 3, some 4, some 5, some 6, some 7, some 8, some 9] (by decide) w h rfl) (q_ldB G27 Z27 rfl (fun w h => h.zaa (i := 3) rfl) rfl) ?_
            refine za6 3 rfl rfl rfl (by kernel_rfl) (fun _ _ _ h => h) (za2 rfl) ?_
            refine za6 4 rfl rfl rfl (by kernel_rfl) (fun _ _ _ h => h) (za2 rfl) ?_
            refine za6 5 rfl rfl rfl (by kernel_rfl) (fun _ _ _ h => h) (za2 rfl) ?_
            refine a_two 1 6 rfl rfl rfl rfl (by kernel_rfl) rfl rfl (ev_q rfl (q_ldb Y25 rfl (fun w h => h.zaa (i := 2) rfl) rfl)) (fun s w h => za5 [none, some 1, none, some 3, some 4, some 5, some 6, some 7, some 8, some 9] (by decide) w h rfl) (zac 0 Z Try.func98 N98 rfl rfl rfl (fun w P1 hF hB hS hT => spec_duLater.calls a0_0 A0_1 c0_1 l0_1.length l0_1 A0_2 c0_2 l0_2.length l0_2 a1 A26 c27 l25.length l25 y1746 hB hF (hS _ R0_1) hc0_1 (hS _ R0_2) hc0_2 (hT 6 _ rfl).row (hT 6 _ rfl).cap _ hx2135)) (fun s w h => za5 [none, some 1, none, some 3, some 4, some 5, some 6, some 7, some 8, some 9] (by decide) w h rfl) (fun _ => ?_) (fun _ => ?_)
            · skip
              refine a_one 6 rfl rfl (by kernel_rfl) rfl (zac 0 Z Try.func98 N98 rfl rfl rfl (fun w P1 hF hB hS hT => spec_duLater.calls a0_0 A0_1 c0_1 l0_1.length l0_1 A0_2 c0_2 l0_2.length l0_2 a1 A26 c27 l25.length l25 y1746 hB hF (hS _ R0_1) hc0_1 (hS _ R0_2) hc0_2 (hT 6 _ rfl).row (hT 6 _ rfl).cap _ hx2135)) (fun s w h => za5 [none, some 1, none, some 3, some 4, some 5, some 6, some 7, some 8, some 9] (by decide) w h rfl) (fun _ => ?_)
              refine a_one 7 rfl rfl (by kernel_rfl) rfl (e_lit (vs := [(0, .int .i64 i2136)]) (cs := [.int .i64 i2136]) (Kd.int .i64) ([i2136] : List Int) Try.underlying25 I3 (by decide) rfl (by decide) rfl rfl (fun _ _ => Kd.zas _)) (fun s w h => za5 [none, some 2, none, some 4, some 5, some 6, some 7, some 8, some 9, some 10] (by decide) w h rfl) (cur2 (fun A2195 c2196 => ?_))
              refine a_one 8 rfl rfl (by kernel_rfl) rfl (e_app (i := 1) (j := 0) Try.underlying25 I3 rfl (by decide) (by decide) rfl rfl rfl rfl rfl ha2256) (fun s w h => za5 [none, some 2, none, some 4, some 5, some 6, some 7, some 8, some 9, some 10] (by decide) w h rfl) (cur2 (fun A2257 c2258 => ?_))
              refine za6 9 rfl rfl rfl (by kernel_rfl) (fun _ _ _ h => h) (q_f F27_2 rfl) ?_
              refine a_one 10 rfl rfl (by kernel_rfl) rfl (e_store (i := 3) rfl rfl rfl rfl Z25 rfl rfl) (fun s w h => za5 [none, some 2, none, some 4, some 5, some 6, some 7, some 8, some 9, some 10] (by decide) w h rfl) (fun _ => ?_)
              refine zav (by kernel_rfl) ?_
              refine zam ?_
              refine za1 ?_
              refine za0 ?_
              refine o_q rfl rfl (q_up rfl rfl (hr1749.up hm1750)) ?_
              refine o_q rfl rfl (za2 rfl) ?_
              refine o_end ?_
              refine zal ys1747.length (ys1747, l2255, i1745 + 1, A2257, c2258) (by rw [← hk1755]; exact Nat.lt_succ_self _) ⟨hr1749.step, rfl, h⟩ ⟨rfl, trivial⟩ (fun w h => za7 [1, 2, 3, 4, 5, 6, 7, 8, 9, 10] (by decide) rfl w h) ?_
              repeat (first | exact zad _ _ | refine zaf rfl ?_ | refine zae rfl ?_ | refine zah rfl ?_)
            · skip
              refine a_two 1 7 rfl rfl rfl rfl (by kernel_rfl) rfl rfl (ev_q rfl (q_ldb Y25 rfl (fun w h => h.zaa (i := 2) rfl) rfl)) (fun s w h => za5 [none, some 1, none, some 3, some 4, some 5, some 6, some 7, some 8, some 9] (by decide) w h rfl) (e_lit (vs := [(0, .int .i64 i2136)]) (cs := [.int .i64 i2136]) (Kd.int .i64) ([i2136] : List Int) Try.underlying25 I3 (by decide) rfl (by decide) rfl rfl (fun _ _ => Kd.zas _)) (fun s w h => za5 [none, some 2, none, some 4, some 5, some 6, some 7, some 8, some 9, some 10] (by decide) w h rfl) (fun _ => ?_) (cur2 (fun A2195 c2196 => ?_))
              · skip
                refine a_one 7 rfl rfl (by kernel_rfl) rfl (e_lit (vs := [(0, .int .i64 i2136)]) (cs := [.int .i64 i2136]) (Kd.int .i64) ([i2136] : List Int) Try.underlying25 I3 (by decide) rfl (by decide) rfl rfl (fun _ _ => Kd.zas _)) (fun s w h => za5 [none, some 2, none, some 4, some 5, some 6, some 7, some 8, some 9, some 10] (by decide) w h rfl) (cur2 (fun A2195 c2196 => ?_))
                refine a_one 8 rfl rfl (by kernel_rfl) rfl (e_app (i := 1) (j := 0) Try.underlying25 I3 rfl (by decide) (by decide) rfl rfl rfl rfl rfl ha2256) (fun s w h => za5 [none, some 2, none, some 4, some 5, some 6, some 7, some 8, some 9, some 10] (by decide) w h rfl) (cur2 (fun A2257 c2258 => ?_))
                refine za6 9 rfl rfl rfl (by kernel_rfl) (fun _ _ _ h => h) (q_f F27_2 rfl) ?_
                refine a_one 10 rfl rfl (by kernel_rfl) rfl (e_store (i := 3) rfl rfl rfl rfl Z25 rfl rfl) (fun s w h => za5 [none, some 2, none, some 4, some 5, some 6, some 7, some 8, some 9, some 10] (by decide) w h rfl) (fun _ => ?_)
                refine zav (by kernel_rfl) ?_
                refine zam ?_
                refine za1 ?_
                refine za0 ?_
                refine o_q rfl rfl (q_up rfl rfl (hr1749.up hm1750)) ?_
                refine o_q rfl rfl (za2 rfl) ?_
                refine o_end ?_
                refine zal ys1747.length (ys1747, l2255, i1745 + 1, A2257, c2258) (by rw [← hk1755]; exact Nat.lt_succ_self _) ⟨hr1749.step, rfl, h⟩ ⟨rfl, trivial⟩ (fun w h => za7 [1, 2, 3, 4, 5, 6, 7, 8, 9, 10] (by decide) rfl w h) ?_
                repeat (first | exact zad _ _ | refine zaf rfl ?_ | refine zae rfl ?_ | refine zah rfl ?_)
              · skip
                refine a_one 1 rfl rfl (by kernel_rfl) rfl (ev_q rfl (q_ldb Y25 rfl (fun w h => h.zaa (i := 3) rfl) rfl)) (fun s w h => za5 [none, some 2, none, some 4, some 5, some 6, some 7, some 8, some 9, some 10] (by decide) w h rfl) (fun _ => ?_)
                refine a_one 8 rfl rfl (by kernel_rfl) rfl (e_app (i := 1) (j := 0) Try.underlying25 I3 rfl (by decide) (by decide) rfl rfl rfl rfl rfl ha2256) (fun s w h => za5 [none, some 2, none, some 4, some 5, some 6, some 7, some 8, some 9, some 10] (by decide) w h rfl) (cur2 (fun A2257 c2258 => ?_))
                refine za6 9 rfl rfl rfl (by kernel_rfl) (fun _ _ _ h => h) (q_f F27_2 rfl) ?_
                refine a_one 10 rfl rfl (by kernel_rfl) rfl (e_store (i := 3) rfl rfl rfl rfl Z25 rfl rfl) (fun s w h => za5 [none, some 2, none, some 4, some 5, some 6, some 7, some 8, some 9, some 10] (by decide) w h rfl) (fun _ => ?_)
                refine zav (by kernel_rfl) ?_
                refine zam ?_
                refine za1 ?_
                refine za0 ?_
                refine o_q rfl rfl (q_up rfl rfl (hr1749.up hm1750)) ?_
                refine o_q rfl rfl (za2 rfl) ?_
                refine o_end ?_
                refine zal ys1747.length (ys1747, l2255, i1745 + 1, A2257, c2258) (by rw [← hk1755]; exact Nat.lt_succ_self _) ⟨hr1749.step, rfl, h⟩ ⟨rfl, trivial⟩ (fun w h => za7 [1, 2, 3, 4, 5, 6, 7, 8, 9, 10] (by decide) rfl w h) ?_
                repeat (first | exact zad _ _ | refine zaf rfl ?_ | refine zae rfl ?_ | refine zah rfl ?_)
        · skip
          clear hl1737
          have hr1734 := hJ_.1; have hk1740 := hJ_.2.1; have h := hJ_.2.2; clear hJ_
          replace h : spec_SplitPlan.l0 a0_0 l0_1 l0_2 a1 l25 (y1731 :: ys1732) l1727 i1730 = some o1738 := h
          rw [spec_SplitPlan.l0] at h
          refine c_seq ?_
          refine za0 ?_
          refine o_q rfl rfl (q_lss rfl rfl) ?_
          refine o_end ?_
          refine za1 ?_
          refine c_seq ?_
          refine c_true (congrArg Value.bool hr1734.lt) ?_
          refine zan ?_
          refine za1 ?_
          refine c_seq ?_
          refine zaj ?_
          refine c_seq ?_
          refine za0 ?_
          refine o_fact (p := Sh (cutA A0_1 c0_1 a1.toNat 2) l1724.length l1724.length) (fun w h => f_sh (dk := kStep) h (fun w h => C_cut (dk := kStep) rfl hz1725 hc0_1 (R0_1.now Z h))) (fun hq2495 => ?_)
          refine o_q rfl rfl (q_ix Try.underlying24 Z89 rfl rfl hq2495 hr1734.get) ?_
          refine o_q rfl rfl (q_ldE G89 Z89 rfl rfl (fun w h => C_cut (dk := kStep) rfl hz1725 hc0_1 (R0_1.now Z h)) hr1734.get (fun _ _ h => h) rfl) ?_
          refine o_e rfl (zaw V89 rfl) (fun g2496 => ?_)
          refine o_e rfl (zak (i := 0) rfl rfl rfl Z89 rfl rfl) (fun _ => ?_)
          refine o_end ?_
          refine za1 ?_
          refine za8 h (fun i2920 hx2919 h => ?_) rfl
          refine za8 h (fun i3280 hx3279 h => ?_) rfl
          refine za8 h (fun z3340 hx3339 h => ?_) rfl
          refine za8 h (fun l3459 ha3460 h => ?_) rfl
          refine a_startS (ds := []) [some 0, none, none, some 3, some 4, some 5, some 6, some 7, some 8, some 9] MO rfl ?_
          refine za6 0 rfl rfl rfl (by kernel_rfl) (fun _ _ _ h => h) (q_f F27_1 rfl) ?_
          refine zax 2 rfl rfl rfl (by kernel_rfl) (fun _ _ _ h => h) (fun w h => za5 [some 0, none, none, some 3, some 4, some 5, some 6, some 7, some 8, some 9] (by decide) w h rfl) (q_ldB G27 Z27 rfl (fun w h => h.zaa (i := 3) rfl) rfl) ?_
          refine za6 3 rfl rfl rfl (by kernel_rfl) (fun _ _ _ h => h) (za2 rfl) ?_
          refine za6 4 rfl rfl rfl (by kernel_rfl) (fun _ _ _ h => h) (za2 rfl) ?_
          refine za6 5 rfl rfl rfl (by kernel_rfl) (fun _ _ _ h => h) (q_f F89_0 rfl) ?_
          refine zax 6 rfl rfl rfl (by kernel_rfl) (fun _ _ _ h => h) (fun w h => za5 [some 0, none, none, some 3, some 4, some 5, some 6, some 7, some 8, some 9] (by decide) w h rfl) (q_ldb Y3 rfl (fun w h => h.zaa (i := 0) rfl) rfl) ?_
          refine zax 8 rfl rfl rfl (by kernel_rfl) (fun _ _ _ h => h) (fun w h => za5 [some 0, none, none, some 3, some 4, some 5, some 6, some 7, some 8, some 9] (by decide) w h rfl) (q_ldB G27 Z27 rfl (fun w h => h.zaa (i := 3) rfl) rfl) ?_
          refine za6 9 rfl rfl rfl (by kernel_rfl) (fun _ _ _ h => h) (za2 rfl) ?_
          refine za6 10 rfl rfl rfl (by kernel_rfl) (fun _ _ _ h => h) (za2 rfl) ?_
          refine za6 11 rfl rfl rfl (by kernel_rfl) (fun _ _ _ h => h) (q_f F89_1 rfl) ?_
          refine zax 12 rfl rfl rfl (by kernel_rfl) (fun _ _ _ h => h) (fun w h => za5 [some 0, none, none, some 3, some 4, some 5, some 6, some 7, some 8, some 9] (by decide) w h rfl) (q_ldb Y3 rfl (fun w h => h.zaa (i := 0) rfl) rfl) ?_
          refine a_two 1 7 rfl rfl rfl rfl (by kernel_rfl) rfl rfl (ev_q rfl (q_ldb Y24 rfl (fun w h => h.zaa (i := 2) rfl) rfl)) (fun s w h => za5 [some 0, none, none, some 3, some 4, some 5, some 6, some 7, some 8, some 9] (by decide) w h rfl) (zac 0 Z Try.func98 N98 rfl rfl rfl (fun w P1 hF hB hS hT => spec_duLater.calls a0_0 A0_1 c0_1 l0_1.length l0_1 A0_2 c0_2 l0_2.length l0_2 a1 A26 c27 l25.length l25 y1731.f0 hB hF (hS _ R0_1) hc0_1 (hS _ R0_2) hc0_2 (hT 6 _ rfl).row (hT 6 _ rfl).cap _ hx2919)) (fun s w h => za5 [some 0, none, none, some 3, some 4, some 5, some 6, some 7, some 8, some 9] (by decide) w h rfl) (fun _ => ?_) (fun _ => ?_)
          · skip
            refine a_one 7 rfl rfl (by kernel_rfl) rfl (zac 0 Z Try.func98 N98 rfl rfl rfl (fun w P1 hF hB hS hT => spec_duLater.calls a0_0 A0_1 c0_1 l0_1.length l0_1 A0_2 c0_2 l0_2.length l0_2 a1 A26 c27 l25.length l25 y1731.f0 hB hF (hS _ R0_1) hc0_1 (hS _ R0_2) hc0_2 (hT 6 _ rfl).row (hT 6 _ rfl).cap _ hx2919)) (fun s w h => za5 [some 0, none, none, some 3, some 4, some 5, some 6, some 7, some 8, some 9] (by decide) w h rfl) (fun _ => ?_)
            refine a_one 13 rfl rfl (by kernel_rfl) rfl (zac 0 Z Try.func98 N98 rfl rfl rfl (fun w P1 hF hB hS hT => spec_duLater.calls a0_0 A0_1 c0_1 l0_1.length l0_1 A0_2 c0_2 l0_2.length l0_2 a1 A26 c27 l25.length l25 y1731.f1 hB hF (hS _ R0_1) hc0_1 (hS _ R0_2) hc0_2 (hT 6 _ rfl).row (hT 6 _ rfl).cap _ hx3279)) (fun s w h => za5 [some 0, none, none, some 3, some 4, some 5, some 6, some 7, some 8, some 9] (by decide) w h rfl) (fun _ => ?_)
            refine a_one 14 rfl rfl (by kernel_rfl) rfl (zac 0 Z Try.func97 N97 rfl rfl rfl (fun w P1 hF hB hS hT => spec_plStep.calls i2920 i3280 hB hF _ hx3339)) (fun s w h => za5 [some 0, none, none, some 3, some 4, some 5, some 6, some 7, some 8, some 9] (by decide) w h rfl) (fun _ => ?_)
            refine a_one 15 rfl rfl (by kernel_rfl) rfl (e_lit (vs := [(0, .agg #[.int .i64 z3340.f0, .int .i64 z3340.f1])]) (cs := [.int .i64 z3340.f0, .int .i64 z3340.f1]) kStep ([z3340] : List SStep) Try.underlying24 I89 (by decide) rfl (by decide) rfl rfl (fun _ _ => reps_flat _)) (fun s w h => za5 [some 1, none, none, some 4, some 5, some 6, some 7, some 8, some 9, some 10] (by decide) w h rfl) (cur2 (fun A3399 c3400 => ?_))
            refine a_one 16 rfl rfl (by kernel_rfl) rfl (e_app (i := 2) (j := 0) Try.underlying24 I89 rfl (by decide) (by decide) rfl rfl rfl rfl rfl ha3460) (fun s w h => za5 [some 1, none, none, some 4, some 5, some 6, some 7, some 8, some 9, some 10] (by decide) w h rfl) (cur2 (fun A3461 c3462 => ?_))
            refine za6 17 rfl rfl rfl (by kernel_rfl) (fun _ _ _ h => h) (q_f F27_1 rfl) ?_
            refine a_one 18 rfl rfl (by kernel_rfl) rfl (e_store (i := 3) rfl rfl rfl rfl Z24 rfl rfl) (fun s w h => za5 [some 1, none, none, some 4, some 5, some 6, some 7, some 8, some 9, some 10] (by decide) w h rfl) (fun _ => ?_)
            refine zav (by kernel_rfl) ?_
            refine zam ?_
            refine za1 ?_
            refine za0 ?_
            refine o_q rfl rfl (q_up rfl rfl (hr1734.up hm1735)) ?_
            refine o_q rfl rfl (za2 rfl) ?_
            refine o_end ?_
            refine zal ys1732.length (ys1732, l3459, i1730 + 1, A3461, c3462) (by rw [← hk1740]; exact Nat.lt_succ_self _) ⟨hr1734.step, rfl, h⟩ ⟨rfl, trivial⟩ (fun w h => za7 [2, 3, 4, 5, 6, 7, 8, 9, 10] (by decide) rfl w h) ?_
            repeat (first | exact zad _ _ | refine zaf rfl ?_ | refine zae rfl ?_ | refine zah rfl ?_)
          · skip
            refine a_two 1 13 rfl rfl rfl rfl (by kernel_rfl) rfl rfl (ev_q rfl (q_ldb Y24 rfl (fun w h => h.zaa (i := 2) rfl) rfl)) (fun s w h => za5 [some 0, none, none, some 3, some 4, some 5, some 6, some 7, some 8, some 9] (by decide) w h rfl) (zac 0 Z Try.func98 N98 rfl rfl rfl (fun w P1 hF hB hS hT => spec_duLater.calls a0_0 A0_1 c0_1 l0_1.length l0_1 A0_2 c0_2 l0_2.length l0_2 a1 A26 c27 l25.length l25 y1731.f1 hB hF (hS _ R0_1) hc0_1 (hS _ R0_2) hc0_2 (hT 6 _ rfl).row (hT 6 _ rfl).cap _ hx3279)) (fun s w h => za5 [some 0, none, none, some 3, some 4, some 5, some 6, some 7, some 8, some 9] (by decide) w h rfl) (fun _ => ?_) (fun _ => ?_)
            · skip
              refine a_one 13 rfl rfl (by kernel_rfl) rfl (zac 0 Z Try.func98 N98 rfl rfl rfl (fun w P1 hF hB hS hT => spec_duLater.calls a0_0 A0_1 c0_1 l0_1.length l0_1 A0_2 c0_2 l0_2.length l0_2 a1 A26 c27 l25.length l25 y1731.f1 hB hF (hS _ R0_1) hc0_1 (hS _ R0_2) hc0_2 (hT 6 _ rfl).row (hT 6 _ rfl).cap _ hx3279)) (fun s w h => za5 [some 0, none, none, some 3, some 4, some 5, some 6, some 7, some 8, some 9] (by decide) w h rfl) (fun _ => ?_)
              refine a_one 14 rfl rfl (by kernel_rfl) rfl (zac 0 Z Try.func97 N97 rfl rfl rfl (fun w P1 hF hB hS hT => spec_plStep.calls i2920 i3280 hB hF _ hx3339)) (fun s w h => za5 [some 0, none, none, some 3, some 4, some 5, some 6, some 7, some 8, some 9] (by decide) w h rfl) (fun _ => ?_)
              refine a_one 15 rfl rfl (by kernel_rfl) rfl (e_lit (vs := [(0, .agg #[.int .i64 z3340.f0, .int .i64 z3340.f1])]) (cs := [.int .i64 z3340.f0, .int .i64 z3340.f1]) kStep ([z3340] : List SStep) Try.underlying24 I89 (by decide) rfl (by decide) rfl rfl (fun _ _ => reps_flat _)) (fun s w h => za5 [some 1, none, none, some 4, some 5, some 6, some 7, some 8, some 9, some 10] (by decide) w h rfl) (cur2 (fun A3399 c3400 => ?_))
              refine a_one 16 rfl rfl (by kernel_rfl) rfl (e_app (i := 2) (j := 0) Try.underlying24 I89 rfl (by decide) (by decide) rfl rfl rfl rfl rfl ha3460) (fun s w h => za5 [some 1, none, none, some 4, some 5, some 6, some 7, some 8, some 9, some 10] (by decide) w h rfl) (cur2 (fun A3461 c3462 => ?_))
              refine za6 17 rfl rfl rfl (by kernel_rfl) (fun _ _ _ h => h) (q_f F27_1 rfl) ?_
              refine a_one 18 rfl rfl (by kernel_rfl) rfl (e_store (i := 3) rfl rfl rfl rfl Z24 rfl rfl) (fun s w h => za5 [some 1, none, none, some 4, some 5, some 6, some 7, some 8, some 9, some 10] (by decide) w h rfl) (fun _ => ?_)
              refine zav (by kernel_rfl) ?_
              refine zam ?_
              refine za1 ?_
              refine za0 ?_
              refine o_q rfl rfl (q_up rfl rfl (hr1734.up hm1735)) ?_
              refine o_q rfl rfl (za2 rfl) ?_
              refine o_end ?_
              refine zal ys1732.length (ys1732, l3459, i1730 + 1, A3461, c3462) (by rw [← hk1740]; exact Nat.lt_succ_self _) ⟨hr1734.step, rfl, h⟩ ⟨rfl, trivial⟩ (fun w h => za7 [2, 3, 4, 5, 6, 7, 8, 9, 10] (by decide) rfl w h) ?_
              repeat (first | exact zad _ _ | refine zaf rfl ?_ | refine zae rfl ?_ | refine zah rfl ?_)
            · skip
              refine a_two 1 14 rfl rfl rfl rfl (by kernel_rfl) rfl rfl (ev_q rfl (q_ldb Y24 rfl (fun w h => h.zaa (i := 2) rfl) rfl)) (fun s w h => za5 [some 0, none, none, some 3, some 4, some 5, some 6, some 7, some 8, some 9] (by decide) w h rfl) (zac 0 Z Try.func97 N97 rfl rfl rfl (fun w P1 hF hB hS hT => spec_plStep.calls i2920 i3280 hB hF _ hx3339)) (fun s w h => za5 [some 0, none, none, some 3, some 4, some 5, some 6, some 7, some 8, some 9] (by decide) w h rfl) (fun _ => ?_) (fun _ => ?_)
              · skip
                refine a_one 14 rfl rfl (by kernel_rfl) rfl (zac 0 Z Try.func97 N97 rfl rfl rfl (fun w P1 hF hB hS hT => spec_plStep.calls i2920 i3280 hB hF _ hx3339)) (fun s w h => za5 [some 0, none, none, some 3, some 4, some 5, some 6, some 7, some 8, some 9] (by decide) w h rfl) (fun _ => ?_)
                refine a_one 15 rfl rfl (by kernel_rfl) rfl (e_lit (vs := [(0, .agg #[.int .i64 z3340.f0, .int .i64 z3340.f1])]) (cs := [.int .i64 z3340.f0, .int .i64 z3340.f1]) kStep ([z3340] : List SStep) Try.underlying24 I89 (by decide) rfl (by decide) rfl rfl (fun _ _ => reps_flat _)) (fun s w h => za5 [some 1, none, none, some 4, some 5, some 6, some 7, some 8, some 9, some 10] (by decide) w h rfl) (cur2 (fun A3399 c3400 => ?_))
                refine a_one 16 rfl rfl (by kernel_rfl) rfl (e_app (i := 2) (j := 0) Try.underlying24 I89 rfl (by decide) (by decide) rfl rfl rfl rfl rfl ha3460) (fun s w h => za5 [some 1, none, none, some 4, some 5, some 6, some 7, some 8, some 9, some 10] (by decide) w h rfl) (cur2 (fun A3461 c3462 => ?_))
                refine za6 17 rfl rfl rfl (by kernel_rfl) (fun _ _ _ h => h) (q_f F27_1 rfl) ?_
                refine a_one 18 rfl rfl (by kernel_rfl) rfl (e_store (i := 3) rfl rfl rfl rfl Z24 rfl rfl) (fun s w h => za5 [some 1, none, none, some 4, some 5, some 6, some 7, some 8, some 9, some 10] (by decide) w h rfl) (fun _ => ?_)
                refine zav (by kernel_rfl) ?_
                refine zam ?_
                refine za1 ?_
                refine za0 ?_
                refine o_q rfl rfl (q_up rfl rfl (hr1734.up hm1735)) ?_
                refine o_q rfl rfl (za2 rfl) ?_
                refine o_end ?_
                refine zal ys1732.length (ys1732, l3459, i1730 + 1, A3461, c3462) (by rw [← hk1740]; exact Nat.lt_succ_self _) ⟨hr1734.step, rfl, h⟩ ⟨rfl, trivial⟩ (fun w h => za7 [2, 3, 4, 5, 6, 7, 8, 9, 10] (by decide) rfl w h) ?_
                repeat (first | exact zad _ _ | refine zaf rfl ?_ | refine zae rfl ?_ | refine zah rfl ?_)
              · skip
                refine a_two 1 15 rfl rfl rfl rfl (by kernel_rfl) rfl rfl (ev_q rfl (q_ldb Y24 rfl (fun w h => h.zaa (i := 2) rfl) rfl)) (fun s w h => za5 [some 0, none, none, some 3, some 4, some 5, some 6, some 7, some 8, some 9] (by decide) w h rfl) (e_lit (vs := [(0, .agg #[.int .i64 z3340.f0, .int .i64 z3340.f1])]) (cs := [.int .i64 z3340.f0, .int .i64 z3340.f1]) kStep ([z3340] : List SStep) Try.underlying24 I89 (by decide) rfl (by decide) rfl rfl (fun _ _ => reps_flat _)) (fun s w h => za5 [some 1, none, none, some 4, some 5, some 6, some 7, some 8, some 9, some 10] (by decide) w h rfl) (fun _ => ?_) (cur2 (fun A3399 c3400 => ?_))
                · skip
                  refine a_one 15 rfl rfl (by kernel_rfl) rfl (e_lit (vs := [(0, .agg #[.int .i64 z3340.f0, .int .i64 z3340.f1])]) (cs := [.int .i64 z3340.f0, .int .i64 z3340.f1]) kStep ([z3340] : List SStep) Try.underlying24 I89 (by decide) rfl (by decide) rfl rfl (fun _ _ => reps_flat _)) (fun s w h => za5 [some 1, none, none, some 4, some 5, some 6, some 7, some 8, some 9, some 10] (by decide) w h rfl) (cur2 (fun A3399 c3400 => ?_))
                  refine a_one 16 rfl rfl (by kernel_rfl) rfl (e_app (i := 2) (j := 0) Try.underlying24 I89 rfl (by decide) (by decide) rfl rfl rfl rfl rfl ha3460) (fun s w h => za5 [some 1, none, none, some 4, some 5, some 6, some 7, some 8, some 9, some 10] (by decide) w h rfl) (cur2 (fun A3461 c3462 => ?_))
                  refine za6 17 rfl rfl rfl (by kernel_rfl) (fun _ _ _ h => h) (q_f F27_1 rfl) ?_
                  refine a_one 18 rfl rfl (by kernel_rfl) rfl (e_store (i := 3) rfl rfl rfl rfl Z24 rfl rfl) (fun s w h => za5 [some 1, none, none, some 4, some 5, some 6, some 7, some 8, some 9, some 10] (by decide) w h rfl) (fun _ => ?_)
                  refine zav (by kernel_rfl) ?_
                  refine zam ?_
                  refine za1 ?_
                  refine za0 ?_
                  refine o_q rfl rfl (q_up rfl rfl (hr1734.up hm1735)) ?_
                  refine o_q rfl rfl (za2 rfl) ?_
                  refine o_end ?_
                  refine zal ys1732.length (ys1732, l3459, i1730 + 1, A3461, c3462) (by rw [← hk1740]; exact Nat.lt_succ_self _) ⟨hr1734.step, rfl, h⟩ ⟨rfl, trivial⟩ (fun w h => za7 [2, 3, 4, 5, 6, 7, 8, 9, 10] (by decide) rfl w h) ?_
                  repeat (first | exact zad _ _ | refine zaf rfl ?_ | refine zae rfl ?_ | refine zah rfl ?_)
                · skip
                  refine a_one 1 rfl rfl (by kernel_rfl) rfl (ev_q rfl (q_ldb Y24 rfl (fun w h => h.zaa (i := 3) rfl) rfl)) (fun s w h => za5 [some 1, none, none, some 4, some 5, some 6, some 7, some 8, some 9, some 10] (by decide) w h rfl) (fun _ => ?_)
                  refine a_one 16 rfl rfl (by kernel_rfl) rfl (e_app (i := 2) (j := 0) Try.underlying24 I89 rfl (by decide) (by decide) rfl rfl rfl rfl rfl ha3460) (fun s w h => za5 [some 1, none, none, some 4, some 5, some 6, some 7, some 8, some 9, some 10] (by decide) w h rfl) (cur2 (fun A3461 c3462 => ?_))
                  refine za6 17 rfl rfl rfl (by kernel_rfl) (fun _ _ _ h => h) (q_f F27_1 rfl) ?_
                  refine a_one 18 rfl rfl (by kernel_rfl) rfl (e_store (i := 3) rfl rfl rfl rfl Z24 rfl rfl) (fun s w h => za5 [some 1, none, none, some 4, some 5, some 6, some 7, some 8, some 9, some 10] (by decide) w h rfl) (fun _ => ?_)
                  refine zav (by kernel_rfl) ?_
                  refine zam ?_
                  refine za1 ?_
                  refine za0 ?_
                  refine o_q rfl rfl (q_up rfl rfl (hr1734.up hm1735)) ?_
                  refine o_q rfl rfl (za2 rfl) ?_
                  refine o_end ?_
                  refine zal ys1732.length (ys1732, l3459, i1730 + 1, A3461, c3462) (by rw [← hk1740]; exact Nat.lt_succ_self _) ⟨hr1734.step, rfl, h⟩ ⟨rfl, trivial⟩ (fun w h => za7 [2, 3, 4, 5, 6, 7, 8, 9, 10] (by decide) rfl w h) ?_
                  repeat (first | exact zad _ _ | refine zaf rfl ?_ | refine zae rfl ?_ | refine zah rfl ?_)

/-! ### loop.example/g01098/laws.pSameSteps: function 99 -/
def laws_pSameSteps.l0 (l1 : List SStep) : (List SStep) → Int → Option ((Bool) ⊕ (Unit))
  | [], i2 => some (.inr ())
  | y3 :: ys4, i2 => (gt l1 i2).bind fun y16 => if (y3.f0 == y16.f0 && (y3.f1 == y16.f1 && true)) = true then (laws_pSameSteps.l0 l1 ys4 (i2 + 1)) else (some (.inl false))
def laws_pSameSteps.f (l0 : List SStep) (l1 : List SStep) : Option Bool := if (l0.length : Int) ≠ (l1.length : Int) then (some false) else ((laws_pSameSteps.l0 l1 l0 0).bind fun o_ => match o_ with | .inl r_ => some r_ | .inr _ => some true)
set_option maxHeartbeats 600000 in
set_option maxRecDepth 100000 in
theorem laws_pSameSteps.calls {w0 ws : World} {P0 : Nat → Prop} (A0 : Option Addr) (c0 : Nat) (n0 : Nat) (l0 : List SStep) (A1 : Option Addr) (c1 : Nat) (n1 : Nat) (l1 : List SStep) (Z : Below w0.heap.size w0 ws) (hF : Fr w0 ws P0 [] ws) (R0 : Stable ws P0 (fun w => Kd.C kStep w A0 n0 l0)) (hc0 : n0 ≤ c0) (R1 : Stable ws P0 (fun w => Kd.C kStep w A1 n1 l1)) (hc1 : n1 ≤ c1) (r_1 : Bool) (h : laws_pSameSteps.f l0 l1 = some r_1) :
    Calls Try.prog 99 #[.slice A0 n0 c0, .slice A1 n1 c1] ws (Post1 w0 ws P0 (fun (_ : Unit) => .bool r_1) (fun (_ : Unit) => [])) := by
  unfold laws_pSameSteps.f at h
  obtain rfl := (R0 ws (KeptB.refl _ _)).1
  obtain rfl := (R1 ws (KeptB.refl _ _)).1
  refine enter Try.func99 rfl Try.ntmps99 rfl hF ?_
  refine c_seq ?_
  refine za0 ?_
  refine o_q rfl rfl (q_asg rfl) ?_
  refine o_end ?_
  refine za1 ?_
  refine c_seq ?_
  refine c_seq ?_
  refine za0 ?_
  refine o_q rfl rfl (za2 rfl) ?_
  refine o_q rfl rfl (q_len Try.underlying24 rfl) ?_
  refine o_q rfl rfl (za2 rfl) ?_
  refine o_q rfl rfl (q_len Try.underlying24 rfl) ?_
  refine o_q rfl rfl (q_neq rfl rfl) ?_
  refine o_end ?_
  refine za1 ?_
  refine zau _ rfl (fun hb1 => ?_) (fun hb1 => ?_)
  · skip
    replace h := br_t hb1 h
    refine c_seq ?_
    refine za0 ?_
    refine o_q rfl rfl (q_asg rfl) ?_
    refine o_end ?_
    refine za1 ?_
    refine c_ret ?_
    refine zab ?_
    have e0_ := Option.some.inj h; clear h
    subst e0_
    exact x_r1 () Try.results99 (zai rfl) rfl (fun w h => za7 [] (by decide) rfl w h)
  · skip
    replace h := br_f hb1 h
    refine zan ?_
    refine za1 ?_
    refine c_seq ?_
    refine c_seq ?_
    refine za0 ?_
    refine o_q rfl rfl (za2 rfl) ?_
    refine o_q rfl rfl (q_len Try.underlying24 rfl) ?_
    refine o_q rfl rfl (za2 rfl) ?_
    refine o_end ?_
    refine za1 ?_
    refine zaj ?_
    refine za8 h (fun o10 hl9 hR8 => ?_) rfl
    clear h
    refine c_fact (p := l0.length ≤ 9223372036854775807) (fun w h => (R0.now Z h).2.1) (fun hm7 => ?_)
    refine c_loopL (σ := (List SStep) × Int) (fun k5 ((ys4, i2) : (List SStep) × Int) => Rg l0 i2 ys4 ∧ ys4.length = k5 ∧ laws_pSameSteps.l0 l1 ys4 i2 = some o10) [4, 5, 13, 14, 15, 16, 17, 18, 19, 20, 21, 22, 23, 24, 25] (fun ((ys4, i2) : (List SStep) × Int) => [(13, .int .i64 i2)]) (fun ((ys4, i2) : (List SStep) × Int) => []) l0.length (l0, 0) ⟨Rg.start _, rfl, hl9⟩ ⟨rfl, trivial⟩ (fun w h => h) ?_
    refine fun k5 => cur2 (listC (fun i2 U11 hJ_ => ?_) (fun y3 ys4 i2 U11 hJ_ => ?_))
    · skip
      clear hl9
      have hr6 := hJ_.1; have hk12 := hJ_.2.1; have h := hJ_.2.2; clear hJ_
      replace h : laws_pSameSteps.l0 l1 [] i2 = some o10 := h
      rw [laws_pSameSteps.l0] at h
      refine c_seq ?_
      refine za0 ?_
      refine o_q rfl rfl (q_lss rfl rfl) ?_
      refine o_end ?_
      refine za1 ?_
      refine c_seq ?_
      refine c_false (congrArg Value.bool hr6.ge) ?_
      refine c_exit ?_
      refine za9 ?_
      refine za9 ?_
      have e_ := Option.some.inj h; replace h := hR8; rw [← e_] at h; clear e_
      refine x_hit ?_
      refine za1 ?_
      refine c_seq ?_
      refine za0 ?_
      refine o_q rfl rfl (q_asg rfl) ?_
      refine o_end ?_
      refine za1 ?_
      refine c_ret ?_
      have e0_ := Option.some.inj h; clear h
      subst e0_
      exact x_r1 () Try.results99 (zai rfl) rfl (fun w h => za7 [] (by decide) rfl w h)
    · skip
      clear hl9
      have hr6 := hJ_.1; have hk12 := hJ_.2.1; have h := hJ_.2.2; clear hJ_
      replace h : laws_pSameSteps.l0 l1 (y3 :: ys4) i2 = some o10 := h
      rw [laws_pSameSteps.l0] at h
      refine c_seq ?_
      refine za0 ?_
      refine o_q rfl rfl (q_lss rfl rfl) ?_
      refine o_end ?_
      refine za1 ?_
      refine c_seq ?_
      refine c_true (congrArg Value.bool hr6.lt) ?_
      refine zan ?_
      refine za1 ?_
      refine c_seq ?_
      refine zaj ?_
      refine c_seq ?_
      refine za0 ?_
      refine o_q rfl rfl (za2 rfl) ?_
      refine o_q rfl rfl (q_asg rfl) ?_
      refine o_end ?_
      refine za1 ?_
      refine c_seq ?_
      refine a_start (ds := []) MO rfl ?_
      refine za6 0 rfl rfl rfl (by kernel_rfl) (fun _ _ _ h => h) (za2 rfl) ?_
      refine za6 1 rfl rfl rfl (by kernel_rfl) (fun _ _ _ h => h) (za2 rfl) ?_
      refine a_fact (p := Sh A0 l0.length l0.length) (fun w h => f_sh (dk := kStep) h (fun w h => R0.now Z h)) (fun hq13 => ?_)
      refine za6 2 rfl rfl rfl (by kernel_rfl) (fun _ _ _ h => h) (q_ix Try.underlying24 Z89 rfl rfl hq13 hr6.get) ?_
      refine zax 3 rfl rfl rfl (by kernel_rfl) (fun _ _ _ h => h) (fun w h => h) (q_ldE G89 Z89 rfl rfl (fun w h => R0.now Z h) hr6.get (fun _ _ h => h) rfl) ?_
      refine za6 4 rfl rfl rfl (by kernel_rfl) (fun _ _ _ h => h) (za2 rfl) ?_
      refine za6 5 rfl rfl rfl (by kernel_rfl) (fun _ _ _ h => h) (za2 rfl) ?_
      refine a_fact (p := Sh A1 l1.length l1.length) (fun w h => f_sh (dk := kStep) h (fun w h => R1.now Z h)) (fun hq14 => ?_)
      refine za8 h (fun y16 hg15 h => ?_) rfl
      refine za6 6 rfl rfl rfl (by kernel_rfl) (fun _ _ _ h => h) (q_ix Try.underlying24 Z89 rfl rfl hq14 hg15) ?_
      refine zax 7 rfl rfl rfl (by kernel_rfl) (fun _ _ _ h => h) (fun w h => h) (q_ldE G89 Z89 rfl rfl (fun w h => R1.now Z h) hg15 (fun _ _ h => h) rfl) ?_
      refine za6 8 rfl rfl rfl (by kernel_rfl) (fun _ _ _ h => h) (q_aneq E89 O89 P89 (Q89 y3.f0 y3.f1 y16.f0 y16.f1) rfl rfl) ?_
      refine zav (by kernel_rfl) ?_
      refine za1 ?_
      refine zau _ rfl (fun hb17 => ?_) (fun hb17 => ?_)
      · replace hb17 := nt_t hb17
        replace h := bb_f hb17 h
        refine c_seq ?_
        refine za0 ?_
        refine o_q rfl rfl (q_asg rfl) ?_
        refine o_end ?_
        refine za1 ?_
        refine c_ret ?_
        refine zar ?_
        refine zab ?_
        refine zab ?_
        have e_ := Option.some.inj h; replace h := hR8; rw [← e_] at h; clear e_
        refine zar ?_
        refine zab ?_
        have e0_ := Option.some.inj h; clear h
        subst e0_
        exact x_r1 () Try.results99 (zai rfl) rfl (fun w h => za7 [] (by decide) rfl w h)
      · replace hb17 := nt_f hb17
        replace h := bb_t hb17 h
        refine zan ?_
        refine zam ?_
        refine za1 ?_
        refine za0 ?_
        refine o_q rfl rfl (q_up rfl rfl (hr6.up hm7)) ?_
        refine o_q rfl rfl (za2 rfl) ?_
        refine o_end ?_
        refine zal ys4.length (ys4, i2 + 1) (by rw [← hk12]; exact Nat.lt_succ_self _) ⟨hr6.step, rfl, h⟩ ⟨rfl, trivial⟩ (fun w h => za7 [] (by decide) rfl w h) ?_
        repeat (first | exact zad _ _ | refine zaf rfl ?_ | refine zae rfl ?_ | refine zah rfl ?_)

/-! ### loop.example/g01098/laws.pSameInts: function 21 -/
def laws_pSameInts.l0 (l1 : List Int) : (List Int) → Int → Option ((Bool) ⊕ (Unit))
  | [], i2 => some (.inr ())
  | y3 :: ys4, i2 => (gt l1 i2).bind fun y16 => if y3 ≠ y16 then (some (.inl false)) else (laws_pSameInts.l0 l1 ys4 (i2 + 1))
def laws_pSameInts.f (l0 : List Int) (l1 : List Int) : Option Bool := if (l0.length : Int) ≠ (l1.length : Int) then (some false) else ((laws_pSameInts.l0 l1 l0 0).bind fun o_ => match o_ with | .inl r_ => some r_ | .inr _ => some true)
set_option maxHeartbeats 600000 in
set_option maxRecDepth 100000 in
theorem laws_pSameInts.calls {w0 ws : World} {P0 : Nat → Prop} (A0 : Option Addr) (c0 : Nat) (n0 : Nat) (l0 : List Int) (A1 : Option Addr) (c1 : Nat) (n1 : Nat) (l1 : List Int) (Z : Below w0.heap.size w0 ws) (hF : Fr w0 ws P0 [] ws) (R0 : Stable ws P0 (fun w => Kd.C (Kd.int .i64) w A0 n0 l0)) (hc0 : n0 ≤ c0) (R1 : Stable ws P0 (fun w => Kd.C (Kd.int .i64) w A1 n1 l1)) (hc1 : n1 ≤ c1) (r_1 : Bool) (h : laws_pSameInts.f l0 l1 = some r_1) :
    Calls Try.prog 21 #[.slice A0 n0 c0, .slice A1 n1 c1] ws (Post1 w0 ws P0 (fun (_ : Unit) => .bool r_1) (fun (_ : Unit) => [])) := by
  unfold laws_pSameInts.f at h
  obtain rfl := (R0 ws (KeptB.refl _ _)).1
  obtain rfl := (R1 ws (KeptB.refl _ _)).1
  refine enter Try.func21 rfl Try.ntmps21 rfl hF ?_
  refine c_seq ?_
  refine za0 ?_
  refine o_q rfl rfl (q_asg rfl) ?_
  refine o_end ?_
  refine za1 ?_
  refine c_seq ?_
  refine c_seq ?_
  refine za0 ?_
  refine o_q rfl rfl (za2 rfl) ?_
  refine o_q rfl rfl (q_len Try.underlying25 rfl) ?_
  refine o_q rfl rfl (za2 rfl) ?_
  refine o_q rfl rfl (q_len Try.underlying25 rfl) ?_
  refine o_q rfl rfl (q_neq rfl rfl) ?_
  refine o_end ?_
  refine za1 ?_
  refine zau _ rfl (fun hb1 => ?_) (fun hb1 => ?_)
  · skip
    replace h := br_t hb1 h
    refine c_seq ?_
    refine za0 ?_
    refine o_q rfl rfl (q_asg rfl) ?_
    refine o_end ?_
    refine za1 ?_
    refine c_ret ?_
    refine zab ?_
    have e0_ := Option.some.inj h; clear h
    subst e0_
    exact x_r1 () Try.results21 (zai rfl) rfl (fun w h => za7 [] (by decide) rfl w h)
  · skip
    replace h := br_f hb1 h
    refine zan ?_
    refine za1 ?_
    refine c_seq ?_
    refine c_seq ?_
    refine za0 ?_
    refine o_q rfl rfl (za2 rfl) ?_
    refine o_q rfl rfl (q_len Try.underlying25 rfl) ?_
    refine o_q rfl rfl (za2 rfl) ?_
    refine o_end ?_
    refine za1 ?_
    refine zaj ?_
    refine za8 h (fun o10 hl9 hR8 => ?_) rfl
    clear h
    refine c_fact (p := l0.length ≤ 9223372036854775807) (fun w h => (R0.now Z h).2.1) (fun hm7 => ?_)
    refine c_loopL (σ := (List Int) × Int) (fun k5 ((ys4, i2) : (List Int) × Int) => Rg l0 i2 ys4 ∧ ys4.length = k5 ∧ laws_pSameInts.l0 l1 ys4 i2 = some o10) [4, 5, 13, 14, 15, 16, 17, 18, 19, 20, 21, 22, 23, 24, 25] (fun ((ys4, i2) : (List Int) × Int) => [(13, .int .i64 i2)]) (fun ((ys4, i2) : (List Int) × Int) => []) l0.length (l0, 0) ⟨Rg.start _, rfl, hl9⟩ ⟨rfl, trivial⟩ (fun w h => h) ?_
    refine fun k5 => cur2 (listC (fun i2 U11 hJ_ => ?_) (fun y3 ys4 i2 U11 hJ_ => ?_))
    · skip
      clear hl9
      have hr6 := hJ_.1; have hk12 := hJ_.2.1; have h := hJ_.2.2; clear hJ_
      replace h : laws_pSameInts.l0 l1 [] i2 = some o10 := h
      rw [laws_pSameInts.l0] at h
      refine c_seq ?_
      refine za0 ?_
      refine o_q rfl rfl (q_lss rfl rfl) ?_
      refine o_end ?_
      refine za1 ?_
      refine c_seq ?_
      refine c_false (congrArg Value.bool hr6.ge) ?_
      refine c_exit ?_
      refine za9 ?_
      refine za9 ?_
      have e_ := Option.some.inj h; replace h := hR8; rw [← e_] at h; clear e_
      refine x_hit ?_
      refine za1 ?_
      refine c_seq ?_
      refine za0 ?_
      refine o_q rfl rfl (q_asg rfl) ?_
      refine o_end ?_
      refine za1 ?_
      refine c_ret ?_
      have e0_ := Option.some.inj h; clear h
      subst e0_
      exact x_r1 () Try.results21 (zai rfl) rfl (fun w h => za7 [] (by decide) rfl w h)
    · skip
      clear hl9
      have hr6 := hJ_.1; have hk12 := hJ_.2.1; have h := hJ_.2.2; clear hJ_
      replace h : laws_pSameInts.l0 l1 (y3 :: ys4) i2 = some o10 := h
      rw [laws_pSameInts.l0] at h
      refine c_seq ?_
      refine za0 ?_
      refine o_q rfl rfl (q_lss rfl rfl) ?_
      refine o_end ?_
      refine za1 ?_
      refine c_seq ?_
      refine c_true (congrArg Value.bool hr6.lt) ?_
      refine zan ?_
      refine za1 ?_
      refine c_seq ?_
      refine zaj ?_
      refine c_seq ?_
      refine za0 ?_
      refine o_q rfl rfl (za2 rfl) ?_
      refine o_q rfl rfl (q_asg rfl) ?_
      refine o_end ?_
      refine za1 ?_
      refine c_seq ?_
      refine a_start (ds := []) MO rfl ?_
      refine za6 0 rfl rfl rfl (by kernel_rfl) (fun _ _ _ h => h) (za2 rfl) ?_
      refine za6 1 rfl rfl rfl (by kernel_rfl) (fun _ _ _ h => h) (za2 rfl) ?_
      refine a_fact (p := Sh A0 l0.length l0.length) (fun w h => f_sh (dk := (Kd.int .i64)) h (fun w h => R0.now Z h)) (fun hq13 => ?_)
      refine za6 2 rfl rfl rfl (by kernel_rfl) (fun _ _ _ h => h) (q_ix Try.underlying25 Z3 rfl rfl hq13 hr6.get) ?_
      refine zax 3 rfl rfl rfl (by kernel_rfl) (fun _ _ _ h => h) (fun w h => h) (q_lde (off := 0) Y3 rfl rfl (fun w h => R0.now Z h) hr6.get (fun _ _ h => h) rfl) ?_
      refine za6 4 rfl rfl rfl (by kernel_rfl) (fun _ _ _ h => h) (za2 rfl) ?_
      refine za6 5 rfl rfl rfl (by kernel_rfl) (fun _ _ _ h => h) (za2 rfl) ?_
      refine a_fact (p := Sh A1 l1.length l1.length) (fun w h => f_sh (dk := (Kd.int .i64)) h (fun w h => R1.now Z h)) (fun hq14 => ?_)
      refine za8 h (fun y16 hg15 h => ?_) rfl
      refine za6 6 rfl rfl rfl (by kernel_rfl) (fun _ _ _ h => h) (q_ix Try.underlying25 Z3 rfl rfl hq14 hg15) ?_
      refine zax 7 rfl rfl rfl (by kernel_rfl) (fun _ _ _ h => h) (fun w h => h) (q_lde (off := 0) Y3 rfl rfl (fun w h => R1.now Z h) hg15 (fun _ _ h => h) rfl) ?_
      refine za6 8 rfl rfl rfl (by kernel_rfl) (fun _ _ _ h => h) (q_neq rfl rfl) ?_
      refine zav (by kernel_rfl) ?_
      refine za1 ?_
      refine zau _ rfl (fun hb17 => ?_) (fun hb17 => ?_)
      · skip
        replace h := br_t hb17 h
        refine c_seq ?_
        refine za0 ?_
        refine o_q rfl rfl (q_asg rfl) ?_
        refine o_end ?_
        refine za1 ?_
        refine c_ret ?_
        refine zar ?_
        refine zab ?_
        refine zab ?_
        have e_ := Option.some.inj h; replace h := hR8; rw [← e_] at h; clear e_
        refine zar ?_
        refine zab ?_
        have e0_ := Option.some.inj h; clear h
        subst e0_
        exact x_r1 () Try.results21 (zai rfl) rfl (fun w h => za7 [] (by decide) rfl w h)
      · skip
        replace h := br_f hb17 h
        refine zan ?_
        refine zam ?_
        refine za1 ?_
        refine za0 ?_
        refine o_q rfl rfl (q_up rfl rfl (hr6.up hm7)) ?_
        refine o_q rfl rfl (za2 rfl) ?_
        refine o_end ?_
        refine zal ys4.length (ys4, i2 + 1) (by rw [← hk12]; exact Nat.lt_succ_self _) ⟨hr6.step, rfl, h⟩ ⟨rfl, trivial⟩ (fun w h => za7 [] (by decide) rfl w h) ?_
        repeat (first | exact zad _ _ | refine zaf rfl ?_ | refine zae rfl ?_ | refine zah rfl ?_)

/-! ### loop.example/g01098/laws.pSamePlan: function 17 -/
def laws_pSamePlan.f (a0_0 : Int) (l0_1 : List SStep) (l0_2 : List Int) (a1_0 : Int) (l1_1 : List SStep) (l1_2 : List Int) : Option Bool := if a0_0 = a1_0 then ((laws_pSameSteps.f l0_1 l1_1).bind fun b7 => if b7 = true then ((laws_pSameInts.f l0_2 l1_2).bind fun b10 => some b10) else (some false)) else (some false)
set_option maxHeartbeats 600000 in
set_option maxRecDepth 100000 in
theorem laws_pSamePlan.calls {w0 ws : World} {P0 : Nat → Prop} (a0_0 : Int) (A0_1 : Option Addr) (c0_1 : Nat) (n0_1 : Nat) (l0_1 : List SStep) (A0_2 : Option Addr) (c0_2 : Nat) (n0_2 : Nat) (l0_2 : List Int) (a1_0 : Int) (A1_1 : Option Addr) (c1_1 : Nat) (n1_1 : Nat) (l1_1 : List SStep) (A1_2 : Option Addr) (c1_2 : Nat) (n1_2 : Nat) (l1_2 : List Int) (Z : Below w0.heap.size w0 ws) (hF : Fr w0 ws P0 [] ws) (R0_1 : Stable ws P0 (fun w => Kd.C kStep w A0_1 n0_1 l0_1)) (hc0_1 : n0_1 ≤ c0_1) (R0_2 : Stable ws P0 (fun w => Kd.C (Kd.int .i64) w A0_2 n0_2 l0_2)) (hc0_2 : n0_2 ≤ c0_2) (R1_1 : Stable ws P0 (fun w => Kd.C kStep w A1_1 n1_1 l1_1)) (hc1_1 : n1_1 ≤ c1_1) (R1_2 : Stable ws P0 (fun w => Kd.C (Kd.int .i64) w A1_2 n1_2 l1_2)) (hc1_2 : n1_2 ≤ c1_2) (r_1 : Bool) (h : laws_pSamePlan.f a0_0 l0_1 l0_2 a1_0 l1_1 l1_2 = some r_1) :
    Calls Try.prog 17 #[.agg #[.int .i64 a0_0, .slice A0_1 n0_1 c0_1, .slice A0_2 n0_2 c0_2], .agg #[.int .i64 a1_0, .slice A1_1 n1_1 c1_1, .slice A1_2 n1_2 c1_2]] ws (Post1 w0 ws P0 (fun (_ : Unit) => .bool r_1) (fun (_ : Unit) => [])) := by
  unfold laws_pSamePlan.f at h
  obtain rfl := (R0_1 ws (KeptB.refl _ _)).1
  obtain rfl := (R0_2 ws (KeptB.refl _ _)).1
  obtain rfl := (R1_1 ws (KeptB.refl _ _)).1
  obtain rfl := (R1_2 ws (KeptB.refl _ _)).1
  refine enter Try.func17 rfl Try.ntmps17 rfl hF ?_
  refine c_seq ?_
  refine za0 ?_
  refine o_e rfl (e_box rfl) (fun g1 => ?_)
  refine o_e rfl (e_box rfl) (fun g3 => ?_)
  refine o_q rfl rfl (q_asg rfl) ?_
  refine o_end ?_
  refine za1 ?_
  refine c_seq ?_
  refine za0 ?_
  refine o_q rfl rfl (q_f F27_0 rfl) ?_
  refine o_q rfl rfl (q_ldb Y3 rfl (fun w h => h.zaa (i := 1) rfl) rfl) ?_
  refine o_q rfl rfl (q_f F27_0 rfl) ?_
  refine o_q rfl rfl (q_ldb Y3 rfl (fun w h => h.zaa (i := 0) rfl) rfl) ?_
  refine o_q rfl rfl (q_eql rfl rfl) ?_
  refine o_q rfl rfl (za2 rfl) ?_
  refine byB (decide (a0_0 = a1_0)) (fun hb5 => ?_) (fun hb5 => ?_)
  · replace h := br_t hb5 h
    refine o_w (za4 rfl rfl rfl (congrArg Value.bool hb5)) rfl (q_f F27_1 rfl) ?_
    refine o_w (za4 rfl rfl rfl (congrArg Value.bool hb5)) rfl (q_ldb Y24 rfl (fun w h => h.zaa (i := 1) rfl) rfl) ?_
    refine o_w (za4 rfl rfl rfl (congrArg Value.bool hb5)) rfl (q_f F27_1 rfl) ?_
    refine o_w (za4 rfl rfl rfl (congrArg Value.bool hb5)) rfl (q_ldb Y24 rfl (fun w h => h.zaa (i := 0) rfl) rfl) ?_
    refine za8 h (fun b7 hx6 h => ?_) rfl
    refine o_ew (za4 rfl rfl rfl (congrArg Value.bool hb5)) (zac 0 Z Try.func99 N99 rfl rfl rfl (fun w P1 hF hB hS hT => laws_pSameSteps.calls A0_1 c0_1 l0_1.length l0_1 A1_1 c1_1 l1_1.length l1_1 hB hF (hS _ R0_1) hc0_1 (hS _ R1_1) hc1_1 _ hx6)) (fun _ => ?_)
    refine o_q rfl rfl (zao true (congrArg Value.bool hb5) rfl) ?_
    refine o_q rfl rfl (za2 rfl) ?_
    refine byB b7 (fun hb8 => ?_) (fun hb8 => ?_)
    · replace h := bb_t hb8 h
      refine o_w (za4 rfl rfl rfl (congrArg Value.bool hb8)) rfl (q_f F27_2 rfl) ?_
      refine o_w (za4 rfl rfl rfl (congrArg Value.bool hb8)) rfl (q_ldb Y25 rfl (fun w h => h.zaa (i := 1) rfl) rfl) ?_
      refine o_w (za4 rfl rfl rfl (congrArg Value.bool hb8)) rfl (q_f F27_2 rfl) ?_
      refine o_w (za4 rfl rfl rfl (congrArg Value.bool hb8)) rfl (q_ldb Y25 rfl (fun w h => h.zaa (i := 0) rfl) rfl) ?_
      refine za8 h (fun b10 hx9 h => ?_) rfl
      refine o_ew (za4 rfl rfl rfl (congrArg Value.bool hb8)) (zac 0 Z Try.func21 N21 rfl rfl rfl (fun w P1 hF hB hS hT => laws_pSameInts.calls A0_2 c0_2 l0_2.length l0_2 A1_2 c1_2 l1_2.length l1_2 hB hF (hS _ R0_2) hc0_2 (hS _ R1_2) hc1_2 _ hx9)) (fun _ => ?_)
      refine o_q rfl rfl (zao true (congrArg Value.bool hb8) rfl) ?_
      refine o_q rfl rfl (q_asg rfl) ?_
      refine o_end ?_
      refine za1 ?_
      refine c_ret ?_
      have e0_ := Option.some.inj h; clear h
      subst e0_
      exact x_r1 () Try.results17 (zai rfl) rfl (fun w h => za7 [] (by decide) rfl w h)
    · replace h := bb_f hb8 h
      refine @o_n _ _ _ _ _ _ _ _ _ _ _ 18 (za3 rfl rfl rfl (congrArg Value.bool hb8) rfl) (Eq.refl (some 18)) ?_
      refine @o_n _ _ _ _ _ _ _ _ _ _ _ 19 (za3 rfl rfl rfl (congrArg Value.bool hb8) rfl) (Eq.refl (some 19)) ?_
      refine @o_n _ _ _ _ _ _ _ _ _ _ _ 20 (za3 rfl rfl rfl (congrArg Value.bool hb8) rfl) (Eq.refl (some 20)) ?_
      refine @o_n _ _ _ _ _ _ _ _ _ _ _ 21 (za3 rfl rfl rfl (congrArg Value.bool hb8) rfl) (Eq.refl (some 21)) ?_
      refine @o_n _ _ _ _ _ _ _ _ _ _ _ 22 (za3 rfl rfl rfl (congrArg Value.bool hb8) rfl) (Eq.refl (some 22)) ?_
      refine o_q rfl rfl (zao false (congrArg Value.bool hb8) rfl) ?_
      refine o_q rfl rfl (q_asg rfl) ?_
      refine o_end ?_
      refine za1 ?_
      refine c_ret ?_
      have e0_ := Option.some.inj h; clear h
      subst e0_
      exact x_r1 () Try.results17 (zai rfl) rfl (fun w h => za7 [] (by decide) rfl w h)
  · replace h := br_f hb5 h
    refine @o_n _ _ _ _ _ _ _ _ _ _ _ 11 (za3 rfl rfl rfl (congrArg Value.bool hb5) rfl) (Eq.refl (some 11)) ?_
    refine @o_n _ _ _ _ _ _ _ _ _ _ _ 12 (za3 rfl rfl rfl (congrArg Value.bool hb5) rfl) (Eq.refl (some 12)) ?_
    refine @o_n _ _ _ _ _ _ _ _ _ _ _ 13 (za3 rfl rfl rfl (congrArg Value.bool hb5) rfl) (Eq.refl (some 13)) ?_
    refine @o_n _ _ _ _ _ _ _ _ _ _ _ 14 (za3 rfl rfl rfl (congrArg Value.bool hb5) rfl) (Eq.refl (some 14)) ?_
    refine @o_n _ _ _ _ _ _ _ _ _ _ _ 15 (za3 rfl rfl rfl (congrArg Value.bool hb5) rfl) (Eq.refl (some 15)) ?_
    refine o_q rfl rfl (zao false (congrArg Value.bool hb5) rfl) ?_
    refine o_q rfl rfl (za2 rfl) ?_
    refine @o_n _ _ _ _ _ _ _ _ _ _ _ 18 (za3 rfl rfl rfl rfl rfl) (Eq.refl (some 18)) ?_
    refine @o_n _ _ _ _ _ _ _ _ _ _ _ 19 (za3 rfl rfl rfl rfl rfl) (Eq.refl (some 19)) ?_
    refine @o_n _ _ _ _ _ _ _ _ _ _ _ 20 (za3 rfl rfl rfl rfl rfl) (Eq.refl (some 20)) ?_
    refine @o_n _ _ _ _ _ _ _ _ _ _ _ 21 (za3 rfl rfl rfl rfl rfl) (Eq.refl (some 21)) ?_
    refine @o_n _ _ _ _ _ _ _ _ _ _ _ 22 (za3 rfl rfl rfl rfl rfl) (Eq.refl (some 22)) ?_
    refine o_q rfl rfl (zao false rfl rfl) ?_
    refine o_q rfl rfl (q_asg rfl) ?_
    refine o_end ?_
    refine za1 ?_
    refine c_ret ?_
    have e0_ := Option.some.inj h; clear h
    subst e0_
    exact x_r1 () Try.results17 (zai rfl) rfl (fun w h => za7 [] (by decide) rfl w h)

/-! ### loop.example/g01098/impl.LiveAt: function 18 -/
def impl_LiveAt.f (k : Nat) (a0_0 : Int) (l0_1 : List SStep) (l0_2 : List Int) (a1 : Int) : Option ((List Int) × Bool) := (impl_IsPlan.f k a0_0 l0_1 l0_2).bind fun b4 => if b4 = true then ((impl_in.f a1 0 (l0_1.length : Int)).bind fun b7 => if b7 = true then ((impl_Plan_liveAt.f a0_0 l0_1 l0_2 a1).bind fun l10 => some (l10, true)) else (some (([] : List Int), false))) else (some (([] : List Int), false))
set_option maxHeartbeats 600000 in
set_option maxRecDepth 100000 in
theorem impl_LiveAt.calls (k : Nat) {w0 ws : World} {P0 : Nat → Prop} (a0_0 : Int) (A0_1 : Option Addr) (c0_1 : Nat) (n0_1 : Nat) (l0_1 : List SStep) (A0_2 : Option Addr) (c0_2 : Nat) (n0_2 : Nat) (l0_2 : List Int) (a1 : Int) (Z : Below w0.heap.size w0 ws) (hF : Fr w0 ws P0 [] ws) (R0_1 : Stable ws P0 (fun w => Kd.C kStep w A0_1 n0_1 l0_1)) (hc0_1 : n0_1 ≤ c0_1) (R0_2 : Stable ws P0 (fun w => Kd.C (Kd.int .i64) w A0_2 n0_2 l0_2)) (hc0_2 : n0_2 ≤ c0_2) (r_1 : List Int) (r_4 : Bool) (h : impl_LiveAt.f k a0_0 l0_1 l0_2 a1 = some (r_1, r_4)) :
    Calls Try.prog 18 #[.agg #[.int .i64 a0_0, .slice A0_1 n0_1 c0_1, .slice A0_2 n0_2 c0_2], .int .i64 a1] ws (Post1 w0 ws P0 (fun ((q_2, q_3) : (Option Addr) × Nat) => .tuple #[.slice q_2 r_1.length q_3, .bool r_4]) (fun ((q_2, q_3) : (Option Addr) × Nat) => [row (Kd.int .i64) 3 (.slice q_2 r_1.length q_3) r_1])) := by
  unfold impl_LiveAt.f at h
  obtain rfl := (R0_1 ws (KeptB.refl _ _)).1
  obtain rfl := (R0_2 ws (KeptB.refl _ _)).1
  refine enter Try.func18 rfl Try.ntmps18 rfl hF ?_
  refine c_seq ?_
  refine za0 ?_
  refine o_e rfl (e_box rfl) (fun g1 => ?_)
  refine o_q rfl rfl (q_asg rfl) ?_
  refine o_q rfl rfl (q_asg rfl) ?_
  refine o_end ?_
  refine za1 ?_
  refine c_seq ?_
  refine c_seq ?_
  refine za0 ?_
  refine o_q rfl rfl (q_ldB G27 Z27 rfl (fun w h => h.zaa (i := 0) rfl) rfl) ?_
  refine za8 h (fun b4 hx3 h => ?_) rfl
  refine o_e rfl (zac 0 Z Try.func86 N86 rfl rfl rfl (fun w P1 hF hB hS hT => impl_IsPlan.calls k a0_0 A0_1 c0_1 l0_1.length l0_1 A0_2 c0_2 l0_2.length l0_2 hB hF (hS _ R0_1) hc0_1 (hS _ R0_2) hc0_2 _ hx3)) (fun _ => ?_)
  refine o_q rfl rfl (q_not rfl) ?_
  refine o_q rfl rfl (za2 rfl) ?_
  refine byB b4 (fun hb5 => ?_) (fun hb5 => ?_)
  · replace h := bb_t hb5 h
    refine o_w (za4 rfl rfl rfl (congrArg (fun b => Value.bool (!(b))) hb5)) rfl (za2 rfl) ?_
    refine o_w (za4 rfl rfl rfl (congrArg (fun b => Value.bool (!(b))) hb5)) rfl (q_f F27_1 rfl) ?_
    refine o_w (za4 rfl rfl rfl (congrArg (fun b => Value.bool (!(b))) hb5)) rfl (q_ldb Y24 rfl (fun w h => h.zaa (i := 0) rfl) rfl) ?_
    refine o_w (za4 rfl rfl rfl (congrArg (fun b => Value.bool (!(b))) hb5)) rfl (q_len Try.underlying24 rfl) ?_
    refine za8 h (fun b7 hx6 h => ?_) rfl
    refine o_ew (za4 rfl rfl rfl (congrArg (fun b => Value.bool (!(b))) hb5)) (zac 0 Z Try.func87 N87 rfl rfl rfl (fun w P1 hF hB hS hT => impl_in.calls a1 0 (l0_1.length : Int) hB hF _ hx6)) (fun _ => ?_)
    refine o_w (za4 rfl rfl rfl (congrArg (fun b => Value.bool (!(b))) hb5)) rfl (q_not rfl) ?_
    refine o_q rfl rfl (zao false (congrArg (fun b => Value.bool (!(b))) hb5) rfl) ?_
    refine o_end ?_
    refine za1 ?_
    refine zau _ rfl (fun hb8 => ?_) (fun hb8 => ?_)
    · replace hb8 := nt_t hb8
      replace h := bb_f hb8 h
      refine c_seq ?_
      refine za0 ?_
      refine o_q rfl rfl (q_asg rfl) ?_
      refine o_q rfl rfl (q_asg rfl) ?_
      refine o_end ?_
      refine za1 ?_
      refine c_ret ?_
      refine zab ?_
      refine x_nil (Kd.int .i64) 3 ?_
      have e0_ := Option.some.inj h; clear h
      have d0_ := (Prod.mk.inj e0_).1; have e1_ := (Prod.mk.inj e0_).2; clear e0_; subst d0_
      subst e1_
      exact x_r2 (none, 0) Try.results18 (zai rfl) (zai rfl) rfl (fun w h => za7 [0] (by decide) rfl w h)
    · replace hb8 := nt_f hb8
      replace h := bb_t hb8 h
      refine zan ?_
      refine za1 ?_
      refine c_seq ?_
      refine za0 ?_
      refine o_q rfl rfl (za2 rfl) ?_
      refine za8 h (fun l10 hx9 h => ?_) rfl
      refine o_e rfl (zac 0 Z Try.func88 N88 rfl rfl rfl (fun w P1 hF hB hS hT => impl_Plan_liveAt.calls g1 a0_0 A0_1 c0_1 l0_1.length l0_1 A0_2 c0_2 l0_2.length l0_2 a1 hB hF (hS _ R0_1) hc0_1 (hS _ R0_2) hc0_2 (hT 0 _ rfl).box _ hx9)) (cur2 (fun A11 c12 => ?_))
      refine o_q rfl rfl (q_asg rfl) ?_
      refine o_q rfl rfl (q_asg rfl) ?_
      refine o_end ?_
      refine za1 ?_
      refine c_ret ?_
      have e0_ := Option.some.inj h; clear h
      have d0_ := (Prod.mk.inj e0_).1; have e1_ := (Prod.mk.inj e0_).2; clear e0_; subst d0_
      subst e1_
      exact x_r2 (A11, c12) Try.results18 (zai rfl) (zai rfl) rfl (fun w h => za7 [0] (by decide) rfl w h)
  · replace h := bb_f hb5 h
    refine @o_n _ _ _ _ _ _ _ _ _ _ _ 10 (za3 rfl rfl rfl (congrArg (fun b => Value.bool (!(b))) hb5) rfl) (Eq.refl (some 10)) ?_
    refine @o_n _ _ _ _ _ _ _ _ _ _ _ 11 (za3 rfl rfl rfl (congrArg (fun b => Value.bool (!(b))) hb5) rfl) (Eq.refl (some 11)) ?_
    refine @o_n _ _ _ _ _ _ _ _ _ _ _ 12 (za3 rfl rfl rfl (congrArg (fun b => Value.bool (!(b))) hb5) rfl) (Eq.refl (some 12)) ?_
    refine @o_n _ _ _ _ _ _ _ _ _ _ _ 13 (za3 rfl rfl rfl (congrArg (fun b => Value.bool (!(b))) hb5) rfl) (Eq.refl (some 13)) ?_
    refine @o_n _ _ _ _ _ _ _ _ _ _ _ 14 (za3 rfl rfl rfl (congrArg (fun b => Value.bool (!(b))) hb5) rfl) (Eq.refl (some 14)) ?_
    refine @o_n _ _ _ _ _ _ _ _ _ _ _ 15 (za3 rfl rfl rfl (congrArg (fun b => Value.bool (!(b))) hb5) rfl) (Eq.refl (some 15)) ?_
    refine o_q rfl rfl (zao true (congrArg (fun b => Value.bool (!(b))) hb5) rfl) ?_
    refine o_end ?_
    refine za1 ?_
    refine c_true rfl ?_
    refine c_seq ?_
    refine za0 ?_
    refine o_q rfl rfl (q_asg rfl) ?_
    refine o_q rfl rfl (q_asg rfl) ?_
    refine o_end ?_
    refine za1 ?_
    refine c_ret ?_
    refine zab ?_
    refine x_nil (Kd.int .i64) 3 ?_
    have e0_ := Option.some.inj h; clear h
    have d0_ := (Prod.mk.inj e0_).1; have e1_ := (Prod.mk.inj e0_).2; clear e0_; subst d0_
    subst e1_
    exact x_r2 (none, 0) Try.results18 (zai rfl) (zai rfl) rfl (fun w h => za7 [0] (by decide) rfl w h)

/-! ### loop.example/g01098/impl.WidthOf: function 19 -/
def impl_WidthOf.l0 (a0_0 : Int) (l0_1 : List SStep) (l0_2 : List Int) : Nat → Int → Int → Option Int
  | 0, i6, i7 => some i7
  | k10 + 1, i6, i7 => (impl_Plan_liveAt.f a0_0 l0_1 l0_2 i6).bind fun l20 => impl_WidthOf.l0 a0_0 l0_1 l0_2 k10 (i6 + 1) (mx i7 (l20.length : Int))
def impl_WidthOf.f (k : Nat) (a0_0 : Int) (l0_1 : List SStep) (l0_2 : List Int) : Option (Int × Bool) := (impl_IsPlan.f k a0_0 l0_1 l0_2).bind fun b4 => if b4 = true then ((bd (w64 ((l0_1.length : Int) + 1))).bind fun _ => (impl_WidthOf.l0 a0_0 l0_1 l0_2 ((w64 ((l0_1.length : Int) + 1)).toNat) 0 0).bind fun i7 => some (i7, true)) else (some (0, false))
set_option maxHeartbeats 600000 in
set_option maxRecDepth 100000 in
theorem impl_WidthOf.calls (k : Nat) {w0 ws : World} {P0 : Nat → Prop} (a0_0 : Int) (A0_1 : Option Addr) (c0_1 : Nat) (n0_1 : Nat) (l0_1 : List SStep) (A0_2 : Option Addr) (c0_2 : Nat) (n0_2 : Nat) (l0_2 : List Int) (Z : Below w0.heap.size w0 ws) (hF : Fr w0 ws P0 [] ws) (R0_1 : Stable ws P0 (fun w => Kd.C kStep w A0_1 n0_1 l0_1)) (hc0_1 : n0_1 ≤ c0_1) (R0_2 : Stable ws P0 (fun w => Kd.C (Kd.int .i64) w A0_2 n0_2 l0_2)) (hc0_2 : n0_2 ≤ c0_2) (r_1 : Int) (r_2 : Bool) (h : impl_WidthOf.f k a0_0 l0_1 l0_2 = some (r_1, r_2)) :
    Calls Try.prog 19 #[.agg #[.int .i64 a0_0, .slice A0_1 n0_1 c0_1, .slice A0_2 n0_2 c0_2]] ws (Post1 w0 ws P0 (fun (_ : Unit) => .tuple #[.int .i64 r_1, .bool r_2]) (fun (_ : Unit) => [])) := by
  unfold impl_WidthOf.f at h
  obtain rfl := (R0_1 ws (KeptB.refl _ _)).1
  obtain rfl := (R0_2 ws (KeptB.refl _ _)).1
  refine enter Try.func19 rfl Try.ntmps19 rfl hF ?_
  refine c_seq ?_
  refine za0 ?_
  refine o_e rfl (e_box rfl) (fun g1 => ?_)
  refine o_q rfl rfl (q_asg rfl) ?_
  refine o_q rfl rfl (q_asg rfl) ?_
  refine o_end ?_
  refine za1 ?_
  refine c_seq ?_
  refine c_seq ?_
  refine za0 ?_
  refine o_q rfl rfl (q_ldB G27 Z27 rfl (fun w h => h.zaa (i := 0) rfl) rfl) ?_
  refine za8 h (fun b4 hx3 h => ?_) rfl
  refine o_e rfl (zac 0 Z Try.func86 N86 rfl rfl rfl (fun w P1 hF hB hS hT => impl_IsPlan.calls k a0_0 A0_1 c0_1 l0_1.length l0_1 A0_2 c0_2 l0_2.length l0_2 hB hF (hS _ R0_1) hc0_1 (hS _ R0_2) hc0_2 _ hx3)) (fun _ => ?_)
  refine o_q rfl rfl (q_not rfl) ?_
  refine o_end ?_
  refine za1 ?_
  refine zau _ rfl (fun hb5 => ?_) (fun hb5 => ?_)
  · replace hb5 := nt_t hb5
    replace h := bb_f hb5 h
    refine c_seq ?_
    refine za0 ?_
    refine o_q rfl rfl (q_asg rfl) ?_
    refine o_q rfl rfl (q_asg rfl) ?_
    refine o_end ?_
    refine za1 ?_
    refine c_ret ?_
    refine zab ?_
    have e0_ := Option.some.inj h; clear h
    have d0_ := (Prod.mk.inj e0_).1; have e1_ := (Prod.mk.inj e0_).2; clear e0_; subst d0_
    subst e1_
    exact x_r2 () Try.results19 (zai rfl) (zai rfl) rfl (fun w h => za7 [] (by decide) rfl w h)
  · replace hb5 := nt_f hb5
    replace h := bb_t hb5 h
    refine zan ?_
    refine za1 ?_
    refine c_seq ?_
    refine za0 ?_
    refine o_q rfl rfl (q_asg rfl) ?_
    refine o_end ?_
    refine za1 ?_
    refine c_seq ?_
    refine c_seq ?_
    refine za0 ?_
    refine o_q rfl rfl (q_f F27_1 rfl) ?_
    refine o_q rfl rfl (q_ldb Y24 rfl (fun w h => h.zaa (i := 0) rfl) rfl) ?_
    refine o_q rfl rfl (q_len Try.underlying24 rfl) ?_
    refine o_q rfl rfl (q_add64 rfl rfl) ?_
    refine o_q rfl rfl (za2 rfl) ?_
    refine o_end ?_
    refine za1 ?_
    refine zaj ?_
    refine za8 h (fun _ hbd16 h => ?_) rfl
    refine za8 h (fun o15 hl14 hR13 => ?_) rfl
    clear h
    have hm12 : w64 ((l0_1.length : Int) + 1) ≤ 9223372036854775807 := bd_le hbd16
    refine c_loopL (σ := Int × Int) (fun k10 ((i6, i7) : Int × Int) => Cn (w64 ((l0_1.length : Int) + 1)) i6 k10 ∧ impl_WidthOf.l0 a0_0 l0_1 l0_2 k10 i6 i7 = some o15) [4, 5, 13, 14, 15, 16, 17, 18, 19, 20, 21] (fun ((i6, i7) : Int × Int) => [(4, .int .i64 i7), (13, .int .i64 i6)]) (fun ((i6, i7) : Int × Int) => [box g1 27 #[.int .i64 a0_0, .slice A0_1 l0_1.length c0_1, .slice A0_2 l0_2.length c0_2]]) (w64 ((l0_1.length : Int) + 1)).toNat (0, 0) ⟨Cn.start hm12, hl14⟩ ⟨rfl, rfl, trivial⟩ (fun w h => h) ?_
    refine natC (cur2 (fun i6 i7 => fun U17 hJ_ => ?_)) (fun k10 => (cur2 (fun i6 i7 => fun U17 hJ_ => ?_)))
    · skip
      clear hl14
      have hr11 := hJ_.1; have h := hJ_.2; clear hJ_
      replace h : impl_WidthOf.l0 a0_0 l0_1 l0_2 0 i6 i7 = some o15 := h
      rw [impl_WidthOf.l0] at h
      refine c_seq ?_
      refine za0 ?_
      refine o_q rfl rfl (q_lss rfl rfl) ?_
      refine o_end ?_
      refine za1 ?_
      refine c_seq ?_
      refine c_false (congrArg Value.bool hr11.ge) ?_
      refine c_exit ?_
      refine za9 ?_
      refine za9 ?_
      have e_ := Option.some.inj h; replace h := hR13; rw [← e_] at h; clear e_
      refine x_hit ?_
      refine za1 ?_
      refine c_seq ?_
      refine za0 ?_
      refine o_q rfl rfl (za2 rfl) ?_
      refine o_q rfl rfl (q_asg rfl) ?_
      refine o_q rfl rfl (q_asg rfl) ?_
      refine o_end ?_
      refine za1 ?_
      refine c_ret ?_
      have e0_ := Option.some.inj h; clear h
      have d0_ := (Prod.mk.inj e0_).1; have e1_ := (Prod.mk.inj e0_).2; clear e0_; subst d0_
      subst e1_
      exact x_r2 () Try.results19 (zai rfl) (zai rfl) rfl (fun w h => za7 [] (by decide) rfl w h)
    · skip
      clear hl14
      have hr11 := hJ_.1; have h := hJ_.2; clear hJ_
      replace h : impl_WidthOf.l0 a0_0 l0_1 l0_2 (k10 + 1) i6 i7 = some o15 := h
      rw [impl_WidthOf.l0] at h
      refine c_seq ?_
      refine za0 ?_
      refine o_q rfl rfl (q_lss rfl rfl) ?_
      refine o_end ?_
      refine za1 ?_
      refine c_seq ?_
      refine c_true (congrArg Value.bool hr11.lt) ?_
      refine zan ?_
      refine za1 ?_
      refine c_seq ?_
      refine zaj ?_
      refine c_seq ?_
      refine za0 ?_
      refine o_q rfl rfl (za2 rfl) ?_
      refine o_q rfl rfl (q_asg rfl) ?_
      refine o_end ?_
      refine za1 ?_
      refine za0 ?_
      refine o_q rfl rfl (za2 rfl) ?_
      refine o_q rfl rfl (za2 rfl) ?_
      refine za8 h (fun l20 hx19 h => ?_) rfl
      refine o_e rfl (zac 0 Z Try.func88 N88 rfl rfl rfl (fun w P1 hF hB hS hT => impl_Plan_liveAt.calls g1 a0_0 A0_1 c0_1 l0_1.length l0_1 A0_2 c0_2 l0_2.length l0_2 i6 hB hF (hS _ R0_1) hc0_1 (hS _ R0_2) hc0_2 (hT 0 _ rfl).box _ hx19)) (cur2 (fun A21 c22 => ?_))
      refine o_q rfl rfl (q_len Try.underlying25 rfl) ?_
      refine o_q rfl rfl (q_max rfl rfl) ?_
      refine o_q rfl rfl (q_asg rfl) ?_
      refine o_end ?_
      refine zam ?_
      refine za1 ?_
      refine za0 ?_
      refine o_q rfl rfl (q_up rfl rfl hr11.up) ?_
      refine o_q rfl rfl (za2 rfl) ?_
      refine o_end ?_
      refine zal k10 (i6 + 1, mx i7 (l20.length : Int)) (Nat.lt_succ_self _) ⟨hr11.step, h⟩ ⟨rfl, rfl, trivial⟩ (fun w h => za7 [1] (by decide) rfl w h) ?_
      repeat (first | exact zad _ _ | refine zaf rfl ?_ | refine zae rfl ?_ | refine zah rfl ?_)

/-! ### loop.example/g01098/spec.LiveAt: function 20 -/
def spec_LiveAt.f (k : Nat) (a0_0 : Int) (l0_1 : List SStep) (l0_2 : List Int) (a1 : Int) : Option ((List Int) × Bool) := (spec_plGood.f k a0_0 l0_1 l0_2).bind fun b4 => if b4 = true then ((spec_l1In.f a1 0 (l0_1.length : Int)).bind fun b7 => if b7 = true then ((spec_duLive.f k a0_0 l0_1 l0_2 a1).bind fun l10 => some (l10, true)) else (some (([] : List Int), false))) else (some (([] : List Int), false))
set_option maxHeartbeats 600000 in
set_option maxRecDepth 100000 in
theorem spec_LiveAt.calls (k : Nat) {w0 ws : World} {P0 : Nat → Prop} (a0_0 : Int) (A0_1 : Option Addr) (c0_1 : Nat) (n0_1 : Nat) (l0_1 : List SStep) (A0_2 : Option Addr) (c0_2 : Nat) (n0_2 : Nat) (l0_2 : List Int) (a1 : Int) (Z : Below w0.heap.size w0 ws) (hF : Fr w0 ws P0 [] ws) (R0_1 : Stable ws P0 (fun w => Kd.C kStep w A0_1 n0_1 l0_1)) (hc0_1 : n0_1 ≤ c0_1) (R0_2 : Stable ws P0 (fun w => Kd.C (Kd.int .i64) w A0_2 n0_2 l0_2)) (hc0_2 : n0_2 ≤ c0_2) (r_1 : List Int) (r_4 : Bool) (h : spec_LiveAt.f k a0_0 l0_1 l0_2 a1 = some (r_1, r_4)) :
    Calls Try.prog 20 #[.agg #[.int .i64 a0_0, .slice A0_1 n0_1 c0_1, .slice A0_2 n0_2 c0_2], .int .i64 a1] ws (Post1 w0 ws P0 (fun ((q_2, q_3) : (Option Addr) × Nat) => .tuple #[.slice q_2 r_1.length q_3, .bool r_4]) (fun ((q_2, q_3) : (Option Addr) × Nat) => [row (Kd.int .i64) 3 (.slice q_2 r_1.length q_3) r_1])) := by
  unfold spec_LiveAt.f at h
  obtain rfl := (R0_1 ws (KeptB.refl _ _)).1
  obtain rfl := (R0_2 ws (KeptB.refl _ _)).1
  refine enter Try.func20 rfl Try.ntmps20 rfl hF ?_
  refine c_seq ?_
  refine za0 ?_
  refine o_e rfl (e_box rfl) (fun g1 => ?_)
  refine o_q rfl rfl (q_asg rfl) ?_
  refine o_q rfl rfl (q_asg rfl) ?_
  refine o_end ?_
  refine za1 ?_
  refine c_seq ?_
  refine c_seq ?_
  refine za0 ?_
  refine o_q rfl rfl (q_ldB G27 Z27 rfl (fun w h => h.zaa (i := 0) rfl) rfl) ?_
  refine za8 h (fun b4 hx3 h => ?_) rfl
  refine o_e rfl (zac 0 Z Try.func93 N93 rfl rfl rfl (fun w P1 hF hB hS hT => spec_plGood.calls k a0_0 A0_1 c0_1 l0_1.length l0_1 A0_2 c0_2 l0_2.length l0_2 hB hF (hS _ R0_1) hc0_1 (hS _ R0_2) hc0_2 _ hx3)) (fun _ => ?_)
  refine o_q rfl rfl (q_not rfl) ?_
  refine o_q rfl rfl (za2 rfl) ?_
  refine byB b4 (fun hb5 => ?_) (fun hb5 => ?_)
  · replace h := bb_t hb5 h
    refine o_w (za4 rfl rfl rfl (congrArg (fun b => Value.bool (!(b))) hb5)) rfl (za2 rfl) ?_
    refine o_w (za4 rfl rfl rfl (congrArg (fun b => Value.bool (!(b))) hb5)) rfl (q_f F27_1 rfl) ?_
    refine o_w (za4 rfl rfl rfl (congrArg (fun b => Value.bool (!(b))) hb5)) rfl (q_ldb Y24 rfl (fun w h => h.zaa (i := 0) rfl) rfl) ?_
    refine o_w (za4 rfl rfl rfl (congrArg (fun b => Value.bool (!(b))) hb5)) rfl (q_len Try.underlying24 rfl) ?_
    refine za8 h (fun b7 hx6 h => ?_) rfl
    refine o_ew (za4 rfl rfl rfl (congrArg (fun b => Value.bool (!(b))) hb5)) (zac 0 Z Try.func94 N94 rfl rfl rfl (fun w P1 hF hB hS hT => spec_l1In.calls a1 0 (l0_1.length : Int) hB hF _ hx6)) (fun _ => ?_)
    refine o_w (za4 rfl rfl rfl (congrArg (fun b => Value.bool (!(b))) hb5)) rfl (q_not rfl) ?_
    refine o_q rfl rfl (zao false (congrArg (fun b => Value.bool (!(b))) hb5) rfl) ?_
    refine o_end ?_
    refine za1 ?_
    refine zau _ rfl (fun hb8 => ?_) (fun hb8 => ?_)
    · replace hb8 := nt_t hb8
      replace h := bb_f hb8 h
      refine c_seq ?_
      refine za0 ?_
      refine o_q rfl rfl (q_asg rfl) ?_
      refine o_q rfl rfl (q_asg rfl) ?_
      refine o_end ?_
      refine za1 ?_
      refine c_ret ?_
      refine zab ?_
      refine x_nil (Kd.int .i64) 3 ?_
      have e0_ := Option.some.inj h; clear h
      have d0_ := (Prod.mk.inj e0_).1; have e1_ := (Prod.mk.inj e0_).2; clear e0_; subst d0_
      subst e1_
      exact x_r2 (none, 0) Try.results20 (zai rfl) (zai rfl) rfl (fun w h => za7 [0] (by decide) rfl w h)
    · replace hb8 := nt_f hb8
      replace h := bb_t hb8 h
      refine zan ?_
      refine za1 ?_
      refine c_seq ?_
      refine za0 ?_
      refine o_q rfl rfl (q_ldB G27 Z27 rfl (fun w h => h.zaa (i := 0) rfl) rfl) ?_
      refine o_q rfl rfl (za2 rfl) ?_
      refine za8 h (fun l10 hx9 h => ?_) rfl
      refine o_e rfl (zac 0 Z Try.func95 N95 rfl rfl rfl (fun w P1 hF hB hS hT => spec_duLive.calls k a0_0 A0_1 c0_1 l0_1.length l0_1 A0_2 c0_2 l0_2.length l0_2 a1 hB hF (hS _ R0_1) hc0_1 (hS _ R0_2) hc0_2 _ hx9)) (cur2 (fun A11 c12 => ?_))
      refine o_q rfl rfl (q_asg rfl) ?_
      refine o_q rfl rfl (q_asg rfl) ?_
      refine o_end ?_
      refine za1 ?_
      refine c_ret ?_
      have e0_ := Option.some.inj h; clear h
      have d0_ := (Prod.mk.inj e0_).1; have e1_ := (Prod.mk.inj e0_).2; clear e0_; subst d0_
      subst e1_
      exact x_r2 (A11, c12) Try.results20 (zai rfl) (zai rfl) rfl (fun w h => za7 [0] (by decide) rfl w h)
  · replace h := bb_f hb5 h
    refine @o_n _ _ _ _ _ _ _ _ _ _ _ 10 (za3 rfl rfl rfl (congrArg (fun b => Value.bool (!(b))) hb5) rfl) (Eq.refl (some 10)) ?_
    refine @o_n _ _ _ _ _ _ _ _ _ _ _ 11 (za3 rfl rfl rfl (congrArg (fun b => Value.bool (!(b))) hb5) rfl) (Eq.refl (some 11)) ?_
    refine @o_n _ _ _ _ _ _ _ _ _ _ _ 12 (za3 rfl rfl rfl (congrArg (fun b => Value.bool (!(b))) hb5) rfl) (Eq.refl (some 12)) ?_
    refine @o_n _ _ _ _ _ _ _ _ _ _ _ 13 (za3 rfl rfl rfl (congrArg (fun b => Value.bool (!(b))) hb5) rfl) (Eq.refl (some 13)) ?_
    refine @o_n _ _ _ _ _ _ _ _ _ _ _ 14 (za3 rfl rfl rfl (congrArg (fun b => Value.bool (!(b))) hb5) rfl) (Eq.refl (some 14)) ?_
    refine @o_n _ _ _ _ _ _ _ _ _ _ _ 15 (za3 rfl rfl rfl (congrArg (fun b => Value.bool (!(b))) hb5) rfl) (Eq.refl (some 15)) ?_
    refine o_q rfl rfl (zao true (congrArg (fun b => Value.bool (!(b))) hb5) rfl) ?_
    refine o_end ?_
    refine za1 ?_
    refine c_true rfl ?_
    refine c_seq ?_
    refine za0 ?_
    refine o_q rfl rfl (q_asg rfl) ?_
    refine o_q rfl rfl (q_asg rfl) ?_
    refine o_end ?_
    refine za1 ?_
    refine c_ret ?_
    refine zab ?_
    refine x_nil (Kd.int .i64) 3 ?_
    have e0_ := Option.some.inj h; clear h
    have d0_ := (Prod.mk.inj e0_).1; have e1_ := (Prod.mk.inj e0_).2; clear e0_; subst d0_
    subst e1_
    exact x_r2 (none, 0) Try.results20 (zai rfl) (zai rfl) rfl (fun w h => za7 [0] (by decide) rfl w h)

/-! ### slices.Clone[[]int,int]: function 141 -/
def slices_Clone_int_int.f (l0 : List Int) : Option (List Int) := (ap ([] : List Int) l0).bind fun l5 => some l5
set_option maxHeartbeats 600000 in
set_option maxRecDepth 100000 in
theorem slices_Clone_int_int.calls {w0 ws : World} {P0 : Nat → Prop} (A0 : Option Addr) (c0 : Nat) (n0 : Nat) (l0 : List Int) (Z : Below w0.heap.size w0 ws) (hF : Fr w0 ws P0 [] ws) (R0 : Stable ws P0 (fun w => Kd.C (Kd.int .i64) w A0 n0 l0)) (hc0 : n0 ≤ c0) (r_1 : List Int) (h : slices_Clone_int_int.f l0 = some r_1) :
    Calls Try.prog 141 #[.slice A0 n0 c0] ws (Post1 w0 ws P0 (fun ((q_2, q_3) : (Option Addr) × Nat) => .slice q_2 r_1.length q_3) (fun ((q_2, q_3) : (Option Addr) × Nat) => [row (Kd.int .i64) 3 (.slice q_2 r_1.length q_3) r_1])) := by
  unfold slices_Clone_int_int.f at h
  obtain rfl := (R0 ws (KeptB.refl _ _)).1
  refine enter Try.func141 rfl Try.ntmps141 rfl hF ?_
  refine c_seq ?_
  refine za0 ?_
  refine o_q rfl rfl (q_asg rfl) ?_
  refine o_end ?_
  refine za1 ?_
  refine c_seq ?_
  refine c_seq ?_
  refine za0 ?_
  refine o_q rfl rfl (za2 rfl) ?_
  refine o_q rfl rfl (q_snil Try.underlying25 rfl rfl) ?_
  refine o_end ?_
  refine za1 ?_
  refine zau _ rfl (fun hb1 => ?_) (fun hb1 => ?_)
  · skip
    have hl_ := nil_of hb1 (R0 ws (KeptB.refl _ _)); subst hl_
    replace h : some ([] : List Int) = some r_1 := h
    refine c_seq ?_
    refine za0 ?_
    refine o_q rfl rfl (q_asg rfl) ?_
    refine o_end ?_
    refine za1 ?_
    refine c_ret ?_
    refine zab ?_
    refine x_nil (Kd.int .i64) 3 ?_
    have e0_ := Option.some.inj h; clear h
    subst e0_
    exact x_r1 (none, 0) Try.results141 (zai rfl) rfl (fun w h => za7 [0] (by decide) rfl w h)
  · skip
    refine zan ?_
    refine za1 ?_
    refine c_seq ?_
    refine za0 ?_
    refine o_e rfl (e_lit0 (Kd.int .i64) Try.underlying25 I3) (cur2 (fun A2 c3 => ?_))
    refine o_q rfl rfl (za2 rfl) ?_
    refine za8 h (fun l5 ha6 h => ?_) rfl
    refine o_e rfl (e_appr (i := 0) Try.underlying25 I3 rfl (by decide) (by decide) (fun _ _ _ _ h => h) rfl (fun w h => R0.now Z h) rfl rfl ha6) (cur2 (fun A7 c8 => ?_))
    refine o_q rfl rfl (q_asg rfl) ?_
    refine o_end ?_
    refine za1 ?_
    refine c_ret ?_
    have e0_ := Option.some.inj h; clear h
    subst e0_
    exact x_r1 (A7, c8) Try.results141 (zai rfl) rfl (fun w h => za7 [0] (by decide) rfl w h)

/-! ### loop.example/g01098/impl.clonePlan: function 100 -/
def impl_clonePlan.f (a0_0 : Int) (l0_1 : List SStep) (l0_2 : List Int) : Option ((List SStep) × (List Int)) := (slices_Clone_impl_Step_impl_Step.f l0_1).bind fun l6 => (slices_Clone_int_int.f l0_2).bind fun l10 => some (l6, l10)
set_option maxHeartbeats 600000 in
set_option maxRecDepth 100000 in
theorem impl_clonePlan.calls {w0 ws : World} {P0 : Nat → Prop} (a0_0 : Int) (A0_1 : Option Addr) (c0_1 : Nat) (n0_1 : Nat) (l0_1 : List SStep) (A0_2 : Option Addr) (c0_2 : Nat) (n0_2 : Nat) (l0_2 : List Int) (Z : Below w0.heap.size w0 ws) (hF : Fr w0 ws P0 [] ws) (R0_1 : Stable ws P0 (fun w => Kd.C kStep w A0_1 n0_1 l0_1)) (hc0_1 : n0_1 ≤ c0_1) (R0_2 : Stable ws P0 (fun w => Kd.C (Kd.int .i64) w A0_2 n0_2 l0_2)) (hc0_2 : n0_2 ≤ c0_2) (r_1 : List SStep) (r_4 : List Int) (h : impl_clonePlan.f a0_0 l0_1 l0_2 = some (r_1, r_4)) :
    Calls Try.prog 100 #[.agg #[.int .i64 a0_0, .slice A0_1 n0_1 c0_1, .slice A0_2 n0_2 c0_2]] ws (Post1 w0 ws P0 (fun ((q_2, q_3, q_5, q_6) : (Option Addr) × Nat × (Option Addr) × Nat) => .agg #[.int .i64 a0_0, .slice q_2 r_1.length q_3, .slice q_5 r_4.length q_6]) (fun ((q_2, q_3, q_5, q_6) : (Option Addr) × Nat × (Option Addr) × Nat) => [row kStep 89 (.slice q_2 r_1.length q_3) r_1, row (Kd.int .i64) 3 (.slice q_5 r_4.length q_6) r_4])) := by
  unfold impl_clonePlan.f at h
  obtain rfl := (R0_1 ws (KeptB.refl _ _)).1
  obtain rfl := (R0_2 ws (KeptB.refl _ _)).1
  refine enter Try.func100 rfl Try.ntmps100 rfl hF ?_
  refine c_seq ?_
  refine za0 ?_
  refine o_e rfl (e_box rfl) (fun g1 => ?_)
  refine o_e rfl (zaw V27 rfl) (fun g3 => ?_)
  refine o_end ?_
  refine za1 ?_
  refine c_seq ?_
  refine a_startS (ds := []) [none, some 1] MO rfl ?_
  refine za6 0 rfl rfl rfl (by kernel_rfl) (fun _ _ _ h => h) (q_f F27_0 rfl) ?_
  refine zax 1 rfl rfl rfl (by kernel_rfl) (fun _ _ _ h => h) (fun w h => za5 [none, some 1] (by decide) w h rfl) (q_ldb Y3 rfl (fun w h => h.zaa (i := 1) rfl) rfl) ?_
  refine za6 2 rfl rfl rfl (by kernel_rfl) (fun _ _ _ h => h) (q_f F27_1 rfl) ?_
  refine zax 3 rfl rfl rfl (by kernel_rfl) (fun _ _ _ h => h) (fun w h => za5 [none, some 1] (by decide) w h rfl) (q_ldb Y24 rfl (fun w h => h.zaa (i := 1) rfl) rfl) ?_
  refine za6 5 rfl rfl rfl (by kernel_rfl) (fun _ _ _ h => h) (q_f F27_2 rfl) ?_
  refine zax 6 rfl rfl rfl (by kernel_rfl) (fun _ _ _ h => h) (fun w h => za5 [none, some 1] (by decide) w h rfl) (q_ldb Y25 rfl (fun w h => h.zaa (i := 1) rfl) rfl) ?_
  refine za8 h (fun l6 hx5 h => ?_) rfl
  refine a_one 4 rfl rfl (by kernel_rfl) rfl (zac 0 Z Try.func89 N89 rfl rfl rfl (fun w P1 hF hB hS hT => slices_Clone_impl_Step_impl_Step.calls A0_1 c0_1 l0_1.length l0_1 hB hF (hS _ R0_1) hc0_1 _ hx5)) (fun s w h => za5 [none, some 2] (by decide) w h rfl) (cur2 (fun A7 c8 => ?_))
  refine za8 h (fun l10 hx9 h => ?_) rfl
  refine a_one 7 rfl rfl (by kernel_rfl) rfl (zac 0 Z Try.func141 N141 rfl rfl rfl (fun w P1 hF hB hS hT => slices_Clone_int_int.calls A0_2 c0_2 l0_2.length l0_2 hB hF (hS _ R0_2) hc0_2 _ hx9)) (fun s w h => za5 [none, some 3] (by decide) w h rfl) (cur2 (fun A11 c12 => ?_))
  refine za6 8 rfl rfl rfl (by kernel_rfl) (fun _ _ _ h => h) (q_build (vs := [(0, .int .i64 a0_0), (1, .slice A7 l6.length c8), (2, .slice A11 l10.length c12)]) (cs := [.int .i64 a0_0, .slice A7 l6.length c8, .slice A11 l10.length c12]) rfl rfl) ?_
  refine a_one 9 rfl rfl (by kernel_rfl) rfl (zak (i := 2) rfl rfl rfl Z27 rfl rfl) (fun s w h => za5 [none, some 3] (by decide) w h rfl) (fun _ => ?_)
  refine zav (by kernel_rfl) ?_
  refine za1 ?_
  refine c_ret ?_
  have e0_ := Option.some.inj h; clear h
  have d0_ := (Prod.mk.inj e0_).1; have e1_ := (Prod.mk.inj e0_).2; clear e0_; subst d0_
  subst e1_
  exact x_r1 (A7, c8, A11, c12) Try.results100 (rv_cell rfl G27 Z27 (fun w h => h.zaa (i := 2) rfl) rfl) rfl (fun w h => za7 [1, 0] (by decide) rfl w h)

/-! ### (*loop.example/g01098/impl.Plan).behind: function 101 -/
def impl_Plan_behind.l0 (a0_0 : Int) (l0_2 : List Int) : (List SStep) → (List Int) → (List SStep) → Int → Option ((List Int) × (List SStep))
  | [], l6, l9, i12 => some (l6, l9)
  | y13 :: ys14, l6, l9, i12 => (impl_Plan_many.f a0_0 l9 l0_2).bind fun _ => (ap l6 ([w64 (a0_0 + (l9.length : Int))] : List Int)).bind fun l30 => (gt l30 y13.f0).bind fun y517 => (gt l30 y13.f1).bind fun y816 => (impl_step.f y517 y816).bind fun _ => (ap l9 ([(⟨mn y517 y816, mx y517 y816⟩ : SStep)] : List SStep)).bind fun l1055 => impl_Plan_behind.l0 a0_0 l0_2 ys14 l30 l1055 (i12 + 1)
def impl_Plan_behind.f (a0_0 : Int) (l0_1 : List SStep) (l0_2 : List Int) (a1_0 : Int) (l1_1 : List SStep) (l1_2 : List Int) (l2 : List Int) : Option ((List Int) × (List SStep)) := (slices_Clone_int_int.f l2).bind fun l3 => (impl_Plan_behind.l0 a0_0 l0_2 l1_1 l3 l0_1 0).bind fun (l6, l9) => some (l6, l9)
set_option maxHeartbeats 600000 in
set_option maxRecDepth 100000 in
theorem impl_Plan_behind.calls {w0 ws : World} {P0 : Nat → Prop} (g0 : Nat) (a0_0 : Int) (A0_1 : Option Addr) (c0_1 : Nat) (n0_1 : Nat) (l0_1 : List SStep) (A0_2 : Option Addr) (c0_2 : Nat) (n0_2 : Nat) (l0_2 : List Int) (g1 : Nat) (a1_0 : Int) (A1_1 : Option Addr) (c1_1 : Nat) (n1_1 : Nat) (l1_1 : List SStep) (A1_2 : Option Addr) (c1_2 : Nat) (n1_2 : Nat) (l1_2 : List Int) (A2 : Option Addr) (c2 : Nat) (n2 : Nat) (l2 : List Int) (Z : Below w0.heap.size w0 ws) (hF : Fr w0 ws P0 [box g0 27 #[.int .i64 a0_0, .slice A0_1 n0_1 c0_1, .slice A0_2 n0_2 c0_2], row kStep 89 (.slice A0_1 n0_1 c0_1) l0_1] ws) (R0_2 : Stable ws P0 (fun w => Kd.C (Kd.int .i64) w A0_2 n0_2 l0_2)) (hc0_2 : n0_2 ≤ c0_2) (R1_1 : Stable ws P0 (fun w => Kd.C kStep w A1_1 n1_1 l1_1)) (hc1_1 : n1_1 ≤ c1_1) (R1_2 : Stable ws P0 (fun w => Kd.C (Kd.int .i64) w A1_2 n1_2 l1_2)) (hc1_2 : n1_2 ≤ c1_2) (B1 : Stable ws P0 (fun w => w.heap[g1]? = some (.cells #[.int .i64 a1_0, .slice A1_1 n1_1 c1_1, .slice A1_2 n1_2 c1_2] 27 (0, 0)))) (R2 : Stable ws P0 (fun w => Kd.C (Kd.int .i64) w A2 n2 l2)) (hc2 : n2 ≤ c2) (r_1 : List Int) (r_4 : List SStep) (h : impl_Plan_behind.f a0_0 l0_1 l0_2 a1_0 l1_1 l1_2 l2 = some (r_1, r_4)) :
    Calls Try.prog 101 #[.pointer (some ⟨g0, 0, none⟩), .pointer (some ⟨g1, 0, none⟩), .slice A2 n2 c2] ws (Post1 w0 ws P0 (fun ((q_2, q_3, q_5, q_6) : (Option Addr) × Nat × (Option Addr) × Nat) => .slice q_2 r_1.length q_3) (fun ((q_2, q_3, q_5, q_6) : (Option Addr) × Nat × (Option Addr) × Nat) => [row (Kd.int .i64) 3 (.slice q_2 r_1.length q_3) r_1, box g0 27 #[.int .i64 a0_0, .slice q_5 r_4.length q_6, .slice A0_2 n0_2 c0_2], row kStep 89 (.slice q_5 r_4.length q_6) r_4])) := by
  unfold impl_Plan_behind.f at h
  obtain rfl := (hF.row_C (i := 1) rfl).2.1
  obtain rfl := (R0_2 ws (KeptB.refl _ _)).1
  obtain rfl := (R1_1 ws (KeptB.refl _ _)).1
  obtain rfl := (R1_2 ws (KeptB.refl _ _)).1
  obtain rfl := (R2 ws (KeptB.refl _ _)).1
  refine enter Try.func101 rfl Try.ntmps101 rfl hF ?_
  refine c_seq ?_
  refine za0 ?_
  refine o_q rfl rfl (q_asg rfl) ?_
  refine o_end ?_
  refine za1 ?_
  refine c_seq ?_
  refine za0 ?_
  refine o_q rfl rfl (za2 rfl) ?_
  refine za8 h (fun l3 hx1 h => ?_) rfl
  refine o_e rfl (zac 0 Z Try.func141 N141 rfl rfl rfl (fun w P1 hF hB hS hT => slices_Clone_int_int.calls A2 c2 l2.length l2 hB hF (hS _ R2) hc2 _ hx1)) (cur2 (fun A4 c5 => ?_))
  refine o_q rfl rfl (q_asg rfl) ?_
  refine o_end ?_
  refine za1 ?_
  refine c_seq ?_
  refine c_seq ?_
  refine za0 ?_
  refine o_q rfl rfl (za2 rfl) ?_
  refine o_q rfl rfl (q_nil rfl) ?_
  refine o_q rfl rfl (q_f F27_1 rfl) ?_
  refine o_q rfl rfl (q_ldb Y24 rfl (fun w h => B1.now Z h) rfl) ?_
  refine o_q rfl rfl (q_len Try.underlying24 rfl) ?_
  refine o_q rfl rfl (za2 rfl) ?_
  refine o_end ?_
  refine za1 ?_
  refine zaj ?_
  refine za8 h (fun o20 hl19 hR18 => ?_) rfl
  clear h
  refine c_fact (p := l1_1.length ≤ 9223372036854775807) (fun w h => (R1_1.now Z h).2.1) (fun hm17 => ?_)
  refine c_loopL (σ := (List SStep) × (List Int) × (List SStep) × Int × (Option Addr) × Nat × (Option Addr) × Nat) (fun k15 ((ys14, l6, l9, i12, A7, c8, A10, c11) : (List SStep) × (List Int) × (List SStep) × Int × (Option Addr) × Nat × (Option Addr) × Nat) => Rg l1_1 i12 ys14 ∧ ys14.length = k15 ∧ impl_Plan_behind.l0 a0_0 l0_2 ys14 l6 l9 i12 = some o20) [7, 9, 17, 18, 19, 20, 21, 22, 23, 24, 25, 26, 27, 28, 29, 30, 31, 32, 33, 34, 35, 36, 37, 38, 39, 40, 41, 42, 43, 44, 45, 46] (fun ((ys14, l6, l9, i12, A7, c8, A10, c11) : (List SStep) × (List Int) × (List SStep) × Int × (Option Addr) × Nat × (Option Addr) × Nat) => [(7, .slice A7 l6.length c8), (17, .int .i64 i12)]) (fun ((ys14, l6, l9, i12, A7, c8, A10, c11) : (List SStep) × (List Int) × (List SStep) × Int × (Option Addr) × Nat × (Option Addr) × Nat) => [row (Kd.int .i64) 3 (.slice A7 l6.length c8) l6, box g0 27 #[.int .i64 a0_0, .slice A10 l9.length c11, .slice A0_2 l0_2.length c0_2], row kStep 89 (.slice A10 l9.length c11) l9]) l1_1.length (l1_1, l3, l0_1, 0, A4, c5, A0_1, c0_1) ⟨Rg.start _, rfl, hl19⟩ ⟨rfl, rfl, trivial⟩ (fun w h => h) ?_
  refine fun k15 => cur8 (listC (fun l6 l9 i12 A7 c8 A10 c11 U21 hJ_ => ?_) (fun y13 ys14 l6 l9 i12 A7 c8 A10 c11 U21 hJ_ => ?_))
  · skip
    clear hl19
    have hr16 := hJ_.1; have hk22 := hJ_.2.1; have h := hJ_.2.2; clear hJ_
    replace h : impl_Plan_behind.l0 a0_0 l0_2 [] l6 l9 i12 = some o20 := h
    rw [impl_Plan_behind.l0] at h
    refine c_seq ?_
    refine za0 ?_
    refine o_q rfl rfl (q_lss rfl rfl) ?_
    refine o_end ?_
    refine za1 ?_
    refine c_seq ?_
    refine c_false (congrArg Value.bool hr16.ge) ?_
    refine c_exit ?_
    refine za9 ?_
    refine za9 ?_
    have e_ := Option.some.inj h; replace h := hR18; rw [← e_] at h; clear e_
    refine x_hit ?_
    refine za1 ?_
    refine c_seq ?_
    refine za0 ?_
    refine o_q rfl rfl (za2 rfl) ?_
    refine o_q rfl rfl (q_asg rfl) ?_
    refine o_end ?_
    refine za1 ?_
    refine c_ret ?_
    have e0_ := Option.some.inj h; clear h
    have d0_ := (Prod.mk.inj e0_).1; have e1_ := (Prod.mk.inj e0_).2; clear e0_; subst d0_
    subst e1_
    exact x_r1 (A7, c8, A10, c11) Try.results101 (zai rfl) rfl (fun w h => za7 [0, 1, 2] (by decide) rfl w h)
  · skip
    clear hl19
    have hr16 := hJ_.1; have hk22 := hJ_.2.1; have h := hJ_.2.2; clear hJ_
    replace h : impl_Plan_behind.l0 a0_0 l0_2 (y13 :: ys14) l6 l9 i12 = some o20 := h
    rw [impl_Plan_behind.l0] at h
    refine c_seq ?_
    refine za0 ?_
    refine o_q rfl rfl (q_lss rfl rfl) ?_
    refine o_end ?_
    refine za1 ?_
    refine c_seq ?_
    refine c_true (congrArg Value.bool hr16.lt) ?_
    refine zan ?_
    refine za1 ?_
    refine c_seq ?_
    refine zaj ?_
    refine c_seq ?_
    refine za0 ?_
    refine o_fact (p := Sh A1_1 l1_1.length l1_1.length) (fun w h => f_sh (dk := kStep) h (fun w h => R1_1.now Z h)) (fun hq23 => ?_)
    refine o_q rfl rfl (q_ix Try.underlying24 Z89 rfl rfl hq23 hr16.get) ?_
    refine o_q rfl rfl (q_ldE G89 Z89 rfl rfl (fun w h => R1_1.now Z h) hr16.get (fun _ _ h => h) rfl) ?_
    refine o_e rfl (zaw V89 rfl) (fun g24 => ?_)
    refine o_e rfl (zak (i := 0) rfl rfl rfl Z89 rfl rfl) (fun _ => ?_)
    refine o_end ?_
    refine za1 ?_
    refine c_seq ?_
    refine za0 ?_
    refine o_q rfl rfl (za2 rfl) ?_
    refine o_q rfl rfl (za2 rfl) ?_
    refine za8 h (fun _ hx26 h => ?_) rfl
    refine o_e rfl (zac 0 Z Try.func90 N90 rfl rfl rfl (fun w P1 hF hB hS hT => impl_Plan_many.calls g0 a0_0 A10 c11 l9.length l9 A0_2 c0_2 l0_2.length l0_2 hB hF (hT 3 _ rfl).row (hT 3 _ rfl).cap (hS _ R0_2) hc0_2 (hT 2 _ rfl).box hx26)) (fun _ => ?_)
    refine o_e rfl (e_lit (vs := [(0, .int .i64 (w64 (a0_0 + (l9.length : Int))))]) (cs := [.int .i64 (w64 (a0_0 + (l9.length : Int)))]) (Kd.int .i64) ([w64 (a0_0 + (l9.length : Int))] : List Int) Try.underlying25 I3 (by decide) rfl (by decide) rfl rfl (fun _ _ => Kd.zas _)) (cur2 (fun A27 c28 => ?_))
    refine za8 h (fun l30 ha31 h => ?_) rfl
    refine o_e rfl (e_app (i := 2) (j := 0) Try.underlying25 I3 rfl (by decide) (by decide) rfl rfl rfl rfl rfl ha31) (cur2 (fun A32 c33 => ?_))
    refine o_q rfl rfl (q_asg rfl) ?_
    refine o_end ?_
    refine za1 ?_
    refine za8 h (fun y517 hg516 h => ?_) rfl
    refine za8 h (fun y816 hg815 h => ?_) rfl
    refine za8 h (fun _ hx935 h => ?_) rfl
    refine za8 h (fun l1055 ha1056 h => ?_) rfl
    refine a_startS (ds := []) [none, some 1, some 2, none, none] MO rfl ?_
    refine za6 0 rfl rfl rfl (by kernel_rfl) (fun _ _ _ h => h) (za2 rfl) ?_
    refine za6 1 rfl rfl rfl (by kernel_rfl) (fun _ _ _ h => h) (za2 rfl) ?_
    refine za6 2 rfl rfl rfl (by kernel_rfl) (fun _ _ _ h => h) (q_nil rfl) ?_
    refine za6 3 rfl rfl rfl (by kernel_rfl) (fun _ _ _ h => h) (q_f F27_1 rfl) ?_
    refine za6 5 rfl rfl rfl (by kernel_rfl) (fun _ _ _ h => h) (za2 rfl) ?_
    refine za6 6 rfl rfl rfl (by kernel_rfl) (fun _ _ _ h => h) (q_f F89_0 rfl) ?_
    refine zax 7 rfl rfl rfl (by kernel_rfl) (fun _ _ _ h => h) (fun w h => za5 [none, some 1, some 2, none, none] (by decide) w h rfl) (q_ldb Y3 rfl (fun w h => h.zaa (i := 1) rfl) rfl) ?_
    refine a_fact (p := Sh A32 l30.length l30.length) (fun w h => f_sh (dk := (Kd.int .i64)) h (fun w h => h.zay (i := 2) rfl)) (fun hq515 => ?_)
    refine za6 8 rfl rfl rfl (by kernel_rfl) (fun _ _ _ h => h) (q_ix Try.underlying25 Z3 rfl rfl hq515 hg516) ?_
    refine zax 9 rfl rfl rfl (by kernel_rfl) (fun _ _ _ h => h) (fun w h => za5 [none, some 1, some 2, none, none] (by decide) w h rfl) (q_lde (off := 0) Y3 rfl rfl (fun w h => h.zay (i := 2) rfl) hg516 (fun _ _ h => h) rfl) ?_
    refine za6 10 rfl rfl rfl (by kernel_rfl) (fun _ _ _ h => h) (za2 rfl) ?_
    refine za6 11 rfl rfl rfl (by kernel_rfl) (fun _ _ _ h => h) (q_f F89_1 rfl) ?_
    refine zax 12 rfl rfl rfl (by kernel_rfl) (fun _ _ _ h => h) (fun w h => za5 [none, some 1, some 2, none, none] (by decide) w h rfl) (q_ldb Y3 rfl (fun w h => h.zaa (i := 1) rfl) rfl) ?_
    refine za6 13 rfl rfl rfl (by kernel_rfl) (fun _ _ _ h => h) (q_ix Try.underlying25 Z3 rfl rfl hq515 hg815) ?_
    refine zax 14 rfl rfl rfl (by kernel_rfl) (fun _ _ _ h => h) (fun w h => za5 [none, some 1, some 2, none, none] (by decide) w h rfl) (q_lde (off := 0) Y3 rfl rfl (fun w h => h.zay (i := 2) rfl) hg815 (fun _ _ h => h) rfl) ?_
    refine a_two 4 15 rfl rfl rfl rfl (by kernel_rfl) rfl rfl (ev_q rfl (q_ldb Y24 rfl (fun w h => h.zaa (i := 3) rfl) rfl)) (fun s w h => za5 [none, some 1, some 2, none, none] (by decide) w h rfl) (zac 0 Z Try.func91 N91 rfl rfl rfl (fun w P1 hF hB hS hT => impl_step.calls y517 y816 hB hF hx935)) (fun s w h => za5 [none, some 1, some 2, none, none] (by decide) w h rfl) (fun _ => ?_) (fun _ => ?_)
    · skip
      refine a_one 15 rfl rfl (by kernel_rfl) rfl (zac 0 Z Try.func91 N91 rfl rfl rfl (fun w P1 hF hB hS hT => impl_step.calls y517 y816 hB hF hx935)) (fun s w h => za5 [none, some 1, some 2, none, none] (by decide) w h rfl) (fun _ => ?_)
      refine a_one 16 rfl rfl (by kernel_rfl) rfl (e_lit (vs := [(0, .agg #[.int .i64 (mn y517 y816), .int .i64 (mx y517 y816)])]) (cs := [.int .i64 (mn y517 y816), .int .i64 (mx y517 y816)]) kStep ([(⟨mn y517 y816, mx y517 y816⟩ : SStep)] : List SStep) Try.underlying24 I89 (by decide) rfl (by decide) rfl rfl (fun _ _ => reps_flat _)) (fun s w h => za5 [none, some 2, some 3, none, none] (by decide) w h rfl) (cur2 (fun A995 c996 => ?_))
      refine a_one 17 rfl rfl (by kernel_rfl) rfl (e_app (i := 5) (j := 0) Try.underlying24 I89 rfl (by decide) (by decide) rfl rfl rfl rfl rfl ha1056) (fun s w h => za5 [none, some 2, some 3, none, none] (by decide) w h rfl) (cur2 (fun A1057 c1058 => ?_))
      refine za6 18 rfl rfl rfl (by kernel_rfl) (fun _ _ _ h => h) (q_nil rfl) ?_
      refine za6 19 rfl rfl rfl (by kernel_rfl) (fun _ _ _ h => h) (q_f F27_1 rfl) ?_
      refine a_one 20 rfl rfl (by kernel_rfl) rfl (e_store (i := 4) rfl rfl rfl rfl Z24 rfl rfl) (fun s w h => za5 [none, some 2, some 3, none, none] (by decide) w h rfl) (fun _ => ?_)
      refine zav (by kernel_rfl) ?_
      refine zam ?_
      refine za1 ?_
      refine za0 ?_
      refine o_q rfl rfl (q_up rfl rfl (hr16.up hm17)) ?_
      refine o_q rfl rfl (za2 rfl) ?_
      refine o_end ?_
      refine zal ys14.length (ys14, l30, l1055, i12 + 1, A32, c33, A1057, c1058) (by rw [← hk22]; exact Nat.lt_succ_self _) ⟨hr16.step, rfl, h⟩ ⟨rfl, rfl, trivial⟩ (fun w h => za7 [3, 4, 5] (by decide) rfl w h) ?_
      repeat (first | exact zad _ _ | refine zaf rfl ?_ | refine zae rfl ?_ | refine zah rfl ?_)
    · skip
      refine a_two 4 16 rfl rfl rfl rfl (by kernel_rfl) rfl rfl (ev_q rfl (q_ldb Y24 rfl (fun w h => h.zaa (i := 3) rfl) rfl)) (fun s w h => za5 [none, some 1, some 2, none, none] (by decide) w h rfl) (e_lit (vs := [(0, .agg #[.int .i64 (mn y517 y816), .int .i64 (mx y517 y816)])]) (cs := [.int .i64 (mn y517 y816), .int .i64 (mx y517 y816)]) kStep ([(⟨mn y517 y816, mx y517 y816⟩ : SStep)] : List SStep) Try.underlying24 I89 (by decide) rfl (by decide) rfl rfl (fun _ _ => reps_flat _)) (fun s w h => za5 [none, some 2, some 3, none, none] (by decide) w h rfl) (fun _ => ?_) (cur2 (fun A995 c996 => ?_))
      · skip
        refine a_one 16 rfl rfl (by kernel_rfl) rfl (e_lit (vs := [(0, .agg #[.int .i64 (mn y517 y816), .int .i64 (mx y517 y816)])]) (cs := [.int .i64 (mn y517 y816), .int .i64 (mx y517 y816)]) kStep ([(⟨mn y517 y816, mx y517 y816⟩ : SStep)] : List SStep) Try.underlying24 I89 (by decide) rfl (by decide) rfl rfl (fun _ _ => reps_flat _)) (fun s w h => za5 [none, some 2, some 3, none, none] (by decide) w h rfl) (cur2 (fun A995 c996 => ?_))
        refine a_one 17 rfl rfl (by kernel_rfl) rfl (e_app (i := 5) (j := 0) Try.underlying24 I89 rfl (by decide) (by decide) rfl rfl rfl rfl rfl ha1056) (fun s w h => za5 [none, some 2, some 3, none, none] (by decide) w h rfl) (cur2 (fun A1057 c1058 => ?_))
        refine za6 18 rfl rfl rfl (by kernel_rfl) (fun _ _ _ h => h) (q_nil rfl) ?_
        refine za6 19 rfl rfl rfl (by kernel_rfl) (fun _ _ _ h => h) (q_f F27_1 rfl) ?_
        refine a_one 20 rfl rfl (by kernel_rfl) rfl (e_store (i := 4) rfl rfl rfl rfl Z24 rfl rfl) (fun s w h => za5 [none, some 2, some 3, none, none] (by decide) w h rfl) (fun _ => ?_)
        refine zav (by kernel_rfl) ?_
        refine zam ?_
        refine za1 ?_
        refine za0 ?_
        refine o_q rfl rfl (q_up rfl rfl (hr16.up hm17)) ?_
        refine o_q rfl rfl (za2 rfl) ?_
        refine o_end ?_
        refine zal ys14.length (ys14, l30, l1055, i12 + 1, A32, c33, A1057, c1058) (by rw [← hk22]; exact Nat.lt_succ_self _) ⟨hr16.step, rfl, h⟩ ⟨rfl, rfl, trivial⟩ (fun w h => za7 [3, 4, 5] (by decide) rfl w h) ?_
        repeat (first | exact zad _ _ | refine zaf rfl ?_ | refine zae rfl ?_ | refine zah rfl ?_)
      · skip
        refine a_one 4 rfl rfl (by kernel_rfl) rfl (ev_q rfl (q_ldb Y24 rfl (fun w h => h.zaa (i := 4) rfl) rfl)) (fun s w h => za5 [none, some 2, some 3, none, none] (by decide) w h rfl) (fun _ => ?_)
        refine a_one 17 rfl rfl (by kernel_rfl) rfl (e_app (i := 5) (j := 0) Try.underlying24 I89 rfl (by decide) (by decide) rfl rfl rfl rfl rfl ha1056) (fun s w h => za5 [none, some 2, some 3, none, none] (by decide) w h rfl) (cur2 (fun A1057 c1058 => ?_))
        refine za6 18 rfl rfl rfl (by kernel_rfl) (fun _ _ _ h => h) (q_nil rfl) ?_
        refine za6 19 rfl rfl rfl (by kernel_rfl) (fun _ _ _ h => h) (q_f F27_1 rfl) ?_
        refine a_one 20 rfl rfl (by kernel_rfl) rfl (e_store (i := 4) rfl rfl rfl rfl Z24 rfl rfl) (fun s w h => za5 [none, some 2, some 3, none, none] (by decide) w h rfl) (fun _ => ?_)
        refine zav (by kernel_rfl) ?_
        refine zam ?_
        refine za1 ?_
        refine za0 ?_
        refine o_q rfl rfl (q_up rfl rfl (hr16.up hm17)) ?_
        refine o_q rfl rfl (za2 rfl) ?_
        refine o_end ?_
        refine zal ys14.length (ys14, l30, l1055, i12 + 1, A32, c33, A1057, c1058) (by rw [← hk22]; exact Nat.lt_succ_self _) ⟨hr16.step, rfl, h⟩ ⟨rfl, rfl, trivial⟩ (fun w h => za7 [3, 4, 5] (by decide) rfl w h) ?_
        repeat (first | exact zad _ _ | refine zaf rfl ?_ | refine zae rfl ?_ | refine zah rfl ?_)

end Go.Proofs.Ytoegbcbdiggbjaa.SP
