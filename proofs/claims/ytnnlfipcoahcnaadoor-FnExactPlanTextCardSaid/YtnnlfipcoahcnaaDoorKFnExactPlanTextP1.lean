import Derived.Test.YtnnlfipcoahcnaaDoorKFnExactPlanTextP1p1
namespace Go.Proofs.YtnnlfipcoahcnaaDoor.P1
open Go.RowKit Go.Proofs.YtnnlfipcoahcnaaDoor.Frame Go.Proofs.YtnnlfipcoahcnaaDoorW.PrintLast Go.Proofs.YtnnlfipcoahcnaaDoor.Hand
open Go.Proofs.YtnnlfipcoahcnaaDoorW.PrintWords hiding mn mx
set_option linter.unusedVariables false
/-! ### loop.example/g01098/spec.l1Num: function 53 -/
def spec_l1Num.f : Nat → Int → Option ByteArray
  | 0, _ => none
  | k + 1, a0 => if a0 < 10 then (some (strOfNums ([IntKind.u8.wrap (w64 (48 + a0))] : List Int))) else (((spec_l1Num.f k) (w64 (a0.tdiv 10))).bind fun s127 => (sap s127 (strOfNums ([IntKind.u8.wrap (w64 (48 + (a0.tmod 10)))] : List Int))).bind fun s547 => some s547)
set_option maxHeartbeats 600000 in
set_option maxRecDepth 100000 in
theorem spec_l1Num.calls : ∀ (k : Nat) {w0 ws : World} {P0 : Nat → Prop} (a0 : Int) (Z : Below w0.heap.size w0 ws) (hF : Fr w0 ws P0 [] ws)  (r_1 : ByteArray) (h : spec_l1Num.f k a0 = some r_1),
    Calls Tryd.prog 53 #[.int .i64 a0] ws (Post1 w0 ws P0 (fun (_ : Unit) => .string r_1) (fun (_ : Unit) => [])) := by
  intro k
  induction k with
  | zero =>
    intros
    rename_i h
    cases h
  | succ k ih =>
    intro w0 ws P0 a0 Z hF  r_1 h
    rw [spec_l1Num.f] at h
    refine enter Tryd.func53 rfl Tryd.ntmps53 rfl hF ?_
    refine c_seq ?_
    refine za0 ?_
    refine o_q rfl rfl (q_asg rfl) ?_
    refine o_end ?_
    refine za1 ?_
    refine c_seq ?_
    refine c_seq ?_
    refine za0 ?_
    refine o_q rfl rfl (za2 rfl) ?_
    refine o_q rfl rfl (q_lss rfl rfl) ?_
    refine o_end ?_
    refine za1 ?_
    refine c_cond _ rfl (fun hb1 => ?_) (fun hb1 => ?_)
    · skip
      replace h := br_t hb1 h
      refine c_seq ?_
      refine za0 ?_
      refine o_q rfl rfl (za2 rfl) ?_
      refine o_q rfl rfl (q_add64 rfl rfl) ?_
      refine o_q rfl rfl (q_conv (by rw [Tryd.underlying3]; rfl) Tryd.underlying5 rfl) ?_
      refine o_e rfl (e_lit (vs := [(0, .int .u8 (IntKind.u8.wrap (w64 (48 + a0))))]) (cs := [.int .u8 (IntKind.u8.wrap (w64 (48 + a0)))]) (Kd.int .u8) ([IntKind.u8.wrap (w64 (48 + a0))] : List Int) Tryd.underlying108 I5 (by decide) rfl (by decide) rfl rfl (fun _ _ => Kd.reps_scalar _)) (cur2 (fun A2 c3 => ?_))
      refine o_q rfl rfl (q_bstr Tryd.underlying108 Tryd.underlying5 Tryd.underlying9 rfl (fun w h => h.row_Cn (i := 0) rfl) (Nat.succ_pos _)) ?_
      refine o_q rfl rfl (q_asg rfl) ?_
      refine o_end ?_
      refine za1 ?_
      refine c_ret ?_
      refine za4 ?_
      have e0_ := Option.some.inj h; clear h
      subst e0_
      exact x_r1 () Tryd.results53 (zaa rfl) rfl (fun w h => za8 [] (by decide) rfl w h)
    · skip
      replace h := br_f hb1 h
      refine zah ?_
      refine za1 ?_
      refine c_seq ?_
      refine za6 h (fun s127 hx126 h => ?_) rfl
      refine za6 h (fun s547 hs546 h => ?_) rfl
      refine a_start (ds := []) MO rfl ?_
      refine za9 0 rfl rfl rfl (by kernel_rfl) (fun _ _ _ h => h) (za2 rfl) ?_
      refine za9 1 rfl rfl rfl (by kernel_rfl) (fun _ _ _ h => h) (q_quo64 rfl rfl (by decide)) ?_
      refine za9 3 rfl rfl rfl (by kernel_rfl) (fun _ _ _ h => h) (za2 rfl) ?_
      refine za9 4 rfl rfl rfl (by kernel_rfl) (fun _ _ _ h => h) (q_rem rfl rfl (by decide)) ?_
      refine za9 5 rfl rfl rfl (by kernel_rfl) (fun _ _ _ h => h) (q_add64 rfl rfl) ?_
      refine za9 6 rfl rfl rfl (by kernel_rfl) (fun _ _ _ h => h) (q_conv (by rw [Tryd.underlying3]; rfl) Tryd.underlying5 rfl) ?_
      refine a_two 2 7 rfl rfl rfl rfl (by kernel_rfl) rfl rfl (zac 0 Z Tryd.func53 N53 rfl rfl rfl (fun w P1 hF hB hS hT => ih (w64 (a0.tdiv 10)) hB hF _ hx126)) (fun s w h => h) (e_lit (vs := [(0, .int .u8 (IntKind.u8.wrap (w64 (48 + (a0.tmod 10)))))]) (cs := [.int .u8 (IntKind.u8.wrap (w64 (48 + (a0.tmod 10))))]) (Kd.int .u8) ([IntKind.u8.wrap (w64 (48 + (a0.tmod 10)))] : List Int) Tryd.underlying108 I5 (by decide) rfl (by decide) rfl rfl (fun _ _ => Kd.reps_scalar _)) (fun s w h => f_selE [] (by decide) w h rfl) (fun _ => ?_) (cur2 (fun A426 c427 => ?_))
      · skip
        refine a_one 7 rfl rfl (by kernel_rfl) rfl (e_lit (vs := [(0, .int .u8 (IntKind.u8.wrap (w64 (48 + (a0.tmod 10)))))]) (cs := [.int .u8 (IntKind.u8.wrap (w64 (48 + (a0.tmod 10))))]) (Kd.int .u8) ([IntKind.u8.wrap (w64 (48 + (a0.tmod 10)))] : List Int) Tryd.underlying108 I5 (by decide) rfl (by decide) rfl rfl (fun _ _ => Kd.reps_scalar _)) (fun s w h => f_selE [] (by decide) w h rfl) (cur2 (fun A426 c427 => ?_))
        refine a_one 8 rfl rfl (by kernel_rfl) rfl (ev_q rfl (q_bstr Tryd.underlying108 Tryd.underlying5 Tryd.underlying9 rfl (fun w h => h.row_Cn (i := 0) rfl) (Nat.succ_pos _))) (fun s w h => f_selE [] (by decide) w h rfl) (fun _ => ?_)
        refine za9 9 rfl rfl rfl (by kernel_rfl) (fun _ _ _ h => h) (q_sap rfl rfl hs546) ?_
        refine za9 10 rfl rfl rfl (by kernel_rfl) (fun _ _ _ h => h) (q_asg rfl) ?_
        refine a_done (by kernel_rfl) ?_
        refine za1 ?_
        refine c_ret ?_
        have e0_ := Option.some.inj h; clear h
        subst e0_
        exact x_r1 () Tryd.results53 (zaa rfl) rfl (fun w h => za8 [] (by decide) rfl w h)
      · skip
        refine a_two 2 8 rfl rfl rfl rfl (by kernel_rfl) rfl rfl (zac 0 Z Tryd.func53 N53 rfl rfl rfl (fun w P1 hF hB hS hT => ih (w64 (a0.tdiv 10)) hB hF _ hx126)) (fun s w h => f_selE [] (by decide) w h rfl) (ev_q rfl (q_bstr Tryd.underlying108 Tryd.underlying5 Tryd.underlying9 rfl (fun w h => h.row_Cn (i := 0) rfl) (Nat.succ_pos _))) (fun s w h => f_selE [] (by decide) w h rfl) (fun _ => ?_) (fun _ => ?_)
        · skip
          refine a_one 8 rfl rfl (by kernel_rfl) rfl (ev_q rfl (q_bstr Tryd.underlying108 Tryd.underlying5 Tryd.underlying9 rfl (fun w h => h.row_Cn (i := 0) rfl) (Nat.succ_pos _))) (fun s w h => f_selE [] (by decide) w h rfl) (fun _ => ?_)
          refine za9 9 rfl rfl rfl (by kernel_rfl) (fun _ _ _ h => h) (q_sap rfl rfl hs546) ?_
          refine za9 10 rfl rfl rfl (by kernel_rfl) (fun _ _ _ h => h) (q_asg rfl) ?_
          refine a_done (by kernel_rfl) ?_
          refine za1 ?_
          refine c_ret ?_
          have e0_ := Option.some.inj h; clear h
          subst e0_
          exact x_r1 () Tryd.results53 (zaa rfl) rfl (fun w h => za8 [] (by decide) rfl w h)
        · skip
          refine a_one 2 rfl rfl (by kernel_rfl) rfl (zac 0 Z Tryd.func53 N53 rfl rfl rfl (fun w P1 hF hB hS hT => ih (w64 (a0.tdiv 10)) hB hF _ hx126)) (fun s w h => f_selE [] (by decide) w h rfl) (fun _ => ?_)
          refine za9 9 rfl rfl rfl (by kernel_rfl) (fun _ _ _ h => h) (q_sap rfl rfl hs546) ?_
          refine za9 10 rfl rfl rfl (by kernel_rfl) (fun _ _ _ h => h) (q_asg rfl) ?_
          refine a_done (by kernel_rfl) ?_
          refine za1 ?_
          refine c_ret ?_
          have e0_ := Option.some.inj h; clear h
          subst e0_
          exact x_r1 () Tryd.results53 (zaa rfl) rfl (fun w h => za8 [] (by decide) rfl w h)

/-! ### loop.example/g01098/spec.plList: function 54 -/
def spec_plList.l0 (k : Nat) : (List Int) → Int → ByteArray → Option ByteArray
  | [], i2, s3 => some s3
  | y4 :: ys5, i2, s3 => (if 0 < i2 then ((sap s3 (⟨#[44]⟩ : ByteArray)).bind fun s26 => some s26) else (some s3)).bind fun s18 => (spec_l1Num.f k y4).bind fun s28 => (sap s18 s28).bind fun s30 => spec_plList.l0 k ys5 (i2 + 1) s30
def spec_plList.f (k : Nat) (l0 : List Int) : Option ByteArray := if (l0.length : Int) = 0 then (some (⟨#[45]⟩ : ByteArray)) else ((spec_plList.l0 k l0 0 (⟨#[]⟩ : ByteArray)).bind fun s3 => some s3)
set_option maxHeartbeats 600000 in
set_option maxRecDepth 100000 in
theorem spec_plList.calls (k : Nat) {w0 ws : World} {P0 : Nat → Prop} (A0 : Option Addr) (c0 : Nat) (n0 : Nat) (l0 : List Int) (Z : Below w0.heap.size w0 ws) (hF : Fr w0 ws P0 [] ws) (R0 : Stable ws P0 (fun w => Kd.C (Kd.int .i64) w A0 n0 l0)) (hc0 : n0 ≤ c0) (r_1 : ByteArray) (h : spec_plList.f k l0 = some r_1) :
    Calls Tryd.prog 54 #[.slice A0 n0 c0] ws (Post1 w0 ws P0 (fun (_ : Unit) => .string r_1) (fun (_ : Unit) => [])) := by
  unfold spec_plList.f at h
  obtain rfl := (R0 ws (KeptB.refl _ _)).1
  refine enter Tryd.func54 rfl Tryd.ntmps54 rfl hF ?_
  refine c_seq ?_
  refine za0 ?_
  refine o_q rfl rfl (q_asg rfl) ?_
  refine o_end ?_
  refine za1 ?_
  refine c_seq ?_
  refine c_seq ?_
  refine za0 ?_
  refine o_q rfl rfl (za2 rfl) ?_
  refine o_q rfl rfl (q_len Tryd.underlying23 rfl) ?_
  refine o_q rfl rfl (q_eql rfl rfl) ?_
  refine o_end ?_
  refine za1 ?_
  refine c_cond _ rfl (fun hb1 => ?_) (fun hb1 => ?_)
  · skip
    replace h := br_t hb1 h
    refine c_seq ?_
    refine za0 ?_
    refine o_q rfl rfl (q_asg rfl) ?_
    refine o_end ?_
    refine za1 ?_
    refine c_ret ?_
    refine za4 ?_
    have e0_ := Option.some.inj h; clear h
    subst e0_
    exact x_r1 () Tryd.results54 (zaa rfl) rfl (fun w h => za8 [] (by decide) rfl w h)
  · skip
    replace h := br_f hb1 h
    refine zah ?_
    refine za1 ?_
    refine c_seq ?_
    refine za0 ?_
    refine o_q rfl rfl (q_asg rfl) ?_
    refine o_end ?_
    refine za1 ?_
    refine c_seq ?_
    refine c_seq ?_
    refine za0 ?_
    refine o_q rfl rfl (za2 rfl) ?_
    refine o_q rfl rfl (q_len Tryd.underlying23 rfl) ?_
    refine o_q rfl rfl (za2 rfl) ?_
    refine o_end ?_
    refine za1 ?_
    refine zaf ?_
    refine za6 h (fun o11 hl10 hR9 => ?_) rfl
    clear h
    refine c_fact (p := l0.length ≤ 9223372036854775807) (fun w h => (R0.now Z h).2.1) (fun hm8 => ?_)
    refine c_loopL (σ := (List Int) × Int × ByteArray) (fun k6 ((ys5, i2, s3) : (List Int) × Int × ByteArray) => Rg l0 i2 ys5 ∧ ys5.length = k6 ∧ spec_plList.l0 k ys5 i2 s3 = some o11) [3, 4, 5, 11, 12, 13, 14, 15, 16, 17, 18, 19, 20, 21, 22, 23, 24] (fun ((ys5, i2, s3) : (List Int) × Int × ByteArray) => [(3, .string s3), (11, .int .i64 i2)]) (fun ((ys5, i2, s3) : (List Int) × Int × ByteArray) => []) l0.length (l0, 0, (⟨#[]⟩ : ByteArray)) ⟨Rg.start _, rfl, hl10⟩ ⟨rfl, rfl, trivial⟩ (fun w h => h) ?_
    refine fun k6 => cur3 (listC (fun i2 s3 U12 hJ_ => ?_) (fun y4 ys5 i2 s3 U12 hJ_ => ?_))
    · skip
      clear hl10
      have hr7 := hJ_.1; have hk13 := hJ_.2.1; have h := hJ_.2.2; clear hJ_
      replace h : spec_plList.l0 k [] i2 s3 = some o11 := h
      rw [spec_plList.l0] at h
      refine c_seq ?_
      refine za0 ?_
      refine o_q rfl rfl (q_lss rfl rfl) ?_
      refine o_end ?_
      refine za1 ?_
      refine c_seq ?_
      refine c_false (congrArg Value.bool hr7.ge) ?_
      refine c_exit ?_
      refine za7 ?_
      refine za7 ?_
      have e_ := Option.some.inj h; replace h := hR9; rw [← e_] at h; clear e_
      refine x_hit ?_
      refine za1 ?_
      refine c_seq ?_
      refine za0 ?_
      refine o_q rfl rfl (za2 rfl) ?_
      refine o_q rfl rfl (q_asg rfl) ?_
      refine o_end ?_
      refine za1 ?_
      refine c_ret ?_
      have e0_ := Option.some.inj h; clear h
      subst e0_
      exact x_r1 () Tryd.results54 (zaa rfl) rfl (fun w h => za8 [] (by decide) rfl w h)
    · skip
      clear hl10
      have hr7 := hJ_.1; have hk13 := hJ_.2.1; have h := hJ_.2.2; clear hJ_
      replace h : spec_plList.l0 k (y4 :: ys5) i2 s3 = some o11 := h
      rw [spec_plList.l0] at h
      refine c_seq ?_
      refine za0 ?_
      refine o_q rfl rfl (q_lss rfl rfl) ?_
      refine o_end ?_
      refine za1 ?_
      refine c_seq ?_
      refine c_true (congrArg Value.bool hr7.lt) ?_
      refine zah ?_
      refine za1 ?_
      refine c_seq ?_
      refine zaf ?_
      refine c_seq ?_
      refine za0 ?_
      refine o_q rfl rfl (za2 rfl) ?_
      refine o_fact (p := Sh A0 l0.length l0.length) (fun w h => f_sh (dk := (Kd.int .i64)) h (fun w h => R0.now Z h)) (fun hq14 => ?_)
      refine o_q rfl rfl (q_ix Tryd.underlying23 Z3 rfl rfl hq14 hr7.get) ?_
      refine o_q rfl rfl (q_lde (off := 0) Y3 rfl rfl (fun w h => R0.now Z h) hr7.get (fun _ _ h => h) rfl) ?_
      refine o_q rfl rfl (q_asg rfl) ?_
      refine o_q rfl rfl (q_asg rfl) ?_
      refine o_end ?_
      refine za1 ?_
      refine za6 h (fun o19 hl20 hR21 => ?_) rfl
      clear h
      refine c_cutJ (σ := ByteArray) (fun s18 => some s18 = some o19) [3, 16, 17, 18, 19] (fun s18 => [(3, .string s18)]) (fun s18 => []) ?_ ?_
      · skip
        have h := hl20; clear hl20
        clear hR21
        refine c_seq ?_
        refine za0 ?_
        refine o_q rfl rfl (za2 rfl) ?_
        refine o_q rfl rfl (q_gtr rfl rfl) ?_
        refine o_end ?_
        refine za1 ?_
        refine c_cond _ rfl (fun hb24 => ?_) (fun hb24 => ?_)
        · skip
          replace h := br_t hb24 h
          refine za0 ?_
          refine o_q rfl rfl (za2 rfl) ?_
          refine za6 h (fun s26 hs25 h => ?_) rfl
          refine o_q rfl rfl (q_sap rfl rfl hs25) ?_
          refine o_q rfl rfl (q_asg rfl) ?_
          refine o_end ?_
          refine x_meetJ s26 h ⟨rfl, trivial⟩ (fun w h => za8 [] (by decide) rfl w h) ?_
          repeat (first | exact off_refl _ _ | refine off_upd rfl ?_ | refine off_updL rfl ?_ | refine off_mix rfl ?_)
        · skip
          replace h := br_f hb24 h
          refine zah ?_
          refine x_meetJ s3 h ⟨rfl, trivial⟩ (fun w h => za8 [] (by decide) rfl w h) ?_
          repeat (first | exact off_refl _ _ | refine off_upd rfl ?_ | refine off_updL rfl ?_ | refine off_mix rfl ?_)
      · skip
        refine (fun s18 => fun U22 hJ23 => ?_)
        have e_ := Option.some.inj hJ23; have h := hR21; rw [← e_] at h; clear e_ hJ23 hR21 hl20
        refine za0 ?_
        refine o_q rfl rfl (za2 rfl) ?_
        refine o_q rfl rfl (za2 rfl) ?_
        refine za6 h (fun s28 hx27 h => ?_) rfl
        refine o_e rfl (zac 0 Z Tryd.func53 N53 rfl rfl rfl (fun w P1 hF hB hS hT => spec_l1Num.calls k y4 hB hF _ hx27)) (fun _ => ?_)
        refine za6 h (fun s30 hs29 h => ?_) rfl
        refine o_q rfl rfl (q_sap rfl rfl hs29) ?_
        refine o_q rfl rfl (q_asg rfl) ?_
        refine o_end ?_
        refine x_block ?_
        refine za1 ?_
        refine za0 ?_
        refine o_q rfl rfl (q_up rfl rfl (hr7.up hm8)) ?_
        refine o_q rfl rfl (za2 rfl) ?_
        refine o_end ?_
        refine x_roundL ys5.length (ys5, i2 + 1, s30) (by rw [← hk13]; exact Nat.lt_succ_self _) ⟨hr7.step, rfl, h⟩ ⟨rfl, rfl, trivial⟩ (fun w h => za8 [] (by decide) rfl w h) ?_
        repeat (first | exact off_refl _ _ | refine off_upd rfl ?_ | refine off_updL rfl ?_ | refine off_mix rfl ?_)

/-! ### loop.example/g01098/spec.plText: function 23 -/
def spec_plText.l0 (k : Nat) : (List SStep) → ByteArray → Int → Option ByteArray
  | [], s3, i4 => some s3
  | y5 :: ys6, s3, i4 => (if 0 < i4 then ((sap s3 (⟨#[44]⟩ : ByteArray)).bind fun s49 => some s49) else (some s3)).bind fun s41 => (spec_l1Num.f k y5.f0).bind fun s51 => (sap s51 (⟨#[42]⟩ : ByteArray)).bind fun s53 => (spec_l1Num.f k y5.f1).bind fun s55 => (sap s53 s55).bind fun s57 => (sap s41 s57).bind fun s59 => spec_plText.l0 k ys6 s59 (i4 + 1)
def spec_plText.f (k : Nat) (a0_0 : Int) (l0_1 : List SStep) (l0_2 : List Int) : Option ByteArray := (spec_plText.l0 k l0_1 (⟨#[]⟩ : ByteArray) 0).bind fun s3 => (if s3 = (⟨#[]⟩ : ByteArray) then (some (⟨#[45]⟩ : ByteArray)) else (some s3)).bind fun s16 => (spec_l1Num.f k a0_0).bind fun s24 => (sap s24 (⟨#[58]⟩ : ByteArray)).bind fun s26 => (sap s26 s16).bind fun s28 => (sap s28 (⟨#[58]⟩ : ByteArray)).bind fun s30 => (spec_plList.f k l0_2).bind fun s32 => (sap s30 s32).bind fun s34 => some s34
set_option maxHeartbeats 600000 in
set_option maxRecDepth 100000 in
theorem spec_plText.calls (k : Nat) {w0 ws : World} {P0 : Nat → Prop} (a0_0 : Int) (A0_1 : Option Addr) (c0_1 : Nat) (n0_1 : Nat) (l0_1 : List SStep) (A0_2 : Option Addr) (c0_2 : Nat) (n0_2 : Nat) (l0_2 : List Int) (Z : Below w0.heap.size w0 ws) (hF : Fr w0 ws P0 [] ws) (R0_1 : Stable ws P0 (fun w => Kd.C kStep w A0_1 n0_1 l0_1)) (hc0_1 : n0_1 ≤ c0_1) (R0_2 : Stable ws P0 (fun w => Kd.C (Kd.int .i64) w A0_2 n0_2 l0_2)) (hc0_2 : n0_2 ≤ c0_2) (r_1 : ByteArray) (h : spec_plText.f k a0_0 l0_1 l0_2 = some r_1) :
    Calls Tryd.prog 23 #[.agg #[.int .i64 a0_0, .slice A0_1 n0_1 c0_1, .slice A0_2 n0_2 c0_2]] ws (Post1 w0 ws P0 (fun (_ : Unit) => .string r_1) (fun (_ : Unit) => [])) := by
  unfold spec_plText.f at h
  obtain rfl := (R0_1 ws (KeptB.refl _ _)).1
  obtain rfl := (R0_2 ws (KeptB.refl _ _)).1
  refine enter Tryd.func23 rfl Tryd.ntmps23 rfl hF ?_
  refine c_seq ?_
  refine za0 ?_
  refine o_e rfl (e_box rfl) (fun g1 => ?_)
  refine o_q rfl rfl (q_asg rfl) ?_
  refine o_end ?_
  refine za1 ?_
  refine c_seq ?_
  refine za0 ?_
  refine o_q rfl rfl (q_asg rfl) ?_
  refine o_end ?_
  refine za1 ?_
  refine c_seq ?_
  refine c_seq ?_
  refine za0 ?_
  refine o_q rfl rfl (q_f F31_1 rfl) ?_
  refine o_q rfl rfl (q_ldb Y29 rfl (fun w h => h.zad (i := 0) rfl) rfl) ?_
  refine o_q rfl rfl (q_len Tryd.underlying29 rfl) ?_
  refine o_q rfl rfl (za2 rfl) ?_
  refine o_end ?_
  refine za1 ?_
  refine zaf ?_
  refine za6 h (fun o12 hl11 hR10 => ?_) rfl
  clear h
  refine c_fact (p := l0_1.length ≤ 9223372036854775807) (fun w h => (R0_1.now Z h).2.1) (fun hm9 => ?_)
  refine c_loopL (σ := (List SStep) × ByteArray × Int) (fun k7 ((ys6, s3, i4) : (List SStep) × ByteArray × Int) => Rg l0_1 i4 ys6 ∧ ys6.length = k7 ∧ spec_plText.l0 k ys6 s3 i4 = some o12) [3, 4, 5, 9, 10, 11, 12, 13, 14, 15, 16, 17, 18, 19, 20, 21, 22, 23, 24, 25, 26, 27, 28] (fun ((ys6, s3, i4) : (List SStep) × ByteArray × Int) => [(3, .string s3), (9, .int .i64 i4)]) (fun ((ys6, s3, i4) : (List SStep) × ByteArray × Int) => [box g1 31 #[.int .i64 a0_0, .slice A0_1 l0_1.length c0_1, .slice A0_2 l0_2.length c0_2]]) l0_1.length (l0_1, (⟨#[]⟩ : ByteArray), 0) ⟨Rg.start _, rfl, hl11⟩ ⟨rfl, rfl, trivial⟩ (fun w h => h) ?_
  refine fun k7 => cur3 (listC (fun s3 i4 U13 hJ_ => ?_) (fun y5 ys6 s3 i4 U13 hJ_ => ?_))
  · skip
    clear hl11
    have hr8 := hJ_.1; have hk14 := hJ_.2.1; have h := hJ_.2.2; clear hJ_
    replace h : spec_plText.l0 k [] s3 i4 = some o12 := h
    rw [spec_plText.l0] at h
    refine c_seq ?_
    refine za0 ?_
    refine o_q rfl rfl (q_lss rfl rfl) ?_
    refine o_end ?_
    refine za1 ?_
    refine c_seq ?_
    refine c_false (congrArg Value.bool hr8.ge) ?_
    refine c_exit ?_
    refine za7 ?_
    refine za7 ?_
    have e_ := Option.some.inj h; replace h := hR10; rw [← e_] at h; clear e_
    refine x_hit ?_
    refine za1 ?_
    refine za6 h (fun o17 hl18 hR19 => ?_) rfl
    clear h
    refine c_cutJ (σ := ByteArray) (fun s16 => some s16 = some o17) [3, 29, 30] (fun s16 => [(3, .string s16)]) (fun s16 => [box g1 31 #[.int .i64 a0_0, .slice A0_1 l0_1.length c0_1, .slice A0_2 l0_2.length c0_2]]) ?_ ?_
    · skip
      have h := hl18; clear hl18
      clear hR19
      refine c_seq ?_
      refine za0 ?_
      refine o_q rfl rfl (za2 rfl) ?_
      refine o_q rfl rfl (q_seql rfl rfl) ?_
      refine o_end ?_
      refine za1 ?_
      refine c_cond _ rfl (fun hb22 => ?_) (fun hb22 => ?_)
      · skip
        replace h := br_t hb22 h
        refine za0 ?_
        refine o_q rfl rfl (q_asg rfl) ?_
        refine o_end ?_
        refine x_meetJ (⟨#[45]⟩ : ByteArray) h ⟨rfl, trivial⟩ (fun w h => za8 [0] (by decide) rfl w h) ?_
        repeat (first | exact off_refl _ _ | refine off_upd rfl ?_ | refine off_updL rfl ?_ | refine off_mix rfl ?_)
      · skip
        replace h := br_f hb22 h
        refine zah ?_
        refine x_meetJ s3 h ⟨rfl, trivial⟩ (fun w h => za8 [0] (by decide) rfl w h) ?_
        repeat (first | exact off_refl _ _ | refine off_upd rfl ?_ | refine off_updL rfl ?_ | refine off_mix rfl ?_)
    · skip
      refine (fun s16 => fun U20 hJ21 => ?_)
      have e_ := Option.some.inj hJ21; have h := hR19; rw [← e_] at h; clear e_ hJ21 hR19 hl18
      refine c_seq ?_
      refine a_start (ds := []) MO rfl ?_
      refine za9 0 rfl rfl rfl (by kernel_rfl) (fun _ _ _ h => h) (q_f F31_0 rfl) ?_
      refine a_take 1 rfl rfl rfl (by kernel_rfl) (fun _ _ _ h => h) (fun w h => h) (q_ldb Y3 rfl (fun w h => h.zad (i := 0) rfl) rfl) ?_
      refine za9 4 rfl rfl rfl (by kernel_rfl) (fun _ _ _ h => h) (za2 rfl) ?_
      refine za9 7 rfl rfl rfl (by kernel_rfl) (fun _ _ _ h => h) (q_f F31_2 rfl) ?_
      refine a_take 8 rfl rfl rfl (by kernel_rfl) (fun _ _ _ h => h) (fun w h => h) (q_ldb Y23 rfl (fun w h => h.zad (i := 0) rfl) rfl) ?_
      refine za6 h (fun s24 hx23 h => ?_) rfl
      refine a_one 2 rfl rfl (by kernel_rfl) rfl (zac 0 Z Tryd.func53 N53 rfl rfl rfl (fun w P1 hF hB hS hT => spec_l1Num.calls k a0_0 hB hF _ hx23)) (fun s w h => h) (fun _ => ?_)
      refine za6 h (fun s26 hs25 h => ?_) rfl
      refine za9 3 rfl rfl rfl (by kernel_rfl) (fun _ _ _ h => h) (q_sap rfl rfl hs25) ?_
      refine za6 h (fun s28 hs27 h => ?_) rfl
      refine za9 5 rfl rfl rfl (by kernel_rfl) (fun _ _ _ h => h) (q_sap rfl rfl hs27) ?_
      refine za6 h (fun s30 hs29 h => ?_) rfl
      refine za9 6 rfl rfl rfl (by kernel_rfl) (fun _ _ _ h => h) (q_sap rfl rfl hs29) ?_
      refine za6 h (fun s32 hx31 h => ?_) rfl
      refine a_one 9 rfl rfl (by kernel_rfl) rfl (zac 0 Z Tryd.func54 N54 rfl rfl rfl (fun w P1 hF hB hS hT => spec_plList.calls k A0_2 c0_2 l0_2.length l0_2 hB hF (hS _ R0_2) hc0_2 _ hx31)) (fun s w h => h) (fun _ => ?_)
      refine za6 h (fun s34 hs33 h => ?_) rfl
      refine za9 10 rfl rfl rfl (by kernel_rfl) (fun _ _ _ h => h) (q_sap rfl rfl hs33) ?_
      refine za9 11 rfl rfl rfl (by kernel_rfl) (fun _ _ _ h => h) (q_asg rfl) ?_
      refine a_done (by kernel_rfl) ?_
      refine za1 ?_
      refine c_ret ?_
      have e0_ := Option.some.inj h; clear h
      subst e0_
      exact x_r1 () Tryd.results23 (zaa rfl) rfl (fun w h => za8 [] (by decide) rfl w h)
  · skip
    clear hl11
    have hr8 := hJ_.1; have hk14 := hJ_.2.1; have h := hJ_.2.2; clear hJ_
    replace h : spec_plText.l0 k (y5 :: ys6) s3 i4 = some o12 := h
    rw [spec_plText.l0] at h
    refine c_seq ?_
    refine za0 ?_
    refine o_q rfl rfl (q_lss rfl rfl) ?_
    refine o_end ?_
    refine za1 ?_
    refine c_seq ?_
    refine c_true (congrArg Value.bool hr8.lt) ?_
    refine zah ?_
    refine za1 ?_
    refine c_seq ?_
    refine zaf ?_
    refine c_seq ?_
    refine za0 ?_
    refine o_q rfl rfl (za2 rfl) ?_
    refine o_fact (p := Sh A0_1 l0_1.length l0_1.length) (fun w h => f_sh (dk := kStep) h (fun w h => R0_1.now Z h)) (fun hq35 => ?_)
    refine o_q rfl rfl (q_ix Tryd.underlying29 Z69 rfl rfl hq35 hr8.get) ?_
    refine o_q rfl rfl (q_ldE G69 Z69 rfl rfl (fun w h => R0_1.now Z h) hr8.get (fun _ _ h => h) rfl) ?_
    refine o_e rfl (e_alloc V69 rfl) (fun g36 => ?_)
    refine o_q rfl rfl (q_asg rfl) ?_
    refine o_e rfl (e_storeA (i := 0) rfl rfl rfl Z69 rfl rfl) (fun _ => ?_)
    refine o_end ?_
    refine za1 ?_
    refine za6 h (fun o42 hl43 hR44 => ?_) rfl
    clear h
    refine c_cutJ (σ := ByteArray) (fun s41 => some s41 = some o42) [3, 14, 15, 16, 17] (fun s41 => [(3, .string s41)]) (fun s41 => [box g1 31 #[.int .i64 a0_0, .slice A0_1 l0_1.length c0_1, .slice A0_2 l0_2.length c0_2], box g36 69 #[.int .i64 y5.f0, .int .i64 y5.f1]]) ?_ ?_
    · skip
      have h := hl43; clear hl43
      clear hR44
      refine c_seq ?_
      refine za0 ?_
      refine o_q rfl rfl (za2 rfl) ?_
      refine o_q rfl rfl (q_gtr rfl rfl) ?_
      refine o_end ?_
      refine za1 ?_
      refine c_cond _ rfl (fun hb47 => ?_) (fun hb47 => ?_)
      · skip
        replace h := br_t hb47 h
        refine za0 ?_
        refine o_q rfl rfl (za2 rfl) ?_
        refine za6 h (fun s49 hs48 h => ?_) rfl
        refine o_q rfl rfl (q_sap rfl rfl hs48) ?_
        refine o_q rfl rfl (q_asg rfl) ?_
        refine o_end ?_
        refine x_meetJ s49 h ⟨rfl, trivial⟩ (fun w h => za8 [1, 0] (by decide) rfl w h) ?_
        repeat (first | exact off_refl _ _ | refine off_upd rfl ?_ | refine off_updL rfl ?_ | refine off_mix rfl ?_)
      · skip
        replace h := br_f hb47 h
        refine zah ?_
        refine x_meetJ s3 h ⟨rfl, trivial⟩ (fun w h => za8 [1, 0] (by decide) rfl w h) ?_
        repeat (first | exact off_refl _ _ | refine off_upd rfl ?_ | refine off_updL rfl ?_ | refine off_mix rfl ?_)
    · skip
      refine (fun s41 => fun U45 hJ46 => ?_)
      have e_ := Option.some.inj hJ46; have h := hR44; rw [← e_] at h; clear e_ hJ46 hR44 hl43
      refine a_start (ds := []) MO rfl ?_
      refine za9 0 rfl rfl rfl (by kernel_rfl) (fun _ _ _ h => h) (za2 rfl) ?_
      refine za9 1 rfl rfl rfl (by kernel_rfl) (fun _ _ _ h => h) (q_f F69_0 rfl) ?_
      refine a_take 2 rfl rfl rfl (by kernel_rfl) (fun _ _ _ h => h) (fun w h => h) (q_ldb Y3 rfl (fun w h => h.zad (i := 1) rfl) rfl) ?_
      refine za9 5 rfl rfl rfl (by kernel_rfl) (fun _ _ _ h => h) (q_f F69_1 rfl) ?_
      refine a_take 6 rfl rfl rfl (by kernel_rfl) (fun _ _ _ h => h) (fun w h => h) (q_ldb Y3 rfl (fun w h => h.zad (i := 1) rfl) rfl) ?_
      refine za6 h (fun s51 hx50 h => ?_) rfl
      refine a_one 3 rfl rfl (by kernel_rfl) rfl (zac 0 Z Tryd.func53 N53 rfl rfl rfl (fun w P1 hF hB hS hT => spec_l1Num.calls k y5.f0 hB hF _ hx50)) (fun s w h => h) (fun _ => ?_)
      refine za6 h (fun s53 hs52 h => ?_) rfl
      refine za9 4 rfl rfl rfl (by kernel_rfl) (fun _ _ _ h => h) (q_sap rfl rfl hs52) ?_
      refine za6 h (fun s55 hx54 h => ?_) rfl
      refine a_one 7 rfl rfl (by kernel_rfl) rfl (zac 0 Z Tryd.func53 N53 rfl rfl rfl (fun w P1 hF hB hS hT => spec_l1Num.calls k y5.f1 hB hF _ hx54)) (fun s w h => h) (fun _ => ?_)
      refine za6 h (fun s57 hs56 h => ?_) rfl
      refine za9 8 rfl rfl rfl (by kernel_rfl) (fun _ _ _ h => h) (q_sap rfl rfl hs56) ?_
      refine za6 h (fun s59 hs58 h => ?_) rfl
      refine za9 9 rfl rfl rfl (by kernel_rfl) (fun _ _ _ h => h) (q_sap rfl rfl hs58) ?_
      refine za9 10 rfl rfl rfl (by kernel_rfl) (fun _ _ _ h => h) (q_asg rfl) ?_
      refine a_done (by kernel_rfl) ?_
      refine x_block ?_
      refine za1 ?_
      refine za0 ?_
      refine o_q rfl rfl (q_up rfl rfl (hr8.up hm9)) ?_
      refine o_q rfl rfl (za2 rfl) ?_
      refine o_end ?_
      refine x_roundL ys6.length (ys6, s59, i4 + 1) (by rw [← hk14]; exact Nat.lt_succ_self _) ⟨hr8.step, rfl, h⟩ ⟨rfl, rfl, trivial⟩ (fun w h => za8 [0] (by decide) rfl w h) ?_
      repeat (first | exact off_refl _ _ | refine off_upd rfl ?_ | refine off_updL rfl ?_ | refine off_mix rfl ?_)

/-! ### loop.example/g01098/spec.PlanText: function 7 -/
def spec_PlanText.f (k : Nat) (a0_0 : Int) (l0_1 : List SStep) (l0_2 : List Int) : Option (ByteArray × Bool) := (spec_plGood.f k a0_0 l0_1 l0_2).bind fun b4 => if b4 = true then ((spec_plText.f k a0_0 l0_1 l0_2).bind fun s7 => some (s7, true)) else (some ((⟨#[]⟩ : ByteArray), false))
set_option maxHeartbeats 600000 in
set_option maxRecDepth 100000 in
theorem spec_PlanText.calls (k : Nat) {w0 ws : World} {P0 : Nat → Prop} (a0_0 : Int) (A0_1 : Option Addr) (c0_1 : Nat) (n0_1 : Nat) (l0_1 : List SStep) (A0_2 : Option Addr) (c0_2 : Nat) (n0_2 : Nat) (l0_2 : List Int) (Z : Below w0.heap.size w0 ws) (hF : Fr w0 ws P0 [] ws) (R0_1 : Stable ws P0 (fun w => Kd.C kStep w A0_1 n0_1 l0_1)) (hc0_1 : n0_1 ≤ c0_1) (R0_2 : Stable ws P0 (fun w => Kd.C (Kd.int .i64) w A0_2 n0_2 l0_2)) (hc0_2 : n0_2 ≤ c0_2) (r_1 : ByteArray) (r_2 : Bool) (h : spec_PlanText.f k a0_0 l0_1 l0_2 = some (r_1, r_2)) :
    Calls Tryd.prog 7 #[.agg #[.int .i64 a0_0, .slice A0_1 n0_1 c0_1, .slice A0_2 n0_2 c0_2]] ws (Post1 w0 ws P0 (fun (_ : Unit) => .tuple #[.string r_1, .bool r_2]) (fun (_ : Unit) => [])) := by
  unfold spec_PlanText.f at h
  obtain rfl := (R0_1 ws (KeptB.refl _ _)).1
  obtain rfl := (R0_2 ws (KeptB.refl _ _)).1
  refine enter Tryd.func7 rfl Tryd.ntmps7 rfl hF ?_
  refine c_seq ?_
  refine za0 ?_
  refine o_e rfl (e_box rfl) (fun g1 => ?_)
  refine o_q rfl rfl (q_asg rfl) ?_
  refine o_q rfl rfl (q_asg rfl) ?_
  refine o_end ?_
  refine za1 ?_
  refine c_seq ?_
  refine c_seq ?_
  refine za0 ?_
  refine o_q rfl rfl (q_ldB G31 Z31 rfl (fun w h => h.zad (i := 0) rfl) rfl) ?_
  refine za6 h (fun b4 hx3 h => ?_) rfl
  refine o_e rfl (zac 0 Z Tryd.func22 N22 rfl rfl rfl (fun w P1 hF hB hS hT => spec_plGood.calls k a0_0 A0_1 c0_1 l0_1.length l0_1 A0_2 c0_2 l0_2.length l0_2 hB hF (hS _ R0_1) hc0_1 (hS _ R0_2) hc0_2 _ hx3)) (fun _ => ?_)
  refine o_q rfl rfl (q_not rfl) ?_
  refine o_end ?_
  refine za1 ?_
  refine c_cond _ rfl (fun hb5 => ?_) (fun hb5 => ?_)
  · replace hb5 := nt_t hb5
    replace h := bb_f hb5 h
    refine c_seq ?_
    refine za0 ?_
    refine o_q rfl rfl (q_asg rfl) ?_
    refine o_q rfl rfl (q_asg rfl) ?_
    refine o_end ?_
    refine za1 ?_
    refine c_ret ?_
    refine za4 ?_
    have e0_ := Option.some.inj h; clear h
    have d0_ := (Prod.mk.inj e0_).1; have e1_ := (Prod.mk.inj e0_).2; clear e0_; subst d0_
    subst e1_
    exact x_r2 () Tryd.results7 (zaa rfl) (zaa rfl) rfl (fun w h => za8 [] (by decide) rfl w h)
  · replace hb5 := nt_f hb5
    replace h := bb_t hb5 h
    refine zah ?_
    refine za1 ?_
    refine c_seq ?_
    refine za0 ?_
    refine o_q rfl rfl (q_ldB G31 Z31 rfl (fun w h => h.zad (i := 0) rfl) rfl) ?_
    refine za6 h (fun s7 hx6 h => ?_) rfl
    refine o_e rfl (zac 0 Z Tryd.func23 N23 rfl rfl rfl (fun w P1 hF hB hS hT => spec_plText.calls k a0_0 A0_1 c0_1 l0_1.length l0_1 A0_2 c0_2 l0_2.length l0_2 hB hF (hS _ R0_1) hc0_1 (hS _ R0_2) hc0_2 _ hx6)) (fun _ => ?_)
    refine o_q rfl rfl (q_asg rfl) ?_
    refine o_q rfl rfl (q_asg rfl) ?_
    refine o_end ?_
    refine za1 ?_
    refine c_ret ?_
    have e0_ := Option.some.inj h; clear h
    have d0_ := (Prod.mk.inj e0_).1; have e1_ := (Prod.mk.inj e0_).2; clear e0_; subst d0_
    subst e1_
    exact x_r2 () Tryd.results7 (zaa rfl) (zaa rfl) rfl (fun w h => za8 [] (by decide) rfl w h)

/-! ### loop.example/g01098/impl.listed: function 62 -/
def impl_listed.f (l0 : List ByteArray) : Option ByteArray := if (l0.length : Int) = 0 then (some (⟨#[45]⟩ : ByteArray)) else ((strings_Join.f l0 (⟨#[44]⟩ : ByteArray)).bind fun s3 => some s3)
set_option maxHeartbeats 600000 in
set_option maxRecDepth 100000 in
theorem impl_listed.calls {w0 ws : World} {P0 : Nat → Prop} (A0 : Option Addr) (c0 : Nat) (n0 : Nat) (l0 : List ByteArray) (Z : Below w0.heap.size w0 ws) (hF : Fr w0 ws P0 [] ws) (R0 : Stable ws P0 (fun w => Kd.C Kd.string w A0 n0 l0)) (hc0 : n0 ≤ c0) (r_1 : ByteArray) (h : impl_listed.f l0 = some r_1) :
    Calls Tryd.prog 62 #[.slice A0 n0 c0] ws (Post1 w0 ws P0 (fun (_ : Unit) => .string r_1) (fun (_ : Unit) => [])) := by
  unfold impl_listed.f at h
  obtain rfl := (R0 ws (KeptB.refl _ _)).1
  refine enter Tryd.func62 rfl Tryd.ntmps62 rfl hF ?_
  refine c_seq ?_
  refine za0 ?_
  refine o_q rfl rfl (q_asg rfl) ?_
  refine o_end ?_
  refine za1 ?_
  refine c_seq ?_
  refine c_seq ?_
  refine za0 ?_
  refine o_q rfl rfl (za2 rfl) ?_
  refine o_q rfl rfl (q_len Tryd.underlying64 rfl) ?_
  refine o_q rfl rfl (q_eql rfl rfl) ?_
  refine o_end ?_
  refine za1 ?_
  refine c_cond _ rfl (fun hb1 => ?_) (fun hb1 => ?_)
  · skip
    replace h := br_t hb1 h
    refine c_seq ?_
    refine za0 ?_
    refine o_q rfl rfl (q_asg rfl) ?_
    refine o_end ?_
    refine za1 ?_
    refine c_ret ?_
    refine za4 ?_
    have e0_ := Option.some.inj h; clear h
    subst e0_
    exact x_r1 () Tryd.results62 (zaa rfl) rfl (fun w h => za8 [] (by decide) rfl w h)
  · skip
    replace h := br_f hb1 h
    refine zah ?_
    refine za1 ?_
    refine c_seq ?_
    refine za0 ?_
    refine o_q rfl rfl (za2 rfl) ?_
    refine za6 h (fun s3 hx2 h => ?_) rfl
    refine o_e rfl (zac 0 Z Tryd.func69 N69 rfl rfl rfl (fun w P1 hF hB hS hT => strings_Join.calls A0 c0 l0.length l0 (⟨#[44]⟩ : ByteArray) hB hF (hS _ R0) hc0 _ hx2)) (fun _ => ?_)
    refine o_q rfl rfl (q_asg rfl) ?_
    refine o_end ?_
    refine za1 ?_
    refine c_ret ?_
    have e0_ := Option.some.inj h; clear h
    subst e0_
    exact x_r1 () Tryd.results62 (zaa rfl) rfl (fun w h => za8 [] (by decide) rfl w h)

/-! ### loop.example/g01098/impl.numbersText: function 63 -/
def impl_numbersText.l0 : (List Int) → (List ByteArray) → Int → Option (List ByteArray)
  | [], l4, i7 => some l4
  | y8 :: ys9, l4, i7 => (strconv_Itoa.f y8).bind fun s22 => (ap l4 ([s22] : List ByteArray)).bind fun l26 => impl_numbersText.l0 ys9 l26 (i7 + 1)
def impl_numbersText.f (l0 : List Int) : Option ByteArray := (impl_numbersText.l0 l0 ([] : List ByteArray) 0).bind fun l4 => (impl_listed.f l4).bind fun s19 => some s19
set_option maxHeartbeats 600000 in
set_option maxRecDepth 100000 in
theorem impl_numbersText.calls {w0 ws : World} {P0 : Nat → Prop} (A0 : Option Addr) (c0 : Nat) (n0 : Nat) (l0 : List Int) (Z : Below w0.heap.size w0 ws) (hF : Fr w0 ws P0 [] ws) (R0 : Stable ws P0 (fun w => Kd.C (Kd.int .i64) w A0 n0 l0)) (hc0 : n0 ≤ c0) (r_1 : ByteArray) (h : impl_numbersText.f l0 = some r_1) :
    Calls Tryd.prog 63 #[.slice A0 n0 c0] ws (Post1 w0 ws P0 (fun (_ : Unit) => .string r_1) (fun (_ : Unit) => [])) := by
  unfold impl_numbersText.f at h
  obtain rfl := (R0 ws (KeptB.refl _ _)).1
  refine enter Tryd.func63 rfl Tryd.ntmps63 rfl hF ?_
  refine c_seq ?_
  refine za0 ?_
  refine o_q rfl rfl (q_asg rfl) ?_
  refine o_end ?_
  refine za1 ?_
  refine c_seq ?_
  refine za0 ?_
  refine o_e rfl (e_lit0 Kd.string Tryd.underlying64 I9) (cur2 (fun A1 c2 => ?_))
  refine o_q rfl rfl (q_asg rfl) ?_
  refine o_end ?_
  refine za1 ?_
  refine c_seq ?_
  refine c_seq ?_
  refine za0 ?_
  refine o_q rfl rfl (za2 rfl) ?_
  refine o_q rfl rfl (q_len Tryd.underlying23 rfl) ?_
  refine o_q rfl rfl (za2 rfl) ?_
  refine o_end ?_
  refine za1 ?_
  refine zaf ?_
  refine za6 h (fun o15 hl14 hR13 => ?_) rfl
  clear h
  refine c_fact (p := l0.length ≤ 9223372036854775807) (fun w h => (R0.now Z h).2.1) (fun hm12 => ?_)
  refine c_loopL (σ := (List Int) × (List ByteArray) × Int × (Option Addr) × Nat) (fun k10 ((ys9, l4, i7, A5, c6) : (List Int) × (List ByteArray) × Int × (Option Addr) × Nat) => Rg l0 i7 ys9 ∧ ys9.length = k10 ∧ impl_numbersText.l0 ys9 l4 i7 = some o15) [3, 5, 9, 10, 11, 12, 13, 14, 15, 16, 17, 18] (fun ((ys9, l4, i7, A5, c6) : (List Int) × (List ByteArray) × Int × (Option Addr) × Nat) => [(3, .slice A5 l4.length c6), (9, .int .i64 i7)]) (fun ((ys9, l4, i7, A5, c6) : (List Int) × (List ByteArray) × Int × (Option Addr) × Nat) => [row Kd.string 9 (.slice A5 l4.length c6) l4]) l0.length (l0, ([] : List ByteArray), 0, A1, c2) ⟨Rg.start _, rfl, hl14⟩ ⟨rfl, rfl, trivial⟩ (fun w h => h) ?_
  refine fun k10 => cur5 (listC (fun l4 i7 A5 c6 U16 hJ_ => ?_) (fun y8 ys9 l4 i7 A5 c6 U16 hJ_ => ?_))
  · skip
    clear hl14
    have hr11 := hJ_.1; have hk17 := hJ_.2.1; have h := hJ_.2.2; clear hJ_
    replace h : impl_numbersText.l0 [] l4 i7 = some o15 := h
    rw [impl_numbersText.l0] at h
    refine c_seq ?_
    refine za0 ?_
    refine o_q rfl rfl (q_lss rfl rfl) ?_
    refine o_end ?_
    refine za1 ?_
    refine c_seq ?_
    refine c_false (congrArg Value.bool hr11.ge) ?_
    refine c_exit ?_
    refine za7 ?_
    refine za7 ?_
    have e_ := Option.some.inj h; replace h := hR13; rw [← e_] at h; clear e_
    refine x_hit ?_
    refine za1 ?_
    refine c_seq ?_
    refine za0 ?_
    refine o_q rfl rfl (za2 rfl) ?_
    refine za6 h (fun s19 hx18 h => ?_) rfl
    refine o_e rfl (zac 0 Z Tryd.func62 N62 rfl rfl rfl (fun w P1 hF hB hS hT => impl_listed.calls A5 c6 l4.length l4 hB hF (hT 0 _ rfl).row (hT 0 _ rfl).cap _ hx18)) (fun _ => ?_)
    refine o_q rfl rfl (q_asg rfl) ?_
    refine o_end ?_
    refine za1 ?_
    refine c_ret ?_
    have e0_ := Option.some.inj h; clear h
    subst e0_
    exact x_r1 () Tryd.results63 (zaa rfl) rfl (fun w h => za8 [] (by decide) rfl w h)
  · skip
    clear hl14
    have hr11 := hJ_.1; have hk17 := hJ_.2.1; have h := hJ_.2.2; clear hJ_
    replace h : impl_numbersText.l0 (y8 :: ys9) l4 i7 = some o15 := h
    rw [impl_numbersText.l0] at h
    refine c_seq ?_
    refine za0 ?_
    refine o_q rfl rfl (q_lss rfl rfl) ?_
    refine o_end ?_
    refine za1 ?_
    refine c_seq ?_
    refine c_true (congrArg Value.bool hr11.lt) ?_
    refine zah ?_
    refine za1 ?_
    refine c_seq ?_
    refine zaf ?_
    refine c_seq ?_
    refine za0 ?_
    refine o_fact (p := Sh A0 l0.length l0.length) (fun w h => f_sh (dk := (Kd.int .i64)) h (fun w h => R0.now Z h)) (fun hq20 => ?_)
    refine o_q rfl rfl (q_ix Tryd.underlying23 Z3 rfl rfl hq20 hr11.get) ?_
    refine o_q rfl rfl (q_lde (off := 0) Y3 rfl rfl (fun w h => R0.now Z h) hr11.get (fun _ _ h => h) rfl) ?_
    refine o_q rfl rfl (q_asg rfl) ?_
    refine o_end ?_
    refine za1 ?_
    refine za0 ?_
    refine o_q rfl rfl (za2 rfl) ?_
    refine o_q rfl rfl (za2 rfl) ?_
    refine za6 h (fun s22 hx21 h => ?_) rfl
    refine o_e rfl (zac 0 Z Tryd.func61 N61 rfl rfl rfl (fun w P1 hF hB hS hT => strconv_Itoa.calls y8 hB hF _ hx21)) (fun _ => ?_)
    refine o_e rfl (e_lit (vs := [(0, .string s22)]) (cs := [.string s22]) Kd.string ([s22] : List ByteArray) Tryd.underlying64 I9 (by decide) rfl (by decide) rfl rfl (fun _ _ => Kd.reps_scalar _)) (cur2 (fun A23 c24 => ?_))
    refine za6 h (fun l26 ha27 h => ?_) rfl
    refine o_e rfl (e_app (i := 1) (j := 0) Tryd.underlying64 I9 rfl (by decide) (by decide) rfl rfl rfl rfl rfl ha27) (cur2 (fun A28 c29 => ?_))
    refine o_q rfl rfl (q_asg rfl) ?_
    refine o_end ?_
    refine x_block ?_
    refine za1 ?_
    refine za0 ?_
    refine o_q rfl rfl (q_up rfl rfl (hr11.up hm12)) ?_
    refine o_q rfl rfl (za2 rfl) ?_
    refine o_end ?_
    refine x_roundL ys9.length (ys9, l26, i7 + 1, A28, c29) (by rw [← hk17]; exact Nat.lt_succ_self _) ⟨hr11.step, rfl, h⟩ ⟨rfl, rfl, trivial⟩ (fun w h => za8 [1] (by decide) rfl w h) ?_
    repeat (first | exact off_refl _ _ | refine off_upd rfl ?_ | refine off_updL rfl ?_ | refine off_mix rfl ?_)

/-! ### (*loop.example/g01098/impl.Plan).text: function 27 -/
def impl_Plan_text.l0 : (List SStep) → (List ByteArray) → Int → Option (List ByteArray)
  | [], l4, i7 => some l4
  | y8 :: ys9, l4, i7 => (strconv_Itoa.f y8.f0).bind fun s36 => (sap s36 (⟨#[42]⟩ : ByteArray)).bind fun s38 => (strconv_Itoa.f y8.f1).bind fun s40 => (sap s38 s40).bind fun s42 => (ap l4 ([s42] : List ByteArray)).bind fun l46 => impl_Plan_text.l0 ys9 l46 (i7 + 1)
def impl_Plan_text.f (a0_0 : Int) (l0_1 : List SStep) (l0_2 : List Int) : Option ByteArray := (impl_Plan_text.l0 l0_1 ([] : List ByteArray) 0).bind fun l4 => (strconv_Itoa.f a0_0).bind fun s19 => (sap s19 (⟨#[58]⟩ : ByteArray)).bind fun s21 => (impl_listed.f l4).bind fun s23 => (sap s21 s23).bind fun s25 => (sap s25 (⟨#[58]⟩ : ByteArray)).bind fun s27 => (impl_numbersText.f l0_2).bind fun s29 => (sap s27 s29).bind fun s31 => some s31
set_option maxHeartbeats 600000 in
set_option maxRecDepth 100000 in
theorem impl_Plan_text.calls {w0 ws : World} {P0 : Nat → Prop} (g0 : Nat) (a0_0 : Int) (A0_1 : Option Addr) (c0_1 : Nat) (n0_1 : Nat) (l0_1 : List SStep) (A0_2 : Option Addr) (c0_2 : Nat) (n0_2 : Nat) (l0_2 : List Int) (Z : Below w0.heap.size w0 ws) (hF : Fr w0 ws P0 [] ws) (R0_1 : Stable ws P0 (fun w => Kd.C kStep w A0_1 n0_1 l0_1)) (hc0_1 : n0_1 ≤ c0_1) (R0_2 : Stable ws P0 (fun w => Kd.C (Kd.int .i64) w A0_2 n0_2 l0_2)) (hc0_2 : n0_2 ≤ c0_2) (B0 : Stable ws P0 (fun w => w.heap[g0]? = some (.cells #[.int .i64 a0_0, .slice A0_1 n0_1 c0_1, .slice A0_2 n0_2 c0_2] 31 (0, 0)))) (r_1 : ByteArray) (h : impl_Plan_text.f a0_0 l0_1 l0_2 = some r_1) :
    Calls Tryd.prog 27 #[.pointer (some ⟨g0, 0, none⟩)] ws (Post1 w0 ws P0 (fun (_ : Unit) => .string r_1) (fun (_ : Unit) => [])) := by
  unfold impl_Plan_text.f at h
  obtain rfl := (R0_1 ws (KeptB.refl _ _)).1
  obtain rfl := (R0_2 ws (KeptB.refl _ _)).1
  refine enter Tryd.func27 rfl Tryd.ntmps27 rfl hF ?_
  refine c_seq ?_
  refine za0 ?_
  refine o_q rfl rfl (q_asg rfl) ?_
  refine o_end ?_
  refine za1 ?_
  refine c_seq ?_
  refine za0 ?_
  refine o_e rfl (e_lit0 Kd.string Tryd.underlying64 I9) (cur2 (fun A1 c2 => ?_))
  refine o_q rfl rfl (q_asg rfl) ?_
  refine o_end ?_
  refine za1 ?_
  refine c_seq ?_
  refine c_seq ?_
  refine za0 ?_
  refine o_q rfl rfl (za2 rfl) ?_
  refine o_q rfl rfl (q_nil rfl) ?_
  refine o_q rfl rfl (q_f F31_1 rfl) ?_
  refine o_q rfl rfl (q_ldb Y29 rfl (fun w h => B0.now Z h) rfl) ?_
  refine o_q rfl rfl (q_len Tryd.underlying29 rfl) ?_
  refine o_q rfl rfl (za2 rfl) ?_
  refine o_end ?_
  refine za1 ?_
  refine zaf ?_
  refine za6 h (fun o15 hl14 hR13 => ?_) rfl
  clear h
  refine c_fact (p := l0_1.length ≤ 9223372036854775807) (fun w h => (R0_1.now Z h).2.1) (fun hm12 => ?_)
  refine c_loopL (σ := (List SStep) × (List ByteArray) × Int × (Option Addr) × Nat) (fun k10 ((ys9, l4, i7, A5, c6) : (List SStep) × (List ByteArray) × Int × (Option Addr) × Nat) => Rg l0_1 i7 ys9 ∧ ys9.length = k10 ∧ impl_Plan_text.l0 ys9 l4 i7 = some o15) [3, 5, 12, 13, 14, 15, 16, 17, 18, 19, 20, 21, 22, 23, 24, 25, 26, 27] (fun ((ys9, l4, i7, A5, c6) : (List SStep) × (List ByteArray) × Int × (Option Addr) × Nat) => [(3, .slice A5 l4.length c6), (12, .int .i64 i7)]) (fun ((ys9, l4, i7, A5, c6) : (List SStep) × (List ByteArray) × Int × (Option Addr) × Nat) => [row Kd.string 9 (.slice A5 l4.length c6) l4]) l0_1.length (l0_1, ([] : List ByteArray), 0, A1, c2) ⟨Rg.start _, rfl, hl14⟩ ⟨rfl, rfl, trivial⟩ (fun w h => h) ?_
  refine fun k10 => cur5 (listC (fun l4 i7 A5 c6 U16 hJ_ => ?_) (fun y8 ys9 l4 i7 A5 c6 U16 hJ_ => ?_))
  · skip
    clear hl14
    have hr11 := hJ_.1; have hk17 := hJ_.2.1; have h := hJ_.2.2; clear hJ_
    replace h : impl_Plan_text.l0 [] l4 i7 = some o15 := h
    rw [impl_Plan_text.l0] at h
    refine c_seq ?_
    refine za0 ?_
    refine o_q rfl rfl (q_lss rfl rfl) ?_
    refine o_end ?_
    refine za1 ?_
    refine c_seq ?_
    refine c_false (congrArg Value.bool hr11.ge) ?_
    refine c_exit ?_
    refine za7 ?_
    refine za7 ?_
    have e_ := Option.some.inj h; replace h := hR13; rw [← e_] at h; clear e_
    refine x_hit ?_
    refine za1 ?_
    refine c_seq ?_
    refine a_start (ds := []) MO rfl ?_
    refine za9 0 rfl rfl rfl (by kernel_rfl) (fun _ _ _ h => h) (za2 rfl) ?_
    refine za9 1 rfl rfl rfl (by kernel_rfl) (fun _ _ _ h => h) (q_nil rfl) ?_
    refine za9 2 rfl rfl rfl (by kernel_rfl) (fun _ _ _ h => h) (q_f F31_0 rfl) ?_
    refine a_take 3 rfl rfl rfl (by kernel_rfl) (fun _ _ _ h => h) (fun w h => h) (q_ldb Y3 rfl (fun w h => B0.now Z h) rfl) ?_
    refine za9 6 rfl rfl rfl (by kernel_rfl) (fun _ _ _ h => h) (za2 rfl) ?_
    refine za9 10 rfl rfl rfl (by kernel_rfl) (fun _ _ _ h => h) (za2 rfl) ?_
    refine za9 11 rfl rfl rfl (by kernel_rfl) (fun _ _ _ h => h) (q_nil rfl) ?_
    refine za9 12 rfl rfl rfl (by kernel_rfl) (fun _ _ _ h => h) (q_f F31_2 rfl) ?_
    refine a_take 13 rfl rfl rfl (by kernel_rfl) (fun _ _ _ h => h) (fun w h => h) (q_ldb Y23 rfl (fun w h => B0.now Z h) rfl) ?_
    refine za6 h (fun s19 hx18 h => ?_) rfl
    refine a_one 4 rfl rfl (by kernel_rfl) rfl (zac 0 Z Tryd.func61 N61 rfl rfl rfl (fun w P1 hF hB hS hT => strconv_Itoa.calls a0_0 hB hF _ hx18)) (fun s w h => h) (fun _ => ?_)
    refine za6 h (fun s21 hs20 h => ?_) rfl
    refine za9 5 rfl rfl rfl (by kernel_rfl) (fun _ _ _ h => h) (q_sap rfl rfl hs20) ?_
    refine za6 h (fun s23 hx22 h => ?_) rfl
    refine a_one 7 rfl rfl (by kernel_rfl) rfl (zac 0 Z Tryd.func62 N62 rfl rfl rfl (fun w P1 hF hB hS hT => impl_listed.calls A5 c6 l4.length l4 hB hF (hT 0 _ rfl).row (hT 0 _ rfl).cap _ hx22)) (fun s w h => h) (fun _ => ?_)
    refine za6 h (fun s25 hs24 h => ?_) rfl
    refine za9 8 rfl rfl rfl (by kernel_rfl) (fun _ _ _ h => h) (q_sap rfl rfl hs24) ?_
    refine za6 h (fun s27 hs26 h => ?_) rfl
    refine za9 9 rfl rfl rfl (by kernel_rfl) (fun _ _ _ h => h) (q_sap rfl rfl hs26) ?_
    refine za6 h (fun s29 hx28 h => ?_) rfl
    refine a_one 14 rfl rfl (by kernel_rfl) rfl (zac 0 Z Tryd.func63 N63 rfl rfl rfl (fun w P1 hF hB hS hT => impl_numbersText.calls A0_2 c0_2 l0_2.length l0_2 hB hF (hS _ R0_2) hc0_2 _ hx28)) (fun s w h => h) (fun _ => ?_)
    refine za6 h (fun s31 hs30 h => ?_) rfl
    refine za9 15 rfl rfl rfl (by kernel_rfl) (fun _ _ _ h => h) (q_sap rfl rfl hs30) ?_
    refine za9 16 rfl rfl rfl (by kernel_rfl) (fun _ _ _ h => h) (q_asg rfl) ?_
    refine a_done (by kernel_rfl) ?_
    refine za1 ?_
    refine c_ret ?_
    have e0_ := Option.some.inj h; clear h
    subst e0_
    exact x_r1 () Tryd.results27 (zaa rfl) rfl (fun w h => za8 [] (by decide) rfl w h)
  · skip
    clear hl14
    have hr11 := hJ_.1; have hk17 := hJ_.2.1; have h := hJ_.2.2; clear hJ_
    replace h : impl_Plan_text.l0 (y8 :: ys9) l4 i7 = some o15 := h
    rw [impl_Plan_text.l0] at h
    refine c_seq ?_
    refine za0 ?_
    refine o_q rfl rfl (q_lss rfl rfl) ?_
    refine o_end ?_
    refine za1 ?_
    refine c_seq ?_
    refine c_true (congrArg Value.bool hr11.lt) ?_
    refine zah ?_
    refine za1 ?_
    refine c_seq ?_
    refine zaf ?_
    refine c_seq ?_
    refine za0 ?_
    refine o_fact (p := Sh A0_1 l0_1.length l0_1.length) (fun w h => f_sh (dk := kStep) h (fun w h => R0_1.now Z h)) (fun hq32 => ?_)
    refine o_q rfl rfl (q_ix Tryd.underlying29 Z69 rfl rfl hq32 hr11.get) ?_
    refine o_q rfl rfl (q_ldE G69 Z69 rfl rfl (fun w h => R0_1.now Z h) hr11.get (fun _ _ h => h) rfl) ?_
    refine o_e rfl (e_alloc V69 rfl) (fun g33 => ?_)
    refine o_e rfl (e_storeA (i := 0) rfl rfl rfl Z69 rfl rfl) (fun _ => ?_)
    refine o_end ?_
    refine za1 ?_
    refine a_startS (ds := []) [some 0, none] MO rfl ?_
    refine za9 0 rfl rfl rfl (by kernel_rfl) (fun _ _ _ h => h) (za2 rfl) ?_
    refine za9 1 rfl rfl rfl (by kernel_rfl) (fun _ _ _ h => h) (q_f F69_0 rfl) ?_
    refine a_take 2 rfl rfl rfl (by kernel_rfl) (fun _ _ _ h => h) (fun w h => f_selE [some 0, none] (by decide) w h rfl) (q_ldb Y3 rfl (fun w h => h.zad (i := 0) rfl) rfl) ?_
    refine za9 5 rfl rfl rfl (by kernel_rfl) (fun _ _ _ h => h) (q_f F69_1 rfl) ?_
    refine a_take 6 rfl rfl rfl (by kernel_rfl) (fun _ _ _ h => h) (fun w h => f_selE [some 0, none] (by decide) w h rfl) (q_ldb Y3 rfl (fun w h => h.zad (i := 0) rfl) rfl) ?_
    refine za6 h (fun s36 hx35 h => ?_) rfl
    refine a_one 3 rfl rfl (by kernel_rfl) rfl (zac 0 Z Tryd.func61 N61 rfl rfl rfl (fun w P1 hF hB hS hT => strconv_Itoa.calls y8.f0 hB hF _ hx35)) (fun s w h => f_selE [some 0, none] (by decide) w h rfl) (fun _ => ?_)
    refine za6 h (fun s38 hs37 h => ?_) rfl
    refine za9 4 rfl rfl rfl (by kernel_rfl) (fun _ _ _ h => h) (q_sap rfl rfl hs37) ?_
    refine za6 h (fun s40 hx39 h => ?_) rfl
    refine a_one 7 rfl rfl (by kernel_rfl) rfl (zac 0 Z Tryd.func61 N61 rfl rfl rfl (fun w P1 hF hB hS hT => strconv_Itoa.calls y8.f1 hB hF _ hx39)) (fun s w h => f_selE [some 0, none] (by decide) w h rfl) (fun _ => ?_)
    refine za6 h (fun s42 hs41 h => ?_) rfl
    refine za9 8 rfl rfl rfl (by kernel_rfl) (fun _ _ _ h => h) (q_sap rfl rfl hs41) ?_
    refine a_one 9 rfl rfl (by kernel_rfl) rfl (e_lit (vs := [(0, .string s42)]) (cs := [.string s42]) Kd.string ([s42] : List ByteArray) Tryd.underlying64 I9 (by decide) rfl (by decide) rfl rfl (fun _ _ => Kd.reps_scalar _)) (fun s w h => f_selE [some 1, none] (by decide) w h rfl) (cur2 (fun A43 c44 => ?_))
    refine za6 h (fun l46 ha47 h => ?_) rfl
    refine a_one 10 rfl rfl (by kernel_rfl) rfl (e_app (i := 2) (j := 0) Tryd.underlying64 I9 rfl (by decide) (by decide) rfl rfl rfl rfl rfl ha47) (fun s w h => f_selE [some 1, none] (by decide) w h rfl) (cur2 (fun A48 c49 => ?_))
    refine za9 11 rfl rfl rfl (by kernel_rfl) (fun _ _ _ h => h) (q_asg rfl) ?_
    refine a_done (by kernel_rfl) ?_
    refine x_block ?_
    refine za1 ?_
    refine za0 ?_
    refine o_q rfl rfl (q_up rfl rfl (hr11.up hm12)) ?_
    refine o_q rfl rfl (za2 rfl) ?_
    refine o_end ?_
    refine x_roundL ys9.length (ys9, l46, i7 + 1, A48, c49) (by rw [← hk17]; exact Nat.lt_succ_self _) ⟨hr11.step, rfl, h⟩ ⟨rfl, rfl, trivial⟩ (fun w h => za8 [2] (by decide) rfl w h) ?_
    repeat (first | exact off_refl _ _ | refine off_upd rfl ?_ | refine off_updL rfl ?_ | refine off_mix rfl ?_)

/-! ### loop.example/g01098/impl.PlanText: function 9 -/
def impl_PlanText.f (k : Nat) (a0_0 : Int) (l0_1 : List SStep) (l0_2 : List Int) : Option (ByteArray × Bool) := (impl_IsPlan.f k a0_0 l0_1 l0_2).bind fun b4 => if b4 = true then ((impl_Plan_text.f a0_0 l0_1 l0_2).bind fun s7 => some (s7, true)) else (some ((⟨#[]⟩ : ByteArray), false))
set_option maxHeartbeats 600000 in
set_option maxRecDepth 100000 in
theorem impl_PlanText.calls (k : Nat) {w0 ws : World} {P0 : Nat → Prop} (a0_0 : Int) (A0_1 : Option Addr) (c0_1 : Nat) (n0_1 : Nat) (l0_1 : List SStep) (A0_2 : Option Addr) (c0_2 : Nat) (n0_2 : Nat) (l0_2 : List Int) (Z : Below w0.heap.size w0 ws) (hF : Fr w0 ws P0 [] ws) (R0_1 : Stable ws P0 (fun w => Kd.C kStep w A0_1 n0_1 l0_1)) (hc0_1 : n0_1 ≤ c0_1) (R0_2 : Stable ws P0 (fun w => Kd.C (Kd.int .i64) w A0_2 n0_2 l0_2)) (hc0_2 : n0_2 ≤ c0_2) (r_1 : ByteArray) (r_2 : Bool) (h : impl_PlanText.f k a0_0 l0_1 l0_2 = some (r_1, r_2)) :
    Calls Tryd.prog 9 #[.agg #[.int .i64 a0_0, .slice A0_1 n0_1 c0_1, .slice A0_2 n0_2 c0_2]] ws (Post1 w0 ws P0 (fun (_ : Unit) => .tuple #[.string r_1, .bool r_2]) (fun (_ : Unit) => [])) := by
  unfold impl_PlanText.f at h
  obtain rfl := (R0_1 ws (KeptB.refl _ _)).1
  obtain rfl := (R0_2 ws (KeptB.refl _ _)).1
  refine enter Tryd.func9 rfl Tryd.ntmps9 rfl hF ?_
  refine c_seq ?_
  refine za0 ?_
  refine o_e rfl (e_box rfl) (fun g1 => ?_)
  refine o_q rfl rfl (q_asg rfl) ?_
  refine o_q rfl rfl (q_asg rfl) ?_
  refine o_end ?_
  refine za1 ?_
  refine c_seq ?_
  refine c_seq ?_
  refine za0 ?_
  refine o_q rfl rfl (q_ldB G31 Z31 rfl (fun w h => h.zad (i := 0) rfl) rfl) ?_
  refine za6 h (fun b4 hx3 h => ?_) rfl
  refine o_e rfl (zac 0 Z Tryd.func26 N26 rfl rfl rfl (fun w P1 hF hB hS hT => impl_IsPlan.calls k a0_0 A0_1 c0_1 l0_1.length l0_1 A0_2 c0_2 l0_2.length l0_2 hB hF (hS _ R0_1) hc0_1 (hS _ R0_2) hc0_2 _ hx3)) (fun _ => ?_)
  refine o_q rfl rfl (q_not rfl) ?_
  refine o_end ?_
  refine za1 ?_
  refine c_cond _ rfl (fun hb5 => ?_) (fun hb5 => ?_)
  · replace hb5 := nt_t hb5
    replace h := bb_f hb5 h
    refine c_seq ?_
    refine za0 ?_
    refine o_q rfl rfl (q_asg rfl) ?_
    refine o_q rfl rfl (q_asg rfl) ?_
    refine o_end ?_
    refine za1 ?_
    refine c_ret ?_
    refine za4 ?_
    have e0_ := Option.some.inj h; clear h
    have d0_ := (Prod.mk.inj e0_).1; have e1_ := (Prod.mk.inj e0_).2; clear e0_; subst d0_
    subst e1_
    exact x_r2 () Tryd.results9 (zaa rfl) (zaa rfl) rfl (fun w h => za8 [] (by decide) rfl w h)
  · replace hb5 := nt_f hb5
    replace h := bb_t hb5 h
    refine zah ?_
    refine za1 ?_
    refine c_seq ?_
    refine za0 ?_
    refine za6 h (fun s7 hx6 h => ?_) rfl
    refine o_e rfl (zac 0 Z Tryd.func27 N27 rfl rfl rfl (fun w P1 hF hB hS hT => impl_Plan_text.calls g1 a0_0 A0_1 c0_1 l0_1.length l0_1 A0_2 c0_2 l0_2.length l0_2 hB hF (hS _ R0_1) hc0_1 (hS _ R0_2) hc0_2 (hT 0 _ rfl).box _ hx6)) (fun _ => ?_)
    refine o_q rfl rfl (q_asg rfl) ?_
    refine o_q rfl rfl (q_asg rfl) ?_
    refine o_end ?_
    refine za1 ?_
    refine c_ret ?_
    have e0_ := Option.some.inj h; clear h
    have d0_ := (Prod.mk.inj e0_).1; have e1_ := (Prod.mk.inj e0_).2; clear e0_; subst d0_
    subst e1_
    exact x_r2 () Tryd.results9 (zaa rfl) (zaa rfl) rfl (fun w h => za8 [] (by decide) rfl w h)

/-! ### loop.example/g01098/laws.eqStep: function 64 -/
def laws_eqStep.f (a0 : SStep) (a1 : SStep) : Option Bool := if a0.f0 ≠ a1.f0 then (some false) else (if a0.f1 ≠ a1.f1 then (some false) else (some true))
set_option maxHeartbeats 600000 in
set_option maxRecDepth 100000 in
theorem laws_eqStep.calls {w0 ws : World} {P0 : Nat → Prop} (a0 : SStep) (a1 : SStep) (Z : Below w0.heap.size w0 ws) (hF : Fr w0 ws P0 [] ws)  (r_1 : Bool) (h : laws_eqStep.f a0 a1 = some r_1) :
    Calls Tryd.prog 64 #[.agg #[.int .i64 a0.f0, .int .i64 a0.f1], .agg #[.int .i64 a1.f0, .int .i64 a1.f1]] ws (Post1 w0 ws P0 (fun (_ : Unit) => .bool r_1) (fun (_ : Unit) => [])) := by
  unfold laws_eqStep.f at h
  refine enter Tryd.func64 rfl Tryd.ntmps64 rfl hF ?_
  refine c_seq ?_
  refine za0 ?_
  refine o_e rfl (e_box rfl) (fun g1 => ?_)
  refine o_e rfl (e_box rfl) (fun g3 => ?_)
  refine o_q rfl rfl (q_asg rfl) ?_
  refine o_end ?_
  refine za1 ?_
  refine c_seq ?_
  refine c_seq ?_
  refine za0 ?_
  refine o_q rfl rfl (q_f F69_0 rfl) ?_
  refine o_q rfl rfl (q_ldb Y3 rfl (fun w h => h.zad (i := 1) rfl) rfl) ?_
  refine o_q rfl rfl (q_f F69_0 rfl) ?_
  refine o_q rfl rfl (q_ldb Y3 rfl (fun w h => h.zad (i := 0) rfl) rfl) ?_
  refine o_q rfl rfl (q_neq rfl rfl) ?_
  refine o_end ?_
  refine za1 ?_
  refine c_cond _ rfl (fun hb5 => ?_) (fun hb5 => ?_)
  · skip
    replace h := br_t hb5 h
    refine c_seq ?_
    refine za0 ?_
    refine o_q rfl rfl (q_asg rfl) ?_
    refine o_end ?_
    refine za1 ?_
    refine c_ret ?_
    refine za4 ?_
    have e0_ := Option.some.inj h; clear h
    subst e0_
    exact x_r1 () Tryd.results64 (zaa rfl) rfl (fun w h => za8 [] (by decide) rfl w h)
  · skip
    replace h := br_f hb5 h
    refine zah ?_
    refine za1 ?_
    refine c_seq ?_
    refine c_seq ?_
    refine za0 ?_
    refine o_q rfl rfl (q_f F69_1 rfl) ?_
    refine o_q rfl rfl (q_ldb Y3 rfl (fun w h => h.zad (i := 1) rfl) rfl) ?_
    refine o_q rfl rfl (q_f F69_1 rfl) ?_
    refine o_q rfl rfl (q_ldb Y3 rfl (fun w h => h.zad (i := 0) rfl) rfl) ?_
    refine o_q rfl rfl (q_neq rfl rfl) ?_
    refine o_end ?_
    refine za1 ?_
    refine c_cond _ rfl (fun hb6 => ?_) (fun hb6 => ?_)
    · skip
      replace h := br_t hb6 h
      refine c_seq ?_
      refine za0 ?_
      refine o_q rfl rfl (q_asg rfl) ?_
      refine o_end ?_
      refine za1 ?_
      refine c_ret ?_
      refine za4 ?_
      have e0_ := Option.some.inj h; clear h
      subst e0_
      exact x_r1 () Tryd.results64 (zaa rfl) rfl (fun w h => za8 [] (by decide) rfl w h)
    · skip
      replace h := br_f hb6 h
      refine zah ?_
      refine za1 ?_
      refine c_seq ?_
      refine za0 ?_
      refine o_q rfl rfl (q_asg rfl) ?_
      refine o_end ?_
      refine za1 ?_
      refine c_ret ?_
      have e0_ := Option.some.inj h; clear h
      subst e0_
      exact x_r1 () Tryd.results64 (zaa rfl) rfl (fun w h => za8 [] (by decide) rfl w h)

/-! ### loop.example/g01098/laws.eqStepS: function 28 -/
def laws_eqStepS.l0 (l0 : List SStep) (l1 : List SStep) : Nat → Int → Option ((Bool) ⊕ (Unit))
  | 0, _ => none
  | k5 + 1, i2 => if i2 < (l0.length : Int) then ((gt l0 i2).bind fun y16 => (gt l1 i2).bind fun y19 => (laws_eqStep.f y16 y19).bind fun b21 => if b21 = true then (laws_eqStepS.l0 l0 l1 k5 (w64 (i2 + 1))) else (some (.inl false))) else (some (.inr ()))
def laws_eqStepS.f (k : Nat) (l0 : List SStep) (l1 : List SStep) : Option Bool := if (l0.length : Int) ≠ (l1.length : Int) then (some false) else ((laws_eqStepS.l0 l0 l1 k 0).bind fun o_ => match o_ with | .inl r_ => some r_ | .inr _ => some true)
set_option maxHeartbeats 600000 in
set_option maxRecDepth 100000 in
theorem laws_eqStepS.calls (k : Nat) {w0 ws : World} {P0 : Nat → Prop} (A0 : Option Addr) (c0 : Nat) (n0 : Nat) (l0 : List SStep) (A1 : Option Addr) (c1 : Nat) (n1 : Nat) (l1 : List SStep) (Z : Below w0.heap.size w0 ws) (hF : Fr w0 ws P0 [] ws) (R0 : Stable ws P0 (fun w => Kd.C kStep w A0 n0 l0)) (hc0 : n0 ≤ c0) (R1 : Stable ws P0 (fun w => Kd.C kStep w A1 n1 l1)) (hc1 : n1 ≤ c1) (r_1 : Bool) (h : laws_eqStepS.f k l0 l1 = some r_1) :
    Calls Tryd.prog 28 #[.slice A0 n0 c0, .slice A1 n1 c1] ws (Post1 w0 ws P0 (fun (_ : Unit) => .bool r_1) (fun (_ : Unit) => [])) := by
  unfold laws_eqStepS.f at h
  obtain rfl := (R0 ws (KeptB.refl _ _)).1
  obtain rfl := (R1 ws (KeptB.refl _ _)).1
  refine enter Tryd.func28 rfl Tryd.ntmps28 rfl hF ?_
  refine c_seq ?_
  refine za0 ?_
  refine o_q rfl rfl (q_asg rfl) ?_
  refine o_end ?_
  refine za1 ?_
  refine c_seq ?_
  refine c_seq ?_
  refine za0 ?_
  refine o_q rfl rfl (za2 rfl) ?_
  refine o_q rfl rfl (q_len Tryd.underlying29 rfl) ?_
  refine o_q rfl rfl (za2 rfl) ?_
  refine o_q rfl rfl (q_len Tryd.underlying29 rfl) ?_
  refine o_q rfl rfl (q_neq rfl rfl) ?_
  refine o_end ?_
  refine za1 ?_
  refine c_cond _ rfl (fun hb1 => ?_) (fun hb1 => ?_)
  · skip
    replace h := br_t hb1 h
    refine c_seq ?_
    refine za0 ?_
    refine o_q rfl rfl (q_asg rfl) ?_
    refine o_end ?_
    refine za1 ?_
    refine c_ret ?_
    refine za4 ?_
    have e0_ := Option.some.inj h; clear h
    subst e0_
    exact x_r1 () Tryd.results28 (zaa rfl) rfl (fun w h => za8 [] (by decide) rfl w h)
  · skip
    replace h := br_f hb1 h
    refine zah ?_
    refine za1 ?_
    refine c_seq ?_
    refine c_seq ?_
    refine za0 ?_
    refine o_q rfl rfl (q_asg rfl) ?_
    refine o_end ?_
    refine za1 ?_
    refine zaf ?_
    refine za6 h (fun o10 hl9 hR8 => ?_) rfl
    clear h
    refine c_loopL (σ := Int) (fun k5 (i2 : Int) => laws_eqStepS.l0 l0 l1 k5 i2 = some o10) [4, 5, 11, 12, 13, 14, 15, 16, 17, 18, 19, 20, 21, 22, 23, 24, 25, 26] (fun (i2 : Int) => [(5, .int .i64 i2)]) (fun (i2 : Int) => []) k 0 hl9 ⟨rfl, trivial⟩ (fun w h => h) ?_
    refine natC (fun i2 => fun U11 hJ_ => ?_) (fun k5 => (fun i2 => fun U11 hJ_ => ?_))
    · skip
      replace hJ_ : laws_eqStepS.l0 l0 l1 0 i2 = some o10 := hJ_
      rw [laws_eqStepS.l0] at hJ_
      exact noneE hJ_
    · skip
      clear hl9
      have h := hJ_; clear hJ_
      replace h : laws_eqStepS.l0 l0 l1 (k5 + 1) i2 = some o10 := h
      rw [laws_eqStepS.l0] at h
      refine c_seq ?_
      refine c_seq ?_
      refine za0 ?_
      refine o_q rfl rfl (za2 rfl) ?_
      refine o_q rfl rfl (za2 rfl) ?_
      refine o_q rfl rfl (q_len Tryd.underlying29 rfl) ?_
      refine o_q rfl rfl (q_lss rfl rfl) ?_
      refine o_end ?_
      refine za1 ?_
      refine c_cond _ rfl (fun hb13 => ?_) (fun hb13 => ?_)
      · skip
        replace h := br_t hb13 h
        refine zah ?_
        refine za1 ?_
        refine c_seq ?_
        refine zaf ?_
        refine c_seq ?_
        refine a_start (ds := []) MO rfl ?_
        refine za9 0 rfl rfl rfl (by kernel_rfl) (fun _ _ _ h => h) (za2 rfl) ?_
        refine za9 1 rfl rfl rfl (by kernel_rfl) (fun _ _ _ h => h) (za2 rfl) ?_
        refine a_fact (p := Sh A0 l0.length l0.length) (fun w h => f_sh (dk := kStep) h (fun w h => R0.now Z h)) (fun hq14 => ?_)
        refine za6 h (fun y16 hg15 h => ?_) rfl
        refine za9 2 rfl rfl rfl (by kernel_rfl) (fun _ _ _ h => h) (q_ix Tryd.underlying29 Z69 rfl rfl hq14 hg15) ?_
        refine a_take 3 rfl rfl rfl (by kernel_rfl) (fun _ _ _ h => h) (fun w h => h) (q_ldE G69 Z69 rfl rfl (fun w h => R0.now Z h) hg15 (fun _ _ h => h) rfl) ?_
        refine za9 4 rfl rfl rfl (by kernel_rfl) (fun _ _ _ h => h) (za2 rfl) ?_
        refine za9 5 rfl rfl rfl (by kernel_rfl) (fun _ _ _ h => h) (za2 rfl) ?_
        refine a_fact (p := Sh A1 l1.length l1.length) (fun w h => f_sh (dk := kStep) h (fun w h => R1.now Z h)) (fun hq17 => ?_)
        refine za6 h (fun y19 hg18 h => ?_) rfl
        refine za9 6 rfl rfl rfl (by kernel_rfl) (fun _ _ _ h => h) (q_ix Tryd.underlying29 Z69 rfl rfl hq17 hg18) ?_
        refine a_take 7 rfl rfl rfl (by kernel_rfl) (fun _ _ _ h => h) (fun w h => h) (q_ldE G69 Z69 rfl rfl (fun w h => R1.now Z h) hg18 (fun _ _ h => h) rfl) ?_
        refine za6 h (fun b21 hx20 h => ?_) rfl
        refine a_one 8 rfl rfl (by kernel_rfl) rfl (zac 0 Z Tryd.func64 N64 rfl rfl rfl (fun w P1 hF hB hS hT => laws_eqStep.calls y16 y19 hB hF _ hx20)) (fun s w h => h) (fun _ => ?_)
        refine za9 9 rfl rfl rfl (by kernel_rfl) (fun _ _ _ h => h) (q_not rfl) ?_
        refine a_done (by kernel_rfl) ?_
        refine za1 ?_
        refine c_cond _ rfl (fun hb22 => ?_) (fun hb22 => ?_)
        · replace hb22 := nt_t hb22
          replace h := bb_f hb22 h
          refine c_seq ?_
          refine za0 ?_
          refine o_q rfl rfl (q_asg rfl) ?_
          refine o_end ?_
          refine za1 ?_
          refine c_ret ?_
          refine zae ?_
          refine za4 ?_
          refine za4 ?_
          have e_ := Option.some.inj h; replace h := hR8; rw [← e_] at h; clear e_
          refine zae ?_
          refine za4 ?_
          have e0_ := Option.some.inj h; clear h
          subst e0_
          exact x_r1 () Tryd.results28 (zaa rfl) rfl (fun w h => za8 [] (by decide) rfl w h)
        · replace hb22 := nt_f hb22
          replace h := bb_t hb22 h
          refine zah ?_
          refine x_block ?_
          refine za1 ?_
          refine za0 ?_
          refine o_q rfl rfl (za2 rfl) ?_
          refine o_q rfl rfl (q_add64 rfl rfl) ?_
          refine o_q rfl rfl (q_asg rfl) ?_
          refine o_end ?_
          refine x_roundL k5 (w64 (i2 + 1)) (Nat.lt_succ_self _) h ⟨rfl, trivial⟩ (fun w h => za8 [] (by decide) rfl w h) ?_
          repeat (first | exact off_refl _ _ | refine off_upd rfl ?_ | refine off_updL rfl ?_ | refine off_mix rfl ?_)
      · skip
        replace h := br_f hb13 h
        refine c_exit ?_
        refine za7 ?_
        refine za7 ?_
        have e_ := Option.some.inj h; replace h := hR8; rw [← e_] at h; clear e_
        refine x_hit ?_
        refine za1 ?_
        refine c_seq ?_
        refine za0 ?_
        refine o_q rfl rfl (q_asg rfl) ?_
        refine o_end ?_
        refine za1 ?_
        refine c_ret ?_
        have e0_ := Option.some.inj h; clear h
        subst e0_
        exact x_r1 () Tryd.results28 (zaa rfl) rfl (fun w h => za8 [] (by decide) rfl w h)

/-! ### loop.example/g01098/laws.eqIntS: function 29 -/
def laws_eqIntS.l0 (l0 : List Int) (l1 : List Int) : Nat → Int → Option ((Bool) ⊕ (Unit))
  | 0, _ => none
  | k5 + 1, i2 => if i2 < (l0.length : Int) then ((gt l0 i2).bind fun y16 => (gt l1 i2).bind fun y19 => if y16 ≠ y19 then (some (.inl false)) else (laws_eqIntS.l0 l0 l1 k5 (w64 (i2 + 1)))) else (some (.inr ()))
def laws_eqIntS.f (k : Nat) (l0 : List Int) (l1 : List Int) : Option Bool := if (l0.length : Int) ≠ (l1.length : Int) then (some false) else ((laws_eqIntS.l0 l0 l1 k 0).bind fun o_ => match o_ with | .inl r_ => some r_ | .inr _ => some true)
set_option maxHeartbeats 600000 in
set_option maxRecDepth 100000 in
theorem laws_eqIntS.calls (k : Nat) {w0 ws : World} {P0 : Nat → Prop} (A0 : Option Addr) (c0 : Nat) (n0 : Nat) (l0 : List Int) (A1 : Option Addr) (c1 : Nat) (n1 : Nat) (l1 : List Int) (Z : Below w0.heap.size w0 ws) (hF : Fr w0 ws P0 [] ws) (R0 : Stable ws P0 (fun w => Kd.C (Kd.int .i64) w A0 n0 l0)) (hc0 : n0 ≤ c0) (R1 : Stable ws P0 (fun w => Kd.C (Kd.int .i64) w A1 n1 l1)) (hc1 : n1 ≤ c1) (r_1 : Bool) (h : laws_eqIntS.f k l0 l1 = some r_1) :
    Calls Tryd.prog 29 #[.slice A0 n0 c0, .slice A1 n1 c1] ws (Post1 w0 ws P0 (fun (_ : Unit) => .bool r_1) (fun (_ : Unit) => [])) := by
  unfold laws_eqIntS.f at h
  obtain rfl := (R0 ws (KeptB.refl _ _)).1
  obtain rfl := (R1 ws (KeptB.refl _ _)).1
  refine enter Tryd.func29 rfl Tryd.ntmps29 rfl hF ?_
  refine c_seq ?_
  refine za0 ?_
  refine o_q rfl rfl (q_asg rfl) ?_
  refine o_end ?_
  refine za1 ?_
  refine c_seq ?_
  refine c_seq ?_
  refine za0 ?_
  refine o_q rfl rfl (za2 rfl) ?_
  refine o_q rfl rfl (q_len Tryd.underlying23 rfl) ?_
  refine o_q rfl rfl (za2 rfl) ?_
  refine o_q rfl rfl (q_len Tryd.underlying23 rfl) ?_
  refine o_q rfl rfl (q_neq rfl rfl) ?_
  refine o_end ?_
  refine za1 ?_
  refine c_cond _ rfl (fun hb1 => ?_) (fun hb1 => ?_)
  · skip
    replace h := br_t hb1 h
    refine c_seq ?_
    refine za0 ?_
    refine o_q rfl rfl (q_asg rfl) ?_
    refine o_end ?_
    refine za1 ?_
    refine c_ret ?_
    refine za4 ?_
    have e0_ := Option.some.inj h; clear h
    subst e0_
    exact x_r1 () Tryd.results29 (zaa rfl) rfl (fun w h => za8 [] (by decide) rfl w h)
  · skip
    replace h := br_f hb1 h
    refine zah ?_
    refine za1 ?_
    refine c_seq ?_
    refine c_seq ?_
    refine za0 ?_
    refine o_q rfl rfl (q_asg rfl) ?_
    refine o_end ?_
    refine za1 ?_
    refine zaf ?_
    refine za6 h (fun o10 hl9 hR8 => ?_) rfl
    clear h
    refine c_loopL (σ := Int) (fun k5 (i2 : Int) => laws_eqIntS.l0 l0 l1 k5 i2 = some o10) [4, 5, 11, 12, 13, 14, 15, 16, 17, 18, 19, 20, 21, 22, 23, 24, 25] (fun (i2 : Int) => [(5, .int .i64 i2)]) (fun (i2 : Int) => []) k 0 hl9 ⟨rfl, trivial⟩ (fun w h => h) ?_
    refine natC (fun i2 => fun U11 hJ_ => ?_) (fun k5 => (fun i2 => fun U11 hJ_ => ?_))
    · skip
      replace hJ_ : laws_eqIntS.l0 l0 l1 0 i2 = some o10 := hJ_
      rw [laws_eqIntS.l0] at hJ_
      exact noneE hJ_
    · skip
      clear hl9
      have h := hJ_; clear hJ_
      replace h : laws_eqIntS.l0 l0 l1 (k5 + 1) i2 = some o10 := h
      rw [laws_eqIntS.l0] at h
      refine c_seq ?_
      refine c_seq ?_
      refine za0 ?_
      refine o_q rfl rfl (za2 rfl) ?_
      refine o_q rfl rfl (za2 rfl) ?_
      refine o_q rfl rfl (q_len Tryd.underlying23 rfl) ?_
      refine o_q rfl rfl (q_lss rfl rfl) ?_
      refine o_end ?_
      refine za1 ?_
      refine c_cond _ rfl (fun hb13 => ?_) (fun hb13 => ?_)
      · skip
        replace h := br_t hb13 h
        refine zah ?_
        refine za1 ?_
        refine c_seq ?_
        refine zaf ?_
        refine c_seq ?_
        refine a_start (ds := []) MO rfl ?_
        refine za9 0 rfl rfl rfl (by kernel_rfl) (fun _ _ _ h => h) (za2 rfl) ?_
        refine za9 1 rfl rfl rfl (by kernel_rfl) (fun _ _ _ h => h) (za2 rfl) ?_
        refine a_fact (p := Sh A0 l0.length l0.length) (fun w h => f_sh (dk := (Kd.int .i64)) h (fun w h => R0.now Z h)) (fun hq14 => ?_)
        refine za6 h (fun y16 hg15 h => ?_) rfl
        refine za9 2 rfl rfl rfl (by kernel_rfl) (fun _ _ _ h => h) (q_ix Tryd.underlying23 Z3 rfl rfl hq14 hg15) ?_
        refine a_take 3 rfl rfl rfl (by kernel_rfl) (fun _ _ _ h => h) (fun w h => h) (q_lde (off := 0) Y3 rfl rfl (fun w h => R0.now Z h) hg15 (fun _ _ h => h) rfl) ?_
        refine za9 4 rfl rfl rfl (by kernel_rfl) (fun _ _ _ h => h) (za2 rfl) ?_
        refine za9 5 rfl rfl rfl (by kernel_rfl) (fun _ _ _ h => h) (za2 rfl) ?_
        refine a_fact (p := Sh A1 l1.length l1.length) (fun w h => f_sh (dk := (Kd.int .i64)) h (fun w h => R1.now Z h)) (fun hq17 => ?_)
        refine za6 h (fun y19 hg18 h => ?_) rfl
        refine za9 6 rfl rfl rfl (by kernel_rfl) (fun _ _ _ h => h) (q_ix Tryd.underlying23 Z3 rfl rfl hq17 hg18) ?_
        refine a_take 7 rfl rfl rfl (by kernel_rfl) (fun _ _ _ h => h) (fun w h => h) (q_lde (off := 0) Y3 rfl rfl (fun w h => R1.now Z h) hg18 (fun _ _ h => h) rfl) ?_
        refine za9 8 rfl rfl rfl (by kernel_rfl) (fun _ _ _ h => h) (q_neq rfl rfl) ?_
        refine a_done (by kernel_rfl) ?_
        refine za1 ?_
        refine c_cond _ rfl (fun hb20 => ?_) (fun hb20 => ?_)
        · skip
          replace h := br_t hb20 h
          refine c_seq ?_
          refine za0 ?_
          refine o_q rfl rfl (q_asg rfl) ?_
          refine o_end ?_
          refine za1 ?_
          refine c_ret ?_
          refine zae ?_
          refine za4 ?_
          refine za4 ?_
          have e_ := Option.some.inj h; replace h := hR8; rw [← e_] at h; clear e_
          refine zae ?_
          refine za4 ?_
          have e0_ := Option.some.inj h; clear h
          subst e0_
          exact x_r1 () Tryd.results29 (zaa rfl) rfl (fun w h => za8 [] (by decide) rfl w h)
        · skip
          replace h := br_f hb20 h
          refine zah ?_
          refine x_block ?_
          refine za1 ?_
          refine za0 ?_
          refine o_q rfl rfl (za2 rfl) ?_
          refine o_q rfl rfl (q_add64 rfl rfl) ?_
          refine o_q rfl rfl (q_asg rfl) ?_
          refine o_end ?_
          refine x_roundL k5 (w64 (i2 + 1)) (Nat.lt_succ_self _) h ⟨rfl, trivial⟩ (fun w h => za8 [] (by decide) rfl w h) ?_
          repeat (first | exact off_refl _ _ | refine off_upd rfl ?_ | refine off_updL rfl ?_ | refine off_mix rfl ?_)
      · skip
        replace h := br_f hb13 h
        refine c_exit ?_
        refine za7 ?_
        refine za7 ?_
        have e_ := Option.some.inj h; replace h := hR8; rw [← e_] at h; clear e_
        refine x_hit ?_
        refine za1 ?_
        refine c_seq ?_
        refine za0 ?_
        refine o_q rfl rfl (q_asg rfl) ?_
        refine o_end ?_
        refine za1 ?_
        refine c_ret ?_
        have e0_ := Option.some.inj h; clear h
        subst e0_
        exact x_r1 () Tryd.results29 (zaa rfl) rfl (fun w h => za8 [] (by decide) rfl w h)

/-! ### loop.example/g01098/laws.eqPlan: function 10 -/
def laws_eqPlan.f (k : Nat) (a0_0 : Int) (l0_1 : List SStep) (l0_2 : List Int) (a1_0 : Int) (l1_1 : List SStep) (l1_2 : List Int) : Option Bool := if a0_0 ≠ a1_0 then (some false) else ((laws_eqStepS.f k l0_1 l1_1).bind fun b7 => if b7 = true then ((laws_eqIntS.f k l0_2 l1_2).bind fun b10 => if b10 = true then (some true) else (some false)) else (some false))
set_option maxHeartbeats 600000 in
set_option maxRecDepth 100000 in
theorem laws_eqPlan.calls (k : Nat) {w0 ws : World} {P0 : Nat → Prop} (a0_0 : Int) (A0_1 : Option Addr) (c0_1 : Nat) (n0_1 : Nat) (l0_1 : List SStep) (A0_2 : Option Addr) (c0_2 : Nat) (n0_2 : Nat) (l0_2 : List Int) (a1_0 : Int) (A1_1 : Option Addr) (c1_1 : Nat) (n1_1 : Nat) (l1_1 : List SStep) (A1_2 : Option Addr) (c1_2 : Nat) (n1_2 : Nat) (l1_2 : List Int) (Z : Below w0.heap.size w0 ws) (hF : Fr w0 ws P0 [] ws) (R0_1 : Stable ws P0 (fun w => Kd.C kStep w A0_1 n0_1 l0_1)) (hc0_1 : n0_1 ≤ c0_1) (R0_2 : Stable ws P0 (fun w => Kd.C (Kd.int .i64) w A0_2 n0_2 l0_2)) (hc0_2 : n0_2 ≤ c0_2) (R1_1 : Stable ws P0 (fun w => Kd.C kStep w A1_1 n1_1 l1_1)) (hc1_1 : n1_1 ≤ c1_1) (R1_2 : Stable ws P0 (fun w => Kd.C (Kd.int .i64) w A1_2 n1_2 l1_2)) (hc1_2 : n1_2 ≤ c1_2) (r_1 : Bool) (h : laws_eqPlan.f k a0_0 l0_1 l0_2 a1_0 l1_1 l1_2 = some r_1) :
    Calls Tryd.prog 10 #[.agg #[.int .i64 a0_0, .slice A0_1 n0_1 c0_1, .slice A0_2 n0_2 c0_2], .agg #[.int .i64 a1_0, .slice A1_1 n1_1 c1_1, .slice A1_2 n1_2 c1_2]] ws (Post1 w0 ws P0 (fun (_ : Unit) => .bool r_1) (fun (_ : Unit) => [])) := by
  unfold laws_eqPlan.f at h
  obtain rfl := (R0_1 ws (KeptB.refl _ _)).1
  obtain rfl := (R0_2 ws (KeptB.refl _ _)).1
  obtain rfl := (R1_1 ws (KeptB.refl _ _)).1
  obtain rfl := (R1_2 ws (KeptB.refl _ _)).1
  refine enter Tryd.func10 rfl Tryd.ntmps10 rfl hF ?_
  refine c_seq ?_
  refine za0 ?_
  refine o_e rfl (e_box rfl) (fun g1 => ?_)
  refine o_e rfl (e_box rfl) (fun g3 => ?_)
  refine o_q rfl rfl (q_asg rfl) ?_
  refine o_end ?_
  refine za1 ?_
  refine c_seq ?_
  refine c_seq ?_
  refine za0 ?_
  refine o_q rfl rfl (q_f F31_0 rfl) ?_
  refine o_q rfl rfl (q_ldb Y3 rfl (fun w h => h.zad (i := 1) rfl) rfl) ?_
  refine o_q rfl rfl (q_f F31_0 rfl) ?_
  refine o_q rfl rfl (q_ldb Y3 rfl (fun w h => h.zad (i := 0) rfl) rfl) ?_
  refine o_q rfl rfl (q_neq rfl rfl) ?_
  refine o_end ?_
  refine za1 ?_
  refine c_cond _ rfl (fun hb5 => ?_) (fun hb5 => ?_)
  · skip
    replace h := br_t hb5 h
    refine c_seq ?_
    refine za0 ?_
    refine o_q rfl rfl (q_asg rfl) ?_
    refine o_end ?_
    refine za1 ?_
    refine c_ret ?_
    refine za4 ?_
    have e0_ := Option.some.inj h; clear h
    subst e0_
    exact x_r1 () Tryd.results10 (zaa rfl) rfl (fun w h => za8 [] (by decide) rfl w h)
  · skip
    replace h := br_f hb5 h
    refine zah ?_
    refine za1 ?_
    refine c_seq ?_
    refine c_seq ?_
    refine za0 ?_
    refine o_q rfl rfl (q_f F31_1 rfl) ?_
    refine o_q rfl rfl (q_ldb Y29 rfl (fun w h => h.zad (i := 1) rfl) rfl) ?_
    refine o_q rfl rfl (q_f F31_1 rfl) ?_
    refine o_q rfl rfl (q_ldb Y29 rfl (fun w h => h.zad (i := 0) rfl) rfl) ?_
    refine za6 h (fun b7 hx6 h => ?_) rfl
    refine o_e rfl (zac 0 Z Tryd.func28 N28 rfl rfl rfl (fun w P1 hF hB hS hT => laws_eqStepS.calls k A0_1 c0_1 l0_1.length l0_1 A1_1 c1_1 l1_1.length l1_1 hB hF (hS _ R0_1) hc0_1 (hS _ R1_1) hc1_1 _ hx6)) (fun _ => ?_)
    refine o_q rfl rfl (q_not rfl) ?_
    refine o_end ?_
    refine za1 ?_
    refine c_cond _ rfl (fun hb8 => ?_) (fun hb8 => ?_)
    · replace hb8 := nt_t hb8
      replace h := bb_f hb8 h
      refine c_seq ?_
      refine za0 ?_
      refine o_q rfl rfl (q_asg rfl) ?_
      refine o_end ?_
      refine za1 ?_
      refine c_ret ?_
      refine za4 ?_
      have e0_ := Option.some.inj h; clear h
      subst e0_
      exact x_r1 () Tryd.results10 (zaa rfl) rfl (fun w h => za8 [] (by decide) rfl w h)
    · replace hb8 := nt_f hb8
      replace h := bb_t hb8 h
      refine zah ?_
      refine za1 ?_
      refine c_seq ?_
      refine c_seq ?_
      refine za0 ?_
      refine o_q rfl rfl (q_f F31_2 rfl) ?_
      refine o_q rfl rfl (q_ldb Y23 rfl (fun w h => h.zad (i := 1) rfl) rfl) ?_
      refine o_q rfl rfl (q_f F31_2 rfl) ?_
      refine o_q rfl rfl (q_ldb Y23 rfl (fun w h => h.zad (i := 0) rfl) rfl) ?_
      refine za6 h (fun b10 hx9 h => ?_) rfl
      refine o_e rfl (zac 0 Z Tryd.func29 N29 rfl rfl rfl (fun w P1 hF hB hS hT => laws_eqIntS.calls k A0_2 c0_2 l0_2.length l0_2 A1_2 c1_2 l1_2.length l1_2 hB hF (hS _ R0_2) hc0_2 (hS _ R1_2) hc1_2 _ hx9)) (fun _ => ?_)
      refine o_q rfl rfl (q_not rfl) ?_
      refine o_end ?_
      refine za1 ?_
      refine c_cond _ rfl (fun hb11 => ?_) (fun hb11 => ?_)
      · replace hb11 := nt_t hb11
        replace h := bb_f hb11 h
        refine c_seq ?_
        refine za0 ?_
        refine o_q rfl rfl (q_asg rfl) ?_
        refine o_end ?_
        refine za1 ?_
        refine c_ret ?_
        refine za4 ?_
        have e0_ := Option.some.inj h; clear h
        subst e0_
        exact x_r1 () Tryd.results10 (zaa rfl) rfl (fun w h => za8 [] (by decide) rfl w h)
      · replace hb11 := nt_f hb11
        replace h := bb_t hb11 h
        refine zah ?_
        refine za1 ?_
        refine c_seq ?_
        refine za0 ?_
        refine o_q rfl rfl (q_asg rfl) ?_
        refine o_end ?_
        refine za1 ?_
        refine c_ret ?_
        have e0_ := Option.some.inj h; clear h
        subst e0_
        exact x_r1 () Tryd.results10 (zaa rfl) rfl (fun w h => za8 [] (by decide) rfl w h)

/-! ### loop.example/g01098/laws.FnExactPlanText: function 3 -/
def laws_FnExactPlanText.f (k : Nat) (a0_0 : Int) (l0_1 : List SStep) (l0_2 : List Int) : Option Bool := (laws_szPlan.f a0_0 l0_1 l0_2 1048576).bind fun i4 => if i4 < 0 then (some true) else ((laws_toPlan.f k a0_0 l0_1 l0_2).bind fun (l7, l8) => (spec_PlanText.f k a0_0 l7 l8).bind fun (s14, b15) => (laws_toPlan.f k a0_0 l0_1 l0_2).bind fun (l17, l18) => (impl_PlanText.f k a0_0 l17 l18).bind fun (s26, b27) => if s26 ≠ s14 then (some false) else (if (b27 != b15) = true then (some false) else ((laws_toPlan.f k a0_0 l0_1 l0_2).bind fun (l31, l32) => (laws_eqPlan.f k a0_0 l17 l18 a0_0 l31 l32).bind fun b38 => if b38 = true then (some true) else (some false))))
set_option maxHeartbeats 600000 in
set_option maxRecDepth 100000 in
theorem laws_FnExactPlanText.calls (k : Nat) {w0 ws : World} {P0 : Nat → Prop} (a0_0 : Int) (A0_1 : Option Addr) (c0_1 : Nat) (n0_1 : Nat) (l0_1 : List SStep) (A0_2 : Option Addr) (c0_2 : Nat) (n0_2 : Nat) (l0_2 : List Int) (Z : Below w0.heap.size w0 ws) (hF : Fr w0 ws P0 [] ws) (R0_1 : Stable ws P0 (fun w => Kd.C kStep w A0_1 n0_1 l0_1)) (hc0_1 : n0_1 ≤ c0_1) (R0_2 : Stable ws P0 (fun w => Kd.C (Kd.int .i64) w A0_2 n0_2 l0_2)) (hc0_2 : n0_2 ≤ c0_2) (r_1 : Bool) (h : laws_FnExactPlanText.f k a0_0 l0_1 l0_2 = some r_1) :
    Calls Tryd.prog 3 #[.agg #[.int .i64 a0_0, .slice A0_1 n0_1 c0_1, .slice A0_2 n0_2 c0_2]] ws (Post1 w0 ws P0 (fun (_ : Unit) => .bool r_1) (fun (_ : Unit) => [])) := by
  unfold laws_FnExactPlanText.f at h
  obtain rfl := (R0_1 ws (KeptB.refl _ _)).1
  obtain rfl := (R0_2 ws (KeptB.refl _ _)).1
  refine enter Tryd.func3 rfl Tryd.ntmps3 rfl hF ?_
  refine c_seq ?_
  refine za0 ?_
  refine o_e rfl (e_box rfl) (fun g1 => ?_)
  refine o_q rfl rfl (q_asg rfl) ?_
  refine o_end ?_
  refine za1 ?_
  refine c_seq ?_
  refine za0 ?_
  refine o_q rfl rfl (q_asg rfl) ?_
  refine o_end ?_
  refine za1 ?_
  refine c_seq ?_
  refine za0 ?_
  refine o_q rfl rfl (q_ldB G25 Z25 rfl (fun w h => h.zad (i := 0) rfl) rfl) ?_
  refine o_q rfl rfl (za2 rfl) ?_
  refine za6 h (fun i4 hx3 h => ?_) rfl
  refine o_e rfl (zac 0 Z Tryd.func6 N6 rfl rfl rfl (fun w P1 hF hB hS hT => laws_szPlan.calls a0_0 A0_1 c0_1 l0_1.length l0_1 A0_2 c0_2 l0_2.length l0_2 1048576 hB hF (hS _ R0_1) hc0_1 (hS _ R0_2) hc0_2 _ hx3)) (fun _ => ?_)
  refine o_q rfl rfl (q_asg rfl) ?_
  refine o_end ?_
  refine za1 ?_
  refine c_seq ?_
  refine c_seq ?_
  refine za0 ?_
  refine o_q rfl rfl (za2 rfl) ?_
  refine o_q rfl rfl (q_lss rfl rfl) ?_
  refine o_end ?_
  refine za1 ?_
  refine c_cond _ rfl (fun hb5 => ?_) (fun hb5 => ?_)
  · skip
    replace h := br_t hb5 h
    refine c_seq ?_
    refine za0 ?_
    refine o_q rfl rfl (q_asg rfl) ?_
    refine o_end ?_
    refine za1 ?_
    refine c_ret ?_
    refine za4 ?_
    have e0_ := Option.some.inj h; clear h
    subst e0_
    exact x_r1 () Tryd.results3 (zaa rfl) rfl (fun w h => za8 [] (by decide) rfl w h)
  · skip
    replace h := br_f hb5 h
    refine zah ?_
    refine za1 ?_
    refine c_seq ?_
    refine za0 ?_
    refine o_q rfl rfl (q_ldB G25 Z25 rfl (fun w h => h.zad (i := 0) rfl) rfl) ?_
    refine bindE2 h (fun l7 l8 hx6 h => ?_) rfl
    refine o_e rfl (zac 0 Z Tryd.func8 N8 rfl rfl rfl (fun w P1 hF hB hS hT => laws_toPlan.calls k a0_0 A0_1 c0_1 l0_1.length l0_1 A0_2 c0_2 l0_2.length l0_2 hB hF (hS _ R0_1) hc0_1 (hS _ R0_2) hc0_2 _ _ hx6)) (cur4 (fun A9 c10 A11 c12 => ?_))
    refine bindE2 h (fun s14 b15 hx13 h => ?_) rfl
    refine o_e rfl (zac 0 Z Tryd.func7 N7 rfl rfl rfl (fun w P1 hF hB hS hT => spec_PlanText.calls k a0_0 A9 c10 l7.length l7 A11 c12 l8.length l8 hB hF (hT 0 _ rfl).row (hT 0 _ rfl).cap (hT 1 _ rfl).row (hT 1 _ rfl).cap _ _ hx13)) (fun _ => ?_)
    refine o_q rfl rfl (za2 rfl) ?_
    refine o_q rfl rfl (q_ext rfl rfl) ?_
    refine o_q rfl rfl (q_ext rfl rfl) ?_
    refine o_q rfl rfl (q_asg rfl) ?_
    refine o_q rfl rfl (q_asg rfl) ?_
    refine o_end ?_
    refine za1 ?_
    refine c_seq ?_
    refine za0 ?_
    refine o_q rfl rfl (q_ldB G25 Z25 rfl (fun w h => h.zad (i := 2) rfl) rfl) ?_
    refine bindE2 h (fun l17 l18 hx16 h => ?_) rfl
    refine o_e rfl (zac 0 Z Tryd.func8 N8 rfl rfl rfl (fun w P1 hF hB hS hT => laws_toPlan.calls k a0_0 A0_1 c0_1 l0_1.length l0_1 A0_2 c0_2 l0_2.length l0_2 hB hF (hS _ R0_1) hc0_1 (hS _ R0_2) hc0_2 _ _ hx16)) (cur4 (fun A19 c20 A21 c22 => ?_))
    refine o_e rfl (e_alloc V31 rfl) (fun g23 => ?_)
    refine o_e rfl (e_storeA (i := 0) rfl rfl rfl Z31 rfl rfl) (fun _ => ?_)
    refine o_end ?_
    refine za1 ?_
    refine c_seq ?_
    refine za0 ?_
    refine o_q rfl rfl (q_ldB G31 Z31 rfl (fun w h => h.zad (i := 0) rfl) rfl) ?_
    refine bindE2 h (fun s26 b27 hx25 h => ?_) rfl
    refine o_e rfl (zac 0 Z Tryd.func9 N9 rfl rfl rfl (fun w P1 hF hB hS hT => impl_PlanText.calls k a0_0 A19 c20 l17.length l17 A21 c22 l18.length l18 hB hF (hT 1 _ rfl).row (hT 1 _ rfl).cap (hT 2 _ rfl).row (hT 2 _ rfl).cap _ _ hx25)) (fun _ => ?_)
    refine o_q rfl rfl (za2 rfl) ?_
    refine o_q rfl rfl (q_ext rfl rfl) ?_
    refine o_q rfl rfl (q_ext rfl rfl) ?_
    refine o_q rfl rfl (q_asg rfl) ?_
    refine o_q rfl rfl (q_asg rfl) ?_
    refine o_end ?_
    refine za1 ?_
    refine c_seq ?_
    refine c_seq ?_
    refine za0 ?_
    refine o_q rfl rfl (za2 rfl) ?_
    refine o_q rfl rfl (za2 rfl) ?_
    refine o_q rfl rfl (q_sneq rfl rfl) ?_
    refine o_q rfl rfl (za2 rfl) ?_
    refine byB (decide (s26 ≠ s14)) (fun hb28 => ?_) (fun hb28 => ?_)
    · replace h := br_t hb28 h
      refine @o_n _ _ _ _ _ _ _ _ _ _ _ 31 (za3 rfl rfl rfl (congrArg Value.bool hb28) rfl) (Eq.refl (some 31)) ?_
      refine @o_n _ _ _ _ _ _ _ _ _ _ _ 32 (za3 rfl rfl rfl (congrArg Value.bool hb28) rfl) (Eq.refl (some 32)) ?_
      refine @o_n _ _ _ _ _ _ _ _ _ _ _ 33 (za3 rfl rfl rfl (congrArg Value.bool hb28) rfl) (Eq.refl (some 33)) ?_
      refine o_q rfl rfl (q_pick true (congrArg Value.bool hb28) rfl) ?_
      refine o_end ?_
      refine za1 ?_
      refine c_true rfl ?_
      refine c_seq ?_
      refine za0 ?_
      refine o_q rfl rfl (q_asg rfl) ?_
      refine o_end ?_
      refine za1 ?_
      refine c_ret ?_
      refine za4 ?_
      have e0_ := Option.some.inj h; clear h
      subst e0_
      exact x_r1 () Tryd.results3 (zaa rfl) rfl (fun w h => za8 [] (by decide) rfl w h)
    · replace h := br_f hb28 h
      refine o_w (za5 rfl rfl rfl (congrArg Value.bool hb28)) rfl (za2 rfl) ?_
      refine o_w (za5 rfl rfl rfl (congrArg Value.bool hb28)) rfl (za2 rfl) ?_
      refine o_w (za5 rfl rfl rfl (congrArg Value.bool hb28)) rfl (q_bneq Tryd.underlying4 rfl rfl) ?_
      refine o_q rfl rfl (q_pick false (congrArg Value.bool hb28) rfl) ?_
      refine o_end ?_
      refine za1 ?_
      refine c_cond _ rfl (fun hb29 => ?_) (fun hb29 => ?_)
      · skip
        replace h := bb_t hb29 h
        refine c_seq ?_
        refine za0 ?_
        refine o_q rfl rfl (q_asg rfl) ?_
        refine o_end ?_
        refine za1 ?_
        refine c_ret ?_
        refine za4 ?_
        have e0_ := Option.some.inj h; clear h
        subst e0_
        exact x_r1 () Tryd.results3 (zaa rfl) rfl (fun w h => za8 [] (by decide) rfl w h)
      · skip
        replace h := bb_f hb29 h
        refine zah ?_
        refine za1 ?_
        refine c_seq ?_
        refine c_seq ?_
        refine a_start (ds := []) MO rfl ?_
        refine a_take 0 rfl rfl rfl (by kernel_rfl) (fun _ _ _ h => h) (fun w h => h) (q_ldB G31 Z31 rfl (fun w h => h.zad (i := 0) rfl) rfl) ?_
        refine a_take 1 rfl rfl rfl (by kernel_rfl) (fun _ _ _ h => h) (fun w h => h) (q_ldB G25 Z25 rfl (fun w h => h.zad (i := 5) rfl) rfl) ?_
        refine bindE2 h (fun l31 l32 hx30 h => ?_) rfl
        refine a_one 2 rfl rfl (by kernel_rfl) rfl (zac 0 Z Tryd.func8 N8 rfl rfl rfl (fun w P1 hF hB hS hT => laws_toPlan.calls k a0_0 A0_1 c0_1 l0_1.length l0_1 A0_2 c0_2 l0_2.length l0_2 hB hF (hS _ R0_1) hc0_1 (hS _ R0_2) hc0_2 _ _ hx30)) (fun s w h => f_selE [some 2, some 3, some 4, some 5, some 6, some 7] (by decide) w h rfl) (cur4 (fun A33 c34 A35 c36 => ?_))
        refine za6 h (fun b38 hx37 h => ?_) rfl
        refine a_one 3 rfl rfl (by kernel_rfl) rfl (zac 0 Z Tryd.func10 N10 rfl rfl rfl (fun w P1 hF hB hS hT => laws_eqPlan.calls k a0_0 A19 c20 l17.length l17 A21 c22 l18.length l18 a0_0 A33 c34 l31.length l31 A35 c36 l32.length l32 hB hF (hT 3 _ rfl).row (hT 3 _ rfl).cap (hT 4 _ rfl).row (hT 4 _ rfl).cap (hT 0 _ rfl).row (hT 0 _ rfl).cap (hT 1 _ rfl).row (hT 1 _ rfl).cap _ hx37)) (fun s w h => f_selE [some 2, some 3, some 4, some 5, some 6, some 7] (by decide) w h rfl) (fun _ => ?_)
        refine za9 4 rfl rfl rfl (by kernel_rfl) (fun _ _ _ h => h) (q_not rfl) ?_
        refine a_done (by kernel_rfl) ?_
        refine za1 ?_
        refine c_cond _ rfl (fun hb39 => ?_) (fun hb39 => ?_)
        · replace hb39 := nt_t hb39
          replace h := bb_f hb39 h
          refine c_seq ?_
          refine za0 ?_
          refine o_q rfl rfl (q_asg rfl) ?_
          refine o_end ?_
          refine za1 ?_
          refine c_ret ?_
          refine za4 ?_
          have e0_ := Option.some.inj h; clear h
          subst e0_
          exact x_r1 () Tryd.results3 (zaa rfl) rfl (fun w h => za8 [] (by decide) rfl w h)
        · replace hb39 := nt_f hb39
          replace h := bb_t hb39 h
          refine zah ?_
          refine za1 ?_
          refine c_seq ?_
          refine za0 ?_
          refine o_q rfl rfl (q_asg rfl) ?_
          refine o_end ?_
          refine za1 ?_
          refine c_ret ?_
          have e0_ := Option.some.inj h; clear h
          subst e0_
          exact x_r1 () Tryd.results3 (zaa rfl) rfl (fun w h => za8 [] (by decide) rfl w h)

/-- THE ONE PURE STATEMENT of laws_FnExactPlanText. -/
def laws_FnExactPlanText.Pure : Prop := ∀ (a0_0 : Int) (l0_1 : List SStep) (l0_2 : List Int), (Lit.int .i64 a0_0).wf = true → l0_1.length ≤ maxLen → (∀ y ∈ l0_1, (Lit.int .i64 y.f0).wf = true ∧ (Lit.int .i64 y.f1).wf = true) → l0_2.length ≤ maxLen → (∀ y ∈ l0_2, (Lit.int .i64 y).wf = true) → ∃ k, laws_FnExactPlanText.f k a0_0 l0_1 l0_2 = some true
theorem laws_FnExactPlanText.walk (P : laws_FnExactPlanText.Pure) (a0_0 : Int) (A0_1 : Option Addr) (c0_1 : Nat) (l0_1 : List SStep) (A0_2 : Option Addr) (c0_2 : Nat) (l0_2 : List Int) (w : World) (hr0_1 : Kd.C kStep w A0_1 l0_1.length l0_1) (hc0_1 : l0_1.length ≤ c0_1) (hr0_2 : Kd.C (Kd.int .i64) w A0_2 l0_2.length l0_2) (hc0_2 : l0_2.length ≤ c0_2) (q0 : (Lit.int .i64 a0_0).wf = true) (q1 : l0_1.length ≤ maxLen) (q2 : (∀ y ∈ l0_1, (Lit.int .i64 y.f0).wf = true ∧ (Lit.int .i64 y.f1).wf = true)) (q3 : l0_2.length ≤ maxLen) (q4 : (∀ y ∈ l0_2, (Lit.int .i64 y).wf = true)) :
    Calls Tryd.prog 3 #[.agg #[.int .i64 a0_0, .slice A0_1 l0_1.length c0_1, .slice A0_2 l0_2.length c0_2]] w fun e w' => e = .returned (.bool true) ∧ Below w.heap.size w w' := by
  obtain ⟨k, h⟩ := P a0_0 l0_1 l0_2 q0 q1 q2 q3 q4
  refine (laws_FnExactPlanText.calls k a0_0 A0_1 c0_1 l0_1.length l0_1 A0_2 c0_2 l0_2.length l0_2 (Below.refl _ _) (Fr.start w) (fun W hW => Kd.C_below hr0_1 hW.below) hc0_1 (fun W hW => Kd.C_below hr0_2 hW.below) hc0_2 true h).mono ?_
  rintro e w' ⟨s, rfl, hF⟩
  exact ⟨rfl, hF.bel⟩
end Go.Proofs.YtnnlfipcoahcnaaDoor.P1
