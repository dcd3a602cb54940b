import Derived.Test.YtnnlfipcoahcnaaGreatDoorKFnTextsOfPlansG2p1
namespace Go.Proofs.YtnnlfipcoahcnaaGreatDoor.G2
open Go.RowKit Go.Proofs.YtnnlfipcoahcnaaGreatDoor.Frame Go.Proofs.YtnnlfipcoahcnaaGreatDoorW.PrintLast Go.Proofs.YtnnlfipcoahcnaaGreatDoor.Hand
open Go.Proofs.YtnnlfipcoahcnaaGreatDoorW.PrintWords hiding mn mx
set_option linter.unusedVariables false
/-! ### loop.example/g01098/spec.DrawPlanText: function 7 -/
def spec_DrawPlanText.f (k : Nat) (l0 : List Int) : Option (Int × (List SStep) × (List Int)) := (spec_l1Cur_anyPlan.f k l0 0 0 3 8).bind fun (i6, l7, l8, i9, i10) => some (i6, l7, l8)
set_option maxHeartbeats 600000 in
set_option maxRecDepth 100000 in
theorem spec_DrawPlanText.calls (k : Nat) {w0 ws : World} {P0 : Nat → Prop} (A0 : Option Addr) (c0 : Nat) (n0 : Nat) (l0 : List Int) (Z : Below w0.heap.size w0 ws) (hF : Fr w0 ws P0 [] ws) (R0 : Stable ws P0 (fun w => Kd.C (Kd.int .u8) w A0 n0 l0)) (hc0 : n0 ≤ c0) (r_1 : Int) (r_2 : List SStep) (r_5 : List Int) (h : spec_DrawPlanText.f k l0 = some (r_1, r_2, r_5)) :
    Calls Tryz.prog 7 #[.slice A0 n0 c0] ws (Post1 w0 ws P0 (fun ((q_3, q_4, q_6, q_7) : (Option Addr) × Nat × (Option Addr) × Nat) => .agg #[.int .i64 r_1, .slice q_3 r_2.length q_4, .slice q_6 r_5.length q_7]) (fun ((q_3, q_4, q_6, q_7) : (Option Addr) × Nat × (Option Addr) × Nat) => [row kStep 72 (.slice q_3 r_2.length q_4) r_2, row (Kd.int .i64) 3 (.slice q_6 r_5.length q_7) r_5])) := by
  unfold spec_DrawPlanText.f at h
  obtain rfl := (R0 ws (KeptB.refl _ _)).1
  refine enter Tryz.func7 rfl Tryz.ntmps7 rfl hF ?_
  refine c_seq ?_
  refine za0 ?_
  refine o_e rfl (e_alloc V27 rfl) (fun g1 => ?_)
  refine o_end ?_
  refine za1 ?_
  refine c_seq ?_
  refine za0 ?_
  refine o_q rfl rfl (za2 rfl) ?_
  refine o_q rfl rfl (q_build (vs := [(0, .slice A0 l0.length c0)]) (cs := [.slice A0 l0.length c0, .int .i64 0, .int .u64 0]) rfl rfl) ?_
  refine o_e rfl (e_box rfl) (fun g3 => ?_)
  refine o_q rfl rfl (q_asg rfl) ?_
  refine o_end ?_
  refine za1 ?_
  refine c_seq ?_
  refine za0 ?_
  refine o_q rfl rfl (za2 rfl) ?_
  refine bindE5 h (fun i6 l7 l8 i9 i10 hx5 h => ?_) rfl
  refine o_e rfl (za9 1 Z Tryz.func31 N31 rfl rfl rfl (fun w P1 hF hB hS hT => spec_l1Cur_anyPlan.calls k g3 A0 c0 l0.length l0 0 0 3 8 hB hF (hS _ R0) hc0 _ _ _ _ _ hx5)) (cur4 (fun A11 c12 A13 c14 => ?_))
  refine o_e rfl (zat (i := 3) rfl rfl rfl Z27 rfl rfl) (fun _ => ?_)
  refine o_end ?_
  refine za1 ?_
  refine c_ret ?_
  have e0_ := Option.some.inj h; clear h
  have d0_ := (Prod.mk.inj e0_).1; have e1_ := (Prod.mk.inj e0_).2; clear e0_; subst d0_
  have d1_ := (Prod.mk.inj e1_).1; have e2_ := (Prod.mk.inj e1_).2; clear e1_; subst d1_
  subst e2_
  exact x_r1 (A11, c12, A13, c14) Tryz.results7 (rv_cell rfl G27 Z27 (fun w h => h.zae (i := 3) rfl) rfl) rfl (fun w h => za7 [0, 1] (by decide) rfl w h)

/-! ### loop.example/g01098/impl.listed: function 82 -/
def impl_listed.f (l0 : List ByteArray) : Option ByteArray := if (l0.length : Int) = 0 then (some (⟨#[45]⟩ : ByteArray)) else ((strings_Join.f l0 (⟨#[44]⟩ : ByteArray)).bind fun s3 => some s3)
set_option maxHeartbeats 600000 in
set_option maxRecDepth 100000 in
theorem impl_listed.calls {w0 ws : World} {P0 : Nat → Prop} (A0 : Option Addr) (c0 : Nat) (n0 : Nat) (l0 : List ByteArray) (Z : Below w0.heap.size w0 ws) (hF : Fr w0 ws P0 [] ws) (R0 : Stable ws P0 (fun w => Kd.C Kd.string w A0 n0 l0)) (hc0 : n0 ≤ c0) (r_1 : ByteArray) (h : impl_listed.f l0 = some r_1) :
    Calls Tryz.prog 82 #[.slice A0 n0 c0] ws (Post1 w0 ws P0 (fun (_ : Unit) => .string r_1) (fun (_ : Unit) => [])) := by
  unfold impl_listed.f at h
  obtain rfl := (R0 ws (KeptB.refl _ _)).1
  refine enter Tryz.func82 rfl Tryz.ntmps82 rfl hF ?_
  refine c_seq ?_
  refine za0 ?_
  refine o_q rfl rfl (q_asg rfl) ?_
  refine o_end ?_
  refine za1 ?_
  refine c_seq ?_
  refine c_seq ?_
  refine za0 ?_
  refine o_q rfl rfl (za2 rfl) ?_
  refine o_q rfl rfl (q_len Tryz.underlying64 rfl) ?_
  refine o_q rfl rfl (q_eql rfl rfl) ?_
  refine o_end ?_
  refine za1 ?_
  refine zaq _ rfl (fun hb1 => ?_) (fun hb1 => ?_)
  · skip
    replace h := br_t hb1 h
    refine c_seq ?_
    refine za0 ?_
    refine o_q rfl rfl (q_asg rfl) ?_
    refine o_end ?_
    refine za1 ?_
    refine c_ret ?_
    refine za8 ?_
    have e0_ := Option.some.inj h; clear h
    subst e0_
    exact x_r1 () Tryz.results82 (zai rfl) rfl (fun w h => za7 [] (by decide) rfl w h)
  · skip
    replace h := br_f hb1 h
    refine zak ?_
    refine za1 ?_
    refine c_seq ?_
    refine za0 ?_
    refine o_q rfl rfl (za2 rfl) ?_
    refine za6 h (fun s3 hx2 h => ?_) rfl
    refine o_e rfl (za9 0 Z Tryz.func99 N99 rfl rfl rfl (fun w P1 hF hB hS hT => strings_Join.calls A0 c0 l0.length l0 (⟨#[44]⟩ : ByteArray) hB hF (hS _ R0) hc0 _ hx2)) (fun _ => ?_)
    refine o_q rfl rfl (q_asg rfl) ?_
    refine o_end ?_
    refine za1 ?_
    refine c_ret ?_
    have e0_ := Option.some.inj h; clear h
    subst e0_
    exact x_r1 () Tryz.results82 (zai rfl) rfl (fun w h => za7 [] (by decide) rfl w h)

/-! ### loop.example/g01098/impl.numbersText: function 83 -/
def impl_numbersText.l0 : (List Int) → (List ByteArray) → Int → Option (List ByteArray)
  | [], l4, i7 => some l4
  | y8 :: ys9, l4, i7 => (strconv_Itoa.f y8).bind fun s22 => (ap l4 ([s22] : List ByteArray)).bind fun l26 => impl_numbersText.l0 ys9 l26 (i7 + 1)
def impl_numbersText.f (l0 : List Int) : Option ByteArray := (impl_numbersText.l0 l0 ([] : List ByteArray) 0).bind fun l4 => (impl_listed.f l4).bind fun s19 => some s19
set_option maxHeartbeats 600000 in
set_option maxRecDepth 100000 in
theorem impl_numbersText.calls {w0 ws : World} {P0 : Nat → Prop} (A0 : Option Addr) (c0 : Nat) (n0 : Nat) (l0 : List Int) (Z : Below w0.heap.size w0 ws) (hF : Fr w0 ws P0 [] ws) (R0 : Stable ws P0 (fun w => Kd.C (Kd.int .i64) w A0 n0 l0)) (hc0 : n0 ≤ c0) (r_1 : ByteArray) (h : impl_numbersText.f l0 = some r_1) :
    Calls Tryz.prog 83 #[.slice A0 n0 c0] ws (Post1 w0 ws P0 (fun (_ : Unit) => .string r_1) (fun (_ : Unit) => [])) := by
  unfold impl_numbersText.f at h
  obtain rfl := (R0 ws (KeptB.refl _ _)).1
  refine enter Tryz.func83 rfl Tryz.ntmps83 rfl hF ?_
  refine c_seq ?_
  refine za0 ?_
  refine o_q rfl rfl (q_asg rfl) ?_
  refine o_end ?_
  refine za1 ?_
  refine c_seq ?_
  refine za0 ?_
  refine o_e rfl (e_lit0 Kd.string Tryz.underlying64 I9) (cur2 (fun A1 c2 => ?_))
  refine o_q rfl rfl (q_asg rfl) ?_
  refine o_end ?_
  refine za1 ?_
  refine c_seq ?_
  refine c_seq ?_
  refine za0 ?_
  refine o_q rfl rfl (za2 rfl) ?_
  refine o_q rfl rfl (q_len Tryz.underlying25 rfl) ?_
  refine o_q rfl rfl (za2 rfl) ?_
  refine o_end ?_
  refine za1 ?_
  refine zaj ?_
  refine za6 h (fun o15 hl14 hR13 => ?_) rfl
  clear h
  refine c_fact (p := l0.length ≤ 9223372036854775807) (fun w h => (R0.now Z h).2.1) (fun hm12 => ?_)
  refine c_loopL (σ := (List Int) × (List ByteArray) × Int × (Option Addr) × Nat) (fun k10 ((ys9, l4, i7, A5, c6) : (List Int) × (List ByteArray) × Int × (Option Addr) × Nat) => Rg l0 i7 ys9 ∧ ys9.length = k10 ∧ impl_numbersText.l0 ys9 l4 i7 = some o15) [3, 5, 9, 10, 11, 12, 13, 14, 15, 16, 17, 18] (fun ((ys9, l4, i7, A5, c6) : (List Int) × (List ByteArray) × Int × (Option Addr) × Nat) => [(3, .slice A5 l4.length c6), (9, .int .i64 i7)]) (fun ((ys9, l4, i7, A5, c6) : (List Int) × (List ByteArray) × Int × (Option Addr) × Nat) => [row Kd.string 9 (.slice A5 l4.length c6) l4]) l0.length (l0, ([] : List ByteArray), 0, A1, c2) ⟨Rg.start _, rfl, hl14⟩ ⟨rfl, rfl, trivial⟩ (fun w h => h) ?_
  refine fun k10 => cur5 (listC (fun l4 i7 A5 c6 U16 hJ_ => ?_) (fun y8 ys9 l4 i7 A5 c6 U16 hJ_ => ?_))
  · skip
    clear hl14
    have hr11 := hJ_.1; have hk17 := hJ_.2.1; have h := hJ_.2.2; clear hJ_
    replace h : impl_numbersText.l0 [] l4 i7 = some o15 := h
    rw [impl_numbersText.l0] at h
    refine c_seq ?_
    refine za0 ?_
    refine o_q rfl rfl (q_lss rfl rfl) ?_
    refine o_end ?_
    refine za1 ?_
    refine c_seq ?_
    refine c_false (congrArg Value.bool hr11.ge) ?_
    refine c_exit ?_
    refine zaa ?_
    refine zaa ?_
    have e_ := Option.some.inj h; replace h := hR13; rw [← e_] at h; clear e_
    refine x_hit ?_
    refine za1 ?_
    refine c_seq ?_
    refine za0 ?_
    refine o_q rfl rfl (za2 rfl) ?_
    refine za6 h (fun s19 hx18 h => ?_) rfl
    refine o_e rfl (za9 0 Z Tryz.func82 N82 rfl rfl rfl (fun w P1 hF hB hS hT => impl_listed.calls A5 c6 l4.length l4 hB hF (hT 0 _ rfl).row (hT 0 _ rfl).cap _ hx18)) (fun _ => ?_)
    refine o_q rfl rfl (q_asg rfl) ?_
    refine o_end ?_
    refine za1 ?_
    refine c_ret ?_
    have e0_ := Option.some.inj h; clear h
    subst e0_
    exact x_r1 () Tryz.results83 (zai rfl) rfl (fun w h => za7 [] (by decide) rfl w h)
  · skip
    clear hl14
    have hr11 := hJ_.1; have hk17 := hJ_.2.1; have h := hJ_.2.2; clear hJ_
    replace h : impl_numbersText.l0 (y8 :: ys9) l4 i7 = some o15 := h
    rw [impl_numbersText.l0] at h
    refine c_seq ?_
    refine za0 ?_
    refine o_q rfl rfl (q_lss rfl rfl) ?_
    refine o_end ?_
    refine za1 ?_
    refine c_seq ?_
    refine c_true (congrArg Value.bool hr11.lt) ?_
    refine zak ?_
    refine za1 ?_
    refine c_seq ?_
    refine zaj ?_
    refine c_seq ?_
    refine za0 ?_
    refine o_fact (p := Sh A0 l0.length l0.length) (fun w h => f_sh (dk := (Kd.int .i64)) h (fun w h => R0.now Z h)) (fun hq20 => ?_)
    refine o_q rfl rfl (q_ix Tryz.underlying25 Z3 rfl rfl hq20 hr11.get) ?_
    refine o_q rfl rfl (q_lde (off := 0) Y3 rfl rfl (fun w h => R0.now Z h) hr11.get (fun _ _ h => h) rfl) ?_
    refine o_q rfl rfl (q_asg rfl) ?_
    refine o_end ?_
    refine za1 ?_
    refine za0 ?_
    refine o_q rfl rfl (za2 rfl) ?_
    refine o_q rfl rfl (za2 rfl) ?_
    refine za6 h (fun s22 hx21 h => ?_) rfl
    refine o_e rfl (za9 0 Z Tryz.func81 N81 rfl rfl rfl (fun w P1 hF hB hS hT => strconv_Itoa.calls y8 hB hF _ hx21)) (fun _ => ?_)
    refine o_e rfl (e_lit (vs := [(0, .string s22)]) (cs := [.string s22]) Kd.string ([s22] : List ByteArray) Tryz.underlying64 I9 (by decide) rfl (by decide) rfl rfl (fun _ _ => Kd.zar _)) (cur2 (fun A23 c24 => ?_))
    refine za6 h (fun l26 ha27 h => ?_) rfl
    refine o_e rfl (e_app (i := 1) (j := 0) Tryz.underlying64 I9 rfl (by decide) (by decide) rfl rfl rfl rfl rfl ha27) (cur2 (fun A28 c29 => ?_))
    refine o_q rfl rfl (q_asg rfl) ?_
    refine o_end ?_
    refine zal ?_
    refine za1 ?_
    refine za0 ?_
    refine o_q rfl rfl (q_up rfl rfl (hr11.up hm12)) ?_
    refine o_q rfl rfl (za2 rfl) ?_
    refine o_end ?_
    refine zam ys9.length (ys9, l26, i7 + 1, A28, c29) (by rw [← hk17]; exact Nat.lt_succ_self _) ⟨hr11.step, rfl, h⟩ ⟨rfl, rfl, trivial⟩ (fun w h => za7 [1] (by decide) rfl w h) ?_
    repeat (first | exact zac _ _ | refine zaf rfl ?_ | refine zad rfl ?_ | refine zah rfl ?_)

/-! ### (*loop.example/g01098/impl.Plan).text: function 32 -/
def impl_Plan_text.l0 : (List SStep) → (List ByteArray) → Int → Option (List ByteArray)
  | [], l4, i7 => some l4
  | y8 :: ys9, l4, i7 => (strconv_Itoa.f y8.f0).bind fun s36 => (sap s36 (⟨#[42]⟩ : ByteArray)).bind fun s38 => (strconv_Itoa.f y8.f1).bind fun s40 => (sap s38 s40).bind fun s42 => (ap l4 ([s42] : List ByteArray)).bind fun l46 => impl_Plan_text.l0 ys9 l46 (i7 + 1)
def impl_Plan_text.f (a0_0 : Int) (l0_1 : List SStep) (l0_2 : List Int) : Option ByteArray := (impl_Plan_text.l0 l0_1 ([] : List ByteArray) 0).bind fun l4 => (strconv_Itoa.f a0_0).bind fun s19 => (sap s19 (⟨#[58]⟩ : ByteArray)).bind fun s21 => (impl_listed.f l4).bind fun s23 => (sap s21 s23).bind fun s25 => (sap s25 (⟨#[58]⟩ : ByteArray)).bind fun s27 => (impl_numbersText.f l0_2).bind fun s29 => (sap s27 s29).bind fun s31 => some s31
set_option maxHeartbeats 600000 in
set_option maxRecDepth 100000 in
theorem impl_Plan_text.calls {w0 ws : World} {P0 : Nat → Prop} (g0 : Nat) (a0_0 : Int) (A0_1 : Option Addr) (c0_1 : Nat) (n0_1 : Nat) (l0_1 : List SStep) (A0_2 : Option Addr) (c0_2 : Nat) (n0_2 : Nat) (l0_2 : List Int) (Z : Below w0.heap.size w0 ws) (hF : Fr w0 ws P0 [] ws) (R0_1 : Stable ws P0 (fun w => Kd.C kStep w A0_1 n0_1 l0_1)) (hc0_1 : n0_1 ≤ c0_1) (R0_2 : Stable ws P0 (fun w => Kd.C (Kd.int .i64) w A0_2 n0_2 l0_2)) (hc0_2 : n0_2 ≤ c0_2) (B0 : Stable ws P0 (fun w => w.heap[g0]? = some (.cells #[.int .i64 a0_0, .slice A0_1 n0_1 c0_1, .slice A0_2 n0_2 c0_2] 27 (0, 0)))) (r_1 : ByteArray) (h : impl_Plan_text.f a0_0 l0_1 l0_2 = some r_1) :
    Calls Tryz.prog 32 #[.pointer (some ⟨g0, 0, none⟩)] ws (Post1 w0 ws P0 (fun (_ : Unit) => .string r_1) (fun (_ : Unit) => [])) := by
  unfold impl_Plan_text.f at h
  obtain rfl := (R0_1 ws (KeptB.refl _ _)).1
  obtain rfl := (R0_2 ws (KeptB.refl _ _)).1
  refine enter Tryz.func32 rfl Tryz.ntmps32 rfl hF ?_
  refine c_seq ?_
  refine za0 ?_
  refine o_q rfl rfl (q_asg rfl) ?_
  refine o_end ?_
  refine za1 ?_
  refine c_seq ?_
  refine za0 ?_
  refine o_e rfl (e_lit0 Kd.string Tryz.underlying64 I9) (cur2 (fun A1 c2 => ?_))
  refine o_q rfl rfl (q_asg rfl) ?_
  refine o_end ?_
  refine za1 ?_
  refine c_seq ?_
  refine c_seq ?_
  refine za0 ?_
  refine o_q rfl rfl (za2 rfl) ?_
  refine o_q rfl rfl (q_nil rfl) ?_
  refine o_q rfl rfl (q_f F27_1 rfl) ?_
  refine o_q rfl rfl (q_ldb Y24 rfl (fun w h => B0.now Z h) rfl) ?_
  refine o_q rfl rfl (q_len Tryz.underlying24 rfl) ?_
  refine o_q rfl rfl (za2 rfl) ?_
  refine o_end ?_
  refine za1 ?_
  refine zaj ?_
  refine za6 h (fun o15 hl14 hR13 => ?_) rfl
  clear h
  refine c_fact (p := l0_1.length ≤ 9223372036854775807) (fun w h => (R0_1.now Z h).2.1) (fun hm12 => ?_)
  refine c_loopL (σ := (List SStep) × (List ByteArray) × Int × (Option Addr) × Nat) (fun k10 ((ys9, l4, i7, A5, c6) : (List SStep) × (List ByteArray) × Int × (Option Addr) × Nat) => Rg l0_1 i7 ys9 ∧ ys9.length = k10 ∧ impl_Plan_text.l0 ys9 l4 i7 = some o15) [3, 5, 12, 13, 14, 15, 16, 17, 18, 19, 20, 21, 22, 23, 24, 25, 26, 27] (fun ((ys9, l4, i7, A5, c6) : (List SStep) × (List ByteArray) × Int × (Option Addr) × Nat) => [(3, .slice A5 l4.length c6), (12, .int .i64 i7)]) (fun ((ys9, l4, i7, A5, c6) : (List SStep) × (List ByteArray) × Int × (Option Addr) × Nat) => [row Kd.string 9 (.slice A5 l4.length c6) l4]) l0_1.length (l0_1, ([] : List ByteArray), 0, A1, c2) ⟨Rg.start _, rfl, hl14⟩ ⟨rfl, rfl, trivial⟩ (fun w h => h) ?_
  refine fun k10 => cur5 (listC (fun l4 i7 A5 c6 U16 hJ_ => ?_) (fun y8 ys9 l4 i7 A5 c6 U16 hJ_ => ?_))
  · skip
    clear hl14
    have hr11 := hJ_.1; have hk17 := hJ_.2.1; have h := hJ_.2.2; clear hJ_
    replace h : impl_Plan_text.l0 [] l4 i7 = some o15 := h
    rw [impl_Plan_text.l0] at h
    refine c_seq ?_
    refine za0 ?_
    refine o_q rfl rfl (q_lss rfl rfl) ?_
    refine o_end ?_
    refine za1 ?_
    refine c_seq ?_
    refine c_false (congrArg Value.bool hr11.ge) ?_
    refine c_exit ?_
    refine zaa ?_
    refine zaa ?_
    have e_ := Option.some.inj h; replace h := hR13; rw [← e_] at h; clear e_
    refine x_hit ?_
    refine za1 ?_
    refine c_seq ?_
    refine a_start (ds := []) MO rfl ?_
    refine za5 0 rfl rfl rfl (by kernel_rfl) (fun _ _ _ h => h) (za2 rfl) ?_
    refine za5 1 rfl rfl rfl (by kernel_rfl) (fun _ _ _ h => h) (q_nil rfl) ?_
    refine za5 2 rfl rfl rfl (by kernel_rfl) (fun _ _ _ h => h) (q_f F27_0 rfl) ?_
    refine a_take 3 rfl rfl rfl (by kernel_rfl) (fun _ _ _ h => h) (fun w h => h) (q_ldb Y3 rfl (fun w h => B0.now Z h) rfl) ?_
    refine za5 6 rfl rfl rfl (by kernel_rfl) (fun _ _ _ h => h) (za2 rfl) ?_
    refine za5 10 rfl rfl rfl (by kernel_rfl) (fun _ _ _ h => h) (za2 rfl) ?_
    refine za5 11 rfl rfl rfl (by kernel_rfl) (fun _ _ _ h => h) (q_nil rfl) ?_
    refine za5 12 rfl rfl rfl (by kernel_rfl) (fun _ _ _ h => h) (q_f F27_2 rfl) ?_
    refine a_take 13 rfl rfl rfl (by kernel_rfl) (fun _ _ _ h => h) (fun w h => h) (q_ldb Y25 rfl (fun w h => B0.now Z h) rfl) ?_
    refine za6 h (fun s19 hx18 h => ?_) rfl
    refine a_one 4 rfl rfl (by kernel_rfl) rfl (za9 0 Z Tryz.func81 N81 rfl rfl rfl (fun w P1 hF hB hS hT => strconv_Itoa.calls a0_0 hB hF _ hx18)) (fun s w h => h) (fun _ => ?_)
    refine za6 h (fun s21 hs20 h => ?_) rfl
    refine za5 5 rfl rfl rfl (by kernel_rfl) (fun _ _ _ h => h) (q_sap rfl rfl hs20) ?_
    refine za6 h (fun s23 hx22 h => ?_) rfl
    refine a_one 7 rfl rfl (by kernel_rfl) rfl (za9 0 Z Tryz.func82 N82 rfl rfl rfl (fun w P1 hF hB hS hT => impl_listed.calls A5 c6 l4.length l4 hB hF (hT 0 _ rfl).row (hT 0 _ rfl).cap _ hx22)) (fun s w h => h) (fun _ => ?_)
    refine za6 h (fun s25 hs24 h => ?_) rfl
    refine za5 8 rfl rfl rfl (by kernel_rfl) (fun _ _ _ h => h) (q_sap rfl rfl hs24) ?_
    refine za6 h (fun s27 hs26 h => ?_) rfl
    refine za5 9 rfl rfl rfl (by kernel_rfl) (fun _ _ _ h => h) (q_sap rfl rfl hs26) ?_
    refine za6 h (fun s29 hx28 h => ?_) rfl
    refine a_one 14 rfl rfl (by kernel_rfl) rfl (za9 0 Z Tryz.func83 N83 rfl rfl rfl (fun w P1 hF hB hS hT => impl_numbersText.calls A0_2 c0_2 l0_2.length l0_2 hB hF (hS _ R0_2) hc0_2 _ hx28)) (fun s w h => h) (fun _ => ?_)
    refine za6 h (fun s31 hs30 h => ?_) rfl
    refine za5 15 rfl rfl rfl (by kernel_rfl) (fun _ _ _ h => h) (q_sap rfl rfl hs30) ?_
    refine za5 16 rfl rfl rfl (by kernel_rfl) (fun _ _ _ h => h) (q_asg rfl) ?_
    refine zax (by kernel_rfl) ?_
    refine za1 ?_
    refine c_ret ?_
    have e0_ := Option.some.inj h; clear h
    subst e0_
    exact x_r1 () Tryz.results32 (zai rfl) rfl (fun w h => za7 [] (by decide) rfl w h)
  · skip
    clear hl14
    have hr11 := hJ_.1; have hk17 := hJ_.2.1; have h := hJ_.2.2; clear hJ_
    replace h : impl_Plan_text.l0 (y8 :: ys9) l4 i7 = some o15 := h
    rw [impl_Plan_text.l0] at h
    refine c_seq ?_
    refine za0 ?_
    refine o_q rfl rfl (q_lss rfl rfl) ?_
    refine o_end ?_
    refine za1 ?_
    refine c_seq ?_
    refine c_true (congrArg Value.bool hr11.lt) ?_
    refine zak ?_
    refine za1 ?_
    refine c_seq ?_
    refine zaj ?_
    refine c_seq ?_
    refine za0 ?_
    refine o_fact (p := Sh A0_1 l0_1.length l0_1.length) (fun w h => f_sh (dk := kStep) h (fun w h => R0_1.now Z h)) (fun hq32 => ?_)
    refine o_q rfl rfl (q_ix Tryz.underlying24 Z72 rfl rfl hq32 hr11.get) ?_
    refine o_q rfl rfl (q_ldE G72 Z72 rfl rfl (fun w h => R0_1.now Z h) hr11.get (fun _ _ h => h) rfl) ?_
    refine o_e rfl (e_alloc V72 rfl) (fun g33 => ?_)
    refine o_e rfl (zat (i := 0) rfl rfl rfl Z72 rfl rfl) (fun _ => ?_)
    refine o_end ?_
    refine za1 ?_
    refine a_startS (ds := []) [some 0, none] MO rfl ?_
    refine za5 0 rfl rfl rfl (by kernel_rfl) (fun _ _ _ h => h) (za2 rfl) ?_
    refine za5 1 rfl rfl rfl (by kernel_rfl) (fun _ _ _ h => h) (q_f F72_0 rfl) ?_
    refine a_take 2 rfl rfl rfl (by kernel_rfl) (fun _ _ _ h => h) (fun w h => zab [some 0, none] (by decide) w h rfl) (q_ldb Y3 rfl (fun w h => h.zae (i := 0) rfl) rfl) ?_
    refine za5 5 rfl rfl rfl (by kernel_rfl) (fun _ _ _ h => h) (q_f F72_1 rfl) ?_
    refine a_take 6 rfl rfl rfl (by kernel_rfl) (fun _ _ _ h => h) (fun w h => zab [some 0, none] (by decide) w h rfl) (q_ldb Y3 rfl (fun w h => h.zae (i := 0) rfl) rfl) ?_
    refine za6 h (fun s36 hx35 h => ?_) rfl
    refine a_one 3 rfl rfl (by kernel_rfl) rfl (za9 0 Z Tryz.func81 N81 rfl rfl rfl (fun w P1 hF hB hS hT => strconv_Itoa.calls y8.f0 hB hF _ hx35)) (fun s w h => zab [some 0, none] (by decide) w h rfl) (fun _ => ?_)
    refine za6 h (fun s38 hs37 h => ?_) rfl
    refine za5 4 rfl rfl rfl (by kernel_rfl) (fun _ _ _ h => h) (q_sap rfl rfl hs37) ?_
    refine za6 h (fun s40 hx39 h => ?_) rfl
    refine a_one 7 rfl rfl (by kernel_rfl) rfl (za9 0 Z Tryz.func81 N81 rfl rfl rfl (fun w P1 hF hB hS hT => strconv_Itoa.calls y8.f1 hB hF _ hx39)) (fun s w h => zab [some 0, none] (by decide) w h rfl) (fun _ => ?_)
    refine za6 h (fun s42 hs41 h => ?_) rfl
    refine za5 8 rfl rfl rfl (by kernel_rfl) (fun _ _ _ h => h) (q_sap rfl rfl hs41) ?_
    refine a_one 9 rfl rfl (by kernel_rfl) rfl (e_lit (vs := [(0, .string s42)]) (cs := [.string s42]) Kd.string ([s42] : List ByteArray) Tryz.underlying64 I9 (by decide) rfl (by decide) rfl rfl (fun _ _ => Kd.zar _)) (fun s w h => zab [some 1, none] (by decide) w h rfl) (cur2 (fun A43 c44 => ?_))
    refine za6 h (fun l46 ha47 h => ?_) rfl
    refine a_one 10 rfl rfl (by kernel_rfl) rfl (e_app (i := 2) (j := 0) Tryz.underlying64 I9 rfl (by decide) (by decide) rfl rfl rfl rfl rfl ha47) (fun s w h => zab [some 1, none] (by decide) w h rfl) (cur2 (fun A48 c49 => ?_))
    refine za5 11 rfl rfl rfl (by kernel_rfl) (fun _ _ _ h => h) (q_asg rfl) ?_
    refine zax (by kernel_rfl) ?_
    refine zal ?_
    refine za1 ?_
    refine za0 ?_
    refine o_q rfl rfl (q_up rfl rfl (hr11.up hm12)) ?_
    refine o_q rfl rfl (za2 rfl) ?_
    refine o_end ?_
    refine zam ys9.length (ys9, l46, i7 + 1, A48, c49) (by rw [← hk17]; exact Nat.lt_succ_self _) ⟨hr11.step, rfl, h⟩ ⟨rfl, rfl, trivial⟩ (fun w h => za7 [2] (by decide) rfl w h) ?_
    repeat (first | exact zac _ _ | refine zaf rfl ?_ | refine zad rfl ?_ | refine zah rfl ?_)

/-! ### loop.example/g01098/impl.PlanText: function 8 -/
def impl_PlanText.f (k : Nat) (a0_0 : Int) (l0_1 : List SStep) (l0_2 : List Int) : Option (ByteArray × Bool) := (impl_IsPlan.f k a0_0 l0_1 l0_2).bind fun b4 => if b4 = true then ((impl_Plan_text.f a0_0 l0_1 l0_2).bind fun s7 => some (s7, true)) else (some ((⟨#[]⟩ : ByteArray), false))
set_option maxHeartbeats 600000 in
set_option maxRecDepth 100000 in
theorem impl_PlanText.calls (k : Nat) {w0 ws : World} {P0 : Nat → Prop} (a0_0 : Int) (A0_1 : Option Addr) (c0_1 : Nat) (n0_1 : Nat) (l0_1 : List SStep) (A0_2 : Option Addr) (c0_2 : Nat) (n0_2 : Nat) (l0_2 : List Int) (Z : Below w0.heap.size w0 ws) (hF : Fr w0 ws P0 [] ws) (R0_1 : Stable ws P0 (fun w => Kd.C kStep w A0_1 n0_1 l0_1)) (hc0_1 : n0_1 ≤ c0_1) (R0_2 : Stable ws P0 (fun w => Kd.C (Kd.int .i64) w A0_2 n0_2 l0_2)) (hc0_2 : n0_2 ≤ c0_2) (r_1 : ByteArray) (r_2 : Bool) (h : impl_PlanText.f k a0_0 l0_1 l0_2 = some (r_1, r_2)) :
    Calls Tryz.prog 8 #[.agg #[.int .i64 a0_0, .slice A0_1 n0_1 c0_1, .slice A0_2 n0_2 c0_2]] ws (Post1 w0 ws P0 (fun (_ : Unit) => .tuple #[.string r_1, .bool r_2]) (fun (_ : Unit) => [])) := by
  unfold impl_PlanText.f at h
  obtain rfl := (R0_1 ws (KeptB.refl _ _)).1
  obtain rfl := (R0_2 ws (KeptB.refl _ _)).1
  refine enter Tryz.func8 rfl Tryz.ntmps8 rfl hF ?_
  refine c_seq ?_
  refine za0 ?_
  refine o_e rfl (e_box rfl) (fun g1 => ?_)
  refine o_q rfl rfl (q_asg rfl) ?_
  refine o_q rfl rfl (q_asg rfl) ?_
  refine o_end ?_
  refine za1 ?_
  refine c_seq ?_
  refine c_seq ?_
  refine za0 ?_
  refine o_q rfl rfl (q_ldB G27 Z27 rfl (fun w h => h.zae (i := 0) rfl) rfl) ?_
  refine za6 h (fun b4 hx3 h => ?_) rfl
  refine o_e rfl (za9 0 Z Tryz.func10 N10 rfl rfl rfl (fun w P1 hF hB hS hT => impl_IsPlan.calls k a0_0 A0_1 c0_1 l0_1.length l0_1 A0_2 c0_2 l0_2.length l0_2 hB hF (hS _ R0_1) hc0_1 (hS _ R0_2) hc0_2 _ hx3)) (fun _ => ?_)
  refine o_q rfl rfl (q_not rfl) ?_
  refine o_end ?_
  refine za1 ?_
  refine zaq _ rfl (fun hb5 => ?_) (fun hb5 => ?_)
  · replace hb5 := nt_t hb5
    replace h := bb_f hb5 h
    refine c_seq ?_
    refine za0 ?_
    refine o_q rfl rfl (q_asg rfl) ?_
    refine o_q rfl rfl (q_asg rfl) ?_
    refine o_end ?_
    refine za1 ?_
    refine c_ret ?_
    refine za8 ?_
    have e0_ := Option.some.inj h; clear h
    have d0_ := (Prod.mk.inj e0_).1; have e1_ := (Prod.mk.inj e0_).2; clear e0_; subst d0_
    subst e1_
    exact x_r2 () Tryz.results8 (zai rfl) (zai rfl) rfl (fun w h => za7 [] (by decide) rfl w h)
  · replace hb5 := nt_f hb5
    replace h := bb_t hb5 h
    refine zak ?_
    refine za1 ?_
    refine c_seq ?_
    refine za0 ?_
    refine za6 h (fun s7 hx6 h => ?_) rfl
    refine o_e rfl (za9 0 Z Tryz.func32 N32 rfl rfl rfl (fun w P1 hF hB hS hT => impl_Plan_text.calls g1 a0_0 A0_1 c0_1 l0_1.length l0_1 A0_2 c0_2 l0_2.length l0_2 hB hF (hS _ R0_1) hc0_1 (hS _ R0_2) hc0_2 (hT 0 _ rfl).box _ hx6)) (fun _ => ?_)
    refine o_q rfl rfl (q_asg rfl) ?_
    refine o_q rfl rfl (q_asg rfl) ?_
    refine o_end ?_
    refine za1 ?_
    refine c_ret ?_
    have e0_ := Option.some.inj h; clear h
    have d0_ := (Prod.mk.inj e0_).1; have e1_ := (Prod.mk.inj e0_).2; clear e0_; subst d0_
    subst e1_
    exact x_r2 () Tryz.results8 (zai rfl) (zai rfl) rfl (fun w h => za7 [] (by decide) rfl w h)

/-! ### loop.example/g01098/spec.l1In: function 84 -/
def spec_l1In.f (a0 : Int) (a1 : Int) (a2 : Int) : Option Bool := if a1 ≤ a0 then (some (decide (a0 ≤ a2))) else (some false)
set_option maxHeartbeats 600000 in
set_option maxRecDepth 100000 in
theorem spec_l1In.calls {w0 ws : World} {P0 : Nat → Prop} (a0 : Int) (a1 : Int) (a2 : Int) (Z : Below w0.heap.size w0 ws) (hF : Fr w0 ws P0 [] ws)  (r_1 : Bool) (h : spec_l1In.f a0 a1 a2 = some r_1) :
    Calls Tryz.prog 84 #[.int .i64 a0, .int .i64 a1, .int .i64 a2] ws (Post1 w0 ws P0 (fun (_ : Unit) => .bool r_1) (fun (_ : Unit) => [])) := by
  unfold spec_l1In.f at h
  refine enter Tryz.func84 rfl Tryz.ntmps84 rfl hF ?_
  refine c_seq ?_
  refine za0 ?_
  refine o_q rfl rfl (q_asg rfl) ?_
  refine o_end ?_
  refine za1 ?_
  refine c_seq ?_
  refine za0 ?_
  refine o_q rfl rfl (za2 rfl) ?_
  refine o_q rfl rfl (za2 rfl) ?_
  refine o_q rfl rfl (q_geq rfl rfl) ?_
  refine o_q rfl rfl (za2 rfl) ?_
  refine byB (decide (a1 ≤ a0)) (fun hb1 => ?_) (fun hb1 => ?_)
  · replace h := br_t hb1 h
    refine o_w (za4 rfl rfl rfl (congrArg Value.bool hb1)) rfl (za2 rfl) ?_
    refine o_w (za4 rfl rfl rfl (congrArg Value.bool hb1)) rfl (za2 rfl) ?_
    refine o_w (za4 rfl rfl rfl (congrArg Value.bool hb1)) rfl (q_leq rfl rfl) ?_
    refine o_q rfl rfl (zaw true (congrArg Value.bool hb1) rfl) ?_
    refine o_q rfl rfl (q_asg rfl) ?_
    refine o_end ?_
    refine za1 ?_
    refine c_ret ?_
    have e0_ := Option.some.inj h; clear h
    subst e0_
    exact x_r1 () Tryz.results84 (zai rfl) rfl (fun w h => za7 [] (by decide) rfl w h)
  · replace h := br_f hb1 h
    refine @o_n _ _ _ _ _ _ _ _ _ _ _ 11 (za3 rfl rfl rfl (congrArg Value.bool hb1) rfl) (Eq.refl (some 11)) ?_
    refine @o_n _ _ _ _ _ _ _ _ _ _ _ 12 (za3 rfl rfl rfl (congrArg Value.bool hb1) rfl) (Eq.refl (some 12)) ?_
    refine @o_n _ _ _ _ _ _ _ _ _ _ _ 13 (za3 rfl rfl rfl (congrArg Value.bool hb1) rfl) (Eq.refl (some 13)) ?_
    refine o_q rfl rfl (zaw false (congrArg Value.bool hb1) rfl) ?_
    refine o_q rfl rfl (q_asg rfl) ?_
    refine o_end ?_
    refine za1 ?_
    refine c_ret ?_
    have e0_ := Option.some.inj h; clear h
    subst e0_
    exact x_r1 () Tryz.results84 (zai rfl) rfl (fun w h => za7 [] (by decide) rfl w h)

/-! ### loop.example/g01098/spec.plSum: function 115 -/
def spec_plSum.l0 (l1 : List Int) : (List Int) → (List Int) → Int → Option (List Int)
  | [], l3, i6 => some l3
  | y7 :: ys8, l3, i6 => (gt l1 i6).bind fun y20 => (spec_l1Least.f (w64 (y7 + y20)) 1000001).bind fun i22 => (ap l3 ([i22] : List Int)).bind fun l26 => spec_plSum.l0 l1 ys8 l26 (i6 + 1)
def spec_plSum.f (l0 : List Int) (l1 : List Int) : Option (List Int) := (spec_plSum.l0 l1 l0 ([] : List Int) 0).bind fun l3 => some l3
set_option maxHeartbeats 600000 in
set_option maxRecDepth 100000 in
theorem spec_plSum.calls {w0 ws : World} {P0 : Nat → Prop} (A0 : Option Addr) (c0 : Nat) (n0 : Nat) (l0 : List Int) (A1 : Option Addr) (c1 : Nat) (n1 : Nat) (l1 : List Int) (Z : Below w0.heap.size w0 ws) (hF : Fr w0 ws P0 [] ws) (R0 : Stable ws P0 (fun w => Kd.C (Kd.int .i64) w A0 n0 l0)) (hc0 : n0 ≤ c0) (R1 : Stable ws P0 (fun w => Kd.C (Kd.int .i64) w A1 n1 l1)) (hc1 : n1 ≤ c1) (r_1 : List Int) (h : spec_plSum.f l0 l1 = some r_1) :
    Calls Tryz.prog 115 #[.slice A0 n0 c0, .slice A1 n1 c1] ws (Post1 w0 ws P0 (fun ((q_2, q_3) : (Option Addr) × Nat) => .slice q_2 r_1.length q_3) (fun ((q_2, q_3) : (Option Addr) × Nat) => [row (Kd.int .i64) 3 (.slice q_2 r_1.length q_3) r_1])) := by
  unfold spec_plSum.f at h
  obtain rfl := (R0 ws (KeptB.refl _ _)).1
  obtain rfl := (R1 ws (KeptB.refl _ _)).1
  refine enter Tryz.func115 rfl Tryz.ntmps115 rfl hF ?_
  refine c_seq ?_
  refine za0 ?_
  refine o_q rfl rfl (q_asg rfl) ?_
  refine o_end ?_
  refine za1 ?_
  refine c_seq ?_
  refine za0 ?_
  refine o_q rfl rfl (q_asg rfl) ?_
  refine o_end ?_
  refine za1 ?_
  refine c_seq ?_
  refine c_seq ?_
  refine za0 ?_
  refine o_q rfl rfl (za2 rfl) ?_
  refine o_q rfl rfl (q_len Tryz.underlying25 rfl) ?_
  refine o_q rfl rfl (za2 rfl) ?_
  refine o_end ?_
  refine za1 ?_
  refine zaj ?_
  refine c_nil (Kd.int .i64) 3 ?_
  refine za6 h (fun o14 hl13 hR12 => ?_) rfl
  clear h
  refine c_fact (p := l0.length ≤ 9223372036854775807) (fun w h => (R0.now Z h).2.1) (fun hm11 => ?_)
  refine c_loopL (σ := (List Int) × (List Int) × Int × (Option Addr) × Nat) (fun k9 ((ys8, l3, i6, A4, c5) : (List Int) × (List Int) × Int × (Option Addr) × Nat) => Rg l0 i6 ys8 ∧ ys8.length = k9 ∧ spec_plSum.l0 l1 ys8 l3 i6 = some o14) [5, 6, 9, 10, 11, 12, 13, 14, 15, 16, 17, 18, 19, 20, 21, 22, 23, 24, 25] (fun ((ys8, l3, i6, A4, c5) : (List Int) × (List Int) × Int × (Option Addr) × Nat) => [(5, .slice A4 l3.length c5), (9, .int .i64 i6)]) (fun ((ys8, l3, i6, A4, c5) : (List Int) × (List Int) × Int × (Option Addr) × Nat) => [row (Kd.int .i64) 3 (.slice A4 l3.length c5) l3]) l0.length (l0, ([] : List Int), 0, none, 0) ⟨Rg.start _, rfl, hl13⟩ ⟨rfl, rfl, trivial⟩ (fun w h => h) ?_
  refine fun k9 => cur5 (listC (fun l3 i6 A4 c5 U15 hJ_ => ?_) (fun y7 ys8 l3 i6 A4 c5 U15 hJ_ => ?_))
  · skip
    clear hl13
    have hr10 := hJ_.1; have hk16 := hJ_.2.1; have h := hJ_.2.2; clear hJ_
    replace h : spec_plSum.l0 l1 [] l3 i6 = some o14 := h
    rw [spec_plSum.l0] at h
    refine c_seq ?_
    refine za0 ?_
    refine o_q rfl rfl (q_lss rfl rfl) ?_
    refine o_end ?_
    refine za1 ?_
    refine c_seq ?_
    refine c_false (congrArg Value.bool hr10.ge) ?_
    refine c_exit ?_
    refine zaa ?_
    refine zaa ?_
    have e_ := Option.some.inj h; replace h := hR12; rw [← e_] at h; clear e_
    refine x_hit ?_
    refine za1 ?_
    refine c_seq ?_
    refine za0 ?_
    refine o_q rfl rfl (za2 rfl) ?_
    refine o_q rfl rfl (q_asg rfl) ?_
    refine o_end ?_
    refine za1 ?_
    refine c_ret ?_
    have e0_ := Option.some.inj h; clear h
    subst e0_
    exact x_r1 (A4, c5) Tryz.results115 (zai rfl) rfl (fun w h => za7 [0] (by decide) rfl w h)
  · skip
    clear hl13
    have hr10 := hJ_.1; have hk16 := hJ_.2.1; have h := hJ_.2.2; clear hJ_
    replace h : spec_plSum.l0 l1 (y7 :: ys8) l3 i6 = some o14 := h
    rw [spec_plSum.l0] at h
    refine c_seq ?_
    refine za0 ?_
    refine o_q rfl rfl (q_lss rfl rfl) ?_
    refine o_end ?_
    refine za1 ?_
    refine c_seq ?_
    refine c_true (congrArg Value.bool hr10.lt) ?_
    refine zak ?_
    refine za1 ?_
    refine c_seq ?_
    refine zaj ?_
    refine c_seq ?_
    refine za0 ?_
    refine o_q rfl rfl (za2 rfl) ?_
    refine o_q rfl rfl (q_asg rfl) ?_
    refine o_end ?_
    refine za1 ?_
    refine a_startS (ds := []) [none] MO rfl ?_
    refine za5 0 rfl rfl rfl (by kernel_rfl) (fun _ _ _ h => h) (za2 rfl) ?_
    refine za5 1 rfl rfl rfl (by kernel_rfl) (fun _ _ _ h => h) (za2 rfl) ?_
    refine za5 2 rfl rfl rfl (by kernel_rfl) (fun _ _ _ h => h) (za2 rfl) ?_
    refine a_fact (p := Sh A0 l0.length l0.length) (fun w h => f_sh (dk := (Kd.int .i64)) h (fun w h => R0.now Z h)) (fun hq17 => ?_)
    refine za5 3 rfl rfl rfl (by kernel_rfl) (fun _ _ _ h => h) (q_ix Tryz.underlying25 Z3 rfl rfl hq17 hr10.get) ?_
    refine a_take 4 rfl rfl rfl (by kernel_rfl) (fun _ _ _ h => h) (fun w h => zab [none] (by decide) w h rfl) (q_lde (off := 0) Y3 rfl rfl (fun w h => R0.now Z h) hr10.get (fun _ _ h => h) rfl) ?_
    refine za5 5 rfl rfl rfl (by kernel_rfl) (fun _ _ _ h => h) (za2 rfl) ?_
    refine za5 6 rfl rfl rfl (by kernel_rfl) (fun _ _ _ h => h) (za2 rfl) ?_
    refine a_fact (p := Sh A1 l1.length l1.length) (fun w h => f_sh (dk := (Kd.int .i64)) h (fun w h => R1.now Z h)) (fun hq18 => ?_)
    refine za6 h (fun y20 hg19 h => ?_) rfl
    refine za5 7 rfl rfl rfl (by kernel_rfl) (fun _ _ _ h => h) (q_ix Tryz.underlying25 Z3 rfl rfl hq18 hg19) ?_
    refine a_take 8 rfl rfl rfl (by kernel_rfl) (fun _ _ _ h => h) (fun w h => zab [none] (by decide) w h rfl) (q_lde (off := 0) Y3 rfl rfl (fun w h => R1.now Z h) hg19 (fun _ _ h => h) rfl) ?_
    refine za5 9 rfl rfl rfl (by kernel_rfl) (fun _ _ _ h => h) (q_add64 rfl rfl) ?_
    refine za6 h (fun i22 hx21 h => ?_) rfl
    refine a_one 10 rfl rfl (by kernel_rfl) rfl (za9 0 Z Tryz.func68 N68 rfl rfl rfl (fun w P1 hF hB hS hT => spec_l1Least.calls (w64 (y7 + y20)) 1000001 hB hF _ hx21)) (fun s w h => zab [none] (by decide) w h rfl) (fun _ => ?_)
    refine a_one 11 rfl rfl (by kernel_rfl) rfl (e_lit (vs := [(0, .int .i64 i22)]) (cs := [.int .i64 i22]) (Kd.int .i64) ([i22] : List Int) Tryz.underlying25 I3 (by decide) rfl (by decide) rfl rfl (fun _ _ => Kd.zar _)) (fun s w h => zab [none] (by decide) w h rfl) (cur2 (fun A23 c24 => ?_))
    refine za6 h (fun l26 ha27 h => ?_) rfl
    refine a_one 12 rfl rfl (by kernel_rfl) rfl (e_app (i := 1) (j := 0) Tryz.underlying25 I3 rfl (by decide) (by decide) rfl rfl rfl rfl rfl ha27) (fun s w h => zab [none] (by decide) w h rfl) (cur2 (fun A28 c29 => ?_))
    refine za5 13 rfl rfl rfl (by kernel_rfl) (fun _ _ _ h => h) (q_asg rfl) ?_
    refine zax (by kernel_rfl) ?_
    refine zal ?_
    refine za1 ?_
    refine za0 ?_
    refine o_q rfl rfl (q_up rfl rfl (hr10.up hm11)) ?_
    refine o_q rfl rfl (za2 rfl) ?_
    refine o_end ?_
    refine zam ys8.length (ys8, l26, i6 + 1, A28, c29) (by rw [← hk16]; exact Nat.lt_succ_self _) ⟨hr10.step, rfl, h⟩ ⟨rfl, rfl, trivial⟩ (fun w h => za7 [1] (by decide) rfl w h) ?_
    repeat (first | exact zac _ _ | refine zaf rfl ?_ | refine zad rfl ?_ | refine zah rfl ?_)

/-! ### loop.example/g01098/spec.plExponents: function 85 -/
def spec_plExponents.l1 : (List SStep) → (List (List Int)) → Int → Option (List (List Int))
  | [], l39, i43 => some l39
  | y44 :: ys45, l39, i43 => (gt l39 y44.f0).bind fun y300 => (gt l39 y44.f1).bind fun y599 => (spec_plSum.f y300 y599).bind fun l719 => (ap l39 ([l719] : List (List Int))).bind fun l838 => spec_plExponents.l1 ys45 l838 (i43 + 1)
def spec_plExponents.l0 (a0_0 : Int) : Nat → (List (List Int)) → Int → Option (List (List Int))
  | 0, _, _ => none
  | k11 + 1, l4, i8 => if i8 < a0_0 then ((mk0 a0_0 (0 : Int)).bind fun l20 => (gt l20 i8).bind fun y27 => (st l20 i8 1).bind fun l28 => (ap l4 ([l28] : List (List Int))).bind fun l34 => spec_plExponents.l0 a0_0 k11 l34 (w64 (i8 + 1))) else (some l4)
def spec_plExponents.f (k : Nat) (a0_0 : Int) (l0_1 : List SStep) (l0_2 : List Int) : Option (List (List Int)) := (spec_plExponents.l0 a0_0 k ([] : List (List Int)) 0).bind fun l4 => (spec_plExponents.l1 l0_1 l4 0).bind fun l39 => some l39
set_option maxHeartbeats 600000 in
set_option maxRecDepth 100000 in
theorem spec_plExponents.calls (k : Nat) {w0 ws : World} {P0 : Nat → Prop} (a0_0 : Int) (A0_1 : Option Addr) (c0_1 : Nat) (n0_1 : Nat) (l0_1 : List SStep) (A0_2 : Option Addr) (c0_2 : Nat) (n0_2 : Nat) (l0_2 : List Int) (Z : Below w0.heap.size w0 ws) (hF : Fr w0 ws P0 [] ws) (R0_1 : Stable ws P0 (fun w => Kd.C kStep w A0_1 n0_1 l0_1)) (hc0_1 : n0_1 ≤ c0_1) (R0_2 : Stable ws P0 (fun w => Kd.C (Kd.int .i64) w A0_2 n0_2 l0_2)) (hc0_2 : n0_2 ≤ c0_2) (r_1 : List (List Int)) (h : spec_plExponents.f k a0_0 l0_1 l0_2 = some r_1) :
    Calls Tryz.prog 85 #[.agg #[.int .i64 a0_0, .slice A0_1 n0_1 c0_1, .slice A0_2 n0_2 c0_2]] ws (Post1 w0 ws P0 (fun ((q_2, q_3, q_4) : (Option Addr) × Nat × Hd) => .slice q_2 r_1.length q_3) (fun ((q_2, q_3, q_4) : (Option Addr) × Nat × Hd) => [row (gk 3 (Kd.int .i64)) 25 (.slice q_2 r_1.length q_3) (zp q_4 r_1)])) := by
  unfold spec_plExponents.f at h
  obtain rfl := (R0_1 ws (KeptB.refl _ _)).1
  obtain rfl := (R0_2 ws (KeptB.refl _ _)).1
  refine enter Tryz.func85 rfl Tryz.ntmps85 rfl hF ?_
  refine c_seq ?_
  refine za0 ?_
  refine o_e rfl (e_box rfl) (fun g1 => ?_)
  refine o_q rfl rfl (q_asg rfl) ?_
  refine o_end ?_
  refine za1 ?_
  refine c_seq ?_
  refine za0 ?_
  refine o_q rfl rfl (q_asg rfl) ?_
  refine o_end ?_
  refine za1 ?_
  refine c_seq ?_
  refine c_seq ?_
  refine za0 ?_
  refine o_q rfl rfl (q_asg rfl) ?_
  refine o_end ?_
  refine za1 ?_
  refine zaj ?_
  refine c_nil (gk 3 (Kd.int .i64)) 25 ?_
  refine za6 h (fun o16 hl15 hR14 => ?_) rfl
  clear h
  refine c_loopL (σ := (List (List Int)) × Int × (Option Addr) × Nat × Hd) (fun k11 ((l4, i8, A5, c6, H7) : (List (List Int)) × Int × (Option Addr) × Nat × Hd) => spec_plExponents.l0 a0_0 k11 l4 i8 = some o16) [3, 4, 5, 8, 9, 10, 11, 12, 13, 14, 15, 16, 17, 18, 19, 20, 21, 22, 23] (fun ((l4, i8, A5, c6, H7) : (List (List Int)) × Int × (Option Addr) × Nat × Hd) => [(3, .slice A5 l4.length c6), (4, .int .i64 i8)]) (fun ((l4, i8, A5, c6, H7) : (List (List Int)) × Int × (Option Addr) × Nat × Hd) => [row (gk 3 (Kd.int .i64)) 25 (.slice A5 l4.length c6) (zp H7 l4), box g1 27 #[.int .i64 a0_0, .slice A0_1 l0_1.length c0_1, .slice A0_2 l0_2.length c0_2]]) k (([] : List (List Int)), 0, none, 0, ([] : Hd)) hl15 ⟨rfl, rfl, trivial⟩ (fun w h => h) ?_
  refine natC (cur5 (fun l4 i8 A5 c6 H7 => fun U17 hJ_ => ?_)) (fun k11 => (cur5 (fun l4 i8 A5 c6 H7 => fun U17 hJ_ => ?_)))
  · skip
    replace hJ_ : spec_plExponents.l0 a0_0 0 l4 i8 = some o16 := hJ_
    rw [spec_plExponents.l0] at hJ_
    exact noneE hJ_
  · skip
    clear hl15
    have h := hJ_; clear hJ_
    replace h : spec_plExponents.l0 a0_0 (k11 + 1) l4 i8 = some o16 := h
    rw [spec_plExponents.l0] at h
    refine c_seq ?_
    refine c_seq ?_
    refine za0 ?_
    refine o_q rfl rfl (za2 rfl) ?_
    refine o_q rfl rfl (q_f F27_0 rfl) ?_
    refine o_q rfl rfl (q_ldb Y3 rfl (fun w h => h.zae (i := 1) rfl) rfl) ?_
    refine o_q rfl rfl (q_lss rfl rfl) ?_
    refine o_end ?_
    refine za1 ?_
    refine zaq _ rfl (fun hb19 => ?_) (fun hb19 => ?_)
    · skip
      replace h := br_t hb19 h
      refine zak ?_
      refine za1 ?_
      refine c_seq ?_
      refine zaj ?_
      refine c_seq ?_
      refine za0 ?_
      refine o_q rfl rfl (q_f F27_0 rfl) ?_
      refine o_q rfl rfl (q_ldb Y3 rfl (fun w h => h.zae (i := 1) rfl) rfl) ?_
      refine za6 h (fun l20 hm21 h => ?_) rfl
      refine o_e rfl (e_make (Kd.int .i64) (0 : Int) Tryz.underlying25 I3 rfl (by decide) (by decide) (fun _ _ => rfl) rfl rfl hm21) (cur2 (fun A22 c23 => ?_))
      refine o_q rfl rfl (q_asg rfl) ?_
      refine o_end ?_
      refine za1 ?_
      refine c_seq ?_
      refine za0 ?_
      refine o_q rfl rfl (za2 rfl) ?_
      refine o_q rfl rfl (za2 rfl) ?_
      refine o_fact (p := Sh A22 l20.length l20.length) (fun w h => f_sh (dk := (Kd.int .i64)) h (fun w h => h.zau (i := 0) rfl)) (fun hq25 => ?_)
      refine za6 h (fun y27 hg26 h => ?_) rfl
      refine o_q rfl rfl (q_ix Tryz.underlying25 Z3 rfl rfl hq25 hg26) ?_
      refine za6 h (fun l28 hs29 h => ?_) rfl
      refine o_e rfl (e_set (i := 0) rfl rfl rfl Z3 hs29) (fun _ => ?_)
      refine o_end ?_
      refine za1 ?_
      refine za0 ?_
      refine o_q rfl rfl (za2 rfl) ?_
      refine o_q rfl rfl (za2 rfl) ?_
      refine o_e rfl (e_litG (j := 0) (ue := 3) (dk := (Kd.int .i64)) (ys := l28) Tryz.underlying60 I25 rfl rfl rfl) (cur3 (fun A30 c31 H33 => ?_))
      refine za6 h (fun l34 ha35 h => ?_) rfl
      refine o_e rfl (e_appG (i := 2) (j := 0) Tryz.underlying60 I25 rfl (by decide) rfl rfl rfl rfl rfl ha35) (cur3 (fun A36 c37 H38 => ?_))
      refine o_q rfl rfl (q_asg rfl) ?_
      refine o_end ?_
      refine zal ?_
      refine za1 ?_
      refine za0 ?_
      refine o_q rfl rfl (za2 rfl) ?_
      refine o_q rfl rfl (q_add64 rfl rfl) ?_
      refine o_q rfl rfl (q_asg rfl) ?_
      refine o_end ?_
      refine zam k11 (l34, w64 (i8 + 1), A36, c37, H38) (Nat.lt_succ_self _) h ⟨rfl, rfl, trivial⟩ (fun w h => za7 [2, 3] (by decide) rfl w h) ?_
      repeat (first | exact zac _ _ | refine zaf rfl ?_ | refine zad rfl ?_ | refine zah rfl ?_)
    · skip
      replace h := br_f hb19 h
      refine c_exit ?_
      refine zaa ?_
      refine zaa ?_
      have e_ := Option.some.inj h; replace h := hR14; rw [← e_] at h; clear e_
      refine x_hit ?_
      refine za1 ?_
      refine c_seq ?_
      refine c_seq ?_
      refine za0 ?_
      refine o_q rfl rfl (q_f F27_1 rfl) ?_
      refine o_q rfl rfl (q_ldb Y24 rfl (fun w h => h.zae (i := 1) rfl) rfl) ?_
      refine o_q rfl rfl (q_len Tryz.underlying24 rfl) ?_
      refine o_q rfl rfl (za2 rfl) ?_
      refine o_end ?_
      refine za1 ?_
      refine zaj ?_
      refine za6 h (fun o51 hl50 hR49 => ?_) rfl
      clear h
      refine c_fact (p := l0_1.length ≤ 9223372036854775807) (fun w h => (R0_1.now Z h).2.1) (fun hm48 => ?_)
      refine c_loopL (σ := (List SStep) × (List (List Int)) × Int × (Option Addr) × Nat × Hd) (fun k46 ((ys45, l39, i43, A40, c41, H42) : (List SStep) × (List (List Int)) × Int × (Option Addr) × Nat × Hd) => Rg l0_1 i43 ys45 ∧ ys45.length = k46 ∧ spec_plExponents.l1 ys45 l39 i43 = some o51) [3, 7, 27, 28, 29, 30, 31, 32, 33, 34, 35, 36, 37, 38, 39, 40, 41, 42, 43, 44, 45] (fun ((ys45, l39, i43, A40, c41, H42) : (List SStep) × (List (List Int)) × Int × (Option Addr) × Nat × Hd) => [(3, .slice A40 l39.length c41), (27, .int .i64 i43)]) (fun ((ys45, l39, i43, A40, c41, H42) : (List SStep) × (List (List Int)) × Int × (Option Addr) × Nat × Hd) => [row (gk 3 (Kd.int .i64)) 25 (.slice A40 l39.length c41) (zp H42 l39), box g1 27 #[.int .i64 a0_0, .slice A0_1 l0_1.length c0_1, .slice A0_2 l0_2.length c0_2]]) l0_1.length (l0_1, l4, 0, A5, c6, H7) ⟨Rg.start _, rfl, hl50⟩ ⟨rfl, rfl, trivial⟩ (fun w h => h) ?_
      refine fun k46 => cur6 (listC (fun l39 i43 A40 c41 H42 U52 hJ_ => ?_) (fun y44 ys45 l39 i43 A40 c41 H42 U52 hJ_ => ?_))
      · skip
        clear hl50
        have hr47 := hJ_.1; have hk53 := hJ_.2.1; have h := hJ_.2.2; clear hJ_
        replace h : spec_plExponents.l1 [] l39 i43 = some o51 := h
        rw [spec_plExponents.l1] at h
        refine c_seq ?_
        refine za0 ?_
        refine o_q rfl rfl (q_lss rfl rfl) ?_
        refine o_end ?_
        refine za1 ?_
        refine c_seq ?_
        refine c_false (congrArg Value.bool hr47.ge) ?_
        refine c_exit ?_
        refine zaa ?_
        refine zaa ?_
        have e_ := Option.some.inj h; replace h := hR49; rw [← e_] at h; clear e_
        refine x_hit ?_
        refine za1 ?_
        refine c_seq ?_
        refine za0 ?_
        refine o_q rfl rfl (za2 rfl) ?_
        refine o_q rfl rfl (q_asg rfl) ?_
        refine o_end ?_
        refine za1 ?_
        refine c_ret ?_
        have e0_ := Option.some.inj h; clear h
        subst e0_
        exact x_r1 (A40, c41, H42) Tryz.results85 (zai rfl) rfl (fun w h => za7 [0] (by decide) rfl w h)
      · skip
        clear hl50
        have hr47 := hJ_.1; have hk53 := hJ_.2.1; have h := hJ_.2.2; clear hJ_
        replace h : spec_plExponents.l1 (y44 :: ys45) l39 i43 = some o51 := h
        rw [spec_plExponents.l1] at h
        refine c_seq ?_
        refine za0 ?_
        refine o_q rfl rfl (q_lss rfl rfl) ?_
        refine o_end ?_
        refine za1 ?_
        refine c_seq ?_
        refine c_true (congrArg Value.bool hr47.lt) ?_
        refine zak ?_
        refine za1 ?_
        refine c_seq ?_
        refine zaj ?_
        refine c_seq ?_
        refine za0 ?_
        refine o_fact (p := Sh A0_1 l0_1.length l0_1.length) (fun w h => f_sh (dk := kStep) h (fun w h => R0_1.now Z h)) (fun hq54 => ?_)
        refine o_q rfl rfl (q_ix Tryz.underlying24 Z72 rfl rfl hq54 hr47.get) ?_
        refine o_q rfl rfl (q_ldE G72 Z72 rfl rfl (fun w h => R0_1.now Z h) hr47.get (fun _ _ h => h) rfl) ?_
        refine o_e rfl (e_alloc V72 rfl) (fun g55 => ?_)
        refine o_e rfl (zat (i := 0) rfl rfl rfl Z72 rfl rfl) (fun _ => ?_)
        refine o_end ?_
        refine za1 ?_
        refine za6 h (fun y300 hg299 h => ?_) rfl
        refine za6 h (fun y599 hg598 h => ?_) rfl
        refine za6 h (fun l719 hx718 h => ?_) rfl
        refine za6 h (fun l838 ha839 h => ?_) rfl
        refine a_startS (ds := []) [some 0, none, some 2] MO rfl ?_
        refine za5 0 rfl rfl rfl (by kernel_rfl) (fun _ _ _ h => h) (za2 rfl) ?_
        refine za5 1 rfl rfl rfl (by kernel_rfl) (fun _ _ _ h => h) (za2 rfl) ?_
        refine za5 2 rfl rfl rfl (by kernel_rfl) (fun _ _ _ h => h) (q_f F72_0 rfl) ?_
        refine a_take 3 rfl rfl rfl (by kernel_rfl) (fun _ _ _ h => h) (fun w h => zab [some 0, none, some 2] (by decide) w h rfl) (q_ldb Y3 rfl (fun w h => h.zae (i := 0) rfl) rfl) ?_
        refine a_fact (p := Sh A40 l39.length (zp H42 l39).length) (fun w h => f_sh (dk := (gk 3 (Kd.int .i64))) h (fun w h => h.zau (i := 1) rfl)) (fun hq298 => ?_)
        refine za5 4 rfl rfl rfl (by kernel_rfl) (fun _ _ _ h => h) (q_ix Tryz.underlying60 Z25 rfl rfl hq298 (gt_zp hg299)) ?_
        refine za5 6 rfl rfl rfl (by kernel_rfl) (fun _ _ _ h => h) (za2 rfl) ?_
        refine za5 7 rfl rfl rfl (by kernel_rfl) (fun _ _ _ h => h) (q_f F72_1 rfl) ?_
        refine a_take 8 rfl rfl rfl (by kernel_rfl) (fun _ _ _ h => h) (fun w h => zab [some 0, none, some 2] (by decide) w h rfl) (q_ldb Y3 rfl (fun w h => h.zae (i := 0) rfl) rfl) ?_
        refine za5 9 rfl rfl rfl (by kernel_rfl) (fun _ _ _ h => h) (q_ix Tryz.underlying60 Z25 rfl rfl hq298 (gt_zp hg598)) ?_
        refine a_fact (p := y300.length ≤ hC H42 y44.f0) (fun w h => (K_in (h.zau (i := 1) rfl) hg299).1) (fun hc358 => ?_)
        refine a_fact (p := y599.length ≤ hC H42 y44.f1) (fun w h => (K_in (h.zau (i := 1) rfl) hg598).1) (fun hc658 => ?_)
        refine a_two 5 10 rfl rfl rfl rfl (by kernel_rfl) rfl rfl (ev_q rfl (q_lde (off := 0) Y25 rfl rfl (fun w h => h.zau (i := 1) rfl) (gt_zp hg299) (fun _ _ h => h.1) rfl)) (fun s w h => zab [some 0, none, some 2] (by decide) w h rfl) (ev_q rfl (q_lde (off := 0) Y25 rfl rfl (fun w h => h.zau (i := 1) rfl) (gt_zp hg598) (fun _ _ h => h.1) rfl)) (fun s w h => zab [some 0, none, some 2] (by decide) w h rfl) (fun _ => ?_) (fun _ => ?_)
        · skip
          refine a_fact (p := y599.length ≤ hC H42 y44.f1) (fun w h => (K_in (h.zau (i := 1) rfl) hg598).1) (fun hc658 => ?_)
          refine a_one 10 rfl rfl (by kernel_rfl) rfl (ev_q rfl (q_lde (off := 0) Y25 rfl rfl (fun w h => h.zau (i := 1) rfl) (gt_zp hg598) (fun _ _ h => h.1) rfl)) (fun s w h => zab [some 0, none, some 2] (by decide) w h rfl) (fun _ => ?_)
          refine a_one 11 rfl rfl (by kernel_rfl) rfl (za9 0 Z Tryz.func115 N115 rfl rfl rfl (fun w P1 hF hB hS hT => spec_plSum.calls (hA H42 y44.f0) (hC H42 y44.f0) y300.length y300 (hA H42 y44.f1) (hC H42 y44.f1) y599.length y599 hB hF (stab_in (hT 1 _ rfl).row hg299) hc358 (stab_in (hT 1 _ rfl).row hg598) hc658 _ hx718)) (fun s w h => zab [some 1, none, some 3] (by decide) w h rfl) (cur2 (fun A720 c721 => ?_))
          refine a_one 12 rfl rfl (by kernel_rfl) rfl (e_litG (j := 0) (ue := 3) (dk := (Kd.int .i64)) (ys := l719) Tryz.underlying60 I25 rfl rfl rfl) (fun s w h => zab [some 2, none, some 4] (by decide) w h rfl) (cur3 (fun A778 c779 H781 => ?_))
          refine a_one 13 rfl rfl (by kernel_rfl) rfl (e_appG (i := 3) (j := 0) Tryz.underlying60 I25 rfl (by decide) rfl rfl rfl rfl rfl ha839) (fun s w h => zab [some 2, none, some 4] (by decide) w h rfl) (cur3 (fun A840 c841 H842 => ?_))
          refine za5 14 rfl rfl rfl (by kernel_rfl) (fun _ _ _ h => h) (q_asg rfl) ?_
          refine zax (by kernel_rfl) ?_
          refine zal ?_
          refine za1 ?_
          refine za0 ?_
          refine o_q rfl rfl (q_up rfl rfl (hr47.up hm48)) ?_
          refine o_q rfl rfl (za2 rfl) ?_
          refine o_end ?_
          refine zam ys45.length (ys45, l838, i43 + 1, A840, c841, H842) (by rw [← hk53]; exact Nat.lt_succ_self _) ⟨hr47.step, rfl, h⟩ ⟨rfl, rfl, trivial⟩ (fun w h => za7 [3, 4] (by decide) rfl w h) ?_
          repeat (first | exact zac _ _ | refine zaf rfl ?_ | refine zad rfl ?_ | refine zah rfl ?_)
        · skip
          refine a_fact (p := y300.length ≤ hC H42 y44.f0) (fun w h => (K_in (h.zau (i := 1) rfl) hg299).1) (fun hc358 => ?_)
          refine a_one 5 rfl rfl (by kernel_rfl) rfl (ev_q rfl (q_lde (off := 0) Y25 rfl rfl (fun w h => h.zau (i := 1) rfl) (gt_zp hg299) (fun _ _ h => h.1) rfl)) (fun s w h => zab [some 0, none, some 2] (by decide) w h rfl) (fun _ => ?_)
          refine a_one 11 rfl rfl (by kernel_rfl) rfl (za9 0 Z Tryz.func115 N115 rfl rfl rfl (fun w P1 hF hB hS hT => spec_plSum.calls (hA H42 y44.f0) (hC H42 y44.f0) y300.length y300 (hA H42 y44.f1) (hC H42 y44.f1) y599.length y599 hB hF (stab_in (hT 1 _ rfl).row hg299) hc358 (stab_in (hT 1 _ rfl).row hg598) hc658 _ hx718)) (fun s w h => zab [some 1, none, some 3] (by decide) w h rfl) (cur2 (fun A720 c721 => ?_))
          refine a_one 12 rfl rfl (by kernel_rfl) rfl (e_litG (j := 0) (ue := 3) (dk := (Kd.int .i64)) (ys := l719) Tryz.underlying60 I25 rfl rfl rfl) (fun s w h => zab [some 2, none, some 4] (by decide) w h rfl) (cur3 (fun A778 c779 H781 => ?_))
          refine a_one 13 rfl rfl (by kernel_rfl) rfl (e_appG (i := 3) (j := 0) Tryz.underlying60 I25 rfl (by decide) rfl rfl rfl rfl rfl ha839) (fun s w h => zab [some 2, none, some 4] (by decide) w h rfl) (cur3 (fun A840 c841 H842 => ?_))
          refine za5 14 rfl rfl rfl (by kernel_rfl) (fun _ _ _ h => h) (q_asg rfl) ?_
          refine zax (by kernel_rfl) ?_
          refine zal ?_
          refine za1 ?_
          refine za0 ?_
          refine o_q rfl rfl (q_up rfl rfl (hr47.up hm48)) ?_
          refine o_q rfl rfl (za2 rfl) ?_
          refine o_end ?_
          refine zam ys45.length (ys45, l838, i43 + 1, A840, c841, H842) (by rw [← hk53]; exact Nat.lt_succ_self _) ⟨hr47.step, rfl, h⟩ ⟨rfl, rfl, trivial⟩ (fun w h => za7 [3, 4] (by decide) rfl w h) ?_
          repeat (first | exact zac _ _ | refine zaf rfl ?_ | refine zad rfl ?_ | refine zah rfl ?_)

/-! ### loop.example/g01098/spec.l1All: function 71 -/
def spec_l1All.l0 (a1 : Int) (a2 : Int) : (List Int) → Int → Option ((Bool) ⊕ (Unit))
  | [], i1 => some (.inr ())
  | y2 :: ys3, i1 => (spec_l1In.f y2 a1 a2).bind fun b14 => if b14 = true then (spec_l1All.l0 a1 a2 ys3 (i1 + 1)) else (some (.inl false))
def spec_l1All.f (l0 : List Int) (a1 : Int) (a2 : Int) : Option Bool := (spec_l1All.l0 a1 a2 l0 0).bind fun o_ => match o_ with | .inl r_ => some r_ | .inr _ => some true
set_option maxHeartbeats 600000 in
set_option maxRecDepth 100000 in
theorem spec_l1All.calls {w0 ws : World} {P0 : Nat → Prop} (A0 : Option Addr) (c0 : Nat) (n0 : Nat) (l0 : List Int) (a1 : Int) (a2 : Int) (Z : Below w0.heap.size w0 ws) (hF : Fr w0 ws P0 [] ws) (R0 : Stable ws P0 (fun w => Kd.C (Kd.int .i64) w A0 n0 l0)) (hc0 : n0 ≤ c0) (r_1 : Bool) (h : spec_l1All.f l0 a1 a2 = some r_1) :
    Calls Tryz.prog 71 #[.slice A0 n0 c0, .int .i64 a1, .int .i64 a2] ws (Post1 w0 ws P0 (fun (_ : Unit) => .bool r_1) (fun (_ : Unit) => [])) := by
  unfold spec_l1All.f at h
  obtain rfl := (R0 ws (KeptB.refl _ _)).1
  refine enter Tryz.func71 rfl Tryz.ntmps71 rfl hF ?_
  refine c_seq ?_
  refine za0 ?_
  refine o_q rfl rfl (q_asg rfl) ?_
  refine o_end ?_
  refine za1 ?_
  refine c_seq ?_
  refine c_seq ?_
  refine za0 ?_
  refine o_q rfl rfl (za2 rfl) ?_
  refine o_q rfl rfl (q_len Tryz.underlying25 rfl) ?_
  refine o_q rfl rfl (za2 rfl) ?_
  refine o_end ?_
  refine za1 ?_
  refine zaj ?_
  refine za6 h (fun o9 hl8 hR7 => ?_) rfl
  clear h
  refine c_fact (p := l0.length ≤ 9223372036854775807) (fun w h => (R0.now Z h).2.1) (fun hm6 => ?_)
  refine c_loopL (σ := (List Int) × Int) (fun k4 ((ys3, i1) : (List Int) × Int) => Rg l0 i1 ys3 ∧ ys3.length = k4 ∧ spec_l1All.l0 a1 a2 ys3 i1 = some o9) [6, 8, 11, 12, 13, 14, 15, 16, 17, 18, 19, 20] (fun ((ys3, i1) : (List Int) × Int) => [(11, .int .i64 i1)]) (fun ((ys3, i1) : (List Int) × Int) => []) l0.length (l0, 0) ⟨Rg.start _, rfl, hl8⟩ ⟨rfl, trivial⟩ (fun w h => h) ?_
  refine fun k4 => cur2 (listC (fun i1 U10 hJ_ => ?_) (fun y2 ys3 i1 U10 hJ_ => ?_))
  · skip
    clear hl8
    have hr5 := hJ_.1; have hk11 := hJ_.2.1; have h := hJ_.2.2; clear hJ_
    replace h : spec_l1All.l0 a1 a2 [] i1 = some o9 := h
    rw [spec_l1All.l0] at h
    refine c_seq ?_
    refine za0 ?_
    refine o_q rfl rfl (q_lss rfl rfl) ?_
    refine o_end ?_
    refine za1 ?_
    refine c_seq ?_
    refine c_false (congrArg Value.bool hr5.ge) ?_
    refine c_exit ?_
    refine zaa ?_
    refine zaa ?_
    have e_ := Option.some.inj h; replace h := hR7; rw [← e_] at h; clear e_
    refine x_hit ?_
    refine za1 ?_
    refine c_seq ?_
    refine za0 ?_
    refine o_q rfl rfl (q_asg rfl) ?_
    refine o_end ?_
    refine za1 ?_
    refine c_ret ?_
    have e0_ := Option.some.inj h; clear h
    subst e0_
    exact x_r1 () Tryz.results71 (zai rfl) rfl (fun w h => za7 [] (by decide) rfl w h)
  · skip
    clear hl8
    have hr5 := hJ_.1; have hk11 := hJ_.2.1; have h := hJ_.2.2; clear hJ_
    replace h : spec_l1All.l0 a1 a2 (y2 :: ys3) i1 = some o9 := h
    rw [spec_l1All.l0] at h
    refine c_seq ?_
    refine za0 ?_
    refine o_q rfl rfl (q_lss rfl rfl) ?_
    refine o_end ?_
    refine za1 ?_
    refine c_seq ?_
    refine c_true (congrArg Value.bool hr5.lt) ?_
    refine zak ?_
    refine za1 ?_
    refine c_seq ?_
    refine zaj ?_
    refine c_seq ?_
    refine za0 ?_
    refine o_fact (p := Sh A0 l0.length l0.length) (fun w h => f_sh (dk := (Kd.int .i64)) h (fun w h => R0.now Z h)) (fun hq12 => ?_)
    refine o_q rfl rfl (q_ix Tryz.underlying25 Z3 rfl rfl hq12 hr5.get) ?_
    refine o_q rfl rfl (q_lde (off := 0) Y3 rfl rfl (fun w h => R0.now Z h) hr5.get (fun _ _ h => h) rfl) ?_
    refine o_q rfl rfl (q_asg rfl) ?_
    refine o_end ?_
    refine za1 ?_
    refine c_seq ?_
    refine za0 ?_
    refine o_q rfl rfl (za2 rfl) ?_
    refine o_q rfl rfl (za2 rfl) ?_
    refine o_q rfl rfl (za2 rfl) ?_
    refine za6 h (fun b14 hx13 h => ?_) rfl
    refine o_e rfl (za9 0 Z Tryz.func84 N84 rfl rfl rfl (fun w P1 hF hB hS hT => spec_l1In.calls y2 a1 a2 hB hF _ hx13)) (fun _ => ?_)
    refine o_q rfl rfl (q_not rfl) ?_
    refine o_end ?_
    refine za1 ?_
    refine zaq _ rfl (fun hb15 => ?_) (fun hb15 => ?_)
    · replace hb15 := nt_t hb15
      replace h := bb_f hb15 h
      refine c_seq ?_
      refine za0 ?_
      refine o_q rfl rfl (q_asg rfl) ?_
      refine o_end ?_
      refine za1 ?_
      refine c_ret ?_
      refine zao ?_
      refine za8 ?_
      refine za8 ?_
      have e_ := Option.some.inj h; replace h := hR7; rw [← e_] at h; clear e_
      refine zao ?_
      refine za8 ?_
      have e0_ := Option.some.inj h; clear h
      subst e0_
      exact x_r1 () Tryz.results71 (zai rfl) rfl (fun w h => za7 [] (by decide) rfl w h)
    · replace hb15 := nt_f hb15
      replace h := bb_t hb15 h
      refine zak ?_
      refine zal ?_
      refine za1 ?_
      refine za0 ?_
      refine o_q rfl rfl (q_up rfl rfl (hr5.up hm6)) ?_
      refine o_q rfl rfl (za2 rfl) ?_
      refine o_end ?_
      refine zam ys3.length (ys3, i1 + 1) (by rw [← hk11]; exact Nat.lt_succ_self _) ⟨hr5.step, rfl, h⟩ ⟨rfl, trivial⟩ (fun w h => za7 [] (by decide) rfl w h) ?_
      repeat (first | exact zac _ _ | refine zaf rfl ?_ | refine zad rfl ?_ | refine zah rfl ?_)

/-! ### loop.example/g01098/spec.plGood: function 33 -/
def spec_plGood.l1 : (List (List Int)) → Int → Option ((Bool) ⊕ (Unit))
  | [], i24 => some (.inr ())
  | y25 :: ys26, i24 => (spec_l1All.f y25 0 1000000).bind fun b40 => if b40 = true then (spec_plGood.l1 ys26 (i24 + 1)) else (some (.inl false))
def spec_plGood.l0 (a0_0 : Int) : (List SStep) → Int → Option ((Bool) ⊕ (Unit))
  | [], i8 => some (.inr ())
  | y9 :: ys10, i8 => (spec_l1In.f y9.f0 0 y9.f1).bind fun b46 => if b46 = true then (if w64 (a0_0 + i8) ≤ y9.f1 then (some (.inl false)) else (spec_plGood.l0 a0_0 ys10 (i8 + 1))) else (some (.inl false))
def spec_plGood.f (k : Nat) (a0_0 : Int) (l0_1 : List SStep) (l0_2 : List Int) : Option Bool := (spec_l1In.f a0_0 1 6).bind fun b4 => if b4 = true then (if 40 < (l0_1.length : Int) then (some false) else (if 6 < (l0_2.length : Int) then (some false) else ((spec_plGood.l0 a0_0 l0_1 0).bind fun o_ => match o_ with | .inl r_ => some r_ | .inr _ => (spec_plExponents.f k a0_0 l0_1 l0_2).bind fun l20 => (spec_plGood.l1 l20 0).bind fun o_ => match o_ with | .inl r_ => some r_ | .inr _ => (spec_l1All.f l0_2 0 (w64 (w64 (a0_0 + (l0_1.length : Int)) - 1))).bind fun b36 => some b36))) else (some false)
set_option maxHeartbeats 600000 in
set_option maxRecDepth 100000 in
theorem spec_plGood.calls (k : Nat) {w0 ws : World} {P0 : Nat → Prop} (a0_0 : Int) (A0_1 : Option Addr) (c0_1 : Nat) (n0_1 : Nat) (l0_1 : List SStep) (A0_2 : Option Addr) (c0_2 : Nat) (n0_2 : Nat) (l0_2 : List Int) (Z : Below w0.heap.size w0 ws) (hF : Fr w0 ws P0 [] ws) (R0_1 : Stable ws P0 (fun w => Kd.C kStep w A0_1 n0_1 l0_1)) (hc0_1 : n0_1 ≤ c0_1) (R0_2 : Stable ws P0 (fun w => Kd.C (Kd.int .i64) w A0_2 n0_2 l0_2)) (hc0_2 : n0_2 ≤ c0_2) (r_1 : Bool) (h : spec_plGood.f k a0_0 l0_1 l0_2 = some r_1) :
    Calls Tryz.prog 33 #[.agg #[.int .i64 a0_0, .slice A0_1 n0_1 c0_1, .slice A0_2 n0_2 c0_2]] ws (Post1 w0 ws P0 (fun (_ : Unit) => .bool r_1) (fun (_ : Unit) => [])) := by
  unfold spec_plGood.f at h
  obtain rfl := (R0_1 ws (KeptB.refl _ _)).1
  obtain rfl := (R0_2 ws (KeptB.refl _ _)).1
  refine enter Tryz.func33 rfl Tryz.ntmps33 rfl hF ?_
  refine c_seq ?_
  refine za0 ?_
  refine o_e rfl (e_box rfl) (fun g1 => ?_)
  refine o_q rfl rfl (q_asg rfl) ?_
  refine o_end ?_
  refine za1 ?_
  refine c_seq ?_
  refine c_seq ?_
  refine za0 ?_
  refine o_q rfl rfl (q_f F27_0 rfl) ?_
  refine o_q rfl rfl (q_ldb Y3 rfl (fun w h => h.zae (i := 0) rfl) rfl) ?_
  refine za6 h (fun b4 hx3 h => ?_) rfl
  refine o_e rfl (za9 0 Z Tryz.func84 N84 rfl rfl rfl (fun w P1 hF hB hS hT => spec_l1In.calls a0_0 1 6 hB hF _ hx3)) (fun _ => ?_)
  refine o_q rfl rfl (q_not rfl) ?_
  refine o_q rfl rfl (za2 rfl) ?_
  refine byB b4 (fun hb5 => ?_) (fun hb5 => ?_)
  · replace h := bb_t hb5 h
    refine o_w (za4 rfl rfl rfl (congrArg (fun b => Value.bool (!(b))) hb5)) rfl (q_f F27_1 rfl) ?_
    refine o_w (za4 rfl rfl rfl (congrArg (fun b => Value.bool (!(b))) hb5)) rfl (q_ldb Y24 rfl (fun w h => h.zae (i := 0) rfl) rfl) ?_
    refine o_w (za4 rfl rfl rfl (congrArg (fun b => Value.bool (!(b))) hb5)) rfl (q_len Tryz.underlying24 rfl) ?_
    refine o_w (za4 rfl rfl rfl (congrArg (fun b => Value.bool (!(b))) hb5)) rfl (q_gtr rfl rfl) ?_
    refine o_q rfl rfl (zaw false (congrArg (fun b => Value.bool (!(b))) hb5) rfl) ?_
    refine o_q rfl rfl (za2 rfl) ?_
    refine byB (decide (40 < (l0_1.length : Int))) (fun hb6 => ?_) (fun hb6 => ?_)
    · replace h := br_t hb6 h
      refine @o_n _ _ _ _ _ _ _ _ _ _ _ 18 (za3 rfl rfl rfl (congrArg Value.bool hb6) rfl) (Eq.refl (some 18)) ?_
      refine @o_n _ _ _ _ _ _ _ _ _ _ _ 19 (za3 rfl rfl rfl (congrArg Value.bool hb6) rfl) (Eq.refl (some 19)) ?_
      refine @o_n _ _ _ _ _ _ _ _ _ _ _ 20 (za3 rfl rfl rfl (congrArg Value.bool hb6) rfl) (Eq.refl (some 20)) ?_
      refine @o_n _ _ _ _ _ _ _ _ _ _ _ 21 (za3 rfl rfl rfl (congrArg Value.bool hb6) rfl) (Eq.refl (some 21)) ?_
      refine o_q rfl rfl (zaw true (congrArg Value.bool hb6) rfl) ?_
      refine o_end ?_
      refine za1 ?_
      refine c_true rfl ?_
      refine c_seq ?_
      refine za0 ?_
      refine o_q rfl rfl (q_asg rfl) ?_
      refine o_end ?_
      refine za1 ?_
      refine c_ret ?_
      refine za8 ?_
      have e0_ := Option.some.inj h; clear h
      subst e0_
      exact x_r1 () Tryz.results33 (zai rfl) rfl (fun w h => za7 [] (by decide) rfl w h)
    · replace h := br_f hb6 h
      refine o_w (za4 rfl rfl rfl (congrArg Value.bool hb6)) rfl (q_f F27_2 rfl) ?_
      refine o_w (za4 rfl rfl rfl (congrArg Value.bool hb6)) rfl (q_ldb Y25 rfl (fun w h => h.zae (i := 0) rfl) rfl) ?_
      refine o_w (za4 rfl rfl rfl (congrArg Value.bool hb6)) rfl (q_len Tryz.underlying25 rfl) ?_
      refine o_w (za4 rfl rfl rfl (congrArg Value.bool hb6)) rfl (q_gtr rfl rfl) ?_
      refine o_q rfl rfl (zaw false (congrArg Value.bool hb6) rfl) ?_
      refine o_end ?_
      refine za1 ?_
      refine zaq _ rfl (fun hb7 => ?_) (fun hb7 => ?_)
      · skip
        replace h := br_t hb7 h
        refine c_seq ?_
        refine za0 ?_
        refine o_q rfl rfl (q_asg rfl) ?_
        refine o_end ?_
        refine za1 ?_
        refine c_ret ?_
        refine za8 ?_
        have e0_ := Option.some.inj h; clear h
        subst e0_
        exact x_r1 () Tryz.results33 (zai rfl) rfl (fun w h => za7 [] (by decide) rfl w h)
      · skip
        replace h := br_f hb7 h
        refine zak ?_
        refine za1 ?_
        refine c_seq ?_
        refine c_seq ?_
        refine za0 ?_
        refine o_q rfl rfl (q_f F27_1 rfl) ?_
        refine o_q rfl rfl (q_ldb Y24 rfl (fun w h => h.zae (i := 0) rfl) rfl) ?_
        refine o_q rfl rfl (q_len Tryz.underlying24 rfl) ?_
        refine o_q rfl rfl (za2 rfl) ?_
        refine o_end ?_
        refine za1 ?_
        refine zaj ?_
        refine za6 h (fun o16 hl15 hR14 => ?_) rfl
        clear h
        refine c_fact (p := l0_1.length ≤ 9223372036854775807) (fun w h => (R0_1.now Z h).2.1) (fun hm13 => ?_)
        refine c_loopL (σ := (List SStep) × Int) (fun k11 ((ys10, i8) : (List SStep) × Int) => Rg l0_1 i8 ys10 ∧ ys10.length = k11 ∧ spec_plGood.l0 a0_0 ys10 i8 = some o16) [2, 3, 4, 26, 27, 28, 29, 30, 31, 32, 33, 34, 35, 36, 37, 38, 39, 40, 41, 42, 43, 44, 45, 46] (fun ((ys10, i8) : (List SStep) × Int) => [(26, .int .i64 i8)]) (fun ((ys10, i8) : (List SStep) × Int) => [box g1 27 #[.int .i64 a0_0, .slice A0_1 l0_1.length c0_1, .slice A0_2 l0_2.length c0_2]]) l0_1.length (l0_1, 0) ⟨Rg.start _, rfl, hl15⟩ ⟨rfl, trivial⟩ (fun w h => h) ?_
        refine fun k11 => cur2 (listC (fun i8 U17 hJ_ => ?_) (fun y9 ys10 i8 U17 hJ_ => ?_))
        · skip
          clear hl15
          have hr12 := hJ_.1; have hk18 := hJ_.2.1; have h := hJ_.2.2; clear hJ_
          replace h : spec_plGood.l0 a0_0 [] i8 = some o16 := h
          rw [spec_plGood.l0] at h
          refine c_seq ?_
          refine za0 ?_
          refine o_q rfl rfl (q_lss rfl rfl) ?_
          refine o_end ?_
          refine za1 ?_
          refine c_seq ?_
          refine c_false (congrArg Value.bool hr12.ge) ?_
          refine c_exit ?_
          refine zaa ?_
          refine zaa ?_
          have e_ := Option.some.inj h; replace h := hR14; rw [← e_] at h; clear e_
          refine x_hit ?_
          refine za1 ?_
          refine c_seq ?_
          refine c_seq ?_
          refine za0 ?_
          refine o_q rfl rfl (q_ldB G27 Z27 rfl (fun w h => h.zae (i := 0) rfl) rfl) ?_
          refine za6 h (fun l20 hx19 h => ?_) rfl
          refine o_e rfl (za9 0 Z Tryz.func85 N85 rfl rfl rfl (fun w P1 hF hB hS hT => spec_plExponents.calls k a0_0 A0_1 c0_1 l0_1.length l0_1 A0_2 c0_2 l0_2.length l0_2 hB hF (hS _ R0_1) hc0_1 (hS _ R0_2) hc0_2 _ hx19)) (cur3 (fun A21 c22 H23 => ?_))
          refine o_q rfl rfl (q_len Tryz.underlying60 rfl) ?_
          refine o_q rfl rfl (za2 rfl) ?_
          refine o_end ?_
          refine za1 ?_
          refine zaj ?_
          refine za6 h (fun o32 hl31 hR30 => ?_) rfl
          clear h
          refine c_fact (p := l20.length ≤ 9223372036854775807) (fun w h => (h.zau (i := 0) rfl).2.1) (fun hm29 => ?_)
          refine c_loopL (σ := (List (List Int)) × Int) (fun k27 ((ys26, i24) : (List (List Int)) × Int) => Rg l20 i24 ys26 ∧ ys26.length = k27 ∧ spec_plGood.l1 ys26 i24 = some o32) [2, 6, 50, 51, 52, 53, 54, 55, 56, 57] (fun ((ys26, i24) : (List (List Int)) × Int) => [(50, .int .i64 i24)]) (fun ((ys26, i24) : (List (List Int)) × Int) => [row (gk 3 (Kd.int .i64)) 25 (.slice A21 l20.length c22) (zp H23 l20), box g1 27 #[.int .i64 a0_0, .slice A0_1 l0_1.length c0_1, .slice A0_2 l0_2.length c0_2]]) l20.length (l20, 0) ⟨Rg.start _, rfl, hl31⟩ ⟨rfl, trivial⟩ (fun w h => h) ?_
          refine fun k27 => cur2 (listC (fun i24 U33 hJ_ => ?_) (fun y25 ys26 i24 U33 hJ_ => ?_))
          · skip
            clear hl31
            have hr28 := hJ_.1; have hk34 := hJ_.2.1; have h := hJ_.2.2; clear hJ_
            replace h : spec_plGood.l1 [] i24 = some o32 := h
            rw [spec_plGood.l1] at h
            refine c_seq ?_
            refine za0 ?_
            refine o_q rfl rfl (q_lss rfl rfl) ?_
            refine o_end ?_
            refine za1 ?_
            refine c_seq ?_
            refine c_false (congrArg Value.bool hr28.ge) ?_
            refine c_exit ?_
            refine zaa ?_
            refine zaa ?_
            have e_ := Option.some.inj h; replace h := hR30; rw [← e_] at h; clear e_
            refine x_hit ?_
            refine za1 ?_
            refine c_seq ?_
            refine za0 ?_
            refine o_q rfl rfl (q_f F27_2 rfl) ?_
            refine o_q rfl rfl (q_ldb Y25 rfl (fun w h => h.zae (i := 1) rfl) rfl) ?_
            refine o_q rfl rfl (q_f F27_0 rfl) ?_
            refine o_q rfl rfl (q_ldb Y3 rfl (fun w h => h.zae (i := 1) rfl) rfl) ?_
            refine o_q rfl rfl (q_f F27_1 rfl) ?_
            refine o_q rfl rfl (q_ldb Y24 rfl (fun w h => h.zae (i := 1) rfl) rfl) ?_
            refine o_q rfl rfl (q_len Tryz.underlying24 rfl) ?_
            refine o_q rfl rfl (q_add64 rfl rfl) ?_
            refine o_q rfl rfl (q_sub64 rfl rfl) ?_
            refine za6 h (fun b36 hx35 h => ?_) rfl
            refine o_e rfl (za9 0 Z Tryz.func71 N71 rfl rfl rfl (fun w P1 hF hB hS hT => spec_l1All.calls A0_2 c0_2 l0_2.length l0_2 0 (w64 (w64 (a0_0 + (l0_1.length : Int)) - 1)) hB hF (hS _ R0_2) hc0_2 _ hx35)) (fun _ => ?_)
            refine o_q rfl rfl (q_asg rfl) ?_
            refine o_end ?_
            refine za1 ?_
            refine c_ret ?_
            have e0_ := Option.some.inj h; clear h
            subst e0_
            exact x_r1 () Tryz.results33 (zai rfl) rfl (fun w h => za7 [] (by decide) rfl w h)
          · skip
            clear hl31
            have hr28 := hJ_.1; have hk34 := hJ_.2.1; have h := hJ_.2.2; clear hJ_
            replace h : spec_plGood.l1 (y25 :: ys26) i24 = some o32 := h
            rw [spec_plGood.l1] at h
            refine c_seq ?_
            refine za0 ?_
            refine o_q rfl rfl (q_lss rfl rfl) ?_
            refine o_end ?_
            refine za1 ?_
            refine c_seq ?_
            refine c_true (congrArg Value.bool hr28.lt) ?_
            refine zak ?_
            refine za1 ?_
            refine c_seq ?_
            refine zaj ?_
            refine c_seq ?_
            refine za0 ?_
            refine o_fact (p := Sh A21 l20.length (zp H23 l20).length) (fun w h => f_sh (dk := (gk 3 (Kd.int .i64))) h (fun w h => h.zau (i := 0) rfl)) (fun hq37 => ?_)
            refine o_q rfl rfl (q_ix Tryz.underlying60 Z25 rfl rfl hq37 (gt_zp hr28.get)) ?_
            refine o_fact (p := y25.length ≤ hC H23 i24) (fun w h => (K_in (h.zau (i := 0) rfl) hr28.get).1) (fun hc38 => ?_)
            refine o_q rfl rfl (q_lde (off := 0) Y25 rfl rfl (fun w h => h.zau (i := 0) rfl) (gt_zp hr28.get) (fun _ _ h => h.1) rfl) ?_
            refine o_q rfl rfl (q_asg rfl) ?_
            refine o_end ?_
            refine za1 ?_
            refine c_seq ?_
            refine za0 ?_
            refine o_q rfl rfl (za2 rfl) ?_
            refine za6 h (fun b40 hx39 h => ?_) rfl
            refine o_e rfl (za9 0 Z Tryz.func71 N71 rfl rfl rfl (fun w P1 hF hB hS hT => spec_l1All.calls (hA H23 i24) (hC H23 i24) y25.length y25 0 1000000 hB hF (stab_in (hT 0 _ rfl).row hr28.get) hc38 _ hx39)) (fun _ => ?_)
            refine o_q rfl rfl (q_not rfl) ?_
            refine o_end ?_
            refine za1 ?_
            refine zaq _ rfl (fun hb41 => ?_) (fun hb41 => ?_)
            · replace hb41 := nt_t hb41
              replace h := bb_f hb41 h
              refine c_seq ?_
              refine za0 ?_
              refine o_q rfl rfl (q_asg rfl) ?_
              refine o_end ?_
              refine za1 ?_
              refine c_ret ?_
              refine zao ?_
              refine za8 ?_
              refine za8 ?_
              have e_ := Option.some.inj h; replace h := hR30; rw [← e_] at h; clear e_
              refine zao ?_
              refine za8 ?_
              have e0_ := Option.some.inj h; clear h
              subst e0_
              exact x_r1 () Tryz.results33 (zai rfl) rfl (fun w h => za7 [] (by decide) rfl w h)
            · replace hb41 := nt_f hb41
              replace h := bb_t hb41 h
              refine zak ?_
              refine zal ?_
              refine za1 ?_
              refine za0 ?_
              refine o_q rfl rfl (q_up rfl rfl (hr28.up hm29)) ?_
              refine o_q rfl rfl (za2 rfl) ?_
              refine o_end ?_
              refine zam ys26.length (ys26, i24 + 1) (by rw [← hk34]; exact Nat.lt_succ_self _) ⟨hr28.step, rfl, h⟩ ⟨rfl, trivial⟩ (fun w h => za7 [0, 1] (by decide) rfl w h) ?_
              repeat (first | exact zac _ _ | refine zaf rfl ?_ | refine zad rfl ?_ | refine zah rfl ?_)
        · skip
          clear hl15
          have hr12 := hJ_.1; have hk18 := hJ_.2.1; have h := hJ_.2.2; clear hJ_
          replace h : spec_plGood.l0 a0_0 (y9 :: ys10) i8 = some o16 := h
          rw [spec_plGood.l0] at h
          refine c_seq ?_
          refine za0 ?_
          refine o_q rfl rfl (q_lss rfl rfl) ?_
          refine o_end ?_
          refine za1 ?_
          refine c_seq ?_
          refine c_true (congrArg Value.bool hr12.lt) ?_
          refine zak ?_
          refine za1 ?_
          refine c_seq ?_
          refine zaj ?_
          refine c_seq ?_
          refine za0 ?_
          refine o_q rfl rfl (za2 rfl) ?_
          refine o_fact (p := Sh A0_1 l0_1.length l0_1.length) (fun w h => f_sh (dk := kStep) h (fun w h => R0_1.now Z h)) (fun hq42 => ?_)
          refine o_q rfl rfl (q_ix Tryz.underlying24 Z72 rfl rfl hq42 hr12.get) ?_
          refine o_q rfl rfl (q_ldE G72 Z72 rfl rfl (fun w h => R0_1.now Z h) hr12.get (fun _ _ h => h) rfl) ?_
          refine o_e rfl (e_alloc V72 rfl) (fun g43 => ?_)
          refine o_q rfl rfl (q_asg rfl) ?_
          refine o_e rfl (zat (i := 0) rfl rfl rfl Z72 rfl rfl) (fun _ => ?_)
          refine o_end ?_
          refine za1 ?_
          refine c_seq ?_
          refine za0 ?_
          refine o_q rfl rfl (q_f F72_0 rfl) ?_
          refine o_q rfl rfl (q_ldb Y3 rfl (fun w h => h.zae (i := 0) rfl) rfl) ?_
          refine o_q rfl rfl (q_f F72_1 rfl) ?_
          refine o_q rfl rfl (q_ldb Y3 rfl (fun w h => h.zae (i := 0) rfl) rfl) ?_
          refine za6 h (fun b46 hx45 h => ?_) rfl
          refine o_e rfl (za9 0 Z Tryz.func84 N84 rfl rfl rfl (fun w P1 hF hB hS hT => spec_l1In.calls y9.f0 0 y9.f1 hB hF _ hx45)) (fun _ => ?_)
          refine o_q rfl rfl (q_not rfl) ?_
          refine o_q rfl rfl (za2 rfl) ?_
          refine byB b46 (fun hb47 => ?_) (fun hb47 => ?_)
          · replace h := bb_t hb47 h
            refine o_w (za4 rfl rfl rfl (congrArg (fun b => Value.bool (!(b))) hb47)) rfl (q_f F72_1 rfl) ?_
            refine o_w (za4 rfl rfl rfl (congrArg (fun b => Value.bool (!(b))) hb47)) rfl (q_ldb Y3 rfl (fun w h => h.zae (i := 0) rfl) rfl) ?_
            refine o_w (za4 rfl rfl rfl (congrArg (fun b => Value.bool (!(b))) hb47)) rfl (q_f F27_0 rfl) ?_
            refine o_w (za4 rfl rfl rfl (congrArg (fun b => Value.bool (!(b))) hb47)) rfl (q_ldb Y3 rfl (fun w h => h.zae (i := 1) rfl) rfl) ?_
            refine o_w (za4 rfl rfl rfl (congrArg (fun b => Value.bool (!(b))) hb47)) rfl (za2 rfl) ?_
            refine o_w (za4 rfl rfl rfl (congrArg (fun b => Value.bool (!(b))) hb47)) rfl (q_add64 rfl rfl) ?_
            refine o_w (za4 rfl rfl rfl (congrArg (fun b => Value.bool (!(b))) hb47)) rfl (q_geq rfl rfl) ?_
            refine o_q rfl rfl (zaw false (congrArg (fun b => Value.bool (!(b))) hb47) rfl) ?_
            refine o_end ?_
            refine za1 ?_
            refine zaq _ rfl (fun hb48 => ?_) (fun hb48 => ?_)
            · skip
              replace h := br_t hb48 h
              refine c_seq ?_
              refine za0 ?_
              refine o_q rfl rfl (q_asg rfl) ?_
              refine o_end ?_
              refine za1 ?_
              refine c_ret ?_
              refine zao ?_
              refine za8 ?_
              refine za8 ?_
              have e_ := Option.some.inj h; replace h := hR14; rw [← e_] at h; clear e_
              refine zao ?_
              refine za8 ?_
              have e0_ := Option.some.inj h; clear h
              subst e0_
              exact x_r1 () Tryz.results33 (zai rfl) rfl (fun w h => za7 [] (by decide) rfl w h)
            · skip
              replace h := br_f hb48 h
              refine zak ?_
              refine zal ?_
              refine za1 ?_
              refine za0 ?_
              refine o_q rfl rfl (q_up rfl rfl (hr12.up hm13)) ?_
              refine o_q rfl rfl (za2 rfl) ?_
              refine o_end ?_
              refine zam ys10.length (ys10, i8 + 1) (by rw [← hk18]; exact Nat.lt_succ_self _) ⟨hr12.step, rfl, h⟩ ⟨rfl, trivial⟩ (fun w h => za7 [1] (by decide) rfl w h) ?_
              repeat (first | exact zac _ _ | refine zaf rfl ?_ | refine zad rfl ?_ | refine zah rfl ?_)
          · replace h := bb_f hb47 h
            refine @o_n _ _ _ _ _ _ _ _ _ _ _ 38 (za3 rfl rfl rfl (congrArg (fun b => Value.bool (!(b))) hb47) rfl) (Eq.refl (some 38)) ?_
            refine @o_n _ _ _ _ _ _ _ _ _ _ _ 39 (za3 rfl rfl rfl (congrArg (fun b => Value.bool (!(b))) hb47) rfl) (Eq.refl (some 39)) ?_
            refine @o_n _ _ _ _ _ _ _ _ _ _ _ 40 (za3 rfl rfl rfl (congrArg (fun b => Value.bool (!(b))) hb47) rfl) (Eq.refl (some 40)) ?_
            refine @o_n _ _ _ _ _ _ _ _ _ _ _ 41 (za3 rfl rfl rfl (congrArg (fun b => Value.bool (!(b))) hb47) rfl) (Eq.refl (some 41)) ?_
            refine @o_n _ _ _ _ _ _ _ _ _ _ _ 42 (za3 rfl rfl rfl (congrArg (fun b => Value.bool (!(b))) hb47) rfl) (Eq.refl (some 42)) ?_
            refine @o_n _ _ _ _ _ _ _ _ _ _ _ 43 (za3 rfl rfl rfl (congrArg (fun b => Value.bool (!(b))) hb47) rfl) (Eq.refl (some 43)) ?_
            refine @o_n _ _ _ _ _ _ _ _ _ _ _ 44 (za3 rfl rfl rfl (congrArg (fun b => Value.bool (!(b))) hb47) rfl) (Eq.refl (some 44)) ?_
            refine o_q rfl rfl (zaw true (congrArg (fun b => Value.bool (!(b))) hb47) rfl) ?_
            refine o_end ?_
            refine za1 ?_
            refine c_true rfl ?_
            refine c_seq ?_
            refine za0 ?_
            refine o_q rfl rfl (q_asg rfl) ?_
            refine o_end ?_
            refine za1 ?_
            refine c_ret ?_
            refine zao ?_
            refine za8 ?_
            refine za8 ?_
            have e_ := Option.some.inj h; replace h := hR14; rw [← e_] at h; clear e_
            refine zao ?_
            refine za8 ?_
            have e0_ := Option.some.inj h; clear h
            subst e0_
            exact x_r1 () Tryz.results33 (zai rfl) rfl (fun w h => za7 [] (by decide) rfl w h)
  · replace h := bb_f hb5 h
    refine @o_n _ _ _ _ _ _ _ _ _ _ _ 12 (za3 rfl rfl rfl (congrArg (fun b => Value.bool (!(b))) hb5) rfl) (Eq.refl (some 12)) ?_
    refine @o_n _ _ _ _ _ _ _ _ _ _ _ 13 (za3 rfl rfl rfl (congrArg (fun b => Value.bool (!(b))) hb5) rfl) (Eq.refl (some 13)) ?_
    refine @o_n _ _ _ _ _ _ _ _ _ _ _ 14 (za3 rfl rfl rfl (congrArg (fun b => Value.bool (!(b))) hb5) rfl) (Eq.refl (some 14)) ?_
    refine @o_n _ _ _ _ _ _ _ _ _ _ _ 15 (za3 rfl rfl rfl (congrArg (fun b => Value.bool (!(b))) hb5) rfl) (Eq.refl (some 15)) ?_
    refine o_q rfl rfl (zaw true (congrArg (fun b => Value.bool (!(b))) hb5) rfl) ?_
    refine o_q rfl rfl (za2 rfl) ?_
    refine @o_n _ _ _ _ _ _ _ _ _ _ _ 18 (za3 rfl rfl rfl rfl rfl) (Eq.refl (some 18)) ?_
    refine @o_n _ _ _ _ _ _ _ _ _ _ _ 19 (za3 rfl rfl rfl rfl rfl) (Eq.refl (some 19)) ?_
    refine @o_n _ _ _ _ _ _ _ _ _ _ _ 20 (za3 rfl rfl rfl rfl rfl) (Eq.refl (some 20)) ?_
    refine @o_n _ _ _ _ _ _ _ _ _ _ _ 21 (za3 rfl rfl rfl rfl rfl) (Eq.refl (some 21)) ?_
    refine o_q rfl rfl (zaw true rfl rfl) ?_
    refine o_end ?_
    refine za1 ?_
    refine c_true rfl ?_
    refine c_seq ?_
    refine za0 ?_
    refine o_q rfl rfl (q_asg rfl) ?_
    refine o_end ?_
    refine za1 ?_
    refine c_ret ?_
    refine za8 ?_
    have e0_ := Option.some.inj h; clear h
    subst e0_
    exact x_r1 () Tryz.results33 (zai rfl) rfl (fun w h => za7 [] (by decide) rfl w h)

/-! ### loop.example/g01098/spec.l1Num: function 86 -/
def spec_l1Num.f : Nat → Int → Option ByteArray
  | 0, _ => none
  | k + 1, a0 => if a0 < 10 then (some (strOfNums ([IntKind.u8.wrap (w64 (48 + a0))] : List Int))) else (((spec_l1Num.f k) (w64 (a0.tdiv 10))).bind fun s127 => (sap s127 (strOfNums ([IntKind.u8.wrap (w64 (48 + (a0.tmod 10)))] : List Int))).bind fun s547 => some s547)
set_option maxHeartbeats 600000 in
set_option maxRecDepth 100000 in
theorem spec_l1Num.calls : ∀ (k : Nat) {w0 ws : World} {P0 : Nat → Prop} (a0 : Int) (Z : Below w0.heap.size w0 ws) (hF : Fr w0 ws P0 [] ws)  (r_1 : ByteArray) (h : spec_l1Num.f k a0 = some r_1),
    Calls Tryz.prog 86 #[.int .i64 a0] ws (Post1 w0 ws P0 (fun (_ : Unit) => .string r_1) (fun (_ : Unit) => [])) := by
  intro k
  induction k with
  | zero =>
    intros
    rename_i h
    cases h
  | succ k ih =>
    intro w0 ws P0 a0 Z hF  r_1 h
    rw [spec_l1Num.f] at h
    refine enter Tryz.func86 rfl Tryz.ntmps86 rfl hF ?_
    refine c_seq ?_
    refine za0 ?_
    refine o_q rfl rfl (q_asg rfl) ?_
    refine o_end ?_
    refine za1 ?_
    refine c_seq ?_
    refine c_seq ?_
    refine za0 ?_
    refine o_q rfl rfl (za2 rfl) ?_
    refine o_q rfl rfl (q_lss rfl rfl) ?_
    refine o_end ?_
    refine za1 ?_
    refine zaq _ rfl (fun hb1 => ?_) (fun hb1 => ?_)
    · skip
      replace h := br_t hb1 h
      refine c_seq ?_
      refine za0 ?_
      refine o_q rfl rfl (za2 rfl) ?_
      refine o_q rfl rfl (q_add64 rfl rfl) ?_
      refine o_q rfl rfl (q_conv (by rw [Tryz.underlying3]; rfl) Tryz.underlying5 rfl) ?_
      refine o_e rfl (e_lit (vs := [(0, .int .u8 (IntKind.u8.wrap (w64 (48 + a0))))]) (cs := [.int .u8 (IntKind.u8.wrap (w64 (48 + a0)))]) (Kd.int .u8) ([IntKind.u8.wrap (w64 (48 + a0))] : List Int) Tryz.underlying22 I5 (by decide) rfl (by decide) rfl rfl (fun _ _ => Kd.zar _)) (cur2 (fun A2 c3 => ?_))
      refine o_q rfl rfl (q_bstr Tryz.underlying22 Tryz.underlying5 Tryz.underlying9 rfl (fun w h => h.zau (i := 0) rfl) (Nat.succ_pos _)) ?_
      refine o_q rfl rfl (q_asg rfl) ?_
      refine o_end ?_
      refine za1 ?_
      refine c_ret ?_
      refine za8 ?_
      have e0_ := Option.some.inj h; clear h
      subst e0_
      exact x_r1 () Tryz.results86 (zai rfl) rfl (fun w h => za7 [] (by decide) rfl w h)
    · skip
      replace h := br_f hb1 h
      refine zak ?_
      refine za1 ?_
      refine c_seq ?_
      refine za6 h (fun s127 hx126 h => ?_) rfl
      refine za6 h (fun s547 hs546 h => ?_) rfl
      refine a_start (ds := []) MO rfl ?_
      refine za5 0 rfl rfl rfl (by kernel_rfl) (fun _ _ _ h => h) (za2 rfl) ?_
      refine za5 1 rfl rfl rfl (by kernel_rfl) (fun _ _ _ h => h) (q_quo64 rfl rfl (by decide)) ?_
      refine za5 3 rfl rfl rfl (by kernel_rfl) (fun _ _ _ h => h) (za2 rfl) ?_
      refine za5 4 rfl rfl rfl (by kernel_rfl) (fun _ _ _ h => h) (q_rem rfl rfl (by decide)) ?_
      refine za5 5 rfl rfl rfl (by kernel_rfl) (fun _ _ _ h => h) (q_add64 rfl rfl) ?_
      refine za5 6 rfl rfl rfl (by kernel_rfl) (fun _ _ _ h => h) (q_conv (by rw [Tryz.underlying3]; rfl) Tryz.underlying5 rfl) ?_
      refine a_two 2 7 rfl rfl rfl rfl (by kernel_rfl) rfl rfl (za9 0 Z Tryz.func86 N86 rfl rfl rfl (fun w P1 hF hB hS hT => ih (w64 (a0.tdiv 10)) hB hF _ hx126)) (fun s w h => h) (e_lit (vs := [(0, .int .u8 (IntKind.u8.wrap (w64 (48 + (a0.tmod 10)))))]) (cs := [.int .u8 (IntKind.u8.wrap (w64 (48 + (a0.tmod 10))))]) (Kd.int .u8) ([IntKind.u8.wrap (w64 (48 + (a0.tmod 10)))] : List Int) Tryz.underlying22 I5 (by decide) rfl (by decide) rfl rfl (fun _ _ => Kd.zar _)) (fun s w h => zab [] (by decide) w h rfl) (fun _ => ?_) (cur2 (fun A426 c427 => ?_))
      · skip
        refine a_one 7 rfl rfl (by kernel_rfl) rfl (e_lit (vs := [(0, .int .u8 (IntKind.u8.wrap (w64 (48 + (a0.tmod 10)))))]) (cs := [.int .u8 (IntKind.u8.wrap (w64 (48 + (a0.tmod 10))))]) (Kd.int .u8) ([IntKind.u8.wrap (w64 (48 + (a0.tmod 10)))] : List Int) Tryz.underlying22 I5 (by decide) rfl (by decide) rfl rfl (fun _ _ => Kd.zar _)) (fun s w h => zab [] (by decide) w h rfl) (cur2 (fun A426 c427 => ?_))
        refine a_one 8 rfl rfl (by kernel_rfl) rfl (ev_q rfl (q_bstr Tryz.underlying22 Tryz.underlying5 Tryz.underlying9 rfl (fun w h => h.zau (i := 0) rfl) (Nat.succ_pos _))) (fun s w h => zab [] (by decide) w h rfl) (fun _ => ?_)
        refine za5 9 rfl rfl rfl (by kernel_rfl) (fun _ _ _ h => h) (q_sap rfl rfl hs546) ?_
        refine za5 10 rfl rfl rfl (by kernel_rfl) (fun _ _ _ h => h) (q_asg rfl) ?_
        refine zax (by kernel_rfl) ?_
        refine za1 ?_
        refine c_ret ?_
        have e0_ := Option.some.inj h; clear h
        subst e0_
        exact x_r1 () Tryz.results86 (zai rfl) rfl (fun w h => za7 [] (by decide) rfl w h)
      · skip
        refine a_two 2 8 rfl rfl rfl rfl (by kernel_rfl) rfl rfl (za9 0 Z Tryz.func86 N86 rfl rfl rfl (fun w P1 hF hB hS hT => ih (w64 (a0.tdiv 10)) hB hF _ hx126)) (fun s w h => zab [] (by decide) w h rfl) (ev_q rfl (q_bstr Tryz.underlying22 Tryz.underlying5 Tryz.underlying9 rfl (fun w h => h.zau (i := 0) rfl) (Nat.succ_pos _))) (fun s w h => zab [] (by decide) w h rfl) (fun _ => ?_) (fun _ => ?_)
        · skip
          refine a_one 8 rfl rfl (by kernel_rfl) rfl (ev_q rfl (q_bstr Tryz.underlying22 Tryz.underlying5 Tryz.underlying9 rfl (fun w h => h.zau (i := 0) rfl) (Nat.succ_pos _))) (fun s w h => zab [] (by decide) w h rfl) (fun _ => ?_)
          refine za5 9 rfl rfl rfl (by kernel_rfl) (fun _ _ _ h => h) (q_sap rfl rfl hs546) ?_
          refine za5 10 rfl rfl rfl (by kernel_rfl) (fun _ _ _ h => h) (q_asg rfl) ?_
          refine zax (by kernel_rfl) ?_
          refine za1 ?_
          refine c_ret ?_
          have e0_ := Option.some.inj h; clear h
          subst e0_
          exact x_r1 () Tryz.results86 (zai rfl) rfl (fun w h => za7 [] (by decide) rfl w h)
        · skip
          refine a_one 2 rfl rfl (by kernel_rfl) rfl (za9 0 Z Tryz.func86 N86 rfl rfl rfl (fun w P1 hF hB hS hT => ih (w64 (a0.tdiv 10)) hB hF _ hx126)) (fun s w h => zab [] (by decide) w h rfl) (fun _ => ?_)
          refine za5 9 rfl rfl rfl (by kernel_rfl) (fun _ _ _ h => h) (q_sap rfl rfl hs546) ?_
          refine za5 10 rfl rfl rfl (by kernel_rfl) (fun _ _ _ h => h) (q_asg rfl) ?_
          refine zax (by kernel_rfl) ?_
          refine za1 ?_
          refine c_ret ?_
          have e0_ := Option.some.inj h; clear h
          subst e0_
          exact x_r1 () Tryz.results86 (zai rfl) rfl (fun w h => za7 [] (by decide) rfl w h)

/-! ### loop.example/g01098/spec.plList: function 87 -/
def spec_plList.l0 (k : Nat) : (List Int) → Int → ByteArray → Option ByteArray
  | [], i2, s3 => some s3
  | y4 :: ys5, i2, s3 => (if 0 < i2 then ((sap s3 (⟨#[44]⟩ : ByteArray)).bind fun s26 => some s26) else (some s3)).bind fun s18 => (spec_l1Num.f k y4).bind fun s28 => (sap s18 s28).bind fun s30 => spec_plList.l0 k ys5 (i2 + 1) s30
def spec_plList.f (k : Nat) (l0 : List Int) : Option ByteArray := if (l0.length : Int) = 0 then (some (⟨#[45]⟩ : ByteArray)) else ((spec_plList.l0 k l0 0 (⟨#[]⟩ : ByteArray)).bind fun s3 => some s3)
set_option maxHeartbeats 600000 in
set_option maxRecDepth 100000 in
theorem spec_plList.calls (k : Nat) {w0 ws : World} {P0 : Nat → Prop} (A0 : Option Addr) (c0 : Nat) (n0 : Nat) (l0 : List Int) (Z : Below w0.heap.size w0 ws) (hF : Fr w0 ws P0 [] ws) (R0 : Stable ws P0 (fun w => Kd.C (Kd.int .i64) w A0 n0 l0)) (hc0 : n0 ≤ c0) (r_1 : ByteArray) (h : spec_plList.f k l0 = some r_1) :
    Calls Tryz.prog 87 #[.slice A0 n0 c0] ws (Post1 w0 ws P0 (fun (_ : Unit) => .string r_1) (fun (_ : Unit) => [])) := by
  unfold spec_plList.f at h
  obtain rfl := (R0 ws (KeptB.refl _ _)).1
  refine enter Tryz.func87 rfl Tryz.ntmps87 rfl hF ?_
  refine c_seq ?_
  refine za0 ?_
  refine o_q rfl rfl (q_asg rfl) ?_
  refine o_end ?_
  refine za1 ?_
  refine c_seq ?_
  refine c_seq ?_
  refine za0 ?_
  refine o_q rfl rfl (za2 rfl) ?_
  refine o_q rfl rfl (q_len Tryz.underlying25 rfl) ?_
  refine o_q rfl rfl (q_eql rfl rfl) ?_
  refine o_end ?_
  refine za1 ?_
  refine zaq _ rfl (fun hb1 => ?_) (fun hb1 => ?_)
  · skip
    replace h := br_t hb1 h
    refine c_seq ?_
    refine za0 ?_
    refine o_q rfl rfl (q_asg rfl) ?_
    refine o_end ?_
    refine za1 ?_
    refine c_ret ?_
    refine za8 ?_
    have e0_ := Option.some.inj h; clear h
    subst e0_
    exact x_r1 () Tryz.results87 (zai rfl) rfl (fun w h => za7 [] (by decide) rfl w h)
  · skip
    replace h := br_f hb1 h
    refine zak ?_
    refine za1 ?_
    refine c_seq ?_
    refine za0 ?_
    refine o_q rfl rfl (q_asg rfl) ?_
    refine o_end ?_
    refine za1 ?_
    refine c_seq ?_
    refine c_seq ?_
    refine za0 ?_
    refine o_q rfl rfl (za2 rfl) ?_
    refine o_q rfl rfl (q_len Tryz.underlying25 rfl) ?_
    refine o_q rfl rfl (za2 rfl) ?_
    refine o_end ?_
    refine za1 ?_
    refine zaj ?_
    refine za6 h (fun o11 hl10 hR9 => ?_) rfl
    clear h
    refine c_fact (p := l0.length ≤ 9223372036854775807) (fun w h => (R0.now Z h).2.1) (fun hm8 => ?_)
    refine c_loopL (σ := (List Int) × Int × ByteArray) (fun k6 ((ys5, i2, s3) : (List Int) × Int × ByteArray) => Rg l0 i2 ys5 ∧ ys5.length = k6 ∧ spec_plList.l0 k ys5 i2 s3 = some o11) [3, 4, 5, 11, 12, 13, 14, 15, 16, 17, 18, 19, 20, 21, 22, 23, 24] (fun ((ys5, i2, s3) : (List Int) × Int × ByteArray) => [(3, .string s3), (11, .int .i64 i2)]) (fun ((ys5, i2, s3) : (List Int) × Int × ByteArray) => []) l0.length (l0, 0, (⟨#[]⟩ : ByteArray)) ⟨Rg.start _, rfl, hl10⟩ ⟨rfl, rfl, trivial⟩ (fun w h => h) ?_
    refine fun k6 => cur3 (listC (fun i2 s3 U12 hJ_ => ?_) (fun y4 ys5 i2 s3 U12 hJ_ => ?_))
    · skip
      clear hl10
      have hr7 := hJ_.1; have hk13 := hJ_.2.1; have h := hJ_.2.2; clear hJ_
      replace h : spec_plList.l0 k [] i2 s3 = some o11 := h
      rw [spec_plList.l0] at h
      refine c_seq ?_
      refine za0 ?_
      refine o_q rfl rfl (q_lss rfl rfl) ?_
      refine o_end ?_
      refine za1 ?_
      refine c_seq ?_
      refine c_false (congrArg Value.bool hr7.ge) ?_
      refine c_exit ?_
      refine zaa ?_
      refine zaa ?_
      have e_ := Option.some.inj h; replace h := hR9; rw [← e_] at h; clear e_
      refine x_hit ?_
      refine za1 ?_
      refine c_seq ?_
      refine za0 ?_
      refine o_q rfl rfl (za2 rfl) ?_
      refine o_q rfl rfl (q_asg rfl) ?_
      refine o_end ?_
      refine za1 ?_
      refine c_ret ?_
      have e0_ := Option.some.inj h; clear h
      subst e0_
      exact x_r1 () Tryz.results87 (zai rfl) rfl (fun w h => za7 [] (by decide) rfl w h)
    · skip
      clear hl10
      have hr7 := hJ_.1; have hk13 := hJ_.2.1; have h := hJ_.2.2; clear hJ_
      replace h : spec_plList.l0 k (y4 :: ys5) i2 s3 = some o11 := h
      rw [spec_plList.l0] at h
      refine c_seq ?_
      refine za0 ?_
      refine o_q rfl rfl (q_lss rfl rfl) ?_
      refine o_end ?_
      refine za1 ?_
      refine c_seq ?_
      refine c_true (congrArg Value.bool hr7.lt) ?_
      refine zak ?_
      refine za1 ?_
      refine c_seq ?_
      refine zaj ?_
      refine c_seq ?_
      refine za0 ?_
      refine o_q rfl rfl (za2 rfl) ?_
      refine o_fact (p := Sh A0 l0.length l0.length) (fun w h => f_sh (dk := (Kd.int .i64)) h (fun w h => R0.now Z h)) (fun hq14 => ?_)
      refine o_q rfl rfl (q_ix Tryz.underlying25 Z3 rfl rfl hq14 hr7.get) ?_
      refine o_q rfl rfl (q_lde (off := 0) Y3 rfl rfl (fun w h => R0.now Z h) hr7.get (fun _ _ h => h) rfl) ?_
      refine o_q rfl rfl (q_asg rfl) ?_
      refine o_q rfl rfl (q_asg rfl) ?_
      refine o_end ?_
      refine za1 ?_
      refine za6 h (fun o19 hl20 hR21 => ?_) rfl
      clear h
      refine c_cutJ (σ := ByteArray) (fun s18 => some s18 = some o19) [3, 16, 17, 18, 19] (fun s18 => [(3, .string s18)]) (fun s18 => []) ?_ ?_
      · skip
        have h := hl20; clear hl20
        clear hR21
        refine c_seq ?_
        refine za0 ?_
        refine o_q rfl rfl (za2 rfl) ?_
        refine o_q rfl rfl (q_gtr rfl rfl) ?_
        refine o_end ?_
        refine za1 ?_
        refine zaq _ rfl (fun hb24 => ?_) (fun hb24 => ?_)
        · skip
          replace h := br_t hb24 h
          refine za0 ?_
          refine o_q rfl rfl (za2 rfl) ?_
          refine za6 h (fun s26 hs25 h => ?_) rfl
          refine o_q rfl rfl (q_sap rfl rfl hs25) ?_
          refine o_q rfl rfl (q_asg rfl) ?_
          refine o_end ?_
          refine zay s26 h ⟨rfl, trivial⟩ (fun w h => za7 [] (by decide) rfl w h) ?_
          repeat (first | exact zac _ _ | refine zaf rfl ?_ | refine zad rfl ?_ | refine zah rfl ?_)
        · skip
          replace h := br_f hb24 h
          refine zak ?_
          refine zay s3 h ⟨rfl, trivial⟩ (fun w h => za7 [] (by decide) rfl w h) ?_
          repeat (first | exact zac _ _ | refine zaf rfl ?_ | refine zad rfl ?_ | refine zah rfl ?_)
      · skip
        refine (fun s18 => fun U22 hJ23 => ?_)
        have e_ := Option.some.inj hJ23; have h := hR21; rw [← e_] at h; clear e_ hJ23 hR21 hl20
        refine za0 ?_
        refine o_q rfl rfl (za2 rfl) ?_
        refine o_q rfl rfl (za2 rfl) ?_
        refine za6 h (fun s28 hx27 h => ?_) rfl
        refine o_e rfl (za9 0 Z Tryz.func86 N86 rfl rfl rfl (fun w P1 hF hB hS hT => spec_l1Num.calls k y4 hB hF _ hx27)) (fun _ => ?_)
        refine za6 h (fun s30 hs29 h => ?_) rfl
        refine o_q rfl rfl (q_sap rfl rfl hs29) ?_
        refine o_q rfl rfl (q_asg rfl) ?_
        refine o_end ?_
        refine zal ?_
        refine za1 ?_
        refine za0 ?_
        refine o_q rfl rfl (q_up rfl rfl (hr7.up hm8)) ?_
        refine o_q rfl rfl (za2 rfl) ?_
        refine o_end ?_
        refine zam ys5.length (ys5, i2 + 1, s30) (by rw [← hk13]; exact Nat.lt_succ_self _) ⟨hr7.step, rfl, h⟩ ⟨rfl, rfl, trivial⟩ (fun w h => za7 [] (by decide) rfl w h) ?_
        repeat (first | exact zac _ _ | refine zaf rfl ?_ | refine zad rfl ?_ | refine zah rfl ?_)

/-! ### loop.example/g01098/spec.plText: function 34 -/
def spec_plText.l0 (k : Nat) : (List SStep) → ByteArray → Int → Option ByteArray
  | [], s3, i4 => some s3
  | y5 :: ys6, s3, i4 => (if 0 < i4 then ((sap s3 (⟨#[44]⟩ : ByteArray)).bind fun s49 => some s49) else (some s3)).bind fun s41 => (spec_l1Num.f k y5.f0).bind fun s51 => (sap s51 (⟨#[42]⟩ : ByteArray)).bind fun s53 => (spec_l1Num.f k y5.f1).bind fun s55 => (sap s53 s55).bind fun s57 => (sap s41 s57).bind fun s59 => spec_plText.l0 k ys6 s59 (i4 + 1)
def spec_plText.f (k : Nat) (a0_0 : Int) (l0_1 : List SStep) (l0_2 : List Int) : Option ByteArray := (spec_plText.l0 k l0_1 (⟨#[]⟩ : ByteArray) 0).bind fun s3 => (if s3 = (⟨#[]⟩ : ByteArray) then (some (⟨#[45]⟩ : ByteArray)) else (some s3)).bind fun s16 => (spec_l1Num.f k a0_0).bind fun s24 => (sap s24 (⟨#[58]⟩ : ByteArray)).bind fun s26 => (sap s26 s16).bind fun s28 => (sap s28 (⟨#[58]⟩ : ByteArray)).bind fun s30 => (spec_plList.f k l0_2).bind fun s32 => (sap s30 s32).bind fun s34 => some s34
set_option maxHeartbeats 600000 in
set_option maxRecDepth 100000 in
theorem spec_plText.calls (k : Nat) {w0 ws : World} {P0 : Nat → Prop} (a0_0 : Int) (A0_1 : Option Addr) (c0_1 : Nat) (n0_1 : Nat) (l0_1 : List SStep) (A0_2 : Option Addr) (c0_2 : Nat) (n0_2 : Nat) (l0_2 : List Int) (Z : Below w0.heap.size w0 ws) (hF : Fr w0 ws P0 [] ws) (R0_1 : Stable ws P0 (fun w => Kd.C kStep w A0_1 n0_1 l0_1)) (hc0_1 : n0_1 ≤ c0_1) (R0_2 : Stable ws P0 (fun w => Kd.C (Kd.int .i64) w A0_2 n0_2 l0_2)) (hc0_2 : n0_2 ≤ c0_2) (r_1 : ByteArray) (h : spec_plText.f k a0_0 l0_1 l0_2 = some r_1) :
    Calls Tryz.prog 34 #[.agg #[.int .i64 a0_0, .slice A0_1 n0_1 c0_1, .slice A0_2 n0_2 c0_2]] ws (Post1 w0 ws P0 (fun (_ : Unit) => .string r_1) (fun (_ : Unit) => [])) := by
  unfold spec_plText.f at h
  obtain rfl := (R0_1 ws (KeptB.refl _ _)).1
  obtain rfl := (R0_2 ws (KeptB.refl _ _)).1
  refine enter Tryz.func34 rfl Tryz.ntmps34 rfl hF ?_
  refine c_seq ?_
  refine za0 ?_
  refine o_e rfl (e_box rfl) (fun g1 => ?_)
  refine o_q rfl rfl (q_asg rfl) ?_
  refine o_end ?_
  refine za1 ?_
  refine c_seq ?_
  refine za0 ?_
  refine o_q rfl rfl (q_asg rfl) ?_
  refine o_end ?_
  refine za1 ?_
  refine c_seq ?_
  refine c_seq ?_
  refine za0 ?_
  refine o_q rfl rfl (q_f F27_1 rfl) ?_
  refine o_q rfl rfl (q_ldb Y24 rfl (fun w h => h.zae (i := 0) rfl) rfl) ?_
  refine o_q rfl rfl (q_len Tryz.underlying24 rfl) ?_
  refine o_q rfl rfl (za2 rfl) ?_
  refine o_end ?_
  refine za1 ?_
  refine zaj ?_
  refine za6 h (fun o12 hl11 hR10 => ?_) rfl
  clear h
  refine c_fact (p := l0_1.length ≤ 9223372036854775807) (fun w h => (R0_1.now Z h).2.1) (fun hm9 => ?_)
  refine c_loopL (σ := (List SStep) × ByteArray × Int) (fun k7 ((ys6, s3, i4) : (List SStep) × ByteArray × Int) => Rg l0_1 i4 ys6 ∧ ys6.length = k7 ∧ spec_plText.l0 k ys6 s3 i4 = some o12) [3, 4, 5, 9, 10, 11, 12, 13, 14, 15, 16, 17, 18, 19, 20, 21, 22, 23, 24, 25, 26, 27, 28] (fun ((ys6, s3, i4) : (List SStep) × ByteArray × Int) => [(3, .string s3), (9, .int .i64 i4)]) (fun ((ys6, s3, i4) : (List SStep) × ByteArray × Int) => [box g1 27 #[.int .i64 a0_0, .slice A0_1 l0_1.length c0_1, .slice A0_2 l0_2.length c0_2]]) l0_1.length (l0_1, (⟨#[]⟩ : ByteArray), 0) ⟨Rg.start _, rfl, hl11⟩ ⟨rfl, rfl, trivial⟩ (fun w h => h) ?_
  refine fun k7 => cur3 (listC (fun s3 i4 U13 hJ_ => ?_) (fun y5 ys6 s3 i4 U13 hJ_ => ?_))
  · skip
    clear hl11
    have hr8 := hJ_.1; have hk14 := hJ_.2.1; have h := hJ_.2.2; clear hJ_
    replace h : spec_plText.l0 k [] s3 i4 = some o12 := h
    rw [spec_plText.l0] at h
    refine c_seq ?_
    refine za0 ?_
    refine o_q rfl rfl (q_lss rfl rfl) ?_
    refine o_end ?_
    refine za1 ?_
    refine c_seq ?_
    refine c_false (congrArg Value.bool hr8.ge) ?_
    refine c_exit ?_
    refine zaa ?_
    refine zaa ?_
    have e_ := Option.some.inj h; replace h := hR10; rw [← e_] at h; clear e_
    refine x_hit ?_
    refine za1 ?_
    refine za6 h (fun o17 hl18 hR19 => ?_) rfl
    clear h
    refine c_cutJ (σ := ByteArray) (fun s16 => some s16 = some o17) [3, 29, 30] (fun s16 => [(3, .string s16)]) (fun s16 => [box g1 27 #[.int .i64 a0_0, .slice A0_1 l0_1.length c0_1, .slice A0_2 l0_2.length c0_2]]) ?_ ?_
    · skip
      have h := hl18; clear hl18
      clear hR19
      refine c_seq ?_
      refine za0 ?_
      refine o_q rfl rfl (za2 rfl) ?_
      refine o_q rfl rfl (q_seql rfl rfl) ?_
      refine o_end ?_
      refine za1 ?_
      refine zaq _ rfl (fun hb22 => ?_) (fun hb22 => ?_)
      · skip
        replace h := br_t hb22 h
        refine za0 ?_
        refine o_q rfl rfl (q_asg rfl) ?_
        refine o_end ?_
        refine zay (⟨#[45]⟩ : ByteArray) h ⟨rfl, trivial⟩ (fun w h => za7 [0] (by decide) rfl w h) ?_
        repeat (first | exact zac _ _ | refine zaf rfl ?_ | refine zad rfl ?_ | refine zah rfl ?_)
      · skip
        replace h := br_f hb22 h
        refine zak ?_
        refine zay s3 h ⟨rfl, trivial⟩ (fun w h => za7 [0] (by decide) rfl w h) ?_
        repeat (first | exact zac _ _ | refine zaf rfl ?_ | refine zad rfl ?_ | refine zah rfl ?_)
    · skip
      refine (fun s16 => fun U20 hJ21 => ?_)
      have e_ := Option.some.inj hJ21; have h := hR19; rw [← e_] at h; clear e_ hJ21 hR19 hl18
      refine c_seq ?_
      refine a_start (ds := []) MO rfl ?_
      refine za5 0 rfl rfl rfl (by kernel_rfl) (fun _ _ _ h => h) (q_f F27_0 rfl) ?_
      refine a_take 1 rfl rfl rfl (by kernel_rfl) (fun _ _ _ h => h) (fun w h => h) (q_ldb Y3 rfl (fun w h => h.zae (i := 0) rfl) rfl) ?_
      refine za5 4 rfl rfl rfl (by kernel_rfl) (fun _ _ _ h => h) (za2 rfl) ?_
      refine za5 7 rfl rfl rfl (by kernel_rfl) (fun _ _ _ h => h) (q_f F27_2 rfl) ?_
      refine a_take 8 rfl rfl rfl (by kernel_rfl) (fun _ _ _ h => h) (fun w h => h) (q_ldb Y25 rfl (fun w h => h.zae (i := 0) rfl) rfl) ?_
      refine za6 h (fun s24 hx23 h => ?_) rfl
      refine a_one 2 rfl rfl (by kernel_rfl) rfl (za9 0 Z Tryz.func86 N86 rfl rfl rfl (fun w P1 hF hB hS hT => spec_l1Num.calls k a0_0 hB hF _ hx23)) (fun s w h => h) (fun _ => ?_)
      refine za6 h (fun s26 hs25 h => ?_) rfl
      refine za5 3 rfl rfl rfl (by kernel_rfl) (fun _ _ _ h => h) (q_sap rfl rfl hs25) ?_
      refine za6 h (fun s28 hs27 h => ?_) rfl
      refine za5 5 rfl rfl rfl (by kernel_rfl) (fun _ _ _ h => h) (q_sap rfl rfl hs27) ?_
      refine za6 h (fun s30 hs29 h => ?_) rfl
      refine za5 6 rfl rfl rfl (by kernel_rfl) (fun _ _ _ h => h) (q_sap rfl rfl hs29) ?_
      refine za6 h (fun s32 hx31 h => ?_) rfl
      refine a_one 9 rfl rfl (by kernel_rfl) rfl (za9 0 Z Tryz.func87 N87 rfl rfl rfl (fun w P1 hF hB hS hT => spec_plList.calls k A0_2 c0_2 l0_2.length l0_2 hB hF (hS _ R0_2) hc0_2 _ hx31)) (fun s w h => h) (fun _ => ?_)
      refine za6 h (fun s34 hs33 h => ?_) rfl
      refine za5 10 rfl rfl rfl (by kernel_rfl) (fun _ _ _ h => h) (q_sap rfl rfl hs33) ?_
      refine za5 11 rfl rfl rfl (by kernel_rfl) (fun _ _ _ h => h) (q_asg rfl) ?_
      refine zax (by kernel_rfl) ?_
      refine za1 ?_
      refine c_ret ?_
      have e0_ := Option.some.inj h; clear h
      subst e0_
      exact x_r1 () Tryz.results34 (zai rfl) rfl (fun w h => za7 [] (by decide) rfl w h)
  · skip
    clear hl11
    have hr8 := hJ_.1; have hk14 := hJ_.2.1; have h := hJ_.2.2; clear hJ_
    replace h : spec_plText.l0 k (y5 :: ys6) s3 i4 = some o12 := h
    rw [spec_plText.l0] at h
    refine c_seq ?_
    refine za0 ?_
    refine o_q rfl rfl (q_lss rfl rfl) ?_
    refine o_end ?_
    refine za1 ?_
    refine c_seq ?_
    refine c_true (congrArg Value.bool hr8.lt) ?_
    refine zak ?_
    refine za1 ?_
    refine c_seq ?_
    refine zaj ?_
    refine c_seq ?_
    refine za0 ?_
    refine o_q rfl rfl (za2 rfl) ?_
    refine o_fact (p := Sh A0_1 l0_1.length l0_1.length) (fun w h => f_sh (dk := kStep) h (fun w h => R0_1.now Z h)) (fun hq35 => ?_)
    refine o_q rfl rfl (q_ix Tryz.underlying24 Z72 rfl rfl hq35 hr8.get) ?_
    refine o_q rfl rfl (q_ldE G72 Z72 rfl rfl (fun w h => R0_1.now Z h) hr8.get (fun _ _ h => h) rfl) ?_
    refine o_e rfl (e_alloc V72 rfl) (fun g36 => ?_)
    refine o_q rfl rfl (q_asg rfl) ?_
    refine o_e rfl (zat (i := 0) rfl rfl rfl Z72 rfl rfl) (fun _ => ?_)
    refine o_end ?_
    refine za1 ?_
    refine za6 h (fun o42 hl43 hR44 => ?_) rfl
    clear h
    refine c_cutJ (σ := ByteArray) (fun s41 => some s41 = some o42) [3, 14, 15, 16, 17] (fun s41 => [(3, .string s41)]) (fun s41 => [box g1 27 #[.int .i64 a0_0, .slice A0_1 l0_1.length c0_1, .slice A0_2 l0_2.length c0_2], box g36 72 #[.int .i64 y5.f0, .int .i64 y5.f1]]) ?_ ?_
    · skip
      have h := hl43; clear hl43
      clear hR44
      refine c_seq ?_
      refine za0 ?_
      refine o_q rfl rfl (za2 rfl) ?_
      refine o_q rfl rfl (q_gtr rfl rfl) ?_
      refine o_end ?_
      refine za1 ?_
      refine zaq _ rfl (fun hb47 => ?_) (fun hb47 => ?_)
      · skip
        replace h := br_t hb47 h
        refine za0 ?_
        refine o_q rfl rfl (za2 rfl) ?_
        refine za6 h (fun s49 hs48 h => ?_) rfl
        refine o_q rfl rfl (q_sap rfl rfl hs48) ?_
        refine o_q rfl rfl (q_asg rfl) ?_
        refine o_end ?_
        refine zay s49 h ⟨rfl, trivial⟩ (fun w h => za7 [1, 0] (by decide) rfl w h) ?_
        repeat (first | exact zac _ _ | refine zaf rfl ?_ | refine zad rfl ?_ | refine zah rfl ?_)
      · skip
        replace h := br_f hb47 h
        refine zak ?_
        refine zay s3 h ⟨rfl, trivial⟩ (fun w h => za7 [1, 0] (by decide) rfl w h) ?_
        repeat (first | exact zac _ _ | refine zaf rfl ?_ | refine zad rfl ?_ | refine zah rfl ?_)
    · skip
      refine (fun s41 => fun U45 hJ46 => ?_)
      have e_ := Option.some.inj hJ46; have h := hR44; rw [← e_] at h; clear e_ hJ46 hR44 hl43
      refine a_start (ds := []) MO rfl ?_
      refine za5 0 rfl rfl rfl (by kernel_rfl) (fun _ _ _ h => h) (za2 rfl) ?_
      refine za5 1 rfl rfl rfl (by kernel_rfl) (fun _ _ _ h => h) (q_f F72_0 rfl) ?_
      refine a_take 2 rfl rfl rfl (by kernel_rfl) (fun _ _ _ h => h) (fun w h => h) (q_ldb Y3 rfl (fun w h => h.zae (i := 1) rfl) rfl) ?_
      refine za5 5 rfl rfl rfl (by kernel_rfl) (fun _ _ _ h => h) (q_f F72_1 rfl) ?_
      refine a_take 6 rfl rfl rfl (by kernel_rfl) (fun _ _ _ h => h) (fun w h => h) (q_ldb Y3 rfl (fun w h => h.zae (i := 1) rfl) rfl) ?_
      refine za6 h (fun s51 hx50 h => ?_) rfl
      refine a_one 3 rfl rfl (by kernel_rfl) rfl (za9 0 Z Tryz.func86 N86 rfl rfl rfl (fun w P1 hF hB hS hT => spec_l1Num.calls k y5.f0 hB hF _ hx50)) (fun s w h => h) (fun _ => ?_)
      refine za6 h (fun s53 hs52 h => ?_) rfl
      refine za5 4 rfl rfl rfl (by kernel_rfl) (fun _ _ _ h => h) (q_sap rfl rfl hs52) ?_
      refine za6 h (fun s55 hx54 h => ?_) rfl
      refine a_one 7 rfl rfl (by kernel_rfl) rfl (za9 0 Z Tryz.func86 N86 rfl rfl rfl (fun w P1 hF hB hS hT => spec_l1Num.calls k y5.f1 hB hF _ hx54)) (fun s w h => h) (fun _ => ?_)
      refine za6 h (fun s57 hs56 h => ?_) rfl
      refine za5 8 rfl rfl rfl (by kernel_rfl) (fun _ _ _ h => h) (q_sap rfl rfl hs56) ?_
      refine za6 h (fun s59 hs58 h => ?_) rfl
      refine za5 9 rfl rfl rfl (by kernel_rfl) (fun _ _ _ h => h) (q_sap rfl rfl hs58) ?_
      refine za5 10 rfl rfl rfl (by kernel_rfl) (fun _ _ _ h => h) (q_asg rfl) ?_
      refine zax (by kernel_rfl) ?_
      refine zal ?_
      refine za1 ?_
      refine za0 ?_
      refine o_q rfl rfl (q_up rfl rfl (hr8.up hm9)) ?_
      refine o_q rfl rfl (za2 rfl) ?_
      refine o_end ?_
      refine zam ys6.length (ys6, s59, i4 + 1) (by rw [← hk14]; exact Nat.lt_succ_self _) ⟨hr8.step, rfl, h⟩ ⟨rfl, rfl, trivial⟩ (fun w h => za7 [0] (by decide) rfl w h) ?_
      repeat (first | exact zac _ _ | refine zaf rfl ?_ | refine zad rfl ?_ | refine zah rfl ?_)

/-! ### loop.example/g01098/spec.PlanText: function 9 -/
def spec_PlanText.f (k : Nat) (a0_0 : Int) (l0_1 : List SStep) (l0_2 : List Int) : Option (ByteArray × Bool) := (spec_plGood.f k a0_0 l0_1 l0_2).bind fun b4 => if b4 = true then ((spec_plText.f k a0_0 l0_1 l0_2).bind fun s7 => some (s7, true)) else (some ((⟨#[]⟩ : ByteArray), false))
set_option maxHeartbeats 600000 in
set_option maxRecDepth 100000 in
theorem spec_PlanText.calls (k : Nat) {w0 ws : World} {P0 : Nat → Prop} (a0_0 : Int) (A0_1 : Option Addr) (c0_1 : Nat) (n0_1 : Nat) (l0_1 : List SStep) (A0_2 : Option Addr) (c0_2 : Nat) (n0_2 : Nat) (l0_2 : List Int) (Z : Below w0.heap.size w0 ws) (hF : Fr w0 ws P0 [] ws) (R0_1 : Stable ws P0 (fun w => Kd.C kStep w A0_1 n0_1 l0_1)) (hc0_1 : n0_1 ≤ c0_1) (R0_2 : Stable ws P0 (fun w => Kd.C (Kd.int .i64) w A0_2 n0_2 l0_2)) (hc0_2 : n0_2 ≤ c0_2) (r_1 : ByteArray) (r_2 : Bool) (h : spec_PlanText.f k a0_0 l0_1 l0_2 = some (r_1, r_2)) :
    Calls Tryz.prog 9 #[.agg #[.int .i64 a0_0, .slice A0_1 n0_1 c0_1, .slice A0_2 n0_2 c0_2]] ws (Post1 w0 ws P0 (fun (_ : Unit) => .tuple #[.string r_1, .bool r_2]) (fun (_ : Unit) => [])) := by
  unfold spec_PlanText.f at h
  obtain rfl := (R0_1 ws (KeptB.refl _ _)).1
  obtain rfl := (R0_2 ws (KeptB.refl _ _)).1
  refine enter Tryz.func9 rfl Tryz.ntmps9 rfl hF ?_
  refine c_seq ?_
  refine za0 ?_
  refine o_e rfl (e_box rfl) (fun g1 => ?_)
  refine o_q rfl rfl (q_asg rfl) ?_
  refine o_q rfl rfl (q_asg rfl) ?_
  refine o_end ?_
  refine za1 ?_
  refine c_seq ?_
  refine c_seq ?_
  refine za0 ?_
  refine o_q rfl rfl (q_ldB G27 Z27 rfl (fun w h => h.zae (i := 0) rfl) rfl) ?_
  refine za6 h (fun b4 hx3 h => ?_) rfl
  refine o_e rfl (za9 0 Z Tryz.func33 N33 rfl rfl rfl (fun w P1 hF hB hS hT => spec_plGood.calls k a0_0 A0_1 c0_1 l0_1.length l0_1 A0_2 c0_2 l0_2.length l0_2 hB hF (hS _ R0_1) hc0_1 (hS _ R0_2) hc0_2 _ hx3)) (fun _ => ?_)
  refine o_q rfl rfl (q_not rfl) ?_
  refine o_end ?_
  refine za1 ?_
  refine zaq _ rfl (fun hb5 => ?_) (fun hb5 => ?_)
  · replace hb5 := nt_t hb5
    replace h := bb_f hb5 h
    refine c_seq ?_
    refine za0 ?_
    refine o_q rfl rfl (q_asg rfl) ?_
    refine o_q rfl rfl (q_asg rfl) ?_
    refine o_end ?_
    refine za1 ?_
    refine c_ret ?_
    refine za8 ?_
    have e0_ := Option.some.inj h; clear h
    have d0_ := (Prod.mk.inj e0_).1; have e1_ := (Prod.mk.inj e0_).2; clear e0_; subst d0_
    subst e1_
    exact x_r2 () Tryz.results9 (zai rfl) (zai rfl) rfl (fun w h => za7 [] (by decide) rfl w h)
  · replace hb5 := nt_f hb5
    replace h := bb_t hb5 h
    refine zak ?_
    refine za1 ?_
    refine c_seq ?_
    refine za0 ?_
    refine o_q rfl rfl (q_ldB G27 Z27 rfl (fun w h => h.zae (i := 0) rfl) rfl) ?_
    refine za6 h (fun s7 hx6 h => ?_) rfl
    refine o_e rfl (za9 0 Z Tryz.func34 N34 rfl rfl rfl (fun w P1 hF hB hS hT => spec_plText.calls k a0_0 A0_1 c0_1 l0_1.length l0_1 A0_2 c0_2 l0_2.length l0_2 hB hF (hS _ R0_1) hc0_1 (hS _ R0_2) hc0_2 _ hx6)) (fun _ => ?_)
    refine o_q rfl rfl (q_asg rfl) ?_
    refine o_q rfl rfl (q_asg rfl) ?_
    refine o_end ?_
    refine za1 ?_
    refine c_ret ?_
    have e0_ := Option.some.inj h; clear h
    have d0_ := (Prod.mk.inj e0_).1; have e1_ := (Prod.mk.inj e0_).2; clear e0_; subst d0_
    subst e1_
    exact x_r2 () Tryz.results9 (zai rfl) (zai rfl) rfl (fun w h => za7 [] (by decide) rfl w h)

/-! ### loop.example/g01098/impl.numberOf: function 41 -/
def impl_numberOf.f (a0 : ByteArray) : Option Int := (strconv_Atoi.f a0).bind fun i2 => some i2
set_option maxHeartbeats 600000 in
set_option maxRecDepth 100000 in
theorem impl_numberOf.calls {w0 ws : World} {P0 : Nat → Prop} (a0 : ByteArray) (Z : Below w0.heap.size w0 ws) (hF : Fr w0 ws P0 [] ws) (GW : Stable ws P0 GP) (r_1 : Int) (h : impl_numberOf.f a0 = some r_1) :
    Calls Tryz.prog 41 #[.string a0] ws (Post1 w0 ws P0 (fun (_ : Unit) => .int .i64 r_1) (fun (_ : Unit) => [])) := by
  unfold impl_numberOf.f at h
  refine enter Tryz.func41 rfl Tryz.ntmps41 rfl hF ?_
  refine c_seq ?_
  refine za0 ?_
  refine o_q rfl rfl (q_asg rfl) ?_
  refine o_end ?_
  refine za1 ?_
  refine c_seq ?_
  refine za0 ?_
  refine o_q rfl rfl (za2 rfl) ?_
  refine za6 h (fun i2 hx1 h => ?_) rfl
  refine o_e rfl (za9 0 Z Tryz.func94 N94 rfl rfl rfl (fun w P1 hF hB hS hT => strconv_Atoi.calls a0 hB hF (hS _ GW) _ hx1)) (fun E3 => ?_)
  refine o_q rfl rfl (za2 rfl) ?_
  refine o_q rfl rfl (q_ext rfl rfl) ?_
  refine o_q rfl rfl (q_ext rfl rfl) ?_
  refine o_q rfl rfl (q_asg rfl) ?_
  refine o_q rfl rfl (q_asg rfl) ?_
  refine o_end ?_
  refine za1 ?_
  refine c_seq ?_
  refine za0 ?_
  refine o_q rfl rfl (za2 rfl) ?_
  refine o_q rfl rfl (q_asg rfl) ?_
  refine o_end ?_
  refine za1 ?_
  refine c_ret ?_
  have e0_ := Option.some.inj h; clear h
  subst e0_
  exact x_r1 () Tryz.results41 (zai rfl) rfl (fun w h => za7 [] (by decide) rfl w h)

/-! ### loop.example/g01098/impl.parts: function 43 -/
def impl_parts.f (a0 : ByteArray) (a1 : Int) : Option (List ByteArray) := if a0 = (⟨#[45]⟩ : ByteArray) then (some ([] : List ByteArray)) else ((strings_SplitN.f a0 (⟨#[44]⟩ : ByteArray) (w64 (a1 + 1))).bind fun l3 => some l3)
set_option maxHeartbeats 600000 in
set_option maxRecDepth 100000 in
theorem impl_parts.calls {w0 ws : World} {P0 : Nat → Prop} (a0 : ByteArray) (a1 : Int) (Z : Below w0.heap.size w0 ws) (hF : Fr w0 ws P0 [] ws) (GW : Stable ws P0 GP) (r_1 : List ByteArray) (h : impl_parts.f a0 a1 = some r_1) :
    Calls Tryz.prog 43 #[.string a0, .int .i64 a1] ws (Post1 w0 ws P0 (fun ((q_2, q_3) : (Option Addr) × Nat) => .slice q_2 r_1.length q_3) (fun ((q_2, q_3) : (Option Addr) × Nat) => [row Kd.string 9 (.slice q_2 r_1.length q_3) r_1])) := by
  unfold impl_parts.f at h
  refine enter Tryz.func43 rfl Tryz.ntmps43 rfl hF ?_
  refine c_seq ?_
  refine za0 ?_
  refine o_q rfl rfl (q_asg rfl) ?_
  refine o_end ?_
  refine za1 ?_
  refine c_seq ?_
  refine c_seq ?_
  refine za0 ?_
  refine o_q rfl rfl (za2 rfl) ?_
  refine o_q rfl rfl (q_seql rfl rfl) ?_
  refine o_end ?_
  refine za1 ?_
  refine zaq _ rfl (fun hb1 => ?_) (fun hb1 => ?_)
  · skip
    replace h := br_t hb1 h
    refine c_seq ?_
    refine za0 ?_
    refine o_q rfl rfl (q_asg rfl) ?_
    refine o_end ?_
    refine za1 ?_
    refine c_ret ?_
    refine za8 ?_
    refine x_nil Kd.string 9 ?_
    have e0_ := Option.some.inj h; clear h
    subst e0_
    exact x_r1 (none, 0) Tryz.results43 (zai rfl) rfl (fun w h => za7 [0] (by decide) rfl w h)
  · skip
    replace h := br_f hb1 h
    refine zak ?_
    refine za1 ?_
    refine c_seq ?_
    refine za0 ?_
    refine o_q rfl rfl (za2 rfl) ?_
    refine o_q rfl rfl (za2 rfl) ?_
    refine o_q rfl rfl (q_add64 rfl rfl) ?_
    refine za6 h (fun l3 hx2 h => ?_) rfl
    refine o_e rfl (za9 0 Z Tryz.func40 N40 rfl rfl rfl (fun w P1 hF hB hS hT => strings_SplitN.calls a0 (⟨#[44]⟩ : ByteArray) (w64 (a1 + 1)) hB hF (hS _ GW) _ hx2)) (cur2 (fun A4 c5 => ?_))
    refine o_q rfl rfl (q_asg rfl) ?_
    refine o_end ?_
    refine za1 ?_
    refine c_ret ?_
    have e0_ := Option.some.inj h; clear h
    subst e0_
    exact x_r1 (A4, c5) Tryz.results43 (zai rfl) rfl (fun w h => za7 [0] (by decide) rfl w h)

/-! ### loop.example/g01098/impl.numbersOf: function 42 -/
def impl_numbersOf.l0 : (List ByteArray) → (List Int) → Int → Option (List Int)
  | [], l4, i7 => some l4
  | y8 :: ys9, l4, i7 => (impl_numberOf.f y8).bind fun i20 => (ap l4 ([i20] : List Int)).bind fun l24 => impl_numbersOf.l0 ys9 l24 (i7 + 1)
def impl_numbersOf.f (l0 : List ByteArray) : Option (List Int) := (impl_numbersOf.l0 l0 ([] : List Int) 0).bind fun l4 => some l4
set_option maxHeartbeats 600000 in
set_option maxRecDepth 100000 in
theorem impl_numbersOf.calls {w0 ws : World} {P0 : Nat → Prop} (A0 : Option Addr) (c0 : Nat) (n0 : Nat) (l0 : List ByteArray) (Z : Below w0.heap.size w0 ws) (hF : Fr w0 ws P0 [] ws) (R0 : Stable ws P0 (fun w => Kd.C Kd.string w A0 n0 l0)) (hc0 : n0 ≤ c0) (GW : Stable ws P0 GP) (r_1 : List Int) (h : impl_numbersOf.f l0 = some r_1) :
    Calls Tryz.prog 42 #[.slice A0 n0 c0] ws (Post1 w0 ws P0 (fun ((q_2, q_3) : (Option Addr) × Nat) => .slice q_2 r_1.length q_3) (fun ((q_2, q_3) : (Option Addr) × Nat) => [row (Kd.int .i64) 3 (.slice q_2 r_1.length q_3) r_1])) := by
  unfold impl_numbersOf.f at h
  obtain rfl := (R0 ws (KeptB.refl _ _)).1
  refine enter Tryz.func42 rfl Tryz.ntmps42 rfl hF ?_
  refine c_seq ?_
  refine za0 ?_
  refine o_q rfl rfl (q_asg rfl) ?_
  refine o_end ?_
  refine za1 ?_
  refine c_seq ?_
  refine za0 ?_
  refine o_e rfl (e_lit0 (Kd.int .i64) Tryz.underlying25 I3) (cur2 (fun A1 c2 => ?_))
  refine o_q rfl rfl (q_asg rfl) ?_
  refine o_end ?_
  refine za1 ?_
  refine c_seq ?_
  refine c_seq ?_
  refine za0 ?_
  refine o_q rfl rfl (za2 rfl) ?_
  refine o_q rfl rfl (q_len Tryz.underlying64 rfl) ?_
  refine o_q rfl rfl (za2 rfl) ?_
  refine o_end ?_
  refine za1 ?_
  refine zaj ?_
  refine za6 h (fun o15 hl14 hR13 => ?_) rfl
  clear h
  refine c_fact (p := l0.length ≤ 9223372036854775807) (fun w h => (R0.now Z h).2.1) (fun hm12 => ?_)
  refine c_loopL (σ := (List ByteArray) × (List Int) × Int × (Option Addr) × Nat) (fun k10 ((ys9, l4, i7, A5, c6) : (List ByteArray) × (List Int) × Int × (Option Addr) × Nat) => Rg l0 i7 ys9 ∧ ys9.length = k10 ∧ impl_numbersOf.l0 ys9 l4 i7 = some o15) [3, 5, 9, 10, 11, 12, 13, 14, 15, 16, 17, 18] (fun ((ys9, l4, i7, A5, c6) : (List ByteArray) × (List Int) × Int × (Option Addr) × Nat) => [(3, .slice A5 l4.length c6), (9, .int .i64 i7)]) (fun ((ys9, l4, i7, A5, c6) : (List ByteArray) × (List Int) × Int × (Option Addr) × Nat) => [row (Kd.int .i64) 3 (.slice A5 l4.length c6) l4]) l0.length (l0, ([] : List Int), 0, A1, c2) ⟨Rg.start _, rfl, hl14⟩ ⟨rfl, rfl, trivial⟩ (fun w h => h) ?_
  refine fun k10 => cur5 (listC (fun l4 i7 A5 c6 U16 hJ_ => ?_) (fun y8 ys9 l4 i7 A5 c6 U16 hJ_ => ?_))
  · skip
    clear hl14
    have hr11 := hJ_.1; have hk17 := hJ_.2.1; have h := hJ_.2.2; clear hJ_
    replace h : impl_numbersOf.l0 [] l4 i7 = some o15 := h
    rw [impl_numbersOf.l0] at h
    refine c_seq ?_
    refine za0 ?_
    refine o_q rfl rfl (q_lss rfl rfl) ?_
    refine o_end ?_
    refine za1 ?_
    refine c_seq ?_
    refine c_false (congrArg Value.bool hr11.ge) ?_
    refine c_exit ?_
    refine zaa ?_
    refine zaa ?_
    have e_ := Option.some.inj h; replace h := hR13; rw [← e_] at h; clear e_
    refine x_hit ?_
    refine za1 ?_
    refine c_seq ?_
    refine za0 ?_
    refine o_q rfl rfl (za2 rfl) ?_
    refine o_q rfl rfl (q_asg rfl) ?_
    refine o_end ?_
    refine za1 ?_
    refine c_ret ?_
    have e0_ := Option.some.inj h; clear h
    subst e0_
    exact x_r1 (A5, c6) Tryz.results42 (zai rfl) rfl (fun w h => za7 [0] (by decide) rfl w h)
  · skip
    clear hl14
    have hr11 := hJ_.1; have hk17 := hJ_.2.1; have h := hJ_.2.2; clear hJ_
    replace h : impl_numbersOf.l0 (y8 :: ys9) l4 i7 = some o15 := h
    rw [impl_numbersOf.l0] at h
    refine c_seq ?_
    refine za0 ?_
    refine o_q rfl rfl (q_lss rfl rfl) ?_
    refine o_end ?_
    refine za1 ?_
    refine c_seq ?_
    refine c_true (congrArg Value.bool hr11.lt) ?_
    refine zak ?_
    refine za1 ?_
    refine c_seq ?_
    refine zaj ?_
    refine c_seq ?_
    refine za0 ?_
    refine o_fact (p := Sh A0 l0.length l0.length) (fun w h => f_sh (dk := Kd.string) h (fun w h => R0.now Z h)) (fun hq18 => ?_)
    refine o_q rfl rfl (q_ix Tryz.underlying64 Z9 rfl rfl hq18 hr11.get) ?_
    refine o_q rfl rfl (q_lde (off := 0) Y9 rfl rfl (fun w h => R0.now Z h) hr11.get (fun _ _ h => h) rfl) ?_
    refine o_q rfl rfl (q_asg rfl) ?_
    refine o_end ?_
    refine za1 ?_
    refine za0 ?_
    refine o_q rfl rfl (za2 rfl) ?_
    refine o_q rfl rfl (za2 rfl) ?_
    refine za6 h (fun i20 hx19 h => ?_) rfl
    refine o_e rfl (za9 0 Z Tryz.func41 N41 rfl rfl rfl (fun w P1 hF hB hS hT => impl_numberOf.calls y8 hB hF (hS _ GW) _ hx19)) (fun _ => ?_)
    refine o_e rfl (e_lit (vs := [(0, .int .i64 i20)]) (cs := [.int .i64 i20]) (Kd.int .i64) ([i20] : List Int) Tryz.underlying25 I3 (by decide) rfl (by decide) rfl rfl (fun _ _ => Kd.zar _)) (cur2 (fun A21 c22 => ?_))
    refine za6 h (fun l24 ha25 h => ?_) rfl
    refine o_e rfl (e_app (i := 1) (j := 0) Tryz.underlying25 I3 rfl (by decide) (by decide) rfl rfl rfl rfl rfl ha25) (cur2 (fun A26 c27 => ?_))
    refine o_q rfl rfl (q_asg rfl) ?_
    refine o_end ?_
    refine zal ?_
    refine za1 ?_
    refine za0 ?_
    refine o_q rfl rfl (q_up rfl rfl (hr11.up hm12)) ?_
    refine o_q rfl rfl (za2 rfl) ?_
    refine o_end ?_
    refine zam ys9.length (ys9, l24, i7 + 1, A26, c27) (by rw [← hk17]; exact Nat.lt_succ_self _) ⟨hr11.step, rfl, h⟩ ⟨rfl, rfl, trivial⟩ (fun w h => za7 [1] (by decide) rfl w h) ?_
    repeat (first | exact zac _ _ | refine zaf rfl ?_ | refine zad rfl ?_ | refine zah rfl ?_)

/-! ### loop.example/g01098/impl.ParsePlan: function 11 -/
def impl_ParsePlan.l0 : (List ByteArray) → (List SStep) → Int → Option (List SStep)
  | [], l1588, i1591 => some l1588
  | y1592 :: ys1593, l1588, i1591 => (strings_Cut.f y1592 (⟨#[42]⟩ : ByteArray)).bind fun (s1621, s1622, b1623) => (impl_numberOf.f s1621).bind fun i1806 => (impl_numberOf.f s1622).bind fun i1926 => (ap l1588 ([(⟨i1806, i1926⟩ : SStep)] : List SStep)).bind fun l2105 => impl_ParsePlan.l0 ys1593 l2105 (i1591 + 1)
def impl_ParsePlan.f (k : Nat) (a0 : ByteArray) : Option (Int × (List SStep) × (List Int) × Bool) := (strings_SplitN.f a0 (⟨#[58]⟩ : ByteArray) 4).bind fun l4 => if (l4.length : Int) ≠ 3 then (some (0, ([] : List SStep), ([] : List Int), false)) else (((gt l4 0).bind fun y862 => (impl_numberOf.f y862).bind fun i981 => (gt l4 2).bind fun y1101 => (impl_parts.f y1101 6).bind fun l1221 => (impl_numbersOf.f l1221).bind fun l1281 => some (i981, l1281)).bind fun (i790, l791) => (gt l4 1).bind fun y1582 => (impl_parts.f y1582 40).bind fun l1584 => (impl_ParsePlan.l0 l1584 ([] : List SStep) 0).bind fun l1588 => ((impl_IsPlan.f k i790 l1588 l791).bind fun b1614 => if b1614 = true then ((impl_Plan_text.f i790 l1588 l791).bind fun s1617 => some (decide (s1617 ≠ a0))) else (some true)).bind fun b1607 => if b1607 = true then (some (0, ([] : List SStep), ([] : List Int), false)) else (some (i790, l1588, l791, true)))
set_option maxHeartbeats 600000 in
set_option maxRecDepth 100000 in
theorem impl_ParsePlan.calls (k : Nat) {w0 ws : World} {P0 : Nat → Prop} (a0 : ByteArray) (Z : Below w0.heap.size w0 ws) (hF : Fr w0 ws P0 [] ws) (GW : Stable ws P0 GP) (r_1 : Int) (r_2 : List SStep) (r_5 : List Int) (r_8 : Bool) (h : impl_ParsePlan.f k a0 = some (r_1, r_2, r_5, r_8)) :
    Calls Tryz.prog 11 #[.string a0] ws (Post1 w0 ws P0 (fun ((q_3, q_4, q_6, q_7) : (Option Addr) × Nat × (Option Addr) × Nat) => .tuple #[.agg #[.int .i64 r_1, .slice q_3 r_2.length q_4, .slice q_6 r_5.length q_7], .bool r_8]) (fun ((q_3, q_4, q_6, q_7) : (Option Addr) × Nat × (Option Addr) × Nat) => [row kStep 72 (.slice q_3 r_2.length q_4) r_2, row (Kd.int .i64) 3 (.slice q_6 r_5.length q_7) r_5])) := by
  unfold impl_ParsePlan.f at h
  refine enter Tryz.func11 rfl Tryz.ntmps11 rfl hF ?_
  refine c_seq ?_
  refine za0 ?_
  refine o_e rfl (e_alloc V27 rfl) (fun g1 => ?_)
  refine o_q rfl rfl (q_asg rfl) ?_
  refine o_end ?_
  refine za1 ?_
  refine c_seq ?_
  refine za0 ?_
  refine o_q rfl rfl (za2 rfl) ?_
  refine za6 h (fun l4 hx3 h => ?_) rfl
  refine o_e rfl (za9 0 Z Tryz.func40 N40 rfl rfl rfl (fun w P1 hF hB hS hT => strings_SplitN.calls a0 (⟨#[58]⟩ : ByteArray) 4 hB hF (hS _ GW) _ hx3)) (cur2 (fun A5 c6 => ?_))
  refine o_q rfl rfl (q_asg rfl) ?_
  refine o_end ?_
  refine za1 ?_
  refine c_seq ?_
  refine c_seq ?_
  refine za0 ?_
  refine o_q rfl rfl (za2 rfl) ?_
  refine o_q rfl rfl (q_len Tryz.underlying64 rfl) ?_
  refine o_q rfl rfl (q_neq rfl rfl) ?_
  refine o_end ?_
  refine za1 ?_
  refine zaq _ rfl (fun hb7 => ?_) (fun hb7 => ?_)
  · skip
    replace h := br_t hb7 h
    refine c_seq ?_
    refine za0 ?_
    refine o_q rfl rfl (q_build (vs := []) (cs := [.int .i64 0, .slice none 0 0, .slice none 0 0]) rfl rfl) ?_
    refine o_e rfl (zat (i := 1) rfl rfl rfl Z27 rfl rfl) (fun _ => ?_)
    refine o_q rfl rfl (q_asg rfl) ?_
    refine o_end ?_
    refine za1 ?_
    refine c_ret ?_
    refine za8 ?_
    refine x_nil kStep 72 ?_
    refine x_nil (Kd.int .i64) 3 ?_
    have e0_ := Option.some.inj h; clear h
    have d0_ := (Prod.mk.inj e0_).1; have e1_ := (Prod.mk.inj e0_).2; clear e0_; subst d0_
    have d1_ := (Prod.mk.inj e1_).1; have e2_ := (Prod.mk.inj e1_).2; clear e1_; subst d1_
    have d2_ := (Prod.mk.inj e2_).1; have e3_ := (Prod.mk.inj e2_).2; clear e2_; subst d2_
    subst e3_
    exact x_r2 (none, 0, none, 0) Tryz.results11 (rv_cell rfl G27 Z27 (fun w h => h.zae (i := 3) rfl) rfl) (zai rfl) rfl (fun w h => za7 [1, 0] (by decide) rfl w h)
  · skip
    replace h := br_f hb7 h
    refine zak ?_
    refine za1 ?_
    refine za6 h (fun o794 hl795 hR796 => ?_) rfl
    clear h
    refine c_cutJ (σ := Int × (List Int) × Nat × (Option Addr) × Nat) (fun (i790, l791, g789, A792, c793) => some (i790, l791) = some o794) [5, 17, 18, 19, 20, 21, 22, 23, 24, 25, 26] (fun (i790, l791, g789, A792, c793) => [(5, .pointer (some ⟨g789, 0, none⟩))]) (fun (i790, l791, g789, A792, c793) => [box g1 27 #[.int .i64 0, .slice none 0 0, .slice none 0 0], row Kd.string 9 (.slice A5 l4.length c6) l4, box g789 27 #[.int .i64 i790, .slice none 0 0, .slice A792 l791.length c793], row (Kd.int .i64) 3 (.slice A792 l791.length c793) l791]) ?_ ?_
    · skip
      have h := hl795; clear hl795
      clear hR796
      refine za6 h (fun y862 hg861 h => ?_) rfl
      refine za6 h (fun i981 hx980 h => ?_) rfl
      refine za6 h (fun y1101 hg1100 h => ?_) rfl
      refine za6 h (fun l1221 hx1220 h => ?_) rfl
      refine za6 h (fun l1281 hx1280 h => ?_) rfl
      refine a_start (ds := []) MO rfl ?_
      refine za5 0 rfl rfl rfl (by kernel_rfl) (fun _ _ _ h => h) (za2 rfl) ?_
      refine a_fact (p := Sh A5 l4.length l4.length) (fun w h => f_sh (dk := Kd.string) h (fun w h => h.zau (i := 0) rfl)) (fun hq860 => ?_)
      refine za5 1 rfl rfl rfl (by kernel_rfl) (fun _ _ _ h => h) (q_ix Tryz.underlying64 Z9 rfl rfl hq860 hg861) ?_
      refine a_take 2 rfl rfl rfl (by kernel_rfl) (fun _ _ _ h => h) (fun w h => h) (q_lde (off := 0) Y9 rfl rfl (fun w h => h.zau (i := 0) rfl) hg861 (fun _ _ h => h) rfl) ?_
      refine za5 4 rfl rfl rfl (by kernel_rfl) (fun _ _ _ h => h) (za2 rfl) ?_
      refine za5 5 rfl rfl rfl (by kernel_rfl) (fun _ _ _ h => h) (q_ix Tryz.underlying64 Z9 rfl rfl hq860 hg1100) ?_
      refine a_take 6 rfl rfl rfl (by kernel_rfl) (fun _ _ _ h => h) (fun w h => h) (q_lde (off := 0) Y9 rfl rfl (fun w h => h.zau (i := 0) rfl) hg1100 (fun _ _ h => h) rfl) ?_
      refine a_two 3 10 rfl rfl rfl rfl (by kernel_rfl) rfl rfl (za9 0 Z Tryz.func41 N41 rfl rfl rfl (fun w P1 hF hB hS hT => impl_numberOf.calls y862 hB hF (hS _ GW) _ hx980)) (fun s w h => h) (e_alloc V27 rfl) (fun s w h => zab [some 1, some 2] (by decide) w h rfl) (fun _ => ?_) (fun g1400 => ?_)
      · skip
        refine a_two 7 10 rfl rfl rfl rfl (by kernel_rfl) rfl rfl (za9 0 Z Tryz.func43 N43 rfl rfl rfl (fun w P1 hF hB hS hT => impl_parts.calls y1101 6 hB hF (hS _ GW) _ hx1220)) (fun s w h => zab [some 1, some 2] (by decide) w h rfl) (e_alloc V27 rfl) (fun s w h => zab [some 1, some 2] (by decide) w h rfl) (cur2 (fun A1222 c1223 => ?_)) (fun g1400 => ?_)
        · skip
          refine a_two 8 10 rfl rfl rfl rfl (by kernel_rfl) rfl rfl (za9 0 Z Tryz.func42 N42 rfl rfl rfl (fun w P1 hF hB hS hT => impl_numbersOf.calls A1222 c1223 l1221.length l1221 hB hF (hT 0 _ rfl).row (hT 0 _ rfl).cap (hS _ GW) _ hx1280)) (fun s w h => zab [some 2, some 3] (by decide) w h rfl) (e_alloc V27 rfl) (fun s w h => zab [some 2, some 3] (by decide) w h rfl) (cur2 (fun A1282 c1283 => ?_)) (fun g1400 => ?_)
          · skip
            refine za5 9 rfl rfl rfl (by kernel_rfl) (fun _ _ _ h => h) (q_build (vs := [(0, .int .i64 i981), (2, .slice A1282 l1281.length c1283)]) (cs := [.int .i64 i981, .slice none 0 0, .slice A1282 l1281.length c1283]) rfl rfl) ?_
            refine a_one 10 rfl rfl (by kernel_rfl) rfl (e_alloc V27 rfl) (fun s w h => zab [some 3, some 4] (by decide) w h rfl) (fun g1400 => ?_)
            refine a_one 11 rfl rfl (by kernel_rfl) rfl (zat (i := 0) rfl rfl rfl Z27 rfl rfl) (fun s w h => zab [some 3, some 4] (by decide) w h rfl) (fun _ => ?_)
            refine zax (by kernel_rfl) ?_
            refine zay (i981, l1281, g1400, A1282, c1283) h ⟨rfl, trivial⟩ (fun w h => za7 [4, 3, 0, 1] (by decide) rfl w h) ?_
            repeat (first | exact zac _ _ | refine zaf rfl ?_ | refine zad rfl ?_ | refine zah rfl ?_)
          · skip
            refine a_one 8 rfl rfl (by kernel_rfl) rfl (za9 0 Z Tryz.func42 N42 rfl rfl rfl (fun w P1 hF hB hS hT => impl_numbersOf.calls A1222 c1223 l1221.length l1221 hB hF (hT 1 _ rfl).row (hT 1 _ rfl).cap (hS _ GW) _ hx1280)) (fun s w h => zab [some 3, some 4] (by decide) w h rfl) (cur2 (fun A1282 c1283 => ?_))
            refine za5 9 rfl rfl rfl (by kernel_rfl) (fun _ _ _ h => h) (q_build (vs := [(0, .int .i64 i981), (2, .slice A1282 l1281.length c1283)]) (cs := [.int .i64 i981, .slice none 0 0, .slice A1282 l1281.length c1283]) rfl rfl) ?_
            refine a_one 11 rfl rfl (by kernel_rfl) rfl (zat (i := 1) rfl rfl rfl Z27 rfl rfl) (fun s w h => zab [some 3, some 4] (by decide) w h rfl) (fun _ => ?_)
            refine zax (by kernel_rfl) ?_
            refine zay (i981, l1281, g1400, A1282, c1283) h ⟨rfl, trivial⟩ (fun w h => za7 [4, 3, 1, 0] (by decide) rfl w h) ?_
            repeat (first | exact zac _ _ | refine zaf rfl ?_ | refine zad rfl ?_ | refine zah rfl ?_)
        · skip
          refine a_one 7 rfl rfl (by kernel_rfl) rfl (za9 0 Z Tryz.func43 N43 rfl rfl rfl (fun w P1 hF hB hS hT => impl_parts.calls y1101 6 hB hF (hS _ GW) _ hx1220)) (fun s w h => zab [some 2, some 3] (by decide) w h rfl) (cur2 (fun A1222 c1223 => ?_))
          refine a_one 8 rfl rfl (by kernel_rfl) rfl (za9 0 Z Tryz.func42 N42 rfl rfl rfl (fun w P1 hF hB hS hT => impl_numbersOf.calls A1222 c1223 l1221.length l1221 hB hF (hT 0 _ rfl).row (hT 0 _ rfl).cap (hS _ GW) _ hx1280)) (fun s w h => zab [some 3, some 4] (by decide) w h rfl) (cur2 (fun A1282 c1283 => ?_))
          refine za5 9 rfl rfl rfl (by kernel_rfl) (fun _ _ _ h => h) (q_build (vs := [(0, .int .i64 i981), (2, .slice A1282 l1281.length c1283)]) (cs := [.int .i64 i981, .slice none 0 0, .slice A1282 l1281.length c1283]) rfl rfl) ?_
          refine a_one 11 rfl rfl (by kernel_rfl) rfl (zat (i := 2) rfl rfl rfl Z27 rfl rfl) (fun s w h => zab [some 3, some 4] (by decide) w h rfl) (fun _ => ?_)
          refine zax (by kernel_rfl) ?_
          refine zay (i981, l1281, g1400, A1282, c1283) h ⟨rfl, trivial⟩ (fun w h => za7 [4, 3, 2, 0] (by decide) rfl w h) ?_
          repeat (first | exact zac _ _ | refine zaf rfl ?_ | refine zad rfl ?_ | refine zah rfl ?_)
      · skip
        refine a_one 3 rfl rfl (by kernel_rfl) rfl (za9 0 Z Tryz.func41 N41 rfl rfl rfl (fun w P1 hF hB hS hT => impl_numberOf.calls y862 hB hF (hS _ GW) _ hx980)) (fun s w h => zab [some 1, some 2] (by decide) w h rfl) (fun _ => ?_)
        refine a_one 7 rfl rfl (by kernel_rfl) rfl (za9 0 Z Tryz.func43 N43 rfl rfl rfl (fun w P1 hF hB hS hT => impl_parts.calls y1101 6 hB hF (hS _ GW) _ hx1220)) (fun s w h => zab [some 2, some 3] (by decide) w h rfl) (cur2 (fun A1222 c1223 => ?_))
        refine a_one 8 rfl rfl (by kernel_rfl) rfl (za9 0 Z Tryz.func42 N42 rfl rfl rfl (fun w P1 hF hB hS hT => impl_numbersOf.calls A1222 c1223 l1221.length l1221 hB hF (hT 0 _ rfl).row (hT 0 _ rfl).cap (hS _ GW) _ hx1280)) (fun s w h => zab [some 3, some 4] (by decide) w h rfl) (cur2 (fun A1282 c1283 => ?_))
        refine za5 9 rfl rfl rfl (by kernel_rfl) (fun _ _ _ h => h) (q_build (vs := [(0, .int .i64 i981), (2, .slice A1282 l1281.length c1283)]) (cs := [.int .i64 i981, .slice none 0 0, .slice A1282 l1281.length c1283]) rfl rfl) ?_
        refine a_one 11 rfl rfl (by kernel_rfl) rfl (zat (i := 2) rfl rfl rfl Z27 rfl rfl) (fun s w h => zab [some 3, some 4] (by decide) w h rfl) (fun _ => ?_)
        refine zax (by kernel_rfl) ?_
        refine zay (i981, l1281, g1400, A1282, c1283) h ⟨rfl, trivial⟩ (fun w h => za7 [4, 3, 2, 0] (by decide) rfl w h) ?_
        repeat (first | exact zac _ _ | refine zaf rfl ?_ | refine zad rfl ?_ | refine zah rfl ?_)
    · skip
      refine (cur5 (fun i790 l791 g789 A792 c793 => fun U797 hJ798 => ?_))
      have e_ := Option.some.inj hJ798; have h := hR796; rw [← e_] at h; clear e_ hJ798 hR796 hl795
      refine c_seq ?_
      refine c_seq ?_
      refine za0 ?_
      refine o_q rfl rfl (za2 rfl) ?_
      refine o_fact (p := Sh A5 l4.length l4.length) (fun w h => f_sh (dk := Kd.string) h (fun w h => h.zau (i := 1) rfl)) (fun hq1580 => ?_)
      refine za6 h (fun y1582 hg1581 h => ?_) rfl
      refine o_q rfl rfl (q_ix Tryz.underlying64 Z9 rfl rfl hq1580 hg1581) ?_
      refine o_q rfl rfl (q_lde (off := 0) Y9 rfl rfl (fun w h => h.zau (i := 1) rfl) hg1581 (fun _ _ h => h) rfl) ?_
      refine za6 h (fun l1584 hx1583 h => ?_) rfl
      refine o_e rfl (za9 0 Z Tryz.func43 N43 rfl rfl rfl (fun w P1 hF hB hS hT => impl_parts.calls y1582 40 hB hF (hS _ GW) _ hx1583)) (cur2 (fun A1585 c1586 => ?_))
      refine o_q rfl rfl (q_len Tryz.underlying64 rfl) ?_
      refine o_q rfl rfl (za2 rfl) ?_
      refine o_end ?_
      refine za1 ?_
      refine zaj ?_
      refine c_nil kStep 72 ?_
      refine za6 h (fun o1599 hl1598 hR1597 => ?_) rfl
      clear h
      refine c_fact (p := l1584.length ≤ 9223372036854775807) (fun w h => (h.zau (i := 1) rfl).2.1) (fun hm1596 => ?_)
      refine c_loopL (σ := (List ByteArray) × (List SStep) × Int × (Option Addr) × Nat) (fun k1594 ((ys1593, l1588, i1591, A1589, c1590) : (List ByteArray) × (List SStep) × Int × (Option Addr) × Nat) => Rg l1584 i1591 ys1593 ∧ ys1593.length = k1594 ∧ impl_ParsePlan.l0 ys1593 l1588 i1591 = some o1599) [7, 8, 9, 10, 32, 33, 34, 35, 36, 37, 38, 39, 40, 41, 42, 43, 44, 45, 46, 47, 48, 49, 50, 51, 52] (fun ((ys1593, l1588, i1591, A1589, c1590) : (List ByteArray) × (List SStep) × Int × (Option Addr) × Nat) => [(32, .int .i64 i1591)]) (fun ((ys1593, l1588, i1591, A1589, c1590) : (List ByteArray) × (List SStep) × Int × (Option Addr) × Nat) => [row kStep 72 (.slice A1589 l1588.length c1590) l1588, row Kd.string 9 (.slice A1585 l1584.length c1586) l1584, box g1 27 #[.int .i64 0, .slice none 0 0, .slice none 0 0], row Kd.string 9 (.slice A5 l4.length c6) l4, box g789 27 #[.int .i64 i790, .slice A1589 l1588.length c1590, .slice A792 l791.length c793], row (Kd.int .i64) 3 (.slice A792 l791.length c793) l791]) l1584.length (l1584, ([] : List SStep), 0, none, 0) ⟨Rg.start _, rfl, hl1598⟩ ⟨rfl, trivial⟩ (fun w h => h) ?_
      refine fun k1594 => cur5 (listC (fun l1588 i1591 A1589 c1590 U1600 hJ_ => ?_) (fun y1592 ys1593 l1588 i1591 A1589 c1590 U1600 hJ_ => ?_))
      · skip
        clear hl1598
        have hr1595 := hJ_.1; have hk1601 := hJ_.2.1; have h := hJ_.2.2; clear hJ_
        replace h : impl_ParsePlan.l0 [] l1588 i1591 = some o1599 := h
        rw [impl_ParsePlan.l0] at h
        refine c_seq ?_
        refine za0 ?_
        refine o_q rfl rfl (q_lss rfl rfl) ?_
        refine o_end ?_
        refine za1 ?_
        refine c_seq ?_
        refine c_false (congrArg Value.bool hr1595.ge) ?_
        refine c_exit ?_
        refine zaa ?_
        refine zaa ?_
        have e_ := Option.some.inj h; replace h := hR1597; rw [← e_] at h; clear e_
        refine x_hit ?_
        refine za1 ?_
        refine c_seq ?_
        refine za6 h (fun o1608 hl1609 hR1610 => ?_) rfl
        clear h
        refine c_cutJ (σ := Bool) (fun b1607 => some b1607 = some o1608) [53, 54, 55, 56, 57, 58, 59, 60] (fun b1607 => [(60, .bool b1607)]) (fun b1607 => [box g1 27 #[.int .i64 0, .slice none 0 0, .slice none 0 0], box g789 27 #[.int .i64 i790, .slice A1589 l1588.length c1590, .slice A792 l791.length c793], row kStep 72 (.slice A1589 l1588.length c1590) l1588, row (Kd.int .i64) 3 (.slice A792 l791.length c793) l791, row Kd.string 9 (.slice A1585 l1584.length c1586) l1584, row Kd.string 9 (.slice A5 l4.length c6) l4]) ?_ ?_
        · skip
          have h := hl1609; clear hl1609
          clear hR1610
          refine za0 ?_
          refine o_q rfl rfl (q_ldB G27 Z27 rfl (fun w h => h.zae (i := 4) rfl) rfl) ?_
          refine za6 h (fun b1614 hx1613 h => ?_) rfl
          refine o_e rfl (za9 0 Z Tryz.func10 N10 rfl rfl rfl (fun w P1 hF hB hS hT => impl_IsPlan.calls k i790 A1589 c1590 l1588.length l1588 A792 c793 l791.length l791 hB hF (hT 0 _ rfl).row (hT 0 _ rfl).cap (hT 5 _ rfl).row (hT 5 _ rfl).cap _ hx1613)) (fun _ => ?_)
          refine o_q rfl rfl (q_not rfl) ?_
          refine o_q rfl rfl (za2 rfl) ?_
          refine byB b1614 (fun hb1615 => ?_) (fun hb1615 => ?_)
          · replace h := bb_t hb1615 h
            refine za6 h (fun s1617 hx1616 h => ?_) rfl
            refine o_ew (za4 rfl rfl rfl (congrArg (fun b => Value.bool (!(b))) hb1615)) (za9 0 Z Tryz.func32 N32 rfl rfl rfl (fun w P1 hF hB hS hT => impl_Plan_text.calls g789 i790 A1589 c1590 l1588.length l1588 A792 c793 l791.length l791 hB hF (hT 0 _ rfl).row (hT 0 _ rfl).cap (hT 5 _ rfl).row (hT 5 _ rfl).cap (hT 4 _ rfl).box _ hx1616)) (fun _ => ?_)
            refine o_w (za4 rfl rfl rfl (congrArg (fun b => Value.bool (!(b))) hb1615)) rfl (za2 rfl) ?_
            refine o_w (za4 rfl rfl rfl (congrArg (fun b => Value.bool (!(b))) hb1615)) rfl (q_sneq rfl rfl) ?_
            refine o_q rfl rfl (zaw false (congrArg (fun b => Value.bool (!(b))) hb1615) rfl) ?_
            refine o_end ?_
            refine zay (decide (s1617 ≠ a0)) h ⟨rfl, trivial⟩ (fun w h => za7 [2, 4, 0, 5, 1, 3] (by decide) rfl w h) ?_
            repeat (first | exact zac _ _ | refine zaf rfl ?_ | refine zad rfl ?_ | refine zah rfl ?_)
          · replace h := bb_f hb1615 h
            refine @o_n _ _ _ _ _ _ _ _ _ _ _ 57 (za3 rfl rfl rfl (congrArg (fun b => Value.bool (!(b))) hb1615) rfl) (Eq.refl (some 57)) ?_
            refine @o_n _ _ _ _ _ _ _ _ _ _ _ 58 (za3 rfl rfl rfl (congrArg (fun b => Value.bool (!(b))) hb1615) rfl) (Eq.refl (some 58)) ?_
            refine @o_n _ _ _ _ _ _ _ _ _ _ _ 59 (za3 rfl rfl rfl (congrArg (fun b => Value.bool (!(b))) hb1615) rfl) (Eq.refl (some 59)) ?_
            refine o_q rfl rfl (zaw true (congrArg (fun b => Value.bool (!(b))) hb1615) rfl) ?_
            refine o_end ?_
            refine zay true h ⟨rfl, trivial⟩ (fun w h => za7 [2, 4, 0, 5, 1, 3] (by decide) rfl w h) ?_
            repeat (first | exact zac _ _ | refine zaf rfl ?_ | refine zad rfl ?_ | refine zah rfl ?_)
        · skip
          refine (fun b1607 => fun U1611 hJ1612 => ?_)
          have e_ := Option.some.inj hJ1612; have h := hR1610; rw [← e_] at h; clear e_ hJ1612 hR1610 hl1609
          refine zaq _ rfl (fun hb1618 => ?_) (fun hb1618 => ?_)
          · skip
            replace h := bb_t hb1618 h
            refine c_seq ?_
            refine za0 ?_
            refine o_q rfl rfl (q_build (vs := []) (cs := [.int .i64 0, .slice none 0 0, .slice none 0 0]) rfl rfl) ?_
            refine o_e rfl (zat (i := 0) rfl rfl rfl Z27 rfl rfl) (fun _ => ?_)
            refine o_q rfl rfl (q_asg rfl) ?_
            refine o_end ?_
            refine za1 ?_
            refine c_ret ?_
            refine za8 ?_
            refine x_nil kStep 72 ?_
            refine x_nil (Kd.int .i64) 3 ?_
            have e0_ := Option.some.inj h; clear h
            have d0_ := (Prod.mk.inj e0_).1; have e1_ := (Prod.mk.inj e0_).2; clear e0_; subst d0_
            have d1_ := (Prod.mk.inj e1_).1; have e2_ := (Prod.mk.inj e1_).2; clear e1_; subst d1_
            have d2_ := (Prod.mk.inj e2_).1; have e3_ := (Prod.mk.inj e2_).2; clear e2_; subst d2_
            subst e3_
            exact x_r2 (none, 0, none, 0) Tryz.results11 (rv_cell rfl G27 Z27 (fun w h => h.zae (i := 2) rfl) rfl) (zai rfl) rfl (fun w h => za7 [1, 0] (by decide) rfl w h)
          · skip
            replace h := bb_f hb1618 h
            refine zak ?_
            refine za1 ?_
            refine c_seq ?_
            refine za0 ?_
            refine o_q rfl rfl (q_ldB G27 Z27 rfl (fun w h => h.zae (i := 1) rfl) rfl) ?_
            refine o_e rfl (zat (i := 0) rfl rfl rfl Z27 rfl rfl) (fun _ => ?_)
            refine o_q rfl rfl (q_asg rfl) ?_
            refine o_end ?_
            refine za1 ?_
            refine c_ret ?_
            have e0_ := Option.some.inj h; clear h
            have d0_ := (Prod.mk.inj e0_).1; have e1_ := (Prod.mk.inj e0_).2; clear e0_; subst d0_
            have d1_ := (Prod.mk.inj e1_).1; have e2_ := (Prod.mk.inj e1_).2; clear e1_; subst d1_
            have d2_ := (Prod.mk.inj e2_).1; have e3_ := (Prod.mk.inj e2_).2; clear e2_; subst d2_
            subst e3_
            exact x_r2 (A1589, c1590, A792, c793) Tryz.results11 (rv_cell rfl G27 Z27 (fun w h => h.zae (i := 0) rfl) rfl) (zai rfl) rfl (fun w h => za7 [2, 3] (by decide) rfl w h)
      · skip
        clear hl1598
        have hr1595 := hJ_.1; have hk1601 := hJ_.2.1; have h := hJ_.2.2; clear hJ_
        replace h : impl_ParsePlan.l0 (y1592 :: ys1593) l1588 i1591 = some o1599 := h
        rw [impl_ParsePlan.l0] at h
        refine c_seq ?_
        refine za0 ?_
        refine o_q rfl rfl (q_lss rfl rfl) ?_
        refine o_end ?_
        refine za1 ?_
        refine c_seq ?_
        refine c_true (congrArg Value.bool hr1595.lt) ?_
        refine zak ?_
        refine za1 ?_
        refine c_seq ?_
        refine zaj ?_
        refine c_seq ?_
        refine za0 ?_
        refine o_fact (p := Sh A1585 l1584.length l1584.length) (fun w h => f_sh (dk := Kd.string) h (fun w h => h.zau (i := 1) rfl)) (fun hq1619 => ?_)
        refine o_q rfl rfl (q_ix Tryz.underlying64 Z9 rfl rfl hq1619 hr1595.get) ?_
        refine o_q rfl rfl (q_lde (off := 0) Y9 rfl rfl (fun w h => h.zau (i := 1) rfl) hr1595.get (fun _ _ h => h) rfl) ?_
        refine o_q rfl rfl (q_asg rfl) ?_
        refine o_end ?_
        refine za1 ?_
        refine c_seq ?_
        refine za0 ?_
        refine o_q rfl rfl (za2 rfl) ?_
        refine bindE3 h (fun s1621 s1622 b1623 hx1620 h => ?_) rfl
        refine o_e rfl (za9 0 Z Tryz.func44 N44 rfl rfl rfl (fun w P1 hF hB hS hT => strings_Cut.calls y1592 (⟨#[42]⟩ : ByteArray) hB hF (hS _ GW) _ _ _ hx1620)) (fun _ => ?_)
        refine o_q rfl rfl (za2 rfl) ?_
        refine o_q rfl rfl (q_ext rfl rfl) ?_
        refine o_q rfl rfl (q_ext rfl rfl) ?_
        refine o_q rfl rfl (q_ext rfl rfl) ?_
        refine o_q rfl rfl (q_asg rfl) ?_
        refine o_q rfl rfl (q_asg rfl) ?_
        refine o_q rfl rfl (q_asg rfl) ?_
        refine o_end ?_
        refine za1 ?_
        refine za6 h (fun i1806 hx1805 h => ?_) rfl
        refine za6 h (fun i1926 hx1925 h => ?_) rfl
        refine za6 h (fun l2105 ha2106 h => ?_) rfl
        refine a_startS (ds := []) [none, some 1, some 2, some 3, none, some 5] MO rfl ?_
        refine za5 0 rfl rfl rfl (by kernel_rfl) (fun _ _ _ h => h) (q_f F27_1 rfl) ?_
        refine za5 2 rfl rfl rfl (by kernel_rfl) (fun _ _ _ h => h) (za2 rfl) ?_
        refine za5 4 rfl rfl rfl (by kernel_rfl) (fun _ _ _ h => h) (za2 rfl) ?_
        refine a_two 1 3 rfl rfl rfl rfl (by kernel_rfl) rfl rfl (ev_q rfl (q_ldb Y24 rfl (fun w h => h.zae (i := 4) rfl) rfl)) (fun s w h => zab [none, some 1, some 2, some 3, none, some 5] (by decide) w h rfl) (za9 0 Z Tryz.func41 N41 rfl rfl rfl (fun w P1 hF hB hS hT => impl_numberOf.calls s1621 hB hF (hS _ GW) _ hx1805)) (fun s w h => zab [none, some 1, some 2, some 3, none, some 5] (by decide) w h rfl) (fun _ => ?_) (fun _ => ?_)
        · skip
          refine a_one 3 rfl rfl (by kernel_rfl) rfl (za9 0 Z Tryz.func41 N41 rfl rfl rfl (fun w P1 hF hB hS hT => impl_numberOf.calls s1621 hB hF (hS _ GW) _ hx1805)) (fun s w h => zab [none, some 1, some 2, some 3, none, some 5] (by decide) w h rfl) (fun _ => ?_)
          refine a_one 5 rfl rfl (by kernel_rfl) rfl (za9 0 Z Tryz.func41 N41 rfl rfl rfl (fun w P1 hF hB hS hT => impl_numberOf.calls s1622 hB hF (hS _ GW) _ hx1925)) (fun s w h => zab [none, some 1, some 2, some 3, none, some 5] (by decide) w h rfl) (fun _ => ?_)
          refine za5 6 rfl rfl rfl (by kernel_rfl) (fun _ _ _ h => h) (q_build (vs := [(0, .int .i64 i1806), (1, .int .i64 i1926)]) (cs := [.int .i64 i1806, .int .i64 i1926]) rfl rfl) ?_
          refine a_one 7 rfl rfl (by kernel_rfl) rfl (e_lit (vs := [(0, .agg #[.int .i64 i1806, .int .i64 i1926])]) (cs := [.int .i64 i1806, .int .i64 i1926]) kStep ([(⟨i1806, i1926⟩ : SStep)] : List SStep) Tryz.underlying24 I72 (by decide) rfl (by decide) rfl rfl (fun _ _ => reps_flat _)) (fun s w h => zab [none, some 2, some 3, some 4, none, some 6] (by decide) w h rfl) (cur2 (fun A2045 c2046 => ?_))
          refine a_one 8 rfl rfl (by kernel_rfl) rfl (e_app (i := 1) (j := 0) Tryz.underlying24 I72 rfl (by decide) (by decide) rfl rfl rfl rfl rfl ha2106) (fun s w h => zab [none, some 2, some 3, some 4, none, some 6] (by decide) w h rfl) (cur2 (fun A2107 c2108 => ?_))
          refine za5 9 rfl rfl rfl (by kernel_rfl) (fun _ _ _ h => h) (q_f F27_1 rfl) ?_
          refine a_one 10 rfl rfl (by kernel_rfl) rfl (e_store (i := 5) rfl rfl rfl rfl Z24 rfl rfl) (fun s w h => zab [none, some 2, some 3, some 4, none, some 6] (by decide) w h rfl) (fun _ => ?_)
          refine zax (by kernel_rfl) ?_
          refine zal ?_
          refine za1 ?_
          refine za0 ?_
          refine o_q rfl rfl (q_up rfl rfl (hr1595.up hm1596)) ?_
          refine o_q rfl rfl (za2 rfl) ?_
          refine o_end ?_
          refine zam ys1593.length (ys1593, l2105, i1591 + 1, A2107, c2108) (by rw [← hk1601]; exact Nat.lt_succ_self _) ⟨hr1595.step, rfl, h⟩ ⟨rfl, trivial⟩ (fun w h => za7 [1, 2, 3, 4, 5, 6] (by decide) rfl w h) ?_
          repeat (first | exact zac _ _ | refine zaf rfl ?_ | refine zad rfl ?_ | refine zah rfl ?_)
        · skip
          refine a_two 1 5 rfl rfl rfl rfl (by kernel_rfl) rfl rfl (ev_q rfl (q_ldb Y24 rfl (fun w h => h.zae (i := 4) rfl) rfl)) (fun s w h => zab [none, some 1, some 2, some 3, none, some 5] (by decide) w h rfl) (za9 0 Z Tryz.func41 N41 rfl rfl rfl (fun w P1 hF hB hS hT => impl_numberOf.calls s1622 hB hF (hS _ GW) _ hx1925)) (fun s w h => zab [none, some 1, some 2, some 3, none, some 5] (by decide) w h rfl) (fun _ => ?_) (fun _ => ?_)
          · skip
            refine a_one 5 rfl rfl (by kernel_rfl) rfl (za9 0 Z Tryz.func41 N41 rfl rfl rfl (fun w P1 hF hB hS hT => impl_numberOf.calls s1622 hB hF (hS _ GW) _ hx1925)) (fun s w h => zab [none, some 1, some 2, some 3, none, some 5] (by decide) w h rfl) (fun _ => ?_)
            refine za5 6 rfl rfl rfl (by kernel_rfl) (fun _ _ _ h => h) (q_build (vs := [(0, .int .i64 i1806), (1, .int .i64 i1926)]) (cs := [.int .i64 i1806, .int .i64 i1926]) rfl rfl) ?_
            refine a_one 7 rfl rfl (by kernel_rfl) rfl (e_lit (vs := [(0, .agg #[.int .i64 i1806, .int .i64 i1926])]) (cs := [.int .i64 i1806, .int .i64 i1926]) kStep ([(⟨i1806, i1926⟩ : SStep)] : List SStep) Tryz.underlying24 I72 (by decide) rfl (by decide) rfl rfl (fun _ _ => reps_flat _)) (fun s w h => zab [none, some 2, some 3, some 4, none, some 6] (by decide) w h rfl) (cur2 (fun A2045 c2046 => ?_))
            refine a_one 8 rfl rfl (by kernel_rfl) rfl (e_app (i := 1) (j := 0) Tryz.underlying24 I72 rfl (by decide) (by decide) rfl rfl rfl rfl rfl ha2106) (fun s w h => zab [none, some 2, some 3, some 4, none, some 6] (by decide) w h rfl) (cur2 (fun A2107 c2108 => ?_))
            refine za5 9 rfl rfl rfl (by kernel_rfl) (fun _ _ _ h => h) (q_f F27_1 rfl) ?_
            refine a_one 10 rfl rfl (by kernel_rfl) rfl (e_store (i := 5) rfl rfl rfl rfl Z24 rfl rfl) (fun s w h => zab [none, some 2, some 3, some 4, none, some 6] (by decide) w h rfl) (fun _ => ?_)
            refine zax (by kernel_rfl) ?_
            refine zal ?_
            refine za1 ?_
            refine za0 ?_
            refine o_q rfl rfl (q_up rfl rfl (hr1595.up hm1596)) ?_
            refine o_q rfl rfl (za2 rfl) ?_
            refine o_end ?_
            refine zam ys1593.length (ys1593, l2105, i1591 + 1, A2107, c2108) (by rw [← hk1601]; exact Nat.lt_succ_self _) ⟨hr1595.step, rfl, h⟩ ⟨rfl, trivial⟩ (fun w h => za7 [1, 2, 3, 4, 5, 6] (by decide) rfl w h) ?_
            repeat (first | exact zac _ _ | refine zaf rfl ?_ | refine zad rfl ?_ | refine zah rfl ?_)
          · skip
            refine za5 6 rfl rfl rfl (by kernel_rfl) (fun _ _ _ h => h) (q_build (vs := [(0, .int .i64 i1806), (1, .int .i64 i1926)]) (cs := [.int .i64 i1806, .int .i64 i1926]) rfl rfl) ?_
            refine a_two 1 7 rfl rfl rfl rfl (by kernel_rfl) rfl rfl (ev_q rfl (q_ldb Y24 rfl (fun w h => h.zae (i := 4) rfl) rfl)) (fun s w h => zab [none, some 1, some 2, some 3, none, some 5] (by decide) w h rfl) (e_lit (vs := [(0, .agg #[.int .i64 i1806, .int .i64 i1926])]) (cs := [.int .i64 i1806, .int .i64 i1926]) kStep ([(⟨i1806, i1926⟩ : SStep)] : List SStep) Tryz.underlying24 I72 (by decide) rfl (by decide) rfl rfl (fun _ _ => reps_flat _)) (fun s w h => zab [none, some 2, some 3, some 4, none, some 6] (by decide) w h rfl) (fun _ => ?_) (cur2 (fun A2045 c2046 => ?_))
            · skip
              refine a_one 7 rfl rfl (by kernel_rfl) rfl (e_lit (vs := [(0, .agg #[.int .i64 i1806, .int .i64 i1926])]) (cs := [.int .i64 i1806, .int .i64 i1926]) kStep ([(⟨i1806, i1926⟩ : SStep)] : List SStep) Tryz.underlying24 I72 (by decide) rfl (by decide) rfl rfl (fun _ _ => reps_flat _)) (fun s w h => zab [none, some 2, some 3, some 4, none, some 6] (by decide) w h rfl) (cur2 (fun A2045 c2046 => ?_))
              refine a_one 8 rfl rfl (by kernel_rfl) rfl (e_app (i := 1) (j := 0) Tryz.underlying24 I72 rfl (by decide) (by decide) rfl rfl rfl rfl rfl ha2106) (fun s w h => zab [none, some 2, some 3, some 4, none, some 6] (by decide) w h rfl) (cur2 (fun A2107 c2108 => ?_))
              refine za5 9 rfl rfl rfl (by kernel_rfl) (fun _ _ _ h => h) (q_f F27_1 rfl) ?_
              refine a_one 10 rfl rfl (by kernel_rfl) rfl (e_store (i := 5) rfl rfl rfl rfl Z24 rfl rfl) (fun s w h => zab [none, some 2, some 3, some 4, none, some 6] (by decide) w h rfl) (fun _ => ?_)
              refine zax (by kernel_rfl) ?_
              refine zal ?_
              refine za1 ?_
              refine za0 ?_
              refine o_q rfl rfl (q_up rfl rfl (hr1595.up hm1596)) ?_
              refine o_q rfl rfl (za2 rfl) ?_
              refine o_end ?_
              refine zam ys1593.length (ys1593, l2105, i1591 + 1, A2107, c2108) (by rw [← hk1601]; exact Nat.lt_succ_self _) ⟨hr1595.step, rfl, h⟩ ⟨rfl, trivial⟩ (fun w h => za7 [1, 2, 3, 4, 5, 6] (by decide) rfl w h) ?_
              repeat (first | exact zac _ _ | refine zaf rfl ?_ | refine zad rfl ?_ | refine zah rfl ?_)
            · skip
              refine a_one 1 rfl rfl (by kernel_rfl) rfl (ev_q rfl (q_ldb Y24 rfl (fun w h => h.zae (i := 5) rfl) rfl)) (fun s w h => zab [none, some 2, some 3, some 4, none, some 6] (by decide) w h rfl) (fun _ => ?_)
              refine a_one 8 rfl rfl (by kernel_rfl) rfl (e_app (i := 1) (j := 0) Tryz.underlying24 I72 rfl (by decide) (by decide) rfl rfl rfl rfl rfl ha2106) (fun s w h => zab [none, some 2, some 3, some 4, none, some 6] (by decide) w h rfl) (cur2 (fun A2107 c2108 => ?_))
              refine za5 9 rfl rfl rfl (by kernel_rfl) (fun _ _ _ h => h) (q_f F27_1 rfl) ?_
              refine a_one 10 rfl rfl (by kernel_rfl) rfl (e_store (i := 5) rfl rfl rfl rfl Z24 rfl rfl) (fun s w h => zab [none, some 2, some 3, some 4, none, some 6] (by decide) w h rfl) (fun _ => ?_)
              refine zax (by kernel_rfl) ?_
              refine zal ?_
              refine za1 ?_
              refine za0 ?_
              refine o_q rfl rfl (q_up rfl rfl (hr1595.up hm1596)) ?_
              refine o_q rfl rfl (za2 rfl) ?_
              refine o_end ?_
              refine zam ys1593.length (ys1593, l2105, i1591 + 1, A2107, c2108) (by rw [← hk1601]; exact Nat.lt_succ_self _) ⟨hr1595.step, rfl, h⟩ ⟨rfl, trivial⟩ (fun w h => za7 [1, 2, 3, 4, 5, 6] (by decide) rfl w h) ?_
              repeat (first | exact zac _ _ | refine zaf rfl ?_ | refine zad rfl ?_ | refine zah rfl ?_)

end Go.Proofs.YtnnlfipcoahcnaaGreatDoor.G2
