import Derived.Test.YtiaohjciddbpoaaKFnMethodsM5p6
namespace Go.Proofs.Ytiaohjciddbpoaa.M5
set_option maxHeartbeats 8000000
set_option maxRecDepth 100000
open Go.RowKit Go.Proofs.Ytiaohjciddbpoaa.Frame Go.Proofs.YtiaohjciddbpoaaW.PrintLast Go.Proofs.Ytiaohjciddbpoaa.Hand
open Go.Proofs.YtiaohjciddbpoaaW.PrintWords hiding mn mx
set_option linter.unusedVariables false
def impl_BestPlan.f (k : Nat) (a0 : Int) : Option (Int × (List SStep) × (List Int) × Bool) := (impl_methodPlans.f k a0).bind fun (i4, l5, l6, i7, l8, l9, i10, l11, l12, i13, l14, l15, i16, l17, l18, i19, l20, l21, i22, l23, l24, b25) => if b25 = true then ((slices_MinFunc_impl_Plan_impl_Plan.f i4 l5 l6 i7 l8 l9 i10 l11 l12 i13 l14 l15 i16 l17 l18 i19 l20 l21 i22 l23 l24).bind fun (i57, l58, l59) => some (i57, l58, l59, true)) else (some (0, ([] : List SStep), ([] : List Int), false))
theorem impl_BestPlan.calls (k : Nat) {w0 ws : World} {P0 : Nat → Prop} (a0 : Int) (Z : Below w0.heap.size w0 ws) (hF : Fr w0 ws P0 [] ws)  (r_1 : Int) (r_2 : List SStep) (r_5 : List Int) (r_8 : Bool) (h : impl_BestPlan.f k a0 = some (r_1, r_2, r_5, r_8)) :
  Calls Try.prog 35 #[.int .i64 a0] ws (Post1 w0 ws P0 (fun ((q_3, q_4, q_6, q_7) : (Option Addr) × Nat × (Option Addr) × Nat) => .tuple #[.agg #[.int .i64 r_1, .slice q_3 r_2.length q_4, .slice q_6 r_5.length q_7], .bool r_8]) (fun ((q_3, q_4, q_6, q_7) : (Option Addr) × Nat × (Option Addr) × Nat) => [row kStep 107 (.slice q_3 r_2.length q_4) r_2, row (Kd.int .i64) 3 (.slice q_6 r_5.length q_7) r_5])) := by
 unfold impl_BestPlan.f at h
 refine enter Try.func35 rfl Try.ntmps35 rfl hF ?_
 refine c_seq ?_
 refine za0 ?_
 refine o_e rfl (zab V25 rfl) (fun g1 => ?_)
 refine o_q rfl rfl (q_asg rfl) ?_
 refine o_end ?_
 refine za1 ?_
 refine c_seq ?_
 refine za0 ?_
 refine o_q rfl rfl (za2 rfl) ?_
 refine bindE22 h (fun i4 l5 l6 i7 l8 l9 i10 l11 l12 i13 l14 l15 i16 l17 l18 i19 l20 l21 i22 l23 l24 b25 hx3 h => ?_) rfl
 refine o_e rfl (za5 0 Z Try.func69 N69 rfl rfl rfl (fun w P1 hF hB hS hT => impl_methodPlans.calls k a0 hB hF _ _ _ _ _ _ _ _ _ _ _ _ _ _ _ _ _ _ _ _ _ _ hx3)) (cur29 (fun c26 A27 c28 A29 c30 A31 c32 A33 c34 A35 c36 A37 c38 A39 c40 A41 c42 A43 c44 A45 c46 A47 c48 A49 c50 A51 c52 A53 c54 => ?_))
 refine o_q rfl rfl (za2 rfl) ?_
 refine o_q rfl rfl (q_ext rfl rfl) ?_
 refine o_q rfl rfl (q_ext rfl rfl) ?_
 refine o_q rfl rfl (q_asg rfl) ?_
 refine o_q rfl rfl (q_asg rfl) ?_
 refine o_end ?_
 refine za1 ?_
 refine c_seq ?_
 refine c_seq ?_
 refine za0 ?_
 refine o_q rfl rfl (za2 rfl) ?_
 refine o_q rfl rfl (q_not rfl) ?_
 refine o_end ?_
 refine za1 ?_
 refine zan _ rfl (fun hb55 => ?_) (fun hb55 => ?_)
 ·replace hb55 := nt_t hb55
  replace h := bb_f hb55 h
  refine c_seq ?_
  refine za0 ?_
  refine o_q rfl rfl (q_build (vs := []) (cs := [.int .i64 0, .slice none 0 0, .slice none 0 0]) rfl rfl) ?_
  refine o_e rfl (zac (i := 15) rfl rfl rfl Z25 rfl rfl) (fun _ => ?_)
  refine o_q rfl rfl (q_asg rfl) ?_
  refine o_end ?_
  refine za1 ?_
  refine c_ret ?_
  refine zaa ?_
  refine x_nil kStep 107 ?_
  refine x_nil (Kd.int .i64) 3 ?_
  have e0_ := Option.some.inj h; clear h
  have d0_ := (Prod.mk.inj e0_).1; have e1_ := (Prod.mk.inj e0_).2; clear e0_; subst d0_
  have d1_ := (Prod.mk.inj e1_).1; have e2_ := (Prod.mk.inj e1_).2; clear e1_; subst d1_
  have d2_ := (Prod.mk.inj e2_).1; have e3_ := (Prod.mk.inj e2_).2; clear e2_; subst d2_
  subst e3_
  exact x_r2 (none, 0, none, 0) Try.results35 (zb0 rfl G25 Z25 (fun w h => h.zb2 (i := 17) rfl) rfl) (zad rfl) rfl (fun w h => f_pick [1, 0] (by decide) rfl w h)
 ·replace hb55 := nt_f hb55
  replace h := bb_t hb55 h
  refine zai ?_
  refine za1 ?_
  refine c_seq ?_
  refine za0 ?_
  refine o_q rfl rfl (za2 rfl) ?_
  refine o_pick [1, 2, 3, 4, 5, 6, 7, 8, 9, 10, 11, 12, 13, 14, 0, 15] (by decide) rfl ?_
  refine bindE3 h (fun i57 l58 l59 hx56 h => ?_) rfl
  refine o_e rfl (za5 14 Z Try.func80 N80 rfl rfl rfl (fun w P1 hF hB hS hT => slices_MinFunc_impl_Plan_impl_Plan.calls c26 i4 A27 c28 l5.length l5 A29 c30 l6.length l6 i7 A31 c32 l8.length l8 A33 c34 l9.length l9 i10 A35 c36 l11.length l11 A37 c38 l12.length l12 i13 A39 c40 l14.length l14 A41 c42 l15.length l15 i16 A43 c44 l17.length l17 A45 c46 l18.length l18 i19 A47 c48 l20.length l20 A49 c50 l21.length l21 i22 A51 c52 l23.length l23 A53 c54 l24.length l24 hB hF (hT 0 _ rfl).box _ _ _ hx56)) (cur4 (fun A60 c61 A62 c63 => ?_))
  refine o_e rfl (zac (i := 3) rfl rfl rfl Z25 rfl rfl) (fun _ => ?_)
  refine o_q rfl rfl (q_asg rfl) ?_
  refine o_end ?_
  refine za1 ?_
  refine c_ret ?_
  have e0_ := Option.some.inj h; clear h
  have d0_ := (Prod.mk.inj e0_).1; have e1_ := (Prod.mk.inj e0_).2; clear e0_; subst d0_
  have d1_ := (Prod.mk.inj e1_).1; have e2_ := (Prod.mk.inj e1_).2; clear e1_; subst d1_
  have d2_ := (Prod.mk.inj e2_).1; have e3_ := (Prod.mk.inj e2_).2; clear e2_; subst d2_
  subst e3_
  exact x_r2 (A60, c61, A62, c63) Try.results35 (zb0 rfl G25 Z25 (fun w h => h.zb2 (i := 3) rfl) rfl) (zad rfl) rfl (fun w h => f_pick [0, 1] (by decide) rfl w h)

def impl_Plan_outputExponents.l0 (l2 : List (List Int)) : (List Int) → (List (List Int)) → Int → Option (List (List Int))
 | [], l9, i13 => some l9
 | y14 :: ys15, l9, i13 => (gt l2 y14).bind fun y27 => (slices_Clone_int_int.f y27).bind fun l30 => (ap l9 ([l30] : List (List Int))).bind fun l37 => impl_Plan_outputExponents.l0 l2 ys15 l37 (i13 + 1)
def impl_Plan_outputExponents.f (a0_0 : Int) (l0_1 : List SStep) (l0_2 : List Int) : Option (List (List Int)) := (impl_Plan_exponents.f a0_0 l0_1 l0_2).bind fun l2 => (impl_Plan_outputExponents.l0 l2 l0_2 ([] : List (List Int)) 0).bind fun l9 => some l9
theorem impl_Plan_outputExponents.calls {w0 ws : World} {P0 : Nat → Prop} (g0 : Nat) (a0_0 : Int) (A0_1 : Option Addr) (c0_1 : Nat) (n0_1 : Nat) (l0_1 : List SStep) (A0_2 : Option Addr) (c0_2 : Nat) (n0_2 : Nat) (l0_2 : List Int) (Z : Below w0.heap.size w0 ws) (hF : Fr w0 ws P0 [] ws) (R0_1 : Stable ws P0 (fun w => Kd.C kStep w A0_1 n0_1 l0_1)) (hc0_1 : n0_1 ≤ c0_1) (R0_2 : Stable ws P0 (fun w => Kd.C (Kd.int .i64) w A0_2 n0_2 l0_2)) (hc0_2 : n0_2 ≤ c0_2) (B0 : Stable ws P0 (fun w => w.heap[g0]? = some (.cells #[.int .i64 a0_0, .slice A0_1 n0_1 c0_1, .slice A0_2 n0_2 c0_2] 25 (0, 0)))) (r_1 : List (List Int)) (h : impl_Plan_outputExponents.f a0_0 l0_1 l0_2 = some r_1) :
  Calls Try.prog 102 #[.pointer (some ⟨g0, 0, none⟩)] ws (Post1 w0 ws P0 (fun ((q_2, q_3, q_4) : (Option Addr) × Nat × Hd) => .slice q_2 r_1.length q_3) (fun ((q_2, q_3, q_4) : (Option Addr) × Nat × Hd) => [row (gk 3 (Kd.int .i64)) 23 (.slice q_2 r_1.length q_3) (zp q_4 r_1)])) := by
 unfold impl_Plan_outputExponents.f at h
 obtain rfl := (R0_1 ws (KeptB.refl _ _)).1
 obtain rfl := (R0_2 ws (KeptB.refl _ _)).1
 refine enter Try.func102 rfl Try.ntmps102 rfl hF (c_seq (za0 (oq_ (q_asg rfl) (o_end (za1 (c_seq (za0 (oq_ (za2 rfl) (za6 h (fun l2 hx1 h => ?_) rfl)))))))))
 refine o_e rfl (za5 0 Z Try.func138 N138 rfl rfl rfl (fun w P1 hF hB hS hT => impl_Plan_exponents.calls g0 a0_0 A0_1 c0_1 l0_1.length l0_1 A0_2 c0_2 l0_2.length l0_2 hB hF (hS _ R0_1) hc0_1 (hS _ R0_2) hc0_2 (hS _ B0) _ hx1)) (cur3 (fun A3 c4 H5 => o_e rfl (e_lit0 (gk 3 (Kd.int .i64)) Try.underlying47 I23) (cur2 (fun A6 c7 => oq_ (q_asg rfl) (oq_ (q_asg rfl) (o_end (za1 (c_seq (c_seq (za0 (oq_ (za2 rfl) ?_)))))))))))
 refine oq_ (q_nil rfl) (oq_ (q_f F25_2 rfl) (oq_ (q_ldb Y23 rfl (fun w h => B0.now Z h) rfl) (oq_ (q_len Try.underlying23 rfl) (oq_ (za2 rfl) (o_end (za1 (zae (za6 h (fun o21 hl20 hR19 => ?_) rfl))))))))
 clear h
 refine c_fact (p := l0_2.length ≤ 9223372036854775807) (fun w h => (R0_2.now Z h).2.1) (fun hm18 => zas (σ := (List Int) × (List (List Int)) × Int × (Option Addr) × Nat × Hd) (fun k16 ((ys15, l9, i13, A10, c11, H12) : (List Int) × (List (List Int)) × Int × (Option Addr) × Nat × Hd) => Rg l0_2 i13 ys15 ∧ ys15.length = k16 ∧ impl_Plan_outputExponents.l0 l2 ys15 l9 i13 = some o21) [4, 6, 15, 16, 17, 18, 19, 20, 21, 22, 23, 24, 25, 26, 27] (fun ((ys15, l9, i13, A10, c11, H12) : (List Int) × (List (List Int)) × Int × (Option Addr) × Nat × Hd) => [(4, .slice A10 l9.length c11), (15, .int .i64 i13)]) (fun ((ys15, l9, i13, A10, c11, H12) : (List Int) × (List (List Int)) × Int × (Option Addr) × Nat × Hd) => [row (gk 3 (Kd.int .i64)) 23 (.slice A10 l9.length c11) (zp H12 l9), row (gk 3 (Kd.int .i64)) 23 (.slice A3 l2.length c4) (zp H5 l2)]) l0_2.length (l0_2, ([] : List (List Int)), 0, A6, c7, ([] : Hd)) ⟨Rg.start _, rfl, hl20⟩ ⟨rfl, rfl, trivial⟩ (fun w h => h) (fun k16 => cur6 (listC (fun l9 i13 A10 c11 H12 U22 hJ_ => ?_) (fun y14 ys15 l9 i13 A10 c11 H12 U22 hJ_ => ?_))))
 ·clear hl20
  have hr17 := hJ_.1; have hk23 := hJ_.2.1; have h := hJ_.2.2; clear hJ_
  replace h : impl_Plan_outputExponents.l0 l2 [] l9 i13 = some o21 := h
  rw [impl_Plan_outputExponents.l0] at h
  refine c_seq (za0 (oq_ (q_lss rfl rfl) (o_end (za1 (c_seq (zaz (vb_ hr17.ge) (zax (za7 (za7 ?_)))))))))
  have e_ := si_ h; replace h := hR19; rw [← e_] at h; clear e_
  refine x_hit (za1 (c_seq (za0 (oq_ (za2 rfl) (oq_ (q_asg rfl) (o_end (za1 (c_ret ?_))))))))
  have e0_ := si_ h; clear h
  subst e0_
  exact x_r1 (A10, c11, H12) Try.results102 (zad rfl) rfl (pk_ [0])
 ·clear hl20
  have hr17 := hJ_.1; have hk23 := hJ_.2.1; have h := hJ_.2.2; clear hJ_
  replace h : impl_Plan_outputExponents.l0 l2 (y14 :: ys15) l9 i13 = some o21 := h
  rw [impl_Plan_outputExponents.l0] at h
  refine c_seq (za0 (oq_ (q_lss rfl rfl) (o_end (za1 (c_seq (zar (vb_ hr17.lt) (zai (za1 (c_seq ?_)))))))))
  refine zae (c_seq (za0 (zaw (p := Sh A0_2 l0_2.length l0_2.length) (fun w h => f_sh (dk := (Kd.int .i64)) h (fun w h => R0_2.now Z h)) (fun hq24 => oq_ (q_ix Try.underlying23 Z3 rfl rfl hq24 hr17.get) (oq_ (q_lde (off := 0) Y3 rfl rfl (fun w h => R0_2.now Z h) hr17.get (fun _ _ h => h) rfl) (oq_ (q_asg rfl) (o_end (za1 (za0 ?_)))))))))
  refine oq_ (za2 rfl) (oq_ (za2 rfl) (oq_ (za2 rfl) (zaw (p := Sh A3 l2.length (zp H5 l2).length) (fun w h => f_sh (dk := (gk 3 (Kd.int .i64))) h (rc_ 1 rfl)) (fun hq25 => za6 h (fun y27 hg26 h => ?_) rfl))))
  refine oq_ (q_ix Try.underlying47 Z23 rfl rfl hq25 (gt_zp hg26)) (zaw (p := y27.length ≤ hC H5 y14) (fun w h => (K_in (h.row_Cn (i := 1) rfl) hg26).1) (fun hc28 => oq_ (q_lde (off := 0) Y23 rfl rfl (rc_ 1 rfl) (gt_zp hg26) (fun _ _ h => h.1) rfl) (za6 h (fun l30 hx29 h => ?_) rfl)))
  refine o_e rfl (za5 0 Z Try.func95 N95 rfl rfl rfl (fun w P1 hF hB hS hT => slices_Clone_int_int.calls (hA H5 y14) (hC H5 y14) y27.length y27 hB hF (stab_in (hT 1 _ rfl).row hg26) hc28 _ hx29)) (cur2 (fun A31 c32 => o_e rfl (e_litG (j := 0) (ue := 3) (dk := (Kd.int .i64)) (ys := l30) Try.underlying47 I23 rfl rfl rfl) (cur3 (fun A33 c34 H36 => za6 h (fun l37 ha38 h => ?_) rfl))))
  refine o_e rfl (e_appG (i := 2) (j := 0) Try.underlying47 I23 rfl dc_ rfl rfl rfl rfl rfl ha38) (cur3 (fun A39 c40 H41 => oq_ (q_asg rfl) (o_end (zaf (za1 (za0 (oq_ (q_up rfl rfl (hr17.up hm18)) (oq_ (za2 rfl) (o_end (zal ys15.length (ys15, l37, i13 + 1, A39, c40, H41) (by rw [← hk23]; exact Nat.lt_succ_self _) ⟨hr17.step, rfl, h⟩ ⟨rfl, rfl, trivial⟩ (pk_ [2, 3]) ?_))))))))))
  exact of_

def impl_OutputExponents.f (k : Nat) (a0_0 : Int) (l0_1 : List SStep) (l0_2 : List Int) : Option ((List (List Int)) × Bool) := (impl_IsPlan.f k a0_0 l0_1 l0_2).bind fun b4 => if b4 = true then ((impl_Plan_outputExponents.f a0_0 l0_1 l0_2).bind fun l7 => some (l7, true)) else (some (([] : List (List Int)), false))
theorem impl_OutputExponents.calls (k : Nat) {w0 ws : World} {P0 : Nat → Prop} (a0_0 : Int) (A0_1 : Option Addr) (c0_1 : Nat) (n0_1 : Nat) (l0_1 : List SStep) (A0_2 : Option Addr) (c0_2 : Nat) (n0_2 : Nat) (l0_2 : List Int) (Z : Below w0.heap.size w0 ws) (hF : Fr w0 ws P0 [] ws) (R0_1 : Stable ws P0 (fun w => Kd.C kStep w A0_1 n0_1 l0_1)) (hc0_1 : n0_1 ≤ c0_1) (R0_2 : Stable ws P0 (fun w => Kd.C (Kd.int .i64) w A0_2 n0_2 l0_2)) (hc0_2 : n0_2 ≤ c0_2) (r_1 : List (List Int)) (r_5 : Bool) (h : impl_OutputExponents.f k a0_0 l0_1 l0_2 = some (r_1, r_5)) :
  Calls Try.prog 45 #[.agg #[.int .i64 a0_0, .slice A0_1 n0_1 c0_1, .slice A0_2 n0_2 c0_2]] ws (Post1 w0 ws P0 (fun ((q_2, q_3, q_4) : (Option Addr) × Nat × Hd) => .tuple #[.slice q_2 r_1.length q_3, .bool r_5]) (fun ((q_2, q_3, q_4) : (Option Addr) × Nat × Hd) => [row (gk 3 (Kd.int .i64)) 23 (.slice q_2 r_1.length q_3) (zp q_4 r_1)])) := by
 unfold impl_OutputExponents.f at h
 obtain rfl := (R0_1 ws (KeptB.refl _ _)).1
 obtain rfl := (R0_2 ws (KeptB.refl _ _)).1
 refine enter Try.func45 rfl Try.ntmps45 rfl hF (c_seq (za0 (o_e rfl (e_box rfl) (fun g1 => oq_ (q_asg rfl) (oq_ (q_asg rfl) (o_end (za1 (c_seq (c_seq ?_)))))))))
 refine za0 (oq_ (q_ldB G25 Z25 rfl (bx_ 0 rfl) rfl) (za6 h (fun b4 hx3 h => ?_) rfl))
 refine o_e rfl (za5 0 Z Try.func90 N90 rfl rfl rfl (fun w P1 hF hB hS hT => impl_IsPlan.calls k a0_0 A0_1 c0_1 l0_1.length l0_1 A0_2 c0_2 l0_2.length l0_2 hB hF (hS _ R0_1) hc0_1 (hS _ R0_2) hc0_2 _ hx3)) (fun _ => oq_ (q_not rfl) (o_end (za1 (zan _ rfl (fun hb5 => ?_) (fun hb5 => ?_)))))
 ·replace hb5 := nt_t hb5
  replace h := bb_f hb5 h
  refine c_seq (za0 (oq_ (q_asg rfl) (oq_ (q_asg rfl) (o_end (za1 (c_ret (zaa (x_nil (gk 3 (Kd.int .i64)) 23 ?_))))))))
  have e0_ := si_ h; clear h
  obtain ⟨rfl, e1_⟩ := Prod.mk.inj e0_
  subst e1_
  exact x_r2 (none, 0, ([] : Hd)) Try.results45 (zad rfl) (zad rfl) rfl (pk_ [0])
 ·replace hb5 := nt_f hb5
  replace h := bb_t hb5 h
  refine zai (za1 (c_seq (za0 (za6 h (fun l7 hx6 h => ?_) rfl))))
  refine o_e rfl (za5 0 Z Try.func102 N102 rfl rfl rfl (fun w P1 hF hB hS hT => impl_Plan_outputExponents.calls g1 a0_0 A0_1 c0_1 l0_1.length l0_1 A0_2 c0_2 l0_2.length l0_2 hB hF (hS _ R0_1) hc0_1 (hS _ R0_2) hc0_2 (hT 0 _ rfl).box _ hx6)) (cur3 (fun A8 c9 H10 => oq_ (q_asg rfl) (oq_ (q_asg rfl) (o_end (za1 (c_ret ?_))))))
  have e0_ := si_ h; clear h
  obtain ⟨rfl, e1_⟩ := Prod.mk.inj e0_
  subst e1_
  exact x_r2 (A8, c9, H10) Try.results45 (zad rfl) (zad rfl) rfl (pk_ [0])

def laws_pEnds.f (k : Nat) (a0_0 : Int) (l0_1 : List SStep) (l0_2 : List Int) (a1 : Int) : Option Bool := (impl_OutputExponents.f k a0_0 l0_1 l0_2).bind fun (l4, b5) => if b5 = true then (if (l4.length : Int) = 1 then ((gt l4 0).bind fun y13 => if (y13.length : Int) = 1 then ((gt l4 0).bind fun y17 => (gt y17 0).bind fun y21 => some (decide (y21 = a1))) else (some false)) else (some false)) else (some false)
theorem laws_pEnds.calls (k : Nat) {w0 ws : World} {P0 : Nat → Prop} (a0_0 : Int) (A0_1 : Option Addr) (c0_1 : Nat) (n0_1 : Nat) (l0_1 : List SStep) (A0_2 : Option Addr) (c0_2 : Nat) (n0_2 : Nat) (l0_2 : List Int) (a1 : Int) (Z : Below w0.heap.size w0 ws) (hF : Fr w0 ws P0 [] ws) (R0_1 : Stable ws P0 (fun w => Kd.C kStep w A0_1 n0_1 l0_1)) (hc0_1 : n0_1 ≤ c0_1) (R0_2 : Stable ws P0 (fun w => Kd.C (Kd.int .i64) w A0_2 n0_2 l0_2)) (hc0_2 : n0_2 ≤ c0_2) (r_1 : Bool) (h : laws_pEnds.f k a0_0 l0_1 l0_2 a1 = some r_1) :
  Calls Try.prog 25 #[.agg #[.int .i64 a0_0, .slice A0_1 n0_1 c0_1, .slice A0_2 n0_2 c0_2], .int .i64 a1] ws (Post1 w0 ws P0 (fun (_ : Unit) => .bool r_1) (fun (_ : Unit) => [])) := by
 unfold laws_pEnds.f at h
 obtain rfl := (R0_1 ws (KeptB.refl _ _)).1
 obtain rfl := (R0_2 ws (KeptB.refl _ _)).1
 refine enter Try.func25 rfl Try.ntmps25 rfl hF (c_seq (za0 (o_e rfl (e_box rfl) (fun g1 => oq_ (q_asg rfl) (o_end (za1 (c_seq (za0 (oq_ (q_ldB G25 Z25 rfl (bx_ 0 rfl) rfl) ?_)))))))))
 refine bindE2 h (fun l4 b5 hx3 h => ?_) rfl
 refine o_e rfl (za5 0 Z Try.func45 N45 rfl rfl rfl (fun w P1 hF hB hS hT => impl_OutputExponents.calls k a0_0 A0_1 c0_1 l0_1.length l0_1 A0_2 c0_2 l0_2.length l0_2 hB hF (hS _ R0_1) hc0_1 (hS _ R0_2) hc0_2 _ _ hx3)) (cur3 (fun A6 c7 H8 => oq_ (za2 rfl) (oq_ (q_ext rfl rfl) (oq_ (q_ext rfl rfl) (oq_ (q_asg rfl) (oq_ (q_asg rfl) (o_end (za1 (c_seq (za0 ?_))))))))))
 refine oq_ (za2 rfl) (oq_ (za2 rfl) (byB b5 (fun hb9 => ?_) (fun hb9 => ?_)))
 ·replace h := bb_t hb9 h
  refine o_w (za4 rfl rfl rfl (vb_ hb9)) rfl (za2 rfl) (o_w (za4 rfl rfl rfl (vb_ hb9)) rfl (q_len Try.underlying47 rfl) (o_w (za4 rfl rfl rfl (vb_ hb9)) rfl (q_eql rfl rfl) (oq_ (zak true (vb_ hb9) rfl) (oq_ (za2 rfl) (byB (decide ((l4.length : Int) = 1)) (fun hb10 => ?_) (fun hb10 => ?_))))))
  ·replace h := br_t hb10 h
   refine o_w (za4 rfl rfl rfl (vb_ hb10)) rfl (za2 rfl) (zaw (p := Sh A6 l4.length (zp H8 l4).length) (fun w h => f_sh (dk := (gk 3 (Kd.int .i64))) h (rc_ 0 rfl)) (fun hq11 => za6 h (fun y13 hg12 h => ?_) rfl))
   refine o_w (za4 rfl rfl rfl (vb_ hb10)) rfl (q_ix Try.underlying47 Z23 rfl rfl hq11 (gt_zp hg12)) (zaw (p := y13.length ≤ hC H8 (0 : Int)) (fun w h => (K_in (h.row_Cn (i := 0) rfl) hg12).1) (fun hc14 => o_w (za4 rfl rfl rfl (vb_ hb10)) rfl (q_lde (off := 0) Y23 rfl rfl (rc_ 0 rfl) (gt_zp hg12) (fun _ _ h => h.1) rfl) (o_w (za4 rfl rfl rfl (vb_ hb10)) rfl (q_len Try.underlying23 rfl) (o_w (za4 rfl rfl rfl (vb_ hb10)) rfl (q_eql rfl rfl) (oq_ (zak true (vb_ hb10) rfl) (oq_ (za2 rfl) (byB (decide ((y13.length : Int) = 1)) (fun hb15 => ?_) (fun hb15 => ?_))))))))
   ·replace h := br_t hb15 h
    refine o_w (za4 rfl rfl rfl (vb_ hb15)) rfl (za2 rfl) (za6 h (fun y17 hg16 h => ?_) rfl)
    refine o_w (za4 rfl rfl rfl (vb_ hb15)) rfl (q_ix Try.underlying47 Z23 rfl rfl hq11 (gt_zp hg16)) (zaw (p := y17.length ≤ hC H8 (0 : Int)) (fun w h => (K_in (h.row_Cn (i := 0) rfl) hg16).1) (fun hc18 => o_w (za4 rfl rfl rfl (vb_ hb15)) rfl (q_lde (off := 0) Y23 rfl rfl (rc_ 0 rfl) (gt_zp hg16) (fun _ _ h => h.1) rfl) (zaw (p := Sh (hA H8 (0 : Int)) y17.length y17.length) (fun w h => f_sh (dk := (Kd.int .i64)) h (fun w h => C_in (h.row_Cn (i := 0) rfl) hg16)) (fun hq19 => za6 h (fun y21 hg20 h => ?_) rfl))))
    refine o_w (za4 rfl rfl rfl (vb_ hb15)) rfl (q_ix Try.underlying23 Z3 rfl rfl hq19 hg20) (o_w (za4 rfl rfl rfl (vb_ hb15)) rfl (q_lde (off := 0) Y3 rfl rfl (fun w h => C_in (h.row_Cn (i := 0) rfl) hg16) hg20 (fun _ _ h => h) rfl) (o_w (za4 rfl rfl rfl (vb_ hb15)) rfl (za2 rfl) (o_w (za4 rfl rfl rfl (vb_ hb15)) rfl (q_eql rfl rfl) (oq_ (zak true (vb_ hb15) rfl) (oq_ (q_asg rfl) (o_end (za1 (c_ret ?_))))))))
    have e0_ := si_ h; clear h
    subst e0_
    exact x_r1 () Try.results25 (zad rfl) rfl (pk_ [])
   ·replace h := br_f hb15 h
    refine o_n (d := 26) (za3 rfl rfl rfl (vb_ hb15) rfl) (Eq.refl (some 26)) (o_n (d := 27) (za3 rfl rfl rfl (vb_ hb15) rfl) (Eq.refl (some 27)) (o_n (d := 28) (za3 rfl rfl rfl (vb_ hb15) rfl) (Eq.refl (some 28)) (o_n (d := 29) (za3 rfl rfl rfl (vb_ hb15) rfl) (Eq.refl (some 29)) (o_n (d := 30) (za3 rfl rfl rfl (vb_ hb15) rfl) (Eq.refl (some 30)) (o_n (d := 31) (za3 rfl rfl rfl (vb_ hb15) rfl) (Eq.refl (some 31)) (o_n (d := 32) (za3 rfl rfl rfl (vb_ hb15) rfl) (Eq.refl (some 32)) (oq_ (zak false (vb_ hb15) rfl) (oq_ (q_asg rfl) (o_end ?_)))))))))
    refine za1 (c_ret ?_)
    have e0_ := si_ h; clear h
    subst e0_
    exact x_r1 () Try.results25 (zad rfl) rfl (pk_ [])
  ·replace h := br_f hb10 h
   refine o_n (d := 19) (za3 rfl rfl rfl (vb_ hb10) rfl) (Eq.refl (some 19)) (o_n (d := 20) (za3 rfl rfl rfl (vb_ hb10) rfl) (Eq.refl (some 20)) (o_n (d := 21) (za3 rfl rfl rfl (vb_ hb10) rfl) (Eq.refl (some 21)) (o_n (d := 22) (za3 rfl rfl rfl (vb_ hb10) rfl) (Eq.refl (some 22)) (o_n (d := 23) (za3 rfl rfl rfl (vb_ hb10) rfl) (Eq.refl (some 23)) (oq_ (zak false (vb_ hb10) rfl) (oq_ (za2 rfl) (o_n (d := 26) (za3 rfl rfl rfl rfl rfl) (Eq.refl (some 26)) (o_n (d := 27) (za3 rfl rfl rfl rfl rfl) (Eq.refl (some 27)) (o_n (d := 28) (za3 rfl rfl rfl rfl rfl) (Eq.refl (some 28)) ?_)))))))))
   refine o_n (d := 29) (za3 rfl rfl rfl rfl rfl) (Eq.refl (some 29)) (o_n (d := 30) (za3 rfl rfl rfl rfl rfl) (Eq.refl (some 30)) (o_n (d := 31) (za3 rfl rfl rfl rfl rfl) (Eq.refl (some 31)) (o_n (d := 32) (za3 rfl rfl rfl rfl rfl) (Eq.refl (some 32)) (oq_ (zak false rfl rfl) (oq_ (q_asg rfl) (o_end (za1 (c_ret ?_))))))))
   have e0_ := si_ h; clear h
   subst e0_
   exact x_r1 () Try.results25 (zad rfl) rfl (pk_ [])
 ·replace h := bb_f hb9 h
  refine o_n (d := 14) (za3 rfl rfl rfl (vb_ hb9) rfl) (Eq.refl (some 14)) (o_n (d := 15) (za3 rfl rfl rfl (vb_ hb9) rfl) (Eq.refl (some 15)) (o_n (d := 16) (za3 rfl rfl rfl (vb_ hb9) rfl) (Eq.refl (some 16)) (oq_ (zak false (vb_ hb9) rfl) (oq_ (za2 rfl) (o_n (d := 19) (za3 rfl rfl rfl rfl rfl) (Eq.refl (some 19)) (o_n (d := 20) (za3 rfl rfl rfl rfl rfl) (Eq.refl (some 20)) (o_n (d := 21) (za3 rfl rfl rfl rfl rfl) (Eq.refl (some 21)) (o_n (d := 22) (za3 rfl rfl rfl rfl rfl) (Eq.refl (some 22)) (o_n (d := 23) (za3 rfl rfl rfl rfl rfl) (Eq.refl (some 23)) ?_)))))))))
  refine oq_ (zak false rfl rfl) (oq_ (za2 rfl) (o_n (d := 26) (za3 rfl rfl rfl rfl rfl) (Eq.refl (some 26)) (o_n (d := 27) (za3 rfl rfl rfl rfl rfl) (Eq.refl (some 27)) (o_n (d := 28) (za3 rfl rfl rfl rfl rfl) (Eq.refl (some 28)) (o_n (d := 29) (za3 rfl rfl rfl rfl rfl) (Eq.refl (some 29)) (o_n (d := 30) (za3 rfl rfl rfl rfl rfl) (Eq.refl (some 30)) (o_n (d := 31) (za3 rfl rfl rfl rfl rfl) (Eq.refl (some 31)) (o_n (d := 32) (za3 rfl rfl rfl rfl rfl) (Eq.refl (some 32)) (oq_ (zak false rfl rfl) ?_)))))))))
  refine oq_ (q_asg rfl) (o_end (za1 (c_ret ?_)))
  have e0_ := si_ h; clear h
  subst e0_
  exact x_r1 () Try.results25 (zad rfl) rfl (pk_ [])

def impl_BitLength.f (a0 : Int) : Option (Int × Bool) := (impl_isNumber.f a0).bind fun b2 => if b2 = true then ((math_bits_Len.f (IntKind.u64.wrap a0)).bind fun i5 => some (i5, true)) else (some (0, false))
theorem impl_BitLength.calls {w0 ws : World} {P0 : Nat → Prop} (a0 : Int) (Z : Below w0.heap.size w0 ws) (hF : Fr w0 ws P0 [] ws)  (r_1 : Int) (r_2 : Bool) (h : impl_BitLength.f a0 = some (r_1, r_2)) :
  Calls Try.prog 36 #[.int .i64 a0] ws (Post1 w0 ws P0 (fun (_ : Unit) => .tuple #[.int .i64 r_1, .bool r_2]) (fun (_ : Unit) => [])) := by
 unfold impl_BitLength.f at h
 refine enter Try.func36 rfl Try.ntmps36 rfl hF (c_seq (za0 (oq_ (q_asg rfl) (oq_ (q_asg rfl) (o_end (za1 (c_seq (c_seq (za0 ?_)))))))))
 refine oq_ (za2 rfl) (za6 h (fun b2 hx1 h => ?_) rfl)
 refine o_e rfl (za5 0 Z Try.func74 N74 rfl rfl rfl (fun w P1 hF hB hS hT => impl_isNumber.calls a0 hB hF _ hx1)) (fun _ => oq_ (q_not rfl) (o_end (za1 (zan _ rfl (fun hb3 => ?_) (fun hb3 => ?_)))))
 ·replace hb3 := nt_t hb3
  replace h := bb_f hb3 h
  refine c_seq (za0 (oq_ (q_asg rfl) (oq_ (q_asg rfl) (o_end (za1 (c_ret (zaa ?_)))))))
  have e0_ := si_ h; clear h
  obtain ⟨rfl, e1_⟩ := Prod.mk.inj e0_
  subst e1_
  exact x_r2 () Try.results36 (zad rfl) (zad rfl) rfl (pk_ [])
 ·replace hb3 := nt_f hb3
  replace h := bb_t hb3 h
  refine zai (za1 (c_seq (za0 (oq_ (za2 rfl) (oq_ (q_conv (by rw [Try.underlying3]; rfl) Try.underlying89 rfl) (za6 h (fun i5 hx4 h => ?_) rfl))))))
  refine o_e rfl (za5 0 Z Try.func82 N82 rfl rfl rfl (fun w P1 hF hB hS hT => math_bits_Len.calls (IntKind.u64.wrap a0) hB hF _ hx4)) (fun _ => oq_ (q_asg rfl) (oq_ (q_asg rfl) (o_end (za1 (c_ret ?_)))))
  have e0_ := si_ h; clear h
  obtain ⟨rfl, e1_⟩ := Prod.mk.inj e0_
  subst e1_
  exact x_r2 () Try.results36 (zad rfl) (zad rfl) rfl (pk_ [])

def math_bits_OnesCount64.f (a0 : Int) : Option Unit := some ()
theorem math_bits_OnesCount64.calls {w0 ws : World} {P0 : Nat → Prop} (a0 : Int) (Z : Below w0.heap.size w0 ws) (hF : Fr w0 ws P0 [] ws)   (h : math_bits_OnesCount64.f a0 = some ()) :
  Calls Try.prog 126 #[.int .u64 a0] ws (Post1 w0 ws P0 (fun (_ : Unit) => .int .i64 (Go.bits .and .i64 (w64 (IntKind.u64.wrap (IntKind.u64.wrap (IntKind.u64.wrap (Go.bits .and .u64 (IntKind.u64.wrap ((IntKind.u64.wrap (Go.bits .and .u64 ((IntKind.u64.wrap (Go.bits .and .u64 (a0 / 2 ^ min (1 : Int).toNat IntKind.u64.bits) 6148914691236517205 + (Go.bits .and .u64 a0 6148914691236517205))) / 2 ^ min (2 : Int).toNat IntKind.u64.bits) 3689348814741910323 + (Go.bits .and .u64 (IntKind.u64.wrap (Go.bits .and .u64 (a0 / 2 ^ min (1 : Int).toNat IntKind.u64.bits) 6148914691236517205 + (Go.bits .and .u64 a0 6148914691236517205))) 3689348814741910323))) / 2 ^ min (4 : Int).toNat IntKind.u64.bits + (IntKind.u64.wrap (Go.bits .and .u64 ((IntKind.u64.wrap (Go.bits .and .u64 (a0 / 2 ^ min (1 : Int).toNat IntKind.u64.bits) 6148914691236517205 + (Go.bits .and .u64 a0 6148914691236517205))) / 2 ^ min (2 : Int).toNat IntKind.u64.bits) 3689348814741910323 + (Go.bits .and .u64 (IntKind.u64.wrap (Go.bits .and .u64 (a0 / 2 ^ min (1 : Int).toNat IntKind.u64.bits) 6148914691236517205 + (Go.bits .and .u64 a0 6148914691236517205))) 3689348814741910323))))) 1085102592571150095 + ((Go.bits .and .u64 (IntKind.u64.wrap ((IntKind.u64.wrap (Go.bits .and .u64 ((IntKind.u64.wrap (Go.bits .and .u64 (a0 / 2 ^ min (1 : Int).toNat IntKind.u64.bits) 6148914691236517205 + (Go.bits .and .u64 a0 6148914691236517205))) / 2 ^ min (2 : Int).toNat IntKind.u64.bits) 3689348814741910323 + (Go.bits .and .u64 (IntKind.u64.wrap (Go.bits .and .u64 (a0 / 2 ^ min (1 : Int).toNat IntKind.u64.bits) 6148914691236517205 + (Go.bits .and .u64 a0 6148914691236517205))) 3689348814741910323))) / 2 ^ min (4 : Int).toNat IntKind.u64.bits + (IntKind.u64.wrap (Go.bits .and .u64 ((IntKind.u64.wrap (Go.bits .and .u64 (a0 / 2 ^ min (1 : Int).toNat IntKind.u64.bits) 6148914691236517205 + (Go.bits .and .u64 a0 6148914691236517205))) / 2 ^ min (2 : Int).toNat IntKind.u64.bits) 3689348814741910323 + (Go.bits .and .u64 (IntKind.u64.wrap (Go.bits .and .u64 (a0 / 2 ^ min (1 : Int).toNat IntKind.u64.bits) 6148914691236517205 + (Go.bits .and .u64 a0 6148914691236517205))) 3689348814741910323))))) 1085102592571150095) / 2 ^ min (8 : Int).toNat IntKind.u64.bits)) + ((IntKind.u64.wrap (Go.bits .and .u64 (IntKind.u64.wrap ((IntKind.u64.wrap (Go.bits .and .u64 ((IntKind.u64.wrap (Go.bits .and .u64 (a0 / 2 ^ min (1 : Int).toNat IntKind.u64.bits) 6148914691236517205 + (Go.bits .and .u64 a0 6148914691236517205))) / 2 ^ min (2 : Int).toNat IntKind.u64.bits) 3689348814741910323 + (Go.bits .and .u64 (IntKind.u64.wrap (Go.bits .and .u64 (a0 / 2 ^ min (1 : Int).toNat IntKind.u64.bits) 6148914691236517205 + (Go.bits .and .u64 a0 6148914691236517205))) 3689348814741910323))) / 2 ^ min (4 : Int).toNat IntKind.u64.bits + (IntKind.u64.wrap (Go.bits .and .u64 ((IntKind.u64.wrap (Go.bits .and .u64 (a0 / 2 ^ min (1 : Int).toNat IntKind.u64.bits) 6148914691236517205 + (Go.bits .and .u64 a0 6148914691236517205))) / 2 ^ min (2 : Int).toNat IntKind.u64.bits) 3689348814741910323 + (Go.bits .and .u64 (IntKind.u64.wrap (Go.bits .and .u64 (a0 / 2 ^ min (1 : Int).toNat IntKind.u64.bits) 6148914691236517205 + (Go.bits .and .u64 a0 6148914691236517205))) 3689348814741910323))))) 1085102592571150095 + ((Go.bits .and .u64 (IntKind.u64.wrap ((IntKind.u64.wrap (Go.bits .and .u64 ((IntKind.u64.wrap (Go.bits .and .u64 (a0 / 2 ^ min (1 : Int).toNat IntKind.u64.bits) 6148914691236517205 + (Go.bits .and .u64 a0 6148914691236517205))) / 2 ^ min (2 : Int).toNat IntKind.u64.bits) 3689348814741910323 + (Go.bits .and .u64 (IntKind.u64.wrap (Go.bits .and .u64 (a0 / 2 ^ min (1 : Int).toNat IntKind.u64.bits) 6148914691236517205 + (Go.bits .and .u64 a0 6148914691236517205))) 3689348814741910323))) / 2 ^ min (4 : Int).toNat IntKind.u64.bits + (IntKind.u64.wrap (Go.bits .and .u64 ((IntKind.u64.wrap (Go.bits .and .u64 (a0 / 2 ^ min (1 : Int).toNat IntKind.u64.bits) 6148914691236517205 + (Go.bits .and .u64 a0 6148914691236517205))) / 2 ^ min (2 : Int).toNat IntKind.u64.bits) 3689348814741910323 + (Go.bits .and .u64 (IntKind.u64.wrap (Go.bits .and .u64 (a0 / 2 ^ min (1 : Int).toNat IntKind.u64.bits) 6148914691236517205 + (Go.bits .and .u64 a0 6148914691236517205))) 3689348814741910323))))) 1085102592571150095) / 2 ^ min (8 : Int).toNat IntKind.u64.bits))) / 2 ^ min (16 : Int).toNat IntKind.u64.bits)) + ((IntKind.u64.wrap (IntKind.u64.wrap (Go.bits .and .u64 (IntKind.u64.wrap ((IntKind.u64.wrap (Go.bits .and .u64 ((IntKind.u64.wrap (Go.bits .and .u64 (a0 / 2 ^ min (1 : Int).toNat IntKind.u64.bits) 6148914691236517205 + (Go.bits .and .u64 a0 6148914691236517205))) / 2 ^ min (2 : Int).toNat IntKind.u64.bits) 3689348814741910323 + (Go.bits .and .u64 (IntKind.u64.wrap (Go.bits .and .u64 (a0 / 2 ^ min (1 : Int).toNat IntKind.u64.bits) 6148914691236517205 + (Go.bits .and .u64 a0 6148914691236517205))) 3689348814741910323))) / 2 ^ min (4 : Int).toNat IntKind.u64.bits + (IntKind.u64.wrap (Go.bits .and .u64 ((IntKind.u64.wrap (Go.bits .and .u64 (a0 / 2 ^ min (1 : Int).toNat IntKind.u64.bits) 6148914691236517205 + (Go.bits .and .u64 a0 6148914691236517205))) / 2 ^ min (2 : Int).toNat IntKind.u64.bits) 3689348814741910323 + (Go.bits .and .u64 (IntKind.u64.wrap (Go.bits .and .u64 (a0 / 2 ^ min (1 : Int).toNat IntKind.u64.bits) 6148914691236517205 + (Go.bits .and .u64 a0 6148914691236517205))) 3689348814741910323))))) 1085102592571150095 + ((Go.bits .and .u64 (IntKind.u64.wrap ((IntKind.u64.wrap (Go.bits .and .u64 ((IntKind.u64.wrap (Go.bits .and .u64 (a0 / 2 ^ min (1 : Int).toNat IntKind.u64.bits) 6148914691236517205 + (Go.bits .and .u64 a0 6148914691236517205))) / 2 ^ min (2 : Int).toNat IntKind.u64.bits) 3689348814741910323 + (Go.bits .and .u64 (IntKind.u64.wrap (Go.bits .and .u64 (a0 / 2 ^ min (1 : Int).toNat IntKind.u64.bits) 6148914691236517205 + (Go.bits .and .u64 a0 6148914691236517205))) 3689348814741910323))) / 2 ^ min (4 : Int).toNat IntKind.u64.bits + (IntKind.u64.wrap (Go.bits .and .u64 ((IntKind.u64.wrap (Go.bits .and .u64 (a0 / 2 ^ min (1 : Int).toNat IntKind.u64.bits) 6148914691236517205 + (Go.bits .and .u64 a0 6148914691236517205))) / 2 ^ min (2 : Int).toNat IntKind.u64.bits) 3689348814741910323 + (Go.bits .and .u64 (IntKind.u64.wrap (Go.bits .and .u64 (a0 / 2 ^ min (1 : Int).toNat IntKind.u64.bits) 6148914691236517205 + (Go.bits .and .u64 a0 6148914691236517205))) 3689348814741910323))))) 1085102592571150095) / 2 ^ min (8 : Int).toNat IntKind.u64.bits)) + ((IntKind.u64.wrap (Go.bits .and .u64 (IntKind.u64.wrap ((IntKind.u64.wrap (Go.bits .and .u64 ((IntKind.u64.wrap (Go.bits .and .u64 (a0 / 2 ^ min (1 : Int).toNat IntKind.u64.bits) 6148914691236517205 + (Go.bits .and .u64 a0 6148914691236517205))) / 2 ^ min (2 : Int).toNat IntKind.u64.bits) 3689348814741910323 + (Go.bits .and .u64 (IntKind.u64.wrap (Go.bits .and .u64 (a0 / 2 ^ min (1 : Int).toNat IntKind.u64.bits) 6148914691236517205 + (Go.bits .and .u64 a0 6148914691236517205))) 3689348814741910323))) / 2 ^ min (4 : Int).toNat IntKind.u64.bits + (IntKind.u64.wrap (Go.bits .and .u64 ((IntKind.u64.wrap (Go.bits .and .u64 (a0 / 2 ^ min (1 : Int).toNat IntKind.u64.bits) 6148914691236517205 + (Go.bits .and .u64 a0 6148914691236517205))) / 2 ^ min (2 : Int).toNat IntKind.u64.bits) 3689348814741910323 + (Go.bits .and .u64 (IntKind.u64.wrap (Go.bits .and .u64 (a0 / 2 ^ min (1 : Int).toNat IntKind.u64.bits) 6148914691236517205 + (Go.bits .and .u64 a0 6148914691236517205))) 3689348814741910323))))) 1085102592571150095 + ((Go.bits .and .u64 (IntKind.u64.wrap ((IntKind.u64.wrap (Go.bits .and .u64 ((IntKind.u64.wrap (Go.bits .and .u64 (a0 / 2 ^ min (1 : Int).toNat IntKind.u64.bits) 6148914691236517205 + (Go.bits .and .u64 a0 6148914691236517205))) / 2 ^ min (2 : Int).toNat IntKind.u64.bits) 3689348814741910323 + (Go.bits .and .u64 (IntKind.u64.wrap (Go.bits .and .u64 (a0 / 2 ^ min (1 : Int).toNat IntKind.u64.bits) 6148914691236517205 + (Go.bits .and .u64 a0 6148914691236517205))) 3689348814741910323))) / 2 ^ min (4 : Int).toNat IntKind.u64.bits + (IntKind.u64.wrap (Go.bits .and .u64 ((IntKind.u64.wrap (Go.bits .and .u64 (a0 / 2 ^ min (1 : Int).toNat IntKind.u64.bits) 6148914691236517205 + (Go.bits .and .u64 a0 6148914691236517205))) / 2 ^ min (2 : Int).toNat IntKind.u64.bits) 3689348814741910323 + (Go.bits .and .u64 (IntKind.u64.wrap (Go.bits .and .u64 (a0 / 2 ^ min (1 : Int).toNat IntKind.u64.bits) 6148914691236517205 + (Go.bits .and .u64 a0 6148914691236517205))) 3689348814741910323))))) 1085102592571150095) / 2 ^ min (8 : Int).toNat IntKind.u64.bits))) / 2 ^ min (16 : Int).toNat IntKind.u64.bits))) / 2 ^ min (32 : Int).toNat IntKind.u64.bits)))) 127)) (fun (_ : Unit) => [])) := by
 unfold math_bits_OnesCount64.f at h
 refine enter Try.func126 rfl Try.ntmps126 rfl hF (c_seq (za0 (oq_ (q_asg rfl) (o_end (za1 (c_seq (za0 (oq_ (za2 rfl) (oq_ (q_shr rfl rfl dc_) ?_)))))))))
 refine oq_ (q_and rfl rfl) (oq_ (za2 rfl) (oq_ (q_and rfl rfl) (oq_ (q_add rfl rfl) (oq_ (q_asg rfl) (o_end (za1 (c_seq (za0 (oq_ (za2 rfl) ?_)))))))))
 refine oq_ (q_shr rfl rfl dc_) (oq_ (q_and rfl rfl) (oq_ (za2 rfl) (oq_ (q_and rfl rfl) (oq_ (q_add rfl rfl) (oq_ (q_asg rfl) (o_end (za1 (c_seq (za0 ?_)))))))))
 refine oq_ (za2 rfl) (oq_ (q_shr rfl rfl dc_) (oq_ (za2 rfl) (oq_ (q_add rfl rfl) (oq_ (q_and rfl rfl) (oq_ (q_asg rfl) (o_end (za1 (c_seq (za0 ?_)))))))))
 refine oq_ (za2 rfl) (oq_ (za2 rfl) (oq_ (q_shr rfl rfl dc_) (oq_ (q_add rfl rfl) (oq_ (q_asg rfl) (o_end (za1 (c_seq (za0 (oq_ (za2 rfl) ?_)))))))))
 refine oq_ (za2 rfl) (oq_ (q_shr rfl rfl dc_) (oq_ (q_add rfl rfl) (oq_ (q_asg rfl) (o_end (za1 (c_seq (za0 (oq_ (za2 rfl) (oq_ (za2 rfl) ?_)))))))))
 refine oq_ (q_shr rfl rfl dc_) (oq_ (q_add rfl rfl) (oq_ (q_asg rfl) (o_end (za1 (c_seq (za0 (oq_ (za2 rfl) (oq_ (q_conv (by rw [Try.underlying82]; rfl) Try.underlying3 rfl) (oq_ (q_and rfl rfl) ?_)))))))))
 refine oq_ (q_asg rfl) (o_end (za1 (c_ret ?_)))
 exact x_r1 () Try.results126 (zad rfl) rfl (pk_ [])

def math_bits_OnesCount.f (a0 : Int) : Option Unit := (math_bits_OnesCount64.f a0).bind fun _ => some ()
theorem math_bits_OnesCount.calls {w0 ws : World} {P0 : Nat → Prop} (a0 : Int) (Z : Below w0.heap.size w0 ws) (hF : Fr w0 ws P0 [] ws)   (h : math_bits_OnesCount.f a0 = some ()) :
  Calls Try.prog 75 #[.int .u64 a0] ws (Post1 w0 ws P0 (fun (_ : Unit) => .int .i64 (Go.bits .and .i64 (w64 (IntKind.u64.wrap (IntKind.u64.wrap (IntKind.u64.wrap (Go.bits .and .u64 (IntKind.u64.wrap ((IntKind.u64.wrap (Go.bits .and .u64 ((IntKind.u64.wrap (Go.bits .and .u64 (a0 / 2 ^ min (1 : Int).toNat IntKind.u64.bits) 6148914691236517205 + (Go.bits .and .u64 a0 6148914691236517205))) / 2 ^ min (2 : Int).toNat IntKind.u64.bits) 3689348814741910323 + (Go.bits .and .u64 (IntKind.u64.wrap (Go.bits .and .u64 (a0 / 2 ^ min (1 : Int).toNat IntKind.u64.bits) 6148914691236517205 + (Go.bits .and .u64 a0 6148914691236517205))) 3689348814741910323))) / 2 ^ min (4 : Int).toNat IntKind.u64.bits + (IntKind.u64.wrap (Go.bits .and .u64 ((IntKind.u64.wrap (Go.bits .and .u64 (a0 / 2 ^ min (1 : Int).toNat IntKind.u64.bits) 6148914691236517205 + (Go.bits .and .u64 a0 6148914691236517205))) / 2 ^ min (2 : Int).toNat IntKind.u64.bits) 3689348814741910323 + (Go.bits .and .u64 (IntKind.u64.wrap (Go.bits .and .u64 (a0 / 2 ^ min (1 : Int).toNat IntKind.u64.bits) 6148914691236517205 + (Go.bits .and .u64 a0 6148914691236517205))) 3689348814741910323))))) 1085102592571150095 + ((Go.bits .and .u64 (IntKind.u64.wrap ((IntKind.u64.wrap (Go.bits .and .u64 ((IntKind.u64.wrap (Go.bits .and .u64 (a0 / 2 ^ min (1 : Int).toNat IntKind.u64.bits) 6148914691236517205 + (Go.bits .and .u64 a0 6148914691236517205))) / 2 ^ min (2 : Int).toNat IntKind.u64.bits) 3689348814741910323 + (Go.bits .and .u64 (IntKind.u64.wrap (Go.bits .and .u64 (a0 / 2 ^ min (1 : Int).toNat IntKind.u64.bits) 6148914691236517205 + (Go.bits .and .u64 a0 6148914691236517205))) 3689348814741910323))) / 2 ^ min (4 : Int).toNat IntKind.u64.bits + (IntKind.u64.wrap (Go.bits .and .u64 ((IntKind.u64.wrap (Go.bits .and .u64 (a0 / 2 ^ min (1 : Int).toNat IntKind.u64.bits) 6148914691236517205 + (Go.bits .and .u64 a0 6148914691236517205))) / 2 ^ min (2 : Int).toNat IntKind.u64.bits) 3689348814741910323 + (Go.bits .and .u64 (IntKind.u64.wrap (Go.bits .and .u64 (a0 / 2 ^ min (1 : Int).toNat IntKind.u64.bits) 6148914691236517205 + (Go.bits .and .u64 a0 6148914691236517205))) 3689348814741910323))))) 1085102592571150095) / 2 ^ min (8 : Int).toNat IntKind.u64.bits)) + ((IntKind.u64.wrap (Go.bits .and .u64 (IntKind.u64.wrap ((IntKind.u64.wrap (Go.bits .and .u64 ((IntKind.u64.wrap (Go.bits .and .u64 (a0 / 2 ^ min (1 : Int).toNat IntKind.u64.bits) 6148914691236517205 + (Go.bits .and .u64 a0 6148914691236517205))) / 2 ^ min (2 : Int).toNat IntKind.u64.bits) 3689348814741910323 + (Go.bits .and .u64 (IntKind.u64.wrap (Go.bits .and .u64 (a0 / 2 ^ min (1 : Int).toNat IntKind.u64.bits) 6148914691236517205 + (Go.bits .and .u64 a0 6148914691236517205))) 3689348814741910323))) / 2 ^ min (4 : Int).toNat IntKind.u64.bits + (IntKind.u64.wrap (Go.bits .and .u64 ((IntKind.u64.wrap (Go.bits .and .u64 (a0 / 2 ^ min (1 : Int).toNat IntKind.u64.bits) 6148914691236517205 + (Go.bits .and .u64 a0 6148914691236517205))) / 2 ^ min (2 : Int).toNat IntKind.u64.bits) 3689348814741910323 + (Go.bits .and .u64 (IntKind.u64.wrap (Go.bits .and .u64 (a0 / 2 ^ min (1 : Int).toNat IntKind.u64.bits) 6148914691236517205 + (Go.bits .and .u64 a0 6148914691236517205))) 3689348814741910323))))) 1085102592571150095 + ((Go.bits .and .u64 (IntKind.u64.wrap ((IntKind.u64.wrap (Go.bits .and .u64 ((IntKind.u64.wrap (Go.bits .and .u64 (a0 / 2 ^ min (1 : Int).toNat IntKind.u64.bits) 6148914691236517205 + (Go.bits .and .u64 a0 6148914691236517205))) / 2 ^ min (2 : Int).toNat IntKind.u64.bits) 3689348814741910323 + (Go.bits .and .u64 (IntKind.u64.wrap (Go.bits .and .u64 (a0 / 2 ^ min (1 : Int).toNat IntKind.u64.bits) 6148914691236517205 + (Go.bits .and .u64 a0 6148914691236517205))) 3689348814741910323))) / 2 ^ min (4 : Int).toNat IntKind.u64.bits + (IntKind.u64.wrap (Go.bits .and .u64 ((IntKind.u64.wrap (Go.bits .and .u64 (a0 / 2 ^ min (1 : Int).toNat IntKind.u64.bits) 6148914691236517205 + (Go.bits .and .u64 a0 6148914691236517205))) / 2 ^ min (2 : Int).toNat IntKind.u64.bits) 3689348814741910323 + (Go.bits .and .u64 (IntKind.u64.wrap (Go.bits .and .u64 (a0 / 2 ^ min (1 : Int).toNat IntKind.u64.bits) 6148914691236517205 + (Go.bits .and .u64 a0 6148914691236517205))) 3689348814741910323))))) 1085102592571150095) / 2 ^ min (8 : Int).toNat IntKind.u64.bits))) / 2 ^ min (16 : Int).toNat IntKind.u64.bits)) + ((IntKind.u64.wrap (IntKind.u64.wrap (Go.bits .and .u64 (IntKind.u64.wrap ((IntKind.u64.wrap (Go.bits .and .u64 ((IntKind.u64.wrap (Go.bits .and .u64 (a0 / 2 ^ min (1 : Int).toNat IntKind.u64.bits) 6148914691236517205 + (Go.bits .and .u64 a0 6148914691236517205))) / 2 ^ min (2 : Int).toNat IntKind.u64.bits) 3689348814741910323 + (Go.bits .and .u64 (IntKind.u64.wrap (Go.bits .and .u64 (a0 / 2 ^ min (1 : Int).toNat IntKind.u64.bits) 6148914691236517205 + (Go.bits .and .u64 a0 6148914691236517205))) 3689348814741910323))) / 2 ^ min (4 : Int).toNat IntKind.u64.bits + (IntKind.u64.wrap (Go.bits .and .u64 ((IntKind.u64.wrap (Go.bits .and .u64 (a0 / 2 ^ min (1 : Int).toNat IntKind.u64.bits) 6148914691236517205 + (Go.bits .and .u64 a0 6148914691236517205))) / 2 ^ min (2 : Int).toNat IntKind.u64.bits) 3689348814741910323 + (Go.bits .and .u64 (IntKind.u64.wrap (Go.bits .and .u64 (a0 / 2 ^ min (1 : Int).toNat IntKind.u64.bits) 6148914691236517205 + (Go.bits .and .u64 a0 6148914691236517205))) 3689348814741910323))))) 1085102592571150095 + ((Go.bits .and .u64 (IntKind.u64.wrap ((IntKind.u64.wrap (Go.bits .and .u64 ((IntKind.u64.wrap (Go.bits .and .u64 (a0 / 2 ^ min (1 : Int).toNat IntKind.u64.bits) 6148914691236517205 + (Go.bits .and .u64 a0 6148914691236517205))) / 2 ^ min (2 : Int).toNat IntKind.u64.bits) 3689348814741910323 + (Go.bits .and .u64 (IntKind.u64.wrap (Go.bits .and .u64 (a0 / 2 ^ min (1 : Int).toNat IntKind.u64.bits) 6148914691236517205 + (Go.bits .and .u64 a0 6148914691236517205))) 3689348814741910323))) / 2 ^ min (4 : Int).toNat IntKind.u64.bits + (IntKind.u64.wrap (Go.bits .and .u64 ((IntKind.u64.wrap (Go.bits .and .u64 (a0 / 2 ^ min (1 : Int).toNat IntKind.u64.bits) 6148914691236517205 + (Go.bits .and .u64 a0 6148914691236517205))) / 2 ^ min (2 : Int).toNat IntKind.u64.bits) 3689348814741910323 + (Go.bits .and .u64 (IntKind.u64.wrap (Go.bits .and .u64 (a0 / 2 ^ min (1 : Int).toNat IntKind.u64.bits) 6148914691236517205 + (Go.bits .and .u64 a0 6148914691236517205))) 3689348814741910323))))) 1085102592571150095) / 2 ^ min (8 : Int).toNat IntKind.u64.bits)) + ((IntKind.u64.wrap (Go.bits .and .u64 (IntKind.u64.wrap ((IntKind.u64.wrap (Go.bits .and .u64 ((IntKind.u64.wrap (Go.bits .and .u64 (a0 / 2 ^ min (1 : Int).toNat IntKind.u64.bits) 6148914691236517205 + (Go.bits .and .u64 a0 6148914691236517205))) / 2 ^ min (2 : Int).toNat IntKind.u64.bits) 3689348814741910323 + (Go.bits .and .u64 (IntKind.u64.wrap (Go.bits .and .u64 (a0 / 2 ^ min (1 : Int).toNat IntKind.u64.bits) 6148914691236517205 + (Go.bits .and .u64 a0 6148914691236517205))) 3689348814741910323))) / 2 ^ min (4 : Int).toNat IntKind.u64.bits + (IntKind.u64.wrap (Go.bits .and .u64 ((IntKind.u64.wrap (Go.bits .and .u64 (a0 / 2 ^ min (1 : Int).toNat IntKind.u64.bits) 6148914691236517205 + (Go.bits .and .u64 a0 6148914691236517205))) / 2 ^ min (2 : Int).toNat IntKind.u64.bits) 3689348814741910323 + (Go.bits .and .u64 (IntKind.u64.wrap (Go.bits .and .u64 (a0 / 2 ^ min (1 : Int).toNat IntKind.u64.bits) 6148914691236517205 + (Go.bits .and .u64 a0 6148914691236517205))) 3689348814741910323))))) 1085102592571150095 + ((Go.bits .and .u64 (IntKind.u64.wrap ((IntKind.u64.wrap (Go.bits .and .u64 ((IntKind.u64.wrap (Go.bits .and .u64 (a0 / 2 ^ min (1 : Int).toNat IntKind.u64.bits) 6148914691236517205 + (Go.bits .and .u64 a0 6148914691236517205))) / 2 ^ min (2 : Int).toNat IntKind.u64.bits) 3689348814741910323 + (Go.bits .and .u64 (IntKind.u64.wrap (Go.bits .and .u64 (a0 / 2 ^ min (1 : Int).toNat IntKind.u64.bits) 6148914691236517205 + (Go.bits .and .u64 a0 6148914691236517205))) 3689348814741910323))) / 2 ^ min (4 : Int).toNat IntKind.u64.bits + (IntKind.u64.wrap (Go.bits .and .u64 ((IntKind.u64.wrap (Go.bits .and .u64 (a0 / 2 ^ min (1 : Int).toNat IntKind.u64.bits) 6148914691236517205 + (Go.bits .and .u64 a0 6148914691236517205))) / 2 ^ min (2 : Int).toNat IntKind.u64.bits) 3689348814741910323 + (Go.bits .and .u64 (IntKind.u64.wrap (Go.bits .and .u64 (a0 / 2 ^ min (1 : Int).toNat IntKind.u64.bits) 6148914691236517205 + (Go.bits .and .u64 a0 6148914691236517205))) 3689348814741910323))))) 1085102592571150095) / 2 ^ min (8 : Int).toNat IntKind.u64.bits))) / 2 ^ min (16 : Int).toNat IntKind.u64.bits))) / 2 ^ min (32 : Int).toNat IntKind.u64.bits)))) 127)) (fun (_ : Unit) => [])) := by
 unfold math_bits_OnesCount.f at h
 refine enter Try.func75 rfl Try.ntmps75 rfl hF (c_seq (za0 (oq_ (q_asg rfl) (o_end (za1 (c_seq (zaz rfl (zai (za1 ?_)))))))))
 refine c_seq (za0 (oq_ (za2 rfl) (za6 h (fun _ hx1 h => ?_) rfl)))
 refine o_e rfl (za5 0 Z Try.func126 N126 rfl rfl rfl (fun w P1 hF hB hS hT => math_bits_OnesCount64.calls a0 hB hF hx1)) (fun _ => oq_ (q_asg rfl) (o_end (za1 (c_ret ?_))))
 exact x_r1 () Try.results75 (zad rfl) rfl (pk_ [])

def impl_DigitSum.f (a0 : Int) : Option (Int × Bool) := (impl_isNumber.f a0).bind fun b2 => if b2 = true then ((math_bits_OnesCount.f (IntKind.u64.wrap a0)).bind fun _ => some (Go.bits .and .i64 (w64 (IntKind.u64.wrap (IntKind.u64.wrap (IntKind.u64.wrap (Go.bits .and .u64 (IntKind.u64.wrap ((IntKind.u64.wrap (Go.bits .and .u64 ((IntKind.u64.wrap (Go.bits .and .u64 ((IntKind.u64.wrap a0) / 2 ^ min (1 : Int).toNat IntKind.u64.bits) 6148914691236517205 + (Go.bits .and .u64 (IntKind.u64.wrap a0) 6148914691236517205))) / 2 ^ min (2 : Int).toNat IntKind.u64.bits) 3689348814741910323 + (Go.bits .and .u64 (IntKind.u64.wrap (Go.bits .and .u64 ((IntKind.u64.wrap a0) / 2 ^ min (1 : Int).toNat IntKind.u64.bits) 6148914691236517205 + (Go.bits .and .u64 (IntKind.u64.wrap a0) 6148914691236517205))) 3689348814741910323))) / 2 ^ min (4 : Int).toNat IntKind.u64.bits + (IntKind.u64.wrap (Go.bits .and .u64 ((IntKind.u64.wrap (Go.bits .and .u64 ((IntKind.u64.wrap a0) / 2 ^ min (1 : Int).toNat IntKind.u64.bits) 6148914691236517205 + (Go.bits .and .u64 (IntKind.u64.wrap a0) 6148914691236517205))) / 2 ^ min (2 : Int).toNat IntKind.u64.bits) 3689348814741910323 + (Go.bits .and .u64 (IntKind.u64.wrap (Go.bits .and .u64 ((IntKind.u64.wrap a0) / 2 ^ min (1 : Int).toNat IntKind.u64.bits) 6148914691236517205 + (Go.bits .and .u64 (IntKind.u64.wrap a0) 6148914691236517205))) 3689348814741910323))))) 1085102592571150095 + ((Go.bits .and .u64 (IntKind.u64.wrap ((IntKind.u64.wrap (Go.bits .and .u64 ((IntKind.u64.wrap (Go.bits .and .u64 ((IntKind.u64.wrap a0) / 2 ^ min (1 : Int).toNat IntKind.u64.bits) 6148914691236517205 + (Go.bits .and .u64 (IntKind.u64.wrap a0) 6148914691236517205))) / 2 ^ min (2 : Int).toNat IntKind.u64.bits) 3689348814741910323 + (Go.bits .and .u64 (IntKind.u64.wrap (Go.bits .and .u64 ((IntKind.u64.wrap a0) / 2 ^ min (1 : Int).toNat IntKind.u64.bits) 6148914691236517205 + (Go.bits .and .u64 (IntKind.u64.wrap a0) 6148914691236517205))) 3689348814741910323))) / 2 ^ min (4 : Int).toNat IntKind.u64.bits + (IntKind.u64.wrap (Go.bits .and .u64 ((IntKind.u64.wrap (Go.bits .and .u64 ((IntKind.u64.wrap a0) / 2 ^ min (1 : Int).toNat IntKind.u64.bits) 6148914691236517205 + (Go.bits .and .u64 (IntKind.u64.wrap a0) 6148914691236517205))) / 2 ^ min (2 : Int).toNat IntKind.u64.bits) 3689348814741910323 + (Go.bits .and .u64 (IntKind.u64.wrap (Go.bits .and .u64 ((IntKind.u64.wrap a0) / 2 ^ min (1 : Int).toNat IntKind.u64.bits) 6148914691236517205 + (Go.bits .and .u64 (IntKind.u64.wrap a0) 6148914691236517205))) 3689348814741910323))))) 1085102592571150095) / 2 ^ min (8 : Int).toNat IntKind.u64.bits)) + ((IntKind.u64.wrap (Go.bits .and .u64 (IntKind.u64.wrap ((IntKind.u64.wrap (Go.bits .and .u64 ((IntKind.u64.wrap (Go.bits .and .u64 ((IntKind.u64.wrap a0) / 2 ^ min (1 : Int).toNat IntKind.u64.bits) 6148914691236517205 + (Go.bits .and .u64 (IntKind.u64.wrap a0) 6148914691236517205))) / 2 ^ min (2 : Int).toNat IntKind.u64.bits) 3689348814741910323 + (Go.bits .and .u64 (IntKind.u64.wrap (Go.bits .and .u64 ((IntKind.u64.wrap a0) / 2 ^ min (1 : Int).toNat IntKind.u64.bits) 6148914691236517205 + (Go.bits .and .u64 (IntKind.u64.wrap a0) 6148914691236517205))) 3689348814741910323))) / 2 ^ min (4 : Int).toNat IntKind.u64.bits + (IntKind.u64.wrap (Go.bits .and .u64 ((IntKind.u64.wrap (Go.bits .and .u64 ((IntKind.u64.wrap a0) / 2 ^ min (1 : Int).toNat IntKind.u64.bits) 6148914691236517205 + (Go.bits .and .u64 (IntKind.u64.wrap a0) 6148914691236517205))) / 2 ^ min (2 : Int).toNat IntKind.u64.bits) 3689348814741910323 + (Go.bits .and .u64 (IntKind.u64.wrap (Go.bits .and .u64 ((IntKind.u64.wrap a0) / 2 ^ min (1 : Int).toNat IntKind.u64.bits) 6148914691236517205 + (Go.bits .and .u64 (IntKind.u64.wrap a0) 6148914691236517205))) 3689348814741910323))))) 1085102592571150095 + ((Go.bits .and .u64 (IntKind.u64.wrap ((IntKind.u64.wrap (Go.bits .and .u64 ((IntKind.u64.wrap (Go.bits .and .u64 ((IntKind.u64.wrap a0) / 2 ^ min (1 : Int).toNat IntKind.u64.bits) 6148914691236517205 + (Go.bits .and .u64 (IntKind.u64.wrap a0) 6148914691236517205))) / 2 ^ min (2 : Int).toNat IntKind.u64.bits) 3689348814741910323 + (Go.bits .and .u64 (IntKind.u64.wrap (Go.bits .and .u64 ((IntKind.u64.wrap a0) / 2 ^ min (1 : Int).toNat IntKind.u64.bits) 6148914691236517205 + (Go.bits .and .u64 (IntKind.u64.wrap a0) 6148914691236517205))) 3689348814741910323))) / 2 ^ min (4 : Int).toNat IntKind.u64.bits + (IntKind.u64.wrap (Go.bits .and .u64 ((IntKind.u64.wrap (Go.bits .and .u64 ((IntKind.u64.wrap a0) / 2 ^ min (1 : Int).toNat IntKind.u64.bits) 6148914691236517205 + (Go.bits .and .u64 (IntKind.u64.wrap a0) 6148914691236517205))) / 2 ^ min (2 : Int).toNat IntKind.u64.bits) 3689348814741910323 + (Go.bits .and .u64 (IntKind.u64.wrap (Go.bits .and .u64 ((IntKind.u64.wrap a0) / 2 ^ min (1 : Int).toNat IntKind.u64.bits) 6148914691236517205 + (Go.bits .and .u64 (IntKind.u64.wrap a0) 6148914691236517205))) 3689348814741910323))))) 1085102592571150095) / 2 ^ min (8 : Int).toNat IntKind.u64.bits))) / 2 ^ min (16 : Int).toNat IntKind.u64.bits)) + ((IntKind.u64.wrap (IntKind.u64.wrap (Go.bits .and .u64 (IntKind.u64.wrap ((IntKind.u64.wrap (Go.bits .and .u64 ((IntKind.u64.wrap (Go.bits .and .u64 ((IntKind.u64.wrap a0) / 2 ^ min (1 : Int).toNat IntKind.u64.bits) 6148914691236517205 + (Go.bits .and .u64 (IntKind.u64.wrap a0) 6148914691236517205))) / 2 ^ min (2 : Int).toNat IntKind.u64.bits) 3689348814741910323 + (Go.bits .and .u64 (IntKind.u64.wrap (Go.bits .and .u64 ((IntKind.u64.wrap a0) / 2 ^ min (1 : Int).toNat IntKind.u64.bits) 6148914691236517205 + (Go.bits .and .u64 (IntKind.u64.wrap a0) 6148914691236517205))) 3689348814741910323))) / 2 ^ min (4 : Int).toNat IntKind.u64.bits + (IntKind.u64.wrap (Go.bits .and .u64 ((IntKind.u64.wrap (Go.bits .and .u64 ((IntKind.u64.wrap a0) / 2 ^ min (1 : Int).toNat IntKind.u64.bits) 6148914691236517205 + (Go.bits .and .u64 (IntKind.u64.wrap a0) 6148914691236517205))) / 2 ^ min (2 : Int).toNat IntKind.u64.bits) 3689348814741910323 + (Go.bits .and .u64 (IntKind.u64.wrap (Go.bits .and .u64 ((IntKind.u64.wrap a0) / 2 ^ min (1 : Int).toNat IntKind.u64.bits) 6148914691236517205 + (Go.bits .and .u64 (IntKind.u64.wrap a0) 6148914691236517205))) 3689348814741910323))))) 1085102592571150095 + ((Go.bits .and .u64 (IntKind.u64.wrap ((IntKind.u64.wrap (Go.bits .and .u64 ((IntKind.u64.wrap (Go.bits .and .u64 ((IntKind.u64.wrap a0) / 2 ^ min (1 : Int).toNat IntKind.u64.bits) 6148914691236517205 + (Go.bits .and .u64 (IntKind.u64.wrap a0) 6148914691236517205))) / 2 ^ min (2 : Int).toNat IntKind.u64.bits) 3689348814741910323 + (Go.bits .and .u64 (IntKind.u64.wrap (Go.bits .and .u64 ((IntKind.u64.wrap a0) / 2 ^ min (1 : Int).toNat IntKind.u64.bits) 6148914691236517205 + (Go.bits .and .u64 (IntKind.u64.wrap a0) 6148914691236517205))) 3689348814741910323))) / 2 ^ min (4 : Int).toNat IntKind.u64.bits + (IntKind.u64.wrap (Go.bits .and .u64 ((IntKind.u64.wrap (Go.bits .and .u64 ((IntKind.u64.wrap a0) / 2 ^ min (1 : Int).toNat IntKind.u64.bits) 6148914691236517205 + (Go.bits .and .u64 (IntKind.u64.wrap a0) 6148914691236517205))) / 2 ^ min (2 : Int).toNat IntKind.u64.bits) 3689348814741910323 + (Go.bits .and .u64 (IntKind.u64.wrap (Go.bits .and .u64 ((IntKind.u64.wrap a0) / 2 ^ min (1 : Int).toNat IntKind.u64.bits) 6148914691236517205 + (Go.bits .and .u64 (IntKind.u64.wrap a0) 6148914691236517205))) 3689348814741910323))))) 1085102592571150095) / 2 ^ min (8 : Int).toNat IntKind.u64.bits)) + ((IntKind.u64.wrap (Go.bits .and .u64 (IntKind.u64.wrap ((IntKind.u64.wrap (Go.bits .and .u64 ((IntKind.u64.wrap (Go.bits .and .u64 ((IntKind.u64.wrap a0) / 2 ^ min (1 : Int).toNat IntKind.u64.bits) 6148914691236517205 + (Go.bits .and .u64 (IntKind.u64.wrap a0) 6148914691236517205))) / 2 ^ min (2 : Int).toNat IntKind.u64.bits) 3689348814741910323 + (Go.bits .and .u64 (IntKind.u64.wrap (Go.bits .and .u64 ((IntKind.u64.wrap a0) / 2 ^ min (1 : Int).toNat IntKind.u64.bits) 6148914691236517205 + (Go.bits .and .u64 (IntKind.u64.wrap a0) 6148914691236517205))) 3689348814741910323))) / 2 ^ min (4 : Int).toNat IntKind.u64.bits + (IntKind.u64.wrap (Go.bits .and .u64 ((IntKind.u64.wrap (Go.bits .and .u64 ((IntKind.u64.wrap a0) / 2 ^ min (1 : Int).toNat IntKind.u64.bits) 6148914691236517205 + (Go.bits .and .u64 (IntKind.u64.wrap a0) 6148914691236517205))) / 2 ^ min (2 : Int).toNat IntKind.u64.bits) 3689348814741910323 + (Go.bits .and .u64 (IntKind.u64.wrap (Go.bits .and .u64 ((IntKind.u64.wrap a0) / 2 ^ min (1 : Int).toNat IntKind.u64.bits) 6148914691236517205 + (Go.bits .and .u64 (IntKind.u64.wrap a0) 6148914691236517205))) 3689348814741910323))))) 1085102592571150095 + ((Go.bits .and .u64 (IntKind.u64.wrap ((IntKind.u64.wrap (Go.bits .and .u64 ((IntKind.u64.wrap (Go.bits .and .u64 ((IntKind.u64.wrap a0) / 2 ^ min (1 : Int).toNat IntKind.u64.bits) 6148914691236517205 + (Go.bits .and .u64 (IntKind.u64.wrap a0) 6148914691236517205))) / 2 ^ min (2 : Int).toNat IntKind.u64.bits) 3689348814741910323 + (Go.bits .and .u64 (IntKind.u64.wrap (Go.bits .and .u64 ((IntKind.u64.wrap a0) / 2 ^ min (1 : Int).toNat IntKind.u64.bits) 6148914691236517205 + (Go.bits .and .u64 (IntKind.u64.wrap a0) 6148914691236517205))) 3689348814741910323))) / 2 ^ min (4 : Int).toNat IntKind.u64.bits + (IntKind.u64.wrap (Go.bits .and .u64 ((IntKind.u64.wrap (Go.bits .and .u64 ((IntKind.u64.wrap a0) / 2 ^ min (1 : Int).toNat IntKind.u64.bits) 6148914691236517205 + (Go.bits .and .u64 (IntKind.u64.wrap a0) 6148914691236517205))) / 2 ^ min (2 : Int).toNat IntKind.u64.bits) 3689348814741910323 + (Go.bits .and .u64 (IntKind.u64.wrap (Go.bits .and .u64 ((IntKind.u64.wrap a0) / 2 ^ min (1 : Int).toNat IntKind.u64.bits) 6148914691236517205 + (Go.bits .and .u64 (IntKind.u64.wrap a0) 6148914691236517205))) 3689348814741910323))))) 1085102592571150095) / 2 ^ min (8 : Int).toNat IntKind.u64.bits))) / 2 ^ min (16 : Int).toNat IntKind.u64.bits))) / 2 ^ min (32 : Int).toNat IntKind.u64.bits)))) 127, true)) else (some (0, false))
theorem impl_DigitSum.calls {w0 ws : World} {P0 : Nat → Prop} (a0 : Int) (Z : Below w0.heap.size w0 ws) (hF : Fr w0 ws P0 [] ws)  (r_1 : Int) (r_2 : Bool) (h : impl_DigitSum.f a0 = some (r_1, r_2)) :
  Calls Try.prog 29 #[.int .i64 a0] ws (Post1 w0 ws P0 (fun (_ : Unit) => .tuple #[.int .i64 r_1, .bool r_2]) (fun (_ : Unit) => [])) := by
 unfold impl_DigitSum.f at h
 refine enter Try.func29 rfl Try.ntmps29 rfl hF (c_seq (za0 (oq_ (q_asg rfl) (oq_ (q_asg rfl) (o_end (za1 (c_seq (c_seq (za0 ?_)))))))))
 refine oq_ (za2 rfl) (za6 h (fun b2 hx1 h => ?_) rfl)
 refine o_e rfl (za5 0 Z Try.func74 N74 rfl rfl rfl (fun w P1 hF hB hS hT => impl_isNumber.calls a0 hB hF _ hx1)) (fun _ => oq_ (q_not rfl) (o_end (za1 (zan _ rfl (fun hb3 => ?_) (fun hb3 => ?_)))))
 ·replace hb3 := nt_t hb3
  replace h := bb_f hb3 h
  refine c_seq (za0 (oq_ (q_asg rfl) (oq_ (q_asg rfl) (o_end (za1 (c_ret (zaa ?_)))))))
  have e0_ := si_ h; clear h
  obtain ⟨rfl, e1_⟩ := Prod.mk.inj e0_
  subst e1_
  exact x_r2 () Try.results29 (zad rfl) (zad rfl) rfl (pk_ [])
 ·replace hb3 := nt_f hb3
  replace h := bb_t hb3 h
  refine zai (za1 (c_seq (za0 (oq_ (za2 rfl) (oq_ (q_conv (by rw [Try.underlying3]; rfl) Try.underlying89 rfl) (za6 h (fun _ hx4 h => ?_) rfl))))))
  refine o_e rfl (za5 0 Z Try.func75 N75 rfl rfl rfl (fun w P1 hF hB hS hT => math_bits_OnesCount.calls (IntKind.u64.wrap a0) hB hF hx4)) (fun _ => oq_ (q_asg rfl) (oq_ (q_asg rfl) (o_end (za1 (c_ret ?_)))))
  have e0_ := si_ h; clear h
  obtain ⟨rfl, e1_⟩ := Prod.mk.inj e0_
  subst e1_
  exact x_r2 () Try.results29 (zad rfl) (zad rfl) rfl (pk_ [])

def impl_BinaryCost.f (k : Nat) (a0 : Int) : Option (Int × Bool) := (impl_BinaryPlan.f k a0).bind fun (i2, l3, l4, b5) => some ((l3.length : Int), b5)
theorem impl_BinaryCost.calls (k : Nat) {w0 ws : World} {P0 : Nat → Prop} (a0 : Int) (Z : Below w0.heap.size w0 ws) (hF : Fr w0 ws P0 [] ws)  (r_1 : Int) (r_2 : Bool) (h : impl_BinaryCost.f k a0 = some (r_1, r_2)) :
  Calls Try.prog 30 #[.int .i64 a0] ws (Post1 w0 ws P0 (fun (_ : Unit) => .tuple #[.int .i64 r_1, .bool r_2]) (fun (_ : Unit) => [])) := by
 unfold impl_BinaryCost.f at h
 refine enter Try.func30 rfl Try.ntmps30 rfl hF (c_seq (za0 (oq_ (q_asg rfl) (oq_ (q_asg rfl) (o_end (za1 (c_seq (za0 (oq_ (za2 rfl) ?_)))))))))
 refine bindE4 h (fun i2 l3 l4 b5 hx1 h => ?_) rfl
 refine o_e rfl (za5 0 Z Try.func32 N32 rfl rfl rfl (fun w P1 hF hB hS hT => impl_BinaryPlan.calls k a0 hB hF _ _ _ _ hx1)) (cur4 (fun A6 c7 A8 c9 => oq_ (za2 rfl) (oq_ (q_ext rfl rfl) (oq_ (q_ext rfl rfl) (o_e rfl (zab V25 rfl) (fun g10 => o_e rfl (zac (i := 0) rfl rfl rfl Z25 rfl rfl) (fun _ => oq_ (q_asg rfl) (o_end (za1 (c_seq ?_))))))))))
 refine za0 (oq_ (q_f F25_1 rfl) (oq_ (q_ldb Y22 rfl (bx_ 0 rfl) rfl) (oq_ (q_len Try.underlying22 rfl) (oq_ (za2 rfl) (oq_ (q_asg rfl) (oq_ (q_asg rfl) (o_end (za1 (c_ret ?_)))))))))
 have e0_ := si_ h; clear h
 obtain ⟨rfl, e1_⟩ := Prod.mk.inj e0_
 subst e1_
 exact x_r2 () Try.results30 (zad rfl) (zad rfl) rfl (pk_ [])

def laws_pHas.l0 (a1 : Int) : (List Int) → Int → Option ((Bool) ⊕ (Unit))
 | [], i1 => some (.inr ())
 | y2 :: ys3, i1 => if y2 = a1 then (some (.inl true)) else (laws_pHas.l0 a1 ys3 (i1 + 1))
def laws_pHas.f (l0 : List Int) (a1 : Int) : Option Bool := (laws_pHas.l0 a1 l0 0).bind fun o_ => match o_ with | .inl r_ => some r_ | .inr _ => some false
theorem laws_pHas.calls {w0 ws : World} {P0 : Nat → Prop} (A0 : Option Addr) (c0 : Nat) (n0 : Nat) (l0 : List Int) (a1 : Int) (Z : Below w0.heap.size w0 ws) (hF : Fr w0 ws P0 [] ws) (R0 : Stable ws P0 (fun w => Kd.C (Kd.int .i64) w A0 n0 l0)) (hc0 : n0 ≤ c0) (r_1 : Bool) (h : laws_pHas.f l0 a1 = some r_1) :
  Calls Try.prog 37 #[.slice A0 n0 c0, .int .i64 a1] ws (Post1 w0 ws P0 (fun (_ : Unit) => .bool r_1) (fun (_ : Unit) => [])) := by
 unfold laws_pHas.f at h
 obtain rfl := (R0 ws (KeptB.refl _ _)).1
 refine enter Try.func37 rfl Try.ntmps37 rfl hF (c_seq (za0 (oq_ (q_asg rfl) (o_end (za1 (c_seq (c_seq (za0 (oq_ (za2 rfl) ?_)))))))))
 refine oq_ (q_len Try.underlying23 rfl) (oq_ (za2 rfl) (o_end (za1 (zae (za6 h (fun o9 hl8 hR7 => ?_) rfl)))))
 clear h
 refine c_fact (p := l0.length ≤ 9223372036854775807) (fun w h => (R0.now Z h).2.1) (fun hm6 => zas (σ := (List Int) × Int) (fun k4 ((ys3, i1) : (List Int) × Int) => Rg l0 i1 ys3 ∧ ys3.length = k4 ∧ laws_pHas.l0 a1 ys3 i1 = some o9) [4, 6, 9, 10, 11, 12, 13, 14, 15, 16] (fun ((ys3, i1) : (List Int) × Int) => [(9, .int .i64 i1)]) (fun ((ys3, i1) : (List Int) × Int) => []) l0.length (l0, 0) ⟨Rg.start _, rfl, hl8⟩ ⟨rfl, trivial⟩ (fun w h => h) (fun k4 => cur2 (listC (fun i1 U10 hJ_ => ?_) (fun y2 ys3 i1 U10 hJ_ => ?_))))
 ·clear hl8
  have hr5 := hJ_.1; have hk11 := hJ_.2.1; have h := hJ_.2.2; clear hJ_
  replace h : laws_pHas.l0 a1 [] i1 = some o9 := h
  rw [laws_pHas.l0] at h
  refine c_seq (za0 (oq_ (q_lss rfl rfl) (o_end (za1 (c_seq (zaz (vb_ hr5.ge) (zax (za7 (za7 ?_)))))))))
  have e_ := si_ h; replace h := hR7; rw [← e_] at h; clear e_
  refine x_hit (za1 (c_seq (za0 (oq_ (q_asg rfl) (o_end (za1 (c_ret ?_)))))))
  have e0_ := si_ h; clear h
  subst e0_
  exact x_r1 () Try.results37 (zad rfl) rfl (pk_ [])
 ·clear hl8
  have hr5 := hJ_.1; have hk11 := hJ_.2.1; have h := hJ_.2.2; clear hJ_
  replace h : laws_pHas.l0 a1 (y2 :: ys3) i1 = some o9 := h
  rw [laws_pHas.l0] at h
  refine c_seq (za0 (oq_ (q_lss rfl rfl) (o_end (za1 (c_seq (zar (vb_ hr5.lt) (zai (za1 (c_seq ?_)))))))))
  refine zae (c_seq (za0 (zaw (p := Sh A0 l0.length l0.length) (fun w h => f_sh (dk := (Kd.int .i64)) h (fun w h => R0.now Z h)) (fun hq12 => oq_ (q_ix Try.underlying23 Z3 rfl rfl hq12 hr5.get) (oq_ (q_lde (off := 0) Y3 rfl rfl (fun w h => R0.now Z h) hr5.get (fun _ _ h => h) rfl) (oq_ (q_asg rfl) (o_end (za1 (c_seq ?_)))))))))
  refine za0 (oq_ (za2 rfl) (oq_ (za2 rfl) (oq_ (q_eql rfl rfl) (o_end (za1 (zan _ rfl (fun hb13 => ?_) (fun hb13 => ?_)))))))
  ·replace h := br_t hb13 h
   refine c_seq (za0 (oq_ (q_asg rfl) (o_end (za1 (c_ret (zao (zaa (zaa ?_))))))))
   have e_ := si_ h; replace h := hR7; rw [← e_] at h; clear e_
   refine zao (zaa ?_)
   have e0_ := si_ h; clear h
   subst e0_
   exact x_r1 () Try.results37 (zad rfl) rfl (pk_ [])
  ·replace h := br_f hb13 h
   refine zai (zaf (za1 (za0 (oq_ (q_up rfl rfl (hr5.up hm6)) (oq_ (za2 rfl) (o_end (zal ys3.length (ys3, i1 + 1) (by rw [← hk11]; exact Nat.lt_succ_self _) ⟨hr5.step, rfl, h⟩ ⟨rfl, trivial⟩ (pk_ []) ?_)))))))
   exact of_

def laws_FnMethods.l0 (l56 : List SStep) : (List Int) → Int → Option ((Bool) ⊕ (Unit))
 | [], i92 => some (.inr ())
 | y93 :: ys94, i92 => if y93 < (l56.length : Int) then (some (.inl false)) else (laws_FnMethods.l0 l56 ys94 (i92 + 1))
def laws_FnMethods.f (k : Nat) (l0 : List Int) (l1 : List Int) : Option Bool := (laws_big.f l0 l1).bind fun b2 => if b2 = true then (some true) else ((spec_DrawMethodCosts.f l0).bind fun i5 => (impl_MethodCosts.f k i5).bind fun (l7, b8) => (spec_MethodCosts.f k i5).bind fun (l12, b13) => if (b8 != b13) = true then (some false) else ((laws_pSameInts.f l7 l12).bind fun b18 => if b18 = true then (if b13 = true then ((impl_BinaryPlan.f k i5).bind fun (i22, l23, l24, b25) => (impl_RightPlan.f k i5).bind fun (i33, l34, l35, b36) => (impl_FactorPlan.f k i5).bind fun (i44, l45, l46, b47) => (impl_BestPlan.f k i5).bind fun (i55, l56, l57, b58) => if b25 = true then (if b36 = true then (if b47 = true then (if b58 = true then ((laws_pEnds.f k i22 l23 l24 i5).bind fun b70 => if b70 = true then ((laws_pEnds.f k i33 l34 l35 i5).bind fun b73 => if b73 = true then ((laws_pEnds.f k i44 l45 l46 i5).bind fun b76 => if b76 = true then ((laws_pEnds.f k i55 l56 l57 i5).bind fun b79 => if b79 = true then (if (l7.length : Int) ≠ 7 then (some false) else ((gt l7 0).bind fun y84 => if (l23.length : Int) ≠ y84 then (some false) else ((gt l7 1).bind fun y87 => if (l34.length : Int) ≠ y87 then (some false) else ((gt l7 6).bind fun y90 => if (l45.length : Int) ≠ y90 then (some false) else ((laws_FnMethods.l0 l56 l7 0).bind fun o_ => match o_ with | .inl r_ => some r_ | .inr _ => (impl_BitLength.f i5).bind fun (i104, b105) => (impl_DigitSum.f i5).bind fun (i107, b108) => (impl_BinaryCost.f k i5).bind fun (i110, b111) => if b105 = true then (if b108 = true then (if b111 = true then ((laws_pHas.f l7 (l56.length : Int)).bind fun b116 => if b116 = true then (if i110 = w64 (w64 (i104 + i107) - 2) then ((gt l7 1).bind fun y120 => if y120 = i110 then (some (decide (w64 (i104 - 1) ≤ (l56.length : Int)))) else (some false)) else (some false)) else (some false)) else (some false)) else (some false)) else (some false)))))) else (some false)) else (some false)) else (some false)) else (some false)) else (some false)) else (some false)) else (some false)) else (some false)) else (some true)) else (some false)))
theorem laws_FnMethods.calls (k : Nat) {w0 ws : World} {P0 : Nat → Prop} (A0 : Option Addr) (c0 : Nat) (n0 : Nat) (l0 : List Int) (A1 : Option Addr) (c1 : Nat) (n1 : Nat) (l1 : List Int) (Z : Below w0.heap.size w0 ws) (hF : Fr w0 ws P0 [] ws) (R0 : Stable ws P0 (fun w => Kd.C (Kd.int .u8) w A0 n0 l0)) (hc0 : n0 ≤ c0) (R1 : Stable ws P0 (fun w => Kd.C (Kd.int .u8) w A1 n1 l1)) (hc1 : n1 ≤ c1) (r_1 : Bool) (h : laws_FnMethods.f k l0 l1 = some r_1) :
  Calls Try.prog 7 #[.slice A0 n0 c0, .slice A1 n1 c1] ws (Post1 w0 ws P0 (fun (_ : Unit) => .bool r_1) (fun (_ : Unit) => [])) := by
 unfold laws_FnMethods.f at h
 obtain rfl := (R0 ws (KeptB.refl _ _)).1
 obtain rfl := (R1 ws (KeptB.refl _ _)).1
 refine enter Try.func7 rfl Try.ntmps7 rfl hF (c_seq (za0 (oq_ (q_asg rfl) (o_end (za1 (c_seq (c_seq (za0 (oq_ (za2 rfl) ?_)))))))))
 refine oq_ (za2 rfl) (za6 h (fun b2 hx1 h => ?_) rfl)
 refine o_e rfl (za5 0 Z Try.func22 N22 rfl rfl rfl (fun w P1 hF hB hS hT => laws_big.calls A0 c0 l0.length l0 A1 c1 l1.length l1 hB hF (hS _ R0) hc0 (hS _ R1) hc1 _ hx1)) (fun _ => o_end (za1 (zan _ rfl (fun hb3 => ?_) (fun hb3 => ?_))))
 ·replace h := bb_t hb3 h
  refine c_seq (za0 (oq_ (q_asg rfl) (o_end (za1 (c_ret (zaa ?_))))))
  have e0_ := si_ h; clear h
  subst e0_
  exact x_r1 () Try.results7 (zad rfl) rfl (pk_ [])
 ·replace h := bb_f hb3 h
  refine zai (za1 (c_seq (za0 (oq_ (za2 rfl) (za6 h (fun i5 hx4 h => ?_) rfl)))))
  refine o_e rfl (za5 0 Z Try.func31 N31 rfl rfl rfl (fun w P1 hF hB hS hT => spec_DrawMethodCosts.calls A0 c0 l0.length l0 hB hF (hS _ R0) hc0 _ hx4)) (fun _ => oq_ (q_asg rfl) (o_end (za1 (c_seq (za0 (oq_ (za2 rfl) (bindE2 h (fun l7 b8 hx6 h => ?_) rfl)))))))
  refine o_e rfl (za5 0 Z Try.func18 N18 rfl rfl rfl (fun w P1 hF hB hS hT => impl_MethodCosts.calls k i5 hB hF _ _ hx6)) (cur2 (fun A9 c10 => oq_ (za2 rfl) (oq_ (q_ext rfl rfl) (oq_ (q_ext rfl rfl) (oq_ (q_asg rfl) (oq_ (q_asg rfl) (o_end (za1 (c_seq (za0 ?_))))))))))
  refine oq_ (za2 rfl) (bindE2 h (fun l12 b13 hx11 h => ?_) rfl)
  refine o_e rfl (za5 0 Z Try.func17 N17 rfl rfl rfl (fun w P1 hF hB hS hT => spec_MethodCosts.calls k i5 hB hF _ _ hx11)) (cur2 (fun A14 c15 => oq_ (za2 rfl) (oq_ (q_ext rfl rfl) (oq_ (q_ext rfl rfl) (oq_ (q_asg rfl) (oq_ (q_asg rfl) (o_end (za1 (c_seq (c_seq ?_))))))))))
  refine za0 (oq_ (za2 rfl) (oq_ (za2 rfl) (oq_ (q_bneq Try.underlying4 rfl rfl) (oq_ (za2 rfl) (byB (b8 != b13) (fun hb16 => ?_) (fun hb16 => ?_))))))
  ·replace h := bb_t hb16 h
   refine o_n (d := 45) (za3 rfl rfl rfl (vb_ hb16) rfl) (Eq.refl (some 45)) (o_n (d := 46) (za3 rfl rfl rfl (vb_ hb16) rfl) (Eq.refl (some 46)) (o_n (d := 47) (za3 rfl rfl rfl (vb_ hb16) rfl) (Eq.refl (some 47)) (o_n (d := 48) (za3 rfl rfl rfl (vb_ hb16) rfl) (Eq.refl (some 48)) (oq_ (zak true (vb_ hb16) rfl) (o_end (za1 (zar rfl (c_seq (za0 ?_)))))))))
   refine oq_ (q_asg rfl) (o_end (za1 (c_ret (zaa ?_))))
   have e0_ := si_ h; clear h
   subst e0_
   exact x_r1 () Try.results7 (zad rfl) rfl (pk_ [])
  ·replace h := bb_f hb16 h
   refine o_w (za4 rfl rfl rfl (vb_ hb16)) rfl (za2 rfl) (o_w (za4 rfl rfl rfl (vb_ hb16)) rfl (za2 rfl) (za6 h (fun b18 hx17 h => ?_) rfl))
   refine o_ew (za4 rfl rfl rfl (vb_ hb16)) (za5 0 Z Try.func28 N28 rfl rfl rfl (fun w P1 hF hB hS hT => laws_pSameInts.calls A9 c10 l7.length l7 A14 c15 l12.length l12 hB hF (hT 1 _ rfl).row (hT 1 _ rfl).cap (hT 0 _ rfl).row (hT 0 _ rfl).cap _ hx17)) (fun _ => o_w (za4 rfl rfl rfl (vb_ hb16)) rfl (q_not rfl) (oq_ (zak false (vb_ hb16) rfl) (o_end (za1 (zan _ rfl (fun hb19 => ?_) (fun hb19 => ?_))))))
   ·replace hb19 := nt_t hb19
    replace h := bb_f hb19 h
    refine c_seq (za0 (oq_ (q_asg rfl) (o_end (za1 (c_ret (zaa ?_))))))
    have e0_ := si_ h; clear h
    subst e0_
    exact x_r1 () Try.results7 (zad rfl) rfl (pk_ [])
   ·replace hb19 := nt_f hb19
    replace h := bb_t hb19 h
    refine zai (za1 (c_seq (c_seq (za0 (oq_ (za2 rfl) (oq_ (q_not rfl) (o_end (za1 (zan _ rfl (fun hb20 => ?_) (fun hb20 => ?_))))))))))
    ·replace hb20 := nt_t hb20
     replace h := bb_f hb20 h
     refine c_seq (za0 (oq_ (q_asg rfl) (o_end (za1 (c_ret (zaa ?_))))))
     have e0_ := si_ h; clear h
     subst e0_
     exact x_r1 () Try.results7 (zad rfl) rfl (pk_ [])
    ·replace hb20 := nt_f hb20
     replace h := bb_t hb20 h
     refine zai (za1 (c_seq (za0 (oq_ (za2 rfl) (bindE4 h (fun i22 l23 l24 b25 hx21 h => ?_) rfl)))))
     refine o_e rfl (za5 0 Z Try.func32 N32 rfl rfl rfl (fun w P1 hF hB hS hT => impl_BinaryPlan.calls k i5 hB hF _ _ _ _ hx21)) (cur4 (fun A26 c27 A28 c29 => oq_ (za2 rfl) (oq_ (q_ext rfl rfl) (oq_ (q_ext rfl rfl) (o_e rfl (zab V25 rfl) (fun g30 => o_e rfl (zac (i := 0) rfl rfl rfl Z25 rfl rfl) (fun _ => oq_ (q_asg rfl) (o_end (za1 (c_seq ?_))))))))))
     refine za0 (oq_ (za2 rfl) (bindE4 h (fun i33 l34 l35 b36 hx32 h => ?_) rfl))
     refine o_e rfl (za5 0 Z Try.func33 N33 rfl rfl rfl (fun w P1 hF hB hS hT => impl_RightPlan.calls k i5 hB hF _ _ _ _ hx32)) (cur4 (fun A37 c38 A39 c40 => oq_ (za2 rfl) (oq_ (q_ext rfl rfl) (oq_ (q_ext rfl rfl) (o_e rfl (zab V25 rfl) (fun g41 => o_e rfl (zac (i := 0) rfl rfl rfl Z25 rfl rfl) (fun _ => oq_ (q_asg rfl) (o_end (za1 (c_seq ?_))))))))))
     refine za0 (oq_ (za2 rfl) (bindE4 h (fun i44 l45 l46 b47 hx43 h => ?_) rfl))
     refine o_e rfl (za5 0 Z Try.func34 N34 rfl rfl rfl (fun w P1 hF hB hS hT => impl_FactorPlan.calls k i5 hB hF _ _ _ _ hx43)) (cur4 (fun A48 c49 A50 c51 => oq_ (za2 rfl) (oq_ (q_ext rfl rfl) (oq_ (q_ext rfl rfl) (o_e rfl (zab V25 rfl) (fun g52 => o_e rfl (zac (i := 0) rfl rfl rfl Z25 rfl rfl) (fun _ => oq_ (q_asg rfl) (o_end (za1 (c_seq ?_))))))))))
     refine za0 (oq_ (za2 rfl) (bindE4 h (fun i55 l56 l57 b58 hx54 h => ?_) rfl))
     refine o_e rfl (za5 0 Z Try.func35 N35 rfl rfl rfl (fun w P1 hF hB hS hT => impl_BestPlan.calls k i5 hB hF _ _ _ _ hx54)) (cur4 (fun A59 c60 A61 c62 => oq_ (za2 rfl) (oq_ (q_ext rfl rfl) (oq_ (q_ext rfl rfl) (o_e rfl (zab V25 rfl) (fun g63 => o_e rfl (zac (i := 0) rfl rfl rfl Z25 rfl rfl) (fun _ => oq_ (q_asg rfl) (o_end (za1 (c_seq ?_))))))))))
     refine c_seq (za0 (oq_ (za2 rfl) (oq_ (q_not rfl) (oq_ (za2 rfl) (byB b25 (fun hb65 => ?_) (fun hb65 => ?_))))))
     ·replace h := bb_t hb65 h
      refine o_w (za4 rfl rfl rfl (congrArg (fun b => Value.bool (!(b))) hb65)) rfl (za2 rfl) (o_w (za4 rfl rfl rfl (congrArg (fun b => Value.bool (!(b))) hb65)) rfl (q_not rfl) (oq_ (zak false (congrArg (fun b => Value.bool (!(b))) hb65) rfl) (oq_ (za2 rfl) (byB b36 (fun hb66 => ?_) (fun hb66 => ?_)))))
      ·replace h := bb_t hb66 h
       refine o_w (za4 rfl rfl rfl (congrArg (fun b => Value.bool (!(b))) hb66)) rfl (za2 rfl) (o_w (za4 rfl rfl rfl (congrArg (fun b => Value.bool (!(b))) hb66)) rfl (q_not rfl) (oq_ (zak false (congrArg (fun b => Value.bool (!(b))) hb66) rfl) (oq_ (za2 rfl) (byB b47 (fun hb67 => ?_) (fun hb67 => ?_)))))
       ·replace h := bb_t hb67 h
        refine o_w (za4 rfl rfl rfl (congrArg (fun b => Value.bool (!(b))) hb67)) rfl (za2 rfl) (o_w (za4 rfl rfl rfl (congrArg (fun b => Value.bool (!(b))) hb67)) rfl (q_not rfl) (oq_ (zak false (congrArg (fun b => Value.bool (!(b))) hb67) rfl) (oq_ (za2 rfl) (byB b58 (fun hb68 => ?_) (fun hb68 => ?_)))))
        ·replace h := bb_t hb68 h
         refine o_w (za4 rfl rfl rfl (congrArg (fun b => Value.bool (!(b))) hb68)) rfl (q_ldB G25 Z25 rfl (bx_ 9 rfl) rfl) (o_w (za4 rfl rfl rfl (congrArg (fun b => Value.bool (!(b))) hb68)) rfl (za2 rfl) (za6 h (fun b70 hx69 h => ?_) rfl))
         refine o_ew (za4 rfl rfl rfl (congrArg (fun b => Value.bool (!(b))) hb68)) (za5 0 Z Try.func25 N25 rfl rfl rfl (fun w P1 hF hB hS hT => laws_pEnds.calls k i22 A26 c27 l23.length l23 A28 c29 l24.length l24 i5 hB hF (hT 10 _ rfl).row (hT 10 _ rfl).cap (hT 11 _ rfl).row (hT 11 _ rfl).cap _ hx69)) (fun _ => o_w (za4 rfl rfl rfl (congrArg (fun b => Value.bool (!(b))) hb68)) rfl (q_not rfl) (oq_ (zak false (congrArg (fun b => Value.bool (!(b))) hb68) rfl) (oq_ (za2 rfl) (byB b70 (fun hb71 => ?_) (fun hb71 => ?_)))))
         ·replace h := bb_t hb71 h
          refine o_w (za4 rfl rfl rfl (congrArg (fun b => Value.bool (!(b))) hb71)) rfl (q_ldB G25 Z25 rfl (bx_ 6 rfl) rfl) (o_w (za4 rfl rfl rfl (congrArg (fun b => Value.bool (!(b))) hb71)) rfl (za2 rfl) (za6 h (fun b73 hx72 h => ?_) rfl))
          refine o_ew (za4 rfl rfl rfl (congrArg (fun b => Value.bool (!(b))) hb71)) (za5 0 Z Try.func25 N25 rfl rfl rfl (fun w P1 hF hB hS hT => laws_pEnds.calls k i33 A37 c38 l34.length l34 A39 c40 l35.length l35 i5 hB hF (hT 7 _ rfl).row (hT 7 _ rfl).cap (hT 8 _ rfl).row (hT 8 _ rfl).cap _ hx72)) (fun _ => o_w (za4 rfl rfl rfl (congrArg (fun b => Value.bool (!(b))) hb71)) rfl (q_not rfl) (oq_ (zak false (congrArg (fun b => Value.bool (!(b))) hb71) rfl) (oq_ (za2 rfl) (byB b73 (fun hb74 => ?_) (fun hb74 => ?_)))))
          ·replace h := bb_t hb74 h
           refine o_w (za4 rfl rfl rfl (congrArg (fun b => Value.bool (!(b))) hb74)) rfl (q_ldB G25 Z25 rfl (bx_ 3 rfl) rfl) (o_w (za4 rfl rfl rfl (congrArg (fun b => Value.bool (!(b))) hb74)) rfl (za2 rfl) (za6 h (fun b76 hx75 h => ?_) rfl))
           refine o_ew (za4 rfl rfl rfl (congrArg (fun b => Value.bool (!(b))) hb74)) (za5 0 Z Try.func25 N25 rfl rfl rfl (fun w P1 hF hB hS hT => laws_pEnds.calls k i44 A48 c49 l45.length l45 A50 c51 l46.length l46 i5 hB hF (hT 4 _ rfl).row (hT 4 _ rfl).cap (hT 5 _ rfl).row (hT 5 _ rfl).cap _ hx75)) (fun _ => o_w (za4 rfl rfl rfl (congrArg (fun b => Value.bool (!(b))) hb74)) rfl (q_not rfl) (oq_ (zak false (congrArg (fun b => Value.bool (!(b))) hb74) rfl) (oq_ (za2 rfl) (byB b76 (fun hb77 => ?_) (fun hb77 => ?_)))))
           ·replace h := bb_t hb77 h
            refine o_w (za4 rfl rfl rfl (congrArg (fun b => Value.bool (!(b))) hb77)) rfl (q_ldB G25 Z25 rfl (bx_ 0 rfl) rfl) (o_w (za4 rfl rfl rfl (congrArg (fun b => Value.bool (!(b))) hb77)) rfl (za2 rfl) (za6 h (fun b79 hx78 h => ?_) rfl))
            refine o_ew (za4 rfl rfl rfl (congrArg (fun b => Value.bool (!(b))) hb77)) (za5 0 Z Try.func25 N25 rfl rfl rfl (fun w P1 hF hB hS hT => laws_pEnds.calls k i55 A59 c60 l56.length l56 A61 c62 l57.length l57 i5 hB hF (hT 1 _ rfl).row (hT 1 _ rfl).cap (hT 2 _ rfl).row (hT 2 _ rfl).cap _ hx78)) (fun _ => o_w (za4 rfl rfl rfl (congrArg (fun b => Value.bool (!(b))) hb77)) rfl (q_not rfl) (oq_ (zak false (congrArg (fun b => Value.bool (!(b))) hb77) rfl) (o_end (za1 (zan _ rfl (fun hb80 => ?_) (fun hb80 => ?_))))))
            ·replace hb80 := nt_t hb80
             replace h := bb_f hb80 h
             refine c_seq (za0 (oq_ (q_asg rfl) (o_end (za1 (c_ret (zaa ?_))))))
             have e0_ := si_ h; clear h
             subst e0_
             exact x_r1 () Try.results7 (zad rfl) rfl (pk_ [])
            ·replace hb80 := nt_f hb80
             replace h := bb_t hb80 h
             refine zai (za1 (c_seq (c_seq (a_start (ds := []) MO rfl (ap_ 0 rfl (za2 rfl) (ap_ 1 rfl (q_len Try.underlying23 rfl) (ap_ 2 rfl (q_neq rfl rfl) (ap_ 3 rfl (za2 rfl) (byB (decide ((l7.length : Int) ≠ 7)) (fun hb81 => ?_) (fun hb81 => ?_))))))))))
             ·replace h := br_t hb81 h
              refine a_no 4 rfl rfl (za3 rfl rfl rfl (vb_ hb81) rfl) kr_ (fun _ _ _ h => h) (a_no 5 rfl rfl (za3 rfl rfl rfl (vb_ hb81) rfl) kr_ (fun _ _ _ h => h) (a_no 6 rfl rfl (za3 rfl rfl rfl (vb_ hb81) rfl) kr_ (fun _ _ _ h => h) (a_no 7 rfl rfl (za3 rfl rfl rfl (vb_ hb81) rfl) kr_ (fun _ _ _ h => h) (a_no 8 rfl rfl (za3 rfl rfl rfl (vb_ hb81) rfl) kr_ (fun _ _ _ h => h) (a_no 9 rfl rfl (za3 rfl rfl rfl (vb_ hb81) rfl) kr_ (fun _ _ _ h => h) (a_no 10 rfl rfl (za3 rfl rfl rfl (vb_ hb81) rfl) kr_ (fun _ _ _ h => h) (ap_ 11 rfl (zak true (vb_ hb81) rfl) (ap_ 12 rfl (za2 rfl) (a_no 13 rfl rfl (za3 rfl rfl rfl rfl rfl) kr_ (fun _ _ _ h => h) ?_)))))))))
              refine a_no 14 rfl rfl (za3 rfl rfl rfl rfl rfl) kr_ (fun _ _ _ h => h) (a_no 15 rfl rfl (za3 rfl rfl rfl rfl rfl) kr_ (fun _ _ _ h => h) (a_no 16 rfl rfl (za3 rfl rfl rfl rfl rfl) kr_ (fun _ _ _ h => h) (a_no 17 rfl rfl (za3 rfl rfl rfl rfl rfl) kr_ (fun _ _ _ h => h) (a_no 18 rfl rfl (za3 rfl rfl rfl rfl rfl) kr_ (fun _ _ _ h => h) (a_no 19 rfl rfl (za3 rfl rfl rfl rfl rfl) kr_ (fun _ _ _ h => h) (ap_ 20 rfl (zak true rfl rfl) (ap_ 21 rfl (za2 rfl) (a_no 22 rfl rfl (za3 rfl rfl rfl rfl rfl) kr_ (fun _ _ _ h => h) (a_no 23 rfl rfl (za3 rfl rfl rfl rfl rfl) kr_ (fun _ _ _ h => h) ?_)))))))))
              refine a_no 24 rfl rfl (za3 rfl rfl rfl rfl rfl) kr_ (fun _ _ _ h => h) (a_no 25 rfl rfl (za3 rfl rfl rfl rfl rfl) kr_ (fun _ _ _ h => h) (a_no 26 rfl rfl (za3 rfl rfl rfl rfl rfl) kr_ (fun _ _ _ h => h) (a_no 27 rfl rfl (za3 rfl rfl rfl rfl rfl) kr_ (fun _ _ _ h => h) (a_no 28 rfl rfl (za3 rfl rfl rfl rfl rfl) kr_ (fun _ _ _ h => h) (ap_ 29 rfl (zak true rfl rfl) (zaj kr_ (za1 (zar rfl (c_seq ?_)))))))))
              refine za0 (oq_ (q_asg rfl) (o_end (za1 (c_ret (zaa ?_)))))
              have e0_ := si_ h; clear h
              subst e0_
              exact x_r1 () Try.results7 (zad rfl) rfl (pk_ [])
             ·replace h := br_f hb81 h
              refine a_purew 4 rfl rfl (za4 rfl rfl rfl (vb_ hb81)) kr_ (fun _ _ _ h => h) (q_f F25_1 rfl) (a_takew 5 rfl rfl (za4 rfl rfl rfl (vb_ hb81)) kr_ (fun _ _ _ h => h) (fun w h => h) (q_ldb Y22 rfl (bx_ 9 rfl) rfl) (a_purew 6 rfl rfl (za4 rfl rfl rfl (vb_ hb81)) kr_ (fun _ _ _ h => h) (q_len Try.underlying22 rfl) (a_purew 7 rfl rfl (za4 rfl rfl rfl (vb_ hb81)) kr_ (fun _ _ _ h => h) (za2 rfl) (a_fact (p := Sh A9 l7.length l7.length) (fun w h => f_sh (dk := (Kd.int .i64)) h (rc_ 13 rfl)) (fun hq82 => za6 h (fun y84 hg83 h => ?_) rfl)))))
              refine a_purew 8 rfl rfl (za4 rfl rfl rfl (vb_ hb81)) kr_ (fun _ _ _ h => h) (q_ix Try.underlying23 Z3 rfl rfl hq82 hg83) (a_takew 9 rfl rfl (za4 rfl rfl rfl (vb_ hb81)) kr_ (fun _ _ _ h => h) (fun w h => h) (q_lde (off := 0) Y3 rfl rfl (rc_ 13 rfl) hg83 (fun _ _ h => h) rfl) (a_purew 10 rfl rfl (za4 rfl rfl rfl (vb_ hb81)) kr_ (fun _ _ _ h => h) (q_neq rfl rfl) (ap_ 11 rfl (zak false (vb_ hb81) rfl) (ap_ 12 rfl (za2 rfl) (byB (decide ((l23.length : Int) ≠ y84)) (fun hb85 => ?_) (fun hb85 => ?_))))))
              ·replace h := br_t hb85 h
               refine a_no 13 rfl rfl (za3 rfl rfl rfl (vb_ hb85) rfl) kr_ (fun _ _ _ h => h) (a_no 14 rfl rfl (za3 rfl rfl rfl (vb_ hb85) rfl) kr_ (fun _ _ _ h => h) (a_no 15 rfl rfl (za3 rfl rfl rfl (vb_ hb85) rfl) kr_ (fun _ _ _ h => h) (a_no 16 rfl rfl (za3 rfl rfl rfl (vb_ hb85) rfl) kr_ (fun _ _ _ h => h) (a_no 17 rfl rfl (za3 rfl rfl rfl (vb_ hb85) rfl) kr_ (fun _ _ _ h => h) (a_no 18 rfl rfl (za3 rfl rfl rfl (vb_ hb85) rfl) kr_ (fun _ _ _ h => h) (a_no 19 rfl rfl (za3 rfl rfl rfl (vb_ hb85) rfl) kr_ (fun _ _ _ h => h) (ap_ 20 rfl (zak true (vb_ hb85) rfl) (ap_ 21 rfl (za2 rfl) (a_no 22 rfl rfl (za3 rfl rfl rfl rfl rfl) kr_ (fun _ _ _ h => h) ?_)))))))))
               refine a_no 23 rfl rfl (za3 rfl rfl rfl rfl rfl) kr_ (fun _ _ _ h => h) (a_no 24 rfl rfl (za3 rfl rfl rfl rfl rfl) kr_ (fun _ _ _ h => h) (a_no 25 rfl rfl (za3 rfl rfl rfl rfl rfl) kr_ (fun _ _ _ h => h) (a_no 26 rfl rfl (za3 rfl rfl rfl rfl rfl) kr_ (fun _ _ _ h => h) (a_no 27 rfl rfl (za3 rfl rfl rfl rfl rfl) kr_ (fun _ _ _ h => h) (a_no 28 rfl rfl (za3 rfl rfl rfl rfl rfl) kr_ (fun _ _ _ h => h) (ap_ 29 rfl (zak true rfl rfl) (zaj kr_ (za1 (zar rfl ?_)))))))))
               refine c_seq (za0 (oq_ (q_asg rfl) (o_end (za1 (c_ret (zaa ?_))))))
               have e0_ := si_ h; clear h
               subst e0_
               exact x_r1 () Try.results7 (zad rfl) rfl (pk_ [])
              ·replace h := br_f hb85 h
               refine a_purew 13 rfl rfl (za4 rfl rfl rfl (vb_ hb85)) kr_ (fun _ _ _ h => h) (q_f F25_1 rfl) (a_takew 14 rfl rfl (za4 rfl rfl rfl (vb_ hb85)) kr_ (fun _ _ _ h => h) (fun w h => h) (q_ldb Y22 rfl (bx_ 6 rfl) rfl) (a_purew 15 rfl rfl (za4 rfl rfl rfl (vb_ hb85)) kr_ (fun _ _ _ h => h) (q_len Try.underlying22 rfl) (a_purew 16 rfl rfl (za4 rfl rfl rfl (vb_ hb85)) kr_ (fun _ _ _ h => h) (za2 rfl) (za6 h (fun y87 hg86 h => ?_) rfl))))
               refine a_purew 17 rfl rfl (za4 rfl rfl rfl (vb_ hb85)) kr_ (fun _ _ _ h => h) (q_ix Try.underlying23 Z3 rfl rfl hq82 hg86) (a_takew 18 rfl rfl (za4 rfl rfl rfl (vb_ hb85)) kr_ (fun _ _ _ h => h) (fun w h => h) (q_lde (off := 0) Y3 rfl rfl (rc_ 13 rfl) hg86 (fun _ _ h => h) rfl) (a_purew 19 rfl rfl (za4 rfl rfl rfl (vb_ hb85)) kr_ (fun _ _ _ h => h) (q_neq rfl rfl) (ap_ 20 rfl (zak false (vb_ hb85) rfl) (ap_ 21 rfl (za2 rfl) (byB (decide ((l34.length : Int) ≠ y87)) (fun hb88 => ?_) (fun hb88 => ?_))))))
               ·replace h := br_t hb88 h
                refine a_no 22 rfl rfl (za3 rfl rfl rfl (vb_ hb88) rfl) kr_ (fun _ _ _ h => h) (a_no 23 rfl rfl (za3 rfl rfl rfl (vb_ hb88) rfl) kr_ (fun _ _ _ h => h) (a_no 24 rfl rfl (za3 rfl rfl rfl (vb_ hb88) rfl) kr_ (fun _ _ _ h => h) (a_no 25 rfl rfl (za3 rfl rfl rfl (vb_ hb88) rfl) kr_ (fun _ _ _ h => h) (a_no 26 rfl rfl (za3 rfl rfl rfl (vb_ hb88) rfl) kr_ (fun _ _ _ h => h) (a_no 27 rfl rfl (za3 rfl rfl rfl (vb_ hb88) rfl) kr_ (fun _ _ _ h => h) (a_no 28 rfl rfl (za3 rfl rfl rfl (vb_ hb88) rfl) kr_ (fun _ _ _ h => h) (ap_ 29 rfl (zak true (vb_ hb88) rfl) (zaj kr_ (za1 ?_)))))))))
                refine zar rfl (c_seq (za0 (oq_ (q_asg rfl) (o_end (za1 (c_ret (zaa ?_)))))))
                have e0_ := si_ h; clear h
                subst e0_
                exact x_r1 () Try.results7 (zad rfl) rfl (pk_ [])
               ·replace h := br_f hb88 h
                refine a_purew 22 rfl rfl (za4 rfl rfl rfl (vb_ hb88)) kr_ (fun _ _ _ h => h) (q_f F25_1 rfl) (a_takew 23 rfl rfl (za4 rfl rfl rfl (vb_ hb88)) kr_ (fun _ _ _ h => h) (fun w h => h) (q_ldb Y22 rfl (bx_ 3 rfl) rfl) (a_purew 24 rfl rfl (za4 rfl rfl rfl (vb_ hb88)) kr_ (fun _ _ _ h => h) (q_len Try.underlying22 rfl) (a_purew 25 rfl rfl (za4 rfl rfl rfl (vb_ hb88)) kr_ (fun _ _ _ h => h) (za2 rfl) (za6 h (fun y90 hg89 h => ?_) rfl))))
                refine a_purew 26 rfl rfl (za4 rfl rfl rfl (vb_ hb88)) kr_ (fun _ _ _ h => h) (q_ix Try.underlying23 Z3 rfl rfl hq82 hg89) (a_takew 27 rfl rfl (za4 rfl rfl rfl (vb_ hb88)) kr_ (fun _ _ _ h => h) (fun w h => h) (q_lde (off := 0) Y3 rfl rfl (rc_ 13 rfl) hg89 (fun _ _ h => h) rfl) (a_purew 28 rfl rfl (za4 rfl rfl rfl (vb_ hb88)) kr_ (fun _ _ _ h => h) (q_neq rfl rfl) (ap_ 29 rfl (zak false (vb_ hb88) rfl) (zaj kr_ (za1 (zan _ rfl (fun hb91 => ?_) (fun hb91 => ?_)))))))
                ·replace h := br_t hb91 h
                 refine c_seq (za0 (oq_ (q_asg rfl) (o_end (za1 (c_ret (zaa ?_))))))
                 have e0_ := si_ h; clear h
                 subst e0_
                 exact x_r1 () Try.results7 (zad rfl) rfl (pk_ [])
                ·replace h := br_f hb91 h
                 refine zai (za1 (c_seq (c_seq (za0 (oq_ (za2 rfl) (oq_ (q_len Try.underlying23 rfl) (oq_ (za2 rfl) (o_end (za1 ?_)))))))))
                 refine zae (za6 h (fun o100 hl99 hR98 => ?_) rfl)
                 clear h
                 refine c_fact (p := l7.length ≤ 9223372036854775807) (fun w h => (h.row_Cn (i := 13) rfl).2.1) (fun hm97 => zas (σ := (List Int) × Int) (fun k95 ((ys94, i92) : (List Int) × Int) => Rg l7 i92 ys94 ∧ ys94.length = k95 ∧ laws_FnMethods.l0 l56 ys94 i92 = some o100) [4, 19, 142, 143, 144, 145, 146, 147, 148, 149, 150, 151] (fun ((ys94, i92) : (List Int) × Int) => [(142, .int .i64 i92)]) (fun ((ys94, i92) : (List Int) × Int) => [box g63 25 #[.int .i64 i55, .slice A59 l56.length c60, .slice A61 l57.length c62], row kStep 107 (.slice A59 l56.length c60) l56, row (Kd.int .i64) 3 (.slice A61 l57.length c62) l57, box g52 25 #[.int .i64 i44, .slice A48 l45.length c49, .slice A50 l46.length c51], row kStep 107 (.slice A48 l45.length c49) l45, row (Kd.int .i64) 3 (.slice A50 l46.length c51) l46, box g41 25 #[.int .i64 i33, .slice A37 l34.length c38, .slice A39 l35.length c40], row kStep 107 (.slice A37 l34.length c38) l34, row (Kd.int .i64) 3 (.slice A39 l35.length c40) l35, box g30 25 #[.int .i64 i22, .slice A26 l23.length c27, .slice A28 l24.length c29], row kStep 107 (.slice A26 l23.length c27) l23, row (Kd.int .i64) 3 (.slice A28 l24.length c29) l24, row (Kd.int .i64) 3 (.slice A14 l12.length c15) l12, row (Kd.int .i64) 3 (.slice A9 l7.length c10) l7]) l7.length (l7, 0) ⟨Rg.start _, rfl, hl99⟩ ⟨rfl, trivial⟩ (fun w h => h) (fun k95 => cur2 (listC (fun i92 U101 hJ_ => ?_) (fun y93 ys94 i92 U101 hJ_ => ?_))))
                 ·clear hl99
                  have hr96 := hJ_.1; have hk102 := hJ_.2.1; have h := hJ_.2.2; clear hJ_
                  replace h : laws_FnMethods.l0 l56 [] i92 = some o100 := h
                  rw [laws_FnMethods.l0] at h
                  refine c_seq (za0 (oq_ (q_lss rfl rfl) (o_end (za1 (c_seq (zaz (vb_ hr96.ge) (zax (za7 (za7 ?_)))))))))
                  have e_ := si_ h; replace h := hR98; rw [← e_] at h; clear e_
                  refine x_hit (za1 (c_seq (za0 (oq_ (za2 rfl) (bindE2 h (fun i104 b105 hx103 h => ?_) rfl)))))
                  refine o_e rfl (za5 0 Z Try.func36 N36 rfl rfl rfl (fun w P1 hF hB hS hT => impl_BitLength.calls i5 hB hF _ _ hx103)) (fun _ => oq_ (za2 rfl) (oq_ (q_ext rfl rfl) (oq_ (q_ext rfl rfl) (oq_ (q_asg rfl) (oq_ (q_asg rfl) (o_end (za1 (c_seq (za0 ?_)))))))))
                  refine oq_ (za2 rfl) (bindE2 h (fun i107 b108 hx106 h => ?_) rfl)
                  refine o_e rfl (za5 0 Z Try.func29 N29 rfl rfl rfl (fun w P1 hF hB hS hT => impl_DigitSum.calls i5 hB hF _ _ hx106)) (fun _ => oq_ (za2 rfl) (oq_ (q_ext rfl rfl) (oq_ (q_ext rfl rfl) (oq_ (q_asg rfl) (oq_ (q_asg rfl) (o_end (za1 (c_seq (za0 ?_)))))))))
                  refine oq_ (za2 rfl) (bindE2 h (fun i110 b111 hx109 h => ?_) rfl)
                  refine o_e rfl (za5 0 Z Try.func30 N30 rfl rfl rfl (fun w P1 hF hB hS hT => impl_BinaryCost.calls k i5 hB hF _ _ hx109)) (fun _ => oq_ (za2 rfl) (oq_ (q_ext rfl rfl) (oq_ (q_ext rfl rfl) (oq_ (q_asg rfl) (oq_ (q_asg rfl) (o_end (za1 (c_seq (za0 ?_)))))))))
                  refine oq_ (za2 rfl) (oq_ (za2 rfl) (byB b105 (fun hb112 => ?_) (fun hb112 => ?_)))
                  ·replace h := bb_t hb112 h
                   refine o_w (za4 rfl rfl rfl (vb_ hb112)) rfl (za2 rfl) (oq_ (zak true (vb_ hb112) rfl) (oq_ (za2 rfl) (byB b108 (fun hb113 => ?_) (fun hb113 => ?_))))
                   ·replace h := bb_t hb113 h
                    refine o_w (za4 rfl rfl rfl (vb_ hb113)) rfl (za2 rfl) (oq_ (zak true (vb_ hb113) rfl) (oq_ (za2 rfl) (byB b111 (fun hb114 => ?_) (fun hb114 => ?_))))
                    ·replace h := bb_t hb114 h
                     refine o_w (za4 rfl rfl rfl (vb_ hb114)) rfl (za2 rfl) (o_w (za4 rfl rfl rfl (vb_ hb114)) rfl (q_f F25_1 rfl) (o_w (za4 rfl rfl rfl (vb_ hb114)) rfl (q_ldb Y22 rfl (bx_ 0 rfl) rfl) (o_w (za4 rfl rfl rfl (vb_ hb114)) rfl (q_len Try.underlying22 rfl) (za6 h (fun b116 hx115 h => ?_) rfl))))
                     refine o_ew (za4 rfl rfl rfl (vb_ hb114)) (za5 0 Z Try.func37 N37 rfl rfl rfl (fun w P1 hF hB hS hT => laws_pHas.calls A9 c10 l7.length l7 (l56.length : Int) hB hF (hT 13 _ rfl).row (hT 13 _ rfl).cap _ hx115)) (fun _ => oq_ (zak true (vb_ hb114) rfl) (oq_ (za2 rfl) (byB b116 (fun hb117 => ?_) (fun hb117 => ?_))))
                     ·replace h := bb_t hb117 h
                      refine o_w (za4 rfl rfl rfl (vb_ hb117)) rfl (za2 rfl) (o_w (za4 rfl rfl rfl (vb_ hb117)) rfl (za2 rfl) (o_w (za4 rfl rfl rfl (vb_ hb117)) rfl (za2 rfl) (o_w (za4 rfl rfl rfl (vb_ hb117)) rfl (zay rfl rfl) (o_w (za4 rfl rfl rfl (vb_ hb117)) rfl (zat rfl rfl) (o_w (za4 rfl rfl rfl (vb_ hb117)) rfl (q_eql rfl rfl) (oq_ (zak true (vb_ hb117) rfl) (oq_ (za2 rfl) (byB (decide (i110 = w64 (w64 (i104 + i107) - 2))) (fun hb118 => ?_) (fun hb118 => ?_)))))))))
                      ·replace h := br_t hb118 h
                       refine o_w (za4 rfl rfl rfl (vb_ hb118)) rfl (za2 rfl) (za6 h (fun y120 hg119 h => ?_) rfl)
                       refine o_w (za4 rfl rfl rfl (vb_ hb118)) rfl (q_ix Try.underlying23 Z3 rfl rfl hq82 hg119) (o_w (za4 rfl rfl rfl (vb_ hb118)) rfl (q_lde (off := 0) Y3 rfl rfl (rc_ 13 rfl) hg119 (fun _ _ h => h) rfl) (o_w (za4 rfl rfl rfl (vb_ hb118)) rfl (za2 rfl) (o_w (za4 rfl rfl rfl (vb_ hb118)) rfl (q_eql rfl rfl) (oq_ (zak true (vb_ hb118) rfl) (oq_ (za2 rfl) (byB (decide (y120 = i110)) (fun hb121 => ?_) (fun hb121 => ?_)))))))
                       ·replace h := br_t hb121 h
                        refine o_w (za4 rfl rfl rfl (vb_ hb121)) rfl (q_f F25_1 rfl) (o_w (za4 rfl rfl rfl (vb_ hb121)) rfl (q_ldb Y22 rfl (bx_ 0 rfl) rfl) (o_w (za4 rfl rfl rfl (vb_ hb121)) rfl (q_len Try.underlying22 rfl) (o_w (za4 rfl rfl rfl (vb_ hb121)) rfl (za2 rfl) (o_w (za4 rfl rfl rfl (vb_ hb121)) rfl (zat rfl rfl) (o_w (za4 rfl rfl rfl (vb_ hb121)) rfl (q_geq rfl rfl) (oq_ (zak true (vb_ hb121) rfl) (oq_ (q_asg rfl) (o_end (za1 ?_)))))))))
                        refine c_ret ?_
                        have e0_ := si_ h; clear h
                        subst e0_
                        exact x_r1 () Try.results7 (zad rfl) rfl (pk_ [])
                       ·replace h := br_f hb121 h
                        refine o_n (d := 197) (za3 rfl rfl rfl (vb_ hb121) rfl) (Eq.refl (some 197)) (o_n (d := 198) (za3 rfl rfl rfl (vb_ hb121) rfl) (Eq.refl (some 198)) (o_n (d := 199) (za3 rfl rfl rfl (vb_ hb121) rfl) (Eq.refl (some 199)) (o_n (d := 200) (za3 rfl rfl rfl (vb_ hb121) rfl) (Eq.refl (some 200)) (o_n (d := 201) (za3 rfl rfl rfl (vb_ hb121) rfl) (Eq.refl (some 201)) (o_n (d := 202) (za3 rfl rfl rfl (vb_ hb121) rfl) (Eq.refl (some 202)) (oq_ (zak false (vb_ hb121) rfl) (oq_ (q_asg rfl) (o_end (za1 ?_)))))))))
                        refine c_ret ?_
                        have e0_ := si_ h; clear h
                        subst e0_
                        exact x_r1 () Try.results7 (zad rfl) rfl (pk_ [])
                      ·replace h := br_f hb118 h
                       refine o_n (d := 190) (za3 rfl rfl rfl (vb_ hb118) rfl) (Eq.refl (some 190)) (o_n (d := 191) (za3 rfl rfl rfl (vb_ hb118) rfl) (Eq.refl (some 191)) (o_n (d := 192) (za3 rfl rfl rfl (vb_ hb118) rfl) (Eq.refl (some 192)) (o_n (d := 193) (za3 rfl rfl rfl (vb_ hb118) rfl) (Eq.refl (some 193)) (o_n (d := 194) (za3 rfl rfl rfl (vb_ hb118) rfl) (Eq.refl (some 194)) (oq_ (zak false (vb_ hb118) rfl) (oq_ (za2 rfl) (o_n (d := 197) (za3 rfl rfl rfl rfl rfl) (Eq.refl (some 197)) (o_n (d := 198) (za3 rfl rfl rfl rfl rfl) (Eq.refl (some 198)) (o_n (d := 199) (za3 rfl rfl rfl rfl rfl) (Eq.refl (some 199)) ?_)))))))))
                       refine o_n (d := 200) (za3 rfl rfl rfl rfl rfl) (Eq.refl (some 200)) (o_n (d := 201) (za3 rfl rfl rfl rfl rfl) (Eq.refl (some 201)) (o_n (d := 202) (za3 rfl rfl rfl rfl rfl) (Eq.refl (some 202)) (oq_ (zak false rfl rfl) (oq_ (q_asg rfl) (o_end (za1 (c_ret ?_)))))))
                       have e0_ := si_ h; clear h
                       subst e0_
                       exact x_r1 () Try.results7 (zad rfl) rfl (pk_ [])
                     ·replace h := bb_f hb117 h
                      refine o_n (d := 182) (za3 rfl rfl rfl (vb_ hb117) rfl) (Eq.refl (some 182)) (o_n (d := 183) (za3 rfl rfl rfl (vb_ hb117) rfl) (Eq.refl (some 183)) (o_n (d := 184) (za3 rfl rfl rfl (vb_ hb117) rfl) (Eq.refl (some 184)) (o_n (d := 185) (za3 rfl rfl rfl (vb_ hb117) rfl) (Eq.refl (some 185)) (o_n (d := 186) (za3 rfl rfl rfl (vb_ hb117) rfl) (Eq.refl (some 186)) (o_n (d := 187) (za3 rfl rfl rfl (vb_ hb117) rfl) (Eq.refl (some 187)) (oq_ (zak false (vb_ hb117) rfl) (oq_ (za2 rfl) (o_n (d := 190) (za3 rfl rfl rfl rfl rfl) (Eq.refl (some 190)) (o_n (d := 191) (za3 rfl rfl rfl rfl rfl) (Eq.refl (some 191)) ?_)))))))))
                      refine o_n (d := 192) (za3 rfl rfl rfl rfl rfl) (Eq.refl (some 192)) (o_n (d := 193) (za3 rfl rfl rfl rfl rfl) (Eq.refl (some 193)) (o_n (d := 194) (za3 rfl rfl rfl rfl rfl) (Eq.refl (some 194)) (oq_ (zak false rfl rfl) (oq_ (za2 rfl) (o_n (d := 197) (za3 rfl rfl rfl rfl rfl) (Eq.refl (some 197)) (o_n (d := 198) (za3 rfl rfl rfl rfl rfl) (Eq.refl (some 198)) (o_n (d := 199) (za3 rfl rfl rfl rfl rfl) (Eq.refl (some 199)) (o_n (d := 200) (za3 rfl rfl rfl rfl rfl) (Eq.refl (some 200)) (o_n (d := 201) (za3 rfl rfl rfl rfl rfl) (Eq.refl (some 201)) ?_)))))))))
                      refine o_n (d := 202) (za3 rfl rfl rfl rfl rfl) (Eq.refl (some 202)) (oq_ (zak false rfl rfl) (oq_ (q_asg rfl) (o_end (za1 (c_ret ?_)))))
                      have e0_ := si_ h; clear h
                      subst e0_
                      exact x_r1 () Try.results7 (zad rfl) rfl (pk_ [])
                    ·replace h := bb_f hb114 h
                     refine o_n (d := 175) (za3 rfl rfl rfl (vb_ hb114) rfl) (Eq.refl (some 175)) (o_n (d := 176) (za3 rfl rfl rfl (vb_ hb114) rfl) (Eq.refl (some 176)) (o_n (d := 177) (za3 rfl rfl rfl (vb_ hb114) rfl) (Eq.refl (some 177)) (o_n (d := 178) (za3 rfl rfl rfl (vb_ hb114) rfl) (Eq.refl (some 178)) (o_n (d := 179) (za3 rfl rfl rfl (vb_ hb114) rfl) (Eq.refl (some 179)) (oq_ (zak false (vb_ hb114) rfl) (oq_ (za2 rfl) (o_n (d := 182) (za3 rfl rfl rfl rfl rfl) (Eq.refl (some 182)) (o_n (d := 183) (za3 rfl rfl rfl rfl rfl) (Eq.refl (some 183)) (o_n (d := 184) (za3 rfl rfl rfl rfl rfl) (Eq.refl (some 184)) ?_)))))))))
                     refine o_n (d := 185) (za3 rfl rfl rfl rfl rfl) (Eq.refl (some 185)) (o_n (d := 186) (za3 rfl rfl rfl rfl rfl) (Eq.refl (some 186)) (o_n (d := 187) (za3 rfl rfl rfl rfl rfl) (Eq.refl (some 187)) (oq_ (zak false rfl rfl) (oq_ (za2 rfl) (o_n (d := 190) (za3 rfl rfl rfl rfl rfl) (Eq.refl (some 190)) (o_n (d := 191) (za3 rfl rfl rfl rfl rfl) (Eq.refl (some 191)) (o_n (d := 192) (za3 rfl rfl rfl rfl rfl) (Eq.refl (some 192)) (o_n (d := 193) (za3 rfl rfl rfl rfl rfl) (Eq.refl (some 193)) (o_n (d := 194) (za3 rfl rfl rfl rfl rfl) (Eq.refl (some 194)) ?_)))))))))
                     refine oq_ (zak false rfl rfl) (oq_ (za2 rfl) (o_n (d := 197) (za3 rfl rfl rfl rfl rfl) (Eq.refl (some 197)) (o_n (d := 198) (za3 rfl rfl rfl rfl rfl) (Eq.refl (some 198)) (o_n (d := 199) (za3 rfl rfl rfl rfl rfl) (Eq.refl (some 199)) (o_n (d := 200) (za3 rfl rfl rfl rfl rfl) (Eq.refl (some 200)) (o_n (d := 201) (za3 rfl rfl rfl rfl rfl) (Eq.refl (some 201)) (o_n (d := 202) (za3 rfl rfl rfl rfl rfl) (Eq.refl (some 202)) (oq_ (zak false rfl rfl) (oq_ (q_asg rfl) ?_)))))))))
                     refine o_end (za1 (c_ret ?_))
                     have e0_ := si_ h; clear h
                     subst e0_
                     exact x_r1 () Try.results7 (zad rfl) rfl (pk_ [])
                   ·replace h := bb_f hb113 h
                    refine o_n (d := 172) (za3 rfl rfl rfl (vb_ hb113) rfl) (Eq.refl (some 172)) (oq_ (zak false (vb_ hb113) rfl) (oq_ (za2 rfl) (o_n (d := 175) (za3 rfl rfl rfl rfl rfl) (Eq.refl (some 175)) (o_n (d := 176) (za3 rfl rfl rfl rfl rfl) (Eq.refl (some 176)) (o_n (d := 177) (za3 rfl rfl rfl rfl rfl) (Eq.refl (some 177)) (o_n (d := 178) (za3 rfl rfl rfl rfl rfl) (Eq.refl (some 178)) (o_n (d := 179) (za3 rfl rfl rfl rfl rfl) (Eq.refl (some 179)) (oq_ (zak false rfl rfl) (oq_ (za2 rfl) ?_)))))))))
                    refine o_n (d := 182) (za3 rfl rfl rfl rfl rfl) (Eq.refl (some 182)) (o_n (d := 183) (za3 rfl rfl rfl rfl rfl) (Eq.refl (some 183)) (o_n (d := 184) (za3 rfl rfl rfl rfl rfl) (Eq.refl (some 184)) (o_n (d := 185) (za3 rfl rfl rfl rfl rfl) (Eq.refl (some 185)) (o_n (d := 186) (za3 rfl rfl rfl rfl rfl) (Eq.refl (some 186)) (o_n (d := 187) (za3 rfl rfl rfl rfl rfl) (Eq.refl (some 187)) (oq_ (zak false rfl rfl) (oq_ (za2 rfl) (o_n (d := 190) (za3 rfl rfl rfl rfl rfl) (Eq.refl (some 190)) (o_n (d := 191) (za3 rfl rfl rfl rfl rfl) (Eq.refl (some 191)) ?_)))))))))
                    refine o_n (d := 192) (za3 rfl rfl rfl rfl rfl) (Eq.refl (some 192)) (o_n (d := 193) (za3 rfl rfl rfl rfl rfl) (Eq.refl (some 193)) (o_n (d := 194) (za3 rfl rfl rfl rfl rfl) (Eq.refl (some 194)) (oq_ (zak false rfl rfl) (oq_ (za2 rfl) (o_n (d := 197) (za3 rfl rfl rfl rfl rfl) (Eq.refl (some 197)) (o_n (d := 198) (za3 rfl rfl rfl rfl rfl) (Eq.refl (some 198)) (o_n (d := 199) (za3 rfl rfl rfl rfl rfl) (Eq.refl (some 199)) (o_n (d := 200) (za3 rfl rfl rfl rfl rfl) (Eq.refl (some 200)) (o_n (d := 201) (za3 rfl rfl rfl rfl rfl) (Eq.refl (some 201)) ?_)))))))))
                    refine o_n (d := 202) (za3 rfl rfl rfl rfl rfl) (Eq.refl (some 202)) (oq_ (zak false rfl rfl) (oq_ (q_asg rfl) (o_end (za1 (c_ret ?_)))))
                    have e0_ := si_ h; clear h
                    subst e0_
                    exact x_r1 () Try.results7 (zad rfl) rfl (pk_ [])
                  ·replace h := bb_f hb112 h
                   refine o_n (d := 169) (za3 rfl rfl rfl (vb_ hb112) rfl) (Eq.refl (some 169)) (oq_ (zak false (vb_ hb112) rfl) (oq_ (za2 rfl) (o_n (d := 172) (za3 rfl rfl rfl rfl rfl) (Eq.refl (some 172)) (oq_ (zak false rfl rfl) (oq_ (za2 rfl) (o_n (d := 175) (za3 rfl rfl rfl rfl rfl) (Eq.refl (some 175)) (o_n (d := 176) (za3 rfl rfl rfl rfl rfl) (Eq.refl (some 176)) (o_n (d := 177) (za3 rfl rfl rfl rfl rfl) (Eq.refl (some 177)) (o_n (d := 178) (za3 rfl rfl rfl rfl rfl) (Eq.refl (some 178)) ?_)))))))))
                   refine o_n (d := 179) (za3 rfl rfl rfl rfl rfl) (Eq.refl (some 179)) (oq_ (zak false rfl rfl) (oq_ (za2 rfl) (o_n (d := 182) (za3 rfl rfl rfl rfl rfl) (Eq.refl (some 182)) (o_n (d := 183) (za3 rfl rfl rfl rfl rfl) (Eq.refl (some 183)) (o_n (d := 184) (za3 rfl rfl rfl rfl rfl) (Eq.refl (some 184)) (o_n (d := 185) (za3 rfl rfl rfl rfl rfl) (Eq.refl (some 185)) (o_n (d := 186) (za3 rfl rfl rfl rfl rfl) (Eq.refl (some 186)) (o_n (d := 187) (za3 rfl rfl rfl rfl rfl) (Eq.refl (some 187)) (oq_ (zak false rfl rfl) ?_)))))))))
                   refine oq_ (za2 rfl) (o_n (d := 190) (za3 rfl rfl rfl rfl rfl) (Eq.refl (some 190)) (o_n (d := 191) (za3 rfl rfl rfl rfl rfl) (Eq.refl (some 191)) (o_n (d := 192) (za3 rfl rfl rfl rfl rfl) (Eq.refl (some 192)) (o_n (d := 193) (za3 rfl rfl rfl rfl rfl) (Eq.refl (some 193)) (o_n (d := 194) (za3 rfl rfl rfl rfl rfl) (Eq.refl (some 194)) (oq_ (zak false rfl rfl) (oq_ (za2 rfl) (o_n (d := 197) (za3 rfl rfl rfl rfl rfl) (Eq.refl (some 197)) (o_n (d := 198) (za3 rfl rfl rfl rfl rfl) (Eq.refl (some 198)) ?_)))))))))
                   refine o_n (d := 199) (za3 rfl rfl rfl rfl rfl) (Eq.refl (some 199)) (o_n (d := 200) (za3 rfl rfl rfl rfl rfl) (Eq.refl (some 200)) (o_n (d := 201) (za3 rfl rfl rfl rfl rfl) (Eq.refl (some 201)) (o_n (d := 202) (za3 rfl rfl rfl rfl rfl) (Eq.refl (some 202)) (oq_ (zak false rfl rfl) (oq_ (q_asg rfl) (o_end (za1 (c_ret ?_))))))))
                   have e0_ := si_ h; clear h
                   subst e0_
                   exact x_r1 () Try.results7 (zad rfl) rfl (pk_ [])
                 ·clear hl99
                  have hr96 := hJ_.1; have hk102 := hJ_.2.1; have h := hJ_.2.2; clear hJ_
                  replace h : laws_FnMethods.l0 l56 (y93 :: ys94) i92 = some o100 := h
                  rw [laws_FnMethods.l0] at h
                  refine c_seq (za0 (oq_ (q_lss rfl rfl) (o_end (za1 (c_seq (zar (vb_ hr96.lt) (zai (za1 (c_seq ?_)))))))))
                  refine zae (c_seq (za0 (oq_ (q_ix Try.underlying23 Z3 rfl rfl hq82 hr96.get) (oq_ (q_lde (off := 0) Y3 rfl rfl (rc_ 13 rfl) hr96.get (fun _ _ h => h) rfl) (oq_ (q_asg rfl) (o_end (za1 (c_seq (za0 ?_)))))))))
                  refine oq_ (za2 rfl) (oq_ (q_f F25_1 rfl) (oq_ (q_ldb Y22 rfl (bx_ 0 rfl) rfl) (oq_ (q_len Try.underlying22 rfl) (oq_ (q_lss rfl rfl) (o_end (za1 (zan _ rfl (fun hb122 => ?_) (fun hb122 => ?_))))))))
                  ·replace h := br_t hb122 h
                   refine c_seq (za0 (oq_ (q_asg rfl) (o_end (za1 (c_ret (zao (zaa (zaa ?_))))))))
                   have e_ := si_ h; replace h := hR98; rw [← e_] at h; clear e_
                   refine zao (zaa ?_)
                   have e0_ := si_ h; clear h
                   subst e0_
                   exact x_r1 () Try.results7 (zad rfl) rfl (pk_ [])
                  ·replace h := br_f hb122 h
                   refine zai (zaf (za1 (za0 (oq_ (q_up rfl rfl (hr96.up hm97)) (oq_ (za2 rfl) (o_end (zal ys94.length (ys94, i92 + 1) (by rw [← hk102]; exact Nat.lt_succ_self _) ⟨hr96.step, rfl, h⟩ ⟨rfl, trivial⟩ (pk_ [0, 1, 2, 3, 4, 5, 6, 7, 8, 9, 10, 11, 12, 13]) ?_)))))))
                   exact of_
           ·replace h := bb_f hb77 h
            refine o_n (d := 105) (za3 rfl rfl rfl (congrArg (fun b => Value.bool (!(b))) hb77) rfl) (Eq.refl (some 105)) (o_n (d := 106) (za3 rfl rfl rfl (congrArg (fun b => Value.bool (!(b))) hb77) rfl) (Eq.refl (some 106)) (o_n (d := 107) (za3 rfl rfl rfl (congrArg (fun b => Value.bool (!(b))) hb77) rfl) (Eq.refl (some 107)) (o_n (d := 108) (za3 rfl rfl rfl (congrArg (fun b => Value.bool (!(b))) hb77) rfl) (Eq.refl (some 108)) (oq_ (zak true (congrArg (fun b => Value.bool (!(b))) hb77) rfl) (o_end (za1 (zar rfl (c_seq (za0 ?_)))))))))
            refine oq_ (q_asg rfl) (o_end (za1 (c_ret (zaa ?_))))
            have e0_ := si_ h; clear h
            subst e0_
            exact x_r1 () Try.results7 (zad rfl) rfl (pk_ [])
          ·replace h := bb_f hb74 h
           refine o_n (d := 99) (za3 rfl rfl rfl (congrArg (fun b => Value.bool (!(b))) hb74) rfl) (Eq.refl (some 99)) (o_n (d := 100) (za3 rfl rfl rfl (congrArg (fun b => Value.bool (!(b))) hb74) rfl) (Eq.refl (some 100)) (o_n (d := 101) (za3 rfl rfl rfl (congrArg (fun b => Value.bool (!(b))) hb74) rfl) (Eq.refl (some 101)) (o_n (d := 102) (za3 rfl rfl rfl (congrArg (fun b => Value.bool (!(b))) hb74) rfl) (Eq.refl (some 102)) (oq_ (zak true (congrArg (fun b => Value.bool (!(b))) hb74) rfl) (oq_ (za2 rfl) (o_n (d := 105) (za3 rfl rfl rfl rfl rfl) (Eq.refl (some 105)) (o_n (d := 106) (za3 rfl rfl rfl rfl rfl) (Eq.refl (some 106)) (o_n (d := 107) (za3 rfl rfl rfl rfl rfl) (Eq.refl (some 107)) (o_n (d := 108) (za3 rfl rfl rfl rfl rfl) (Eq.refl (some 108)) ?_)))))))))
           refine oq_ (zak true rfl rfl) (o_end (za1 (zar rfl (c_seq (za0 (oq_ (q_asg rfl) (o_end (za1 (c_ret ?_)))))))))
           refine zaa ?_
           have e0_ := si_ h; clear h
           subst e0_
           exact x_r1 () Try.results7 (zad rfl) rfl (pk_ [])
         ·replace h := bb_f hb71 h
          refine o_n (d := 93) (za3 rfl rfl rfl (congrArg (fun b => Value.bool (!(b))) hb71) rfl) (Eq.refl (some 93)) (o_n (d := 94) (za3 rfl rfl rfl (congrArg (fun b => Value.bool (!(b))) hb71) rfl) (Eq.refl (some 94)) (o_n (d := 95) (za3 rfl rfl rfl (congrArg (fun b => Value.bool (!(b))) hb71) rfl) (Eq.refl (some 95)) (o_n (d := 96) (za3 rfl rfl rfl (congrArg (fun b => Value.bool (!(b))) hb71) rfl) (Eq.refl (some 96)) (oq_ (zak true (congrArg (fun b => Value.bool (!(b))) hb71) rfl) (oq_ (za2 rfl) (o_n (d := 99) (za3 rfl rfl rfl rfl rfl) (Eq.refl (some 99)) (o_n (d := 100) (za3 rfl rfl rfl rfl rfl) (Eq.refl (some 100)) (o_n (d := 101) (za3 rfl rfl rfl rfl rfl) (Eq.refl (some 101)) (o_n (d := 102) (za3 rfl rfl rfl rfl rfl) (Eq.refl (some 102)) ?_)))))))))
          refine oq_ (zak true rfl rfl) (oq_ (za2 rfl) (o_n (d := 105) (za3 rfl rfl rfl rfl rfl) (Eq.refl (some 105)) (o_n (d := 106) (za3 rfl rfl rfl rfl rfl) (Eq.refl (some 106)) (o_n (d := 107) (za3 rfl rfl rfl rfl rfl) (Eq.refl (some 107)) (o_n (d := 108) (za3 rfl rfl rfl rfl rfl) (Eq.refl (some 108)) (oq_ (zak true rfl rfl) (o_end (za1 (zar rfl ?_)))))))))
          refine c_seq (za0 (oq_ (q_asg rfl) (o_end (za1 (c_ret (zaa ?_))))))
          have e0_ := si_ h; clear h
          subst e0_
          exact x_r1 () Try.results7 (zad rfl) rfl (pk_ [])
        ·replace h := bb_f hb68 h
         refine o_n (d := 87) (za3 rfl rfl rfl (congrArg (fun b => Value.bool (!(b))) hb68) rfl) (Eq.refl (some 87)) (o_n (d := 88) (za3 rfl rfl rfl (congrArg (fun b => Value.bool (!(b))) hb68) rfl) (Eq.refl (some 88)) (o_n (d := 89) (za3 rfl rfl rfl (congrArg (fun b => Value.bool (!(b))) hb68) rfl) (Eq.refl (some 89)) (o_n (d := 90) (za3 rfl rfl rfl (congrArg (fun b => Value.bool (!(b))) hb68) rfl) (Eq.refl (some 90)) (oq_ (zak true (congrArg (fun b => Value.bool (!(b))) hb68) rfl) (oq_ (za2 rfl) (o_n (d := 93) (za3 rfl rfl rfl rfl rfl) (Eq.refl (some 93)) (o_n (d := 94) (za3 rfl rfl rfl rfl rfl) (Eq.refl (some 94)) (o_n (d := 95) (za3 rfl rfl rfl rfl rfl) (Eq.refl (some 95)) (o_n (d := 96) (za3 rfl rfl rfl rfl rfl) (Eq.refl (some 96)) ?_)))))))))
         refine oq_ (zak true rfl rfl) (oq_ (za2 rfl) (o_n (d := 99) (za3 rfl rfl rfl rfl rfl) (Eq.refl (some 99)) (o_n (d := 100) (za3 rfl rfl rfl rfl rfl) (Eq.refl (some 100)) (o_n (d := 101) (za3 rfl rfl rfl rfl rfl) (Eq.refl (some 101)) (o_n (d := 102) (za3 rfl rfl rfl rfl rfl) (Eq.refl (some 102)) (oq_ (zak true rfl rfl) (oq_ (za2 rfl) (o_n (d := 105) (za3 rfl rfl rfl rfl rfl) (Eq.refl (some 105)) (o_n (d := 106) (za3 rfl rfl rfl rfl rfl) (Eq.refl (some 106)) ?_)))))))))
         refine o_n (d := 107) (za3 rfl rfl rfl rfl rfl) (Eq.refl (some 107)) (o_n (d := 108) (za3 rfl rfl rfl rfl rfl) (Eq.refl (some 108)) (oq_ (zak true rfl rfl) (o_end (za1 (zar rfl (c_seq (za0 (oq_ (q_asg rfl) (o_end ?_)))))))))
         refine za1 (c_ret (zaa ?_))
         have e0_ := si_ h; clear h
         subst e0_
         exact x_r1 () Try.results7 (zad rfl) rfl (pk_ [])
       ·replace h := bb_f hb67 h
        refine o_n (d := 83) (za3 rfl rfl rfl (congrArg (fun b => Value.bool (!(b))) hb67) rfl) (Eq.refl (some 83)) (o_n (d := 84) (za3 rfl rfl rfl (congrArg (fun b => Value.bool (!(b))) hb67) rfl) (Eq.refl (some 84)) (oq_ (zak true (congrArg (fun b => Value.bool (!(b))) hb67) rfl) (oq_ (za2 rfl) (o_n (d := 87) (za3 rfl rfl rfl rfl rfl) (Eq.refl (some 87)) (o_n (d := 88) (za3 rfl rfl rfl rfl rfl) (Eq.refl (some 88)) (o_n (d := 89) (za3 rfl rfl rfl rfl rfl) (Eq.refl (some 89)) (o_n (d := 90) (za3 rfl rfl rfl rfl rfl) (Eq.refl (some 90)) (oq_ (zak true rfl rfl) (oq_ (za2 rfl) ?_)))))))))
        refine o_n (d := 93) (za3 rfl rfl rfl rfl rfl) (Eq.refl (some 93)) (o_n (d := 94) (za3 rfl rfl rfl rfl rfl) (Eq.refl (some 94)) (o_n (d := 95) (za3 rfl rfl rfl rfl rfl) (Eq.refl (some 95)) (o_n (d := 96) (za3 rfl rfl rfl rfl rfl) (Eq.refl (some 96)) (oq_ (zak true rfl rfl) (oq_ (za2 rfl) (o_n (d := 99) (za3 rfl rfl rfl rfl rfl) (Eq.refl (some 99)) (o_n (d := 100) (za3 rfl rfl rfl rfl rfl) (Eq.refl (some 100)) (o_n (d := 101) (za3 rfl rfl rfl rfl rfl) (Eq.refl (some 101)) (o_n (d := 102) (za3 rfl rfl rfl rfl rfl) (Eq.refl (some 102)) ?_)))))))))
        refine oq_ (zak true rfl rfl) (oq_ (za2 rfl) (o_n (d := 105) (za3 rfl rfl rfl rfl rfl) (Eq.refl (some 105)) (o_n (d := 106) (za3 rfl rfl rfl rfl rfl) (Eq.refl (some 106)) (o_n (d := 107) (za3 rfl rfl rfl rfl rfl) (Eq.refl (some 107)) (o_n (d := 108) (za3 rfl rfl rfl rfl rfl) (Eq.refl (some 108)) (oq_ (zak true rfl rfl) (o_end (za1 (zar rfl ?_)))))))))
        refine c_seq (za0 (oq_ (q_asg rfl) (o_end (za1 (c_ret (zaa ?_))))))
        have e0_ := si_ h; clear h
        subst e0_
        exact x_r1 () Try.results7 (zad rfl) rfl (pk_ [])
      ·replace h := bb_f hb66 h
       refine o_n (d := 79) (za3 rfl rfl rfl (congrArg (fun b => Value.bool (!(b))) hb66) rfl) (Eq.refl (some 79)) (o_n (d := 80) (za3 rfl rfl rfl (congrArg (fun b => Value.bool (!(b))) hb66) rfl) (Eq.refl (some 80)) (oq_ (zak true (congrArg (fun b => Value.bool (!(b))) hb66) rfl) (oq_ (za2 rfl) (o_n (d := 83) (za3 rfl rfl rfl rfl rfl) (Eq.refl (some 83)) (o_n (d := 84) (za3 rfl rfl rfl rfl rfl) (Eq.refl (some 84)) (oq_ (zak true rfl rfl) (oq_ (za2 rfl) (o_n (d := 87) (za3 rfl rfl rfl rfl rfl) (Eq.refl (some 87)) (o_n (d := 88) (za3 rfl rfl rfl rfl rfl) (Eq.refl (some 88)) ?_)))))))))
       refine o_n (d := 89) (za3 rfl rfl rfl rfl rfl) (Eq.refl (some 89)) (o_n (d := 90) (za3 rfl rfl rfl rfl rfl) (Eq.refl (some 90)) (oq_ (zak true rfl rfl) (oq_ (za2 rfl) (o_n (d := 93) (za3 rfl rfl rfl rfl rfl) (Eq.refl (some 93)) (o_n (d := 94) (za3 rfl rfl rfl rfl rfl) (Eq.refl (some 94)) (o_n (d := 95) (za3 rfl rfl rfl rfl rfl) (Eq.refl (some 95)) (o_n (d := 96) (za3 rfl rfl rfl rfl rfl) (Eq.refl (some 96)) (oq_ (zak true rfl rfl) (oq_ (za2 rfl) ?_)))))))))
       refine o_n (d := 99) (za3 rfl rfl rfl rfl rfl) (Eq.refl (some 99)) (o_n (d := 100) (za3 rfl rfl rfl rfl rfl) (Eq.refl (some 100)) (o_n (d := 101) (za3 rfl rfl rfl rfl rfl) (Eq.refl (some 101)) (o_n (d := 102) (za3 rfl rfl rfl rfl rfl) (Eq.refl (some 102)) (oq_ (zak true rfl rfl) (oq_ (za2 rfl) (o_n (d := 105) (za3 rfl rfl rfl rfl rfl) (Eq.refl (some 105)) (o_n (d := 106) (za3 rfl rfl rfl rfl rfl) (Eq.refl (some 106)) (o_n (d := 107) (za3 rfl rfl rfl rfl rfl) (Eq.refl (some 107)) (o_n (d := 108) (za3 rfl rfl rfl rfl rfl) (Eq.refl (some 108)) ?_)))))))))
       refine oq_ (zak true rfl rfl) (o_end (za1 (zar rfl (c_seq (za0 (oq_ (q_asg rfl) (o_end (za1 (c_ret ?_)))))))))
       refine zaa ?_
       have e0_ := si_ h; clear h
       subst e0_
       exact x_r1 () Try.results7 (zad rfl) rfl (pk_ [])
     ·replace h := bb_f hb65 h
      refine o_n (d := 75) (za3 rfl rfl rfl (congrArg (fun b => Value.bool (!(b))) hb65) rfl) (Eq.refl (some 75)) (o_n (d := 76) (za3 rfl rfl rfl (congrArg (fun b => Value.bool (!(b))) hb65) rfl) (Eq.refl (some 76)) (oq_ (zak true (congrArg (fun b => Value.bool (!(b))) hb65) rfl) (oq_ (za2 rfl) (o_n (d := 79) (za3 rfl rfl rfl rfl rfl) (Eq.refl (some 79)) (o_n (d := 80) (za3 rfl rfl rfl rfl rfl) (Eq.refl (some 80)) (oq_ (zak true rfl rfl) (oq_ (za2 rfl) (o_n (d := 83) (za3 rfl rfl rfl rfl rfl) (Eq.refl (some 83)) (o_n (d := 84) (za3 rfl rfl rfl rfl rfl) (Eq.refl (some 84)) ?_)))))))))
      refine oq_ (zak true rfl rfl) (oq_ (za2 rfl) (o_n (d := 87) (za3 rfl rfl rfl rfl rfl) (Eq.refl (some 87)) (o_n (d := 88) (za3 rfl rfl rfl rfl rfl) (Eq.refl (some 88)) (o_n (d := 89) (za3 rfl rfl rfl rfl rfl) (Eq.refl (some 89)) (o_n (d := 90) (za3 rfl rfl rfl rfl rfl) (Eq.refl (some 90)) (oq_ (zak true rfl rfl) (oq_ (za2 rfl) (o_n (d := 93) (za3 rfl rfl rfl rfl rfl) (Eq.refl (some 93)) (o_n (d := 94) (za3 rfl rfl rfl rfl rfl) (Eq.refl (some 94)) ?_)))))))))
      refine o_n (d := 95) (za3 rfl rfl rfl rfl rfl) (Eq.refl (some 95)) (o_n (d := 96) (za3 rfl rfl rfl rfl rfl) (Eq.refl (some 96)) (oq_ (zak true rfl rfl) (oq_ (za2 rfl) (o_n (d := 99) (za3 rfl rfl rfl rfl rfl) (Eq.refl (some 99)) (o_n (d := 100) (za3 rfl rfl rfl rfl rfl) (Eq.refl (some 100)) (o_n (d := 101) (za3 rfl rfl rfl rfl rfl) (Eq.refl (some 101)) (o_n (d := 102) (za3 rfl rfl rfl rfl rfl) (Eq.refl (some 102)) (oq_ (zak true rfl rfl) (oq_ (za2 rfl) ?_)))))))))
      refine o_n (d := 105) (za3 rfl rfl rfl rfl rfl) (Eq.refl (some 105)) (o_n (d := 106) (za3 rfl rfl rfl rfl rfl) (Eq.refl (some 106)) (o_n (d := 107) (za3 rfl rfl rfl rfl rfl) (Eq.refl (some 107)) (o_n (d := 108) (za3 rfl rfl rfl rfl rfl) (Eq.refl (some 108)) (oq_ (zak true rfl rfl) (o_end (za1 (zar rfl (c_seq (za0 ?_)))))))))
      refine oq_ (q_asg rfl) (o_end (za1 (c_ret (zaa ?_))))
      have e0_ := si_ h; clear h
      subst e0_
      exact x_r1 () Try.results7 (zad rfl) rfl (pk_ [])

end Go.Proofs.Ytiaohjciddbpoaa.M5
