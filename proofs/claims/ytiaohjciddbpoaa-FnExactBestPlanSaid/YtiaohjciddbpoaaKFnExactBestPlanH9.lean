import Derived.Test.YtiaohjciddbpoaaKFnExactBestPlanH9p5
namespace Go.Proofs.Ytiaohjciddbpoaa.H9
set_option maxHeartbeats 8000000
set_option maxRecDepth 100000
open Go.RowKit Go.Proofs.Ytiaohjciddbpoaa.Frame Go.Proofs.YtiaohjciddbpoaaW.PrintLast Go.Proofs.Ytiaohjciddbpoaa.Hand
open Go.Proofs.YtiaohjciddbpoaaW.PrintWords hiding mn mx
set_option linter.unusedVariables false
def impl_BestPlan.f (k : Nat) (a0 : Int) : Option (Int × (List SStep) × (List Int) × Bool) := (impl_methodPlans.f k a0).bind fun (i4, l5, l6, i7, l8, l9, i10, l11, l12, i13, l14, l15, i16, l17, l18, i19, l20, l21, i22, l23, l24, b25) => if b25 = true then ((slices_MinFunc_impl_Plan_impl_Plan.f i4 l5 l6 i7 l8 l9 i10 l11 l12 i13 l14 l15 i16 l17 l18 i19 l20 l21 i22 l23 l24).bind fun (i57, l58, l59) => some (i57, l58, l59, true)) else (some (0, ([] : List SStep), ([] : List Int), false))
theorem impl_BestPlan.calls (k : Nat) {w0 ws : World} {P0 : Nat → Prop} (a0 : Int) (Z : Below w0.heap.size w0 ws) (hF : Fr w0 ws P0 [] ws)  (r_1 : Int) (r_2 : List SStep) (r_5 : List Int) (r_8 : Bool) (h : impl_BestPlan.f k a0 = some (r_1, r_2, r_5, r_8)) :
    Calls Try.prog 35 #[.int .i64 a0] ws (Post1 w0 ws P0 (fun ((q_3, q_4, q_6, q_7) : (Option Addr) × Nat × (Option Addr) × Nat) => .tuple #[.agg #[.int .i64 r_1, .slice q_3 r_2.length q_4, .slice q_6 r_5.length q_7], .bool r_8]) (fun ((q_3, q_4, q_6, q_7) : (Option Addr) × Nat × (Option Addr) × Nat) => [row kStep 107 (.slice q_3 r_2.length q_4) r_2, row (Kd.int .i64) 3 (.slice q_6 r_5.length q_7) r_5])) := by
  unfold impl_BestPlan.f at h
  refine enter Try.func35 rfl Try.ntmps35 rfl hF (c_seq (za0 (o_e rfl (zaf V25 rfl) (fun g1 => o_q rfl rfl (q_asg rfl) (o_end (za1 (c_seq (za0 (o_q rfl rfl (za2 rfl) ?_)))))))))
  refine bindE22 h (fun i4 l5 l6 i7 l8 l9 i10 l11 l12 i13 l14 l15 i16 l17 l18 i19 l20 l21 i22 l23 l24 b25 hx3 h => ?_) rfl
  refine o_e rfl (za6 0 Z Try.func69 N69 rfl rfl rfl (fun w P1 hF hB hS hT => impl_methodPlans.calls k a0 hB hF _ _ _ _ _ _ _ _ _ _ _ _ _ _ _ _ _ _ _ _ _ _ hx3)) (cur29 (fun c26 A27 c28 A29 c30 A31 c32 A33 c34 A35 c36 A37 c38 A39 c40 A41 c42 A43 c44 A45 c46 A47 c48 A49 c50 A51 c52 A53 c54 => o_q rfl rfl (za2 rfl) (o_q rfl rfl (q_ext rfl rfl) (o_q rfl rfl (q_ext rfl rfl) (o_q rfl rfl (q_asg rfl) (o_q rfl rfl (q_asg rfl) (o_end (za1 (c_seq (c_seq ?_))))))))))
  refine za0 (o_q rfl rfl (za2 rfl) (o_q rfl rfl (q_not rfl) (o_end (za1 (zaq _ rfl (fun hb55 => ?_) (fun hb55 => ?_))))))
  · replace hb55 := nt_t hb55
    replace h := bb_f hb55 h
    refine c_seq (za0 (o_q rfl rfl (q_build (vs := []) (cs := [.int .i64 0, .slice none 0 0, .slice none 0 0]) rfl rfl) (o_e rfl (zah (i := 15) rfl rfl rfl Z25 rfl rfl) (fun _ => o_q rfl rfl (q_asg rfl) (o_end (za1 (c_ret (zab (x_nil kStep 107 ?_)))))))))
    refine x_nil (Kd.int .i64) 3 ?_
    have e0_ := si_ h; clear h
    obtain ⟨rfl, e1_⟩ := Prod.mk.inj e0_
    obtain ⟨rfl, e2_⟩ := Prod.mk.inj e1_
    obtain ⟨rfl, e3_⟩ := Prod.mk.inj e2_
    subst e3_
    exact x_r2 (none, 0, none, 0) Try.results35 (zb5 rfl G25 Z25 (fun w h => h.za9 (i := 17) rfl) rfl) (zal rfl) rfl (fun w h => za5 [1, 0] dc_ rfl w h)
  · replace hb55 := nt_f hb55
    replace h := bb_t hb55 h
    refine zam (za1 (c_seq (za0 (o_q rfl rfl (za2 rfl) (o_pick [1, 2, 3, 4, 5, 6, 7, 8, 9, 10, 11, 12, 13, 14, 0, 15] dc_ rfl (bindE3 h (fun i57 l58 l59 hx56 h => ?_) rfl))))))
    refine o_e rfl (za6 14 Z Try.func80 N80 rfl rfl rfl (fun w P1 hF hB hS hT => slices_MinFunc_impl_Plan_impl_Plan.calls c26 i4 A27 c28 l5.length l5 A29 c30 l6.length l6 i7 A31 c32 l8.length l8 A33 c34 l9.length l9 i10 A35 c36 l11.length l11 A37 c38 l12.length l12 i13 A39 c40 l14.length l14 A41 c42 l15.length l15 i16 A43 c44 l17.length l17 A45 c46 l18.length l18 i19 A47 c48 l20.length l20 A49 c50 l21.length l21 i22 A51 c52 l23.length l23 A53 c54 l24.length l24 hB hF (hT 0 _ rfl).box _ _ _ hx56)) (cur4 (fun A60 c61 A62 c63 => o_e rfl (zah (i := 3) rfl rfl rfl Z25 rfl rfl) (fun _ => o_q rfl rfl (q_asg rfl) (o_end (za1 (c_ret ?_))))))
    have e0_ := si_ h; clear h
    obtain ⟨rfl, e1_⟩ := Prod.mk.inj e0_
    obtain ⟨rfl, e2_⟩ := Prod.mk.inj e1_
    obtain ⟨rfl, e3_⟩ := Prod.mk.inj e2_
    subst e3_
    exact x_r2 (A60, c61, A62, c63) Try.results35 (zb5 rfl G25 Z25 (fun w h => h.za9 (i := 3) rfl) rfl) (zal rfl) rfl (fun w h => za5 [0, 1] dc_ rfl w h)

def laws_eqStep.f (a0 : SStep) (a1 : SStep) : Option Bool := if a0.f0 ≠ a1.f0 then (some false) else (if a0.f1 ≠ a1.f1 then (some false) else (some true))
theorem laws_eqStep.calls {w0 ws : World} {P0 : Nat → Prop} (a0 : SStep) (a1 : SStep) (Z : Below w0.heap.size w0 ws) (hF : Fr w0 ws P0 [] ws)  (r_1 : Bool) (h : laws_eqStep.f a0 a1 = some r_1) :
    Calls Try.prog 119 #[.agg #[.int .i64 a0.f0, .int .i64 a0.f1], .agg #[.int .i64 a1.f0, .int .i64 a1.f1]] ws (Post1 w0 ws P0 (fun (_ : Unit) => .bool r_1) (fun (_ : Unit) => [])) := by
  unfold laws_eqStep.f at h
  refine enter Try.func119 rfl Try.ntmps119 rfl hF (c_seq (za0 (o_e rfl (e_box rfl) (fun g1 => o_e rfl (e_box rfl) (fun g3 => o_q rfl rfl (q_asg rfl) (o_end (za1 (c_seq (c_seq ?_)))))))))
  refine za0 (o_q rfl rfl (q_f F107_0 rfl) (o_q rfl rfl (q_ldb Y3 rfl (fun w h => h.za9 (i := 1) rfl) rfl) (o_q rfl rfl (q_f F107_0 rfl) (o_q rfl rfl (q_ldb Y3 rfl (fun w h => h.za9 (i := 0) rfl) rfl) (o_q rfl rfl (q_neq rfl rfl) (o_end (za1 (zaq _ rfl (fun hb5 => ?_) (fun hb5 => ?_)))))))))
  · skip
    replace h := br_t hb5 h
    refine c_seq (za0 (o_q rfl rfl (q_asg rfl) (o_end (za1 (c_ret (zab ?_))))))
    have e0_ := si_ h; clear h
    subst e0_
    exact x_r1 () Try.results119 (zal rfl) rfl (fun w h => za5 [] dc_ rfl w h)
  · skip
    replace h := br_f hb5 h
    refine zam (za1 (c_seq (c_seq (za0 (o_q rfl rfl (q_f F107_1 rfl) (o_q rfl rfl (q_ldb Y3 rfl (fun w h => h.za9 (i := 1) rfl) rfl) (o_q rfl rfl (q_f F107_1 rfl) (o_q rfl rfl (q_ldb Y3 rfl (fun w h => h.za9 (i := 0) rfl) rfl) (o_q rfl rfl (q_neq rfl rfl) ?_)))))))))
    refine o_end (za1 (zaq _ rfl (fun hb6 => ?_) (fun hb6 => ?_)))
    · skip
      replace h := br_t hb6 h
      refine c_seq (za0 (o_q rfl rfl (q_asg rfl) (o_end (za1 (c_ret (zab ?_))))))
      have e0_ := si_ h; clear h
      subst e0_
      exact x_r1 () Try.results119 (zal rfl) rfl (fun w h => za5 [] dc_ rfl w h)
    · skip
      replace h := br_f hb6 h
      refine zam (za1 (c_seq (za0 (o_q rfl rfl (q_asg rfl) (o_end (za1 (c_ret ?_)))))))
      have e0_ := si_ h; clear h
      subst e0_
      exact x_r1 () Try.results119 (zal rfl) rfl (fun w h => za5 [] dc_ rfl w h)

def laws_eqStepS.l0 (l0 : List SStep) (l1 : List SStep) : Nat → Int → Option ((Bool) ⊕ (Unit))
  | 0, _ => none
  | k5 + 1, i2 => if i2 < (l0.length : Int) then ((gt l0 i2).bind fun y16 => (gt l1 i2).bind fun y19 => (laws_eqStep.f y16 y19).bind fun b21 => if b21 = true then (laws_eqStepS.l0 l0 l1 k5 (w64 (i2 + 1))) else (some (.inl false))) else (some (.inr ()))
def laws_eqStepS.f (k : Nat) (l0 : List SStep) (l1 : List SStep) : Option Bool := if (l0.length : Int) ≠ (l1.length : Int) then (some false) else ((laws_eqStepS.l0 l0 l1 k 0).bind fun o_ => match o_ with | .inl r_ => some r_ | .inr _ => some true)
theorem laws_eqStepS.calls (k : Nat) {w0 ws : World} {P0 : Nat → Prop} (A0 : Option Addr) (c0 : Nat) (n0 : Nat) (l0 : List SStep) (A1 : Option Addr) (c1 : Nat) (n1 : Nat) (l1 : List SStep) (Z : Below w0.heap.size w0 ws) (hF : Fr w0 ws P0 [] ws) (R0 : Stable ws P0 (fun w => Kd.C kStep w A0 n0 l0)) (hc0 : n0 ≤ c0) (R1 : Stable ws P0 (fun w => Kd.C kStep w A1 n1 l1)) (hc1 : n1 ≤ c1) (r_1 : Bool) (h : laws_eqStepS.f k l0 l1 = some r_1) :
    Calls Try.prog 63 #[.slice A0 n0 c0, .slice A1 n1 c1] ws (Post1 w0 ws P0 (fun (_ : Unit) => .bool r_1) (fun (_ : Unit) => [])) := by
  unfold laws_eqStepS.f at h
  obtain rfl := (R0 ws (KeptB.refl _ _)).1
  obtain rfl := (R1 ws (KeptB.refl _ _)).1
  refine enter Try.func63 rfl Try.ntmps63 rfl hF (c_seq (za0 (o_q rfl rfl (q_asg rfl) (o_end (za1 (c_seq (c_seq (za0 (o_q rfl rfl (za2 rfl) ?_)))))))))
  refine o_q rfl rfl (q_len Try.underlying22 rfl) (o_q rfl rfl (za2 rfl) (o_q rfl rfl (q_len Try.underlying22 rfl) (o_q rfl rfl (q_neq rfl rfl) (o_end (za1 (zaq _ rfl (fun hb1 => ?_) (fun hb1 => ?_)))))))
  · skip
    replace h := br_t hb1 h
    refine c_seq (za0 (o_q rfl rfl (q_asg rfl) (o_end (za1 (c_ret (zab ?_))))))
    have e0_ := si_ h; clear h
    subst e0_
    exact x_r1 () Try.results63 (zal rfl) rfl (fun w h => za5 [] dc_ rfl w h)
  · skip
    replace h := br_f hb1 h
    refine zam (za1 (c_seq (c_seq (za0 (o_q rfl rfl (q_asg rfl) (o_end (za1 (zai (za7 h (fun o10 hl9 hR8 => ?_) rfl)))))))))
    clear h
    refine zaw (σ := Int) (fun k5 (i2 : Int) => laws_eqStepS.l0 l0 l1 k5 i2 = some o10) [4, 5, 11, 12, 13, 14, 15, 16, 17, 18, 19, 20, 21, 22, 23, 24, 25, 26] (fun (i2 : Int) => [(5, .int .i64 i2)]) (fun (i2 : Int) => []) k 0 hl9 ⟨rfl, trivial⟩ (fun w h => h) (natC (fun i2 => fun U11 hJ_ => ?_) (fun k5 => (fun i2 => fun U11 hJ_ => ?_)))
    · skip
      replace hJ_ : laws_eqStepS.l0 l0 l1 0 i2 = some o10 := hJ_
      rw [laws_eqStepS.l0] at hJ_
      exact noneE hJ_
    · skip
      clear hl9
      have h := hJ_; clear hJ_
      replace h : laws_eqStepS.l0 l0 l1 (k5 + 1) i2 = some o10 := h
      rw [laws_eqStepS.l0] at h
      refine c_seq (c_seq (za0 (o_q rfl rfl (za2 rfl) (o_q rfl rfl (za2 rfl) (o_q rfl rfl (q_len Try.underlying22 rfl) (o_q rfl rfl (q_lss rfl rfl) (o_end (za1 (zaq _ rfl (fun hb13 => ?_) (fun hb13 => ?_))))))))))
      · skip
        replace h := br_t hb13 h
        refine zam (za1 (c_seq (zai (c_seq (a_start (ds := []) MO rfl (za4 0 rfl rfl rfl kr_ (fun _ _ _ h => h) (za2 rfl) (za4 1 rfl rfl rfl kr_ (fun _ _ _ h => h) (za2 rfl) (a_fact (p := Sh A0 l0.length l0.length) (fun w h => f_sh (dk := kStep) h (fun w h => R0.now Z h)) (fun hq14 => za7 h (fun y16 hg15 h => ?_) rfl)))))))))
        refine za4 2 rfl rfl rfl kr_ (fun _ _ _ h => h) (q_ix Try.underlying22 Z107 rfl rfl hq14 hg15) (zau 3 rfl rfl rfl kr_ (fun _ _ _ h => h) (fun w h => h) (q_ldE G107 Z107 rfl rfl (fun w h => R0.now Z h) hg15 (fun _ _ h => h) rfl) (za4 4 rfl rfl rfl kr_ (fun _ _ _ h => h) (za2 rfl) (za4 5 rfl rfl rfl kr_ (fun _ _ _ h => h) (za2 rfl) (a_fact (p := Sh A1 l1.length l1.length) (fun w h => f_sh (dk := kStep) h (fun w h => R1.now Z h)) (fun hq17 => za7 h (fun y19 hg18 h => ?_) rfl)))))
        refine za4 6 rfl rfl rfl kr_ (fun _ _ _ h => h) (q_ix Try.underlying22 Z107 rfl rfl hq17 hg18) (zau 7 rfl rfl rfl kr_ (fun _ _ _ h => h) (fun w h => h) (q_ldE G107 Z107 rfl rfl (fun w h => R1.now Z h) hg18 (fun _ _ h => h) rfl) (za7 h (fun b21 hx20 h => ?_) rfl))
        refine a_one 8 rfl rfl kr_ rfl (za6 0 Z Try.func119 N119 rfl rfl rfl (fun w P1 hF hB hS hT => laws_eqStep.calls y16 y19 hB hF _ hx20)) (fun s w h => h) (fun _ => za4 9 rfl rfl rfl kr_ (fun _ _ _ h => h) (q_not rfl) (zao kr_ (za1 (zaq _ rfl (fun hb22 => ?_) (fun hb22 => ?_)))))
        · replace hb22 := nt_t hb22
          replace h := bb_f hb22 h
          refine c_seq (za0 (o_q rfl rfl (q_asg rfl) (o_end (za1 (c_ret (zat (zab (zab ?_))))))))
          have e_ := si_ h; replace h := hR8; rw [← e_] at h; clear e_
          refine zat (zab ?_)
          have e0_ := si_ h; clear h
          subst e0_
          exact x_r1 () Try.results63 (zal rfl) rfl (fun w h => za5 [] dc_ rfl w h)
        · replace hb22 := nt_f hb22
          replace h := bb_t hb22 h
          refine zam (zak (za1 (za0 (o_q rfl rfl (za2 rfl) (o_q rfl rfl (zb0 rfl rfl) (o_q rfl rfl (q_asg rfl) (o_end (zan k5 (w64 (i2 + 1)) (Nat.lt_succ_self _) h ⟨rfl, trivial⟩ (fun w h => za5 [] dc_ rfl w h) ?_))))))))
          exact of_
      · skip
        replace h := br_f hb13 h
        refine zb2 (za8 (za8 ?_))
        have e_ := si_ h; replace h := hR8; rw [← e_] at h; clear e_
        refine x_hit (za1 (c_seq (za0 (o_q rfl rfl (q_asg rfl) (o_end (za1 (c_ret ?_)))))))
        have e0_ := si_ h; clear h
        subst e0_
        exact x_r1 () Try.results63 (zal rfl) rfl (fun w h => za5 [] dc_ rfl w h)

def laws_eqIntS.l0 (l0 : List Int) (l1 : List Int) : Nat → Int → Option ((Bool) ⊕ (Unit))
  | 0, _ => none
  | k5 + 1, i2 => if i2 < (l0.length : Int) then ((gt l0 i2).bind fun y16 => (gt l1 i2).bind fun y19 => if y16 ≠ y19 then (some (.inl false)) else (laws_eqIntS.l0 l0 l1 k5 (w64 (i2 + 1)))) else (some (.inr ()))
def laws_eqIntS.f (k : Nat) (l0 : List Int) (l1 : List Int) : Option Bool := if (l0.length : Int) ≠ (l1.length : Int) then (some false) else ((laws_eqIntS.l0 l0 l1 k 0).bind fun o_ => match o_ with | .inl r_ => some r_ | .inr _ => some true)
theorem laws_eqIntS.calls (k : Nat) {w0 ws : World} {P0 : Nat → Prop} (A0 : Option Addr) (c0 : Nat) (n0 : Nat) (l0 : List Int) (A1 : Option Addr) (c1 : Nat) (n1 : Nat) (l1 : List Int) (Z : Below w0.heap.size w0 ws) (hF : Fr w0 ws P0 [] ws) (R0 : Stable ws P0 (fun w => Kd.C (Kd.int .i64) w A0 n0 l0)) (hc0 : n0 ≤ c0) (R1 : Stable ws P0 (fun w => Kd.C (Kd.int .i64) w A1 n1 l1)) (hc1 : n1 ≤ c1) (r_1 : Bool) (h : laws_eqIntS.f k l0 l1 = some r_1) :
    Calls Try.prog 19 #[.slice A0 n0 c0, .slice A1 n1 c1] ws (Post1 w0 ws P0 (fun (_ : Unit) => .bool r_1) (fun (_ : Unit) => [])) := by
  unfold laws_eqIntS.f at h
  obtain rfl := (R0 ws (KeptB.refl _ _)).1
  obtain rfl := (R1 ws (KeptB.refl _ _)).1
  refine enter Try.func19 rfl Try.ntmps19 rfl hF (c_seq (za0 (o_q rfl rfl (q_asg rfl) (o_end (za1 (c_seq (c_seq (za0 (o_q rfl rfl (za2 rfl) ?_)))))))))
  refine o_q rfl rfl (q_len Try.underlying23 rfl) (o_q rfl rfl (za2 rfl) (o_q rfl rfl (q_len Try.underlying23 rfl) (o_q rfl rfl (q_neq rfl rfl) (o_end (za1 (zaq _ rfl (fun hb1 => ?_) (fun hb1 => ?_)))))))
  · skip
    replace h := br_t hb1 h
    refine c_seq (za0 (o_q rfl rfl (q_asg rfl) (o_end (za1 (c_ret (zab ?_))))))
    have e0_ := si_ h; clear h
    subst e0_
    exact x_r1 () Try.results19 (zal rfl) rfl (fun w h => za5 [] dc_ rfl w h)
  · skip
    replace h := br_f hb1 h
    refine zam (za1 (c_seq (c_seq (za0 (o_q rfl rfl (q_asg rfl) (o_end (za1 (zai (za7 h (fun o10 hl9 hR8 => ?_) rfl)))))))))
    clear h
    refine zaw (σ := Int) (fun k5 (i2 : Int) => laws_eqIntS.l0 l0 l1 k5 i2 = some o10) [4, 5, 11, 12, 13, 14, 15, 16, 17, 18, 19, 20, 21, 22, 23, 24, 25] (fun (i2 : Int) => [(5, .int .i64 i2)]) (fun (i2 : Int) => []) k 0 hl9 ⟨rfl, trivial⟩ (fun w h => h) (natC (fun i2 => fun U11 hJ_ => ?_) (fun k5 => (fun i2 => fun U11 hJ_ => ?_)))
    · skip
      replace hJ_ : laws_eqIntS.l0 l0 l1 0 i2 = some o10 := hJ_
      rw [laws_eqIntS.l0] at hJ_
      exact noneE hJ_
    · skip
      clear hl9
      have h := hJ_; clear hJ_
      replace h : laws_eqIntS.l0 l0 l1 (k5 + 1) i2 = some o10 := h
      rw [laws_eqIntS.l0] at h
      refine c_seq (c_seq (za0 (o_q rfl rfl (za2 rfl) (o_q rfl rfl (za2 rfl) (o_q rfl rfl (q_len Try.underlying23 rfl) (o_q rfl rfl (q_lss rfl rfl) (o_end (za1 (zaq _ rfl (fun hb13 => ?_) (fun hb13 => ?_))))))))))
      · skip
        replace h := br_t hb13 h
        refine zam (za1 (c_seq (zai (c_seq (a_start (ds := []) MO rfl (za4 0 rfl rfl rfl kr_ (fun _ _ _ h => h) (za2 rfl) (za4 1 rfl rfl rfl kr_ (fun _ _ _ h => h) (za2 rfl) (a_fact (p := Sh A0 l0.length l0.length) (fun w h => f_sh (dk := (Kd.int .i64)) h (fun w h => R0.now Z h)) (fun hq14 => za7 h (fun y16 hg15 h => ?_) rfl)))))))))
        refine za4 2 rfl rfl rfl kr_ (fun _ _ _ h => h) (q_ix Try.underlying23 Z3 rfl rfl hq14 hg15) (zau 3 rfl rfl rfl kr_ (fun _ _ _ h => h) (fun w h => h) (q_lde (off := 0) Y3 rfl rfl (fun w h => R0.now Z h) hg15 (fun _ _ h => h) rfl) (za4 4 rfl rfl rfl kr_ (fun _ _ _ h => h) (za2 rfl) (za4 5 rfl rfl rfl kr_ (fun _ _ _ h => h) (za2 rfl) (a_fact (p := Sh A1 l1.length l1.length) (fun w h => f_sh (dk := (Kd.int .i64)) h (fun w h => R1.now Z h)) (fun hq17 => za7 h (fun y19 hg18 h => ?_) rfl)))))
        refine za4 6 rfl rfl rfl kr_ (fun _ _ _ h => h) (q_ix Try.underlying23 Z3 rfl rfl hq17 hg18) (zau 7 rfl rfl rfl kr_ (fun _ _ _ h => h) (fun w h => h) (q_lde (off := 0) Y3 rfl rfl (fun w h => R1.now Z h) hg18 (fun _ _ h => h) rfl) (za4 8 rfl rfl rfl kr_ (fun _ _ _ h => h) (q_neq rfl rfl) (zao kr_ (za1 (zaq _ rfl (fun hb20 => ?_) (fun hb20 => ?_))))))
        · skip
          replace h := br_t hb20 h
          refine c_seq (za0 (o_q rfl rfl (q_asg rfl) (o_end (za1 (c_ret (zat (zab (zab ?_))))))))
          have e_ := si_ h; replace h := hR8; rw [← e_] at h; clear e_
          refine zat (zab ?_)
          have e0_ := si_ h; clear h
          subst e0_
          exact x_r1 () Try.results19 (zal rfl) rfl (fun w h => za5 [] dc_ rfl w h)
        · skip
          replace h := br_f hb20 h
          refine zam (zak (za1 (za0 (o_q rfl rfl (za2 rfl) (o_q rfl rfl (zb0 rfl rfl) (o_q rfl rfl (q_asg rfl) (o_end (zan k5 (w64 (i2 + 1)) (Nat.lt_succ_self _) h ⟨rfl, trivial⟩ (fun w h => za5 [] dc_ rfl w h) ?_))))))))
          exact of_
      · skip
        replace h := br_f hb13 h
        refine zb2 (za8 (za8 ?_))
        have e_ := si_ h; replace h := hR8; rw [← e_] at h; clear e_
        refine x_hit (za1 (c_seq (za0 (o_q rfl rfl (q_asg rfl) (o_end (za1 (c_ret ?_)))))))
        have e0_ := si_ h; clear h
        subst e0_
        exact x_r1 () Try.results19 (zal rfl) rfl (fun w h => za5 [] dc_ rfl w h)

def laws_eqPlan.f (k : Nat) (a0_0 : Int) (l0_1 : List SStep) (l0_2 : List Int) (a1_0 : Int) (l1_1 : List SStep) (l1_2 : List Int) : Option Bool := if a0_0 ≠ a1_0 then (some false) else ((laws_eqStepS.f k l0_1 l1_1).bind fun b7 => if b7 = true then ((laws_eqIntS.f k l0_2 l1_2).bind fun b10 => if b10 = true then (some true) else (some false)) else (some false))
theorem laws_eqPlan.calls (k : Nat) {w0 ws : World} {P0 : Nat → Prop} (a0_0 : Int) (A0_1 : Option Addr) (c0_1 : Nat) (n0_1 : Nat) (l0_1 : List SStep) (A0_2 : Option Addr) (c0_2 : Nat) (n0_2 : Nat) (l0_2 : List Int) (a1_0 : Int) (A1_1 : Option Addr) (c1_1 : Nat) (n1_1 : Nat) (l1_1 : List SStep) (A1_2 : Option Addr) (c1_2 : Nat) (n1_2 : Nat) (l1_2 : List Int) (Z : Below w0.heap.size w0 ws) (hF : Fr w0 ws P0 [] ws) (R0_1 : Stable ws P0 (fun w => Kd.C kStep w A0_1 n0_1 l0_1)) (hc0_1 : n0_1 ≤ c0_1) (R0_2 : Stable ws P0 (fun w => Kd.C (Kd.int .i64) w A0_2 n0_2 l0_2)) (hc0_2 : n0_2 ≤ c0_2) (R1_1 : Stable ws P0 (fun w => Kd.C kStep w A1_1 n1_1 l1_1)) (hc1_1 : n1_1 ≤ c1_1) (R1_2 : Stable ws P0 (fun w => Kd.C (Kd.int .i64) w A1_2 n1_2 l1_2)) (hc1_2 : n1_2 ≤ c1_2) (r_1 : Bool) (h : laws_eqPlan.f k a0_0 l0_1 l0_2 a1_0 l1_1 l1_2 = some r_1) :
    Calls Try.prog 12 #[.agg #[.int .i64 a0_0, .slice A0_1 n0_1 c0_1, .slice A0_2 n0_2 c0_2], .agg #[.int .i64 a1_0, .slice A1_1 n1_1 c1_1, .slice A1_2 n1_2 c1_2]] ws (Post1 w0 ws P0 (fun (_ : Unit) => .bool r_1) (fun (_ : Unit) => [])) := by
  unfold laws_eqPlan.f at h
  obtain rfl := (R0_1 ws (KeptB.refl _ _)).1
  obtain rfl := (R0_2 ws (KeptB.refl _ _)).1
  obtain rfl := (R1_1 ws (KeptB.refl _ _)).1
  obtain rfl := (R1_2 ws (KeptB.refl _ _)).1
  refine enter Try.func12 rfl Try.ntmps12 rfl hF (c_seq (za0 (o_e rfl (e_box rfl) (fun g1 => o_e rfl (e_box rfl) (fun g3 => o_q rfl rfl (q_asg rfl) (o_end (za1 (c_seq (c_seq ?_)))))))))
  refine za0 (o_q rfl rfl (q_f F25_0 rfl) (o_q rfl rfl (q_ldb Y3 rfl (fun w h => h.za9 (i := 1) rfl) rfl) (o_q rfl rfl (q_f F25_0 rfl) (o_q rfl rfl (q_ldb Y3 rfl (fun w h => h.za9 (i := 0) rfl) rfl) (o_q rfl rfl (q_neq rfl rfl) (o_end (za1 (zaq _ rfl (fun hb5 => ?_) (fun hb5 => ?_)))))))))
  · skip
    replace h := br_t hb5 h
    refine c_seq (za0 (o_q rfl rfl (q_asg rfl) (o_end (za1 (c_ret (zab ?_))))))
    have e0_ := si_ h; clear h
    subst e0_
    exact x_r1 () Try.results12 (zal rfl) rfl (fun w h => za5 [] dc_ rfl w h)
  · skip
    replace h := br_f hb5 h
    refine zam (za1 (c_seq (c_seq (za0 (o_q rfl rfl (q_f F25_1 rfl) (o_q rfl rfl (q_ldb Y22 rfl (fun w h => h.za9 (i := 1) rfl) rfl) (o_q rfl rfl (q_f F25_1 rfl) (o_q rfl rfl (q_ldb Y22 rfl (fun w h => h.za9 (i := 0) rfl) rfl) (za7 h (fun b7 hx6 h => ?_) rfl)))))))))
    refine o_e rfl (za6 0 Z Try.func63 N63 rfl rfl rfl (fun w P1 hF hB hS hT => laws_eqStepS.calls k A0_1 c0_1 l0_1.length l0_1 A1_1 c1_1 l1_1.length l1_1 hB hF (hS _ R0_1) hc0_1 (hS _ R1_1) hc1_1 _ hx6)) (fun _ => o_q rfl rfl (q_not rfl) (o_end (za1 (zaq _ rfl (fun hb8 => ?_) (fun hb8 => ?_)))))
    · replace hb8 := nt_t hb8
      replace h := bb_f hb8 h
      refine c_seq (za0 (o_q rfl rfl (q_asg rfl) (o_end (za1 (c_ret (zab ?_))))))
      have e0_ := si_ h; clear h
      subst e0_
      exact x_r1 () Try.results12 (zal rfl) rfl (fun w h => za5 [] dc_ rfl w h)
    · replace hb8 := nt_f hb8
      replace h := bb_t hb8 h
      refine zam (za1 (c_seq (c_seq (za0 (o_q rfl rfl (q_f F25_2 rfl) (o_q rfl rfl (q_ldb Y23 rfl (fun w h => h.za9 (i := 1) rfl) rfl) (o_q rfl rfl (q_f F25_2 rfl) (o_q rfl rfl (q_ldb Y23 rfl (fun w h => h.za9 (i := 0) rfl) rfl) (za7 h (fun b10 hx9 h => ?_) rfl)))))))))
      refine o_e rfl (za6 0 Z Try.func19 N19 rfl rfl rfl (fun w P1 hF hB hS hT => laws_eqIntS.calls k A0_2 c0_2 l0_2.length l0_2 A1_2 c1_2 l1_2.length l1_2 hB hF (hS _ R0_2) hc0_2 (hS _ R1_2) hc1_2 _ hx9)) (fun _ => o_q rfl rfl (q_not rfl) (o_end (za1 (zaq _ rfl (fun hb11 => ?_) (fun hb11 => ?_)))))
      · replace hb11 := nt_t hb11
        replace h := bb_f hb11 h
        refine c_seq (za0 (o_q rfl rfl (q_asg rfl) (o_end (za1 (c_ret (zab ?_))))))
        have e0_ := si_ h; clear h
        subst e0_
        exact x_r1 () Try.results12 (zal rfl) rfl (fun w h => za5 [] dc_ rfl w h)
      · replace hb11 := nt_f hb11
        replace h := bb_t hb11 h
        refine zam (za1 (c_seq (za0 (o_q rfl rfl (q_asg rfl) (o_end (za1 (c_ret ?_)))))))
        have e0_ := si_ h; clear h
        subst e0_
        exact x_r1 () Try.results12 (zal rfl) rfl (fun w h => za5 [] dc_ rfl w h)

def laws_markStepS.l0 (l0 : List SStep) : Nat → (List SStep) → Int → Int → Option ((List SStep) × Int)
  | 0, _, _, _ => none
  | k6 + 1, l1, i2, i3 => if i3 < (l0.length : Int) then ((gt l1 i3).bind fun y17 => (st l1 i3 (⟨i2, y17.f1⟩ : SStep)).bind fun l18 => (gt l18 i3).bind fun y22 => (st l18 i3 (⟨y22.f0, w64 (i2 + 1)⟩ : SStep)).bind fun l23 => laws_markStepS.l0 l0 k6 l23 (w64 (w64 (i2 + 1) + 1)) (w64 (i3 + 1))) else (some (l1, i2))
def laws_markStepS.f (k : Nat) (l0 : List SStep) (a1 : Int) : Option (Int × (List SStep)) := (laws_markStepS.l0 l0 k l0 a1 0).bind fun (l1, i2) => some (i2, l1)
theorem laws_markStepS.calls (k : Nat) {w0 ws : World} {P0 : Nat → Prop} (A0 : Option Addr) (c0 : Nat) (n0 : Nat) (l0 : List SStep) (a1 : Int) (Z : Below w0.heap.size w0 ws) (hF : Fr w0 ws P0 [row kStep 107 (.slice A0 n0 c0) l0] ws)  (r_1 : Int) (r_2 : List SStep) (h : laws_markStepS.f k l0 a1 = some (r_1, r_2)) :
    Calls Try.prog 64 #[.slice A0 n0 c0, .int .i64 a1] ws (Post1 w0 ws P0 (fun (_ : Unit) => .int .i64 r_1) (fun (_ : Unit) => [row kStep 107 (.slice A0 n0 c0) r_2])) := by
  unfold laws_markStepS.f at h
  obtain rfl := (hF.row_C (i := 0) rfl).2.1
  refine enter Try.func64 rfl Try.ntmps64 rfl hF (c_seq (za0 (o_q rfl rfl (q_asg rfl) (o_end (za1 (c_seq (c_seq (za0 (o_q rfl rfl (q_asg rfl) ?_)))))))))
  refine o_end (za1 (zai (za7 h (fun o11 hl10 hR9 => ?_) rfl)))
  clear h
  refine zaw (σ := (List SStep) × Int × Int) (fun k6 ((l1, i2, i3) : (List SStep) × Int × Int) => laws_markStepS.l0 l0 k6 l1 i2 i3 = some o11) [1, 5, 6, 7, 8, 9, 10, 11, 12, 13, 14, 15, 16, 17, 18, 19, 20, 21, 22, 23, 24, 25] (fun ((l1, i2, i3) : (List SStep) × Int × Int) => [(1, .int .i64 i2), (5, .int .i64 i3)]) (fun ((l1, i2, i3) : (List SStep) × Int × Int) => [row kStep 107 (.slice A0 l0.length c0) l1]) k (l0, a1, 0) hl10 ⟨rfl, rfl, trivial⟩ (fun w h => h) (natC (cur3 (fun l1 i2 i3 => fun U12 hJ_ => ?_)) (fun k6 => (cur3 (fun l1 i2 i3 => fun U12 hJ_ => ?_))))
  · skip
    replace hJ_ : laws_markStepS.l0 l0 0 l1 i2 i3 = some o11 := hJ_
    rw [laws_markStepS.l0] at hJ_
    exact noneE hJ_
  · skip
    clear hl10
    have h := hJ_; clear hJ_
    replace h : laws_markStepS.l0 l0 (k6 + 1) l1 i2 i3 = some o11 := h
    rw [laws_markStepS.l0] at h
    refine c_seq (c_seq (za0 (o_q rfl rfl (za2 rfl) (o_q rfl rfl (za2 rfl) (o_q rfl rfl (q_len Try.underlying22 rfl) (o_q rfl rfl (q_lss rfl rfl) (o_end (za1 (zaq _ rfl (fun hb14 => ?_) (fun hb14 => ?_))))))))))
    · skip
      replace h := br_t hb14 h
      refine zam (za1 (c_seq (zai (c_seq (za0 (o_q rfl rfl (za2 rfl) (o_q rfl rfl (za2 rfl) (o_q rfl rfl (za2 rfl) (zb4 (p := Sh A0 l0.length l1.length) (fun w h => f_sh (dk := kStep) h (fun w h => h.zar (i := 0) rfl)) (fun hq15 => ?_))))))))))
      refine za7 h (fun y17 hg16 h => ?_) rfl
      refine o_q rfl rfl (q_ix Try.underlying22 Z107 rfl rfl hq15 hg16) (o_q rfl rfl (q_fe F107_0 rfl) (za7 h (fun l18 hs19 h => ?_) rfl))
      refine o_e rfl (e_setF (i := 0) (off := 0) (vs := [.int .i64 i2]) (q' := (⟨i2, y17.f1⟩ : SStep)) rfl rfl rfl rfl rfl rfl Z3 hg16 rfl rfl hs19) (fun _ => o_end (za1 (c_seq (za0 (o_q rfl rfl (za2 rfl) (o_q rfl rfl (zb0 rfl rfl) (o_q rfl rfl (q_asg rfl) (o_end (za1 ?_)))))))))
      refine c_seq (za0 (o_q rfl rfl (za2 rfl) (o_q rfl rfl (za2 rfl) (o_q rfl rfl (za2 rfl) (zb4 (p := Sh A0 l0.length l18.length) (fun w h => f_sh (dk := kStep) h (fun w h => h.zar (i := 0) rfl)) (fun hq20 => za7 h (fun y22 hg21 h => ?_) rfl))))))
      refine o_q rfl rfl (q_ix Try.underlying22 Z107 rfl rfl hq20 hg21) (o_q rfl rfl (q_fe F107_1 rfl) (za7 h (fun l23 hs24 h => ?_) rfl))
      refine o_e rfl (e_setF (i := 0) (off := 1) (vs := [.int .i64 (w64 (i2 + 1))]) (q' := (⟨y22.f0, w64 (i2 + 1)⟩ : SStep)) rfl rfl rfl rfl rfl rfl Z3 hg21 rfl rfl hs24) (fun _ => o_end (za1 (za0 (o_q rfl rfl (za2 rfl) (o_q rfl rfl (zb0 rfl rfl) (o_q rfl rfl (q_asg rfl) (o_end (zak (za1 ?_)))))))))
      refine za0 (o_q rfl rfl (za2 rfl) (o_q rfl rfl (zb0 rfl rfl) (o_q rfl rfl (q_asg rfl) (o_end (zan k6 (l23, w64 (w64 (i2 + 1) + 1), w64 (i3 + 1)) (Nat.lt_succ_self _) h ⟨rfl, rfl, trivial⟩ (fun w h => za5 [0] dc_ rfl w h) ?_)))))
      exact of_
    · skip
      replace h := br_f hb14 h
      refine zb2 (za8 (za8 ?_))
      have e_ := si_ h; replace h := hR9; rw [← e_] at h; clear e_
      refine x_hit (za1 (c_seq (za0 (o_q rfl rfl (za2 rfl) (o_q rfl rfl (q_asg rfl) (o_end (za1 (c_ret ?_))))))))
      have e0_ := si_ h; clear h
      obtain ⟨rfl, e1_⟩ := Prod.mk.inj e0_
      subst e1_
      exact x_r1 () Try.results64 (zal rfl) rfl (fun w h => za5 [0] dc_ rfl w h)

def laws_markIntS.l0 (l0 : List Int) : Nat → (List Int) → Int → Int → Option ((List Int) × Int)
  | 0, _, _, _ => none
  | k6 + 1, l1, i2, i3 => if i3 < (l0.length : Int) then ((gt l1 i3).bind fun y17 => (st l1 i3 i2).bind fun l18 => laws_markIntS.l0 l0 k6 l18 (w64 (i2 + 1)) (w64 (i3 + 1))) else (some (l1, i2))
def laws_markIntS.f (k : Nat) (l0 : List Int) (a1 : Int) : Option (Int × (List Int)) := (laws_markIntS.l0 l0 k l0 a1 0).bind fun (l1, i2) => some (i2, l1)
theorem laws_markIntS.calls (k : Nat) {w0 ws : World} {P0 : Nat → Prop} (A0 : Option Addr) (c0 : Nat) (n0 : Nat) (l0 : List Int) (a1 : Int) (Z : Below w0.heap.size w0 ws) (hF : Fr w0 ws P0 [row (Kd.int .i64) 3 (.slice A0 n0 c0) l0] ws)  (r_1 : Int) (r_2 : List Int) (h : laws_markIntS.f k l0 a1 = some (r_1, r_2)) :
    Calls Try.prog 20 #[.slice A0 n0 c0, .int .i64 a1] ws (Post1 w0 ws P0 (fun (_ : Unit) => .int .i64 r_1) (fun (_ : Unit) => [row (Kd.int .i64) 3 (.slice A0 n0 c0) r_2])) := by
  unfold laws_markIntS.f at h
  obtain rfl := (hF.row_C (i := 0) rfl).2.1
  refine enter Try.func20 rfl Try.ntmps20 rfl hF (c_seq (za0 (o_q rfl rfl (q_asg rfl) (o_end (za1 (c_seq (c_seq (za0 (o_q rfl rfl (q_asg rfl) ?_)))))))))
  refine o_end (za1 (zai (za7 h (fun o11 hl10 hR9 => ?_) rfl)))
  clear h
  refine zaw (σ := (List Int) × Int × Int) (fun k6 ((l1, i2, i3) : (List Int) × Int × Int) => laws_markIntS.l0 l0 k6 l1 i2 i3 = some o11) [1, 5, 6, 7, 8, 9, 10, 11, 12, 13, 14, 15, 16, 17] (fun ((l1, i2, i3) : (List Int) × Int × Int) => [(1, .int .i64 i2), (5, .int .i64 i3)]) (fun ((l1, i2, i3) : (List Int) × Int × Int) => [row (Kd.int .i64) 3 (.slice A0 l0.length c0) l1]) k (l0, a1, 0) hl10 ⟨rfl, rfl, trivial⟩ (fun w h => h) (natC (cur3 (fun l1 i2 i3 => fun U12 hJ_ => ?_)) (fun k6 => (cur3 (fun l1 i2 i3 => fun U12 hJ_ => ?_))))
  · skip
    replace hJ_ : laws_markIntS.l0 l0 0 l1 i2 i3 = some o11 := hJ_
    rw [laws_markIntS.l0] at hJ_
    exact noneE hJ_
  · skip
    clear hl10
    have h := hJ_; clear hJ_
    replace h : laws_markIntS.l0 l0 (k6 + 1) l1 i2 i3 = some o11 := h
    rw [laws_markIntS.l0] at h
    refine c_seq (c_seq (za0 (o_q rfl rfl (za2 rfl) (o_q rfl rfl (za2 rfl) (o_q rfl rfl (q_len Try.underlying23 rfl) (o_q rfl rfl (q_lss rfl rfl) (o_end (za1 (zaq _ rfl (fun hb14 => ?_) (fun hb14 => ?_))))))))))
    · skip
      replace h := br_t hb14 h
      refine zam (za1 (c_seq (zai (c_seq (za0 (o_q rfl rfl (za2 rfl) (o_q rfl rfl (za2 rfl) (o_q rfl rfl (za2 rfl) (zb4 (p := Sh A0 l0.length l1.length) (fun w h => f_sh (dk := (Kd.int .i64)) h (fun w h => h.zar (i := 0) rfl)) (fun hq15 => ?_))))))))))
      refine za7 h (fun y17 hg16 h => ?_) rfl
      refine o_q rfl rfl (q_ix Try.underlying23 Z3 rfl rfl hq15 hg16) (za7 h (fun l18 hs19 h => ?_) rfl)
      refine o_e rfl (e_set (i := 0) rfl rfl rfl Z3 hs19) (fun _ => o_end (za1 (za0 (o_q rfl rfl (za2 rfl) (o_q rfl rfl (zb0 rfl rfl) (o_q rfl rfl (q_asg rfl) (o_end (zak (za1 ?_)))))))))
      refine za0 (o_q rfl rfl (za2 rfl) (o_q rfl rfl (zb0 rfl rfl) (o_q rfl rfl (q_asg rfl) (o_end (zan k6 (l18, w64 (i2 + 1), w64 (i3 + 1)) (Nat.lt_succ_self _) h ⟨rfl, rfl, trivial⟩ (fun w h => za5 [0] dc_ rfl w h) ?_)))))
      exact of_
    · skip
      replace h := br_f hb14 h
      refine zb2 (za8 (za8 ?_))
      have e_ := si_ h; replace h := hR9; rw [← e_] at h; clear e_
      refine x_hit (za1 (c_seq (za0 (o_q rfl rfl (za2 rfl) (o_q rfl rfl (q_asg rfl) (o_end (za1 (c_ret ?_))))))))
      have e0_ := si_ h; clear h
      obtain ⟨rfl, e1_⟩ := Prod.mk.inj e0_
      subst e1_
      exact x_r1 () Try.results20 (zal rfl) rfl (fun w h => za5 [0] dc_ rfl w h)

def laws_markPlan.f (k : Nat) (a0_0 : Int) (l0_1 : List SStep) (l0_2 : List Int) (a1 : Int) : Option (Int × (List SStep) × (List Int)) := (laws_markStepS.f k l0_1 a1).bind fun (i4, l5) => (laws_markIntS.f k l0_2 i4).bind fun (i7, l8) => some (i7, l5, l8)
theorem laws_markPlan.calls (k : Nat) {w0 ws : World} {P0 : Nat → Prop} (a0_0 : Int) (A0_1 : Option Addr) (c0_1 : Nat) (n0_1 : Nat) (l0_1 : List SStep) (A0_2 : Option Addr) (c0_2 : Nat) (n0_2 : Nat) (l0_2 : List Int) (a1 : Int) (Z : Below w0.heap.size w0 ws) (hF : Fr w0 ws P0 [row kStep 107 (.slice A0_1 n0_1 c0_1) l0_1, row (Kd.int .i64) 3 (.slice A0_2 n0_2 c0_2) l0_2] ws)  (r_1 : Int) (r_2 : List SStep) (r_3 : List Int) (h : laws_markPlan.f k a0_0 l0_1 l0_2 a1 = some (r_1, r_2, r_3)) :
    Calls Try.prog 13 #[.agg #[.int .i64 a0_0, .slice A0_1 n0_1 c0_1, .slice A0_2 n0_2 c0_2], .int .i64 a1] ws (Post1 w0 ws P0 (fun (_ : Unit) => .int .i64 r_1) (fun (_ : Unit) => [row kStep 107 (.slice A0_1 n0_1 c0_1) r_2, row (Kd.int .i64) 3 (.slice A0_2 n0_2 c0_2) r_3])) := by
  unfold laws_markPlan.f at h
  obtain rfl := (hF.row_C (i := 0) rfl).2.1
  obtain rfl := (hF.row_C (i := 1) rfl).2.1
  refine enter Try.func13 rfl Try.ntmps13 rfl hF (c_seq (za0 (o_e rfl (e_box rfl) (fun g1 => o_q rfl rfl (q_asg rfl) (o_end (za1 (c_seq (za0 (o_q rfl rfl (q_f F25_1 rfl) ?_)))))))))
  refine o_q rfl rfl (q_ldb Y22 rfl (fun w h => h.za9 (i := 0) rfl) rfl) (o_q rfl rfl (za2 rfl) (o_pick [1, 0, 2] dc_ rfl (bindE2 h (fun i4 l5 hx3 h => ?_) rfl)))
  refine o_e rfl (za6 1 Z Try.func64 N64 rfl rfl rfl (fun w P1 hF hB hS hT => laws_markStepS.calls k A0_1 c0_1 l0_1.length l0_1 a1 hB hF _ _ hx3)) (fun _ => o_q rfl rfl (q_asg rfl) (o_end (za1 (c_seq (za0 (o_q rfl rfl (q_f F25_2 rfl) (o_q rfl rfl (q_ldb Y23 rfl (fun w h => h.za9 (i := 1) rfl) rfl) (o_q rfl rfl (za2 rfl) (o_pick [2, 0, 1] dc_ rfl ?_)))))))))
  refine bindE2 h (fun i7 l8 hx6 h => ?_) rfl
  refine o_e rfl (za6 1 Z Try.func20 N20 rfl rfl rfl (fun w P1 hF hB hS hT => laws_markIntS.calls k A0_2 c0_2 l0_2.length l0_2 i4 hB hF _ _ hx6)) (fun _ => o_q rfl rfl (q_asg rfl) (o_end (za1 (c_seq (za0 (o_q rfl rfl (za2 rfl) (o_q rfl rfl (q_asg rfl) (o_end (za1 ?_)))))))))
  refine c_ret ?_
  have e0_ := si_ h; clear h
  obtain ⟨rfl, e1_⟩ := Prod.mk.inj e0_
  obtain ⟨rfl, e2_⟩ := Prod.mk.inj e1_
  subst e2_
  exact x_r1 () Try.results13 (zal rfl) rfl (fun w h => za5 [1, 0] dc_ rfl w h)

def laws_heldStepS.l0 (l0 : List SStep) : Nat → Int → Int → Option ((Int) ⊕ (Int))
  | 0, _, _ => none
  | k5 + 1, i1, i2 => if i2 < (l0.length : Int) then ((gt l0 i2).bind fun y16 => if y16.f0 ≠ i1 then (some (.inl (-1))) else ((gt l0 i2).bind fun y19 => if y19.f1 ≠ w64 (i1 + 1) then (some (.inl (-1))) else (laws_heldStepS.l0 l0 k5 (w64 (w64 (i1 + 1) + 1)) (w64 (i2 + 1))))) else (some (.inr i1))
def laws_heldStepS.f (k : Nat) (l0 : List SStep) (a1 : Int) : Option Int := (laws_heldStepS.l0 l0 k a1 0).bind fun o_ => match o_ with | .inl r_ => some r_ | .inr i1 => some i1
theorem laws_heldStepS.calls (k : Nat) {w0 ws : World} {P0 : Nat → Prop} (A0 : Option Addr) (c0 : Nat) (n0 : Nat) (l0 : List SStep) (a1 : Int) (Z : Below w0.heap.size w0 ws) (hF : Fr w0 ws P0 [] ws) (R0 : Stable ws P0 (fun w => Kd.C kStep w A0 n0 l0)) (hc0 : n0 ≤ c0) (r_1 : Int) (h : laws_heldStepS.f k l0 a1 = some r_1) :
    Calls Try.prog 65 #[.slice A0 n0 c0, .int .i64 a1] ws (Post1 w0 ws P0 (fun (_ : Unit) => .int .i64 r_1) (fun (_ : Unit) => [])) := by
  unfold laws_heldStepS.f at h
  obtain rfl := (R0 ws (KeptB.refl _ _)).1
  refine enter Try.func65 rfl Try.ntmps65 rfl hF (c_seq (za0 (o_q rfl rfl (q_asg rfl) (o_end (za1 (c_seq (c_seq (za0 (o_q rfl rfl (q_asg rfl) ?_)))))))))
  refine o_end (za1 (zai (za7 h (fun o10 hl9 hR8 => ?_) rfl)))
  clear h
  refine zaw (σ := Int × Int) (fun k5 ((i1, i2) : Int × Int) => laws_heldStepS.l0 l0 k5 i1 i2 = some o10) [1, 4, 5, 6, 7, 8, 9, 10, 11, 12, 13, 14, 15, 16, 17, 18, 19, 20, 21, 22, 23, 24, 25, 26, 27, 28, 29] (fun ((i1, i2) : Int × Int) => [(1, .int .i64 i1), (5, .int .i64 i2)]) (fun ((i1, i2) : Int × Int) => []) k (a1, 0) hl9 ⟨rfl, rfl, trivial⟩ (fun w h => h) (natC (cur2 (fun i1 i2 => fun U11 hJ_ => ?_)) (fun k5 => (cur2 (fun i1 i2 => fun U11 hJ_ => ?_))))
  · skip
    replace hJ_ : laws_heldStepS.l0 l0 0 i1 i2 = some o10 := hJ_
    rw [laws_heldStepS.l0] at hJ_
    exact noneE hJ_
  · skip
    clear hl9
    have h := hJ_; clear hJ_
    replace h : laws_heldStepS.l0 l0 (k5 + 1) i1 i2 = some o10 := h
    rw [laws_heldStepS.l0] at h
    refine c_seq (c_seq (za0 (o_q rfl rfl (za2 rfl) (o_q rfl rfl (za2 rfl) (o_q rfl rfl (q_len Try.underlying22 rfl) (o_q rfl rfl (q_lss rfl rfl) (o_end (za1 (zaq _ rfl (fun hb13 => ?_) (fun hb13 => ?_))))))))))
    · skip
      replace h := br_t hb13 h
      refine zam (za1 (c_seq (zai (c_seq (c_seq (za0 (o_q rfl rfl (za2 rfl) (o_q rfl rfl (za2 rfl) (zb4 (p := Sh A0 l0.length l0.length) (fun w h => f_sh (dk := kStep) h (fun w h => R0.now Z h)) (fun hq14 => ?_))))))))))
      refine za7 h (fun y16 hg15 h => ?_) rfl
      refine o_q rfl rfl (q_ix Try.underlying22 Z107 rfl rfl hq14 hg15) (o_q rfl rfl (q_fe F107_0 rfl) (o_q rfl rfl (q_lde (off := 0) Y3 rfl rfl (fun w h => R0.now Z h) hg15 (fun _ _ h => h) rfl) (o_q rfl rfl (za2 rfl) (o_q rfl rfl (q_neq rfl rfl) (o_end (za1 (zaq _ rfl (fun hb17 => ?_) (fun hb17 => ?_))))))))
      · skip
        replace h := br_t hb17 h
        refine c_seq (za0 (o_q rfl rfl (q_asg rfl) (o_end (za1 (c_ret (zab (zat (zab (zab ?_)))))))))
        have e_ := si_ h; replace h := hR8; rw [← e_] at h; clear e_
        refine zat (zab ?_)
        have e0_ := si_ h; clear h
        subst e0_
        exact x_r1 () Try.results65 (zal rfl) rfl (fun w h => za5 [] dc_ rfl w h)
      · skip
        replace h := br_f hb17 h
        refine zam (za1 (c_seq (za0 (o_q rfl rfl (za2 rfl) (o_q rfl rfl (zb0 rfl rfl) (o_q rfl rfl (q_asg rfl) (o_end (za1 (c_seq ?_)))))))))
        refine c_seq (za0 (o_q rfl rfl (za2 rfl) (o_q rfl rfl (za2 rfl) (za7 h (fun y19 hg18 h => ?_) rfl))))
        refine o_q rfl rfl (q_ix Try.underlying22 Z107 rfl rfl hq14 hg18) (o_q rfl rfl (q_fe F107_1 rfl) (o_q rfl rfl (q_lde (off := 1) Y3 rfl rfl (fun w h => R0.now Z h) hg18 (fun _ _ h => h) rfl) (o_q rfl rfl (za2 rfl) (o_q rfl rfl (q_neq rfl rfl) (o_end (za1 (zaq _ rfl (fun hb20 => ?_) (fun hb20 => ?_))))))))
        · skip
          replace h := br_t hb20 h
          refine c_seq (za0 (o_q rfl rfl (q_asg rfl) (o_end (za1 (c_ret (zab (zat (zab (zab ?_)))))))))
          have e_ := si_ h; replace h := hR8; rw [← e_] at h; clear e_
          refine zat (zab ?_)
          have e0_ := si_ h; clear h
          subst e0_
          exact x_r1 () Try.results65 (zal rfl) rfl (fun w h => za5 [] dc_ rfl w h)
        · skip
          replace h := br_f hb20 h
          refine zam (za1 (za0 (o_q rfl rfl (za2 rfl) (o_q rfl rfl (zb0 rfl rfl) (o_q rfl rfl (q_asg rfl) (o_end (zak (za1 (za0 ?_)))))))))
          refine o_q rfl rfl (za2 rfl) (o_q rfl rfl (zb0 rfl rfl) (o_q rfl rfl (q_asg rfl) (o_end (zan k5 (w64 (w64 (i1 + 1) + 1), w64 (i2 + 1)) (Nat.lt_succ_self _) h ⟨rfl, rfl, trivial⟩ (fun w h => za5 [] dc_ rfl w h) ?_))))
          exact of_
    · skip
      replace h := br_f hb13 h
      refine zb2 (za8 (za8 ?_))
      have e_ := si_ h; replace h := hR8; rw [← e_] at h; clear e_
      refine x_hit (za1 (c_seq (za0 (o_q rfl rfl (za2 rfl) (o_q rfl rfl (q_asg rfl) (o_end (za1 (c_ret ?_))))))))
      have e0_ := si_ h; clear h
      subst e0_
      exact x_r1 () Try.results65 (zal rfl) rfl (fun w h => za5 [] dc_ rfl w h)

def laws_heldIntS.l0 (l0 : List Int) : Nat → Int → Int → Option ((Int) ⊕ (Int))
  | 0, _, _ => none
  | k5 + 1, i1, i2 => if i2 < (l0.length : Int) then ((gt l0 i2).bind fun y16 => if y16 ≠ i1 then (some (.inl (-1))) else (laws_heldIntS.l0 l0 k5 (w64 (i1 + 1)) (w64 (i2 + 1)))) else (some (.inr i1))
def laws_heldIntS.f (k : Nat) (l0 : List Int) (a1 : Int) : Option Int := (laws_heldIntS.l0 l0 k a1 0).bind fun o_ => match o_ with | .inl r_ => some r_ | .inr i1 => some i1
theorem laws_heldIntS.calls (k : Nat) {w0 ws : World} {P0 : Nat → Prop} (A0 : Option Addr) (c0 : Nat) (n0 : Nat) (l0 : List Int) (a1 : Int) (Z : Below w0.heap.size w0 ws) (hF : Fr w0 ws P0 [] ws) (R0 : Stable ws P0 (fun w => Kd.C (Kd.int .i64) w A0 n0 l0)) (hc0 : n0 ≤ c0) (r_1 : Int) (h : laws_heldIntS.f k l0 a1 = some r_1) :
    Calls Try.prog 21 #[.slice A0 n0 c0, .int .i64 a1] ws (Post1 w0 ws P0 (fun (_ : Unit) => .int .i64 r_1) (fun (_ : Unit) => [])) := by
  unfold laws_heldIntS.f at h
  obtain rfl := (R0 ws (KeptB.refl _ _)).1
  refine enter Try.func21 rfl Try.ntmps21 rfl hF (c_seq (za0 (o_q rfl rfl (q_asg rfl) (o_end (za1 (c_seq (c_seq (za0 (o_q rfl rfl (q_asg rfl) ?_)))))))))
  refine o_end (za1 (zai (za7 h (fun o10 hl9 hR8 => ?_) rfl)))
  clear h
  refine zaw (σ := Int × Int) (fun k5 ((i1, i2) : Int × Int) => laws_heldIntS.l0 l0 k5 i1 i2 = some o10) [1, 4, 5, 6, 7, 8, 9, 10, 11, 12, 13, 14, 15, 16, 17, 18, 19] (fun ((i1, i2) : Int × Int) => [(1, .int .i64 i1), (5, .int .i64 i2)]) (fun ((i1, i2) : Int × Int) => []) k (a1, 0) hl9 ⟨rfl, rfl, trivial⟩ (fun w h => h) (natC (cur2 (fun i1 i2 => fun U11 hJ_ => ?_)) (fun k5 => (cur2 (fun i1 i2 => fun U11 hJ_ => ?_))))
  · skip
    replace hJ_ : laws_heldIntS.l0 l0 0 i1 i2 = some o10 := hJ_
    rw [laws_heldIntS.l0] at hJ_
    exact noneE hJ_
  · skip
    clear hl9
    have h := hJ_; clear hJ_
    replace h : laws_heldIntS.l0 l0 (k5 + 1) i1 i2 = some o10 := h
    rw [laws_heldIntS.l0] at h
    refine c_seq (c_seq (za0 (o_q rfl rfl (za2 rfl) (o_q rfl rfl (za2 rfl) (o_q rfl rfl (q_len Try.underlying23 rfl) (o_q rfl rfl (q_lss rfl rfl) (o_end (za1 (zaq _ rfl (fun hb13 => ?_) (fun hb13 => ?_))))))))))
    · skip
      replace h := br_t hb13 h
      refine zam (za1 (c_seq (zai (c_seq (c_seq (za0 (o_q rfl rfl (za2 rfl) (o_q rfl rfl (za2 rfl) (zb4 (p := Sh A0 l0.length l0.length) (fun w h => f_sh (dk := (Kd.int .i64)) h (fun w h => R0.now Z h)) (fun hq14 => ?_))))))))))
      refine za7 h (fun y16 hg15 h => ?_) rfl
      refine o_q rfl rfl (q_ix Try.underlying23 Z3 rfl rfl hq14 hg15) (o_q rfl rfl (q_lde (off := 0) Y3 rfl rfl (fun w h => R0.now Z h) hg15 (fun _ _ h => h) rfl) (o_q rfl rfl (za2 rfl) (o_q rfl rfl (q_neq rfl rfl) (o_end (za1 (zaq _ rfl (fun hb17 => ?_) (fun hb17 => ?_)))))))
      · skip
        replace h := br_t hb17 h
        refine c_seq (za0 (o_q rfl rfl (q_asg rfl) (o_end (za1 (c_ret (zab (zat (zab (zab ?_)))))))))
        have e_ := si_ h; replace h := hR8; rw [← e_] at h; clear e_
        refine zat (zab ?_)
        have e0_ := si_ h; clear h
        subst e0_
        exact x_r1 () Try.results21 (zal rfl) rfl (fun w h => za5 [] dc_ rfl w h)
      · skip
        replace h := br_f hb17 h
        refine zam (za1 (za0 (o_q rfl rfl (za2 rfl) (o_q rfl rfl (zb0 rfl rfl) (o_q rfl rfl (q_asg rfl) (o_end (zak (za1 (za0 ?_)))))))))
        refine o_q rfl rfl (za2 rfl) (o_q rfl rfl (zb0 rfl rfl) (o_q rfl rfl (q_asg rfl) (o_end (zan k5 (w64 (i1 + 1), w64 (i2 + 1)) (Nat.lt_succ_self _) h ⟨rfl, rfl, trivial⟩ (fun w h => za5 [] dc_ rfl w h) ?_))))
        exact of_
    · skip
      replace h := br_f hb13 h
      refine zb2 (za8 (za8 ?_))
      have e_ := si_ h; replace h := hR8; rw [← e_] at h; clear e_
      refine x_hit (za1 (c_seq (za0 (o_q rfl rfl (za2 rfl) (o_q rfl rfl (q_asg rfl) (o_end (za1 (c_ret ?_))))))))
      have e0_ := si_ h; clear h
      subst e0_
      exact x_r1 () Try.results21 (zal rfl) rfl (fun w h => za5 [] dc_ rfl w h)

def laws_heldPlan.f (k : Nat) (a0_0 : Int) (l0_1 : List SStep) (l0_2 : List Int) (a1 : Int) : Option Int := (laws_heldStepS.f k l0_1 a1).bind fun i4 => if i4 < 0 then (some (-1)) else ((laws_heldIntS.f k l0_2 i4).bind fun i7 => if i7 < 0 then (some (-1)) else (some i7))
theorem laws_heldPlan.calls (k : Nat) {w0 ws : World} {P0 : Nat → Prop} (a0_0 : Int) (A0_1 : Option Addr) (c0_1 : Nat) (n0_1 : Nat) (l0_1 : List SStep) (A0_2 : Option Addr) (c0_2 : Nat) (n0_2 : Nat) (l0_2 : List Int) (a1 : Int) (Z : Below w0.heap.size w0 ws) (hF : Fr w0 ws P0 [] ws) (R0_1 : Stable ws P0 (fun w => Kd.C kStep w A0_1 n0_1 l0_1)) (hc0_1 : n0_1 ≤ c0_1) (R0_2 : Stable ws P0 (fun w => Kd.C (Kd.int .i64) w A0_2 n0_2 l0_2)) (hc0_2 : n0_2 ≤ c0_2) (r_1 : Int) (h : laws_heldPlan.f k a0_0 l0_1 l0_2 a1 = some r_1) :
    Calls Try.prog 14 #[.agg #[.int .i64 a0_0, .slice A0_1 n0_1 c0_1, .slice A0_2 n0_2 c0_2], .int .i64 a1] ws (Post1 w0 ws P0 (fun (_ : Unit) => .int .i64 r_1) (fun (_ : Unit) => [])) := by
  unfold laws_heldPlan.f at h
  obtain rfl := (R0_1 ws (KeptB.refl _ _)).1
  obtain rfl := (R0_2 ws (KeptB.refl _ _)).1
  refine enter Try.func14 rfl Try.ntmps14 rfl hF (c_seq (za0 (o_e rfl (e_box rfl) (fun g1 => o_q rfl rfl (q_asg rfl) (o_end (za1 (c_seq (za0 (o_q rfl rfl (q_f F25_1 rfl) ?_)))))))))
  refine o_q rfl rfl (q_ldb Y22 rfl (fun w h => h.za9 (i := 0) rfl) rfl) (o_q rfl rfl (za2 rfl) (za7 h (fun i4 hx3 h => ?_) rfl))
  refine o_e rfl (za6 0 Z Try.func65 N65 rfl rfl rfl (fun w P1 hF hB hS hT => laws_heldStepS.calls k A0_1 c0_1 l0_1.length l0_1 a1 hB hF (hS _ R0_1) hc0_1 _ hx3)) (fun _ => o_q rfl rfl (q_asg rfl) (o_end (za1 (c_seq (c_seq (za0 (o_q rfl rfl (za2 rfl) (o_q rfl rfl (q_lss rfl rfl) (o_end ?_)))))))))
  refine za1 (zaq _ rfl (fun hb5 => ?_) (fun hb5 => ?_))
  · skip
    replace h := br_t hb5 h
    refine c_seq (za0 (o_q rfl rfl (q_asg rfl) (o_end (za1 (c_ret (zab ?_))))))
    have e0_ := si_ h; clear h
    subst e0_
    exact x_r1 () Try.results14 (zal rfl) rfl (fun w h => za5 [] dc_ rfl w h)
  · skip
    replace h := br_f hb5 h
    refine zam (za1 (c_seq (za0 (o_q rfl rfl (q_f F25_2 rfl) (o_q rfl rfl (q_ldb Y23 rfl (fun w h => h.za9 (i := 0) rfl) rfl) (o_q rfl rfl (za2 rfl) (za7 h (fun i7 hx6 h => ?_) rfl)))))))
    refine o_e rfl (za6 0 Z Try.func21 N21 rfl rfl rfl (fun w P1 hF hB hS hT => laws_heldIntS.calls k A0_2 c0_2 l0_2.length l0_2 i4 hB hF (hS _ R0_2) hc0_2 _ hx6)) (fun _ => o_q rfl rfl (q_asg rfl) (o_end (za1 (c_seq (c_seq (za0 (o_q rfl rfl (za2 rfl) (o_q rfl rfl (q_lss rfl rfl) (o_end ?_)))))))))
    refine za1 (zaq _ rfl (fun hb8 => ?_) (fun hb8 => ?_))
    · skip
      replace h := br_t hb8 h
      refine c_seq (za0 (o_q rfl rfl (q_asg rfl) (o_end (za1 (c_ret (zab ?_))))))
      have e0_ := si_ h; clear h
      subst e0_
      exact x_r1 () Try.results14 (zal rfl) rfl (fun w h => za5 [] dc_ rfl w h)
    · skip
      replace h := br_f hb8 h
      refine zam (za1 (c_seq (za0 (o_q rfl rfl (za2 rfl) (o_q rfl rfl (q_asg rfl) (o_end (za1 (c_ret ?_))))))))
      have e0_ := si_ h; clear h
      subst e0_
      exact x_r1 () Try.results14 (zal rfl) rfl (fun w h => za5 [] dc_ rfl w h)

def laws_FnExactBestPlan.f (k : Nat) (a0 : Int) : Option Bool := (spec_BestPlan.f k a0).bind fun (i2, l3, l4, b5) => (impl_BestPlan.f k a0).bind fun (i13, l14, l15, b16) => (laws_eqPlan.f k i13 l14 l15 i2 l3 l4).bind fun b24 => if b24 = true then (if (b16 != b5) = true then (some false) else ((laws_markPlan.f k i13 l14 l15 1).bind fun (i28, l29, l30) => (laws_heldPlan.f k i13 l29 l30 1).bind fun i32 => if i32 < 0 then (some false) else (if i32 ≠ i28 then (some false) else ((impl_BestPlan.f k a0).bind fun (i36, l37, l38, b39) => (laws_eqPlan.f k i36 l37 l38 i2 l3 l4).bind fun b47 => if b47 = true then (if (b39 != b5) = true then (some false) else ((laws_heldPlan.f k i13 l29 l30 1).bind fun i51 => if i51 < 0 then (some false) else (if i51 ≠ i28 then (some false) else (some true)))) else (some false))))) else (some false)
theorem laws_FnExactBestPlan.calls (k : Nat) {w0 ws : World} {P0 : Nat → Prop} (a0 : Int) (Z : Below w0.heap.size w0 ws) (hF : Fr w0 ws P0 [] ws)  (r_1 : Bool) (h : laws_FnExactBestPlan.f k a0 = some r_1) :
    Calls Try.prog 8 #[.int .i64 a0] ws (Post1 w0 ws P0 (fun (_ : Unit) => .bool r_1) (fun (_ : Unit) => [])) := by
  unfold laws_FnExactBestPlan.f at h
  refine enter Try.func8 rfl Try.ntmps8 rfl hF (c_seq (za0 (o_q rfl rfl (q_asg rfl) (o_end (za1 (c_seq (za0 (o_q rfl rfl (za2 rfl) (bindE4 h (fun i2 l3 l4 b5 hx1 h => ?_) rfl)))))))))
  refine o_e rfl (za6 0 Z Try.func38 N38 rfl rfl rfl (fun w P1 hF hB hS hT => spec_BestPlan.calls k a0 hB hF _ _ _ _ hx1)) (cur4 (fun A6 c7 A8 c9 => o_q rfl rfl (za2 rfl) (o_q rfl rfl (q_ext rfl rfl) (o_q rfl rfl (q_ext rfl rfl) (o_e rfl (zaf V25 rfl) (fun g10 => o_e rfl (zah (i := 0) rfl rfl rfl Z25 rfl rfl) (fun _ => o_q rfl rfl (q_asg rfl) (o_end (za1 (c_seq ?_))))))))))
  refine za0 (o_q rfl rfl (za2 rfl) (bindE4 h (fun i13 l14 l15 b16 hx12 h => ?_) rfl))
  refine o_e rfl (za6 0 Z Try.func35 N35 rfl rfl rfl (fun w P1 hF hB hS hT => impl_BestPlan.calls k a0 hB hF _ _ _ _ hx12)) (cur4 (fun A17 c18 A19 c20 => o_q rfl rfl (za2 rfl) (o_q rfl rfl (q_ext rfl rfl) (o_q rfl rfl (q_ext rfl rfl) (o_e rfl (zaf V25 rfl) (fun g21 => o_e rfl (zah (i := 0) rfl rfl rfl Z25 rfl rfl) (fun _ => o_q rfl rfl (q_asg rfl) (o_end (za1 (c_seq ?_))))))))))
  refine c_seq (za0 (o_q rfl rfl (q_ldB G25 Z25 rfl (fun w h => h.za9 (i := 0) rfl) rfl) (o_q rfl rfl (q_ldB G25 Z25 rfl (fun w h => h.za9 (i := 3) rfl) rfl) (za7 h (fun b24 hx23 h => ?_) rfl))))
  refine o_e rfl (za6 0 Z Try.func12 N12 rfl rfl rfl (fun w P1 hF hB hS hT => laws_eqPlan.calls k i13 A17 c18 l14.length l14 A19 c20 l15.length l15 i2 A6 c7 l3.length l3 A8 c9 l4.length l4 hB hF (hT 1 _ rfl).row (hT 1 _ rfl).cap (hT 2 _ rfl).row (hT 2 _ rfl).cap (hT 4 _ rfl).row (hT 4 _ rfl).cap (hT 5 _ rfl).row (hT 5 _ rfl).cap _ hx23)) (fun _ => o_q rfl rfl (q_not rfl) (o_q rfl rfl (za2 rfl) (byB b24 (fun hb25 => ?_) (fun hb25 => ?_))))
  · replace h := bb_t hb25 h
    refine o_w (zae rfl rfl rfl (congrArg (fun b => Value.bool (!(b))) hb25)) rfl (za2 rfl) (o_w (zae rfl rfl rfl (congrArg (fun b => Value.bool (!(b))) hb25)) rfl (za2 rfl) (o_w (zae rfl rfl rfl (congrArg (fun b => Value.bool (!(b))) hb25)) rfl (q_bneq Try.underlying4 rfl rfl) (o_q rfl rfl (zax false (congrArg (fun b => Value.bool (!(b))) hb25) rfl) (o_end (za1 (zaq _ rfl (fun hb26 => ?_) (fun hb26 => ?_)))))))
    · skip
      replace h := bb_t hb26 h
      refine c_seq (za0 (o_q rfl rfl (q_asg rfl) (o_end (za1 (c_ret (zab ?_))))))
      have e0_ := si_ h; clear h
      subst e0_
      exact x_r1 () Try.results8 (zal rfl) rfl (fun w h => za5 [] dc_ rfl w h)
    · skip
      replace h := bb_f hb26 h
      refine zam (za1 (c_seq (za0 (o_q rfl rfl (q_asg rfl) (o_end (za1 (c_seq (za0 (o_q rfl rfl (q_ldB G25 Z25 rfl (fun w h => h.za9 (i := 0) rfl) rfl) ?_)))))))))
      refine o_q rfl rfl (za2 rfl) (o_pick [1, 2, 0, 3, 4, 5] dc_ rfl (bindE3 h (fun i28 l29 l30 hx27 h => ?_) rfl))
      refine o_e rfl (za6 2 Z Try.func13 N13 rfl rfl rfl (fun w P1 hF hB hS hT => laws_markPlan.calls k i13 A17 c18 l14.length l14 A19 c20 l15.length l15 1 hB hF _ _ _ hx27)) (fun _ => o_q rfl rfl (q_asg rfl) (o_end (za1 (c_seq (za0 (o_q rfl rfl (q_asg rfl) (o_end (za1 (c_seq ?_)))))))))
      refine za0 (o_q rfl rfl (q_ldB G25 Z25 rfl (fun w h => h.za9 (i := 2) rfl) rfl) (o_q rfl rfl (za2 rfl) (za7 h (fun i32 hx31 h => ?_) rfl)))
      refine o_e rfl (za6 0 Z Try.func14 N14 rfl rfl rfl (fun w P1 hF hB hS hT => laws_heldPlan.calls k i13 A17 c18 l14.length l29 A19 c20 l15.length l30 1 hB hF (hT 0 _ rfl).row (hT 0 _ rfl).cap (hT 1 _ rfl).row (hT 1 _ rfl).cap _ hx31)) (fun _ => o_q rfl rfl (q_asg rfl) (o_end (za1 (c_seq (c_seq (za0 (o_q rfl rfl (za2 rfl) (o_q rfl rfl (q_lss rfl rfl) (o_end ?_)))))))))
      refine za1 (zaq _ rfl (fun hb33 => ?_) (fun hb33 => ?_))
      · skip
        replace h := br_t hb33 h
        refine c_seq (za0 (o_q rfl rfl (q_asg rfl) (o_end (za1 (c_ret (zab ?_))))))
        have e0_ := si_ h; clear h
        subst e0_
        exact x_r1 () Try.results8 (zal rfl) rfl (fun w h => za5 [] dc_ rfl w h)
      · skip
        replace h := br_f hb33 h
        refine zam (za1 (c_seq (c_seq (za0 (o_q rfl rfl (za2 rfl) (o_q rfl rfl (za2 rfl) (o_q rfl rfl (q_neq rfl rfl) (o_end (za1 ?_)))))))))
        refine zaq _ rfl (fun hb34 => ?_) (fun hb34 => ?_)
        · skip
          replace h := br_t hb34 h
          refine c_seq (za0 (o_q rfl rfl (q_asg rfl) (o_end (za1 (c_ret (zab ?_))))))
          have e0_ := si_ h; clear h
          subst e0_
          exact x_r1 () Try.results8 (zal rfl) rfl (fun w h => za5 [] dc_ rfl w h)
        · skip
          replace h := br_f hb34 h
          refine zam (za1 (c_seq (za0 (o_q rfl rfl (za2 rfl) (bindE4 h (fun i36 l37 l38 b39 hx35 h => ?_) rfl)))))
          refine o_e rfl (za6 0 Z Try.func35 N35 rfl rfl rfl (fun w P1 hF hB hS hT => impl_BestPlan.calls k a0 hB hF _ _ _ _ hx35)) (cur4 (fun A40 c41 A42 c43 => o_q rfl rfl (za2 rfl) (o_q rfl rfl (q_ext rfl rfl) (o_q rfl rfl (q_ext rfl rfl) (o_e rfl (zaf V25 rfl) (fun g44 => o_e rfl (zah (i := 0) rfl rfl rfl Z25 rfl rfl) (fun _ => o_q rfl rfl (q_asg rfl) (o_end (za1 (c_seq ?_))))))))))
          refine c_seq (za0 (o_q rfl rfl (q_ldB G25 Z25 rfl (fun w h => h.za9 (i := 0) rfl) rfl) (o_q rfl rfl (q_ldB G25 Z25 rfl (fun w h => h.za9 (i := 6) rfl) rfl) (za7 h (fun b47 hx46 h => ?_) rfl))))
          refine o_e rfl (za6 0 Z Try.func12 N12 rfl rfl rfl (fun w P1 hF hB hS hT => laws_eqPlan.calls k i36 A40 c41 l37.length l37 A42 c43 l38.length l38 i2 A6 c7 l3.length l3 A8 c9 l4.length l4 hB hF (hT 1 _ rfl).row (hT 1 _ rfl).cap (hT 2 _ rfl).row (hT 2 _ rfl).cap (hT 7 _ rfl).row (hT 7 _ rfl).cap (hT 8 _ rfl).row (hT 8 _ rfl).cap _ hx46)) (fun _ => o_q rfl rfl (q_not rfl) (o_q rfl rfl (za2 rfl) (byB b47 (fun hb48 => ?_) (fun hb48 => ?_))))
          · replace h := bb_t hb48 h
            refine o_w (zae rfl rfl rfl (congrArg (fun b => Value.bool (!(b))) hb48)) rfl (za2 rfl) (o_w (zae rfl rfl rfl (congrArg (fun b => Value.bool (!(b))) hb48)) rfl (za2 rfl) (o_w (zae rfl rfl rfl (congrArg (fun b => Value.bool (!(b))) hb48)) rfl (q_bneq Try.underlying4 rfl rfl) (o_q rfl rfl (zax false (congrArg (fun b => Value.bool (!(b))) hb48) rfl) (o_end (za1 (zaq _ rfl (fun hb49 => ?_) (fun hb49 => ?_)))))))
            · skip
              replace h := bb_t hb49 h
              refine c_seq (za0 (o_q rfl rfl (q_asg rfl) (o_end (za1 (c_ret (zab ?_))))))
              have e0_ := si_ h; clear h
              subst e0_
              exact x_r1 () Try.results8 (zal rfl) rfl (fun w h => za5 [] dc_ rfl w h)
            · skip
              replace h := bb_f hb49 h
              refine zam (za1 (c_seq (za0 (o_q rfl rfl (q_asg rfl) (o_end (za1 (c_seq (za0 (o_q rfl rfl (q_ldB G25 Z25 rfl (fun w h => h.za9 (i := 5) rfl) rfl) ?_)))))))))
              refine o_q rfl rfl (za2 rfl) (za7 h (fun i51 hx50 h => ?_) rfl)
              refine o_e rfl (za6 0 Z Try.func14 N14 rfl rfl rfl (fun w P1 hF hB hS hT => laws_heldPlan.calls k i13 A17 c18 l14.length l29 A19 c20 l15.length l30 1 hB hF (hT 3 _ rfl).row (hT 3 _ rfl).cap (hT 4 _ rfl).row (hT 4 _ rfl).cap _ hx50)) (fun _ => o_q rfl rfl (q_asg rfl) (o_end (za1 (c_seq (c_seq (za0 (o_q rfl rfl (za2 rfl) (o_q rfl rfl (q_lss rfl rfl) (o_end ?_)))))))))
              refine za1 (zaq _ rfl (fun hb52 => ?_) (fun hb52 => ?_))
              · skip
                replace h := br_t hb52 h
                refine c_seq (za0 (o_q rfl rfl (q_asg rfl) (o_end (za1 (c_ret (zab ?_))))))
                have e0_ := si_ h; clear h
                subst e0_
                exact x_r1 () Try.results8 (zal rfl) rfl (fun w h => za5 [] dc_ rfl w h)
              · skip
                replace h := br_f hb52 h
                refine zam (za1 (c_seq (c_seq (za0 (o_q rfl rfl (za2 rfl) (o_q rfl rfl (za2 rfl) (o_q rfl rfl (q_neq rfl rfl) (o_end (za1 ?_)))))))))
                refine zaq _ rfl (fun hb53 => ?_) (fun hb53 => ?_)
                · skip
                  replace h := br_t hb53 h
                  refine c_seq (za0 (o_q rfl rfl (q_asg rfl) (o_end (za1 (c_ret (zab ?_))))))
                  have e0_ := si_ h; clear h
                  subst e0_
                  exact x_r1 () Try.results8 (zal rfl) rfl (fun w h => za5 [] dc_ rfl w h)
                · skip
                  replace h := br_f hb53 h
                  refine zam (za1 (c_seq (za0 (o_q rfl rfl (q_asg rfl) (o_end (za1 (c_ret ?_)))))))
                  have e0_ := si_ h; clear h
                  subst e0_
                  exact x_r1 () Try.results8 (zal rfl) rfl (fun w h => za5 [] dc_ rfl w h)
          · replace h := bb_f hb48 h
            refine o_n (d := 51) (zaa rfl rfl rfl (congrArg (fun b => Value.bool (!(b))) hb48) rfl) (Eq.refl (some 51)) (o_n (d := 52) (zaa rfl rfl rfl (congrArg (fun b => Value.bool (!(b))) hb48) rfl) (Eq.refl (some 52)) (o_n (d := 53) (zaa rfl rfl rfl (congrArg (fun b => Value.bool (!(b))) hb48) rfl) (Eq.refl (some 53)) (o_q rfl rfl (zax true (congrArg (fun b => Value.bool (!(b))) hb48) rfl) (o_end (za1 (zb8 rfl (c_seq (za0 (o_q rfl rfl (q_asg rfl) ?_)))))))))
            refine o_end (za1 (c_ret (zab ?_)))
            have e0_ := si_ h; clear h
            subst e0_
            exact x_r1 () Try.results8 (zal rfl) rfl (fun w h => za5 [] dc_ rfl w h)
  · replace h := bb_f hb25 h
    refine o_n (d := 26) (zaa rfl rfl rfl (congrArg (fun b => Value.bool (!(b))) hb25) rfl) (Eq.refl (some 26)) (o_n (d := 27) (zaa rfl rfl rfl (congrArg (fun b => Value.bool (!(b))) hb25) rfl) (Eq.refl (some 27)) (o_n (d := 28) (zaa rfl rfl rfl (congrArg (fun b => Value.bool (!(b))) hb25) rfl) (Eq.refl (some 28)) (o_q rfl rfl (zax true (congrArg (fun b => Value.bool (!(b))) hb25) rfl) (o_end (za1 (zb8 rfl (c_seq (za0 (o_q rfl rfl (q_asg rfl) ?_)))))))))
    refine o_end (za1 (c_ret (zab ?_)))
    have e0_ := si_ h; clear h
    subst e0_
    exact x_r1 () Try.results8 (zal rfl) rfl (fun w h => za5 [] dc_ rfl w h)

/-- THE ONE PURE STATEMENT of laws_FnExactBestPlan. -/
def laws_FnExactBestPlan.Pure : Prop := ∀ (a0 : Int), (Lit.int .i64 a0).wf = true → ∃ k, laws_FnExactBestPlan.f k a0 = some true
theorem laws_FnExactBestPlan.walk (P : laws_FnExactBestPlan.Pure) (a0 : Int) (w : World)  (q0 : (Lit.int .i64 a0).wf = true) :
    Calls Try.prog 8 #[.int .i64 a0] w fun e w' => e = .returned (.bool true) ∧ Below w.heap.size w w' := by
  obtain ⟨k, h⟩ := P a0 q0
  refine (laws_FnExactBestPlan.calls k a0 (Below.refl _ _) (Fr.start w)  true h).mono ?_
  rintro e w' ⟨s, rfl, hF⟩
  exact ⟨rfl, hF.bel⟩
end Go.Proofs.Ytiaohjciddbpoaa.H9
