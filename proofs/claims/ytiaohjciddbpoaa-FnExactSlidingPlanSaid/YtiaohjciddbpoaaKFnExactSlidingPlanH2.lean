import Derived.Test.YtiaohjciddbpoaaKFnExactSlidingPlanH2p3
namespace Go.Proofs.Ytiaohjciddbpoaa.H2
open Go.RowKit Go.Proofs.Ytiaohjciddbpoaa.Frame Go.Proofs.YtiaohjciddbpoaaW.PrintLast Go.Proofs.Ytiaohjciddbpoaa.Hand
open Go.Proofs.YtiaohjciddbpoaaW.PrintWords hiding mn mx
set_option linter.unusedVariables false
/-! ### loop.example/g01098/laws.markStepS: function 64 -/
def laws_markStepS.l0 (l0 : List SStep) : Nat → (List SStep) → Int → Int → Option ((List SStep) × Int)
  | 0, _, _, _ => none
  | k6 + 1, l1, i2, i3 => if i3 < (l0.length : Int) then ((gt l1 i3).bind fun y17 => (st l1 i3 (⟨i2, y17.f1⟩ : SStep)).bind fun l18 => (gt l18 i3).bind fun y22 => (st l18 i3 (⟨y22.f0, w64 (i2 + 1)⟩ : SStep)).bind fun l23 => laws_markStepS.l0 l0 k6 l23 (w64 (w64 (i2 + 1) + 1)) (w64 (i3 + 1))) else (some (l1, i2))
def laws_markStepS.f (k : Nat) (l0 : List SStep) (a1 : Int) : Option (Int × (List SStep)) := (laws_markStepS.l0 l0 k l0 a1 0).bind fun (l1, i2) => some (i2, l1)
set_option maxHeartbeats 600000 in
set_option maxRecDepth 100000 in
theorem laws_markStepS.calls (k : Nat) {w0 ws : World} {P0 : Nat → Prop} (A0 : Option Addr) (c0 : Nat) (n0 : Nat) (l0 : List SStep) (a1 : Int) (Z : Below w0.heap.size w0 ws) (hF : Fr w0 ws P0 [row kStep 107 (.slice A0 n0 c0) l0] ws)  (r_1 : Int) (r_2 : List SStep) (h : laws_markStepS.f k l0 a1 = some (r_1, r_2)) :
    Calls Try.prog 64 #[.slice A0 n0 c0, .int .i64 a1] ws (Post1 w0 ws P0 (fun (_ : Unit) => .int .i64 r_1) (fun (_ : Unit) => [row kStep 107 (.slice A0 n0 c0) r_2])) := by
  unfold laws_markStepS.f at h
  obtain rfl := (hF.row_C (i := 0) rfl).2.1
  refine enter Try.func64 rfl Try.ntmps64 rfl hF ?_
  refine c_seq ?_
  refine za0 ?_
  refine o_q rfl rfl (q_asg rfl) ?_
  refine o_end ?_
  refine za1 ?_
  refine c_seq ?_
  refine c_seq ?_
  refine za0 ?_
  refine o_q rfl rfl (q_asg rfl) ?_
  refine o_end ?_
  refine za1 ?_
  refine zah ?_
  refine za4 h (fun o11 hl10 hR9 => ?_) rfl
  clear h
  refine zav (σ := (List SStep) × Int × Int) (fun k6 ((l1, i2, i3) : (List SStep) × Int × Int) => laws_markStepS.l0 l0 k6 l1 i2 i3 = some o11) [1, 5, 6, 7, 8, 9, 10, 11, 12, 13, 14, 15, 16, 17, 18, 19, 20, 21, 22, 23, 24, 25] (fun ((l1, i2, i3) : (List SStep) × Int × Int) => [(1, .int .i64 i2), (5, .int .i64 i3)]) (fun ((l1, i2, i3) : (List SStep) × Int × Int) => [row kStep 107 (.slice A0 l0.length c0) l1]) k (l0, a1, 0) hl10 ⟨rfl, rfl, trivial⟩ (fun w h => h) ?_
  refine natC (cur3 (fun l1 i2 i3 => fun U12 hJ_ => ?_)) (fun k6 => (cur3 (fun l1 i2 i3 => fun U12 hJ_ => ?_)))
  · skip
    replace hJ_ : laws_markStepS.l0 l0 0 l1 i2 i3 = some o11 := hJ_
    rw [laws_markStepS.l0] at hJ_
    exact noneE hJ_
  · skip
    clear hl10
    have h := hJ_; clear hJ_
    replace h : laws_markStepS.l0 l0 (k6 + 1) l1 i2 i3 = some o11 := h
    rw [laws_markStepS.l0] at h
    refine c_seq ?_
    refine c_seq ?_
    refine za0 ?_
    refine o_q rfl rfl (za2 rfl) ?_
    refine o_q rfl rfl (za2 rfl) ?_
    refine o_q rfl rfl (q_len Try.underlying22 rfl) ?_
    refine o_q rfl rfl (q_lss rfl rfl) ?_
    refine o_end ?_
    refine za1 ?_
    refine zaq _ rfl (fun hb14 => ?_) (fun hb14 => ?_)
    · skip
      replace h := br_t hb14 h
      refine zal ?_
      refine za1 ?_
      refine c_seq ?_
      refine zah ?_
      refine c_seq ?_
      refine za0 ?_
      refine o_q rfl rfl (za2 rfl) ?_
      refine o_q rfl rfl (za2 rfl) ?_
      refine o_q rfl rfl (za2 rfl) ?_
      refine o_fact (p := Sh A0 l0.length l1.length) (fun w h => f_sh (dk := kStep) h (fun w h => h.zas (i := 0) rfl)) (fun hq15 => ?_)
      refine za4 h (fun y17 hg16 h => ?_) rfl
      refine o_q rfl rfl (q_ix Try.underlying22 Z107 rfl rfl hq15 hg16) ?_
      refine o_q rfl rfl (q_fe F107_0 rfl) ?_
      refine za4 h (fun l18 hs19 h => ?_) rfl
      refine o_e rfl (e_setF (i := 0) (off := 0) (vs := [.int .i64 i2]) (q' := (⟨i2, y17.f1⟩ : SStep)) rfl rfl rfl rfl rfl rfl Z3 hg16 rfl rfl hs19) (fun _ => ?_)
      refine o_end ?_
      refine za1 ?_
      refine c_seq ?_
      refine za0 ?_
      refine o_q rfl rfl (za2 rfl) ?_
      refine o_q rfl rfl (zau rfl rfl) ?_
      refine o_q rfl rfl (q_asg rfl) ?_
      refine o_end ?_
      refine za1 ?_
      refine c_seq ?_
      refine za0 ?_
      refine o_q rfl rfl (za2 rfl) ?_
      refine o_q rfl rfl (za2 rfl) ?_
      refine o_q rfl rfl (za2 rfl) ?_
      refine o_fact (p := Sh A0 l0.length l18.length) (fun w h => f_sh (dk := kStep) h (fun w h => h.zas (i := 0) rfl)) (fun hq20 => ?_)
      refine za4 h (fun y22 hg21 h => ?_) rfl
      refine o_q rfl rfl (q_ix Try.underlying22 Z107 rfl rfl hq20 hg21) ?_
      refine o_q rfl rfl (q_fe F107_1 rfl) ?_
      refine za4 h (fun l23 hs24 h => ?_) rfl
      refine o_e rfl (e_setF (i := 0) (off := 1) (vs := [.int .i64 (w64 (i2 + 1))]) (q' := (⟨y22.f0, w64 (i2 + 1)⟩ : SStep)) rfl rfl rfl rfl rfl rfl Z3 hg21 rfl rfl hs24) (fun _ => ?_)
      refine o_end ?_
      refine za1 ?_
      refine za0 ?_
      refine o_q rfl rfl (za2 rfl) ?_
      refine o_q rfl rfl (zau rfl rfl) ?_
      refine o_q rfl rfl (q_asg rfl) ?_
      refine o_end ?_
      refine zan ?_
      refine za1 ?_
      refine za0 ?_
      refine o_q rfl rfl (za2 rfl) ?_
      refine o_q rfl rfl (zau rfl rfl) ?_
      refine o_q rfl rfl (q_asg rfl) ?_
      refine o_end ?_
      refine zak k6 (l23, w64 (w64 (i2 + 1) + 1), w64 (i3 + 1)) (Nat.lt_succ_self _) h ⟨rfl, rfl, trivial⟩ (fun w h => za5 [0] (by decide) rfl w h) ?_
      repeat (first | exact zac _ _ | refine zai rfl ?_ | refine zae rfl ?_ | refine zaj rfl ?_)
    · skip
      replace h := br_f hb14 h
      refine c_exit ?_
      refine za3 ?_
      refine za3 ?_
      have e_ := Option.some.inj h; replace h := hR9; rw [← e_] at h; clear e_
      refine x_hit ?_
      refine za1 ?_
      refine c_seq ?_
      refine za0 ?_
      refine o_q rfl rfl (za2 rfl) ?_
      refine o_q rfl rfl (q_asg rfl) ?_
      refine o_end ?_
      refine za1 ?_
      refine c_ret ?_
      have e0_ := Option.some.inj h; clear h
      have d0_ := (Prod.mk.inj e0_).1; have e1_ := (Prod.mk.inj e0_).2; clear e0_; subst d0_
      subst e1_
      exact x_r1 () Try.results64 (zaf rfl) rfl (fun w h => za5 [0] (by decide) rfl w h)

/-! ### loop.example/g01098/laws.markIntS: function 20 -/
def laws_markIntS.l0 (l0 : List Int) : Nat → (List Int) → Int → Int → Option ((List Int) × Int)
  | 0, _, _, _ => none
  | k6 + 1, l1, i2, i3 => if i3 < (l0.length : Int) then ((gt l1 i3).bind fun y17 => (st l1 i3 i2).bind fun l18 => laws_markIntS.l0 l0 k6 l18 (w64 (i2 + 1)) (w64 (i3 + 1))) else (some (l1, i2))
def laws_markIntS.f (k : Nat) (l0 : List Int) (a1 : Int) : Option (Int × (List Int)) := (laws_markIntS.l0 l0 k l0 a1 0).bind fun (l1, i2) => some (i2, l1)
set_option maxHeartbeats 600000 in
set_option maxRecDepth 100000 in
theorem laws_markIntS.calls (k : Nat) {w0 ws : World} {P0 : Nat → Prop} (A0 : Option Addr) (c0 : Nat) (n0 : Nat) (l0 : List Int) (a1 : Int) (Z : Below w0.heap.size w0 ws) (hF : Fr w0 ws P0 [row (Kd.int .i64) 3 (.slice A0 n0 c0) l0] ws)  (r_1 : Int) (r_2 : List Int) (h : laws_markIntS.f k l0 a1 = some (r_1, r_2)) :
    Calls Try.prog 20 #[.slice A0 n0 c0, .int .i64 a1] ws (Post1 w0 ws P0 (fun (_ : Unit) => .int .i64 r_1) (fun (_ : Unit) => [row (Kd.int .i64) 3 (.slice A0 n0 c0) r_2])) := by
  unfold laws_markIntS.f at h
  obtain rfl := (hF.row_C (i := 0) rfl).2.1
  refine enter Try.func20 rfl Try.ntmps20 rfl hF ?_
  refine c_seq ?_
  refine za0 ?_
  refine o_q rfl rfl (q_asg rfl) ?_
  refine o_end ?_
  refine za1 ?_
  refine c_seq ?_
  refine c_seq ?_
  refine za0 ?_
  refine o_q rfl rfl (q_asg rfl) ?_
  refine o_end ?_
  refine za1 ?_
  refine zah ?_
  refine za4 h (fun o11 hl10 hR9 => ?_) rfl
  clear h
  refine zav (σ := (List Int) × Int × Int) (fun k6 ((l1, i2, i3) : (List Int) × Int × Int) => laws_markIntS.l0 l0 k6 l1 i2 i3 = some o11) [1, 5, 6, 7, 8, 9, 10, 11, 12, 13, 14, 15, 16, 17] (fun ((l1, i2, i3) : (List Int) × Int × Int) => [(1, .int .i64 i2), (5, .int .i64 i3)]) (fun ((l1, i2, i3) : (List Int) × Int × Int) => [row (Kd.int .i64) 3 (.slice A0 l0.length c0) l1]) k (l0, a1, 0) hl10 ⟨rfl, rfl, trivial⟩ (fun w h => h) ?_
  refine natC (cur3 (fun l1 i2 i3 => fun U12 hJ_ => ?_)) (fun k6 => (cur3 (fun l1 i2 i3 => fun U12 hJ_ => ?_)))
  · skip
    replace hJ_ : laws_markIntS.l0 l0 0 l1 i2 i3 = some o11 := hJ_
    rw [laws_markIntS.l0] at hJ_
    exact noneE hJ_
  · skip
    clear hl10
    have h := hJ_; clear hJ_
    replace h : laws_markIntS.l0 l0 (k6 + 1) l1 i2 i3 = some o11 := h
    rw [laws_markIntS.l0] at h
    refine c_seq ?_
    refine c_seq ?_
    refine za0 ?_
    refine o_q rfl rfl (za2 rfl) ?_
    refine o_q rfl rfl (za2 rfl) ?_
    refine o_q rfl rfl (q_len Try.underlying23 rfl) ?_
    refine o_q rfl rfl (q_lss rfl rfl) ?_
    refine o_end ?_
    refine za1 ?_
    refine zaq _ rfl (fun hb14 => ?_) (fun hb14 => ?_)
    · skip
      replace h := br_t hb14 h
      refine zal ?_
      refine za1 ?_
      refine c_seq ?_
      refine zah ?_
      refine c_seq ?_
      refine za0 ?_
      refine o_q rfl rfl (za2 rfl) ?_
      refine o_q rfl rfl (za2 rfl) ?_
      refine o_q rfl rfl (za2 rfl) ?_
      refine o_fact (p := Sh A0 l0.length l1.length) (fun w h => f_sh (dk := (Kd.int .i64)) h (fun w h => h.zas (i := 0) rfl)) (fun hq15 => ?_)
      refine za4 h (fun y17 hg16 h => ?_) rfl
      refine o_q rfl rfl (q_ix Try.underlying23 Z3 rfl rfl hq15 hg16) ?_
      refine za4 h (fun l18 hs19 h => ?_) rfl
      refine o_e rfl (e_set (i := 0) rfl rfl rfl Z3 hs19) (fun _ => ?_)
      refine o_end ?_
      refine za1 ?_
      refine za0 ?_
      refine o_q rfl rfl (za2 rfl) ?_
      refine o_q rfl rfl (zau rfl rfl) ?_
      refine o_q rfl rfl (q_asg rfl) ?_
      refine o_end ?_
      refine zan ?_
      refine za1 ?_
      refine za0 ?_
      refine o_q rfl rfl (za2 rfl) ?_
      refine o_q rfl rfl (zau rfl rfl) ?_
      refine o_q rfl rfl (q_asg rfl) ?_
      refine o_end ?_
      refine zak k6 (l18, w64 (i2 + 1), w64 (i3 + 1)) (Nat.lt_succ_self _) h ⟨rfl, rfl, trivial⟩ (fun w h => za5 [0] (by decide) rfl w h) ?_
      repeat (first | exact zac _ _ | refine zai rfl ?_ | refine zae rfl ?_ | refine zaj rfl ?_)
    · skip
      replace h := br_f hb14 h
      refine c_exit ?_
      refine za3 ?_
      refine za3 ?_
      have e_ := Option.some.inj h; replace h := hR9; rw [← e_] at h; clear e_
      refine x_hit ?_
      refine za1 ?_
      refine c_seq ?_
      refine za0 ?_
      refine o_q rfl rfl (za2 rfl) ?_
      refine o_q rfl rfl (q_asg rfl) ?_
      refine o_end ?_
      refine za1 ?_
      refine c_ret ?_
      have e0_ := Option.some.inj h; clear h
      have d0_ := (Prod.mk.inj e0_).1; have e1_ := (Prod.mk.inj e0_).2; clear e0_; subst d0_
      subst e1_
      exact x_r1 () Try.results20 (zaf rfl) rfl (fun w h => za5 [0] (by decide) rfl w h)

/-! ### loop.example/g01098/laws.markPlan: function 13 -/
def laws_markPlan.f (k : Nat) (a0_0 : Int) (l0_1 : List SStep) (l0_2 : List Int) (a1 : Int) : Option (Int × (List SStep) × (List Int)) := (laws_markStepS.f k l0_1 a1).bind fun (i4, l5) => (laws_markIntS.f k l0_2 i4).bind fun (i7, l8) => some (i7, l5, l8)
set_option maxHeartbeats 600000 in
set_option maxRecDepth 100000 in
theorem laws_markPlan.calls (k : Nat) {w0 ws : World} {P0 : Nat → Prop} (a0_0 : Int) (A0_1 : Option Addr) (c0_1 : Nat) (n0_1 : Nat) (l0_1 : List SStep) (A0_2 : Option Addr) (c0_2 : Nat) (n0_2 : Nat) (l0_2 : List Int) (a1 : Int) (Z : Below w0.heap.size w0 ws) (hF : Fr w0 ws P0 [row kStep 107 (.slice A0_1 n0_1 c0_1) l0_1, row (Kd.int .i64) 3 (.slice A0_2 n0_2 c0_2) l0_2] ws)  (r_1 : Int) (r_2 : List SStep) (r_3 : List Int) (h : laws_markPlan.f k a0_0 l0_1 l0_2 a1 = some (r_1, r_2, r_3)) :
    Calls Try.prog 13 #[.agg #[.int .i64 a0_0, .slice A0_1 n0_1 c0_1, .slice A0_2 n0_2 c0_2], .int .i64 a1] ws (Post1 w0 ws P0 (fun (_ : Unit) => .int .i64 r_1) (fun (_ : Unit) => [row kStep 107 (.slice A0_1 n0_1 c0_1) r_2, row (Kd.int .i64) 3 (.slice A0_2 n0_2 c0_2) r_3])) := by
  unfold laws_markPlan.f at h
  obtain rfl := (hF.row_C (i := 0) rfl).2.1
  obtain rfl := (hF.row_C (i := 1) rfl).2.1
  refine enter Try.func13 rfl Try.ntmps13 rfl hF ?_
  refine c_seq ?_
  refine za0 ?_
  refine o_e rfl (e_box rfl) (fun g1 => ?_)
  refine o_q rfl rfl (q_asg rfl) ?_
  refine o_end ?_
  refine za1 ?_
  refine c_seq ?_
  refine za0 ?_
  refine o_q rfl rfl (q_f F25_1 rfl) ?_
  refine o_q rfl rfl (q_ldb Y22 rfl (fun w h => h.zad (i := 0) rfl) rfl) ?_
  refine o_q rfl rfl (za2 rfl) ?_
  refine o_pick [1, 0, 2] (by decide) rfl ?_
  refine bindE2 h (fun i4 l5 hx3 h => ?_) rfl
  refine o_e rfl (zab 1 Z Try.func64 N64 rfl rfl rfl (fun w P1 hF hB hS hT => laws_markStepS.calls k A0_1 c0_1 l0_1.length l0_1 a1 hB hF _ _ hx3)) (fun _ => ?_)
  refine o_q rfl rfl (q_asg rfl) ?_
  refine o_end ?_
  refine za1 ?_
  refine c_seq ?_
  refine za0 ?_
  refine o_q rfl rfl (q_f F25_2 rfl) ?_
  refine o_q rfl rfl (q_ldb Y23 rfl (fun w h => h.zad (i := 1) rfl) rfl) ?_
  refine o_q rfl rfl (za2 rfl) ?_
  refine o_pick [2, 0, 1] (by decide) rfl ?_
  refine bindE2 h (fun i7 l8 hx6 h => ?_) rfl
  refine o_e rfl (zab 1 Z Try.func20 N20 rfl rfl rfl (fun w P1 hF hB hS hT => laws_markIntS.calls k A0_2 c0_2 l0_2.length l0_2 i4 hB hF _ _ hx6)) (fun _ => ?_)
  refine o_q rfl rfl (q_asg rfl) ?_
  refine o_end ?_
  refine za1 ?_
  refine c_seq ?_
  refine za0 ?_
  refine o_q rfl rfl (za2 rfl) ?_
  refine o_q rfl rfl (q_asg rfl) ?_
  refine o_end ?_
  refine za1 ?_
  refine c_ret ?_
  have e0_ := Option.some.inj h; clear h
  have d0_ := (Prod.mk.inj e0_).1; have e1_ := (Prod.mk.inj e0_).2; clear e0_; subst d0_
  have d1_ := (Prod.mk.inj e1_).1; have e2_ := (Prod.mk.inj e1_).2; clear e1_; subst d1_
  subst e2_
  exact x_r1 () Try.results13 (zaf rfl) rfl (fun w h => za5 [1, 0] (by decide) rfl w h)

/-! ### loop.example/g01098/laws.heldStepS: function 65 -/
def laws_heldStepS.l0 (l0 : List SStep) : Nat → Int → Int → Option ((Int) ⊕ (Int))
  | 0, _, _ => none
  | k5 + 1, i1, i2 => if i2 < (l0.length : Int) then ((gt l0 i2).bind fun y16 => if y16.f0 ≠ i1 then (some (.inl (-1))) else ((gt l0 i2).bind fun y19 => if y19.f1 ≠ w64 (i1 + 1) then (some (.inl (-1))) else (laws_heldStepS.l0 l0 k5 (w64 (w64 (i1 + 1) + 1)) (w64 (i2 + 1))))) else (some (.inr i1))
def laws_heldStepS.f (k : Nat) (l0 : List SStep) (a1 : Int) : Option Int := (laws_heldStepS.l0 l0 k a1 0).bind fun o_ => match o_ with | .inl r_ => some r_ | .inr i1 => some i1
set_option maxHeartbeats 600000 in
set_option maxRecDepth 100000 in
theorem laws_heldStepS.calls (k : Nat) {w0 ws : World} {P0 : Nat → Prop} (A0 : Option Addr) (c0 : Nat) (n0 : Nat) (l0 : List SStep) (a1 : Int) (Z : Below w0.heap.size w0 ws) (hF : Fr w0 ws P0 [] ws) (R0 : Stable ws P0 (fun w => Kd.C kStep w A0 n0 l0)) (hc0 : n0 ≤ c0) (r_1 : Int) (h : laws_heldStepS.f k l0 a1 = some r_1) :
    Calls Try.prog 65 #[.slice A0 n0 c0, .int .i64 a1] ws (Post1 w0 ws P0 (fun (_ : Unit) => .int .i64 r_1) (fun (_ : Unit) => [])) := by
  unfold laws_heldStepS.f at h
  obtain rfl := (R0 ws (KeptB.refl _ _)).1
  refine enter Try.func65 rfl Try.ntmps65 rfl hF ?_
  refine c_seq ?_
  refine za0 ?_
  refine o_q rfl rfl (q_asg rfl) ?_
  refine o_end ?_
  refine za1 ?_
  refine c_seq ?_
  refine c_seq ?_
  refine za0 ?_
  refine o_q rfl rfl (q_asg rfl) ?_
  refine o_end ?_
  refine za1 ?_
  refine zah ?_
  refine za4 h (fun o10 hl9 hR8 => ?_) rfl
  clear h
  refine zav (σ := Int × Int) (fun k5 ((i1, i2) : Int × Int) => laws_heldStepS.l0 l0 k5 i1 i2 = some o10) [1, 4, 5, 6, 7, 8, 9, 10, 11, 12, 13, 14, 15, 16, 17, 18, 19, 20, 21, 22, 23, 24, 25, 26, 27, 28, 29] (fun ((i1, i2) : Int × Int) => [(1, .int .i64 i1), (5, .int .i64 i2)]) (fun ((i1, i2) : Int × Int) => []) k (a1, 0) hl9 ⟨rfl, rfl, trivial⟩ (fun w h => h) ?_
  refine natC (cur2 (fun i1 i2 => fun U11 hJ_ => ?_)) (fun k5 => (cur2 (fun i1 i2 => fun U11 hJ_ => ?_)))
  · skip
    replace hJ_ : laws_heldStepS.l0 l0 0 i1 i2 = some o10 := hJ_
    rw [laws_heldStepS.l0] at hJ_
    exact noneE hJ_
  · skip
    clear hl9
    have h := hJ_; clear hJ_
    replace h : laws_heldStepS.l0 l0 (k5 + 1) i1 i2 = some o10 := h
    rw [laws_heldStepS.l0] at h
    refine c_seq ?_
    refine c_seq ?_
    refine za0 ?_
    refine o_q rfl rfl (za2 rfl) ?_
    refine o_q rfl rfl (za2 rfl) ?_
    refine o_q rfl rfl (q_len Try.underlying22 rfl) ?_
    refine o_q rfl rfl (q_lss rfl rfl) ?_
    refine o_end ?_
    refine za1 ?_
    refine zaq _ rfl (fun hb13 => ?_) (fun hb13 => ?_)
    · skip
      replace h := br_t hb13 h
      refine zal ?_
      refine za1 ?_
      refine c_seq ?_
      refine zah ?_
      refine c_seq ?_
      refine c_seq ?_
      refine za0 ?_
      refine o_q rfl rfl (za2 rfl) ?_
      refine o_q rfl rfl (za2 rfl) ?_
      refine o_fact (p := Sh A0 l0.length l0.length) (fun w h => f_sh (dk := kStep) h (fun w h => R0.now Z h)) (fun hq14 => ?_)
      refine za4 h (fun y16 hg15 h => ?_) rfl
      refine o_q rfl rfl (q_ix Try.underlying22 Z107 rfl rfl hq14 hg15) ?_
      refine o_q rfl rfl (q_fe F107_0 rfl) ?_
      refine o_q rfl rfl (q_lde (off := 0) Y3 rfl rfl (fun w h => R0.now Z h) hg15 (fun _ _ h => h) rfl) ?_
      refine o_q rfl rfl (za2 rfl) ?_
      refine o_q rfl rfl (q_neq rfl rfl) ?_
      refine o_end ?_
      refine za1 ?_
      refine zaq _ rfl (fun hb17 => ?_) (fun hb17 => ?_)
      · skip
        replace h := br_t hb17 h
        refine c_seq ?_
        refine za0 ?_
        refine o_q rfl rfl (q_asg rfl) ?_
        refine o_end ?_
        refine za1 ?_
        refine c_ret ?_
        refine za6 ?_
        refine zam ?_
        refine za6 ?_
        refine za6 ?_
        have e_ := Option.some.inj h; replace h := hR8; rw [← e_] at h; clear e_
        refine zam ?_
        refine za6 ?_
        have e0_ := Option.some.inj h; clear h
        subst e0_
        exact x_r1 () Try.results65 (zaf rfl) rfl (fun w h => za5 [] (by decide) rfl w h)
      · skip
        replace h := br_f hb17 h
        refine zal ?_
        refine za1 ?_
        refine c_seq ?_
        refine za0 ?_
        refine o_q rfl rfl (za2 rfl) ?_
        refine o_q rfl rfl (zau rfl rfl) ?_
        refine o_q rfl rfl (q_asg rfl) ?_
        refine o_end ?_
        refine za1 ?_
        refine c_seq ?_
        refine c_seq ?_
        refine za0 ?_
        refine o_q rfl rfl (za2 rfl) ?_
        refine o_q rfl rfl (za2 rfl) ?_
        refine za4 h (fun y19 hg18 h => ?_) rfl
        refine o_q rfl rfl (q_ix Try.underlying22 Z107 rfl rfl hq14 hg18) ?_
        refine o_q rfl rfl (q_fe F107_1 rfl) ?_
        refine o_q rfl rfl (q_lde (off := 1) Y3 rfl rfl (fun w h => R0.now Z h) hg18 (fun _ _ h => h) rfl) ?_
        refine o_q rfl rfl (za2 rfl) ?_
        refine o_q rfl rfl (q_neq rfl rfl) ?_
        refine o_end ?_
        refine za1 ?_
        refine zaq _ rfl (fun hb20 => ?_) (fun hb20 => ?_)
        · skip
          replace h := br_t hb20 h
          refine c_seq ?_
          refine za0 ?_
          refine o_q rfl rfl (q_asg rfl) ?_
          refine o_end ?_
          refine za1 ?_
          refine c_ret ?_
          refine za6 ?_
          refine zam ?_
          refine za6 ?_
          refine za6 ?_
          have e_ := Option.some.inj h; replace h := hR8; rw [← e_] at h; clear e_
          refine zam ?_
          refine za6 ?_
          have e0_ := Option.some.inj h; clear h
          subst e0_
          exact x_r1 () Try.results65 (zaf rfl) rfl (fun w h => za5 [] (by decide) rfl w h)
        · skip
          replace h := br_f hb20 h
          refine zal ?_
          refine za1 ?_
          refine za0 ?_
          refine o_q rfl rfl (za2 rfl) ?_
          refine o_q rfl rfl (zau rfl rfl) ?_
          refine o_q rfl rfl (q_asg rfl) ?_
          refine o_end ?_
          refine zan ?_
          refine za1 ?_
          refine za0 ?_
          refine o_q rfl rfl (za2 rfl) ?_
          refine o_q rfl rfl (zau rfl rfl) ?_
          refine o_q rfl rfl (q_asg rfl) ?_
          refine o_end ?_
          refine zak k5 (w64 (w64 (i1 + 1) + 1), w64 (i2 + 1)) (Nat.lt_succ_self _) h ⟨rfl, rfl, trivial⟩ (fun w h => za5 [] (by decide) rfl w h) ?_
          repeat (first | exact zac _ _ | refine zai rfl ?_ | refine zae rfl ?_ | refine zaj rfl ?_)
    · skip
      replace h := br_f hb13 h
      refine c_exit ?_
      refine za3 ?_
      refine za3 ?_
      have e_ := Option.some.inj h; replace h := hR8; rw [← e_] at h; clear e_
      refine x_hit ?_
      refine za1 ?_
      refine c_seq ?_
      refine za0 ?_
      refine o_q rfl rfl (za2 rfl) ?_
      refine o_q rfl rfl (q_asg rfl) ?_
      refine o_end ?_
      refine za1 ?_
      refine c_ret ?_
      have e0_ := Option.some.inj h; clear h
      subst e0_
      exact x_r1 () Try.results65 (zaf rfl) rfl (fun w h => za5 [] (by decide) rfl w h)

/-! ### loop.example/g01098/laws.heldIntS: function 21 -/
def laws_heldIntS.l0 (l0 : List Int) : Nat → Int → Int → Option ((Int) ⊕ (Int))
  | 0, _, _ => none
  | k5 + 1, i1, i2 => if i2 < (l0.length : Int) then ((gt l0 i2).bind fun y16 => if y16 ≠ i1 then (some (.inl (-1))) else (laws_heldIntS.l0 l0 k5 (w64 (i1 + 1)) (w64 (i2 + 1)))) else (some (.inr i1))
def laws_heldIntS.f (k : Nat) (l0 : List Int) (a1 : Int) : Option Int := (laws_heldIntS.l0 l0 k a1 0).bind fun o_ => match o_ with | .inl r_ => some r_ | .inr i1 => some i1
set_option maxHeartbeats 600000 in
set_option maxRecDepth 100000 in
theorem laws_heldIntS.calls (k : Nat) {w0 ws : World} {P0 : Nat → Prop} (A0 : Option Addr) (c0 : Nat) (n0 : Nat) (l0 : List Int) (a1 : Int) (Z : Below w0.heap.size w0 ws) (hF : Fr w0 ws P0 [] ws) (R0 : Stable ws P0 (fun w => Kd.C (Kd.int .i64) w A0 n0 l0)) (hc0 : n0 ≤ c0) (r_1 : Int) (h : laws_heldIntS.f k l0 a1 = some r_1) :
    Calls Try.prog 21 #[.slice A0 n0 c0, .int .i64 a1] ws (Post1 w0 ws P0 (fun (_ : Unit) => .int .i64 r_1) (fun (_ : Unit) => [])) := by
  unfold laws_heldIntS.f at h
  obtain rfl := (R0 ws (KeptB.refl _ _)).1
  refine enter Try.func21 rfl Try.ntmps21 rfl hF ?_
  refine c_seq ?_
  refine za0 ?_
  refine o_q rfl rfl (q_asg rfl) ?_
  refine o_end ?_
  refine za1 ?_
  refine c_seq ?_
  refine c_seq ?_
  refine za0 ?_
  refine o_q rfl rfl (q_asg rfl) ?_
  refine o_end ?_
  refine za1 ?_
  refine zah ?_
  refine za4 h (fun o10 hl9 hR8 => ?_) rfl
  clear h
  refine zav (σ := Int × Int) (fun k5 ((i1, i2) : Int × Int) => laws_heldIntS.l0 l0 k5 i1 i2 = some o10) [1, 4, 5, 6, 7, 8, 9, 10, 11, 12, 13, 14, 15, 16, 17, 18, 19] (fun ((i1, i2) : Int × Int) => [(1, .int .i64 i1), (5, .int .i64 i2)]) (fun ((i1, i2) : Int × Int) => []) k (a1, 0) hl9 ⟨rfl, rfl, trivial⟩ (fun w h => h) ?_
  refine natC (cur2 (fun i1 i2 => fun U11 hJ_ => ?_)) (fun k5 => (cur2 (fun i1 i2 => fun U11 hJ_ => ?_)))
  · skip
    replace hJ_ : laws_heldIntS.l0 l0 0 i1 i2 = some o10 := hJ_
    rw [laws_heldIntS.l0] at hJ_
    exact noneE hJ_
  · skip
    clear hl9
    have h := hJ_; clear hJ_
    replace h : laws_heldIntS.l0 l0 (k5 + 1) i1 i2 = some o10 := h
    rw [laws_heldIntS.l0] at h
    refine c_seq ?_
    refine c_seq ?_
    refine za0 ?_
    refine o_q rfl rfl (za2 rfl) ?_
    refine o_q rfl rfl (za2 rfl) ?_
    refine o_q rfl rfl (q_len Try.underlying23 rfl) ?_
    refine o_q rfl rfl (q_lss rfl rfl) ?_
    refine o_end ?_
    refine za1 ?_
    refine zaq _ rfl (fun hb13 => ?_) (fun hb13 => ?_)
    · skip
      replace h := br_t hb13 h
      refine zal ?_
      refine za1 ?_
      refine c_seq ?_
      refine zah ?_
      refine c_seq ?_
      refine c_seq ?_
      refine za0 ?_
      refine o_q rfl rfl (za2 rfl) ?_
      refine o_q rfl rfl (za2 rfl) ?_
      refine o_fact (p := Sh A0 l0.length l0.length) (fun w h => f_sh (dk := (Kd.int .i64)) h (fun w h => R0.now Z h)) (fun hq14 => ?_)
      refine za4 h (fun y16 hg15 h => ?_) rfl
      refine o_q rfl rfl (q_ix Try.underlying23 Z3 rfl rfl hq14 hg15) ?_
      refine o_q rfl rfl (q_lde (off := 0) Y3 rfl rfl (fun w h => R0.now Z h) hg15 (fun _ _ h => h) rfl) ?_
      refine o_q rfl rfl (za2 rfl) ?_
      refine o_q rfl rfl (q_neq rfl rfl) ?_
      refine o_end ?_
      refine za1 ?_
      refine zaq _ rfl (fun hb17 => ?_) (fun hb17 => ?_)
      · skip
        replace h := br_t hb17 h
        refine c_seq ?_
        refine za0 ?_
        refine o_q rfl rfl (q_asg rfl) ?_
        refine o_end ?_
        refine za1 ?_
        refine c_ret ?_
        refine za6 ?_
        refine zam ?_
        refine za6 ?_
        refine za6 ?_
        have e_ := Option.some.inj h; replace h := hR8; rw [← e_] at h; clear e_
        refine zam ?_
        refine za6 ?_
        have e0_ := Option.some.inj h; clear h
        subst e0_
        exact x_r1 () Try.results21 (zaf rfl) rfl (fun w h => za5 [] (by decide) rfl w h)
      · skip
        replace h := br_f hb17 h
        refine zal ?_
        refine za1 ?_
        refine za0 ?_
        refine o_q rfl rfl (za2 rfl) ?_
        refine o_q rfl rfl (zau rfl rfl) ?_
        refine o_q rfl rfl (q_asg rfl) ?_
        refine o_end ?_
        refine zan ?_
        refine za1 ?_
        refine za0 ?_
        refine o_q rfl rfl (za2 rfl) ?_
        refine o_q rfl rfl (zau rfl rfl) ?_
        refine o_q rfl rfl (q_asg rfl) ?_
        refine o_end ?_
        refine zak k5 (w64 (i1 + 1), w64 (i2 + 1)) (Nat.lt_succ_self _) h ⟨rfl, rfl, trivial⟩ (fun w h => za5 [] (by decide) rfl w h) ?_
        repeat (first | exact zac _ _ | refine zai rfl ?_ | refine zae rfl ?_ | refine zaj rfl ?_)
    · skip
      replace h := br_f hb13 h
      refine c_exit ?_
      refine za3 ?_
      refine za3 ?_
      have e_ := Option.some.inj h; replace h := hR8; rw [← e_] at h; clear e_
      refine x_hit ?_
      refine za1 ?_
      refine c_seq ?_
      refine za0 ?_
      refine o_q rfl rfl (za2 rfl) ?_
      refine o_q rfl rfl (q_asg rfl) ?_
      refine o_end ?_
      refine za1 ?_
      refine c_ret ?_
      have e0_ := Option.some.inj h; clear h
      subst e0_
      exact x_r1 () Try.results21 (zaf rfl) rfl (fun w h => za5 [] (by decide) rfl w h)

/-! ### loop.example/g01098/laws.heldPlan: function 14 -/
def laws_heldPlan.f (k : Nat) (a0_0 : Int) (l0_1 : List SStep) (l0_2 : List Int) (a1 : Int) : Option Int := (laws_heldStepS.f k l0_1 a1).bind fun i4 => if i4 < 0 then (some (-1)) else ((laws_heldIntS.f k l0_2 i4).bind fun i7 => if i7 < 0 then (some (-1)) else (some i7))
set_option maxHeartbeats 600000 in
set_option maxRecDepth 100000 in
theorem laws_heldPlan.calls (k : Nat) {w0 ws : World} {P0 : Nat → Prop} (a0_0 : Int) (A0_1 : Option Addr) (c0_1 : Nat) (n0_1 : Nat) (l0_1 : List SStep) (A0_2 : Option Addr) (c0_2 : Nat) (n0_2 : Nat) (l0_2 : List Int) (a1 : Int) (Z : Below w0.heap.size w0 ws) (hF : Fr w0 ws P0 [] ws) (R0_1 : Stable ws P0 (fun w => Kd.C kStep w A0_1 n0_1 l0_1)) (hc0_1 : n0_1 ≤ c0_1) (R0_2 : Stable ws P0 (fun w => Kd.C (Kd.int .i64) w A0_2 n0_2 l0_2)) (hc0_2 : n0_2 ≤ c0_2) (r_1 : Int) (h : laws_heldPlan.f k a0_0 l0_1 l0_2 a1 = some r_1) :
    Calls Try.prog 14 #[.agg #[.int .i64 a0_0, .slice A0_1 n0_1 c0_1, .slice A0_2 n0_2 c0_2], .int .i64 a1] ws (Post1 w0 ws P0 (fun (_ : Unit) => .int .i64 r_1) (fun (_ : Unit) => [])) := by
  unfold laws_heldPlan.f at h
  obtain rfl := (R0_1 ws (KeptB.refl _ _)).1
  obtain rfl := (R0_2 ws (KeptB.refl _ _)).1
  refine enter Try.func14 rfl Try.ntmps14 rfl hF ?_
  refine c_seq ?_
  refine za0 ?_
  refine o_e rfl (e_box rfl) (fun g1 => ?_)
  refine o_q rfl rfl (q_asg rfl) ?_
  refine o_end ?_
  refine za1 ?_
  refine c_seq ?_
  refine za0 ?_
  refine o_q rfl rfl (q_f F25_1 rfl) ?_
  refine o_q rfl rfl (q_ldb Y22 rfl (fun w h => h.zad (i := 0) rfl) rfl) ?_
  refine o_q rfl rfl (za2 rfl) ?_
  refine za4 h (fun i4 hx3 h => ?_) rfl
  refine o_e rfl (zab 0 Z Try.func65 N65 rfl rfl rfl (fun w P1 hF hB hS hT => laws_heldStepS.calls k A0_1 c0_1 l0_1.length l0_1 a1 hB hF (hS _ R0_1) hc0_1 _ hx3)) (fun _ => ?_)
  refine o_q rfl rfl (q_asg rfl) ?_
  refine o_end ?_
  refine za1 ?_
  refine c_seq ?_
  refine c_seq ?_
  refine za0 ?_
  refine o_q rfl rfl (za2 rfl) ?_
  refine o_q rfl rfl (q_lss rfl rfl) ?_
  refine o_end ?_
  refine za1 ?_
  refine zaq _ rfl (fun hb5 => ?_) (fun hb5 => ?_)
  · skip
    replace h := br_t hb5 h
    refine c_seq ?_
    refine za0 ?_
    refine o_q rfl rfl (q_asg rfl) ?_
    refine o_end ?_
    refine za1 ?_
    refine c_ret ?_
    refine za6 ?_
    have e0_ := Option.some.inj h; clear h
    subst e0_
    exact x_r1 () Try.results14 (zaf rfl) rfl (fun w h => za5 [] (by decide) rfl w h)
  · skip
    replace h := br_f hb5 h
    refine zal ?_
    refine za1 ?_
    refine c_seq ?_
    refine za0 ?_
    refine o_q rfl rfl (q_f F25_2 rfl) ?_
    refine o_q rfl rfl (q_ldb Y23 rfl (fun w h => h.zad (i := 0) rfl) rfl) ?_
    refine o_q rfl rfl (za2 rfl) ?_
    refine za4 h (fun i7 hx6 h => ?_) rfl
    refine o_e rfl (zab 0 Z Try.func21 N21 rfl rfl rfl (fun w P1 hF hB hS hT => laws_heldIntS.calls k A0_2 c0_2 l0_2.length l0_2 i4 hB hF (hS _ R0_2) hc0_2 _ hx6)) (fun _ => ?_)
    refine o_q rfl rfl (q_asg rfl) ?_
    refine o_end ?_
    refine za1 ?_
    refine c_seq ?_
    refine c_seq ?_
    refine za0 ?_
    refine o_q rfl rfl (za2 rfl) ?_
    refine o_q rfl rfl (q_lss rfl rfl) ?_
    refine o_end ?_
    refine za1 ?_
    refine zaq _ rfl (fun hb8 => ?_) (fun hb8 => ?_)
    · skip
      replace h := br_t hb8 h
      refine c_seq ?_
      refine za0 ?_
      refine o_q rfl rfl (q_asg rfl) ?_
      refine o_end ?_
      refine za1 ?_
      refine c_ret ?_
      refine za6 ?_
      have e0_ := Option.some.inj h; clear h
      subst e0_
      exact x_r1 () Try.results14 (zaf rfl) rfl (fun w h => za5 [] (by decide) rfl w h)
    · skip
      replace h := br_f hb8 h
      refine zal ?_
      refine za1 ?_
      refine c_seq ?_
      refine za0 ?_
      refine o_q rfl rfl (za2 rfl) ?_
      refine o_q rfl rfl (q_asg rfl) ?_
      refine o_end ?_
      refine za1 ?_
      refine c_ret ?_
      have e0_ := Option.some.inj h; clear h
      subst e0_
      exact x_r1 () Try.results14 (zaf rfl) rfl (fun w h => za5 [] (by decide) rfl w h)

/-! ### loop.example/g01098/laws.FnExactSlidingPlan: function 4 -/
def laws_FnExactSlidingPlan.f (k : Nat) (a0 : Int) (a1 : Int) : Option Bool := (spec_SlidingPlan.f k a0 a1).bind fun (i2, l3, l4, b5) => (impl_SlidingPlan.f k a0 a1).bind fun (i13, l14, l15, b16) => (laws_eqPlan.f k i13 l14 l15 i2 l3 l4).bind fun b24 => if b24 = true then (if (b16 != b5) = true then (some false) else ((laws_markPlan.f k i13 l14 l15 1).bind fun (i28, l29, l30) => (laws_heldPlan.f k i13 l29 l30 1).bind fun i32 => if i32 < 0 then (some false) else (if i32 ≠ i28 then (some false) else ((impl_SlidingPlan.f k a0 a1).bind fun (i36, l37, l38, b39) => (laws_eqPlan.f k i36 l37 l38 i2 l3 l4).bind fun b47 => if b47 = true then (if (b39 != b5) = true then (some false) else ((laws_heldPlan.f k i13 l29 l30 1).bind fun i51 => if i51 < 0 then (some false) else (if i51 ≠ i28 then (some false) else (some true)))) else (some false))))) else (some false)
set_option maxHeartbeats 600000 in
set_option maxRecDepth 100000 in
theorem laws_FnExactSlidingPlan.calls (k : Nat) {w0 ws : World} {P0 : Nat → Prop} (a0 : Int) (a1 : Int) (Z : Below w0.heap.size w0 ws) (hF : Fr w0 ws P0 [] ws)  (r_1 : Bool) (h : laws_FnExactSlidingPlan.f k a0 a1 = some r_1) :
    Calls Try.prog 4 #[.int .i64 a0, .int .i64 a1] ws (Post1 w0 ws P0 (fun (_ : Unit) => .bool r_1) (fun (_ : Unit) => [])) := by
  unfold laws_FnExactSlidingPlan.f at h
  refine enter Try.func4 rfl Try.ntmps4 rfl hF ?_
  refine c_seq ?_
  refine za0 ?_
  refine o_q rfl rfl (q_asg rfl) ?_
  refine o_end ?_
  refine za1 ?_
  refine c_seq ?_
  refine za0 ?_
  refine o_q rfl rfl (za2 rfl) ?_
  refine o_q rfl rfl (za2 rfl) ?_
  refine bindE4 h (fun i2 l3 l4 b5 hx1 h => ?_) rfl
  refine o_e rfl (zab 0 Z Try.func15 N15 rfl rfl rfl (fun w P1 hF hB hS hT => spec_SlidingPlan.calls k a0 a1 hB hF _ _ _ _ hx1)) (cur4 (fun A6 c7 A8 c9 => ?_))
  refine o_q rfl rfl (za2 rfl) ?_
  refine o_q rfl rfl (q_ext rfl rfl) ?_
  refine o_q rfl rfl (q_ext rfl rfl) ?_
  refine o_e rfl (zay V25 rfl) (fun g10 => ?_)
  refine o_e rfl (zao (i := 0) rfl rfl rfl Z25 rfl rfl) (fun _ => ?_)
  refine o_q rfl rfl (q_asg rfl) ?_
  refine o_end ?_
  refine za1 ?_
  refine c_seq ?_
  refine za0 ?_
  refine o_q rfl rfl (za2 rfl) ?_
  refine o_q rfl rfl (za2 rfl) ?_
  refine bindE4 h (fun i13 l14 l15 b16 hx12 h => ?_) rfl
  refine o_e rfl (zab 0 Z Try.func16 N16 rfl rfl rfl (fun w P1 hF hB hS hT => impl_SlidingPlan.calls k a0 a1 hB hF _ _ _ _ hx12)) (cur4 (fun A17 c18 A19 c20 => ?_))
  refine o_q rfl rfl (za2 rfl) ?_
  refine o_q rfl rfl (q_ext rfl rfl) ?_
  refine o_q rfl rfl (q_ext rfl rfl) ?_
  refine o_e rfl (zay V25 rfl) (fun g21 => ?_)
  refine o_e rfl (zao (i := 0) rfl rfl rfl Z25 rfl rfl) (fun _ => ?_)
  refine o_q rfl rfl (q_asg rfl) ?_
  refine o_end ?_
  refine za1 ?_
  refine c_seq ?_
  refine c_seq ?_
  refine za0 ?_
  refine o_q rfl rfl (q_ldB G25 Z25 rfl (fun w h => h.zad (i := 0) rfl) rfl) ?_
  refine o_q rfl rfl (q_ldB G25 Z25 rfl (fun w h => h.zad (i := 3) rfl) rfl) ?_
  refine za4 h (fun b24 hx23 h => ?_) rfl
  refine o_e rfl (zab 0 Z Try.func12 N12 rfl rfl rfl (fun w P1 hF hB hS hT => laws_eqPlan.calls k i13 A17 c18 l14.length l14 A19 c20 l15.length l15 i2 A6 c7 l3.length l3 A8 c9 l4.length l4 hB hF (hT 1 _ rfl).row (hT 1 _ rfl).cap (hT 2 _ rfl).row (hT 2 _ rfl).cap (hT 4 _ rfl).row (hT 4 _ rfl).cap (hT 5 _ rfl).row (hT 5 _ rfl).cap _ hx23)) (fun _ => ?_)
  refine o_q rfl rfl (q_not rfl) ?_
  refine o_q rfl rfl (za2 rfl) ?_
  refine byB b24 (fun hb25 => ?_) (fun hb25 => ?_)
  · replace h := bb_t hb25 h
    refine o_w (zaa rfl rfl rfl (congrArg (fun b => Value.bool (!(b))) hb25)) rfl (za2 rfl) ?_
    refine o_w (zaa rfl rfl rfl (congrArg (fun b => Value.bool (!(b))) hb25)) rfl (za2 rfl) ?_
    refine o_w (zaa rfl rfl rfl (congrArg (fun b => Value.bool (!(b))) hb25)) rfl (q_bneq Try.underlying4 rfl rfl) ?_
    refine o_q rfl rfl (q_pick false (congrArg (fun b => Value.bool (!(b))) hb25) rfl) ?_
    refine o_end ?_
    refine za1 ?_
    refine zaq _ rfl (fun hb26 => ?_) (fun hb26 => ?_)
    · skip
      replace h := bb_t hb26 h
      refine c_seq ?_
      refine za0 ?_
      refine o_q rfl rfl (q_asg rfl) ?_
      refine o_end ?_
      refine za1 ?_
      refine c_ret ?_
      refine za6 ?_
      have e0_ := Option.some.inj h; clear h
      subst e0_
      exact x_r1 () Try.results4 (zaf rfl) rfl (fun w h => za5 [] (by decide) rfl w h)
    · skip
      replace h := bb_f hb26 h
      refine zal ?_
      refine za1 ?_
      refine c_seq ?_
      refine za0 ?_
      refine o_q rfl rfl (q_asg rfl) ?_
      refine o_end ?_
      refine za1 ?_
      refine c_seq ?_
      refine za0 ?_
      refine o_q rfl rfl (q_ldB G25 Z25 rfl (fun w h => h.zad (i := 0) rfl) rfl) ?_
      refine o_q rfl rfl (za2 rfl) ?_
      refine o_pick [1, 2, 0, 3, 4, 5] (by decide) rfl ?_
      refine bindE3 h (fun i28 l29 l30 hx27 h => ?_) rfl
      refine o_e rfl (zab 2 Z Try.func13 N13 rfl rfl rfl (fun w P1 hF hB hS hT => laws_markPlan.calls k i13 A17 c18 l14.length l14 A19 c20 l15.length l15 1 hB hF _ _ _ hx27)) (fun _ => ?_)
      refine o_q rfl rfl (q_asg rfl) ?_
      refine o_end ?_
      refine za1 ?_
      refine c_seq ?_
      refine za0 ?_
      refine o_q rfl rfl (q_asg rfl) ?_
      refine o_end ?_
      refine za1 ?_
      refine c_seq ?_
      refine za0 ?_
      refine o_q rfl rfl (q_ldB G25 Z25 rfl (fun w h => h.zad (i := 2) rfl) rfl) ?_
      refine o_q rfl rfl (za2 rfl) ?_
      refine za4 h (fun i32 hx31 h => ?_) rfl
      refine o_e rfl (zab 0 Z Try.func14 N14 rfl rfl rfl (fun w P1 hF hB hS hT => laws_heldPlan.calls k i13 A17 c18 l14.length l29 A19 c20 l15.length l30 1 hB hF (hT 0 _ rfl).row (hT 0 _ rfl).cap (hT 1 _ rfl).row (hT 1 _ rfl).cap _ hx31)) (fun _ => ?_)
      refine o_q rfl rfl (q_asg rfl) ?_
      refine o_end ?_
      refine za1 ?_
      refine c_seq ?_
      refine c_seq ?_
      refine za0 ?_
      refine o_q rfl rfl (za2 rfl) ?_
      refine o_q rfl rfl (q_lss rfl rfl) ?_
      refine o_end ?_
      refine za1 ?_
      refine zaq _ rfl (fun hb33 => ?_) (fun hb33 => ?_)
      · skip
        replace h := br_t hb33 h
        refine c_seq ?_
        refine za0 ?_
        refine o_q rfl rfl (q_asg rfl) ?_
        refine o_end ?_
        refine za1 ?_
        refine c_ret ?_
        refine za6 ?_
        have e0_ := Option.some.inj h; clear h
        subst e0_
        exact x_r1 () Try.results4 (zaf rfl) rfl (fun w h => za5 [] (by decide) rfl w h)
      · skip
        replace h := br_f hb33 h
        refine zal ?_
        refine za1 ?_
        refine c_seq ?_
        refine c_seq ?_
        refine za0 ?_
        refine o_q rfl rfl (za2 rfl) ?_
        refine o_q rfl rfl (za2 rfl) ?_
        refine o_q rfl rfl (q_neq rfl rfl) ?_
        refine o_end ?_
        refine za1 ?_
        refine zaq _ rfl (fun hb34 => ?_) (fun hb34 => ?_)
        · skip
          replace h := br_t hb34 h
          refine c_seq ?_
          refine za0 ?_
          refine o_q rfl rfl (q_asg rfl) ?_
          refine o_end ?_
          refine za1 ?_
          refine c_ret ?_
          refine za6 ?_
          have e0_ := Option.some.inj h; clear h
          subst e0_
          exact x_r1 () Try.results4 (zaf rfl) rfl (fun w h => za5 [] (by decide) rfl w h)
        · skip
          replace h := br_f hb34 h
          refine zal ?_
          refine za1 ?_
          refine c_seq ?_
          refine za0 ?_
          refine o_q rfl rfl (za2 rfl) ?_
          refine o_q rfl rfl (za2 rfl) ?_
          refine bindE4 h (fun i36 l37 l38 b39 hx35 h => ?_) rfl
          refine o_e rfl (zab 0 Z Try.func16 N16 rfl rfl rfl (fun w P1 hF hB hS hT => impl_SlidingPlan.calls k a0 a1 hB hF _ _ _ _ hx35)) (cur4 (fun A40 c41 A42 c43 => ?_))
          refine o_q rfl rfl (za2 rfl) ?_
          refine o_q rfl rfl (q_ext rfl rfl) ?_
          refine o_q rfl rfl (q_ext rfl rfl) ?_
          refine o_e rfl (zay V25 rfl) (fun g44 => ?_)
          refine o_e rfl (zao (i := 0) rfl rfl rfl Z25 rfl rfl) (fun _ => ?_)
          refine o_q rfl rfl (q_asg rfl) ?_
          refine o_end ?_
          refine za1 ?_
          refine c_seq ?_
          refine c_seq ?_
          refine za0 ?_
          refine o_q rfl rfl (q_ldB G25 Z25 rfl (fun w h => h.zad (i := 0) rfl) rfl) ?_
          refine o_q rfl rfl (q_ldB G25 Z25 rfl (fun w h => h.zad (i := 6) rfl) rfl) ?_
          refine za4 h (fun b47 hx46 h => ?_) rfl
          refine o_e rfl (zab 0 Z Try.func12 N12 rfl rfl rfl (fun w P1 hF hB hS hT => laws_eqPlan.calls k i36 A40 c41 l37.length l37 A42 c43 l38.length l38 i2 A6 c7 l3.length l3 A8 c9 l4.length l4 hB hF (hT 1 _ rfl).row (hT 1 _ rfl).cap (hT 2 _ rfl).row (hT 2 _ rfl).cap (hT 7 _ rfl).row (hT 7 _ rfl).cap (hT 8 _ rfl).row (hT 8 _ rfl).cap _ hx46)) (fun _ => ?_)
          refine o_q rfl rfl (q_not rfl) ?_
          refine o_q rfl rfl (za2 rfl) ?_
          refine byB b47 (fun hb48 => ?_) (fun hb48 => ?_)
          · replace h := bb_t hb48 h
            refine o_w (zaa rfl rfl rfl (congrArg (fun b => Value.bool (!(b))) hb48)) rfl (za2 rfl) ?_
            refine o_w (zaa rfl rfl rfl (congrArg (fun b => Value.bool (!(b))) hb48)) rfl (za2 rfl) ?_
            refine o_w (zaa rfl rfl rfl (congrArg (fun b => Value.bool (!(b))) hb48)) rfl (q_bneq Try.underlying4 rfl rfl) ?_
            refine o_q rfl rfl (q_pick false (congrArg (fun b => Value.bool (!(b))) hb48) rfl) ?_
            refine o_end ?_
            refine za1 ?_
            refine zaq _ rfl (fun hb49 => ?_) (fun hb49 => ?_)
            · skip
              replace h := bb_t hb49 h
              refine c_seq ?_
              refine za0 ?_
              refine o_q rfl rfl (q_asg rfl) ?_
              refine o_end ?_
              refine za1 ?_
              refine c_ret ?_
              refine za6 ?_
              have e0_ := Option.some.inj h; clear h
              subst e0_
              exact x_r1 () Try.results4 (zaf rfl) rfl (fun w h => za5 [] (by decide) rfl w h)
            · skip
              replace h := bb_f hb49 h
              refine zal ?_
              refine za1 ?_
              refine c_seq ?_
              refine za0 ?_
              refine o_q rfl rfl (q_asg rfl) ?_
              refine o_end ?_
              refine za1 ?_
              refine c_seq ?_
              refine za0 ?_
              refine o_q rfl rfl (q_ldB G25 Z25 rfl (fun w h => h.zad (i := 5) rfl) rfl) ?_
              refine o_q rfl rfl (za2 rfl) ?_
              refine za4 h (fun i51 hx50 h => ?_) rfl
              refine o_e rfl (zab 0 Z Try.func14 N14 rfl rfl rfl (fun w P1 hF hB hS hT => laws_heldPlan.calls k i13 A17 c18 l14.length l29 A19 c20 l15.length l30 1 hB hF (hT 3 _ rfl).row (hT 3 _ rfl).cap (hT 4 _ rfl).row (hT 4 _ rfl).cap _ hx50)) (fun _ => ?_)
              refine o_q rfl rfl (q_asg rfl) ?_
              refine o_end ?_
              refine za1 ?_
              refine c_seq ?_
              refine c_seq ?_
              refine za0 ?_
              refine o_q rfl rfl (za2 rfl) ?_
              refine o_q rfl rfl (q_lss rfl rfl) ?_
              refine o_end ?_
              refine za1 ?_
              refine zaq _ rfl (fun hb52 => ?_) (fun hb52 => ?_)
              · skip
                replace h := br_t hb52 h
                refine c_seq ?_
                refine za0 ?_
                refine o_q rfl rfl (q_asg rfl) ?_
                refine o_end ?_
                refine za1 ?_
                refine c_ret ?_
                refine za6 ?_
                have e0_ := Option.some.inj h; clear h
                subst e0_
                exact x_r1 () Try.results4 (zaf rfl) rfl (fun w h => za5 [] (by decide) rfl w h)
              · skip
                replace h := br_f hb52 h
                refine zal ?_
                refine za1 ?_
                refine c_seq ?_
                refine c_seq ?_
                refine za0 ?_
                refine o_q rfl rfl (za2 rfl) ?_
                refine o_q rfl rfl (za2 rfl) ?_
                refine o_q rfl rfl (q_neq rfl rfl) ?_
                refine o_end ?_
                refine za1 ?_
                refine zaq _ rfl (fun hb53 => ?_) (fun hb53 => ?_)
                · skip
                  replace h := br_t hb53 h
                  refine c_seq ?_
                  refine za0 ?_
                  refine o_q rfl rfl (q_asg rfl) ?_
                  refine o_end ?_
                  refine za1 ?_
                  refine c_ret ?_
                  refine za6 ?_
                  have e0_ := Option.some.inj h; clear h
                  subst e0_
                  exact x_r1 () Try.results4 (zaf rfl) rfl (fun w h => za5 [] (by decide) rfl w h)
                · skip
                  replace h := br_f hb53 h
                  refine zal ?_
                  refine za1 ?_
                  refine c_seq ?_
                  refine za0 ?_
                  refine o_q rfl rfl (q_asg rfl) ?_
                  refine o_end ?_
                  refine za1 ?_
                  refine c_ret ?_
                  have e0_ := Option.some.inj h; clear h
                  subst e0_
                  exact x_r1 () Try.results4 (zaf rfl) rfl (fun w h => za5 [] (by decide) rfl w h)
          · replace h := bb_f hb48 h
            refine @o_n _ _ _ _ _ _ _ _ _ _ _ 56 (za8 rfl rfl rfl (congrArg (fun b => Value.bool (!(b))) hb48) rfl) (Eq.refl (some 56)) ?_
            refine @o_n _ _ _ _ _ _ _ _ _ _ _ 57 (za8 rfl rfl rfl (congrArg (fun b => Value.bool (!(b))) hb48) rfl) (Eq.refl (some 57)) ?_
            refine @o_n _ _ _ _ _ _ _ _ _ _ _ 58 (za8 rfl rfl rfl (congrArg (fun b => Value.bool (!(b))) hb48) rfl) (Eq.refl (some 58)) ?_
            refine o_q rfl rfl (q_pick true (congrArg (fun b => Value.bool (!(b))) hb48) rfl) ?_
            refine o_end ?_
            refine za1 ?_
            refine c_true rfl ?_
            refine c_seq ?_
            refine za0 ?_
            refine o_q rfl rfl (q_asg rfl) ?_
            refine o_end ?_
            refine za1 ?_
            refine c_ret ?_
            refine za6 ?_
            have e0_ := Option.some.inj h; clear h
            subst e0_
            exact x_r1 () Try.results4 (zaf rfl) rfl (fun w h => za5 [] (by decide) rfl w h)
  · replace h := bb_f hb25 h
    refine @o_n _ _ _ _ _ _ _ _ _ _ _ 30 (za8 rfl rfl rfl (congrArg (fun b => Value.bool (!(b))) hb25) rfl) (Eq.refl (some 30)) ?_
    refine @o_n _ _ _ _ _ _ _ _ _ _ _ 31 (za8 rfl rfl rfl (congrArg (fun b => Value.bool (!(b))) hb25) rfl) (Eq.refl (some 31)) ?_
    refine @o_n _ _ _ _ _ _ _ _ _ _ _ 32 (za8 rfl rfl rfl (congrArg (fun b => Value.bool (!(b))) hb25) rfl) (Eq.refl (some 32)) ?_
    refine o_q rfl rfl (q_pick true (congrArg (fun b => Value.bool (!(b))) hb25) rfl) ?_
    refine o_end ?_
    refine za1 ?_
    refine c_true rfl ?_
    refine c_seq ?_
    refine za0 ?_
    refine o_q rfl rfl (q_asg rfl) ?_
    refine o_end ?_
    refine za1 ?_
    refine c_ret ?_
    refine za6 ?_
    have e0_ := Option.some.inj h; clear h
    subst e0_
    exact x_r1 () Try.results4 (zaf rfl) rfl (fun w h => za5 [] (by decide) rfl w h)

/-- THE ONE PURE STATEMENT of laws_FnExactSlidingPlan. -/
def laws_FnExactSlidingPlan.Pure : Prop := ∀ (a0 : Int) (a1 : Int), (Lit.int .i64 a0).wf = true → (Lit.int .i64 a1).wf = true → ∃ k, laws_FnExactSlidingPlan.f k a0 a1 = some true
theorem laws_FnExactSlidingPlan.walk (P : laws_FnExactSlidingPlan.Pure) (a0 : Int) (a1 : Int) (w : World)  (q0 : (Lit.int .i64 a0).wf = true) (q1 : (Lit.int .i64 a1).wf = true) :
    Calls Try.prog 4 #[.int .i64 a0, .int .i64 a1] w fun e w' => e = .returned (.bool true) ∧ Below w.heap.size w w' := by
  obtain ⟨k, h⟩ := P a0 a1 q0 q1
  refine (laws_FnExactSlidingPlan.calls k a0 a1 (Below.refl _ _) (Fr.start w)  true h).mono ?_
  rintro e w' ⟨s, rfl, hF⟩
  exact ⟨rfl, hF.bel⟩
end Go.Proofs.Ytiaohjciddbpoaa.H2
