import Derived.Test.YtpdpomjgfmdjfaaKFnExactVectorPlanV2p3
namespace Go.Proofs.Ytpdpomjgfmdjfaa.V2
open Go.RowKit Go.Proofs.Ytpdpomjgfmdjfaa.Frame Go.Proofs.YtpdpomjgfmdjfaaW.PrintLast Go.Proofs.Ytpdpomjgfmdjfaa.Hand
open Go.Proofs.YtpdpomjgfmdjfaaW.PrintWords hiding mn mx
set_option linter.unusedVariables false
/-! ### loop.example/g01098/laws.heldIntS: function 32 -/
def laws_heldIntS.l0 (l0 : List Int) : Nat → Int → Int → Option ((Int) ⊕ (Int))
  | 0, _, _ => none
  | k5 + 1, i1, i2 => if i2 < (l0.length : Int) then ((gt l0 i2).bind fun y16 => if y16 ≠ i1 then (some (.inl (-1))) else (laws_heldIntS.l0 l0 k5 (w64 (i1 + 1)) (w64 (i2 + 1)))) else (some (.inr i1))
def laws_heldIntS.f (k : Nat) (l0 : List Int) (a1 : Int) : Option Int := (laws_heldIntS.l0 l0 k a1 0).bind fun o_ => match o_ with | .inl r_ => some r_ | .inr i1 => some i1
set_option maxHeartbeats 600000 in
set_option maxRecDepth 100000 in
theorem laws_heldIntS.calls (k : Nat) {w0 ws : World} {P0 : Nat → Prop} (A0 : Option Addr) (c0 : Nat) (n0 : Nat) (l0 : List Int) (a1 : Int) (Z : Below w0.heap.size w0 ws) (hF : Fr w0 ws P0 [] ws) (R0 : Stable ws P0 (fun w => Kd.C (Kd.int .i64) w A0 n0 l0)) (hc0 : n0 ≤ c0) (r_1 : Int) (h : laws_heldIntS.f k l0 a1 = some r_1) :
    Calls Try.prog 32 #[.slice A0 n0 c0, .int .i64 a1] ws (Post1 w0 ws P0 (fun (_ : Unit) => .int .i64 r_1) (fun (_ : Unit) => [])) := by
  unfold laws_heldIntS.f at h
  obtain rfl := (R0 ws (KeptB.refl _ _)).1
  refine enter Try.func32 rfl Try.ntmps32 rfl hF ?_
  refine c_seq ?_
  refine za0 ?_
  refine o_q rfl rfl (q_asg rfl) ?_
  refine o_end ?_
  refine za1 ?_
  refine c_seq ?_
  refine c_seq ?_
  refine za0 ?_
  refine o_q rfl rfl (q_asg rfl) ?_
  refine o_end ?_
  refine za1 ?_
  refine zae ?_
  refine za4 h (fun o10 hl9 hR8 => ?_) rfl
  clear h
  refine zat (σ := Int × Int) (fun k5 ((i1, i2) : Int × Int) => laws_heldIntS.l0 l0 k5 i1 i2 = some o10) [1, 4, 5, 6, 7, 8, 9, 10, 11, 12, 13, 14, 15, 16, 17, 18, 19] (fun ((i1, i2) : Int × Int) => [(1, .int .i64 i1), (5, .int .i64 i2)]) (fun ((i1, i2) : Int × Int) => []) k (a1, 0) hl9 ⟨rfl, rfl, trivial⟩ (fun w h => h) ?_
  refine natC (cur2 (fun i1 i2 => fun U11 hJ_ => ?_)) (fun k5 => (cur2 (fun i1 i2 => fun U11 hJ_ => ?_)))
  · skip
    replace hJ_ : laws_heldIntS.l0 l0 0 i1 i2 = some o10 := hJ_
    rw [laws_heldIntS.l0] at hJ_
    exact noneE hJ_
  · skip
    clear hl9
    have h := hJ_; clear hJ_
    replace h : laws_heldIntS.l0 l0 (k5 + 1) i1 i2 = some o10 := h
    rw [laws_heldIntS.l0] at h
    refine c_seq ?_
    refine c_seq ?_
    refine za0 ?_
    refine o_q rfl rfl (za2 rfl) ?_
    refine o_q rfl rfl (za2 rfl) ?_
    refine o_q rfl rfl (q_len Try.underlying22 rfl) ?_
    refine o_q rfl rfl (q_lss rfl rfl) ?_
    refine o_end ?_
    refine za1 ?_
    refine zar _ rfl (fun hb13 => ?_) (fun hb13 => ?_)
    · skip
      replace h := br_t hb13 h
      refine zai ?_
      refine za1 ?_
      refine c_seq ?_
      refine zae ?_
      refine c_seq ?_
      refine c_seq ?_
      refine za0 ?_
      refine o_q rfl rfl (za2 rfl) ?_
      refine o_q rfl rfl (za2 rfl) ?_
      refine zau (p := Sh A0 l0.length l0.length) (fun w h => f_sh (dk := (Kd.int .i64)) h (fun w h => R0.now Z h)) (fun hq14 => ?_)
      refine za4 h (fun y16 hg15 h => ?_) rfl
      refine o_q rfl rfl (q_ix Try.underlying22 Z3 rfl rfl hq14 hg15) ?_
      refine o_q rfl rfl (q_lde (off := 0) Y3 rfl rfl (fun w h => R0.now Z h) hg15 (fun _ _ h => h) rfl) ?_
      refine o_q rfl rfl (za2 rfl) ?_
      refine o_q rfl rfl (q_neq rfl rfl) ?_
      refine o_end ?_
      refine za1 ?_
      refine zar _ rfl (fun hb17 => ?_) (fun hb17 => ?_)
      · skip
        replace h := br_t hb17 h
        refine c_seq ?_
        refine za0 ?_
        refine o_q rfl rfl (q_asg rfl) ?_
        refine o_end ?_
        refine za1 ?_
        refine c_ret ?_
        refine za5 ?_
        refine zak ?_
        refine za5 ?_
        refine za5 ?_
        have e_ := Option.some.inj h; replace h := hR8; rw [← e_] at h; clear e_
        refine zak ?_
        refine za5 ?_
        have e0_ := Option.some.inj h; clear h
        subst e0_
        exact x_r1 () Try.results32 (zac rfl) rfl (fun w h => za7 [] (by decide) rfl w h)
      · skip
        replace h := br_f hb17 h
        refine zai ?_
        refine za1 ?_
        refine za0 ?_
        refine o_q rfl rfl (za2 rfl) ?_
        refine o_q rfl rfl (zav rfl rfl) ?_
        refine o_q rfl rfl (q_asg rfl) ?_
        refine o_end ?_
        refine zaq ?_
        refine za1 ?_
        refine za0 ?_
        refine o_q rfl rfl (za2 rfl) ?_
        refine o_q rfl rfl (zav rfl rfl) ?_
        refine o_q rfl rfl (q_asg rfl) ?_
        refine o_end ?_
        refine zal k5 (w64 (i1 + 1), w64 (i2 + 1)) (Nat.lt_succ_self _) h ⟨rfl, rfl, trivial⟩ (fun w h => za7 [] (by decide) rfl w h) ?_
        repeat (first | exact zab _ _ | refine zah rfl ?_ | refine zad rfl ?_ | refine zaj rfl ?_)
    · skip
      replace h := br_f hb13 h
      refine c_exit ?_
      refine za3 ?_
      refine za3 ?_
      have e_ := Option.some.inj h; replace h := hR8; rw [← e_] at h; clear e_
      refine x_hit ?_
      refine za1 ?_
      refine c_seq ?_
      refine za0 ?_
      refine o_q rfl rfl (za2 rfl) ?_
      refine o_q rfl rfl (q_asg rfl) ?_
      refine o_end ?_
      refine za1 ?_
      refine c_ret ?_
      have e0_ := Option.some.inj h; clear h
      subst e0_
      exact x_r1 () Try.results32 (zac rfl) rfl (fun w h => za7 [] (by decide) rfl w h)

/-! ### loop.example/g01098/laws.heldPlan: function 26 -/
def laws_heldPlan.f (k : Nat) (a0_0 : Int) (l0_1 : List SStep) (l0_2 : List Int) (a1 : Int) : Option Int := (laws_heldStepS.f k l0_1 a1).bind fun i4 => if i4 < 0 then (some (-1)) else ((laws_heldIntS.f k l0_2 i4).bind fun i7 => if i7 < 0 then (some (-1)) else (some i7))
set_option maxHeartbeats 600000 in
set_option maxRecDepth 100000 in
theorem laws_heldPlan.calls (k : Nat) {w0 ws : World} {P0 : Nat → Prop} (a0_0 : Int) (A0_1 : Option Addr) (c0_1 : Nat) (n0_1 : Nat) (l0_1 : List SStep) (A0_2 : Option Addr) (c0_2 : Nat) (n0_2 : Nat) (l0_2 : List Int) (a1 : Int) (Z : Below w0.heap.size w0 ws) (hF : Fr w0 ws P0 [] ws) (R0_1 : Stable ws P0 (fun w => Kd.C kStep w A0_1 n0_1 l0_1)) (hc0_1 : n0_1 ≤ c0_1) (R0_2 : Stable ws P0 (fun w => Kd.C (Kd.int .i64) w A0_2 n0_2 l0_2)) (hc0_2 : n0_2 ≤ c0_2) (r_1 : Int) (h : laws_heldPlan.f k a0_0 l0_1 l0_2 a1 = some r_1) :
    Calls Try.prog 26 #[.agg #[.int .i64 a0_0, .slice A0_1 n0_1 c0_1, .slice A0_2 n0_2 c0_2], .int .i64 a1] ws (Post1 w0 ws P0 (fun (_ : Unit) => .int .i64 r_1) (fun (_ : Unit) => [])) := by
  unfold laws_heldPlan.f at h
  obtain rfl := (R0_1 ws (KeptB.refl _ _)).1
  obtain rfl := (R0_2 ws (KeptB.refl _ _)).1
  refine enter Try.func26 rfl Try.ntmps26 rfl hF ?_
  refine c_seq ?_
  refine za0 ?_
  refine o_e rfl (e_box rfl) (fun g1 => ?_)
  refine o_q rfl rfl (q_asg rfl) ?_
  refine o_end ?_
  refine za1 ?_
  refine c_seq ?_
  refine za0 ?_
  refine o_q rfl rfl (q_f F36_1 rfl) ?_
  refine o_q rfl rfl (q_ldb Y34 rfl (fun w h => h.zaa (i := 0) rfl) rfl) ?_
  refine o_q rfl rfl (za2 rfl) ?_
  refine za4 h (fun i4 hx3 h => ?_) rfl
  refine o_e rfl (za9 0 Z Try.func66 N66 rfl rfl rfl (fun w P1 hF hB hS hT => laws_heldStepS.calls k A0_1 c0_1 l0_1.length l0_1 a1 hB hF (hS _ R0_1) hc0_1 _ hx3)) (fun _ => ?_)
  refine o_q rfl rfl (q_asg rfl) ?_
  refine o_end ?_
  refine za1 ?_
  refine c_seq ?_
  refine c_seq ?_
  refine za0 ?_
  refine o_q rfl rfl (za2 rfl) ?_
  refine o_q rfl rfl (q_lss rfl rfl) ?_
  refine o_end ?_
  refine za1 ?_
  refine zar _ rfl (fun hb5 => ?_) (fun hb5 => ?_)
  · skip
    replace h := br_t hb5 h
    refine c_seq ?_
    refine za0 ?_
    refine o_q rfl rfl (q_asg rfl) ?_
    refine o_end ?_
    refine za1 ?_
    refine c_ret ?_
    refine za5 ?_
    have e0_ := Option.some.inj h; clear h
    subst e0_
    exact x_r1 () Try.results26 (zac rfl) rfl (fun w h => za7 [] (by decide) rfl w h)
  · skip
    replace h := br_f hb5 h
    refine zai ?_
    refine za1 ?_
    refine c_seq ?_
    refine za0 ?_
    refine o_q rfl rfl (q_f F36_2 rfl) ?_
    refine o_q rfl rfl (q_ldb Y22 rfl (fun w h => h.zaa (i := 0) rfl) rfl) ?_
    refine o_q rfl rfl (za2 rfl) ?_
    refine za4 h (fun i7 hx6 h => ?_) rfl
    refine o_e rfl (za9 0 Z Try.func32 N32 rfl rfl rfl (fun w P1 hF hB hS hT => laws_heldIntS.calls k A0_2 c0_2 l0_2.length l0_2 i4 hB hF (hS _ R0_2) hc0_2 _ hx6)) (fun _ => ?_)
    refine o_q rfl rfl (q_asg rfl) ?_
    refine o_end ?_
    refine za1 ?_
    refine c_seq ?_
    refine c_seq ?_
    refine za0 ?_
    refine o_q rfl rfl (za2 rfl) ?_
    refine o_q rfl rfl (q_lss rfl rfl) ?_
    refine o_end ?_
    refine za1 ?_
    refine zar _ rfl (fun hb8 => ?_) (fun hb8 => ?_)
    · skip
      replace h := br_t hb8 h
      refine c_seq ?_
      refine za0 ?_
      refine o_q rfl rfl (q_asg rfl) ?_
      refine o_end ?_
      refine za1 ?_
      refine c_ret ?_
      refine za5 ?_
      have e0_ := Option.some.inj h; clear h
      subst e0_
      exact x_r1 () Try.results26 (zac rfl) rfl (fun w h => za7 [] (by decide) rfl w h)
    · skip
      replace h := br_f hb8 h
      refine zai ?_
      refine za1 ?_
      refine c_seq ?_
      refine za0 ?_
      refine o_q rfl rfl (za2 rfl) ?_
      refine o_q rfl rfl (q_asg rfl) ?_
      refine o_end ?_
      refine za1 ?_
      refine c_ret ?_
      have e0_ := Option.some.inj h; clear h
      subst e0_
      exact x_r1 () Try.results26 (zac rfl) rfl (fun w h => za7 [] (by decide) rfl w h)

/-! ### loop.example/g01098/laws.FnExactVectorPlan: function 9 -/
def laws_FnExactVectorPlan.f (k : Nat) (l0 : List Int) : Option Bool := if 1048576 < (l0.length : Int) then (some true) else ((laws_toIntS.f k l0).bind fun l3 => (spec_VectorPlan.f k l3).bind fun (i7, l8, l9, b10) => (laws_toIntS.f k l0).bind fun l18 => (impl_VectorPlan.f k l18).bind fun (i22, l23, l24, z25, b26) => (laws_eqPlan.f k i22 l23 (l24.take z25) i7 l8 l9).bind fun b34 => if b34 = true then (if (b26 != b10) = true then (some false) else ((laws_toIntS.f k l0).bind fun l38 => (laws_eqIntS.f k l18 l38).bind fun b42 => if b42 = true then ((laws_markIntS.f k l18 1).bind fun (i45, l46) => if i45 < 0 then (some false) else ((laws_eqPlan.f k i22 l23 (l24.take z25) i7 l8 l9).bind fun b49 => if b49 = true then ((laws_markPlan_2.f k i22 l23 l24 z25 1).bind fun (i52, l53, l54) => (laws_heldPlan.f k i22 l53 (l54.take z25) 1).bind fun i56 => if i56 < 0 then (some false) else (if i56 ≠ i52 then (some false) else ((laws_toIntS.f k l0).bind fun l60 => (impl_VectorPlan.f k l60).bind fun (i64, l65, l66, z67, b68) => (laws_eqPlan.f k i64 l65 (l66.take z67) i7 l8 l9).bind fun b76 => if b76 = true then (if (b68 != b10) = true then (some false) else ((laws_heldPlan.f k i22 l53 (l54.take z25) 1).bind fun i80 => if i80 < 0 then (some false) else (if i80 ≠ i52 then (some false) else (some true)))) else (some false)))) else (some false))) else (some false))) else (some false))
set_option maxHeartbeats 600000 in
set_option maxRecDepth 100000 in
theorem laws_FnExactVectorPlan.calls (k : Nat) {w0 ws : World} {P0 : Nat → Prop} (A0 : Option Addr) (c0 : Nat) (n0 : Nat) (l0 : List Int) (Z : Below w0.heap.size w0 ws) (hF : Fr w0 ws P0 [] ws) (R0 : Stable ws P0 (fun w => Kd.C (Kd.int .i64) w A0 n0 l0)) (hc0 : n0 ≤ c0) (r_1 : Bool) (h : laws_FnExactVectorPlan.f k l0 = some r_1) :
    Calls Try.prog 9 #[.slice A0 n0 c0] ws (Post1 w0 ws P0 (fun (_ : Unit) => .bool r_1) (fun (_ : Unit) => [])) := by
  unfold laws_FnExactVectorPlan.f at h
  obtain rfl := (R0 ws (KeptB.refl _ _)).1
  refine enter Try.func9 rfl Try.ntmps9 rfl hF ?_
  refine c_seq ?_
  refine za0 ?_
  refine o_q rfl rfl (q_asg rfl) ?_
  refine o_end ?_
  refine za1 ?_
  refine c_seq ?_
  refine c_seq ?_
  refine za0 ?_
  refine o_q rfl rfl (za2 rfl) ?_
  refine o_q rfl rfl (q_len Try.underlying22 rfl) ?_
  refine o_q rfl rfl (q_gtr rfl rfl) ?_
  refine o_end ?_
  refine za1 ?_
  refine zar _ rfl (fun hb1 => ?_) (fun hb1 => ?_)
  · skip
    replace h := br_t hb1 h
    refine c_seq ?_
    refine za0 ?_
    refine o_q rfl rfl (q_asg rfl) ?_
    refine o_end ?_
    refine za1 ?_
    refine c_ret ?_
    refine za5 ?_
    have e0_ := Option.some.inj h; clear h
    subst e0_
    exact x_r1 () Try.results9 (zac rfl) rfl (fun w h => za7 [] (by decide) rfl w h)
  · skip
    replace h := br_f hb1 h
    refine zai ?_
    refine za1 ?_
    refine c_seq ?_
    refine za0 ?_
    refine o_q rfl rfl (za2 rfl) ?_
    refine za4 h (fun l3 hx2 h => ?_) rfl
    refine o_e rfl (za9 0 Z Try.func28 N28 rfl rfl rfl (fun w P1 hF hB hS hT => laws_toIntS.calls k A0 c0 l0.length l0 hB hF (hS _ R0) hc0 _ hx2)) (cur2 (fun A4 c5 => ?_))
    refine bindE4 h (fun i7 l8 l9 b10 hx6 h => ?_) rfl
    refine o_e rfl (za9 0 Z Try.func41 N41 rfl rfl rfl (fun w P1 hF hB hS hT => spec_VectorPlan.calls k A4 c5 l3.length l3 hB hF (hT 0 _ rfl).row (hT 0 _ rfl).cap _ _ _ _ hx6)) (cur4 (fun A11 c12 A13 c14 => ?_))
    refine o_q rfl rfl (za2 rfl) ?_
    refine o_q rfl rfl (q_ext rfl rfl) ?_
    refine o_q rfl rfl (q_ext rfl rfl) ?_
    refine o_e rfl (zaw V36 rfl) (fun g15 => ?_)
    refine o_e rfl (zam (i := 0) rfl rfl rfl Z36 rfl rfl) (fun _ => ?_)
    refine o_q rfl rfl (q_asg rfl) ?_
    refine o_end ?_
    refine za1 ?_
    refine c_seq ?_
    refine za0 ?_
    refine o_q rfl rfl (za2 rfl) ?_
    refine za4 h (fun l18 hx17 h => ?_) rfl
    refine o_e rfl (za9 0 Z Try.func28 N28 rfl rfl rfl (fun w P1 hF hB hS hT => laws_toIntS.calls k A0 c0 l0.length l0 hB hF (hS _ R0) hc0 _ hx17)) (cur2 (fun A19 c20 => ?_))
    refine o_q rfl rfl (q_asg rfl) ?_
    refine o_end ?_
    refine za1 ?_
    refine c_seq ?_
    refine za0 ?_
    refine o_q rfl rfl (za2 rfl) ?_
    refine bindE5 h (fun i22 l23 l24 z25 b26 hx21 h => ?_) rfl
    refine o_e rfl (za9 0 Z Try.func42 N42 rfl rfl rfl (fun w P1 hF hB hS hT => impl_VectorPlan.calls k A19 c20 l18.length l18 hB hF (hT 0 _ rfl).row (hT 0 _ rfl).cap _ _ _ _ _ hx21)) (cur4 (fun A27 c28 A29 c30 => ?_))
    refine o_q rfl rfl (za2 rfl) ?_
    refine o_q rfl rfl (q_ext rfl rfl) ?_
    refine o_q rfl rfl (q_ext rfl rfl) ?_
    refine o_e rfl (zaw V36 rfl) (fun g31 => ?_)
    refine o_e rfl (zam (i := 0) rfl rfl rfl Z36 rfl rfl) (fun _ => ?_)
    refine o_q rfl rfl (q_asg rfl) ?_
    refine o_end ?_
    refine za1 ?_
    refine c_seq ?_
    refine c_seq ?_
    refine za0 ?_
    refine o_q rfl rfl (q_ldB G36 Z36 rfl (fun w h => h.zaa (i := 0) rfl) rfl) ?_
    refine o_q rfl rfl (q_ldB G36 Z36 rfl (fun w h => h.zaa (i := 4) rfl) rfl) ?_
    refine za4 h (fun b34 hx33 h => ?_) rfl
    refine o_e rfl (za9 0 Z Try.func23 N23 rfl rfl rfl (fun w P1 hF hB hS hT => laws_eqPlan.calls k i22 A27 c28 l23.length l23 A29 (tl z25 l24.length) (tl z25 l24.length) (l24.take z25) i7 A11 c12 l8.length l8 A13 c14 l9.length l9 hB hF (hT 1 _ rfl).row (hT 1 _ rfl).cap (stab_tk z25 (hT 2 _ rfl).row) (Nat.le_refl _) (hT 5 _ rfl).row (hT 5 _ rfl).cap (hT 6 _ rfl).row (hT 6 _ rfl).cap _ hx33)) (fun _ => ?_)
    refine o_q rfl rfl (q_not rfl) ?_
    refine o_q rfl rfl (za2 rfl) ?_
    refine byB b34 (fun hb35 => ?_) (fun hb35 => ?_)
    · replace h := bb_t hb35 h
      refine o_w (za8 rfl rfl rfl (congrArg (fun b => Value.bool (!(b))) hb35)) rfl (za2 rfl) ?_
      refine o_w (za8 rfl rfl rfl (congrArg (fun b => Value.bool (!(b))) hb35)) rfl (za2 rfl) ?_
      refine o_w (za8 rfl rfl rfl (congrArg (fun b => Value.bool (!(b))) hb35)) rfl (q_bneq Try.underlying4 rfl rfl) ?_
      refine o_q rfl rfl (q_pick false (congrArg (fun b => Value.bool (!(b))) hb35) rfl) ?_
      refine o_end ?_
      refine za1 ?_
      refine zar _ rfl (fun hb36 => ?_) (fun hb36 => ?_)
      · skip
        replace h := bb_t hb36 h
        refine c_seq ?_
        refine za0 ?_
        refine o_q rfl rfl (q_asg rfl) ?_
        refine o_end ?_
        refine za1 ?_
        refine c_ret ?_
        refine za5 ?_
        have e0_ := Option.some.inj h; clear h
        subst e0_
        exact x_r1 () Try.results9 (zac rfl) rfl (fun w h => za7 [] (by decide) rfl w h)
      · skip
        replace h := bb_f hb36 h
        refine zai ?_
        refine za1 ?_
        refine c_seq ?_
        refine c_seq ?_
        refine za0 ?_
        refine o_q rfl rfl (za2 rfl) ?_
        refine o_q rfl rfl (za2 rfl) ?_
        refine za4 h (fun l38 hx37 h => ?_) rfl
        refine o_e rfl (za9 0 Z Try.func28 N28 rfl rfl rfl (fun w P1 hF hB hS hT => laws_toIntS.calls k A0 c0 l0.length l0 hB hF (hS _ R0) hc0 _ hx37)) (cur2 (fun A39 c40 => ?_))
        refine za4 h (fun b42 hx41 h => ?_) rfl
        refine o_e rfl (za9 0 Z Try.func30 N30 rfl rfl rfl (fun w P1 hF hB hS hT => laws_eqIntS.calls k A19 c20 l18.length l18 A39 c40 l38.length l38 hB hF (hT 4 _ rfl).row (hT 4 _ rfl).cap (hT 0 _ rfl).row (hT 0 _ rfl).cap _ hx41)) (fun _ => ?_)
        refine o_q rfl rfl (q_not rfl) ?_
        refine o_end ?_
        refine za1 ?_
        refine zar _ rfl (fun hb43 => ?_) (fun hb43 => ?_)
        · replace hb43 := nt_t hb43
          replace h := bb_f hb43 h
          refine c_seq ?_
          refine za0 ?_
          refine o_q rfl rfl (q_asg rfl) ?_
          refine o_end ?_
          refine za1 ?_
          refine c_ret ?_
          refine za5 ?_
          have e0_ := Option.some.inj h; clear h
          subst e0_
          exact x_r1 () Try.results9 (zac rfl) rfl (fun w h => za7 [] (by decide) rfl w h)
        · replace hb43 := nt_f hb43
          replace h := bb_t hb43 h
          refine zai ?_
          refine za1 ?_
          refine c_seq ?_
          refine za0 ?_
          refine o_q rfl rfl (q_asg rfl) ?_
          refine o_end ?_
          refine za1 ?_
          refine c_seq ?_
          refine za0 ?_
          refine o_q rfl rfl (za2 rfl) ?_
          refine o_q rfl rfl (za2 rfl) ?_
          refine o_pick [4, 0, 1, 2, 3, 5, 6, 7, 8] (by decide) rfl ?_
          refine bindE2 h (fun i45 l46 hx44 h => ?_) rfl
          refine o_e rfl (za9 1 Z Try.func31 N31 rfl rfl rfl (fun w P1 hF hB hS hT => laws_markIntS.calls k A19 c20 l18.length l18 1 hB hF _ _ hx44)) (fun _ => ?_)
          refine o_q rfl rfl (q_asg rfl) ?_
          refine o_end ?_
          refine za1 ?_
          refine c_seq ?_
          refine c_seq ?_
          refine za0 ?_
          refine o_q rfl rfl (za2 rfl) ?_
          refine o_q rfl rfl (q_lss rfl rfl) ?_
          refine o_q rfl rfl (za2 rfl) ?_
          refine byB (decide (i45 < 0)) (fun hb47 => ?_) (fun hb47 => ?_)
          · replace h := br_t hb47 h
            refine @o_n _ _ _ _ _ _ _ _ _ _ _ 49 (za6 rfl rfl rfl (congrArg Value.bool hb47) rfl) (Eq.refl (some 49)) ?_
            refine @o_n _ _ _ _ _ _ _ _ _ _ _ 50 (za6 rfl rfl rfl (congrArg Value.bool hb47) rfl) (Eq.refl (some 50)) ?_
            refine @o_n _ _ _ _ _ _ _ _ _ _ _ 51 (za6 rfl rfl rfl (congrArg Value.bool hb47) rfl) (Eq.refl (some 51)) ?_
            refine @o_n _ _ _ _ _ _ _ _ _ _ _ 52 (za6 rfl rfl rfl (congrArg Value.bool hb47) rfl) (Eq.refl (some 52)) ?_
            refine o_q rfl rfl (q_pick true (congrArg Value.bool hb47) rfl) ?_
            refine o_q rfl rfl (za2 rfl) ?_
            refine @o_n _ _ _ _ _ _ _ _ _ _ _ 55 (za6 rfl rfl rfl rfl rfl) (Eq.refl (some 55)) ?_
            refine @o_n _ _ _ _ _ _ _ _ _ _ _ 56 (za6 rfl rfl rfl rfl rfl) (Eq.refl (some 56)) ?_
            refine @o_n _ _ _ _ _ _ _ _ _ _ _ 57 (za6 rfl rfl rfl rfl rfl) (Eq.refl (some 57)) ?_
            refine o_q rfl rfl (q_pick true rfl rfl) ?_
            refine o_end ?_
            refine za1 ?_
            refine c_true rfl ?_
            refine c_seq ?_
            refine za0 ?_
            refine o_q rfl rfl (q_asg rfl) ?_
            refine o_end ?_
            refine za1 ?_
            refine c_ret ?_
            refine za5 ?_
            have e0_ := Option.some.inj h; clear h
            subst e0_
            exact x_r1 () Try.results9 (zac rfl) rfl (fun w h => za7 [] (by decide) rfl w h)
          · replace h := br_f hb47 h
            refine o_w (za8 rfl rfl rfl (congrArg Value.bool hb47)) rfl (q_ldB G36 Z36 rfl (fun w h => h.zaa (i := 2) rfl) rfl) ?_
            refine o_w (za8 rfl rfl rfl (congrArg Value.bool hb47)) rfl (q_ldB G36 Z36 rfl (fun w h => h.zaa (i := 5) rfl) rfl) ?_
            refine za4 h (fun b49 hx48 h => ?_) rfl
            refine o_ew (za8 rfl rfl rfl (congrArg Value.bool hb47)) (za9 0 Z Try.func23 N23 rfl rfl rfl (fun w P1 hF hB hS hT => laws_eqPlan.calls k i22 A27 c28 l23.length l23 A29 (tl z25 l24.length) (tl z25 l24.length) (l24.take z25) i7 A11 c12 l8.length l8 A13 c14 l9.length l9 hB hF (hT 3 _ rfl).row (hT 3 _ rfl).cap (stab_tk z25 (hT 4 _ rfl).row) (Nat.le_refl _) (hT 6 _ rfl).row (hT 6 _ rfl).cap (hT 7 _ rfl).row (hT 7 _ rfl).cap _ hx48)) (fun _ => ?_)
            refine o_w (za8 rfl rfl rfl (congrArg Value.bool hb47)) rfl (q_not rfl) ?_
            refine o_q rfl rfl (q_pick false (congrArg Value.bool hb47) rfl) ?_
            refine o_q rfl rfl (za2 rfl) ?_
            refine byB b49 (fun hb50 => ?_) (fun hb50 => ?_)
            · replace h := bb_t hb50 h
              refine o_w (za8 rfl rfl rfl (congrArg (fun b => Value.bool (!(b))) hb50)) rfl (za2 rfl) ?_
              refine o_w (za8 rfl rfl rfl (congrArg (fun b => Value.bool (!(b))) hb50)) rfl (za2 rfl) ?_
              refine o_w (za8 rfl rfl rfl (congrArg (fun b => Value.bool (!(b))) hb50)) rfl (q_bneq Try.underlying4 rfl rfl) ?_
              refine o_q rfl rfl (q_pick false (congrArg (fun b => Value.bool (!(b))) hb50) rfl) ?_
              refine o_end ?_
              refine za1 ?_
              refine c_false (congrArg Value.bool hb36) ?_
              refine zai ?_
              refine za1 ?_
              refine c_seq ?_
              refine za0 ?_
              refine o_q rfl rfl (q_asg rfl) ?_
              refine o_end ?_
              refine za1 ?_
              refine c_seq ?_
              refine za0 ?_
              refine o_q rfl rfl (q_ldB G36 Z36 rfl (fun w h => h.zaa (i := 2) rfl) rfl) ?_
              refine o_q rfl rfl (za2 rfl) ?_
              refine o_pick [3, 4, 0, 1, 2, 5, 6, 7, 8] (by decide) rfl ?_
              refine bindE3 h (fun i52 l53 l54 hx51 h => ?_) rfl
              refine o_e rfl (za9 2 Z Try.func25 N25 rfl rfl rfl (fun w P1 hF hB hS hT => laws_markPlan_2.calls k i22 A27 c28 l23.length l23 A29 c30 l24.length l24 z25 1 hB hF _ _ _ hx51)) (fun _ => ?_)
              refine o_q rfl rfl (q_asg rfl) ?_
              refine o_end ?_
              refine za1 ?_
              refine c_seq ?_
              refine za0 ?_
              refine o_q rfl rfl (q_asg rfl) ?_
              refine o_end ?_
              refine za1 ?_
              refine c_seq ?_
              refine za0 ?_
              refine o_q rfl rfl (q_ldB G36 Z36 rfl (fun w h => h.zaa (i := 4) rfl) rfl) ?_
              refine o_q rfl rfl (za2 rfl) ?_
              refine za4 h (fun i56 hx55 h => ?_) rfl
              refine o_e rfl (za9 0 Z Try.func26 N26 rfl rfl rfl (fun w P1 hF hB hS hT => laws_heldPlan.calls k i22 A27 c28 l23.length l53 A29 (tl z25 l24.length) (tl z25 l24.length) (l54.take z25) 1 hB hF (hT 0 _ rfl).row (hT 0 _ rfl).cap (stab_tk z25 (hT 1 _ rfl).row) (Nat.le_refl _) _ hx55)) (fun _ => ?_)
              refine o_q rfl rfl (q_asg rfl) ?_
              refine o_end ?_
              refine za1 ?_
              refine c_seq ?_
              refine c_seq ?_
              refine za0 ?_
              refine o_q rfl rfl (za2 rfl) ?_
              refine o_q rfl rfl (q_lss rfl rfl) ?_
              refine o_end ?_
              refine za1 ?_
              refine zar _ rfl (fun hb57 => ?_) (fun hb57 => ?_)
              · skip
                replace h := br_t hb57 h
                refine c_seq ?_
                refine za0 ?_
                refine o_q rfl rfl (q_asg rfl) ?_
                refine o_end ?_
                refine za1 ?_
                refine c_ret ?_
                refine za5 ?_
                have e0_ := Option.some.inj h; clear h
                subst e0_
                exact x_r1 () Try.results9 (zac rfl) rfl (fun w h => za7 [] (by decide) rfl w h)
              · skip
                replace h := br_f hb57 h
                refine zai ?_
                refine za1 ?_
                refine c_seq ?_
                refine c_seq ?_
                refine za0 ?_
                refine o_q rfl rfl (za2 rfl) ?_
                refine o_q rfl rfl (za2 rfl) ?_
                refine o_q rfl rfl (q_neq rfl rfl) ?_
                refine o_end ?_
                refine za1 ?_
                refine zar _ rfl (fun hb58 => ?_) (fun hb58 => ?_)
                · skip
                  replace h := br_t hb58 h
                  refine c_seq ?_
                  refine za0 ?_
                  refine o_q rfl rfl (q_asg rfl) ?_
                  refine o_end ?_
                  refine za1 ?_
                  refine c_ret ?_
                  refine za5 ?_
                  have e0_ := Option.some.inj h; clear h
                  subst e0_
                  exact x_r1 () Try.results9 (zac rfl) rfl (fun w h => za7 [] (by decide) rfl w h)
                · skip
                  replace h := br_f hb58 h
                  refine zai ?_
                  refine za1 ?_
                  refine c_seq ?_
                  refine za0 ?_
                  refine o_q rfl rfl (za2 rfl) ?_
                  refine za4 h (fun l60 hx59 h => ?_) rfl
                  refine o_e rfl (za9 0 Z Try.func28 N28 rfl rfl rfl (fun w P1 hF hB hS hT => laws_toIntS.calls k A0 c0 l0.length l0 hB hF (hS _ R0) hc0 _ hx59)) (cur2 (fun A61 c62 => ?_))
                  refine bindE5 h (fun i64 l65 l66 z67 b68 hx63 h => ?_) rfl
                  refine o_e rfl (za9 0 Z Try.func42 N42 rfl rfl rfl (fun w P1 hF hB hS hT => impl_VectorPlan.calls k A61 c62 l60.length l60 hB hF (hT 0 _ rfl).row (hT 0 _ rfl).cap _ _ _ _ _ hx63)) (cur4 (fun A69 c70 A71 c72 => ?_))
                  refine o_q rfl rfl (za2 rfl) ?_
                  refine o_q rfl rfl (q_ext rfl rfl) ?_
                  refine o_q rfl rfl (q_ext rfl rfl) ?_
                  refine o_e rfl (zaw V36 rfl) (fun g73 => ?_)
                  refine o_e rfl (zam (i := 0) rfl rfl rfl Z36 rfl rfl) (fun _ => ?_)
                  refine o_q rfl rfl (q_asg rfl) ?_
                  refine o_end ?_
                  refine za1 ?_
                  refine c_seq ?_
                  refine c_seq ?_
                  refine za0 ?_
                  refine o_q rfl rfl (q_ldB G36 Z36 rfl (fun w h => h.zaa (i := 0) rfl) rfl) ?_
                  refine o_q rfl rfl (q_ldB G36 Z36 rfl (fun w h => h.zaa (i := 9) rfl) rfl) ?_
                  refine za4 h (fun b76 hx75 h => ?_) rfl
                  refine o_e rfl (za9 0 Z Try.func23 N23 rfl rfl rfl (fun w P1 hF hB hS hT => laws_eqPlan.calls k i64 A69 c70 l65.length l65 A71 (tl z67 l66.length) (tl z67 l66.length) (l66.take z67) i7 A11 c12 l8.length l8 A13 c14 l9.length l9 hB hF (hT 1 _ rfl).row (hT 1 _ rfl).cap (stab_tk z67 (hT 2 _ rfl).row) (Nat.le_refl _) (hT 10 _ rfl).row (hT 10 _ rfl).cap (hT 11 _ rfl).row (hT 11 _ rfl).cap _ hx75)) (fun _ => ?_)
                  refine o_q rfl rfl (q_not rfl) ?_
                  refine o_q rfl rfl (za2 rfl) ?_
                  refine byB b76 (fun hb77 => ?_) (fun hb77 => ?_)
                  · replace h := bb_t hb77 h
                    refine o_w (za8 rfl rfl rfl (congrArg (fun b => Value.bool (!(b))) hb77)) rfl (za2 rfl) ?_
                    refine o_w (za8 rfl rfl rfl (congrArg (fun b => Value.bool (!(b))) hb77)) rfl (za2 rfl) ?_
                    refine o_w (za8 rfl rfl rfl (congrArg (fun b => Value.bool (!(b))) hb77)) rfl (q_bneq Try.underlying4 rfl rfl) ?_
                    refine o_q rfl rfl (q_pick false (congrArg (fun b => Value.bool (!(b))) hb77) rfl) ?_
                    refine o_end ?_
                    refine za1 ?_
                    refine zar _ rfl (fun hb78 => ?_) (fun hb78 => ?_)
                    · skip
                      replace h := bb_t hb78 h
                      refine c_seq ?_
                      refine za0 ?_
                      refine o_q rfl rfl (q_asg rfl) ?_
                      refine o_end ?_
                      refine za1 ?_
                      refine c_ret ?_
                      refine za5 ?_
                      have e0_ := Option.some.inj h; clear h
                      subst e0_
                      exact x_r1 () Try.results9 (zac rfl) rfl (fun w h => za7 [] (by decide) rfl w h)
                    · skip
                      replace h := bb_f hb78 h
                      refine zai ?_
                      refine za1 ?_
                      refine c_seq ?_
                      refine za0 ?_
                      refine o_q rfl rfl (q_asg rfl) ?_
                      refine o_end ?_
                      refine za1 ?_
                      refine c_seq ?_
                      refine za0 ?_
                      refine o_q rfl rfl (q_ldB G36 Z36 rfl (fun w h => h.zaa (i := 8) rfl) rfl) ?_
                      refine o_q rfl rfl (za2 rfl) ?_
                      refine za4 h (fun i80 hx79 h => ?_) rfl
                      refine o_e rfl (za9 0 Z Try.func26 N26 rfl rfl rfl (fun w P1 hF hB hS hT => laws_heldPlan.calls k i22 A27 c28 l23.length l53 A29 (tl z25 l24.length) (tl z25 l24.length) (l54.take z25) 1 hB hF (hT 4 _ rfl).row (hT 4 _ rfl).cap (stab_tk z25 (hT 5 _ rfl).row) (Nat.le_refl _) _ hx79)) (fun _ => ?_)
                      refine o_q rfl rfl (q_asg rfl) ?_
                      refine o_end ?_
                      refine za1 ?_
                      refine c_seq ?_
                      refine c_seq ?_
                      refine za0 ?_
                      refine o_q rfl rfl (za2 rfl) ?_
                      refine o_q rfl rfl (q_lss rfl rfl) ?_
                      refine o_end ?_
                      refine za1 ?_
                      refine zar _ rfl (fun hb81 => ?_) (fun hb81 => ?_)
                      · skip
                        replace h := br_t hb81 h
                        refine c_seq ?_
                        refine za0 ?_
                        refine o_q rfl rfl (q_asg rfl) ?_
                        refine o_end ?_
                        refine za1 ?_
                        refine c_ret ?_
                        refine za5 ?_
                        have e0_ := Option.some.inj h; clear h
                        subst e0_
                        exact x_r1 () Try.results9 (zac rfl) rfl (fun w h => za7 [] (by decide) rfl w h)
                      · skip
                        replace h := br_f hb81 h
                        refine zai ?_
                        refine za1 ?_
                        refine c_seq ?_
                        refine c_seq ?_
                        refine za0 ?_
                        refine o_q rfl rfl (za2 rfl) ?_
                        refine o_q rfl rfl (za2 rfl) ?_
                        refine o_q rfl rfl (q_neq rfl rfl) ?_
                        refine o_end ?_
                        refine za1 ?_
                        refine zar _ rfl (fun hb82 => ?_) (fun hb82 => ?_)
                        · skip
                          replace h := br_t hb82 h
                          refine c_seq ?_
                          refine za0 ?_
                          refine o_q rfl rfl (q_asg rfl) ?_
                          refine o_end ?_
                          refine za1 ?_
                          refine c_ret ?_
                          refine za5 ?_
                          have e0_ := Option.some.inj h; clear h
                          subst e0_
                          exact x_r1 () Try.results9 (zac rfl) rfl (fun w h => za7 [] (by decide) rfl w h)
                        · skip
                          replace h := br_f hb82 h
                          refine zai ?_
                          refine za1 ?_
                          refine c_seq ?_
                          refine za0 ?_
                          refine o_q rfl rfl (q_asg rfl) ?_
                          refine o_end ?_
                          refine za1 ?_
                          refine c_ret ?_
                          have e0_ := Option.some.inj h; clear h
                          subst e0_
                          exact x_r1 () Try.results9 (zac rfl) rfl (fun w h => za7 [] (by decide) rfl w h)
                  · replace h := bb_f hb77 h
                    refine @o_n _ _ _ _ _ _ _ _ _ _ _ 81 (za6 rfl rfl rfl (congrArg (fun b => Value.bool (!(b))) hb77) rfl) (Eq.refl (some 81)) ?_
                    refine @o_n _ _ _ _ _ _ _ _ _ _ _ 82 (za6 rfl rfl rfl (congrArg (fun b => Value.bool (!(b))) hb77) rfl) (Eq.refl (some 82)) ?_
                    refine @o_n _ _ _ _ _ _ _ _ _ _ _ 83 (za6 rfl rfl rfl (congrArg (fun b => Value.bool (!(b))) hb77) rfl) (Eq.refl (some 83)) ?_
                    refine o_q rfl rfl (q_pick true (congrArg (fun b => Value.bool (!(b))) hb77) rfl) ?_
                    refine o_end ?_
                    refine za1 ?_
                    refine c_true rfl ?_
                    refine c_seq ?_
                    refine za0 ?_
                    refine o_q rfl rfl (q_asg rfl) ?_
                    refine o_end ?_
                    refine za1 ?_
                    refine c_ret ?_
                    refine za5 ?_
                    have e0_ := Option.some.inj h; clear h
                    subst e0_
                    exact x_r1 () Try.results9 (zac rfl) rfl (fun w h => za7 [] (by decide) rfl w h)
            · replace h := bb_f hb50 h
              refine @o_n _ _ _ _ _ _ _ _ _ _ _ 55 (za6 rfl rfl rfl (congrArg (fun b => Value.bool (!(b))) hb50) rfl) (Eq.refl (some 55)) ?_
              refine @o_n _ _ _ _ _ _ _ _ _ _ _ 56 (za6 rfl rfl rfl (congrArg (fun b => Value.bool (!(b))) hb50) rfl) (Eq.refl (some 56)) ?_
              refine @o_n _ _ _ _ _ _ _ _ _ _ _ 57 (za6 rfl rfl rfl (congrArg (fun b => Value.bool (!(b))) hb50) rfl) (Eq.refl (some 57)) ?_
              refine o_q rfl rfl (q_pick true (congrArg (fun b => Value.bool (!(b))) hb50) rfl) ?_
              refine o_end ?_
              refine za1 ?_
              refine c_true rfl ?_
              refine c_seq ?_
              refine za0 ?_
              refine o_q rfl rfl (q_asg rfl) ?_
              refine o_end ?_
              refine za1 ?_
              refine c_ret ?_
              refine za5 ?_
              have e0_ := Option.some.inj h; clear h
              subst e0_
              exact x_r1 () Try.results9 (zac rfl) rfl (fun w h => za7 [] (by decide) rfl w h)
    · replace h := bb_f hb35 h
      refine @o_n _ _ _ _ _ _ _ _ _ _ _ 34 (za6 rfl rfl rfl (congrArg (fun b => Value.bool (!(b))) hb35) rfl) (Eq.refl (some 34)) ?_
      refine @o_n _ _ _ _ _ _ _ _ _ _ _ 35 (za6 rfl rfl rfl (congrArg (fun b => Value.bool (!(b))) hb35) rfl) (Eq.refl (some 35)) ?_
      refine @o_n _ _ _ _ _ _ _ _ _ _ _ 36 (za6 rfl rfl rfl (congrArg (fun b => Value.bool (!(b))) hb35) rfl) (Eq.refl (some 36)) ?_
      refine o_q rfl rfl (q_pick true (congrArg (fun b => Value.bool (!(b))) hb35) rfl) ?_
      refine o_end ?_
      refine za1 ?_
      refine c_true rfl ?_
      refine c_seq ?_
      refine za0 ?_
      refine o_q rfl rfl (q_asg rfl) ?_
      refine o_end ?_
      refine za1 ?_
      refine c_ret ?_
      refine za5 ?_
      have e0_ := Option.some.inj h; clear h
      subst e0_
      exact x_r1 () Try.results9 (zac rfl) rfl (fun w h => za7 [] (by decide) rfl w h)

/-- THE ONE PURE STATEMENT of laws_FnExactVectorPlan. -/
def laws_FnExactVectorPlan.Pure : Prop := ∀ (l0 : List Int), l0.length ≤ maxLen → (∀ y ∈ l0, (Lit.int .i64 y).wf = true) → ∃ k, laws_FnExactVectorPlan.f k l0 = some true
theorem laws_FnExactVectorPlan.walk (P : laws_FnExactVectorPlan.Pure) (A0 : Option Addr) (c0 : Nat) (l0 : List Int) (w : World) (hr0 : Kd.C (Kd.int .i64) w A0 l0.length l0) (hc0 : l0.length ≤ c0) (q0 : l0.length ≤ maxLen) (q1 : (∀ y ∈ l0, (Lit.int .i64 y).wf = true)) :
    Calls Try.prog 9 #[.slice A0 l0.length c0] w fun e w' => e = .returned (.bool true) ∧ Below w.heap.size w w' := by
  obtain ⟨k, h⟩ := P l0 q0 q1
  refine (laws_FnExactVectorPlan.calls k A0 c0 l0.length l0 (Below.refl _ _) (Fr.start w) (fun W hW => Kd.C_below hr0 hW.below) hc0 true h).mono ?_
  rintro e w' ⟨s, rfl, hF⟩
  exact ⟨rfl, hF.bel⟩
end Go.Proofs.Ytpdpomjgfmdjfaa.V2
