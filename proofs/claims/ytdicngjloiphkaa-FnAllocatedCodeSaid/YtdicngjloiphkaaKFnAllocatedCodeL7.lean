import Derived.Test.YtdicngjloiphkaaKFnAllocatedCodeL7p4
namespace Go.Proofs.Ytdicngjloiphkaa.L7
open Go.RowKit Go.Proofs.Ytdicngjloiphkaa.Frame Go.Proofs.YtdicngjloiphkaaW.PrintLast Go.Proofs.Ytdicngjloiphkaa.Hand
open Go.Proofs.YtdicngjloiphkaaW.PrintWords hiding mn mx
set_option linter.unusedVariables false
/-! ### slices.Equal[[]int,int]: function 138 -/
def slices_Equal_int_int.l0 (l1 : List Int) : (List Int) → Int → Option ((Bool) ⊕ (Unit))
  | [], i2 => some (.inr ())
  | y3 :: ys4, i2 => (gt l1 i2).bind fun y16 => if y3 ≠ y16 then (some (.inl false)) else (slices_Equal_int_int.l0 l1 ys4 (i2 + 1))
def slices_Equal_int_int.f (l0 : List Int) (l1 : List Int) : Option Bool := if (l0.length : Int) ≠ (l1.length : Int) then (some false) else ((slices_Equal_int_int.l0 l1 l0 0).bind fun o_ => match o_ with | .inl r_ => some r_ | .inr _ => some true)
set_option maxHeartbeats 600000 in
set_option maxRecDepth 100000 in
theorem slices_Equal_int_int.calls {w0 ws : World} {P0 : Nat → Prop} (A0 : Option Addr) (c0 : Nat) (n0 : Nat) (l0 : List Int) (A1 : Option Addr) (c1 : Nat) (n1 : Nat) (l1 : List Int) (Z : Below w0.heap.size w0 ws) (hF : Fr w0 ws P0 [] ws) (R0 : Stable ws P0 (fun w => Kd.C (Kd.int .i64) w A0 n0 l0)) (hc0 : n0 ≤ c0) (R1 : Stable ws P0 (fun w => Kd.C (Kd.int .i64) w A1 n1 l1)) (hc1 : n1 ≤ c1) (r_1 : Bool) (h : slices_Equal_int_int.f l0 l1 = some r_1) :
    Calls Try.prog 138 #[.slice A0 n0 c0, .slice A1 n1 c1] ws (Post1 w0 ws P0 (fun (_ : Unit) => .bool r_1) (fun (_ : Unit) => [])) := by
  unfold slices_Equal_int_int.f at h
  obtain rfl := (R0 ws (KeptB.refl _ _)).1
  obtain rfl := (R1 ws (KeptB.refl _ _)).1
  refine enter Try.func138 rfl Try.ntmps138 rfl hF ?_
  refine c_seq ?_
  refine za0 ?_
  refine o_q rfl rfl (q_asg rfl) ?_
  refine o_end ?_
  refine za1 ?_
  refine c_seq ?_
  refine c_seq ?_
  refine za0 ?_
  refine o_q rfl rfl (za3 rfl) ?_
  refine o_q rfl rfl (q_len Try.underlying25 rfl) ?_
  refine o_q rfl rfl (za3 rfl) ?_
  refine o_q rfl rfl (q_len Try.underlying25 rfl) ?_
  refine o_q rfl rfl (q_neq rfl rfl) ?_
  refine o_end ?_
  refine za1 ?_
  refine zav _ rfl (fun hb1 => ?_) (fun hb1 => ?_)
  · skip
    replace h := br_t hb1 h
    refine c_seq ?_
    refine za0 ?_
    refine o_q rfl rfl (q_asg rfl) ?_
    refine o_end ?_
    refine za1 ?_
    refine c_ret ?_
    refine zaa ?_
    have e0_ := Option.some.inj h; clear h
    subst e0_
    exact x_r1 () Try.results138 (zai rfl) rfl (fun w h => za6 [] (by decide) rfl w h)
  · skip
    replace h := br_f hb1 h
    refine zan ?_
    refine za1 ?_
    refine c_seq ?_
    refine c_seq ?_
    refine za0 ?_
    refine o_q rfl rfl (za3 rfl) ?_
    refine o_q rfl rfl (q_len Try.underlying25 rfl) ?_
    refine o_q rfl rfl (za3 rfl) ?_
    refine o_end ?_
    refine za1 ?_
    refine zaj ?_
    refine za7 h (fun o10 hl9 hR8 => ?_) rfl
    clear h
    refine c_fact (p := l0.length ≤ 9223372036854775807) (fun w h => (R0.now Z h).2.1) (fun hm7 => ?_)
    refine zax (σ := (List Int) × Int) (fun k5 ((ys4, i2) : (List Int) × Int) => Rg l0 i2 ys4 ∧ ys4.length = k5 ∧ slices_Equal_int_int.l0 l1 ys4 i2 = some o10) [4, 5, 13, 14, 15, 16, 17, 18, 19, 20, 21, 22, 23, 24, 25] (fun ((ys4, i2) : (List Int) × Int) => [(13, .int .i64 i2)]) (fun ((ys4, i2) : (List Int) × Int) => []) l0.length (l0, 0) ⟨Rg.start _, rfl, hl9⟩ ⟨rfl, trivial⟩ (fun w h => h) ?_
    refine fun k5 => cur2 (listC (fun i2 U11 hJ_ => ?_) (fun y3 ys4 i2 U11 hJ_ => ?_))
    · skip
      clear hl9
      have hr6 := hJ_.1; have hk12 := hJ_.2.1; have h := hJ_.2.2; clear hJ_
      replace h : slices_Equal_int_int.l0 l1 [] i2 = some o10 := h
      rw [slices_Equal_int_int.l0] at h
      refine c_seq ?_
      refine za0 ?_
      refine o_q rfl rfl (q_lss rfl rfl) ?_
      refine o_end ?_
      refine za1 ?_
      refine c_seq ?_
      refine zb2 (congrArg Value.bool hr6.ge) ?_
      refine zb4 ?_
      refine za5 ?_
      refine za5 ?_
      have e_ := Option.some.inj h; replace h := hR8; rw [← e_] at h; clear e_
      refine x_hit ?_
      refine za1 ?_
      refine c_seq ?_
      refine za0 ?_
      refine o_q rfl rfl (q_asg rfl) ?_
      refine o_end ?_
      refine za1 ?_
      refine c_ret ?_
      have e0_ := Option.some.inj h; clear h
      subst e0_
      exact x_r1 () Try.results138 (zai rfl) rfl (fun w h => za6 [] (by decide) rfl w h)
    · skip
      clear hl9
      have hr6 := hJ_.1; have hk12 := hJ_.2.1; have h := hJ_.2.2; clear hJ_
      replace h : slices_Equal_int_int.l0 l1 (y3 :: ys4) i2 = some o10 := h
      rw [slices_Equal_int_int.l0] at h
      refine c_seq ?_
      refine za0 ?_
      refine o_q rfl rfl (q_lss rfl rfl) ?_
      refine o_end ?_
      refine za1 ?_
      refine c_seq ?_
      refine zb1 (congrArg Value.bool hr6.lt) ?_
      refine zan ?_
      refine za1 ?_
      refine c_seq ?_
      refine zaj ?_
      refine c_seq ?_
      refine za0 ?_
      refine o_q rfl rfl (za3 rfl) ?_
      refine o_q rfl rfl (q_asg rfl) ?_
      refine o_end ?_
      refine za1 ?_
      refine c_seq ?_
      refine a_start (ds := []) MO rfl ?_
      refine za9 0 rfl rfl rfl (by kernel_rfl) (fun _ _ _ h => h) (za3 rfl) ?_
      refine za9 1 rfl rfl rfl (by kernel_rfl) (fun _ _ _ h => h) (za3 rfl) ?_
      refine a_fact (p := Sh A0 l0.length l0.length) (fun w h => f_sh (dk := (Kd.int .i64)) h (fun w h => R0.now Z h)) (fun hq13 => ?_)
      refine za9 2 rfl rfl rfl (by kernel_rfl) (fun _ _ _ h => h) (q_ix Try.underlying25 Z3 rfl rfl hq13 hr6.get) ?_
      refine zb0 3 rfl rfl rfl (by kernel_rfl) (fun _ _ _ h => h) (fun w h => h) (q_lde (off := 0) Y3 rfl rfl (fun w h => R0.now Z h) hr6.get (fun _ _ h => h) rfl) ?_
      refine za9 4 rfl rfl rfl (by kernel_rfl) (fun _ _ _ h => h) (za3 rfl) ?_
      refine za9 5 rfl rfl rfl (by kernel_rfl) (fun _ _ _ h => h) (za3 rfl) ?_
      refine a_fact (p := Sh A1 l1.length l1.length) (fun w h => f_sh (dk := (Kd.int .i64)) h (fun w h => R1.now Z h)) (fun hq14 => ?_)
      refine za7 h (fun y16 hg15 h => ?_) rfl
      refine za9 6 rfl rfl rfl (by kernel_rfl) (fun _ _ _ h => h) (q_ix Try.underlying25 Z3 rfl rfl hq14 hg15) ?_
      refine zb0 7 rfl rfl rfl (by kernel_rfl) (fun _ _ _ h => h) (fun w h => h) (q_lde (off := 0) Y3 rfl rfl (fun w h => R1.now Z h) hg15 (fun _ _ h => h) rfl) ?_
      refine za9 8 rfl rfl rfl (by kernel_rfl) (fun _ _ _ h => h) (q_neq rfl rfl) ?_
      refine zay (by kernel_rfl) ?_
      refine za1 ?_
      refine zav _ rfl (fun hb17 => ?_) (fun hb17 => ?_)
      · skip
        replace h := br_t hb17 h
        refine c_seq ?_
        refine za0 ?_
        refine o_q rfl rfl (q_asg rfl) ?_
        refine o_end ?_
        refine za1 ?_
        refine c_ret ?_
        refine zao ?_
        refine zaa ?_
        refine zaa ?_
        have e_ := Option.some.inj h; replace h := hR8; rw [← e_] at h; clear e_
        refine zao ?_
        refine zaa ?_
        have e0_ := Option.some.inj h; clear h
        subst e0_
        exact x_r1 () Try.results138 (zai rfl) rfl (fun w h => za6 [] (by decide) rfl w h)
      · skip
        replace h := br_f hb17 h
        refine zan ?_
        refine zam ?_
        refine za1 ?_
        refine za0 ?_
        refine o_q rfl rfl (q_up rfl rfl (hr6.up hm7)) ?_
        refine o_q rfl rfl (za3 rfl) ?_
        refine o_end ?_
        refine zak ys4.length (ys4, i2 + 1) (by rw [← hk12]; exact Nat.lt_succ_self _) ⟨hr6.step, rfl, h⟩ ⟨rfl, trivial⟩ (fun w h => za6 [] (by decide) rfl w h) ?_
        repeat (first | exact zab _ _ | refine zaf rfl ?_ | refine zac rfl ?_ | refine zah rfl ?_)

/-! ### slices.EqualFunc[[][]int,[][]int,[]int,[]int]: function 144 -/
def slices_EqualFunc_int_int_int_int.l0 (l1 : List (List Int)) : (List (List Int)) → Int → Option ((Bool) ⊕ (Unit))
  | [], i2 => some (.inr ())
  | y3 :: ys4, i2 => (gt l1 i2).bind fun y17 => (slices_Equal_int_int.f y3 y17).bind fun b20 => if b20 = true then (slices_EqualFunc_int_int_int_int.l0 l1 ys4 (i2 + 1)) else (some (.inl false))
def slices_EqualFunc_int_int_int_int.f (l0 : List (List Int)) (l1 : List (List Int)) : Option Bool := if (l0.length : Int) ≠ (l1.length : Int) then (some false) else ((slices_EqualFunc_int_int_int_int.l0 l1 l0 0).bind fun o_ => match o_ with | .inl r_ => some r_ | .inr _ => some true)
set_option maxHeartbeats 600000 in
set_option maxRecDepth 100000 in
theorem slices_EqualFunc_int_int_int_int.calls {w0 ws : World} {P0 : Nat → Prop} (A0 : Option Addr) (c0 : Nat) (n0 : Nat) (H0 : Hd) (l0 : List (List Int)) (A1 : Option Addr) (c1 : Nat) (n1 : Nat) (H1 : Hd) (l1 : List (List Int)) (Z : Below w0.heap.size w0 ws) (hF : Fr w0 ws P0 [] ws) (R0 : Stable ws P0 (fun w => Kd.C (gk 3 (Kd.int .i64)) w A0 n0 (zp H0 l0))) (hc0 : n0 ≤ c0) (R1 : Stable ws P0 (fun w => Kd.C (gk 3 (Kd.int .i64)) w A1 n1 (zp H1 l1))) (hc1 : n1 ≤ c1) (r_1 : Bool) (h : slices_EqualFunc_int_int_int_int.f l0 l1 = some r_1) :
    Calls Try.prog 144 #[.slice A0 n0 c0, .slice A1 n1 c1, .func (.func 138) #[] #[]] ws (Post1 w0 ws P0 (fun (_ : Unit) => .bool r_1) (fun (_ : Unit) => [])) := by
  unfold slices_EqualFunc_int_int_int_int.f at h
  obtain rfl := (zp_len _ _).symm.trans (R0 ws (KeptB.refl _ _)).1
  obtain rfl := (zp_len _ _).symm.trans (R1 ws (KeptB.refl _ _)).1
  refine enter Try.func144 rfl Try.ntmps144 rfl hF ?_
  refine c_seq ?_
  refine za0 ?_
  refine o_q rfl rfl (q_asg rfl) ?_
  refine o_end ?_
  refine za1 ?_
  refine c_seq ?_
  refine c_seq ?_
  refine za0 ?_
  refine o_q rfl rfl (za3 rfl) ?_
  refine o_q rfl rfl (q_len Try.underlying73 rfl) ?_
  refine o_q rfl rfl (za3 rfl) ?_
  refine o_q rfl rfl (q_len Try.underlying73 rfl) ?_
  refine o_q rfl rfl (q_neq rfl rfl) ?_
  refine o_end ?_
  refine za1 ?_
  refine zav _ rfl (fun hb1 => ?_) (fun hb1 => ?_)
  · skip
    replace h := br_t hb1 h
    refine c_seq ?_
    refine za0 ?_
    refine o_q rfl rfl (q_asg rfl) ?_
    refine o_end ?_
    refine za1 ?_
    refine c_ret ?_
    refine zaa ?_
    have e0_ := Option.some.inj h; clear h
    subst e0_
    exact x_r1 () Try.results144 (zai rfl) rfl (fun w h => za6 [] (by decide) rfl w h)
  · skip
    replace h := br_f hb1 h
    refine zan ?_
    refine za1 ?_
    refine c_seq ?_
    refine c_seq ?_
    refine za0 ?_
    refine o_q rfl rfl (za3 rfl) ?_
    refine o_q rfl rfl (q_len Try.underlying73 rfl) ?_
    refine o_q rfl rfl (za3 rfl) ?_
    refine o_end ?_
    refine za1 ?_
    refine zaj ?_
    refine za7 h (fun o10 hl9 hR8 => ?_) rfl
    clear h
    refine c_fact (p := l0.length ≤ 9223372036854775807) (fun w h => (R0.now Z h).2.1) (fun hm7 => ?_)
    refine zax (σ := (List (List Int)) × Int) (fun k5 ((ys4, i2) : (List (List Int)) × Int) => Rg l0 i2 ys4 ∧ ys4.length = k5 ∧ slices_EqualFunc_int_int_int_int.l0 l1 ys4 i2 = some o10) [6, 7, 8, 9, 17, 18, 19, 20, 21, 22, 23, 24, 25, 26, 27, 28, 29, 30, 31] (fun ((ys4, i2) : (List (List Int)) × Int) => [(17, .int .i64 i2)]) (fun ((ys4, i2) : (List (List Int)) × Int) => []) l0.length (l0, 0) ⟨Rg.start _, rfl, hl9⟩ ⟨rfl, trivial⟩ (fun w h => h) ?_
    refine fun k5 => cur2 (listC (fun i2 U11 hJ_ => ?_) (fun y3 ys4 i2 U11 hJ_ => ?_))
    · skip
      clear hl9
      have hr6 := hJ_.1; have hk12 := hJ_.2.1; have h := hJ_.2.2; clear hJ_
      replace h : slices_EqualFunc_int_int_int_int.l0 l1 [] i2 = some o10 := h
      rw [slices_EqualFunc_int_int_int_int.l0] at h
      refine c_seq ?_
      refine za0 ?_
      refine o_q rfl rfl (q_lss rfl rfl) ?_
      refine o_end ?_
      refine za1 ?_
      refine c_seq ?_
      refine zb2 (congrArg Value.bool hr6.ge) ?_
      refine zb4 ?_
      refine za5 ?_
      refine za5 ?_
      have e_ := Option.some.inj h; replace h := hR8; rw [← e_] at h; clear e_
      refine x_hit ?_
      refine za1 ?_
      refine c_seq ?_
      refine za0 ?_
      refine o_q rfl rfl (q_asg rfl) ?_
      refine o_end ?_
      refine za1 ?_
      refine c_ret ?_
      have e0_ := Option.some.inj h; clear h
      subst e0_
      exact x_r1 () Try.results144 (zai rfl) rfl (fun w h => za6 [] (by decide) rfl w h)
    · skip
      clear hl9
      have hr6 := hJ_.1; have hk12 := hJ_.2.1; have h := hJ_.2.2; clear hJ_
      replace h : slices_EqualFunc_int_int_int_int.l0 l1 (y3 :: ys4) i2 = some o10 := h
      rw [slices_EqualFunc_int_int_int_int.l0] at h
      refine c_seq ?_
      refine za0 ?_
      refine o_q rfl rfl (q_lss rfl rfl) ?_
      refine o_end ?_
      refine za1 ?_
      refine c_seq ?_
      refine zb1 (congrArg Value.bool hr6.lt) ?_
      refine zan ?_
      refine za1 ?_
      refine c_seq ?_
      refine zaj ?_
      refine c_seq ?_
      refine za0 ?_
      refine o_q rfl rfl (za3 rfl) ?_
      refine zaz (p := Sh A0 l0.length (zp H0 l0).length) (fun w h => f_sh (dk := (gk 3 (Kd.int .i64))) h (fun w h => R0.now Z h)) (fun hq13 => ?_)
      refine o_q rfl rfl (q_ix Try.underlying73 Z25 rfl rfl hq13 (gt_zp hr6.get)) ?_
      refine zaz (p := y3.length ≤ hC H0 i2) (fun w h => (K_in (R0.now Z h) hr6.get).1) (fun hc14 => ?_)
      refine o_q rfl rfl (q_lde (off := 0) Y25 rfl rfl (fun w h => R0.now Z h) (gt_zp hr6.get) (fun _ _ h => h.1) rfl) ?_
      refine o_q rfl rfl (q_asg rfl) ?_
      refine o_q rfl rfl (q_asg rfl) ?_
      refine o_end ?_
      refine za1 ?_
      refine c_seq ?_
      refine za0 ?_
      refine o_q rfl rfl (za3 rfl) ?_
      refine o_q rfl rfl (za3 rfl) ?_
      refine zaz (p := Sh A1 l1.length (zp H1 l1).length) (fun w h => f_sh (dk := (gk 3 (Kd.int .i64))) h (fun w h => R1.now Z h)) (fun hq15 => ?_)
      refine za7 h (fun y17 hg16 h => ?_) rfl
      refine o_q rfl rfl (q_ix Try.underlying73 Z25 rfl rfl hq15 (gt_zp hg16)) ?_
      refine zaz (p := y17.length ≤ hC H1 i2) (fun w h => (K_in (R1.now Z h) hg16).1) (fun hc18 => ?_)
      refine o_q rfl rfl (q_lde (off := 0) Y25 rfl rfl (fun w h => R1.now Z h) (gt_zp hg16) (fun _ _ h => h.1) rfl) ?_
      refine o_q rfl rfl (q_asg rfl) ?_
      refine o_end ?_
      refine za1 ?_
      refine c_seq ?_
      refine za0 ?_
      refine o_q rfl rfl (za3 rfl) ?_
      refine o_q rfl rfl (za3 rfl) ?_
      refine o_q rfl rfl (za3 rfl) ?_
      refine za7 h (fun b20 hx19 h => ?_) rfl
      refine o_e rfl (zad 0 Z Try.func138 N138 rfl rfl rfl (fun w P1 hF hB hS hT => slices_Equal_int_int.calls (hA H0 i2) (hC H0 i2) y3.length y3 (hA H1 i2) (hC H1 i2) y17.length y17 hB hF (stab_in (hS _ R0) hr6.get) hc14 (stab_in (hS _ R1) hg16) hc18 _ hx19)) (fun _ => ?_)
      refine o_q rfl rfl (q_not rfl) ?_
      refine o_end ?_
      refine za1 ?_
      refine zav _ rfl (fun hb21 => ?_) (fun hb21 => ?_)
      · replace hb21 := nt_t hb21
        replace h := bb_f hb21 h
        refine c_seq ?_
        refine za0 ?_
        refine o_q rfl rfl (q_asg rfl) ?_
        refine o_end ?_
        refine za1 ?_
        refine c_ret ?_
        refine zao ?_
        refine zaa ?_
        refine zaa ?_
        have e_ := Option.some.inj h; replace h := hR8; rw [← e_] at h; clear e_
        refine zao ?_
        refine zaa ?_
        have e0_ := Option.some.inj h; clear h
        subst e0_
        exact x_r1 () Try.results144 (zai rfl) rfl (fun w h => za6 [] (by decide) rfl w h)
      · replace hb21 := nt_f hb21
        replace h := bb_t hb21 h
        refine zan ?_
        refine zam ?_
        refine za1 ?_
        refine za0 ?_
        refine o_q rfl rfl (q_up rfl rfl (hr6.up hm7)) ?_
        refine o_q rfl rfl (za3 rfl) ?_
        refine o_end ?_
        refine zak ys4.length (ys4, i2 + 1) (by rw [← hk12]; exact Nat.lt_succ_self _) ⟨hr6.step, rfl, h⟩ ⟨rfl, trivial⟩ (fun w h => za6 [] (by decide) rfl w h) ?_
        repeat (first | exact zab _ _ | refine zaf rfl ?_ | refine zac rfl ?_ | refine zah rfl ?_)

/-! ### loop.example/g01098/impl.samePowers: function 89 -/
def impl_samePowers.f (a0_0 : Int) (l0_1 : List SStep) (l0_2 : List Int) (a1_0 : Int) (l1_1 : List SStep) (l1_2 : List Int) : Option Bool := if a0_0 = a1_0 then ((impl_Plan_outputExponents.f a0_0 l0_1 l0_2).bind fun l3 => (impl_Plan_outputExponents.f a1_0 l1_1 l1_2).bind fun l8 => (slices_EqualFunc_int_int_int_int.f l3 l8).bind fun b13 => some b13) else (some false)
set_option maxHeartbeats 600000 in
set_option maxRecDepth 100000 in
theorem impl_samePowers.calls {w0 ws : World} {P0 : Nat → Prop} (g0 : Nat) (a0_0 : Int) (A0_1 : Option Addr) (c0_1 : Nat) (n0_1 : Nat) (l0_1 : List SStep) (A0_2 : Option Addr) (c0_2 : Nat) (n0_2 : Nat) (l0_2 : List Int) (g1 : Nat) (a1_0 : Int) (A1_1 : Option Addr) (c1_1 : Nat) (n1_1 : Nat) (l1_1 : List SStep) (A1_2 : Option Addr) (c1_2 : Nat) (n1_2 : Nat) (l1_2 : List Int) (Z : Below w0.heap.size w0 ws) (hF : Fr w0 ws P0 [] ws) (R0_1 : Stable ws P0 (fun w => Kd.C kStep w A0_1 n0_1 l0_1)) (hc0_1 : n0_1 ≤ c0_1) (R0_2 : Stable ws P0 (fun w => Kd.C (Kd.int .i64) w A0_2 n0_2 l0_2)) (hc0_2 : n0_2 ≤ c0_2) (B0 : Stable ws P0 (fun w => w.heap[g0]? = some (.cells #[.int .i64 a0_0, .slice A0_1 n0_1 c0_1, .slice A0_2 n0_2 c0_2] 27 (0, 0)))) (R1_1 : Stable ws P0 (fun w => Kd.C kStep w A1_1 n1_1 l1_1)) (hc1_1 : n1_1 ≤ c1_1) (R1_2 : Stable ws P0 (fun w => Kd.C (Kd.int .i64) w A1_2 n1_2 l1_2)) (hc1_2 : n1_2 ≤ c1_2) (B1 : Stable ws P0 (fun w => w.heap[g1]? = some (.cells #[.int .i64 a1_0, .slice A1_1 n1_1 c1_1, .slice A1_2 n1_2 c1_2] 27 (0, 0)))) (r_1 : Bool) (h : impl_samePowers.f a0_0 l0_1 l0_2 a1_0 l1_1 l1_2 = some r_1) :
    Calls Try.prog 89 #[.pointer (some ⟨g0, 0, none⟩), .pointer (some ⟨g1, 0, none⟩)] ws (Post1 w0 ws P0 (fun (_ : Unit) => .bool r_1) (fun (_ : Unit) => [])) := by
  unfold impl_samePowers.f at h
  obtain rfl := (R0_1 ws (KeptB.refl _ _)).1
  obtain rfl := (R0_2 ws (KeptB.refl _ _)).1
  obtain rfl := (R1_1 ws (KeptB.refl _ _)).1
  obtain rfl := (R1_2 ws (KeptB.refl _ _)).1
  refine enter Try.func89 rfl Try.ntmps89 rfl hF ?_
  refine c_seq ?_
  refine za0 ?_
  refine o_q rfl rfl (q_asg rfl) ?_
  refine o_end ?_
  refine za1 ?_
  refine c_seq ?_
  refine a_start (ds := []) MO rfl ?_
  refine za9 0 rfl rfl rfl (by kernel_rfl) (fun _ _ _ h => h) (za3 rfl) ?_
  refine za9 1 rfl rfl rfl (by kernel_rfl) (fun _ _ _ h => h) (q_nil rfl) ?_
  refine za9 2 rfl rfl rfl (by kernel_rfl) (fun _ _ _ h => h) (q_f F27_0 rfl) ?_
  refine zb0 3 rfl rfl rfl (by kernel_rfl) (fun _ _ _ h => h) (fun w h => h) (q_ldb Y3 rfl (fun w h => B0.now Z h) rfl) ?_
  refine za9 4 rfl rfl rfl (by kernel_rfl) (fun _ _ _ h => h) (za3 rfl) ?_
  refine za9 5 rfl rfl rfl (by kernel_rfl) (fun _ _ _ h => h) (q_nil rfl) ?_
  refine za9 6 rfl rfl rfl (by kernel_rfl) (fun _ _ _ h => h) (q_f F27_0 rfl) ?_
  refine zb0 7 rfl rfl rfl (by kernel_rfl) (fun _ _ _ h => h) (fun w h => h) (q_ldb Y3 rfl (fun w h => B1.now Z h) rfl) ?_
  refine za9 8 rfl rfl rfl (by kernel_rfl) (fun _ _ _ h => h) (q_eql rfl rfl) ?_
  refine za9 9 rfl rfl rfl (by kernel_rfl) (fun _ _ _ h => h) (za3 rfl) ?_
  refine byB (decide (a0_0 = a1_0)) (fun hb1 => ?_) (fun hb1 => ?_)
  · replace h := br_t hb1 h
    refine a_purew 10 rfl rfl (za4 rfl rfl rfl (congrArg Value.bool hb1)) (by kernel_rfl) (fun _ _ _ h => h) (za3 rfl) ?_
    refine a_purew 12 rfl rfl (za4 rfl rfl rfl (congrArg Value.bool hb1)) (by kernel_rfl) (fun _ _ _ h => h) (za3 rfl) ?_
    refine za7 h (fun l3 hx2 h => ?_) rfl
    refine a_onew 11 rfl (za4 rfl rfl rfl (congrArg Value.bool hb1)) (by kernel_rfl) rfl (zad 0 Z Try.func145 N145 rfl rfl rfl (fun w P1 hF hB hS hT => impl_Plan_outputExponents.calls g0 a0_0 A0_1 c0_1 l0_1.length l0_1 A0_2 c0_2 l0_2.length l0_2 hB hF (hS _ R0_1) hc0_1 (hS _ R0_2) hc0_2 (hS _ B0) _ hx2)) (fun s w h => za8 [] (by decide) w h rfl) (cur3 (fun A4 c5 H6 => ?_))
    refine za7 h (fun l8 hx7 h => ?_) rfl
    refine a_onew 13 rfl (za4 rfl rfl rfl (congrArg Value.bool hb1)) (by kernel_rfl) rfl (zad 0 Z Try.func145 N145 rfl rfl rfl (fun w P1 hF hB hS hT => impl_Plan_outputExponents.calls g1 a1_0 A1_1 c1_1 l1_1.length l1_1 A1_2 c1_2 l1_2.length l1_2 hB hF (hS _ R1_1) hc1_1 (hS _ R1_2) hc1_2 (hS _ B1) _ hx7)) (fun s w h => za8 [] (by decide) w h rfl) (cur3 (fun A9 c10 H11 => ?_))
    refine za7 h (fun b13 hx12 h => ?_) rfl
    refine a_onew 14 rfl (za4 rfl rfl rfl (congrArg Value.bool hb1)) (by kernel_rfl) rfl (zad 0 Z Try.func144 N144 rfl rfl rfl (fun w P1 hF hB hS hT => slices_EqualFunc_int_int_int_int.calls A4 c5 l3.length H6 l3 A9 c10 l8.length H11 l8 hB hF (hT 1 _ rfl).row (hT 1 _ rfl).cap (hT 0 _ rfl).row (hT 0 _ rfl).cap _ hx12)) (fun s w h => za8 [] (by decide) w h rfl) (fun _ => ?_)
    refine za9 15 rfl rfl rfl (by kernel_rfl) (fun _ _ _ h => h) (zal true (congrArg Value.bool hb1) rfl) ?_
    refine za9 16 rfl rfl rfl (by kernel_rfl) (fun _ _ _ h => h) (q_asg rfl) ?_
    refine zay (by kernel_rfl) ?_
    refine za1 ?_
    refine c_ret ?_
    have e0_ := Option.some.inj h; clear h
    subst e0_
    exact x_r1 () Try.results89 (zai rfl) rfl (fun w h => za6 [] (by decide) rfl w h)
  · replace h := br_f hb1 h
    refine a_no 10 rfl rfl (za2 rfl rfl rfl (congrArg Value.bool hb1) rfl) (by kernel_rfl) (fun _ _ _ h => h) ?_
    refine a_no 11 rfl rfl (za2 rfl rfl rfl (congrArg Value.bool hb1) rfl) (by kernel_rfl) (fun _ _ _ h => h) ?_
    refine a_no 12 rfl rfl (za2 rfl rfl rfl (congrArg Value.bool hb1) rfl) (by kernel_rfl) (fun _ _ _ h => h) ?_
    refine a_no 13 rfl rfl (za2 rfl rfl rfl (congrArg Value.bool hb1) rfl) (by kernel_rfl) (fun _ _ _ h => h) ?_
    refine a_no 14 rfl rfl (za2 rfl rfl rfl (congrArg Value.bool hb1) rfl) (by kernel_rfl) (fun _ _ _ h => h) ?_
    refine za9 15 rfl rfl rfl (by kernel_rfl) (fun _ _ _ h => h) (zal false (congrArg Value.bool hb1) rfl) ?_
    refine za9 16 rfl rfl rfl (by kernel_rfl) (fun _ _ _ h => h) (q_asg rfl) ?_
    refine zay (by kernel_rfl) ?_
    refine za1 ?_
    refine c_ret ?_
    have e0_ := Option.some.inj h; clear h
    subst e0_
    exact x_r1 () Try.results89 (zai rfl) rfl (fun w h => za6 [] (by decide) rfl w h)

/-! ### loop.example/g01098/impl.CheckRegCode: function 30 -/
def impl_CheckRegCode.f (k : Nat) (a0_0 : Int) (l0_1 : List Int) (l0_2 : List SRegOp) (l0_3 : List Int) (a1_0 : Int) (l1_1 : List SStep) (l1_2 : List Int) : Option (Bool × Bool) := (impl_RegCode_plan.f k a0_0 l0_1 l0_2 l0_3).bind fun (i6, l7, l8, b9) => if b9 = true then ((impl_IsPlan.f k a1_0 l1_1 l1_2).bind fun b18 => if b18 = true then ((impl_samePowers.f i6 l7 l8 a1_0 l1_1 l1_2).bind fun b21 => some (b21, true)) else (some (false, false))) else (some (false, false))
set_option maxHeartbeats 600000 in
set_option maxRecDepth 100000 in
theorem impl_CheckRegCode.calls (k : Nat) {w0 ws : World} {P0 : Nat → Prop} (a0_0 : Int) (A0_1 : Option Addr) (c0_1 : Nat) (n0_1 : Nat) (l0_1 : List Int) (A0_2 : Option Addr) (c0_2 : Nat) (n0_2 : Nat) (l0_2 : List SRegOp) (A0_3 : Option Addr) (c0_3 : Nat) (n0_3 : Nat) (l0_3 : List Int) (a1_0 : Int) (A1_1 : Option Addr) (c1_1 : Nat) (n1_1 : Nat) (l1_1 : List SStep) (A1_2 : Option Addr) (c1_2 : Nat) (n1_2 : Nat) (l1_2 : List Int) (Z : Below w0.heap.size w0 ws) (hF : Fr w0 ws P0 [] ws) (R0_1 : Stable ws P0 (fun w => Kd.C (Kd.int .i64) w A0_1 n0_1 l0_1)) (hc0_1 : n0_1 ≤ c0_1) (R0_2 : Stable ws P0 (fun w => Kd.C kRegOp w A0_2 n0_2 l0_2)) (hc0_2 : n0_2 ≤ c0_2) (R0_3 : Stable ws P0 (fun w => Kd.C (Kd.int .i64) w A0_3 n0_3 l0_3)) (hc0_3 : n0_3 ≤ c0_3) (R1_1 : Stable ws P0 (fun w => Kd.C kStep w A1_1 n1_1 l1_1)) (hc1_1 : n1_1 ≤ c1_1) (R1_2 : Stable ws P0 (fun w => Kd.C (Kd.int .i64) w A1_2 n1_2 l1_2)) (hc1_2 : n1_2 ≤ c1_2) (r_1 : Bool) (r_2 : Bool) (h : impl_CheckRegCode.f k a0_0 l0_1 l0_2 l0_3 a1_0 l1_1 l1_2 = some (r_1, r_2)) :
    Calls Try.prog 30 #[.agg #[.int .i64 a0_0, .slice A0_1 n0_1 c0_1, .slice A0_2 n0_2 c0_2, .slice A0_3 n0_3 c0_3], .agg #[.int .i64 a1_0, .slice A1_1 n1_1 c1_1, .slice A1_2 n1_2 c1_2]] ws (Post1 w0 ws P0 (fun (_ : Unit) => .tuple #[.bool r_1, .bool r_2]) (fun (_ : Unit) => [])) := by
  unfold impl_CheckRegCode.f at h
  obtain rfl := (R0_1 ws (KeptB.refl _ _)).1
  obtain rfl := (R0_2 ws (KeptB.refl _ _)).1
  obtain rfl := (R0_3 ws (KeptB.refl _ _)).1
  obtain rfl := (R1_1 ws (KeptB.refl _ _)).1
  obtain rfl := (R1_2 ws (KeptB.refl _ _)).1
  refine enter Try.func30 rfl Try.ntmps30 rfl hF ?_
  refine c_seq ?_
  refine za0 ?_
  refine o_e rfl (e_box rfl) (fun g1 => ?_)
  refine o_e rfl (e_box rfl) (fun g3 => ?_)
  refine o_q rfl rfl (q_asg rfl) ?_
  refine o_q rfl rfl (q_asg rfl) ?_
  refine o_end ?_
  refine za1 ?_
  refine c_seq ?_
  refine za0 ?_
  refine bindE4 h (fun i6 l7 l8 b9 hx5 h => ?_) rfl
  refine o_e rfl (zad 0 Z Try.func88 N88 rfl rfl rfl (fun w P1 hF hB hS hT => impl_RegCode_plan.calls k g1 a0_0 A0_1 c0_1 l0_1.length l0_1 A0_2 c0_2 l0_2.length l0_2 A0_3 c0_3 l0_3.length l0_3 hB hF (hS _ R0_1) hc0_1 (hS _ R0_2) hc0_2 (hS _ R0_3) hc0_3 (hT 1 _ rfl).box _ _ _ _ hx5)) (cur4 (fun A10 c11 A12 c13 => ?_))
  refine o_q rfl rfl (za3 rfl) ?_
  refine o_q rfl rfl (q_ext rfl rfl) ?_
  refine o_q rfl rfl (q_ext rfl rfl) ?_
  refine o_e rfl (zas V27 rfl) (fun g14 => ?_)
  refine o_e rfl (zaq (i := 0) rfl rfl rfl Z27 rfl rfl) (fun _ => ?_)
  refine o_q rfl rfl (q_asg rfl) ?_
  refine o_end ?_
  refine za1 ?_
  refine c_seq ?_
  refine c_seq ?_
  refine za0 ?_
  refine o_q rfl rfl (za3 rfl) ?_
  refine o_q rfl rfl (q_not rfl) ?_
  refine o_q rfl rfl (za3 rfl) ?_
  refine byB b9 (fun hb16 => ?_) (fun hb16 => ?_)
  · replace h := bb_t hb16 h
    refine o_w (za4 rfl rfl rfl (congrArg (fun b => Value.bool (!(b))) hb16)) rfl (q_ldB G27 Z27 rfl (fun w h => h.zae (i := 3) rfl) rfl) ?_
    refine za7 h (fun b18 hx17 h => ?_) rfl
    refine o_ew (za4 rfl rfl rfl (congrArg (fun b => Value.bool (!(b))) hb16)) (zad 0 Z Try.func67 N67 rfl rfl rfl (fun w P1 hF hB hS hT => impl_IsPlan.calls k a1_0 A1_1 c1_1 l1_1.length l1_1 A1_2 c1_2 l1_2.length l1_2 hB hF (hS _ R1_1) hc1_1 (hS _ R1_2) hc1_2 _ hx17)) (fun _ => ?_)
    refine o_w (za4 rfl rfl rfl (congrArg (fun b => Value.bool (!(b))) hb16)) rfl (q_not rfl) ?_
    refine o_q rfl rfl (zal false (congrArg (fun b => Value.bool (!(b))) hb16) rfl) ?_
    refine o_end ?_
    refine za1 ?_
    refine zav _ rfl (fun hb19 => ?_) (fun hb19 => ?_)
    · replace hb19 := nt_t hb19
      replace h := bb_f hb19 h
      refine c_seq ?_
      refine za0 ?_
      refine o_q rfl rfl (q_asg rfl) ?_
      refine o_q rfl rfl (q_asg rfl) ?_
      refine o_end ?_
      refine za1 ?_
      refine c_ret ?_
      refine zaa ?_
      have e0_ := Option.some.inj h; clear h
      have d0_ := (Prod.mk.inj e0_).1; have e1_ := (Prod.mk.inj e0_).2; clear e0_; subst d0_
      subst e1_
      exact x_r2 () Try.results30 (zai rfl) (zai rfl) rfl (fun w h => za6 [] (by decide) rfl w h)
    · replace hb19 := nt_f hb19
      replace h := bb_t hb19 h
      refine zan ?_
      refine za1 ?_
      refine c_seq ?_
      refine za0 ?_
      refine za7 h (fun b21 hx20 h => ?_) rfl
      refine o_e rfl (zad 0 Z Try.func89 N89 rfl rfl rfl (fun w P1 hF hB hS hT => impl_samePowers.calls g14 i6 A10 c11 l7.length l7 A12 c13 l8.length l8 g3 a1_0 A1_1 c1_1 l1_1.length l1_1 A1_2 c1_2 l1_2.length l1_2 hB hF (hT 1 _ rfl).row (hT 1 _ rfl).cap (hT 2 _ rfl).row (hT 2 _ rfl).cap (hT 0 _ rfl).box (hS _ R1_1) hc1_1 (hS _ R1_2) hc1_2 (hT 3 _ rfl).box _ hx20)) (fun _ => ?_)
      refine o_q rfl rfl (q_asg rfl) ?_
      refine o_q rfl rfl (q_asg rfl) ?_
      refine o_end ?_
      refine za1 ?_
      refine c_ret ?_
      have e0_ := Option.some.inj h; clear h
      have d0_ := (Prod.mk.inj e0_).1; have e1_ := (Prod.mk.inj e0_).2; clear e0_; subst d0_
      subst e1_
      exact x_r2 () Try.results30 (zai rfl) (zai rfl) rfl (fun w h => za6 [] (by decide) rfl w h)
  · replace h := bb_f hb16 h
    refine @o_n _ _ _ _ _ _ _ _ _ _ _ 15 (za2 rfl rfl rfl (congrArg (fun b => Value.bool (!(b))) hb16) rfl) (Eq.refl (some 15)) ?_
    refine @o_n _ _ _ _ _ _ _ _ _ _ _ 16 (za2 rfl rfl rfl (congrArg (fun b => Value.bool (!(b))) hb16) rfl) (Eq.refl (some 16)) ?_
    refine @o_n _ _ _ _ _ _ _ _ _ _ _ 17 (za2 rfl rfl rfl (congrArg (fun b => Value.bool (!(b))) hb16) rfl) (Eq.refl (some 17)) ?_
    refine o_q rfl rfl (zal true (congrArg (fun b => Value.bool (!(b))) hb16) rfl) ?_
    refine o_end ?_
    refine za1 ?_
    refine zb1 rfl ?_
    refine c_seq ?_
    refine za0 ?_
    refine o_q rfl rfl (q_asg rfl) ?_
    refine o_q rfl rfl (q_asg rfl) ?_
    refine o_end ?_
    refine za1 ?_
    refine c_ret ?_
    refine zaa ?_
    have e0_ := Option.some.inj h; clear h
    have d0_ := (Prod.mk.inj e0_).1; have e1_ := (Prod.mk.inj e0_).2; clear e0_; subst d0_
    subst e1_
    exact x_r2 () Try.results30 (zai rfl) (zai rfl) rfl (fun w h => za6 [] (by decide) rfl w h)

/-! ### loop.example/g01098/laws.rSamePlan: function 31 -/
def laws_rSamePlan.l0 (l1_1 : List SStep) : (List SStep) → Int → Option ((Bool) ⊕ (Unit))
  | [], i10 => some (.inr ())
  | y11 :: ys12, i10 => (gt l1_1 i10).bind fun y24 => if (y11.f0 == y24.f0 && (y11.f1 == y24.f1 && true)) = true then (laws_rSamePlan.l0 l1_1 ys12 (i10 + 1)) else (some (.inl false))
def laws_rSamePlan.f (a0_0 : Int) (l0_1 : List SStep) (l0_2 : List Int) (a1_0 : Int) (l1_1 : List SStep) (l1_2 : List Int) : Option Bool := if a0_0 ≠ a1_0 then (some false) else (if (l0_1.length : Int) ≠ (l1_1.length : Int) then (some false) else ((laws_rSame.f l0_2 l1_2).bind fun b8 => if b8 = true then ((laws_rSamePlan.l0 l1_1 l0_1 0).bind fun o_ => match o_ with | .inl r_ => some r_ | .inr _ => some true) else (some false)))
set_option maxHeartbeats 600000 in
set_option maxRecDepth 100000 in
theorem laws_rSamePlan.calls {w0 ws : World} {P0 : Nat → Prop} (a0_0 : Int) (A0_1 : Option Addr) (c0_1 : Nat) (n0_1 : Nat) (l0_1 : List SStep) (A0_2 : Option Addr) (c0_2 : Nat) (n0_2 : Nat) (l0_2 : List Int) (a1_0 : Int) (A1_1 : Option Addr) (c1_1 : Nat) (n1_1 : Nat) (l1_1 : List SStep) (A1_2 : Option Addr) (c1_2 : Nat) (n1_2 : Nat) (l1_2 : List Int) (Z : Below w0.heap.size w0 ws) (hF : Fr w0 ws P0 [] ws) (R0_1 : Stable ws P0 (fun w => Kd.C kStep w A0_1 n0_1 l0_1)) (hc0_1 : n0_1 ≤ c0_1) (R0_2 : Stable ws P0 (fun w => Kd.C (Kd.int .i64) w A0_2 n0_2 l0_2)) (hc0_2 : n0_2 ≤ c0_2) (R1_1 : Stable ws P0 (fun w => Kd.C kStep w A1_1 n1_1 l1_1)) (hc1_1 : n1_1 ≤ c1_1) (R1_2 : Stable ws P0 (fun w => Kd.C (Kd.int .i64) w A1_2 n1_2 l1_2)) (hc1_2 : n1_2 ≤ c1_2) (r_1 : Bool) (h : laws_rSamePlan.f a0_0 l0_1 l0_2 a1_0 l1_1 l1_2 = some r_1) :
    Calls Try.prog 31 #[.agg #[.int .i64 a0_0, .slice A0_1 n0_1 c0_1, .slice A0_2 n0_2 c0_2], .agg #[.int .i64 a1_0, .slice A1_1 n1_1 c1_1, .slice A1_2 n1_2 c1_2]] ws (Post1 w0 ws P0 (fun (_ : Unit) => .bool r_1) (fun (_ : Unit) => [])) := by
  unfold laws_rSamePlan.f at h
  obtain rfl := (R0_1 ws (KeptB.refl _ _)).1
  obtain rfl := (R0_2 ws (KeptB.refl _ _)).1
  obtain rfl := (R1_1 ws (KeptB.refl _ _)).1
  obtain rfl := (R1_2 ws (KeptB.refl _ _)).1
  refine enter Try.func31 rfl Try.ntmps31 rfl hF ?_
  refine c_seq ?_
  refine za0 ?_
  refine o_e rfl (e_box rfl) (fun g1 => ?_)
  refine o_e rfl (e_box rfl) (fun g3 => ?_)
  refine o_q rfl rfl (q_asg rfl) ?_
  refine o_end ?_
  refine za1 ?_
  refine c_seq ?_
  refine c_seq ?_
  refine za0 ?_
  refine o_q rfl rfl (q_f F27_0 rfl) ?_
  refine o_q rfl rfl (q_ldb Y3 rfl (fun w h => h.zae (i := 1) rfl) rfl) ?_
  refine o_q rfl rfl (q_f F27_0 rfl) ?_
  refine o_q rfl rfl (q_ldb Y3 rfl (fun w h => h.zae (i := 0) rfl) rfl) ?_
  refine o_q rfl rfl (q_neq rfl rfl) ?_
  refine o_q rfl rfl (za3 rfl) ?_
  refine byB (decide (a0_0 ≠ a1_0)) (fun hb5 => ?_) (fun hb5 => ?_)
  · replace h := br_t hb5 h
    refine @o_n _ _ _ _ _ _ _ _ _ _ _ 12 (za2 rfl rfl rfl (congrArg Value.bool hb5) rfl) (Eq.refl (some 12)) ?_
    refine @o_n _ _ _ _ _ _ _ _ _ _ _ 13 (za2 rfl rfl rfl (congrArg Value.bool hb5) rfl) (Eq.refl (some 13)) ?_
    refine @o_n _ _ _ _ _ _ _ _ _ _ _ 14 (za2 rfl rfl rfl (congrArg Value.bool hb5) rfl) (Eq.refl (some 14)) ?_
    refine @o_n _ _ _ _ _ _ _ _ _ _ _ 15 (za2 rfl rfl rfl (congrArg Value.bool hb5) rfl) (Eq.refl (some 15)) ?_
    refine @o_n _ _ _ _ _ _ _ _ _ _ _ 16 (za2 rfl rfl rfl (congrArg Value.bool hb5) rfl) (Eq.refl (some 16)) ?_
    refine @o_n _ _ _ _ _ _ _ _ _ _ _ 17 (za2 rfl rfl rfl (congrArg Value.bool hb5) rfl) (Eq.refl (some 17)) ?_
    refine @o_n _ _ _ _ _ _ _ _ _ _ _ 18 (za2 rfl rfl rfl (congrArg Value.bool hb5) rfl) (Eq.refl (some 18)) ?_
    refine o_q rfl rfl (zal true (congrArg Value.bool hb5) rfl) ?_
    refine o_q rfl rfl (za3 rfl) ?_
    refine @o_n _ _ _ _ _ _ _ _ _ _ _ 21 (za2 rfl rfl rfl rfl rfl) (Eq.refl (some 21)) ?_
    refine @o_n _ _ _ _ _ _ _ _ _ _ _ 22 (za2 rfl rfl rfl rfl rfl) (Eq.refl (some 22)) ?_
    refine @o_n _ _ _ _ _ _ _ _ _ _ _ 23 (za2 rfl rfl rfl rfl rfl) (Eq.refl (some 23)) ?_
    refine @o_n _ _ _ _ _ _ _ _ _ _ _ 24 (za2 rfl rfl rfl rfl rfl) (Eq.refl (some 24)) ?_
    refine @o_n _ _ _ _ _ _ _ _ _ _ _ 25 (za2 rfl rfl rfl rfl rfl) (Eq.refl (some 25)) ?_
    refine @o_n _ _ _ _ _ _ _ _ _ _ _ 26 (za2 rfl rfl rfl rfl rfl) (Eq.refl (some 26)) ?_
    refine o_q rfl rfl (zal true rfl rfl) ?_
    refine o_end ?_
    refine za1 ?_
    refine zb1 rfl ?_
    refine c_seq ?_
    refine za0 ?_
    refine o_q rfl rfl (q_asg rfl) ?_
    refine o_end ?_
    refine za1 ?_
    refine c_ret ?_
    refine zaa ?_
    have e0_ := Option.some.inj h; clear h
    subst e0_
    exact x_r1 () Try.results31 (zai rfl) rfl (fun w h => za6 [] (by decide) rfl w h)
  · replace h := br_f hb5 h
    refine o_w (za4 rfl rfl rfl (congrArg Value.bool hb5)) rfl (q_f F27_1 rfl) ?_
    refine o_w (za4 rfl rfl rfl (congrArg Value.bool hb5)) rfl (q_ldb Y24 rfl (fun w h => h.zae (i := 1) rfl) rfl) ?_
    refine o_w (za4 rfl rfl rfl (congrArg Value.bool hb5)) rfl (q_len Try.underlying24 rfl) ?_
    refine o_w (za4 rfl rfl rfl (congrArg Value.bool hb5)) rfl (q_f F27_1 rfl) ?_
    refine o_w (za4 rfl rfl rfl (congrArg Value.bool hb5)) rfl (q_ldb Y24 rfl (fun w h => h.zae (i := 0) rfl) rfl) ?_
    refine o_w (za4 rfl rfl rfl (congrArg Value.bool hb5)) rfl (q_len Try.underlying24 rfl) ?_
    refine o_w (za4 rfl rfl rfl (congrArg Value.bool hb5)) rfl (q_neq rfl rfl) ?_
    refine o_q rfl rfl (zal false (congrArg Value.bool hb5) rfl) ?_
    refine o_q rfl rfl (za3 rfl) ?_
    refine byB (decide ((l0_1.length : Int) ≠ (l1_1.length : Int))) (fun hb6 => ?_) (fun hb6 => ?_)
    · replace h := br_t hb6 h
      refine @o_n _ _ _ _ _ _ _ _ _ _ _ 21 (za2 rfl rfl rfl (congrArg Value.bool hb6) rfl) (Eq.refl (some 21)) ?_
      refine @o_n _ _ _ _ _ _ _ _ _ _ _ 22 (za2 rfl rfl rfl (congrArg Value.bool hb6) rfl) (Eq.refl (some 22)) ?_
      refine @o_n _ _ _ _ _ _ _ _ _ _ _ 23 (za2 rfl rfl rfl (congrArg Value.bool hb6) rfl) (Eq.refl (some 23)) ?_
      refine @o_n _ _ _ _ _ _ _ _ _ _ _ 24 (za2 rfl rfl rfl (congrArg Value.bool hb6) rfl) (Eq.refl (some 24)) ?_
      refine @o_n _ _ _ _ _ _ _ _ _ _ _ 25 (za2 rfl rfl rfl (congrArg Value.bool hb6) rfl) (Eq.refl (some 25)) ?_
      refine @o_n _ _ _ _ _ _ _ _ _ _ _ 26 (za2 rfl rfl rfl (congrArg Value.bool hb6) rfl) (Eq.refl (some 26)) ?_
      refine o_q rfl rfl (zal true (congrArg Value.bool hb6) rfl) ?_
      refine o_end ?_
      refine za1 ?_
      refine zb1 rfl ?_
      refine c_seq ?_
      refine za0 ?_
      refine o_q rfl rfl (q_asg rfl) ?_
      refine o_end ?_
      refine za1 ?_
      refine c_ret ?_
      refine zaa ?_
      have e0_ := Option.some.inj h; clear h
      subst e0_
      exact x_r1 () Try.results31 (zai rfl) rfl (fun w h => za6 [] (by decide) rfl w h)
    · replace h := br_f hb6 h
      refine o_w (za4 rfl rfl rfl (congrArg Value.bool hb6)) rfl (q_f F27_2 rfl) ?_
      refine o_w (za4 rfl rfl rfl (congrArg Value.bool hb6)) rfl (q_ldb Y25 rfl (fun w h => h.zae (i := 1) rfl) rfl) ?_
      refine o_w (za4 rfl rfl rfl (congrArg Value.bool hb6)) rfl (q_f F27_2 rfl) ?_
      refine o_w (za4 rfl rfl rfl (congrArg Value.bool hb6)) rfl (q_ldb Y25 rfl (fun w h => h.zae (i := 0) rfl) rfl) ?_
      refine za7 h (fun b8 hx7 h => ?_) rfl
      refine o_ew (za4 rfl rfl rfl (congrArg Value.bool hb6)) (zad 0 Z Try.func15 N15 rfl rfl rfl (fun w P1 hF hB hS hT => laws_rSame.calls A0_2 c0_2 l0_2.length l0_2 A1_2 c1_2 l1_2.length l1_2 hB hF (hS _ R0_2) hc0_2 (hS _ R1_2) hc1_2 _ hx7)) (fun _ => ?_)
      refine o_w (za4 rfl rfl rfl (congrArg Value.bool hb6)) rfl (q_not rfl) ?_
      refine o_q rfl rfl (zal false (congrArg Value.bool hb6) rfl) ?_
      refine o_end ?_
      refine za1 ?_
      refine zav _ rfl (fun hb9 => ?_) (fun hb9 => ?_)
      · replace hb9 := nt_t hb9
        replace h := bb_f hb9 h
        refine c_seq ?_
        refine za0 ?_
        refine o_q rfl rfl (q_asg rfl) ?_
        refine o_end ?_
        refine za1 ?_
        refine c_ret ?_
        refine zaa ?_
        have e0_ := Option.some.inj h; clear h
        subst e0_
        exact x_r1 () Try.results31 (zai rfl) rfl (fun w h => za6 [] (by decide) rfl w h)
      · replace hb9 := nt_f hb9
        replace h := bb_t hb9 h
        refine zan ?_
        refine za1 ?_
        refine c_seq ?_
        refine c_seq ?_
        refine za0 ?_
        refine o_q rfl rfl (q_f F27_1 rfl) ?_
        refine o_q rfl rfl (q_ldb Y24 rfl (fun w h => h.zae (i := 1) rfl) rfl) ?_
        refine o_q rfl rfl (q_len Try.underlying24 rfl) ?_
        refine o_q rfl rfl (za3 rfl) ?_
        refine o_end ?_
        refine za1 ?_
        refine zaj ?_
        refine za7 h (fun o18 hl17 hR16 => ?_) rfl
        clear h
        refine c_fact (p := l0_1.length ≤ 9223372036854775807) (fun w h => (R0_1.now Z h).2.1) (fun hm15 => ?_)
        refine zax (σ := (List SStep) × Int) (fun k13 ((ys12, i10) : (List SStep) × Int) => Rg l0_1 i10 ys12 ∧ ys12.length = k13 ∧ laws_rSamePlan.l0 l1_1 ys12 i10 = some o18) [4, 5, 31, 32, 33, 34, 35, 36, 37, 38, 39, 40, 41, 42, 43, 44, 45] (fun ((ys12, i10) : (List SStep) × Int) => [(31, .int .i64 i10)]) (fun ((ys12, i10) : (List SStep) × Int) => [box g3 27 #[.int .i64 a1_0, .slice A1_1 l1_1.length c1_1, .slice A1_2 l1_2.length c1_2], box g1 27 #[.int .i64 a0_0, .slice A0_1 l0_1.length c0_1, .slice A0_2 l0_2.length c0_2]]) l0_1.length (l0_1, 0) ⟨Rg.start _, rfl, hl17⟩ ⟨rfl, trivial⟩ (fun w h => h) ?_
        refine fun k13 => cur2 (listC (fun i10 U19 hJ_ => ?_) (fun y11 ys12 i10 U19 hJ_ => ?_))
        · skip
          clear hl17
          have hr14 := hJ_.1; have hk20 := hJ_.2.1; have h := hJ_.2.2; clear hJ_
          replace h : laws_rSamePlan.l0 l1_1 [] i10 = some o18 := h
          rw [laws_rSamePlan.l0] at h
          refine c_seq ?_
          refine za0 ?_
          refine o_q rfl rfl (q_lss rfl rfl) ?_
          refine o_end ?_
          refine za1 ?_
          refine c_seq ?_
          refine zb2 (congrArg Value.bool hr14.ge) ?_
          refine zb4 ?_
          refine za5 ?_
          refine za5 ?_
          have e_ := Option.some.inj h; replace h := hR16; rw [← e_] at h; clear e_
          refine x_hit ?_
          refine za1 ?_
          refine c_seq ?_
          refine za0 ?_
          refine o_q rfl rfl (q_asg rfl) ?_
          refine o_end ?_
          refine za1 ?_
          refine c_ret ?_
          have e0_ := Option.some.inj h; clear h
          subst e0_
          exact x_r1 () Try.results31 (zai rfl) rfl (fun w h => za6 [] (by decide) rfl w h)
        · skip
          clear hl17
          have hr14 := hJ_.1; have hk20 := hJ_.2.1; have h := hJ_.2.2; clear hJ_
          replace h : laws_rSamePlan.l0 l1_1 (y11 :: ys12) i10 = some o18 := h
          rw [laws_rSamePlan.l0] at h
          refine c_seq ?_
          refine za0 ?_
          refine o_q rfl rfl (q_lss rfl rfl) ?_
          refine o_end ?_
          refine za1 ?_
          refine c_seq ?_
          refine zb1 (congrArg Value.bool hr14.lt) ?_
          refine zan ?_
          refine za1 ?_
          refine c_seq ?_
          refine zaj ?_
          refine c_seq ?_
          refine za0 ?_
          refine o_q rfl rfl (za3 rfl) ?_
          refine o_q rfl rfl (q_asg rfl) ?_
          refine o_end ?_
          refine za1 ?_
          refine c_seq ?_
          refine a_start (ds := []) MO rfl ?_
          refine za9 0 rfl rfl rfl (by kernel_rfl) (fun _ _ _ h => h) (q_f F27_1 rfl) ?_
          refine zb0 1 rfl rfl rfl (by kernel_rfl) (fun _ _ _ h => h) (fun w h => h) (q_ldb Y24 rfl (fun w h => h.zae (i := 1) rfl) rfl) ?_
          refine za9 2 rfl rfl rfl (by kernel_rfl) (fun _ _ _ h => h) (za3 rfl) ?_
          refine a_fact (p := Sh A0_1 l0_1.length l0_1.length) (fun w h => f_sh (dk := kStep) h (fun w h => R0_1.now Z h)) (fun hq21 => ?_)
          refine za9 3 rfl rfl rfl (by kernel_rfl) (fun _ _ _ h => h) (q_ix Try.underlying24 Z88 rfl rfl hq21 hr14.get) ?_
          refine zb0 4 rfl rfl rfl (by kernel_rfl) (fun _ _ _ h => h) (fun w h => h) (q_ldE G88 Z88 rfl rfl (fun w h => R0_1.now Z h) hr14.get (fun _ _ h => h) rfl) ?_
          refine za9 5 rfl rfl rfl (by kernel_rfl) (fun _ _ _ h => h) (q_f F27_1 rfl) ?_
          refine zb0 6 rfl rfl rfl (by kernel_rfl) (fun _ _ _ h => h) (fun w h => h) (q_ldb Y24 rfl (fun w h => h.zae (i := 0) rfl) rfl) ?_
          refine za9 7 rfl rfl rfl (by kernel_rfl) (fun _ _ _ h => h) (za3 rfl) ?_
          refine a_fact (p := Sh A1_1 l1_1.length l1_1.length) (fun w h => f_sh (dk := kStep) h (fun w h => R1_1.now Z h)) (fun hq22 => ?_)
          refine za7 h (fun y24 hg23 h => ?_) rfl
          refine za9 8 rfl rfl rfl (by kernel_rfl) (fun _ _ _ h => h) (q_ix Try.underlying24 Z88 rfl rfl hq22 hg23) ?_
          refine zb0 9 rfl rfl rfl (by kernel_rfl) (fun _ _ _ h => h) (fun w h => h) (q_ldE G88 Z88 rfl rfl (fun w h => R1_1.now Z h) hg23 (fun _ _ h => h) rfl) ?_
          refine za9 10 rfl rfl rfl (by kernel_rfl) (fun _ _ _ h => h) (q_aneq E88 O88 P88 (Q88 y11.f0 y11.f1 y24.f0 y24.f1) rfl rfl) ?_
          refine zay (by kernel_rfl) ?_
          refine za1 ?_
          refine zav _ rfl (fun hb25 => ?_) (fun hb25 => ?_)
          · replace hb25 := nt_t hb25
            replace h := bb_f hb25 h
            refine c_seq ?_
            refine za0 ?_
            refine o_q rfl rfl (q_asg rfl) ?_
            refine o_end ?_
            refine za1 ?_
            refine c_ret ?_
            refine zao ?_
            refine zaa ?_
            refine zaa ?_
            have e_ := Option.some.inj h; replace h := hR16; rw [← e_] at h; clear e_
            refine zao ?_
            refine zaa ?_
            have e0_ := Option.some.inj h; clear h
            subst e0_
            exact x_r1 () Try.results31 (zai rfl) rfl (fun w h => za6 [] (by decide) rfl w h)
          · replace hb25 := nt_f hb25
            replace h := bb_t hb25 h
            refine zan ?_
            refine zam ?_
            refine za1 ?_
            refine za0 ?_
            refine o_q rfl rfl (q_up rfl rfl (hr14.up hm15)) ?_
            refine o_q rfl rfl (za3 rfl) ?_
            refine o_end ?_
            refine zak ys12.length (ys12, i10 + 1) (by rw [← hk20]; exact Nat.lt_succ_self _) ⟨hr14.step, rfl, h⟩ ⟨rfl, trivial⟩ (fun w h => za6 [0, 1] (by decide) rfl w h) ?_
            repeat (first | exact zab _ _ | refine zaf rfl ?_ | refine zac rfl ?_ | refine zah rfl ?_)

/-! ### loop.example/g01098/impl.IsRegCode: function 32 -/
def impl_IsRegCode.f (k : Nat) (a0_0 : Int) (l0_1 : List Int) (l0_2 : List SRegOp) (l0_3 : List Int) : Option Bool := (impl_RegCode_plan.f k a0_0 l0_1 l0_2 l0_3).bind fun (i4, l5, l6, b7) => some b7
set_option maxHeartbeats 600000 in
set_option maxRecDepth 100000 in
theorem impl_IsRegCode.calls (k : Nat) {w0 ws : World} {P0 : Nat → Prop} (a0_0 : Int) (A0_1 : Option Addr) (c0_1 : Nat) (n0_1 : Nat) (l0_1 : List Int) (A0_2 : Option Addr) (c0_2 : Nat) (n0_2 : Nat) (l0_2 : List SRegOp) (A0_3 : Option Addr) (c0_3 : Nat) (n0_3 : Nat) (l0_3 : List Int) (Z : Below w0.heap.size w0 ws) (hF : Fr w0 ws P0 [] ws) (R0_1 : Stable ws P0 (fun w => Kd.C (Kd.int .i64) w A0_1 n0_1 l0_1)) (hc0_1 : n0_1 ≤ c0_1) (R0_2 : Stable ws P0 (fun w => Kd.C kRegOp w A0_2 n0_2 l0_2)) (hc0_2 : n0_2 ≤ c0_2) (R0_3 : Stable ws P0 (fun w => Kd.C (Kd.int .i64) w A0_3 n0_3 l0_3)) (hc0_3 : n0_3 ≤ c0_3) (r_1 : Bool) (h : impl_IsRegCode.f k a0_0 l0_1 l0_2 l0_3 = some r_1) :
    Calls Try.prog 32 #[.agg #[.int .i64 a0_0, .slice A0_1 n0_1 c0_1, .slice A0_2 n0_2 c0_2, .slice A0_3 n0_3 c0_3]] ws (Post1 w0 ws P0 (fun (_ : Unit) => .bool r_1) (fun (_ : Unit) => [])) := by
  unfold impl_IsRegCode.f at h
  obtain rfl := (R0_1 ws (KeptB.refl _ _)).1
  obtain rfl := (R0_2 ws (KeptB.refl _ _)).1
  obtain rfl := (R0_3 ws (KeptB.refl _ _)).1
  refine enter Try.func32 rfl Try.ntmps32 rfl hF ?_
  refine c_seq ?_
  refine za0 ?_
  refine o_e rfl (e_box rfl) (fun g1 => ?_)
  refine o_q rfl rfl (q_asg rfl) ?_
  refine o_end ?_
  refine za1 ?_
  refine c_seq ?_
  refine za0 ?_
  refine bindE4 h (fun i4 l5 l6 b7 hx3 h => ?_) rfl
  refine o_e rfl (zad 0 Z Try.func88 N88 rfl rfl rfl (fun w P1 hF hB hS hT => impl_RegCode_plan.calls k g1 a0_0 A0_1 c0_1 l0_1.length l0_1 A0_2 c0_2 l0_2.length l0_2 A0_3 c0_3 l0_3.length l0_3 hB hF (hS _ R0_1) hc0_1 (hS _ R0_2) hc0_2 (hS _ R0_3) hc0_3 (hT 0 _ rfl).box _ _ _ _ hx3)) (cur4 (fun A8 c9 A10 c11 => ?_))
  refine o_q rfl rfl (za3 rfl) ?_
  refine o_q rfl rfl (q_ext rfl rfl) ?_
  refine o_q rfl rfl (q_ext rfl rfl) ?_
  refine o_e rfl (zas V27 rfl) (fun g12 => ?_)
  refine o_e rfl (zaq (i := 0) rfl rfl rfl Z27 rfl rfl) (fun _ => ?_)
  refine o_q rfl rfl (q_asg rfl) ?_
  refine o_end ?_
  refine za1 ?_
  refine c_seq ?_
  refine za0 ?_
  refine o_q rfl rfl (za3 rfl) ?_
  refine o_q rfl rfl (q_asg rfl) ?_
  refine o_end ?_
  refine za1 ?_
  refine c_ret ?_
  have e0_ := Option.some.inj h; clear h
  subst e0_
  exact x_r1 () Try.results32 (zai rfl) rfl (fun w h => za6 [] (by decide) rfl w h)

/-! ### loop.example/g01098/laws.numberOf: function 33 -/
def laws_numberOf.l0 : (List Int) → Int → Int → Option Int
  | [], i1, i2 => some i1
  | y3 :: ys4, i1, i2 => laws_numberOf.l0 ys4 ((w64 (w64 (31 * i1) + (w64 y3))).tmod 1000003) (i2 + 1)
def laws_numberOf.f (l0 : List Int) : Option Int := (laws_numberOf.l0 l0 0 0).bind fun i1 => some i1
set_option maxHeartbeats 600000 in
set_option maxRecDepth 100000 in
theorem laws_numberOf.calls {w0 ws : World} {P0 : Nat → Prop} (A0 : Option Addr) (c0 : Nat) (n0 : Nat) (l0 : List Int) (Z : Below w0.heap.size w0 ws) (hF : Fr w0 ws P0 [] ws) (R0 : Stable ws P0 (fun w => Kd.C (Kd.int .u8) w A0 n0 l0)) (hc0 : n0 ≤ c0) (r_1 : Int) (h : laws_numberOf.f l0 = some r_1) :
    Calls Try.prog 33 #[.slice A0 n0 c0] ws (Post1 w0 ws P0 (fun (_ : Unit) => .int .i64 r_1) (fun (_ : Unit) => [])) := by
  unfold laws_numberOf.f at h
  obtain rfl := (R0 ws (KeptB.refl _ _)).1
  refine enter Try.func33 rfl Try.ntmps33 rfl hF ?_
  refine c_seq ?_
  refine za0 ?_
  refine o_q rfl rfl (q_asg rfl) ?_
  refine o_end ?_
  refine za1 ?_
  refine c_seq ?_
  refine za0 ?_
  refine o_q rfl rfl (q_asg rfl) ?_
  refine o_end ?_
  refine za1 ?_
  refine c_seq ?_
  refine c_seq ?_
  refine za0 ?_
  refine o_q rfl rfl (za3 rfl) ?_
  refine o_q rfl rfl (q_len Try.underlying22 rfl) ?_
  refine o_q rfl rfl (za3 rfl) ?_
  refine o_end ?_
  refine za1 ?_
  refine zaj ?_
  refine za7 h (fun o10 hl9 hR8 => ?_) rfl
  clear h
  refine c_fact (p := l0.length ≤ 9223372036854775807) (fun w h => (R0.now Z h).2.1) (fun hm7 => ?_)
  refine zax (σ := (List Int) × Int × Int) (fun k5 ((ys4, i1, i2) : (List Int) × Int × Int) => Rg l0 i2 ys4 ∧ ys4.length = k5 ∧ laws_numberOf.l0 ys4 i1 i2 = some o10) [3, 5, 8, 9, 10, 11, 12, 13, 14, 15, 16, 17, 18] (fun ((ys4, i1, i2) : (List Int) × Int × Int) => [(3, .int .i64 i1), (8, .int .i64 i2)]) (fun ((ys4, i1, i2) : (List Int) × Int × Int) => []) l0.length (l0, 0, 0) ⟨Rg.start _, rfl, hl9⟩ ⟨rfl, rfl, trivial⟩ (fun w h => h) ?_
  refine fun k5 => cur3 (listC (fun i1 i2 U11 hJ_ => ?_) (fun y3 ys4 i1 i2 U11 hJ_ => ?_))
  · skip
    clear hl9
    have hr6 := hJ_.1; have hk12 := hJ_.2.1; have h := hJ_.2.2; clear hJ_
    replace h : laws_numberOf.l0 [] i1 i2 = some o10 := h
    rw [laws_numberOf.l0] at h
    refine c_seq ?_
    refine za0 ?_
    refine o_q rfl rfl (q_lss rfl rfl) ?_
    refine o_end ?_
    refine za1 ?_
    refine c_seq ?_
    refine zb2 (congrArg Value.bool hr6.ge) ?_
    refine zb4 ?_
    refine za5 ?_
    refine za5 ?_
    have e_ := Option.some.inj h; replace h := hR8; rw [← e_] at h; clear e_
    refine x_hit ?_
    refine za1 ?_
    refine c_seq ?_
    refine za0 ?_
    refine o_q rfl rfl (za3 rfl) ?_
    refine o_q rfl rfl (q_asg rfl) ?_
    refine o_end ?_
    refine za1 ?_
    refine c_ret ?_
    have e0_ := Option.some.inj h; clear h
    subst e0_
    exact x_r1 () Try.results33 (zai rfl) rfl (fun w h => za6 [] (by decide) rfl w h)
  · skip
    clear hl9
    have hr6 := hJ_.1; have hk12 := hJ_.2.1; have h := hJ_.2.2; clear hJ_
    replace h : laws_numberOf.l0 (y3 :: ys4) i1 i2 = some o10 := h
    rw [laws_numberOf.l0] at h
    refine c_seq ?_
    refine za0 ?_
    refine o_q rfl rfl (q_lss rfl rfl) ?_
    refine o_end ?_
    refine za1 ?_
    refine c_seq ?_
    refine zb1 (congrArg Value.bool hr6.lt) ?_
    refine zan ?_
    refine za1 ?_
    refine c_seq ?_
    refine zaj ?_
    refine c_seq ?_
    refine za0 ?_
    refine zaz (p := Sh A0 l0.length l0.length) (fun w h => f_sh (dk := (Kd.int .u8)) h (fun w h => R0.now Z h)) (fun hq13 => ?_)
    refine o_q rfl rfl (q_ix Try.underlying22 Z5 rfl rfl hq13 hr6.get) ?_
    refine o_q rfl rfl (q_lde (off := 0) Y5 rfl rfl (fun w h => R0.now Z h) hr6.get (fun _ _ h => h) rfl) ?_
    refine o_q rfl rfl (q_asg rfl) ?_
    refine o_end ?_
    refine za1 ?_
    refine za0 ?_
    refine o_q rfl rfl (za3 rfl) ?_
    refine o_q rfl rfl (q_mul64 rfl rfl) ?_
    refine o_q rfl rfl (za3 rfl) ?_
    refine o_q rfl rfl (q_conv (by rw [Try.underlying5]; rfl) Try.underlying3 rfl) ?_
    refine o_q rfl rfl (zb6 rfl rfl) ?_
    refine o_q rfl rfl (q_rem rfl rfl (by decide)) ?_
    refine o_q rfl rfl (q_asg rfl) ?_
    refine o_end ?_
    refine zam ?_
    refine za1 ?_
    refine za0 ?_
    refine o_q rfl rfl (q_up rfl rfl (hr6.up hm7)) ?_
    refine o_q rfl rfl (za3 rfl) ?_
    refine o_end ?_
    refine zak ys4.length (ys4, (w64 (w64 (31 * i1) + (w64 y3))).tmod 1000003, i2 + 1) (by rw [← hk12]; exact Nat.lt_succ_self _) ⟨hr6.step, rfl, h⟩ ⟨rfl, rfl, trivial⟩ (fun w h => za6 [] (by decide) rfl w h) ?_
    repeat (first | exact zab _ _ | refine zaf rfl ?_ | refine zac rfl ?_ | refine zah rfl ?_)

/-! ### loop.example/g01098/impl.modulusOk: function 146 -/
def impl_modulusOk.f (a0 : Int) : Option Bool := (impl_in.f a0 2 10000).bind fun b2 => some b2
set_option maxHeartbeats 600000 in
set_option maxRecDepth 100000 in
theorem impl_modulusOk.calls {w0 ws : World} {P0 : Nat → Prop} (a0 : Int) (Z : Below w0.heap.size w0 ws) (hF : Fr w0 ws P0 [] ws)  (r_1 : Bool) (h : impl_modulusOk.f a0 = some r_1) :
    Calls Try.prog 146 #[.int .i64 a0] ws (Post1 w0 ws P0 (fun (_ : Unit) => .bool r_1) (fun (_ : Unit) => [])) := by
  unfold impl_modulusOk.f at h
  refine enter Try.func146 rfl Try.ntmps146 rfl hF ?_
  refine c_seq ?_
  refine za0 ?_
  refine o_q rfl rfl (q_asg rfl) ?_
  refine o_end ?_
  refine za1 ?_
  refine c_seq ?_
  refine za0 ?_
  refine o_q rfl rfl (za3 rfl) ?_
  refine za7 h (fun b2 hx1 h => ?_) rfl
  refine o_e rfl (zad 0 Z Try.func58 N58 rfl rfl rfl (fun w P1 hF hB hS hT => impl_in.calls a0 2 10000 hB hF _ hx1)) (fun _ => ?_)
  refine o_q rfl rfl (q_asg rfl) ?_
  refine o_end ?_
  refine za1 ?_
  refine c_ret ?_
  have e0_ := Option.some.inj h; clear h
  subst e0_
  exact x_r1 () Try.results146 (zai rfl) rfl (fun w h => za6 [] (by decide) rfl w h)

/-! ### loop.example/g01098/impl.residuesOk$1: function 148 -/
def impl_residuesOk_1.f (a0 : Int) (a1_0 : Int) : Option Bool := (impl_in.f a0 0 (w64 (a1_0 - 1))).bind fun b2 => some (!b2)
set_option maxHeartbeats 600000 in
set_option maxRecDepth 100000 in
theorem impl_residuesOk_1.calls {w0 ws : World} {P0 : Nat → Prop} (a0 : Int) (g1 : Nat) (a1_0 : Int) (Z : Below w0.heap.size w0 ws) (hF : Fr w0 ws P0 [] ws) (B1 : Stable ws P0 (fun w => w.heap[g1]? = some (.cells #[.int .i64 a1_0] 3 (0, 0)))) (r_1 : Bool) (h : impl_residuesOk_1.f a0 a1_0 = some r_1) :
    Calls Try.prog 148 #[.int .i64 a0, .pointer (some ⟨g1, 0, none⟩)] ws (Post1 w0 ws P0 (fun (_ : Unit) => .bool r_1) (fun (_ : Unit) => [])) := by
  unfold impl_residuesOk_1.f at h
  refine enter Try.func148 rfl Try.ntmps148 rfl hF ?_
  refine c_seq ?_
  refine za0 ?_
  refine o_q rfl rfl (q_asg rfl) ?_
  refine o_end ?_
  refine za1 ?_
  refine c_seq ?_
  refine za0 ?_
  refine o_q rfl rfl (za3 rfl) ?_
  refine o_q rfl rfl (q_ldb Y3 rfl (fun w h => B1.now Z h) rfl) ?_
  refine o_q rfl rfl (q_sub64 rfl rfl) ?_
  refine za7 h (fun b2 hx1 h => ?_) rfl
  refine o_e rfl (zad 0 Z Try.func58 N58 rfl rfl rfl (fun w P1 hF hB hS hT => impl_in.calls a0 0 (w64 (a1_0 - 1)) hB hF _ hx1)) (fun _ => ?_)
  refine o_q rfl rfl (q_not rfl) ?_
  refine o_q rfl rfl (q_asg rfl) ?_
  refine o_end ?_
  refine za1 ?_
  refine c_ret ?_
  have e0_ := Option.some.inj h; clear h
  subst e0_
  exact x_r1 () Try.results148 (zai rfl) rfl (fun w h => za6 [] (by decide) rfl w h)

/-! ### slices.IndexFunc[[]int,int]: function 182 -/
def slices_IndexFunc_int_int_3.l0 (a1_c0_0 : Int) : (List Int) → Int → Option ((Int) ⊕ (Unit))
  | [], i1 => some (.inr ())
  | y2 :: ys3, i1 => (impl_residuesOk_1.f y2 a1_c0_0).bind fun b14 => if b14 = true then (some (.inl i1)) else (slices_IndexFunc_int_int_3.l0 a1_c0_0 ys3 (i1 + 1))
def slices_IndexFunc_int_int_3.f (l0 : List Int) (a1_c0_0 : Int) : Option Int := (slices_IndexFunc_int_int_3.l0 a1_c0_0 l0 0).bind fun o_ => match o_ with | .inl r_ => some r_ | .inr _ => some (-1)
set_option maxHeartbeats 600000 in
set_option maxRecDepth 100000 in
theorem slices_IndexFunc_int_int_3.calls {w0 ws : World} {P0 : Nat → Prop} (A0 : Option Addr) (c0 : Nat) (n0 : Nat) (l0 : List Int) (g1_c0 : Nat) (a1_c0_0 : Int) (Z : Below w0.heap.size w0 ws) (hF : Fr w0 ws P0 [] ws) (R0 : Stable ws P0 (fun w => Kd.C (Kd.int .i64) w A0 n0 l0)) (hc0 : n0 ≤ c0) (B1_c0 : Stable ws P0 (fun w => w.heap[g1_c0]? = some (.cells #[.int .i64 a1_c0_0] 3 (0, 0)))) (r_1 : Int) (h : slices_IndexFunc_int_int_3.f l0 a1_c0_0 = some r_1) :
    Calls Try.prog 182 #[.slice A0 n0 c0, .func (.func 148) #[] #[.pointer (some ⟨g1_c0, 0, none⟩)]] ws (Post1 w0 ws P0 (fun (_ : Unit) => .int .i64 r_1) (fun (_ : Unit) => [])) := by
  unfold slices_IndexFunc_int_int_3.f at h
  obtain rfl := (R0 ws (KeptB.refl _ _)).1
  refine enter Try.func182 rfl Try.ntmps182 rfl hF ?_
  refine c_seq ?_
  refine za0 ?_
  refine o_q rfl rfl (q_asg rfl) ?_
  refine o_end ?_
  refine za1 ?_
  refine c_seq ?_
  refine c_seq ?_
  refine za0 ?_
  refine o_q rfl rfl (za3 rfl) ?_
  refine o_q rfl rfl (q_len Try.underlying25 rfl) ?_
  refine o_q rfl rfl (za3 rfl) ?_
  refine o_end ?_
  refine za1 ?_
  refine zaj ?_
  refine za7 h (fun o9 hl8 hR7 => ?_) rfl
  clear h
  refine c_fact (p := l0.length ≤ 9223372036854775807) (fun w h => (R0.now Z h).2.1) (fun hm6 => ?_)
  refine zax (σ := (List Int) × Int) (fun k4 ((ys3, i1) : (List Int) × Int) => Rg l0 i1 ys3 ∧ ys3.length = k4 ∧ slices_IndexFunc_int_int_3.l0 a1_c0_0 ys3 i1 = some o9) [4, 5, 8, 9, 10, 11, 12, 13, 14, 15, 16, 17, 18] (fun ((ys3, i1) : (List Int) × Int) => [(8, .int .i64 i1)]) (fun ((ys3, i1) : (List Int) × Int) => []) l0.length (l0, 0) ⟨Rg.start _, rfl, hl8⟩ ⟨rfl, trivial⟩ (fun w h => h) ?_
  refine fun k4 => cur2 (listC (fun i1 U10 hJ_ => ?_) (fun y2 ys3 i1 U10 hJ_ => ?_))
  · skip
    clear hl8
    have hr5 := hJ_.1; have hk11 := hJ_.2.1; have h := hJ_.2.2; clear hJ_
    replace h : slices_IndexFunc_int_int_3.l0 a1_c0_0 [] i1 = some o9 := h
    rw [slices_IndexFunc_int_int_3.l0] at h
    refine c_seq ?_
    refine za0 ?_
    refine o_q rfl rfl (q_lss rfl rfl) ?_
    refine o_end ?_
    refine za1 ?_
    refine c_seq ?_
    refine zb2 (congrArg Value.bool hr5.ge) ?_
    refine zb4 ?_
    refine za5 ?_
    refine za5 ?_
    have e_ := Option.some.inj h; replace h := hR7; rw [← e_] at h; clear e_
    refine x_hit ?_
    refine za1 ?_
    refine c_seq ?_
    refine za0 ?_
    refine o_q rfl rfl (q_asg rfl) ?_
    refine o_end ?_
    refine za1 ?_
    refine c_ret ?_
    have e0_ := Option.some.inj h; clear h
    subst e0_
    exact x_r1 () Try.results182 (zai rfl) rfl (fun w h => za6 [] (by decide) rfl w h)
  · skip
    clear hl8
    have hr5 := hJ_.1; have hk11 := hJ_.2.1; have h := hJ_.2.2; clear hJ_
    replace h : slices_IndexFunc_int_int_3.l0 a1_c0_0 (y2 :: ys3) i1 = some o9 := h
    rw [slices_IndexFunc_int_int_3.l0] at h
    refine c_seq ?_
    refine za0 ?_
    refine o_q rfl rfl (q_lss rfl rfl) ?_
    refine o_end ?_
    refine za1 ?_
    refine c_seq ?_
    refine zb1 (congrArg Value.bool hr5.lt) ?_
    refine zan ?_
    refine za1 ?_
    refine c_seq ?_
    refine zaj ?_
    refine c_seq ?_
    refine za0 ?_
    refine o_q rfl rfl (za3 rfl) ?_
    refine o_q rfl rfl (q_asg rfl) ?_
    refine o_end ?_
    refine za1 ?_
    refine c_seq ?_
    refine za0 ?_
    refine o_q rfl rfl (za3 rfl) ?_
    refine o_q rfl rfl (za3 rfl) ?_
    refine o_q rfl rfl (za3 rfl) ?_
    refine zaz (p := Sh A0 l0.length l0.length) (fun w h => f_sh (dk := (Kd.int .i64)) h (fun w h => R0.now Z h)) (fun hq12 => ?_)
    refine o_q rfl rfl (q_ix Try.underlying25 Z3 rfl rfl hq12 hr5.get) ?_
    refine o_q rfl rfl (q_lde (off := 0) Y3 rfl rfl (fun w h => R0.now Z h) hr5.get (fun _ _ h => h) rfl) ?_
    refine za7 h (fun b14 hx13 h => ?_) rfl
    refine o_e rfl (zad 0 Z Try.func148 N148 rfl rfl rfl (fun w P1 hF hB hS hT => impl_residuesOk_1.calls y2 g1_c0 a1_c0_0 hB hF (hS _ B1_c0) _ hx13)) (fun _ => ?_)
    refine o_end ?_
    refine za1 ?_
    refine zav _ rfl (fun hb15 => ?_) (fun hb15 => ?_)
    · skip
      replace h := bb_t hb15 h
      refine c_seq ?_
      refine za0 ?_
      refine o_q rfl rfl (za3 rfl) ?_
      refine o_q rfl rfl (q_asg rfl) ?_
      refine o_end ?_
      refine za1 ?_
      refine c_ret ?_
      refine zao ?_
      refine zaa ?_
      refine zaa ?_
      have e_ := Option.some.inj h; replace h := hR7; rw [← e_] at h; clear e_
      refine zao ?_
      refine zaa ?_
      have e0_ := Option.some.inj h; clear h
      subst e0_
      exact x_r1 () Try.results182 (zai rfl) rfl (fun w h => za6 [] (by decide) rfl w h)
    · skip
      replace h := bb_f hb15 h
      refine zan ?_
      refine zam ?_
      refine za1 ?_
      refine za0 ?_
      refine o_q rfl rfl (q_up rfl rfl (hr5.up hm6)) ?_
      refine o_q rfl rfl (za3 rfl) ?_
      refine o_end ?_
      refine zak ys3.length (ys3, i1 + 1) (by rw [← hk11]; exact Nat.lt_succ_self _) ⟨hr5.step, rfl, h⟩ ⟨rfl, trivial⟩ (fun w h => za6 [] (by decide) rfl w h) ?_
      repeat (first | exact zab _ _ | refine zaf rfl ?_ | refine zac rfl ?_ | refine zah rfl ?_)

/-! ### slices.ContainsFunc[[]int,int]: function 147 -/
def slices_ContainsFunc_int_int_3.f (l0 : List Int) (a1_c0_0 : Int) : Option Bool := (slices_IndexFunc_int_int_3.f l0 a1_c0_0).bind fun i2 => some (decide (0 ≤ i2))
set_option maxHeartbeats 600000 in
set_option maxRecDepth 100000 in
theorem slices_ContainsFunc_int_int_3.calls {w0 ws : World} {P0 : Nat → Prop} (A0 : Option Addr) (c0 : Nat) (n0 : Nat) (l0 : List Int) (g1_c0 : Nat) (a1_c0_0 : Int) (Z : Below w0.heap.size w0 ws) (hF : Fr w0 ws P0 [] ws) (R0 : Stable ws P0 (fun w => Kd.C (Kd.int .i64) w A0 n0 l0)) (hc0 : n0 ≤ c0) (B1_c0 : Stable ws P0 (fun w => w.heap[g1_c0]? = some (.cells #[.int .i64 a1_c0_0] 3 (0, 0)))) (r_1 : Bool) (h : slices_ContainsFunc_int_int_3.f l0 a1_c0_0 = some r_1) :
    Calls Try.prog 147 #[.slice A0 n0 c0, .func (.func 148) #[] #[.pointer (some ⟨g1_c0, 0, none⟩)]] ws (Post1 w0 ws P0 (fun (_ : Unit) => .bool r_1) (fun (_ : Unit) => [])) := by
  unfold slices_ContainsFunc_int_int_3.f at h
  obtain rfl := (R0 ws (KeptB.refl _ _)).1
  refine enter Try.func147 rfl Try.ntmps147 rfl hF ?_
  refine c_seq ?_
  refine za0 ?_
  refine o_q rfl rfl (q_asg rfl) ?_
  refine o_end ?_
  refine za1 ?_
  refine c_seq ?_
  refine za0 ?_
  refine o_q rfl rfl (za3 rfl) ?_
  refine o_q rfl rfl (za3 rfl) ?_
  refine za7 h (fun i2 hx1 h => ?_) rfl
  refine o_e rfl (zad 0 Z Try.func182 N182 rfl rfl rfl (fun w P1 hF hB hS hT => slices_IndexFunc_int_int_3.calls A0 c0 l0.length l0 g1_c0 a1_c0_0 hB hF (hS _ R0) hc0 (hS _ B1_c0) _ hx1)) (fun _ => ?_)
  refine o_q rfl rfl (q_geq rfl rfl) ?_
  refine o_q rfl rfl (q_asg rfl) ?_
  refine o_end ?_
  refine za1 ?_
  refine c_ret ?_
  have e0_ := Option.some.inj h; clear h
  subst e0_
  exact x_r1 () Try.results147 (zai rfl) rfl (fun w h => za6 [] (by decide) rfl w h)

/-! ### loop.example/g01098/impl.residuesOk: function 90 -/
def impl_residuesOk.f (l0 : List Int) (a1 : Int) : Option Bool := (impl_modulusOk.f a1).bind fun b4 => if b4 = true then ((slices_ContainsFunc_int_int_3.f l0 a1).bind fun b7 => some (!b7)) else (some false)
set_option maxHeartbeats 600000 in
set_option maxRecDepth 100000 in
theorem impl_residuesOk.calls {w0 ws : World} {P0 : Nat → Prop} (A0 : Option Addr) (c0 : Nat) (n0 : Nat) (l0 : List Int) (a1 : Int) (Z : Below w0.heap.size w0 ws) (hF : Fr w0 ws P0 [] ws) (R0 : Stable ws P0 (fun w => Kd.C (Kd.int .i64) w A0 n0 l0)) (hc0 : n0 ≤ c0) (r_1 : Bool) (h : impl_residuesOk.f l0 a1 = some r_1) :
    Calls Try.prog 90 #[.slice A0 n0 c0, .int .i64 a1] ws (Post1 w0 ws P0 (fun (_ : Unit) => .bool r_1) (fun (_ : Unit) => [])) := by
  unfold impl_residuesOk.f at h
  obtain rfl := (R0 ws (KeptB.refl _ _)).1
  refine enter Try.func90 rfl Try.ntmps90 rfl hF ?_
  refine c_seq ?_
  refine za0 ?_
  refine o_e rfl (e_box rfl) (fun g1 => ?_)
  refine o_q rfl rfl (q_asg rfl) ?_
  refine o_end ?_
  refine za1 ?_
  refine c_seq ?_
  refine za0 ?_
  refine o_q rfl rfl (q_ldb Y3 rfl (fun w h => h.zae (i := 0) rfl) rfl) ?_
  refine za7 h (fun b4 hx3 h => ?_) rfl
  refine o_e rfl (zad 0 Z Try.func146 N146 rfl rfl rfl (fun w P1 hF hB hS hT => impl_modulusOk.calls a1 hB hF _ hx3)) (fun _ => ?_)
  refine o_q rfl rfl (za3 rfl) ?_
  refine byB b4 (fun hb5 => ?_) (fun hb5 => ?_)
  · replace h := bb_t hb5 h
    refine o_w (za4 rfl rfl rfl (congrArg Value.bool hb5)) rfl (za3 rfl) ?_
    refine o_w (za4 rfl rfl rfl (congrArg Value.bool hb5)) rfl (q_func rfl rfl) ?_
    refine za7 h (fun b7 hx6 h => ?_) rfl
    refine o_ew (za4 rfl rfl rfl (congrArg Value.bool hb5)) (zad 0 Z Try.func147 N147 rfl rfl rfl (fun w P1 hF hB hS hT => slices_ContainsFunc_int_int_3.calls A0 c0 l0.length l0 g1 a1 hB hF (hS _ R0) hc0 (hT 0 _ rfl).box _ hx6)) (fun _ => ?_)
    refine o_w (za4 rfl rfl rfl (congrArg Value.bool hb5)) rfl (q_not rfl) ?_
    refine o_q rfl rfl (zal true (congrArg Value.bool hb5) rfl) ?_
    refine o_q rfl rfl (q_asg rfl) ?_
    refine o_end ?_
    refine za1 ?_
    refine c_ret ?_
    have e0_ := Option.some.inj h; clear h
    subst e0_
    exact x_r1 () Try.results90 (zai rfl) rfl (fun w h => za6 [] (by decide) rfl w h)
  · replace h := bb_f hb5 h
    refine @o_n _ _ _ _ _ _ _ _ _ _ _ 8 (za2 rfl rfl rfl (congrArg Value.bool hb5) rfl) (Eq.refl (some 8)) ?_
    refine @o_n _ _ _ _ _ _ _ _ _ _ _ 9 (za2 rfl rfl rfl (congrArg Value.bool hb5) rfl) (Eq.refl (some 9)) ?_
    refine @o_n _ _ _ _ _ _ _ _ _ _ _ 10 (za2 rfl rfl rfl (congrArg Value.bool hb5) rfl) (Eq.refl (some 10)) ?_
    refine @o_n _ _ _ _ _ _ _ _ _ _ _ 11 (za2 rfl rfl rfl (congrArg Value.bool hb5) rfl) (Eq.refl (some 11)) ?_
    refine o_q rfl rfl (zal false (congrArg Value.bool hb5) rfl) ?_
    refine o_q rfl rfl (q_asg rfl) ?_
    refine o_end ?_
    refine za1 ?_
    refine c_ret ?_
    have e0_ := Option.some.inj h; clear h
    subst e0_
    exact x_r1 () Try.results90 (zai rfl) rfl (fun w h => za6 [] (by decide) rfl w h)

/-! ### loop.example/g01098/impl.RunResidues$1: function 93 -/
def impl_RunResidues_1.f (a0 : Int) (a1 : Int) (a2_0 : Int) : Option Unit := (nz a2_0).bind fun _ => some ()
set_option maxHeartbeats 600000 in
set_option maxRecDepth 100000 in
theorem impl_RunResidues_1.calls {w0 ws : World} {P0 : Nat → Prop} (a0 : Int) (a1 : Int) (g2 : Nat) (a2_0 : Int) (Z : Below w0.heap.size w0 ws) (hF : Fr w0 ws P0 [] ws) (B2 : Stable ws P0 (fun w => w.heap[g2]? = some (.cells #[.int .i64 a2_0] 3 (0, 0))))  (h : impl_RunResidues_1.f a0 a1 a2_0 = some ()) :
    Calls Try.prog 93 #[.int .i64 a0, .int .i64 a1, .pointer (some ⟨g2, 0, none⟩)] ws (Post1 w0 ws P0 (fun (_ : Unit) => .int .i64 ((w64 (a0 * a1)).tmod a2_0)) (fun (_ : Unit) => [])) := by
  unfold impl_RunResidues_1.f at h
  refine enter Try.func93 rfl Try.ntmps93 rfl hF ?_
  refine c_seq ?_
  refine za0 ?_
  refine o_q rfl rfl (q_asg rfl) ?_
  refine o_end ?_
  refine za1 ?_
  refine c_seq ?_
  refine za0 ?_
  refine o_q rfl rfl (za3 rfl) ?_
  refine o_q rfl rfl (za3 rfl) ?_
  refine o_q rfl rfl (q_mul64 rfl rfl) ?_
  refine o_q rfl rfl (q_ldb Y3 rfl (fun w h => B2.now Z h) rfl) ?_
  refine za7 h (fun _ hz1 h => ?_) rfl
  refine o_q rfl rfl (q_rem rfl rfl (nz_ne hz1)) ?_
  refine o_q rfl rfl (q_asg rfl) ?_
  refine o_end ?_
  refine za1 ?_
  refine c_ret ?_
  exact x_r1 () Try.results93 (zai rfl) rfl (fun w h => za6 [] (by decide) rfl w h)

/-! ### loop.example/g01098/impl.run[int]: function 92 -/
def impl_run_int.l0 (a2_c0_0 : Int) : (List SStep) → (List Int) → Int → Option (List Int)
  | [], l5, i8 => some l5
  | y9 :: ys10, l5, i8 => (gt l5 y9.f0).bind fun y325 => (gt l5 y9.f1).bind fun y624 => (impl_RunResidues_1.f y325 y624 a2_c0_0).bind fun _ => (ap l5 ([(w64 (y325 * y624)).tmod a2_c0_0] : List Int)).bind fun l863 => impl_run_int.l0 a2_c0_0 ys10 l863 (i8 + 1)
def impl_run_int.f (a0_0 : Int) (l0_1 : List SStep) (l0_2 : List Int) (l1 : List Int) (a2_c0_0 : Int) : Option (List Int) := (slices_Clone_int_int.f l1).bind fun l2 => (impl_run_int.l0 a2_c0_0 l0_1 l2 0).bind fun l5 => some l5
set_option maxHeartbeats 600000 in
set_option maxRecDepth 100000 in
theorem impl_run_int.calls {w0 ws : World} {P0 : Nat → Prop} (g0 : Nat) (a0_0 : Int) (A0_1 : Option Addr) (c0_1 : Nat) (n0_1 : Nat) (l0_1 : List SStep) (A0_2 : Option Addr) (c0_2 : Nat) (n0_2 : Nat) (l0_2 : List Int) (A1 : Option Addr) (c1 : Nat) (n1 : Nat) (l1 : List Int) (g2_c0 : Nat) (a2_c0_0 : Int) (Z : Below w0.heap.size w0 ws) (hF : Fr w0 ws P0 [] ws) (R0_1 : Stable ws P0 (fun w => Kd.C kStep w A0_1 n0_1 l0_1)) (hc0_1 : n0_1 ≤ c0_1) (R0_2 : Stable ws P0 (fun w => Kd.C (Kd.int .i64) w A0_2 n0_2 l0_2)) (hc0_2 : n0_2 ≤ c0_2) (B0 : Stable ws P0 (fun w => w.heap[g0]? = some (.cells #[.int .i64 a0_0, .slice A0_1 n0_1 c0_1, .slice A0_2 n0_2 c0_2] 27 (0, 0)))) (R1 : Stable ws P0 (fun w => Kd.C (Kd.int .i64) w A1 n1 l1)) (hc1 : n1 ≤ c1) (B2_c0 : Stable ws P0 (fun w => w.heap[g2_c0]? = some (.cells #[.int .i64 a2_c0_0] 3 (0, 0)))) (r_1 : List Int) (h : impl_run_int.f a0_0 l0_1 l0_2 l1 a2_c0_0 = some r_1) :
    Calls Try.prog 92 #[.pointer (some ⟨g0, 0, none⟩), .slice A1 n1 c1, .func (.func 93) #[] #[.pointer (some ⟨g2_c0, 0, none⟩)]] ws (Post1 w0 ws P0 (fun ((q_2, q_3) : (Option Addr) × Nat) => .slice q_2 r_1.length q_3) (fun ((q_2, q_3) : (Option Addr) × Nat) => [row (Kd.int .i64) 3 (.slice q_2 r_1.length q_3) r_1])) := by
  unfold impl_run_int.f at h
  obtain rfl := (R0_1 ws (KeptB.refl _ _)).1
  obtain rfl := (R0_2 ws (KeptB.refl _ _)).1
  obtain rfl := (R1 ws (KeptB.refl _ _)).1
  refine enter Try.func92 rfl Try.ntmps92 rfl hF ?_
  refine c_seq ?_
  refine za0 ?_
  refine o_q rfl rfl (q_asg rfl) ?_
  refine o_end ?_
  refine za1 ?_
  refine c_seq ?_
  refine za0 ?_
  refine o_q rfl rfl (za3 rfl) ?_
  refine za7 h (fun l2 hx1 h => ?_) rfl
  refine o_e rfl (zad 0 Z Try.func137 N137 rfl rfl rfl (fun w P1 hF hB hS hT => slices_Clone_int_int.calls A1 c1 l1.length l1 hB hF (hS _ R1) hc1 _ hx1)) (cur2 (fun A3 c4 => ?_))
  refine o_q rfl rfl (q_asg rfl) ?_
  refine o_end ?_
  refine za1 ?_
  refine c_seq ?_
  refine c_seq ?_
  refine za0 ?_
  refine o_q rfl rfl (za3 rfl) ?_
  refine o_q rfl rfl (q_nil rfl) ?_
  refine o_q rfl rfl (q_f F27_1 rfl) ?_
  refine o_q rfl rfl (q_ldb Y24 rfl (fun w h => B0.now Z h) rfl) ?_
  refine o_q rfl rfl (q_len Try.underlying24 rfl) ?_
  refine o_q rfl rfl (za3 rfl) ?_
  refine o_end ?_
  refine za1 ?_
  refine zaj ?_
  refine za7 h (fun o16 hl15 hR14 => ?_) rfl
  clear h
  refine c_fact (p := l0_1.length ≤ 9223372036854775807) (fun w h => (R0_1.now Z h).2.1) (fun hm13 => ?_)
  refine zax (σ := (List SStep) × (List Int) × Int × (Option Addr) × Nat) (fun k11 ((ys10, l5, i8, A6, c7) : (List SStep) × (List Int) × Int × (Option Addr) × Nat) => Rg l0_1 i8 ys10 ∧ ys10.length = k11 ∧ impl_run_int.l0 a2_c0_0 ys10 l5 i8 = some o16) [7, 9, 17, 18, 19, 20, 21, 22, 23, 24, 25, 26, 27, 28, 29, 30, 31, 32, 33, 34, 35, 36] (fun ((ys10, l5, i8, A6, c7) : (List SStep) × (List Int) × Int × (Option Addr) × Nat) => [(7, .slice A6 l5.length c7), (17, .int .i64 i8)]) (fun ((ys10, l5, i8, A6, c7) : (List SStep) × (List Int) × Int × (Option Addr) × Nat) => [row (Kd.int .i64) 3 (.slice A6 l5.length c7) l5]) l0_1.length (l0_1, l2, 0, A3, c4) ⟨Rg.start _, rfl, hl15⟩ ⟨rfl, rfl, trivial⟩ (fun w h => h) ?_
  refine fun k11 => cur5 (listC (fun l5 i8 A6 c7 U17 hJ_ => ?_) (fun y9 ys10 l5 i8 A6 c7 U17 hJ_ => ?_))
  · skip
    clear hl15
    have hr12 := hJ_.1; have hk18 := hJ_.2.1; have h := hJ_.2.2; clear hJ_
    replace h : impl_run_int.l0 a2_c0_0 [] l5 i8 = some o16 := h
    rw [impl_run_int.l0] at h
    refine c_seq ?_
    refine za0 ?_
    refine o_q rfl rfl (q_lss rfl rfl) ?_
    refine o_end ?_
    refine za1 ?_
    refine c_seq ?_
    refine zb2 (congrArg Value.bool hr12.ge) ?_
    refine zb4 ?_
    refine za5 ?_
    refine za5 ?_
    have e_ := Option.some.inj h; replace h := hR14; rw [← e_] at h; clear e_
    refine x_hit ?_
    refine za1 ?_
    refine c_seq ?_
    refine za0 ?_
    refine o_q rfl rfl (za3 rfl) ?_
    refine o_q rfl rfl (q_asg rfl) ?_
    refine o_end ?_
    refine za1 ?_
    refine c_ret ?_
    have e0_ := Option.some.inj h; clear h
    subst e0_
    exact x_r1 (A6, c7) Try.results92 (zai rfl) rfl (fun w h => za6 [0] (by decide) rfl w h)
  · skip
    clear hl15
    have hr12 := hJ_.1; have hk18 := hJ_.2.1; have h := hJ_.2.2; clear hJ_
    replace h : impl_run_int.l0 a2_c0_0 (y9 :: ys10) l5 i8 = some o16 := h
    rw [impl_run_int.l0] at h
    refine c_seq ?_
    refine za0 ?_
    refine o_q rfl rfl (q_lss rfl rfl) ?_
    refine o_end ?_
    refine za1 ?_
    refine c_seq ?_
    refine zb1 (congrArg Value.bool hr12.lt) ?_
    refine zan ?_
    refine za1 ?_
    refine c_seq ?_
    refine zaj ?_
    refine c_seq ?_
    refine za0 ?_
    refine zaz (p := Sh A0_1 l0_1.length l0_1.length) (fun w h => f_sh (dk := kStep) h (fun w h => R0_1.now Z h)) (fun hq19 => ?_)
    refine o_q rfl rfl (q_ix Try.underlying24 Z88 rfl rfl hq19 hr12.get) ?_
    refine o_q rfl rfl (q_ldE G88 Z88 rfl rfl (fun w h => R0_1.now Z h) hr12.get (fun _ _ h => h) rfl) ?_
    refine o_e rfl (zas V88 rfl) (fun g20 => ?_)
    refine o_e rfl (zaq (i := 0) rfl rfl rfl Z88 rfl rfl) (fun _ => ?_)
    refine o_end ?_
    refine za1 ?_
    refine za7 h (fun y325 hg324 h => ?_) rfl
    refine za7 h (fun y624 hg623 h => ?_) rfl
    refine za7 h (fun _ hx743 h => ?_) rfl
    refine za7 h (fun l863 ha864 h => ?_) rfl
    refine a_startS (ds := []) [some 0, none] MO rfl ?_
    refine za9 0 rfl rfl rfl (by kernel_rfl) (fun _ _ _ h => h) (za3 rfl) ?_
    refine za9 1 rfl rfl rfl (by kernel_rfl) (fun _ _ _ h => h) (za3 rfl) ?_
    refine za9 2 rfl rfl rfl (by kernel_rfl) (fun _ _ _ h => h) (za3 rfl) ?_
    refine za9 3 rfl rfl rfl (by kernel_rfl) (fun _ _ _ h => h) (q_f F88_0 rfl) ?_
    refine zb0 4 rfl rfl rfl (by kernel_rfl) (fun _ _ _ h => h) (fun w h => za8 [some 0, none] (by decide) w h rfl) (q_ldb Y3 rfl (fun w h => h.zae (i := 0) rfl) rfl) ?_
    refine a_fact (p := Sh A6 l5.length l5.length) (fun w h => f_sh (dk := (Kd.int .i64)) h (fun w h => h.zau (i := 1) rfl)) (fun hq323 => ?_)
    refine za9 5 rfl rfl rfl (by kernel_rfl) (fun _ _ _ h => h) (q_ix Try.underlying25 Z3 rfl rfl hq323 hg324) ?_
    refine za9 7 rfl rfl rfl (by kernel_rfl) (fun _ _ _ h => h) (za3 rfl) ?_
    refine za9 8 rfl rfl rfl (by kernel_rfl) (fun _ _ _ h => h) (q_f F88_1 rfl) ?_
    refine zb0 9 rfl rfl rfl (by kernel_rfl) (fun _ _ _ h => h) (fun w h => za8 [some 0, none] (by decide) w h rfl) (q_ldb Y3 rfl (fun w h => h.zae (i := 0) rfl) rfl) ?_
    refine za9 10 rfl rfl rfl (by kernel_rfl) (fun _ _ _ h => h) (q_ix Try.underlying25 Z3 rfl rfl hq323 hg623) ?_
    refine a_two 6 11 rfl rfl rfl rfl (by kernel_rfl) rfl rfl (ev_q rfl (q_lde (off := 0) Y3 rfl rfl (fun w h => h.zau (i := 1) rfl) hg324 (fun _ _ h => h) rfl)) (fun s w h => za8 [some 0, none] (by decide) w h rfl) (ev_q rfl (q_lde (off := 0) Y3 rfl rfl (fun w h => h.zau (i := 1) rfl) hg623 (fun _ _ h => h) rfl)) (fun s w h => za8 [some 0, none] (by decide) w h rfl) (fun _ => ?_) (fun _ => ?_)
    · skip
      refine a_one 11 rfl rfl (by kernel_rfl) rfl (ev_q rfl (q_lde (off := 0) Y3 rfl rfl (fun w h => h.zau (i := 1) rfl) hg623 (fun _ _ h => h) rfl)) (fun s w h => za8 [some 0, none] (by decide) w h rfl) (fun _ => ?_)
      refine a_one 12 rfl rfl (by kernel_rfl) rfl (zad 0 Z Try.func93 N93 rfl rfl rfl (fun w P1 hF hB hS hT => impl_RunResidues_1.calls y325 y624 g2_c0 a2_c0_0 hB hF (hS _ B2_c0) hx743)) (fun s w h => za8 [some 0, none] (by decide) w h rfl) (fun _ => ?_)
      refine a_one 13 rfl rfl (by kernel_rfl) rfl (e_lit (vs := [(0, .int .i64 ((w64 (y325 * y624)).tmod a2_c0_0))]) (cs := [.int .i64 ((w64 (y325 * y624)).tmod a2_c0_0)]) (Kd.int .i64) ([(w64 (y325 * y624)).tmod a2_c0_0] : List Int) Try.underlying25 I3 (by decide) rfl (by decide) rfl rfl (fun _ _ => Kd.zar _)) (fun s w h => za8 [some 1, none] (by decide) w h rfl) (cur2 (fun A803 c804 => ?_))
      refine a_one 14 rfl rfl (by kernel_rfl) rfl (e_app (i := 2) (j := 0) Try.underlying25 I3 rfl (by decide) (by decide) rfl rfl rfl rfl rfl ha864) (fun s w h => za8 [some 1, none] (by decide) w h rfl) (cur2 (fun A865 c866 => ?_))
      refine za9 15 rfl rfl rfl (by kernel_rfl) (fun _ _ _ h => h) (q_asg rfl) ?_
      refine zay (by kernel_rfl) ?_
      refine zam ?_
      refine za1 ?_
      refine za0 ?_
      refine o_q rfl rfl (q_up rfl rfl (hr12.up hm13)) ?_
      refine o_q rfl rfl (za3 rfl) ?_
      refine o_end ?_
      refine zak ys10.length (ys10, l863, i8 + 1, A865, c866) (by rw [← hk18]; exact Nat.lt_succ_self _) ⟨hr12.step, rfl, h⟩ ⟨rfl, rfl, trivial⟩ (fun w h => za6 [2] (by decide) rfl w h) ?_
      repeat (first | exact zab _ _ | refine zaf rfl ?_ | refine zac rfl ?_ | refine zah rfl ?_)
    · skip
      refine a_one 6 rfl rfl (by kernel_rfl) rfl (ev_q rfl (q_lde (off := 0) Y3 rfl rfl (fun w h => h.zau (i := 1) rfl) hg324 (fun _ _ h => h) rfl)) (fun s w h => za8 [some 0, none] (by decide) w h rfl) (fun _ => ?_)
      refine a_one 12 rfl rfl (by kernel_rfl) rfl (zad 0 Z Try.func93 N93 rfl rfl rfl (fun w P1 hF hB hS hT => impl_RunResidues_1.calls y325 y624 g2_c0 a2_c0_0 hB hF (hS _ B2_c0) hx743)) (fun s w h => za8 [some 0, none] (by decide) w h rfl) (fun _ => ?_)
      refine a_one 13 rfl rfl (by kernel_rfl) rfl (e_lit (vs := [(0, .int .i64 ((w64 (y325 * y624)).tmod a2_c0_0))]) (cs := [.int .i64 ((w64 (y325 * y624)).tmod a2_c0_0)]) (Kd.int .i64) ([(w64 (y325 * y624)).tmod a2_c0_0] : List Int) Try.underlying25 I3 (by decide) rfl (by decide) rfl rfl (fun _ _ => Kd.zar _)) (fun s w h => za8 [some 1, none] (by decide) w h rfl) (cur2 (fun A803 c804 => ?_))
      refine a_one 14 rfl rfl (by kernel_rfl) rfl (e_app (i := 2) (j := 0) Try.underlying25 I3 rfl (by decide) (by decide) rfl rfl rfl rfl rfl ha864) (fun s w h => za8 [some 1, none] (by decide) w h rfl) (cur2 (fun A865 c866 => ?_))
      refine za9 15 rfl rfl rfl (by kernel_rfl) (fun _ _ _ h => h) (q_asg rfl) ?_
      refine zay (by kernel_rfl) ?_
      refine zam ?_
      refine za1 ?_
      refine za0 ?_
      refine o_q rfl rfl (q_up rfl rfl (hr12.up hm13)) ?_
      refine o_q rfl rfl (za3 rfl) ?_
      refine o_end ?_
      refine zak ys10.length (ys10, l863, i8 + 1, A865, c866) (by rw [← hk18]; exact Nat.lt_succ_self _) ⟨hr12.step, rfl, h⟩ ⟨rfl, rfl, trivial⟩ (fun w h => za6 [2] (by decide) rfl w h) ?_
      repeat (first | exact zab _ _ | refine zaf rfl ?_ | refine zac rfl ?_ | refine zah rfl ?_)

/-! ### loop.example/g01098/impl.outputsOf[int]: function 91 -/
def impl_outputsOf_int.l0 (l1 : List Int) : (List Int) → (List Int) → Int → Option (List Int)
  | [], l5, i8 => some l5
  | y9 :: ys10, l5, i8 => (gt l1 y9).bind fun y22 => (ap l5 ([y22] : List Int)).bind fun l26 => impl_outputsOf_int.l0 l1 ys10 l26 (i8 + 1)
def impl_outputsOf_int.f (a0_0 : Int) (l0_1 : List SStep) (l0_2 : List Int) (l1 : List Int) : Option (List Int) := (impl_outputsOf_int.l0 l1 l0_2 ([] : List Int) 0).bind fun l5 => some l5
set_option maxHeartbeats 600000 in
set_option maxRecDepth 100000 in
theorem impl_outputsOf_int.calls {w0 ws : World} {P0 : Nat → Prop} (g0 : Nat) (a0_0 : Int) (A0_1 : Option Addr) (c0_1 : Nat) (n0_1 : Nat) (l0_1 : List SStep) (A0_2 : Option Addr) (c0_2 : Nat) (n0_2 : Nat) (l0_2 : List Int) (A1 : Option Addr) (c1 : Nat) (n1 : Nat) (l1 : List Int) (Z : Below w0.heap.size w0 ws) (hF : Fr w0 ws P0 [] ws) (R0_1 : Stable ws P0 (fun w => Kd.C kStep w A0_1 n0_1 l0_1)) (hc0_1 : n0_1 ≤ c0_1) (R0_2 : Stable ws P0 (fun w => Kd.C (Kd.int .i64) w A0_2 n0_2 l0_2)) (hc0_2 : n0_2 ≤ c0_2) (B0 : Stable ws P0 (fun w => w.heap[g0]? = some (.cells #[.int .i64 a0_0, .slice A0_1 n0_1 c0_1, .slice A0_2 n0_2 c0_2] 27 (0, 0)))) (R1 : Stable ws P0 (fun w => Kd.C (Kd.int .i64) w A1 n1 l1)) (hc1 : n1 ≤ c1) (r_1 : List Int) (h : impl_outputsOf_int.f a0_0 l0_1 l0_2 l1 = some r_1) :
    Calls Try.prog 91 #[.pointer (some ⟨g0, 0, none⟩), .slice A1 n1 c1] ws (Post1 w0 ws P0 (fun ((q_2, q_3) : (Option Addr) × Nat) => .slice q_2 r_1.length q_3) (fun ((q_2, q_3) : (Option Addr) × Nat) => [row (Kd.int .i64) 3 (.slice q_2 r_1.length q_3) r_1])) := by
  unfold impl_outputsOf_int.f at h
  obtain rfl := (R0_1 ws (KeptB.refl _ _)).1
  obtain rfl := (R0_2 ws (KeptB.refl _ _)).1
  obtain rfl := (R1 ws (KeptB.refl _ _)).1
  refine enter Try.func91 rfl Try.ntmps91 rfl hF ?_
  refine c_seq ?_
  refine za0 ?_
  refine o_q rfl rfl (q_asg rfl) ?_
  refine o_end ?_
  refine za1 ?_
  refine c_seq ?_
  refine za0 ?_
  refine o_e rfl (e_lit0 (Kd.int .i64) Try.underlying25 I3) (cur2 (fun A2 c3 => ?_))
  refine o_q rfl rfl (q_asg rfl) ?_
  refine o_end ?_
  refine za1 ?_
  refine c_seq ?_
  refine c_seq ?_
  refine za0 ?_
  refine o_q rfl rfl (za3 rfl) ?_
  refine o_q rfl rfl (q_nil rfl) ?_
  refine o_q rfl rfl (q_f F27_2 rfl) ?_
  refine o_q rfl rfl (q_ldb Y25 rfl (fun w h => B0.now Z h) rfl) ?_
  refine o_q rfl rfl (q_len Try.underlying25 rfl) ?_
  refine o_q rfl rfl (za3 rfl) ?_
  refine o_end ?_
  refine za1 ?_
  refine zaj ?_
  refine za7 h (fun o16 hl15 hR14 => ?_) rfl
  clear h
  refine c_fact (p := l0_2.length ≤ 9223372036854775807) (fun w h => (R0_2.now Z h).2.1) (fun hm13 => ?_)
  refine zax (σ := (List Int) × (List Int) × Int × (Option Addr) × Nat) (fun k11 ((ys10, l5, i8, A6, c7) : (List Int) × (List Int) × Int × (Option Addr) × Nat) => Rg l0_2 i8 ys10 ∧ ys10.length = k11 ∧ impl_outputsOf_int.l0 l1 ys10 l5 i8 = some o16) [5, 7, 14, 15, 16, 17, 18, 19, 20, 21, 22, 23, 24, 25] (fun ((ys10, l5, i8, A6, c7) : (List Int) × (List Int) × Int × (Option Addr) × Nat) => [(5, .slice A6 l5.length c7), (14, .int .i64 i8)]) (fun ((ys10, l5, i8, A6, c7) : (List Int) × (List Int) × Int × (Option Addr) × Nat) => [row (Kd.int .i64) 3 (.slice A6 l5.length c7) l5]) l0_2.length (l0_2, ([] : List Int), 0, A2, c3) ⟨Rg.start _, rfl, hl15⟩ ⟨rfl, rfl, trivial⟩ (fun w h => h) ?_
  refine fun k11 => cur5 (listC (fun l5 i8 A6 c7 U17 hJ_ => ?_) (fun y9 ys10 l5 i8 A6 c7 U17 hJ_ => ?_))
  · skip
    clear hl15
    have hr12 := hJ_.1; have hk18 := hJ_.2.1; have h := hJ_.2.2; clear hJ_
    replace h : impl_outputsOf_int.l0 l1 [] l5 i8 = some o16 := h
    rw [impl_outputsOf_int.l0] at h
    refine c_seq ?_
    refine za0 ?_
    refine o_q rfl rfl (q_lss rfl rfl) ?_
    refine o_end ?_
    refine za1 ?_
    refine c_seq ?_
    refine zb2 (congrArg Value.bool hr12.ge) ?_
    refine zb4 ?_
    refine za5 ?_
    refine za5 ?_
    have e_ := Option.some.inj h; replace h := hR14; rw [← e_] at h; clear e_
    refine x_hit ?_
    refine za1 ?_
    refine c_seq ?_
    refine za0 ?_
    refine o_q rfl rfl (za3 rfl) ?_
    refine o_q rfl rfl (q_asg rfl) ?_
    refine o_end ?_
    refine za1 ?_
    refine c_ret ?_
    have e0_ := Option.some.inj h; clear h
    subst e0_
    exact x_r1 (A6, c7) Try.results91 (zai rfl) rfl (fun w h => za6 [0] (by decide) rfl w h)
  · skip
    clear hl15
    have hr12 := hJ_.1; have hk18 := hJ_.2.1; have h := hJ_.2.2; clear hJ_
    replace h : impl_outputsOf_int.l0 l1 (y9 :: ys10) l5 i8 = some o16 := h
    rw [impl_outputsOf_int.l0] at h
    refine c_seq ?_
    refine za0 ?_
    refine o_q rfl rfl (q_lss rfl rfl) ?_
    refine o_end ?_
    refine za1 ?_
    refine c_seq ?_
    refine zb1 (congrArg Value.bool hr12.lt) ?_
    refine zan ?_
    refine za1 ?_
    refine c_seq ?_
    refine zaj ?_
    refine c_seq ?_
    refine za0 ?_
    refine zaz (p := Sh A0_2 l0_2.length l0_2.length) (fun w h => f_sh (dk := (Kd.int .i64)) h (fun w h => R0_2.now Z h)) (fun hq19 => ?_)
    refine o_q rfl rfl (q_ix Try.underlying25 Z3 rfl rfl hq19 hr12.get) ?_
    refine o_q rfl rfl (q_lde (off := 0) Y3 rfl rfl (fun w h => R0_2.now Z h) hr12.get (fun _ _ h => h) rfl) ?_
    refine o_q rfl rfl (q_asg rfl) ?_
    refine o_end ?_
    refine za1 ?_
    refine za0 ?_
    refine o_q rfl rfl (za3 rfl) ?_
    refine o_q rfl rfl (za3 rfl) ?_
    refine o_q rfl rfl (za3 rfl) ?_
    refine zaz (p := Sh A1 l1.length l1.length) (fun w h => f_sh (dk := (Kd.int .i64)) h (fun w h => R1.now Z h)) (fun hq20 => ?_)
    refine za7 h (fun y22 hg21 h => ?_) rfl
    refine o_q rfl rfl (q_ix Try.underlying25 Z3 rfl rfl hq20 hg21) ?_
    refine o_q rfl rfl (q_lde (off := 0) Y3 rfl rfl (fun w h => R1.now Z h) hg21 (fun _ _ h => h) rfl) ?_
    refine o_e rfl (e_lit (vs := [(0, .int .i64 y22)]) (cs := [.int .i64 y22]) (Kd.int .i64) ([y22] : List Int) Try.underlying25 I3 (by decide) rfl (by decide) rfl rfl (fun _ _ => Kd.zar _)) (cur2 (fun A23 c24 => ?_))
    refine za7 h (fun l26 ha27 h => ?_) rfl
    refine o_e rfl (e_app (i := 1) (j := 0) Try.underlying25 I3 rfl (by decide) (by decide) rfl rfl rfl rfl rfl ha27) (cur2 (fun A28 c29 => ?_))
    refine o_q rfl rfl (q_asg rfl) ?_
    refine o_end ?_
    refine zam ?_
    refine za1 ?_
    refine za0 ?_
    refine o_q rfl rfl (q_up rfl rfl (hr12.up hm13)) ?_
    refine o_q rfl rfl (za3 rfl) ?_
    refine o_end ?_
    refine zak ys10.length (ys10, l26, i8 + 1, A28, c29) (by rw [← hk18]; exact Nat.lt_succ_self _) ⟨hr12.step, rfl, h⟩ ⟨rfl, rfl, trivial⟩ (fun w h => za6 [1] (by decide) rfl w h) ?_
    repeat (first | exact zab _ _ | refine zaf rfl ?_ | refine zac rfl ?_ | refine zah rfl ?_)

/-! ### loop.example/g01098/impl.RunResidues: function 35 -/
def impl_RunResidues.f (k : Nat) (a0_0 : Int) (l0_1 : List SStep) (l0_2 : List Int) (a1 : Int) (l2 : List Int) : Option ((List Int) × Bool) := (impl_IsPlan.f k a0_0 l0_1 l0_2).bind fun b6 => if b6 = true then (if (l2.length : Int) ≠ a0_0 then (some (([] : List Int), false)) else ((impl_residuesOk.f l2 a1).bind fun b10 => if b10 = true then ((impl_run_int.f a0_0 l0_1 l0_2 l2 a1).bind fun l13 => (impl_outputsOf_int.f a0_0 l0_1 l0_2 l13).bind fun l17 => some (l17, true)) else (some (([] : List Int), false)))) else (some (([] : List Int), false))
set_option maxHeartbeats 600000 in
set_option maxRecDepth 100000 in
theorem impl_RunResidues.calls (k : Nat) {w0 ws : World} {P0 : Nat → Prop} (a0_0 : Int) (A0_1 : Option Addr) (c0_1 : Nat) (n0_1 : Nat) (l0_1 : List SStep) (A0_2 : Option Addr) (c0_2 : Nat) (n0_2 : Nat) (l0_2 : List Int) (a1 : Int) (A2 : Option Addr) (c2 : Nat) (n2 : Nat) (l2 : List Int) (Z : Below w0.heap.size w0 ws) (hF : Fr w0 ws P0 [] ws) (R0_1 : Stable ws P0 (fun w => Kd.C kStep w A0_1 n0_1 l0_1)) (hc0_1 : n0_1 ≤ c0_1) (R0_2 : Stable ws P0 (fun w => Kd.C (Kd.int .i64) w A0_2 n0_2 l0_2)) (hc0_2 : n0_2 ≤ c0_2) (R2 : Stable ws P0 (fun w => Kd.C (Kd.int .i64) w A2 n2 l2)) (hc2 : n2 ≤ c2) (r_1 : List Int) (r_4 : Bool) (h : impl_RunResidues.f k a0_0 l0_1 l0_2 a1 l2 = some (r_1, r_4)) :
    Calls Try.prog 35 #[.agg #[.int .i64 a0_0, .slice A0_1 n0_1 c0_1, .slice A0_2 n0_2 c0_2], .int .i64 a1, .slice A2 n2 c2] ws (Post1 w0 ws P0 (fun ((q_2, q_3) : (Option Addr) × Nat) => .tuple #[.slice q_2 r_1.length q_3, .bool r_4]) (fun ((q_2, q_3) : (Option Addr) × Nat) => [row (Kd.int .i64) 3 (.slice q_2 r_1.length q_3) r_1])) := by
  unfold impl_RunResidues.f at h
  obtain rfl := (R0_1 ws (KeptB.refl _ _)).1
  obtain rfl := (R0_2 ws (KeptB.refl _ _)).1
  obtain rfl := (R2 ws (KeptB.refl _ _)).1
  refine enter Try.func35 rfl Try.ntmps35 rfl hF ?_
  refine c_seq ?_
  refine za0 ?_
  refine o_e rfl (e_box rfl) (fun g1 => ?_)
  refine o_e rfl (e_box rfl) (fun g3 => ?_)
  refine o_q rfl rfl (q_asg rfl) ?_
  refine o_q rfl rfl (q_asg rfl) ?_
  refine o_end ?_
  refine za1 ?_
  refine c_seq ?_
  refine c_seq ?_
  refine za0 ?_
  refine o_q rfl rfl (q_ldB G27 Z27 rfl (fun w h => h.zae (i := 1) rfl) rfl) ?_
  refine za7 h (fun b6 hx5 h => ?_) rfl
  refine o_e rfl (zad 0 Z Try.func67 N67 rfl rfl rfl (fun w P1 hF hB hS hT => impl_IsPlan.calls k a0_0 A0_1 c0_1 l0_1.length l0_1 A0_2 c0_2 l0_2.length l0_2 hB hF (hS _ R0_1) hc0_1 (hS _ R0_2) hc0_2 _ hx5)) (fun _ => ?_)
  refine o_q rfl rfl (q_not rfl) ?_
  refine o_q rfl rfl (za3 rfl) ?_
  refine byB b6 (fun hb7 => ?_) (fun hb7 => ?_)
  · replace h := bb_t hb7 h
    refine o_w (za4 rfl rfl rfl (congrArg (fun b => Value.bool (!(b))) hb7)) rfl (za3 rfl) ?_
    refine o_w (za4 rfl rfl rfl (congrArg (fun b => Value.bool (!(b))) hb7)) rfl (q_len Try.underlying25 rfl) ?_
    refine o_w (za4 rfl rfl rfl (congrArg (fun b => Value.bool (!(b))) hb7)) rfl (q_f F27_0 rfl) ?_
    refine o_w (za4 rfl rfl rfl (congrArg (fun b => Value.bool (!(b))) hb7)) rfl (q_ldb Y3 rfl (fun w h => h.zae (i := 1) rfl) rfl) ?_
    refine o_w (za4 rfl rfl rfl (congrArg (fun b => Value.bool (!(b))) hb7)) rfl (q_neq rfl rfl) ?_
    refine o_q rfl rfl (zal false (congrArg (fun b => Value.bool (!(b))) hb7) rfl) ?_
    refine o_q rfl rfl (za3 rfl) ?_
    refine byB (decide ((l2.length : Int) ≠ a0_0)) (fun hb8 => ?_) (fun hb8 => ?_)
    · replace h := br_t hb8 h
      refine @o_n _ _ _ _ _ _ _ _ _ _ _ 19 (za2 rfl rfl rfl (congrArg Value.bool hb8) rfl) (Eq.refl (some 19)) ?_
      refine @o_n _ _ _ _ _ _ _ _ _ _ _ 20 (za2 rfl rfl rfl (congrArg Value.bool hb8) rfl) (Eq.refl (some 20)) ?_
      refine @o_n _ _ _ _ _ _ _ _ _ _ _ 21 (za2 rfl rfl rfl (congrArg Value.bool hb8) rfl) (Eq.refl (some 21)) ?_
      refine @o_n _ _ _ _ _ _ _ _ _ _ _ 22 (za2 rfl rfl rfl (congrArg Value.bool hb8) rfl) (Eq.refl (some 22)) ?_
      refine o_q rfl rfl (zal true (congrArg Value.bool hb8) rfl) ?_
      refine o_end ?_
      refine za1 ?_
      refine zb1 rfl ?_
      refine c_seq ?_
      refine za0 ?_
      refine o_q rfl rfl (q_asg rfl) ?_
      refine o_q rfl rfl (q_asg rfl) ?_
      refine o_end ?_
      refine za1 ?_
      refine c_ret ?_
      refine zaa ?_
      refine x_nil (Kd.int .i64) 3 ?_
      have e0_ := Option.some.inj h; clear h
      have d0_ := (Prod.mk.inj e0_).1; have e1_ := (Prod.mk.inj e0_).2; clear e0_; subst d0_
      subst e1_
      exact x_r2 (none, 0) Try.results35 (zai rfl) (zai rfl) rfl (fun w h => za6 [0] (by decide) rfl w h)
    · replace h := br_f hb8 h
      refine o_w (za4 rfl rfl rfl (congrArg Value.bool hb8)) rfl (za3 rfl) ?_
      refine o_w (za4 rfl rfl rfl (congrArg Value.bool hb8)) rfl (q_ldb Y3 rfl (fun w h => h.zae (i := 0) rfl) rfl) ?_
      refine za7 h (fun b10 hx9 h => ?_) rfl
      refine o_ew (za4 rfl rfl rfl (congrArg Value.bool hb8)) (zad 0 Z Try.func90 N90 rfl rfl rfl (fun w P1 hF hB hS hT => impl_residuesOk.calls A2 c2 l2.length l2 a1 hB hF (hS _ R2) hc2 _ hx9)) (fun _ => ?_)
      refine o_w (za4 rfl rfl rfl (congrArg Value.bool hb8)) rfl (q_not rfl) ?_
      refine o_q rfl rfl (zal false (congrArg Value.bool hb8) rfl) ?_
      refine o_end ?_
      refine za1 ?_
      refine zav _ rfl (fun hb11 => ?_) (fun hb11 => ?_)
      · replace hb11 := nt_t hb11
        replace h := bb_f hb11 h
        refine c_seq ?_
        refine za0 ?_
        refine o_q rfl rfl (q_asg rfl) ?_
        refine o_q rfl rfl (q_asg rfl) ?_
        refine o_end ?_
        refine za1 ?_
        refine c_ret ?_
        refine zaa ?_
        refine x_nil (Kd.int .i64) 3 ?_
        have e0_ := Option.some.inj h; clear h
        have d0_ := (Prod.mk.inj e0_).1; have e1_ := (Prod.mk.inj e0_).2; clear e0_; subst d0_
        subst e1_
        exact x_r2 (none, 0) Try.results35 (zai rfl) (zai rfl) rfl (fun w h => za6 [0] (by decide) rfl w h)
      · replace hb11 := nt_f hb11
        replace h := bb_t hb11 h
        refine zan ?_
        refine za1 ?_
        refine c_seq ?_
        refine za0 ?_
        refine o_q rfl rfl (za3 rfl) ?_
        refine o_q rfl rfl (q_func rfl rfl) ?_
        refine za7 h (fun l13 hx12 h => ?_) rfl
        refine o_e rfl (zad 0 Z Try.func92 N92 rfl rfl rfl (fun w P1 hF hB hS hT => impl_run_int.calls g1 a0_0 A0_1 c0_1 l0_1.length l0_1 A0_2 c0_2 l0_2.length l0_2 A2 c2 l2.length l2 g3 a1 hB hF (hS _ R0_1) hc0_1 (hS _ R0_2) hc0_2 (hT 1 _ rfl).box (hS _ R2) hc2 (hT 0 _ rfl).box _ hx12)) (cur2 (fun A14 c15 => ?_))
        refine za7 h (fun l17 hx16 h => ?_) rfl
        refine o_e rfl (zad 0 Z Try.func91 N91 rfl rfl rfl (fun w P1 hF hB hS hT => impl_outputsOf_int.calls g1 a0_0 A0_1 c0_1 l0_1.length l0_1 A0_2 c0_2 l0_2.length l0_2 A14 c15 l13.length l13 hB hF (hS _ R0_1) hc0_1 (hS _ R0_2) hc0_2 (hT 2 _ rfl).box (hT 0 _ rfl).row (hT 0 _ rfl).cap _ hx16)) (cur2 (fun A18 c19 => ?_))
        refine o_q rfl rfl (q_asg rfl) ?_
        refine o_q rfl rfl (q_asg rfl) ?_
        refine o_end ?_
        refine za1 ?_
        refine c_ret ?_
        have e0_ := Option.some.inj h; clear h
        have d0_ := (Prod.mk.inj e0_).1; have e1_ := (Prod.mk.inj e0_).2; clear e0_; subst d0_
        subst e1_
        exact x_r2 (A18, c19) Try.results35 (zai rfl) (zai rfl) rfl (fun w h => za6 [0] (by decide) rfl w h)
  · replace h := bb_f hb7 h
    refine @o_n _ _ _ _ _ _ _ _ _ _ _ 12 (za2 rfl rfl rfl (congrArg (fun b => Value.bool (!(b))) hb7) rfl) (Eq.refl (some 12)) ?_
    refine @o_n _ _ _ _ _ _ _ _ _ _ _ 13 (za2 rfl rfl rfl (congrArg (fun b => Value.bool (!(b))) hb7) rfl) (Eq.refl (some 13)) ?_
    refine @o_n _ _ _ _ _ _ _ _ _ _ _ 14 (za2 rfl rfl rfl (congrArg (fun b => Value.bool (!(b))) hb7) rfl) (Eq.refl (some 14)) ?_
    refine @o_n _ _ _ _ _ _ _ _ _ _ _ 15 (za2 rfl rfl rfl (congrArg (fun b => Value.bool (!(b))) hb7) rfl) (Eq.refl (some 15)) ?_
    refine @o_n _ _ _ _ _ _ _ _ _ _ _ 16 (za2 rfl rfl rfl (congrArg (fun b => Value.bool (!(b))) hb7) rfl) (Eq.refl (some 16)) ?_
    refine o_q rfl rfl (zal true (congrArg (fun b => Value.bool (!(b))) hb7) rfl) ?_
    refine o_q rfl rfl (za3 rfl) ?_
    refine @o_n _ _ _ _ _ _ _ _ _ _ _ 19 (za2 rfl rfl rfl rfl rfl) (Eq.refl (some 19)) ?_
    refine @o_n _ _ _ _ _ _ _ _ _ _ _ 20 (za2 rfl rfl rfl rfl rfl) (Eq.refl (some 20)) ?_
    refine @o_n _ _ _ _ _ _ _ _ _ _ _ 21 (za2 rfl rfl rfl rfl rfl) (Eq.refl (some 21)) ?_
    refine @o_n _ _ _ _ _ _ _ _ _ _ _ 22 (za2 rfl rfl rfl rfl rfl) (Eq.refl (some 22)) ?_
    refine o_q rfl rfl (zal true rfl rfl) ?_
    refine o_end ?_
    refine za1 ?_
    refine zb1 rfl ?_
    refine c_seq ?_
    refine za0 ?_
    refine o_q rfl rfl (q_asg rfl) ?_
    refine o_q rfl rfl (q_asg rfl) ?_
    refine o_end ?_
    refine za1 ?_
    refine c_ret ?_
    refine zaa ?_
    refine x_nil (Kd.int .i64) 3 ?_
    have e0_ := Option.some.inj h; clear h
    have d0_ := (Prod.mk.inj e0_).1; have e1_ := (Prod.mk.inj e0_).2; clear e0_; subst d0_
    subst e1_
    exact x_r2 (none, 0) Try.results35 (zai rfl) (zai rfl) rfl (fun w h => za6 [0] (by decide) rfl w h)

/-! ### loop.example/g01098/impl.RunRegCode: function 34 -/
def impl_RunRegCode.f (k : Nat) (a0_0 : Int) (l0_1 : List Int) (l0_2 : List SRegOp) (l0_3 : List Int) (a1 : Int) (l2 : List Int) : Option ((List Int) × Bool) := (impl_RegCode_plan.f k a0_0 l0_1 l0_2 l0_3).bind fun (i4, l5, l6, b7) => if b7 = true then ((impl_RunResidues.f k i4 l5 l6 a1 l2).bind fun (l16, b17) => some (l16, b17)) else (some (([] : List Int), false))
set_option maxHeartbeats 600000 in
set_option maxRecDepth 100000 in
theorem impl_RunRegCode.calls (k : Nat) {w0 ws : World} {P0 : Nat → Prop} (a0_0 : Int) (A0_1 : Option Addr) (c0_1 : Nat) (n0_1 : Nat) (l0_1 : List Int) (A0_2 : Option Addr) (c0_2 : Nat) (n0_2 : Nat) (l0_2 : List SRegOp) (A0_3 : Option Addr) (c0_3 : Nat) (n0_3 : Nat) (l0_3 : List Int) (a1 : Int) (A2 : Option Addr) (c2 : Nat) (n2 : Nat) (l2 : List Int) (Z : Below w0.heap.size w0 ws) (hF : Fr w0 ws P0 [] ws) (R0_1 : Stable ws P0 (fun w => Kd.C (Kd.int .i64) w A0_1 n0_1 l0_1)) (hc0_1 : n0_1 ≤ c0_1) (R0_2 : Stable ws P0 (fun w => Kd.C kRegOp w A0_2 n0_2 l0_2)) (hc0_2 : n0_2 ≤ c0_2) (R0_3 : Stable ws P0 (fun w => Kd.C (Kd.int .i64) w A0_3 n0_3 l0_3)) (hc0_3 : n0_3 ≤ c0_3) (R2 : Stable ws P0 (fun w => Kd.C (Kd.int .i64) w A2 n2 l2)) (hc2 : n2 ≤ c2) (r_1 : List Int) (r_4 : Bool) (h : impl_RunRegCode.f k a0_0 l0_1 l0_2 l0_3 a1 l2 = some (r_1, r_4)) :
    Calls Try.prog 34 #[.agg #[.int .i64 a0_0, .slice A0_1 n0_1 c0_1, .slice A0_2 n0_2 c0_2, .slice A0_3 n0_3 c0_3], .int .i64 a1, .slice A2 n2 c2] ws (Post1 w0 ws P0 (fun ((q_2, q_3) : (Option Addr) × Nat) => .tuple #[.slice q_2 r_1.length q_3, .bool r_4]) (fun ((q_2, q_3) : (Option Addr) × Nat) => [row (Kd.int .i64) 3 (.slice q_2 r_1.length q_3) r_1])) := by
  unfold impl_RunRegCode.f at h
  obtain rfl := (R0_1 ws (KeptB.refl _ _)).1
  obtain rfl := (R0_2 ws (KeptB.refl _ _)).1
  obtain rfl := (R0_3 ws (KeptB.refl _ _)).1
  obtain rfl := (R2 ws (KeptB.refl _ _)).1
  refine enter Try.func34 rfl Try.ntmps34 rfl hF ?_
  refine c_seq ?_
  refine za0 ?_
  refine o_e rfl (e_box rfl) (fun g1 => ?_)
  refine o_q rfl rfl (q_asg rfl) ?_
  refine o_q rfl rfl (q_asg rfl) ?_
  refine o_end ?_
  refine za1 ?_
  refine c_seq ?_
  refine za0 ?_
  refine bindE4 h (fun i4 l5 l6 b7 hx3 h => ?_) rfl
  refine o_e rfl (zad 0 Z Try.func88 N88 rfl rfl rfl (fun w P1 hF hB hS hT => impl_RegCode_plan.calls k g1 a0_0 A0_1 c0_1 l0_1.length l0_1 A0_2 c0_2 l0_2.length l0_2 A0_3 c0_3 l0_3.length l0_3 hB hF (hS _ R0_1) hc0_1 (hS _ R0_2) hc0_2 (hS _ R0_3) hc0_3 (hT 0 _ rfl).box _ _ _ _ hx3)) (cur4 (fun A8 c9 A10 c11 => ?_))
  refine o_q rfl rfl (za3 rfl) ?_
  refine o_q rfl rfl (q_ext rfl rfl) ?_
  refine o_q rfl rfl (q_ext rfl rfl) ?_
  refine o_e rfl (zas V27 rfl) (fun g12 => ?_)
  refine o_e rfl (zaq (i := 0) rfl rfl rfl Z27 rfl rfl) (fun _ => ?_)
  refine o_q rfl rfl (q_asg rfl) ?_
  refine o_end ?_
  refine za1 ?_
  refine c_seq ?_
  refine c_seq ?_
  refine za0 ?_
  refine o_q rfl rfl (za3 rfl) ?_
  refine o_q rfl rfl (q_not rfl) ?_
  refine o_end ?_
  refine za1 ?_
  refine zav _ rfl (fun hb14 => ?_) (fun hb14 => ?_)
  · replace hb14 := nt_t hb14
    replace h := bb_f hb14 h
    refine c_seq ?_
    refine za0 ?_
    refine o_q rfl rfl (q_asg rfl) ?_
    refine o_q rfl rfl (q_asg rfl) ?_
    refine o_end ?_
    refine za1 ?_
    refine c_ret ?_
    refine zaa ?_
    refine x_nil (Kd.int .i64) 3 ?_
    have e0_ := Option.some.inj h; clear h
    have d0_ := (Prod.mk.inj e0_).1; have e1_ := (Prod.mk.inj e0_).2; clear e0_; subst d0_
    subst e1_
    exact x_r2 (none, 0) Try.results34 (zai rfl) (zai rfl) rfl (fun w h => za6 [0] (by decide) rfl w h)
  · replace hb14 := nt_f hb14
    replace h := bb_t hb14 h
    refine zan ?_
    refine za1 ?_
    refine c_seq ?_
    refine za0 ?_
    refine o_q rfl rfl (q_ldB G27 Z27 rfl (fun w h => h.zae (i := 0) rfl) rfl) ?_
    refine o_q rfl rfl (za3 rfl) ?_
    refine o_q rfl rfl (za3 rfl) ?_
    refine bindE2 h (fun l16 b17 hx15 h => ?_) rfl
    refine o_e rfl (zad 0 Z Try.func35 N35 rfl rfl rfl (fun w P1 hF hB hS hT => impl_RunResidues.calls k i4 A8 c9 l5.length l5 A10 c11 l6.length l6 a1 A2 c2 l2.length l2 hB hF (hT 1 _ rfl).row (hT 1 _ rfl).cap (hT 2 _ rfl).row (hT 2 _ rfl).cap (hS _ R2) hc2 _ _ hx15)) (cur2 (fun A18 c19 => ?_))
    refine o_q rfl rfl (q_ext rfl rfl) ?_
    refine o_q rfl rfl (q_ext rfl rfl) ?_
    refine o_q rfl rfl (q_asg rfl) ?_
    refine o_q rfl rfl (q_asg rfl) ?_
    refine o_end ?_
    refine za1 ?_
    refine c_ret ?_
    have e0_ := Option.some.inj h; clear h
    have d0_ := (Prod.mk.inj e0_).1; have e1_ := (Prod.mk.inj e0_).2; clear e0_; subst d0_
    subst e1_
    exact x_r2 (A18, c19) Try.results34 (zai rfl) (zai rfl) rfl (fun w h => za6 [0] (by decide) rfl w h)

/-! ### loop.example/g01098/laws.FnAllocatedCode: function 5 -/
def laws_FnAllocatedCode.l0 (i5 : Int) (i81 : Int) : Nat → (List Int) → Int → Option (List Int)
  | 0, _, _ => none
  | k89 + 1, l83, i86 => if i86 < i5 then ((ap l83 ([(w64 (w64 (i81 + (w64 (w64 (5 * i86) * i86))) + i86)).tmod 97] : List Int)).bind fun l101 => laws_FnAllocatedCode.l0 i5 i81 k89 l101 (w64 (i86 + 1))) else (some l83)
def laws_FnAllocatedCode.f (k : Nat) (l0 : List Int) (l1 : List Int) : Option Bool := (laws_big.f l0 l1).bind fun b2 => if b2 = true then (some true) else ((spec_DrawAllocatePlan.f k l0).bind fun (i5, l6, l7) => (impl_AllocatePlan.f k i5 l6 l7).bind fun (i15, l16, l17, l18, b19) => (spec_AllocatePlan.f k i5 l6 l7).bind fun (i29, l30, l31, l32, b33) => if (b19 != b33) = true then (some false) else ((laws_rSameCode.f i15 l16 l17 l18 i29 l30 l31 l32).bind fun b44 => if b44 = true then ((impl_PressureOf.f k i5 l6 l7).bind fun (i47, b48) => (spec_PressureOf.f k i5 l6 l7).bind fun (i50, b51) => if (b48 != b51) = true then (some false) else (if i47 ≠ i50 then (some false) else (if (b48 != b19) = true then (some false) else (if b19 = true then ((impl_RegCodePlan.f k i15 l16 l17 l18).bind fun (i57, l58, l59, b60) => (impl_CheckRegCode.f k i15 l16 l17 l18 i5 l6 l7).bind fun (b68, b69) => if b60 = true then ((laws_rSamePlan.f i57 l58 l59 i5 l6 l7).bind fun b72 => if b72 = true then (if b69 = true then (if b68 = true then (if i15 ≠ i47 then (some false) else ((impl_IsRegCode.f k i15 l16 l17 l18).bind fun b78 => if b78 = true then ((laws_numberOf.f l1).bind fun i81 => (laws_FnAllocatedCode.l0 i5 i81 k ([] : List Int) 0).bind fun l83 => (impl_RunRegCode.f k i15 l16 l17 l18 97 l83).bind fun (l106, b107) => (impl_RunResidues.f k i5 l6 l7 97 l83).bind fun (l111, b112) => if b107 = true then (if b112 = true then ((laws_rSame.f l106 l111).bind fun b118 => some b118) else (some false)) else (some false)) else (some false))) else (some false)) else (some false)) else (some false)) else (some false)) else (some true))))) else (some false)))
set_option maxHeartbeats 600000 in
set_option maxRecDepth 100000 in
theorem laws_FnAllocatedCode.calls (k : Nat) {w0 ws : World} {P0 : Nat → Prop} (A0 : Option Addr) (c0 : Nat) (n0 : Nat) (l0 : List Int) (A1 : Option Addr) (c1 : Nat) (n1 : Nat) (l1 : List Int) (Z : Below w0.heap.size w0 ws) (hF : Fr w0 ws P0 [] ws) (R0 : Stable ws P0 (fun w => Kd.C (Kd.int .u8) w A0 n0 l0)) (hc0 : n0 ≤ c0) (R1 : Stable ws P0 (fun w => Kd.C (Kd.int .u8) w A1 n1 l1)) (hc1 : n1 ≤ c1) (r_1 : Bool) (h : laws_FnAllocatedCode.f k l0 l1 = some r_1) :
    Calls Try.prog 5 #[.slice A0 n0 c0, .slice A1 n1 c1] ws (Post1 w0 ws P0 (fun (_ : Unit) => .bool r_1) (fun (_ : Unit) => [])) := by
  unfold laws_FnAllocatedCode.f at h
  obtain rfl := (R0 ws (KeptB.refl _ _)).1
  obtain rfl := (R1 ws (KeptB.refl _ _)).1
  refine enter Try.func5 rfl Try.ntmps5 rfl hF ?_
  refine c_seq ?_
  refine za0 ?_
  refine o_q rfl rfl (q_asg rfl) ?_
  refine o_end ?_
  refine za1 ?_
  refine c_seq ?_
  refine c_seq ?_
  refine za0 ?_
  refine o_q rfl rfl (za3 rfl) ?_
  refine o_q rfl rfl (za3 rfl) ?_
  refine za7 h (fun b2 hx1 h => ?_) rfl
  refine o_e rfl (zad 0 Z Try.func8 N8 rfl rfl rfl (fun w P1 hF hB hS hT => laws_big.calls A0 c0 l0.length l0 A1 c1 l1.length l1 hB hF (hS _ R0) hc0 (hS _ R1) hc1 _ hx1)) (fun _ => ?_)
  refine o_end ?_
  refine za1 ?_
  refine zav _ rfl (fun hb3 => ?_) (fun hb3 => ?_)
  · skip
    replace h := bb_t hb3 h
    refine c_seq ?_
    refine za0 ?_
    refine o_q rfl rfl (q_asg rfl) ?_
    refine o_end ?_
    refine za1 ?_
    refine c_ret ?_
    refine zaa ?_
    have e0_ := Option.some.inj h; clear h
    subst e0_
    exact x_r1 () Try.results5 (zai rfl) rfl (fun w h => za6 [] (by decide) rfl w h)
  · skip
    replace h := bb_f hb3 h
    refine zan ?_
    refine za1 ?_
    refine c_seq ?_
    refine za0 ?_
    refine o_q rfl rfl (za3 rfl) ?_
    refine bindE3 h (fun i5 l6 l7 hx4 h => ?_) rfl
    refine o_e rfl (zad 0 Z Try.func24 N24 rfl rfl rfl (fun w P1 hF hB hS hT => spec_DrawAllocatePlan.calls k A0 c0 l0.length l0 hB hF (hS _ R0) hc0 _ _ _ hx4)) (cur4 (fun A8 c9 A10 c11 => ?_))
    refine o_e rfl (zas V27 rfl) (fun g12 => ?_)
    refine o_e rfl (zaq (i := 0) rfl rfl rfl Z27 rfl rfl) (fun _ => ?_)
    refine o_end ?_
    refine za1 ?_
    refine c_seq ?_
    refine za0 ?_
    refine o_q rfl rfl (q_ldB G27 Z27 rfl (fun w h => h.zae (i := 0) rfl) rfl) ?_
    refine bindE5 h (fun i15 l16 l17 l18 b19 hx14 h => ?_) rfl
    refine o_e rfl (zad 0 Z Try.func25 N25 rfl rfl rfl (fun w P1 hF hB hS hT => impl_AllocatePlan.calls k i5 A8 c9 l6.length l6 A10 c11 l7.length l7 hB hF (hT 1 _ rfl).row (hT 1 _ rfl).cap (hT 2 _ rfl).row (hT 2 _ rfl).cap _ _ _ _ _ hx14)) (cur6 (fun A20 c21 A22 c23 A24 c25 => ?_))
    refine o_q rfl rfl (za3 rfl) ?_
    refine o_q rfl rfl (q_ext rfl rfl) ?_
    refine o_q rfl rfl (q_ext rfl rfl) ?_
    refine o_e rfl (zas V43 rfl) (fun g26 => ?_)
    refine o_e rfl (zaq (i := 0) rfl rfl rfl Z43 rfl rfl) (fun _ => ?_)
    refine o_q rfl rfl (q_asg rfl) ?_
    refine o_end ?_
    refine za1 ?_
    refine c_seq ?_
    refine za0 ?_
    refine o_q rfl rfl (q_ldB G27 Z27 rfl (fun w h => h.zae (i := 4) rfl) rfl) ?_
    refine bindE5 h (fun i29 l30 l31 l32 b33 hx28 h => ?_) rfl
    refine o_e rfl (zad 0 Z Try.func26 N26 rfl rfl rfl (fun w P1 hF hB hS hT => spec_AllocatePlan.calls k i5 A8 c9 l6.length l6 A10 c11 l7.length l7 hB hF (hT 5 _ rfl).row (hT 5 _ rfl).cap (hT 6 _ rfl).row (hT 6 _ rfl).cap _ _ _ _ _ hx28)) (cur6 (fun A34 c35 A36 c37 A38 c39 => ?_))
    refine o_q rfl rfl (za3 rfl) ?_
    refine o_q rfl rfl (q_ext rfl rfl) ?_
    refine o_q rfl rfl (q_ext rfl rfl) ?_
    refine o_e rfl (zas V43 rfl) (fun g40 => ?_)
    refine o_e rfl (zaq (i := 0) rfl rfl rfl Z43 rfl rfl) (fun _ => ?_)
    refine o_q rfl rfl (q_asg rfl) ?_
    refine o_end ?_
    refine za1 ?_
    refine c_seq ?_
    refine c_seq ?_
    refine za0 ?_
    refine o_q rfl rfl (za3 rfl) ?_
    refine o_q rfl rfl (za3 rfl) ?_
    refine o_q rfl rfl (q_bneq Try.underlying4 rfl rfl) ?_
    refine o_q rfl rfl (za3 rfl) ?_
    refine byB (b19 != b33) (fun hb42 => ?_) (fun hb42 => ?_)
    · replace h := bb_t hb42 h
      refine @o_n _ _ _ _ _ _ _ _ _ _ _ 44 (za2 rfl rfl rfl (congrArg Value.bool hb42) rfl) (Eq.refl (some 44)) ?_
      refine @o_n _ _ _ _ _ _ _ _ _ _ _ 45 (za2 rfl rfl rfl (congrArg Value.bool hb42) rfl) (Eq.refl (some 45)) ?_
      refine @o_n _ _ _ _ _ _ _ _ _ _ _ 46 (za2 rfl rfl rfl (congrArg Value.bool hb42) rfl) (Eq.refl (some 46)) ?_
      refine @o_n _ _ _ _ _ _ _ _ _ _ _ 47 (za2 rfl rfl rfl (congrArg Value.bool hb42) rfl) (Eq.refl (some 47)) ?_
      refine o_q rfl rfl (zal true (congrArg Value.bool hb42) rfl) ?_
      refine o_end ?_
      refine za1 ?_
      refine zb1 rfl ?_
      refine c_seq ?_
      refine za0 ?_
      refine o_q rfl rfl (q_asg rfl) ?_
      refine o_end ?_
      refine za1 ?_
      refine c_ret ?_
      refine zaa ?_
      have e0_ := Option.some.inj h; clear h
      subst e0_
      exact x_r1 () Try.results5 (zai rfl) rfl (fun w h => za6 [] (by decide) rfl w h)
    · replace h := bb_f hb42 h
      refine o_w (za4 rfl rfl rfl (congrArg Value.bool hb42)) rfl (q_ldB G43 Z43 rfl (fun w h => h.zae (i := 4) rfl) rfl) ?_
      refine o_w (za4 rfl rfl rfl (congrArg Value.bool hb42)) rfl (q_ldB G43 Z43 rfl (fun w h => h.zae (i := 0) rfl) rfl) ?_
      refine za7 h (fun b44 hx43 h => ?_) rfl
      refine o_ew (za4 rfl rfl rfl (congrArg Value.bool hb42)) (zad 0 Z Try.func27 N27 rfl rfl rfl (fun w P1 hF hB hS hT => laws_rSameCode.calls i15 A20 c21 l16.length l16 A22 c23 l17.length l17 A24 c25 l18.length l18 i29 A34 c35 l30.length l30 A36 c37 l31.length l31 A38 c39 l32.length l32 hB hF (hT 5 _ rfl).row (hT 5 _ rfl).cap (hT 6 _ rfl).row (hT 6 _ rfl).cap (hT 7 _ rfl).row (hT 7 _ rfl).cap (hT 1 _ rfl).row (hT 1 _ rfl).cap (hT 2 _ rfl).row (hT 2 _ rfl).cap (hT 3 _ rfl).row (hT 3 _ rfl).cap _ hx43)) (fun _ => ?_)
      refine o_w (za4 rfl rfl rfl (congrArg Value.bool hb42)) rfl (q_not rfl) ?_
      refine o_q rfl rfl (zal false (congrArg Value.bool hb42) rfl) ?_
      refine o_end ?_
      refine za1 ?_
      refine zav _ rfl (fun hb45 => ?_) (fun hb45 => ?_)
      · replace hb45 := nt_t hb45
        replace h := bb_f hb45 h
        refine c_seq ?_
        refine za0 ?_
        refine o_q rfl rfl (q_asg rfl) ?_
        refine o_end ?_
        refine za1 ?_
        refine c_ret ?_
        refine zaa ?_
        have e0_ := Option.some.inj h; clear h
        subst e0_
        exact x_r1 () Try.results5 (zai rfl) rfl (fun w h => za6 [] (by decide) rfl w h)
      · replace hb45 := nt_f hb45
        replace h := bb_t hb45 h
        refine zan ?_
        refine za1 ?_
        refine c_seq ?_
        refine za0 ?_
        refine o_q rfl rfl (q_ldB G27 Z27 rfl (fun w h => h.zae (i := 8) rfl) rfl) ?_
        refine bindE2 h (fun i47 b48 hx46 h => ?_) rfl
        refine o_e rfl (zad 0 Z Try.func23 N23 rfl rfl rfl (fun w P1 hF hB hS hT => impl_PressureOf.calls k i5 A8 c9 l6.length l6 A10 c11 l7.length l7 hB hF (hT 9 _ rfl).row (hT 9 _ rfl).cap (hT 10 _ rfl).row (hT 10 _ rfl).cap _ _ hx46)) (fun _ => ?_)
        refine o_q rfl rfl (za3 rfl) ?_
        refine o_q rfl rfl (q_ext rfl rfl) ?_
        refine o_q rfl rfl (q_ext rfl rfl) ?_
        refine o_q rfl rfl (q_asg rfl) ?_
        refine o_q rfl rfl (q_asg rfl) ?_
        refine o_end ?_
        refine za1 ?_
        refine c_seq ?_
        refine za0 ?_
        refine o_q rfl rfl (q_ldB G27 Z27 rfl (fun w h => h.zae (i := 8) rfl) rfl) ?_
        refine bindE2 h (fun i50 b51 hx49 h => ?_) rfl
        refine o_e rfl (zad 0 Z Try.func28 N28 rfl rfl rfl (fun w P1 hF hB hS hT => spec_PressureOf.calls k i5 A8 c9 l6.length l6 A10 c11 l7.length l7 hB hF (hT 9 _ rfl).row (hT 9 _ rfl).cap (hT 10 _ rfl).row (hT 10 _ rfl).cap _ _ hx49)) (fun _ => ?_)
        refine o_q rfl rfl (za3 rfl) ?_
        refine o_q rfl rfl (q_ext rfl rfl) ?_
        refine o_q rfl rfl (q_ext rfl rfl) ?_
        refine o_q rfl rfl (q_asg rfl) ?_
        refine o_q rfl rfl (q_asg rfl) ?_
        refine o_end ?_
        refine za1 ?_
        refine c_seq ?_
        refine c_seq ?_
        refine za0 ?_
        refine o_q rfl rfl (za3 rfl) ?_
        refine o_q rfl rfl (za3 rfl) ?_
        refine o_q rfl rfl (q_bneq Try.underlying4 rfl rfl) ?_
        refine o_q rfl rfl (za3 rfl) ?_
        refine byB (b48 != b51) (fun hb52 => ?_) (fun hb52 => ?_)
        · replace h := bb_t hb52 h
          refine @o_n _ _ _ _ _ _ _ _ _ _ _ 63 (za2 rfl rfl rfl (congrArg Value.bool hb52) rfl) (Eq.refl (some 63)) ?_
          refine @o_n _ _ _ _ _ _ _ _ _ _ _ 64 (za2 rfl rfl rfl (congrArg Value.bool hb52) rfl) (Eq.refl (some 64)) ?_
          refine @o_n _ _ _ _ _ _ _ _ _ _ _ 65 (za2 rfl rfl rfl (congrArg Value.bool hb52) rfl) (Eq.refl (some 65)) ?_
          refine o_q rfl rfl (zal true (congrArg Value.bool hb52) rfl) ?_
          refine o_q rfl rfl (za3 rfl) ?_
          refine @o_n _ _ _ _ _ _ _ _ _ _ _ 68 (za2 rfl rfl rfl rfl rfl) (Eq.refl (some 68)) ?_
          refine @o_n _ _ _ _ _ _ _ _ _ _ _ 69 (za2 rfl rfl rfl rfl rfl) (Eq.refl (some 69)) ?_
          refine @o_n _ _ _ _ _ _ _ _ _ _ _ 70 (za2 rfl rfl rfl rfl rfl) (Eq.refl (some 70)) ?_
          refine o_q rfl rfl (zal true rfl rfl) ?_
          refine o_end ?_
          refine za1 ?_
          refine zb1 rfl ?_
          refine c_seq ?_
          refine za0 ?_
          refine o_q rfl rfl (q_asg rfl) ?_
          refine o_end ?_
          refine za1 ?_
          refine c_ret ?_
          refine zaa ?_
          have e0_ := Option.some.inj h; clear h
          subst e0_
          exact x_r1 () Try.results5 (zai rfl) rfl (fun w h => za6 [] (by decide) rfl w h)
        · replace h := bb_f hb52 h
          refine o_w (za4 rfl rfl rfl (congrArg Value.bool hb52)) rfl (za3 rfl) ?_
          refine o_w (za4 rfl rfl rfl (congrArg Value.bool hb52)) rfl (za3 rfl) ?_
          refine o_w (za4 rfl rfl rfl (congrArg Value.bool hb52)) rfl (q_neq rfl rfl) ?_
          refine o_q rfl rfl (zal false (congrArg Value.bool hb52) rfl) ?_
          refine o_q rfl rfl (za3 rfl) ?_
          refine byB (decide (i47 ≠ i50)) (fun hb53 => ?_) (fun hb53 => ?_)
          · replace h := br_t hb53 h
            refine @o_n _ _ _ _ _ _ _ _ _ _ _ 68 (za2 rfl rfl rfl (congrArg Value.bool hb53) rfl) (Eq.refl (some 68)) ?_
            refine @o_n _ _ _ _ _ _ _ _ _ _ _ 69 (za2 rfl rfl rfl (congrArg Value.bool hb53) rfl) (Eq.refl (some 69)) ?_
            refine @o_n _ _ _ _ _ _ _ _ _ _ _ 70 (za2 rfl rfl rfl (congrArg Value.bool hb53) rfl) (Eq.refl (some 70)) ?_
            refine o_q rfl rfl (zal true (congrArg Value.bool hb53) rfl) ?_
            refine o_end ?_
            refine za1 ?_
            refine zb1 rfl ?_
            refine c_seq ?_
            refine za0 ?_
            refine o_q rfl rfl (q_asg rfl) ?_
            refine o_end ?_
            refine za1 ?_
            refine c_ret ?_
            refine zaa ?_
            have e0_ := Option.some.inj h; clear h
            subst e0_
            exact x_r1 () Try.results5 (zai rfl) rfl (fun w h => za6 [] (by decide) rfl w h)
          · replace h := br_f hb53 h
            refine o_w (za4 rfl rfl rfl (congrArg Value.bool hb53)) rfl (za3 rfl) ?_
            refine o_w (za4 rfl rfl rfl (congrArg Value.bool hb53)) rfl (za3 rfl) ?_
            refine o_w (za4 rfl rfl rfl (congrArg Value.bool hb53)) rfl (q_bneq Try.underlying4 rfl rfl) ?_
            refine o_q rfl rfl (zal false (congrArg Value.bool hb53) rfl) ?_
            refine o_end ?_
            refine za1 ?_
            refine zav _ rfl (fun hb54 => ?_) (fun hb54 => ?_)
            · skip
              replace h := bb_t hb54 h
              refine c_seq ?_
              refine za0 ?_
              refine o_q rfl rfl (q_asg rfl) ?_
              refine o_end ?_
              refine za1 ?_
              refine c_ret ?_
              refine zaa ?_
              have e0_ := Option.some.inj h; clear h
              subst e0_
              exact x_r1 () Try.results5 (zai rfl) rfl (fun w h => za6 [] (by decide) rfl w h)
            · skip
              replace h := bb_f hb54 h
              refine zan ?_
              refine za1 ?_
              refine c_seq ?_
              refine c_seq ?_
              refine za0 ?_
              refine o_q rfl rfl (za3 rfl) ?_
              refine o_q rfl rfl (q_not rfl) ?_
              refine o_end ?_
              refine za1 ?_
              refine zav _ rfl (fun hb55 => ?_) (fun hb55 => ?_)
              · replace hb55 := nt_t hb55
                replace h := bb_f hb55 h
                refine c_seq ?_
                refine za0 ?_
                refine o_q rfl rfl (q_asg rfl) ?_
                refine o_end ?_
                refine za1 ?_
                refine c_ret ?_
                refine zaa ?_
                have e0_ := Option.some.inj h; clear h
                subst e0_
                exact x_r1 () Try.results5 (zai rfl) rfl (fun w h => za6 [] (by decide) rfl w h)
              · replace hb55 := nt_f hb55
                replace h := bb_t hb55 h
                refine zan ?_
                refine za1 ?_
                refine c_seq ?_
                refine za0 ?_
                refine o_q rfl rfl (q_ldB G43 Z43 rfl (fun w h => h.zae (i := 4) rfl) rfl) ?_
                refine bindE4 h (fun i57 l58 l59 b60 hx56 h => ?_) rfl
                refine o_e rfl (zad 0 Z Try.func29 N29 rfl rfl rfl (fun w P1 hF hB hS hT => impl_RegCodePlan.calls k i15 A20 c21 l16.length l16 A22 c23 l17.length l17 A24 c25 l18.length l18 hB hF (hT 5 _ rfl).row (hT 5 _ rfl).cap (hT 6 _ rfl).row (hT 6 _ rfl).cap (hT 7 _ rfl).row (hT 7 _ rfl).cap _ _ _ _ hx56)) (cur4 (fun A61 c62 A63 c64 => ?_))
                refine o_q rfl rfl (za3 rfl) ?_
                refine o_q rfl rfl (q_ext rfl rfl) ?_
                refine o_q rfl rfl (q_ext rfl rfl) ?_
                refine o_e rfl (zas V27 rfl) (fun g65 => ?_)
                refine o_e rfl (zaq (i := 0) rfl rfl rfl Z27 rfl rfl) (fun _ => ?_)
                refine o_q rfl rfl (q_asg rfl) ?_
                refine o_end ?_
                refine za1 ?_
                refine c_seq ?_
                refine za0 ?_
                refine o_q rfl rfl (q_ldB G43 Z43 rfl (fun w h => h.zae (i := 7) rfl) rfl) ?_
                refine o_q rfl rfl (q_ldB G27 Z27 rfl (fun w h => h.zae (i := 11) rfl) rfl) ?_
                refine bindE2 h (fun b68 b69 hx67 h => ?_) rfl
                refine o_e rfl (zad 0 Z Try.func30 N30 rfl rfl rfl (fun w P1 hF hB hS hT => impl_CheckRegCode.calls k i15 A20 c21 l16.length l16 A22 c23 l17.length l17 A24 c25 l18.length l18 i5 A8 c9 l6.length l6 A10 c11 l7.length l7 hB hF (hT 8 _ rfl).row (hT 8 _ rfl).cap (hT 9 _ rfl).row (hT 9 _ rfl).cap (hT 10 _ rfl).row (hT 10 _ rfl).cap (hT 12 _ rfl).row (hT 12 _ rfl).cap (hT 13 _ rfl).row (hT 13 _ rfl).cap _ _ hx67)) (fun _ => ?_)
                refine o_q rfl rfl (za3 rfl) ?_
                refine o_q rfl rfl (q_ext rfl rfl) ?_
                refine o_q rfl rfl (q_ext rfl rfl) ?_
                refine o_q rfl rfl (q_asg rfl) ?_
                refine o_q rfl rfl (q_asg rfl) ?_
                refine o_end ?_
                refine za1 ?_
                refine c_seq ?_
                refine c_seq ?_
                refine za0 ?_
                refine o_q rfl rfl (za3 rfl) ?_
                refine o_q rfl rfl (q_not rfl) ?_
                refine o_q rfl rfl (za3 rfl) ?_
                refine byB b60 (fun hb70 => ?_) (fun hb70 => ?_)
                · replace h := bb_t hb70 h
                  refine o_w (za4 rfl rfl rfl (congrArg (fun b => Value.bool (!(b))) hb70)) rfl (q_ldB G27 Z27 rfl (fun w h => h.zae (i := 0) rfl) rfl) ?_
                  refine o_w (za4 rfl rfl rfl (congrArg (fun b => Value.bool (!(b))) hb70)) rfl (q_ldB G27 Z27 rfl (fun w h => h.zae (i := 11) rfl) rfl) ?_
                  refine za7 h (fun b72 hx71 h => ?_) rfl
                  refine o_ew (za4 rfl rfl rfl (congrArg (fun b => Value.bool (!(b))) hb70)) (zad 0 Z Try.func31 N31 rfl rfl rfl (fun w P1 hF hB hS hT => laws_rSamePlan.calls i57 A61 c62 l58.length l58 A63 c64 l59.length l59 i5 A8 c9 l6.length l6 A10 c11 l7.length l7 hB hF (hT 1 _ rfl).row (hT 1 _ rfl).cap (hT 2 _ rfl).row (hT 2 _ rfl).cap (hT 12 _ rfl).row (hT 12 _ rfl).cap (hT 13 _ rfl).row (hT 13 _ rfl).cap _ hx71)) (fun _ => ?_)
                  refine o_w (za4 rfl rfl rfl (congrArg (fun b => Value.bool (!(b))) hb70)) rfl (q_not rfl) ?_
                  refine o_q rfl rfl (zal false (congrArg (fun b => Value.bool (!(b))) hb70) rfl) ?_
                  refine o_q rfl rfl (za3 rfl) ?_
                  refine byB b72 (fun hb73 => ?_) (fun hb73 => ?_)
                  · replace h := bb_t hb73 h
                    refine o_w (za4 rfl rfl rfl (congrArg (fun b => Value.bool (!(b))) hb73)) rfl (za3 rfl) ?_
                    refine o_w (za4 rfl rfl rfl (congrArg (fun b => Value.bool (!(b))) hb73)) rfl (q_not rfl) ?_
                    refine o_q rfl rfl (zal false (congrArg (fun b => Value.bool (!(b))) hb73) rfl) ?_
                    refine o_q rfl rfl (za3 rfl) ?_
                    refine byB b69 (fun hb74 => ?_) (fun hb74 => ?_)
                    · replace h := bb_t hb74 h
                      refine o_w (za4 rfl rfl rfl (congrArg (fun b => Value.bool (!(b))) hb74)) rfl (za3 rfl) ?_
                      refine o_w (za4 rfl rfl rfl (congrArg (fun b => Value.bool (!(b))) hb74)) rfl (q_not rfl) ?_
                      refine o_q rfl rfl (zal false (congrArg (fun b => Value.bool (!(b))) hb74) rfl) ?_
                      refine o_q rfl rfl (za3 rfl) ?_
                      refine byB b68 (fun hb75 => ?_) (fun hb75 => ?_)
                      · replace h := bb_t hb75 h
                        refine o_w (za4 rfl rfl rfl (congrArg (fun b => Value.bool (!(b))) hb75)) rfl (q_f F43_0 rfl) ?_
                        refine o_w (za4 rfl rfl rfl (congrArg (fun b => Value.bool (!(b))) hb75)) rfl (q_ldb Y3 rfl (fun w h => h.zae (i := 7) rfl) rfl) ?_
                        refine o_w (za4 rfl rfl rfl (congrArg (fun b => Value.bool (!(b))) hb75)) rfl (za3 rfl) ?_
                        refine o_w (za4 rfl rfl rfl (congrArg (fun b => Value.bool (!(b))) hb75)) rfl (q_neq rfl rfl) ?_
                        refine o_q rfl rfl (zal false (congrArg (fun b => Value.bool (!(b))) hb75) rfl) ?_
                        refine o_q rfl rfl (za3 rfl) ?_
                        refine byB (decide (i15 ≠ i47)) (fun hb76 => ?_) (fun hb76 => ?_)
                        · replace h := br_t hb76 h
                          refine @o_n _ _ _ _ _ _ _ _ _ _ _ 108 (za2 rfl rfl rfl (congrArg Value.bool hb76) rfl) (Eq.refl (some 108)) ?_
                          refine @o_n _ _ _ _ _ _ _ _ _ _ _ 109 (za2 rfl rfl rfl (congrArg Value.bool hb76) rfl) (Eq.refl (some 109)) ?_
                          refine @o_n _ _ _ _ _ _ _ _ _ _ _ 110 (za2 rfl rfl rfl (congrArg Value.bool hb76) rfl) (Eq.refl (some 110)) ?_
                          refine o_q rfl rfl (zal true (congrArg Value.bool hb76) rfl) ?_
                          refine o_end ?_
                          refine za1 ?_
                          refine zb1 rfl ?_
                          refine c_seq ?_
                          refine za0 ?_
                          refine o_q rfl rfl (q_asg rfl) ?_
                          refine o_end ?_
                          refine za1 ?_
                          refine c_ret ?_
                          refine zaa ?_
                          have e0_ := Option.some.inj h; clear h
                          subst e0_
                          exact x_r1 () Try.results5 (zai rfl) rfl (fun w h => za6 [] (by decide) rfl w h)
                        · replace h := br_f hb76 h
                          refine o_w (za4 rfl rfl rfl (congrArg Value.bool hb76)) rfl (q_ldB G43 Z43 rfl (fun w h => h.zae (i := 7) rfl) rfl) ?_
                          refine za7 h (fun b78 hx77 h => ?_) rfl
                          refine o_ew (za4 rfl rfl rfl (congrArg Value.bool hb76)) (zad 0 Z Try.func32 N32 rfl rfl rfl (fun w P1 hF hB hS hT => impl_IsRegCode.calls k i15 A20 c21 l16.length l16 A22 c23 l17.length l17 A24 c25 l18.length l18 hB hF (hT 8 _ rfl).row (hT 8 _ rfl).cap (hT 9 _ rfl).row (hT 9 _ rfl).cap (hT 10 _ rfl).row (hT 10 _ rfl).cap _ hx77)) (fun _ => ?_)
                          refine o_w (za4 rfl rfl rfl (congrArg Value.bool hb76)) rfl (q_not rfl) ?_
                          refine o_q rfl rfl (zal false (congrArg Value.bool hb76) rfl) ?_
                          refine o_end ?_
                          refine za1 ?_
                          refine zav _ rfl (fun hb79 => ?_) (fun hb79 => ?_)
                          · replace hb79 := nt_t hb79
                            replace h := bb_f hb79 h
                            refine c_seq ?_
                            refine za0 ?_
                            refine o_q rfl rfl (q_asg rfl) ?_
                            refine o_end ?_
                            refine za1 ?_
                            refine c_ret ?_
                            refine zaa ?_
                            have e0_ := Option.some.inj h; clear h
                            subst e0_
                            exact x_r1 () Try.results5 (zai rfl) rfl (fun w h => za6 [] (by decide) rfl w h)
                          · replace hb79 := nt_f hb79
                            replace h := bb_t hb79 h
                            refine zan ?_
                            refine za1 ?_
                            refine c_seq ?_
                            refine za0 ?_
                            refine o_q rfl rfl (q_asg rfl) ?_
                            refine o_end ?_
                            refine za1 ?_
                            refine c_seq ?_
                            refine za0 ?_
                            refine o_q rfl rfl (za3 rfl) ?_
                            refine za7 h (fun i81 hx80 h => ?_) rfl
                            refine o_e rfl (zad 0 Z Try.func33 N33 rfl rfl rfl (fun w P1 hF hB hS hT => laws_numberOf.calls A1 c1 l1.length l1 hB hF (hS _ R1) hc1 _ hx80)) (fun _ => ?_)
                            refine o_q rfl rfl (q_asg rfl) ?_
                            refine o_end ?_
                            refine za1 ?_
                            refine c_seq ?_
                            refine c_seq ?_
                            refine za0 ?_
                            refine o_q rfl rfl (q_asg rfl) ?_
                            refine o_end ?_
                            refine za1 ?_
                            refine zaj ?_
                            refine c_nil (Kd.int .i64) 3 ?_
                            refine za7 h (fun o94 hl93 hR92 => ?_) rfl
                            clear h
                            refine zax (σ := (List Int) × Int × (Option Addr) × Nat) (fun k89 ((l83, i86, A84, c85) : (List Int) × Int × (Option Addr) × Nat) => laws_FnAllocatedCode.l0 i5 i81 k89 l83 i86 = some o94) [18, 20, 114, 115, 116, 117, 118, 119, 120, 121, 122, 123, 124, 125, 126, 127, 128, 129, 130, 131] (fun ((l83, i86, A84, c85) : (List Int) × Int × (Option Addr) × Nat) => [(18, .slice A84 l83.length c85), (20, .int .i64 i86)]) (fun ((l83, i86, A84, c85) : (List Int) × Int × (Option Addr) × Nat) => [row (Kd.int .i64) 3 (.slice A84 l83.length c85) l83, box g65 27 #[.int .i64 i57, .slice A61 l58.length c62, .slice A63 l59.length c64], row kStep 88 (.slice A61 l58.length c62) l58, row (Kd.int .i64) 3 (.slice A63 l59.length c64) l59, box g40 43 #[.int .i64 i29, .slice A34 l30.length c35, .slice A36 l31.length c37, .slice A38 l32.length c39], row (Kd.int .i64) 3 (.slice A34 l30.length c35) l30, row kRegOp 94 (.slice A36 l31.length c37) l31, row (Kd.int .i64) 3 (.slice A38 l32.length c39) l32, box g26 43 #[.int .i64 i15, .slice A20 l16.length c21, .slice A22 l17.length c23, .slice A24 l18.length c25], row (Kd.int .i64) 3 (.slice A20 l16.length c21) l16, row kRegOp 94 (.slice A22 l17.length c23) l17, row (Kd.int .i64) 3 (.slice A24 l18.length c25) l18, box g12 27 #[.int .i64 i5, .slice A8 l6.length c9, .slice A10 l7.length c11], row kStep 88 (.slice A8 l6.length c9) l6, row (Kd.int .i64) 3 (.slice A10 l7.length c11) l7]) k (([] : List Int), 0, none, 0) hl93 ⟨rfl, rfl, trivial⟩ (fun w h => h) ?_
                            refine natC (cur4 (fun l83 i86 A84 c85 => fun U95 hJ_ => ?_)) (fun k89 => (cur4 (fun l83 i86 A84 c85 => fun U95 hJ_ => ?_)))
                            · skip
                              replace hJ_ : laws_FnAllocatedCode.l0 i5 i81 0 l83 i86 = some o94 := hJ_
                              rw [laws_FnAllocatedCode.l0] at hJ_
                              exact noneE hJ_
                            · skip
                              clear hl93
                              have h := hJ_; clear hJ_
                              replace h : laws_FnAllocatedCode.l0 i5 i81 (k89 + 1) l83 i86 = some o94 := h
                              rw [laws_FnAllocatedCode.l0] at h
                              refine c_seq ?_
                              refine c_seq ?_
                              refine za0 ?_
                              refine o_q rfl rfl (za3 rfl) ?_
                              refine o_q rfl rfl (q_f F27_0 rfl) ?_
                              refine o_q rfl rfl (q_ldb Y3 rfl (fun w h => h.zae (i := 12) rfl) rfl) ?_
                              refine o_q rfl rfl (q_lss rfl rfl) ?_
                              refine o_end ?_
                              refine za1 ?_
                              refine zav _ rfl (fun hb97 => ?_) (fun hb97 => ?_)
                              · skip
                                replace h := br_t hb97 h
                                refine zan ?_
                                refine za1 ?_
                                refine c_seq ?_
                                refine zaj ?_
                                refine za0 ?_
                                refine o_q rfl rfl (za3 rfl) ?_
                                refine o_q rfl rfl (za3 rfl) ?_
                                refine o_q rfl rfl (za3 rfl) ?_
                                refine o_q rfl rfl (q_mul64 rfl rfl) ?_
                                refine o_q rfl rfl (za3 rfl) ?_
                                refine o_q rfl rfl (q_mul64 rfl rfl) ?_
                                refine o_q rfl rfl (zb6 rfl rfl) ?_
                                refine o_q rfl rfl (za3 rfl) ?_
                                refine o_q rfl rfl (zb6 rfl rfl) ?_
                                refine o_q rfl rfl (q_rem rfl rfl (by decide)) ?_
                                refine o_e rfl (e_lit (vs := [(0, .int .i64 ((w64 (w64 (i81 + (w64 (w64 (5 * i86) * i86))) + i86)).tmod 97))]) (cs := [.int .i64 ((w64 (w64 (i81 + (w64 (w64 (5 * i86) * i86))) + i86)).tmod 97)]) (Kd.int .i64) ([(w64 (w64 (i81 + (w64 (w64 (5 * i86) * i86))) + i86)).tmod 97] : List Int) Try.underlying25 I3 (by decide) rfl (by decide) rfl rfl (fun _ _ => Kd.zar _)) (cur2 (fun A98 c99 => ?_))
                                refine za7 h (fun l101 ha102 h => ?_) rfl
                                refine o_e rfl (e_app (i := 1) (j := 0) Try.underlying25 I3 rfl (by decide) (by decide) rfl rfl rfl rfl rfl ha102) (cur2 (fun A103 c104 => ?_))
                                refine o_q rfl rfl (q_asg rfl) ?_
                                refine o_end ?_
                                refine zam ?_
                                refine za1 ?_
                                refine za0 ?_
                                refine o_q rfl rfl (za3 rfl) ?_
                                refine o_q rfl rfl (zb6 rfl rfl) ?_
                                refine o_q rfl rfl (q_asg rfl) ?_
                                refine o_end ?_
                                refine zak k89 (l101, w64 (i86 + 1), A103, c104) (Nat.lt_succ_self _) h ⟨rfl, rfl, trivial⟩ (fun w h => za6 [1, 2, 3, 4, 5, 6, 7, 8, 9, 10, 11, 12, 13, 14, 15] (by decide) rfl w h) ?_
                                repeat (first | exact zab _ _ | refine zaf rfl ?_ | refine zac rfl ?_ | refine zah rfl ?_)
                              · skip
                                replace h := br_f hb97 h
                                refine zb4 ?_
                                refine za5 ?_
                                refine za5 ?_
                                have e_ := Option.some.inj h; replace h := hR92; rw [← e_] at h; clear e_
                                refine x_hit ?_
                                refine za1 ?_
                                refine c_seq ?_
                                refine za0 ?_
                                refine o_q rfl rfl (q_ldB G43 Z43 rfl (fun w h => h.zae (i := 8) rfl) rfl) ?_
                                refine o_q rfl rfl (za3 rfl) ?_
                                refine bindE2 h (fun l106 b107 hx105 h => ?_) rfl
                                refine o_e rfl (zad 0 Z Try.func34 N34 rfl rfl rfl (fun w P1 hF hB hS hT => impl_RunRegCode.calls k i15 A20 c21 l16.length l16 A22 c23 l17.length l17 A24 c25 l18.length l18 97 A84 c85 l83.length l83 hB hF (hT 9 _ rfl).row (hT 9 _ rfl).cap (hT 10 _ rfl).row (hT 10 _ rfl).cap (hT 11 _ rfl).row (hT 11 _ rfl).cap (hT 0 _ rfl).row (hT 0 _ rfl).cap _ _ hx105)) (cur2 (fun A108 c109 => ?_))
                                refine o_q rfl rfl (za3 rfl) ?_
                                refine o_q rfl rfl (q_ext rfl rfl) ?_
                                refine o_q rfl rfl (q_ext rfl rfl) ?_
                                refine o_q rfl rfl (q_asg rfl) ?_
                                refine o_q rfl rfl (q_asg rfl) ?_
                                refine o_end ?_
                                refine za1 ?_
                                refine c_seq ?_
                                refine za0 ?_
                                refine o_q rfl rfl (q_ldB G27 Z27 rfl (fun w h => h.zae (i := 13) rfl) rfl) ?_
                                refine o_q rfl rfl (za3 rfl) ?_
                                refine bindE2 h (fun l111 b112 hx110 h => ?_) rfl
                                refine o_e rfl (zad 0 Z Try.func35 N35 rfl rfl rfl (fun w P1 hF hB hS hT => impl_RunResidues.calls k i5 A8 c9 l6.length l6 A10 c11 l7.length l7 97 A84 c85 l83.length l83 hB hF (hT 14 _ rfl).row (hT 14 _ rfl).cap (hT 15 _ rfl).row (hT 15 _ rfl).cap (hT 1 _ rfl).row (hT 1 _ rfl).cap _ _ hx110)) (cur2 (fun A113 c114 => ?_))
                                refine o_q rfl rfl (za3 rfl) ?_
                                refine o_q rfl rfl (q_ext rfl rfl) ?_
                                refine o_q rfl rfl (q_ext rfl rfl) ?_
                                refine o_q rfl rfl (q_asg rfl) ?_
                                refine o_q rfl rfl (q_asg rfl) ?_
                                refine o_end ?_
                                refine za1 ?_
                                refine c_seq ?_
                                refine za0 ?_
                                refine o_q rfl rfl (za3 rfl) ?_
                                refine o_q rfl rfl (za3 rfl) ?_
                                refine byB b107 (fun hb115 => ?_) (fun hb115 => ?_)
                                · replace h := bb_t hb115 h
                                  refine o_w (za4 rfl rfl rfl (congrArg Value.bool hb115)) rfl (za3 rfl) ?_
                                  refine o_q rfl rfl (zal true (congrArg Value.bool hb115) rfl) ?_
                                  refine o_q rfl rfl (za3 rfl) ?_
                                  refine byB b112 (fun hb116 => ?_) (fun hb116 => ?_)
                                  · replace h := bb_t hb116 h
                                    refine o_w (za4 rfl rfl rfl (congrArg Value.bool hb116)) rfl (za3 rfl) ?_
                                    refine o_w (za4 rfl rfl rfl (congrArg Value.bool hb116)) rfl (za3 rfl) ?_
                                    refine za7 h (fun b118 hx117 h => ?_) rfl
                                    refine o_ew (za4 rfl rfl rfl (congrArg Value.bool hb116)) (zad 0 Z Try.func15 N15 rfl rfl rfl (fun w P1 hF hB hS hT => laws_rSame.calls A108 c109 l106.length l106 A113 c114 l111.length l111 hB hF (hT 1 _ rfl).row (hT 1 _ rfl).cap (hT 0 _ rfl).row (hT 0 _ rfl).cap _ hx117)) (fun _ => ?_)
                                    refine o_q rfl rfl (zal true (congrArg Value.bool hb116) rfl) ?_
                                    refine o_q rfl rfl (q_asg rfl) ?_
                                    refine o_end ?_
                                    refine za1 ?_
                                    refine c_ret ?_
                                    have e0_ := Option.some.inj h; clear h
                                    subst e0_
                                    exact x_r1 () Try.results5 (zai rfl) rfl (fun w h => za6 [] (by decide) rfl w h)
                                  · replace h := bb_f hb116 h
                                    refine @o_n _ _ _ _ _ _ _ _ _ _ _ 149 (za2 rfl rfl rfl (congrArg Value.bool hb116) rfl) (Eq.refl (some 149)) ?_
                                    refine @o_n _ _ _ _ _ _ _ _ _ _ _ 150 (za2 rfl rfl rfl (congrArg Value.bool hb116) rfl) (Eq.refl (some 150)) ?_
                                    refine @o_n _ _ _ _ _ _ _ _ _ _ _ 151 (za2 rfl rfl rfl (congrArg Value.bool hb116) rfl) (Eq.refl (some 151)) ?_
                                    refine o_q rfl rfl (zal false (congrArg Value.bool hb116) rfl) ?_
                                    refine o_q rfl rfl (q_asg rfl) ?_
                                    refine o_end ?_
                                    refine za1 ?_
                                    refine c_ret ?_
                                    have e0_ := Option.some.inj h; clear h
                                    subst e0_
                                    exact x_r1 () Try.results5 (zai rfl) rfl (fun w h => za6 [] (by decide) rfl w h)
                                · replace h := bb_f hb115 h
                                  refine @o_n _ _ _ _ _ _ _ _ _ _ _ 146 (za2 rfl rfl rfl (congrArg Value.bool hb115) rfl) (Eq.refl (some 146)) ?_
                                  refine o_q rfl rfl (zal false (congrArg Value.bool hb115) rfl) ?_
                                  refine o_q rfl rfl (za3 rfl) ?_
                                  refine @o_n _ _ _ _ _ _ _ _ _ _ _ 149 (za2 rfl rfl rfl rfl rfl) (Eq.refl (some 149)) ?_
                                  refine @o_n _ _ _ _ _ _ _ _ _ _ _ 150 (za2 rfl rfl rfl rfl rfl) (Eq.refl (some 150)) ?_
                                  refine @o_n _ _ _ _ _ _ _ _ _ _ _ 151 (za2 rfl rfl rfl rfl rfl) (Eq.refl (some 151)) ?_
                                  refine o_q rfl rfl (zal false rfl rfl) ?_
                                  refine o_q rfl rfl (q_asg rfl) ?_
                                  refine o_end ?_
                                  refine za1 ?_
                                  refine c_ret ?_
                                  have e0_ := Option.some.inj h; clear h
                                  subst e0_
                                  exact x_r1 () Try.results5 (zai rfl) rfl (fun w h => za6 [] (by decide) rfl w h)
                      · replace h := bb_f hb75 h
                        refine @o_n _ _ _ _ _ _ _ _ _ _ _ 102 (za2 rfl rfl rfl (congrArg (fun b => Value.bool (!(b))) hb75) rfl) (Eq.refl (some 102)) ?_
                        refine @o_n _ _ _ _ _ _ _ _ _ _ _ 103 (za2 rfl rfl rfl (congrArg (fun b => Value.bool (!(b))) hb75) rfl) (Eq.refl (some 103)) ?_
                        refine @o_n _ _ _ _ _ _ _ _ _ _ _ 104 (za2 rfl rfl rfl (congrArg (fun b => Value.bool (!(b))) hb75) rfl) (Eq.refl (some 104)) ?_
                        refine @o_n _ _ _ _ _ _ _ _ _ _ _ 105 (za2 rfl rfl rfl (congrArg (fun b => Value.bool (!(b))) hb75) rfl) (Eq.refl (some 105)) ?_
                        refine o_q rfl rfl (zal true (congrArg (fun b => Value.bool (!(b))) hb75) rfl) ?_
                        refine o_q rfl rfl (za3 rfl) ?_
                        refine @o_n _ _ _ _ _ _ _ _ _ _ _ 108 (za2 rfl rfl rfl rfl rfl) (Eq.refl (some 108)) ?_
                        refine @o_n _ _ _ _ _ _ _ _ _ _ _ 109 (za2 rfl rfl rfl rfl rfl) (Eq.refl (some 109)) ?_
                        refine @o_n _ _ _ _ _ _ _ _ _ _ _ 110 (za2 rfl rfl rfl rfl rfl) (Eq.refl (some 110)) ?_
                        refine o_q rfl rfl (zal true rfl rfl) ?_
                        refine o_end ?_
                        refine za1 ?_
                        refine zb1 rfl ?_
                        refine c_seq ?_
                        refine za0 ?_
                        refine o_q rfl rfl (q_asg rfl) ?_
                        refine o_end ?_
                        refine za1 ?_
                        refine c_ret ?_
                        refine zaa ?_
                        have e0_ := Option.some.inj h; clear h
                        subst e0_
                        exact x_r1 () Try.results5 (zai rfl) rfl (fun w h => za6 [] (by decide) rfl w h)
                    · replace h := bb_f hb74 h
                      refine @o_n _ _ _ _ _ _ _ _ _ _ _ 98 (za2 rfl rfl rfl (congrArg (fun b => Value.bool (!(b))) hb74) rfl) (Eq.refl (some 98)) ?_
                      refine @o_n _ _ _ _ _ _ _ _ _ _ _ 99 (za2 rfl rfl rfl (congrArg (fun b => Value.bool (!(b))) hb74) rfl) (Eq.refl (some 99)) ?_
                      refine o_q rfl rfl (zal true (congrArg (fun b => Value.bool (!(b))) hb74) rfl) ?_
                      refine o_q rfl rfl (za3 rfl) ?_
                      refine @o_n _ _ _ _ _ _ _ _ _ _ _ 102 (za2 rfl rfl rfl rfl rfl) (Eq.refl (some 102)) ?_
                      refine @o_n _ _ _ _ _ _ _ _ _ _ _ 103 (za2 rfl rfl rfl rfl rfl) (Eq.refl (some 103)) ?_
                      refine @o_n _ _ _ _ _ _ _ _ _ _ _ 104 (za2 rfl rfl rfl rfl rfl) (Eq.refl (some 104)) ?_
                      refine @o_n _ _ _ _ _ _ _ _ _ _ _ 105 (za2 rfl rfl rfl rfl rfl) (Eq.refl (some 105)) ?_
                      refine o_q rfl rfl (zal true rfl rfl) ?_
                      refine o_q rfl rfl (za3 rfl) ?_
                      refine @o_n _ _ _ _ _ _ _ _ _ _ _ 108 (za2 rfl rfl rfl rfl rfl) (Eq.refl (some 108)) ?_
                      refine @o_n _ _ _ _ _ _ _ _ _ _ _ 109 (za2 rfl rfl rfl rfl rfl) (Eq.refl (some 109)) ?_
                      refine @o_n _ _ _ _ _ _ _ _ _ _ _ 110 (za2 rfl rfl rfl rfl rfl) (Eq.refl (some 110)) ?_
                      refine o_q rfl rfl (zal true rfl rfl) ?_
                      refine o_end ?_
                      refine za1 ?_
                      refine zb1 rfl ?_
                      refine c_seq ?_
                      refine za0 ?_
                      refine o_q rfl rfl (q_asg rfl) ?_
                      refine o_end ?_
                      refine za1 ?_
                      refine c_ret ?_
                      refine zaa ?_
                      have e0_ := Option.some.inj h; clear h
                      subst e0_
                      exact x_r1 () Try.results5 (zai rfl) rfl (fun w h => za6 [] (by decide) rfl w h)
                  · replace h := bb_f hb73 h
                    refine @o_n _ _ _ _ _ _ _ _ _ _ _ 94 (za2 rfl rfl rfl (congrArg (fun b => Value.bool (!(b))) hb73) rfl) (Eq.refl (some 94)) ?_
                    refine @o_n _ _ _ _ _ _ _ _ _ _ _ 95 (za2 rfl rfl rfl (congrArg (fun b => Value.bool (!(b))) hb73) rfl) (Eq.refl (some 95)) ?_
                    refine o_q rfl rfl (zal true (congrArg (fun b => Value.bool (!(b))) hb73) rfl) ?_
                    refine o_q rfl rfl (za3 rfl) ?_
                    refine @o_n _ _ _ _ _ _ _ _ _ _ _ 98 (za2 rfl rfl rfl rfl rfl) (Eq.refl (some 98)) ?_
                    refine @o_n _ _ _ _ _ _ _ _ _ _ _ 99 (za2 rfl rfl rfl rfl rfl) (Eq.refl (some 99)) ?_
                    refine o_q rfl rfl (zal true rfl rfl) ?_
                    refine o_q rfl rfl (za3 rfl) ?_
                    refine @o_n _ _ _ _ _ _ _ _ _ _ _ 102 (za2 rfl rfl rfl rfl rfl) (Eq.refl (some 102)) ?_
                    refine @o_n _ _ _ _ _ _ _ _ _ _ _ 103 (za2 rfl rfl rfl rfl rfl) (Eq.refl (some 103)) ?_
                    refine @o_n _ _ _ _ _ _ _ _ _ _ _ 104 (za2 rfl rfl rfl rfl rfl) (Eq.refl (some 104)) ?_
                    refine @o_n _ _ _ _ _ _ _ _ _ _ _ 105 (za2 rfl rfl rfl rfl rfl) (Eq.refl (some 105)) ?_
                    refine o_q rfl rfl (zal true rfl rfl) ?_
                    refine o_q rfl rfl (za3 rfl) ?_
                    refine @o_n _ _ _ _ _ _ _ _ _ _ _ 108 (za2 rfl rfl rfl rfl rfl) (Eq.refl (some 108)) ?_
                    refine @o_n _ _ _ _ _ _ _ _ _ _ _ 109 (za2 rfl rfl rfl rfl rfl) (Eq.refl (some 109)) ?_
                    refine @o_n _ _ _ _ _ _ _ _ _ _ _ 110 (za2 rfl rfl rfl rfl rfl) (Eq.refl (some 110)) ?_
                    refine o_q rfl rfl (zal true rfl rfl) ?_
                    refine o_end ?_
                    refine za1 ?_
                    refine zb1 rfl ?_
                    refine c_seq ?_
                    refine za0 ?_
                    refine o_q rfl rfl (q_asg rfl) ?_
                    refine o_end ?_
                    refine za1 ?_
                    refine c_ret ?_
                    refine zaa ?_
                    have e0_ := Option.some.inj h; clear h
                    subst e0_
                    exact x_r1 () Try.results5 (zai rfl) rfl (fun w h => za6 [] (by decide) rfl w h)
                · replace h := bb_f hb70 h
                  refine @o_n _ _ _ _ _ _ _ _ _ _ _ 88 (za2 rfl rfl rfl (congrArg (fun b => Value.bool (!(b))) hb70) rfl) (Eq.refl (some 88)) ?_
                  refine @o_n _ _ _ _ _ _ _ _ _ _ _ 89 (za2 rfl rfl rfl (congrArg (fun b => Value.bool (!(b))) hb70) rfl) (Eq.refl (some 89)) ?_
                  refine @o_n _ _ _ _ _ _ _ _ _ _ _ 90 (za2 rfl rfl rfl (congrArg (fun b => Value.bool (!(b))) hb70) rfl) (Eq.refl (some 90)) ?_
                  refine @o_n _ _ _ _ _ _ _ _ _ _ _ 91 (za2 rfl rfl rfl (congrArg (fun b => Value.bool (!(b))) hb70) rfl) (Eq.refl (some 91)) ?_
                  refine o_q rfl rfl (zal true (congrArg (fun b => Value.bool (!(b))) hb70) rfl) ?_
                  refine o_q rfl rfl (za3 rfl) ?_
                  refine @o_n _ _ _ _ _ _ _ _ _ _ _ 94 (za2 rfl rfl rfl rfl rfl) (Eq.refl (some 94)) ?_
                  refine @o_n _ _ _ _ _ _ _ _ _ _ _ 95 (za2 rfl rfl rfl rfl rfl) (Eq.refl (some 95)) ?_
                  refine o_q rfl rfl (zal true rfl rfl) ?_
                  refine o_q rfl rfl (za3 rfl) ?_
                  refine @o_n _ _ _ _ _ _ _ _ _ _ _ 98 (za2 rfl rfl rfl rfl rfl) (Eq.refl (some 98)) ?_
                  refine @o_n _ _ _ _ _ _ _ _ _ _ _ 99 (za2 rfl rfl rfl rfl rfl) (Eq.refl (some 99)) ?_
                  refine o_q rfl rfl (zal true rfl rfl) ?_
                  refine o_q rfl rfl (za3 rfl) ?_
                  refine @o_n _ _ _ _ _ _ _ _ _ _ _ 102 (za2 rfl rfl rfl rfl rfl) (Eq.refl (some 102)) ?_
                  refine @o_n _ _ _ _ _ _ _ _ _ _ _ 103 (za2 rfl rfl rfl rfl rfl) (Eq.refl (some 103)) ?_
                  refine @o_n _ _ _ _ _ _ _ _ _ _ _ 104 (za2 rfl rfl rfl rfl rfl) (Eq.refl (some 104)) ?_
                  refine @o_n _ _ _ _ _ _ _ _ _ _ _ 105 (za2 rfl rfl rfl rfl rfl) (Eq.refl (some 105)) ?_
                  refine o_q rfl rfl (zal true rfl rfl) ?_
                  refine o_q rfl rfl (za3 rfl) ?_
                  refine @o_n _ _ _ _ _ _ _ _ _ _ _ 108 (za2 rfl rfl rfl rfl rfl) (Eq.refl (some 108)) ?_
                  refine @o_n _ _ _ _ _ _ _ _ _ _ _ 109 (za2 rfl rfl rfl rfl rfl) (Eq.refl (some 109)) ?_
                  refine @o_n _ _ _ _ _ _ _ _ _ _ _ 110 (za2 rfl rfl rfl rfl rfl) (Eq.refl (some 110)) ?_
                  refine o_q rfl rfl (zal true rfl rfl) ?_
                  refine o_end ?_
                  refine za1 ?_
                  refine zb1 rfl ?_
                  refine c_seq ?_
                  refine za0 ?_
                  refine o_q rfl rfl (q_asg rfl) ?_
                  refine o_end ?_
                  refine za1 ?_
                  refine c_ret ?_
                  refine zaa ?_
                  have e0_ := Option.some.inj h; clear h
                  subst e0_
                  exact x_r1 () Try.results5 (zai rfl) rfl (fun w h => za6 [] (by decide) rfl w h)

/-- THE ONE PURE STATEMENT of laws_FnAllocatedCode. -/
def laws_FnAllocatedCode.Pure : Prop := ∀ (l0 : List Int) (l1 : List Int), l0.length ≤ maxLen → (∀ y ∈ l0, (Lit.int .u8 y).wf = true) → l1.length ≤ maxLen → (∀ y ∈ l1, (Lit.int .u8 y).wf = true) → ∃ k, laws_FnAllocatedCode.f k l0 l1 = some true
theorem laws_FnAllocatedCode.walk (P : laws_FnAllocatedCode.Pure) (A0 : Option Addr) (c0 : Nat) (l0 : List Int) (A1 : Option Addr) (c1 : Nat) (l1 : List Int) (w : World) (hr0 : Kd.C (Kd.int .u8) w A0 l0.length l0) (hc0 : l0.length ≤ c0) (hr1 : Kd.C (Kd.int .u8) w A1 l1.length l1) (hc1 : l1.length ≤ c1) (q0 : l0.length ≤ maxLen) (q1 : (∀ y ∈ l0, (Lit.int .u8 y).wf = true)) (q2 : l1.length ≤ maxLen) (q3 : (∀ y ∈ l1, (Lit.int .u8 y).wf = true)) :
    Calls Try.prog 5 #[.slice A0 l0.length c0, .slice A1 l1.length c1] w fun e w' => e = .returned (.bool true) ∧ Below w.heap.size w w' := by
  obtain ⟨k, h⟩ := P l0 l1 q0 q1 q2 q3
  refine (laws_FnAllocatedCode.calls k A0 c0 l0.length l0 A1 c1 l1.length l1 (Below.refl _ _) (Fr.start w) (fun W hW => Kd.C_below hr0 hW.below) hc0 (fun W hW => Kd.C_below hr1 hW.below) hc1 true h).mono ?_
  rintro e w' ⟨s, rfl, hF⟩
  exact ⟨rfl, hF.bel⟩
end Go.Proofs.Ytdicngjloiphkaa.L7
