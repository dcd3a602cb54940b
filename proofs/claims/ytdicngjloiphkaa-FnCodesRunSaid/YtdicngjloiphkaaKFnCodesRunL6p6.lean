import Derived.Test.YtdicngjloiphkaaKFnCodesRunL6p5
namespace Go.Proofs.Ytdicngjloiphkaa.L6
open Go.RowKit Go.Proofs.Ytdicngjloiphkaa.Frame Go.Proofs.YtdicngjloiphkaaW.PrintLast Go.Proofs.Ytdicngjloiphkaa.Hand
open Go.Proofs.YtdicngjloiphkaaW.PrintWords hiding mn mx
set_option linter.unusedVariables false
/-! ### loop.example/g01098/impl.CheckRegCode: function 30 -/
def impl_CheckRegCode.f (k : Nat) (a0_0 : Int) (l0_1 : List Int) (l0_2 : List SRegOp) (l0_3 : List Int) (a1_0 : Int) (l1_1 : List SStep) (l1_2 : List Int) : Option (Bool × Bool) := (impl_RegCode_plan.f k a0_0 l0_1 l0_2 l0_3).bind fun (i6, l7, l8, b9) => if b9 = true then ((impl_IsPlan.f k a1_0 l1_1 l1_2).bind fun b18 => if b18 = true then ((impl_samePowers.f i6 l7 l8 a1_0 l1_1 l1_2).bind fun b21 => some (b21, true)) else (some (false, false))) else (some (false, false))
set_option maxHeartbeats 600000 in
set_option maxRecDepth 100000 in
theorem impl_CheckRegCode.calls (k : Nat) {w0 ws : World} {P0 : Nat → Prop} (a0_0 : Int) (A0_1 : Option Addr) (c0_1 : Nat) (n0_1 : Nat) (l0_1 : List Int) (A0_2 : Option Addr) (c0_2 : Nat) (n0_2 : Nat) (l0_2 : List SRegOp) (A0_3 : Option Addr) (c0_3 : Nat) (n0_3 : Nat) (l0_3 : List Int) (a1_0 : Int) (A1_1 : Option Addr) (c1_1 : Nat) (n1_1 : Nat) (l1_1 : List SStep) (A1_2 : Option Addr) (c1_2 : Nat) (n1_2 : Nat) (l1_2 : List Int) (Z : Below w0.heap.size w0 ws) (hF : Fr w0 ws P0 [] ws) (R0_1 : Stable ws P0 (fun w => Kd.C (Kd.int .i64) w A0_1 n0_1 l0_1)) (hc0_1 : n0_1 ≤ c0_1) (R0_2 : Stable ws P0 (fun w => Kd.C zb6 w A0_2 n0_2 l0_2)) (hc0_2 : n0_2 ≤ c0_2) (R0_3 : Stable ws P0 (fun w => Kd.C (Kd.int .i64) w A0_3 n0_3 l0_3)) (hc0_3 : n0_3 ≤ c0_3) (R1_1 : Stable ws P0 (fun w => Kd.C kStep w A1_1 n1_1 l1_1)) (hc1_1 : n1_1 ≤ c1_1) (R1_2 : Stable ws P0 (fun w => Kd.C (Kd.int .i64) w A1_2 n1_2 l1_2)) (hc1_2 : n1_2 ≤ c1_2) (r_1 : Bool) (r_2 : Bool) (h : impl_CheckRegCode.f k a0_0 l0_1 l0_2 l0_3 a1_0 l1_1 l1_2 = some (r_1, r_2)) :
  Calls Try.prog 30 #[.agg #[.int .i64 a0_0, .slice A0_1 n0_1 c0_1, .slice A0_2 n0_2 c0_2, .slice A0_3 n0_3 c0_3], .agg #[.int .i64 a1_0, .slice A1_1 n1_1 c1_1, .slice A1_2 n1_2 c1_2]] ws (Post1 w0 ws P0 (fun (_ : Unit) => .tuple #[.bool r_1, .bool r_2]) (fun (_ : Unit) => [])) := by
 unfold impl_CheckRegCode.f at h
 obtain rfl := (R0_1 ws (KeptB.refl _ _)).1
 obtain rfl := (R0_2 ws (KeptB.refl _ _)).1
 obtain rfl := (R0_3 ws (KeptB.refl _ _)).1
 obtain rfl := (R1_1 ws (KeptB.refl _ _)).1
 obtain rfl := (R1_2 ws (KeptB.refl _ _)).1
 refine enter Try.func30 rfl Try.ntmps30 rfl hF ?_
 refine c_seq ?_
 refine za0 ?_
 refine o_e rfl (e_box rfl) (fun g1 => ?_)
 refine o_e rfl (e_box rfl) (fun g3 => ?_)
 refine o_q rfl rfl (q_asg rfl) ?_
 refine o_q rfl rfl (q_asg rfl) ?_
 refine o_end ?_
 refine za1 ?_
 refine c_seq ?_
 refine za0 ?_
 refine bindE4 h (fun i6 l7 l8 b9 hx5 h => ?_) rfl
 refine o_e rfl (zab 0 Z Try.func88 N88 rfl rfl rfl (fun w P1 hF hB hS hT => impl_RegCode_plan.calls k g1 a0_0 A0_1 c0_1 l0_1.length l0_1 A0_2 c0_2 l0_2.length l0_2 A0_3 c0_3 l0_3.length l0_3 hB hF (hS _ R0_1) hc0_1 (hS _ R0_2) hc0_2 (hS _ R0_3) hc0_3 (hT 1 _ rfl).box _ _ _ _ hx5)) (cur4 (fun A10 c11 A12 c13 => ?_))
 refine o_q rfl rfl (za2 rfl) ?_
 refine o_q rfl rfl (q_ext rfl rfl) ?_
 refine o_q rfl rfl (q_ext rfl rfl) ?_
 refine o_e rfl (zat V27 rfl) (fun g14 => ?_)
 refine o_e rfl (zan (i := 0) rfl rfl rfl Z27 rfl rfl) (fun _ => ?_)
 refine o_q rfl rfl (q_asg rfl) ?_
 refine o_end ?_
 refine za1 ?_
 refine c_seq ?_
 refine c_seq ?_
 refine za0 ?_
 refine o_q rfl rfl (za2 rfl) ?_
 refine o_q rfl rfl (q_not rfl) ?_
 refine o_q rfl rfl (za2 rfl) ?_
 refine byB b9 (fun hb16 => ?_) (fun hb16 => ?_)
 ·replace h := bb_t hb16 h
  refine o_w (za4 rfl rfl rfl (congrArg (fun b => Value.bool (!(b))) hb16)) rfl (q_ldB G27 Z27 rfl (fun w h => h.zae (i := 3) rfl) rfl) ?_
  refine za7 h (fun b18 hx17 h => ?_) rfl
  refine o_ew (za4 rfl rfl rfl (congrArg (fun b => Value.bool (!(b))) hb16)) (zab 0 Z Try.func67 N67 rfl rfl rfl (fun w P1 hF hB hS hT => impl_IsPlan.calls k a1_0 A1_1 c1_1 l1_1.length l1_1 A1_2 c1_2 l1_2.length l1_2 hB hF (hS _ R1_1) hc1_1 (hS _ R1_2) hc1_2 _ hx17)) (fun _ => ?_)
  refine o_w (za4 rfl rfl rfl (congrArg (fun b => Value.bool (!(b))) hb16)) rfl (q_not rfl) ?_
  refine o_q rfl rfl (zaq false (congrArg (fun b => Value.bool (!(b))) hb16) rfl) ?_
  refine o_end ?_
  refine za1 ?_
  refine zau _ rfl (fun hb19 => ?_) (fun hb19 => ?_)
  ·replace hb19 := nt_t hb19
   replace h := bb_f hb19 h
   refine c_seq ?_
   refine za0 ?_
   refine o_q rfl rfl (q_asg rfl) ?_
   refine o_q rfl rfl (q_asg rfl) ?_
   refine o_end ?_
   refine za1 ?_
   refine c_ret ?_
   refine zaa ?_
   have e0_ := Option.some.inj h; clear h
   have d0_ := (Prod.mk.inj e0_).1; have e1_ := (Prod.mk.inj e0_).2; clear e0_; subst d0_
   subst e1_
   exact x_r2 () Try.results30 (zai rfl) (zai rfl) rfl (fun w h => za6 [] (by decide) rfl w h)
  ·replace hb19 := nt_f hb19
   replace h := bb_t hb19 h
   refine zao ?_
   refine za1 ?_
   refine c_seq ?_
   refine za0 ?_
   refine za7 h (fun b21 hx20 h => ?_) rfl
   refine o_e rfl (zab 0 Z Try.func89 N89 rfl rfl rfl (fun w P1 hF hB hS hT => impl_samePowers.calls g14 i6 A10 c11 l7.length l7 A12 c13 l8.length l8 g3 a1_0 A1_1 c1_1 l1_1.length l1_1 A1_2 c1_2 l1_2.length l1_2 hB hF (hT 1 _ rfl).row (hT 1 _ rfl).cap (hT 2 _ rfl).row (hT 2 _ rfl).cap (hT 0 _ rfl).box (hS _ R1_1) hc1_1 (hS _ R1_2) hc1_2 (hT 3 _ rfl).box _ hx20)) (fun _ => ?_)
   refine o_q rfl rfl (q_asg rfl) ?_
   refine o_q rfl rfl (q_asg rfl) ?_
   refine o_end ?_
   refine za1 ?_
   refine c_ret ?_
   have e0_ := Option.some.inj h; clear h
   have d0_ := (Prod.mk.inj e0_).1; have e1_ := (Prod.mk.inj e0_).2; clear e0_; subst d0_
   subst e1_
   exact x_r2 () Try.results30 (zai rfl) (zai rfl) rfl (fun w h => za6 [] (by decide) rfl w h)
 ·replace h := bb_f hb16 h
  refine @o_n _ _ _ _ _ _ _ _ _ _ _ 15 (za3 rfl rfl rfl (congrArg (fun b => Value.bool (!(b))) hb16) rfl) (Eq.refl (some 15)) ?_
  refine @o_n _ _ _ _ _ _ _ _ _ _ _ 16 (za3 rfl rfl rfl (congrArg (fun b => Value.bool (!(b))) hb16) rfl) (Eq.refl (some 16)) ?_
  refine @o_n _ _ _ _ _ _ _ _ _ _ _ 17 (za3 rfl rfl rfl (congrArg (fun b => Value.bool (!(b))) hb16) rfl) (Eq.refl (some 17)) ?_
  refine o_q rfl rfl (zaq true (congrArg (fun b => Value.bool (!(b))) hb16) rfl) ?_
  refine o_end ?_
  refine za1 ?_
  refine zb1 rfl ?_
  refine c_seq ?_
  refine za0 ?_
  refine o_q rfl rfl (q_asg rfl) ?_
  refine o_q rfl rfl (q_asg rfl) ?_
  refine o_end ?_
  refine za1 ?_
  refine c_ret ?_
  refine zaa ?_
  have e0_ := Option.some.inj h; clear h
  have d0_ := (Prod.mk.inj e0_).1; have e1_ := (Prod.mk.inj e0_).2; clear e0_; subst d0_
  subst e1_
  exact x_r2 () Try.results30 (zai rfl) (zai rfl) rfl (fun w h => za6 [] (by decide) rfl w h)

/-! ### loop.example/g01098/spec.l1Own: function 125 -/
def spec_l1Own.f (l0 : List Int) : Option (List Int) := (ap ([] : List Int) l0).bind fun l4 => some l4
set_option maxHeartbeats 600000 in
set_option maxRecDepth 100000 in
theorem spec_l1Own.calls {w0 ws : World} {P0 : Nat → Prop} (A0 : Option Addr) (c0 : Nat) (n0 : Nat) (l0 : List Int) (Z : Below w0.heap.size w0 ws) (hF : Fr w0 ws P0 [] ws) (R0 : Stable ws P0 (fun w => Kd.C (Kd.int .i64) w A0 n0 l0)) (hc0 : n0 ≤ c0) (r_1 : List Int) (h : spec_l1Own.f l0 = some r_1) :
  Calls Try.prog 125 #[.slice A0 n0 c0] ws (Post1 w0 ws P0 (fun ((q_2, q_3) : (Option Addr) × Nat) => .slice q_2 r_1.length q_3) (fun ((q_2, q_3) : (Option Addr) × Nat) => [row (Kd.int .i64) 3 (.slice q_2 r_1.length q_3) r_1])) := by
 unfold spec_l1Own.f at h
 obtain rfl := (R0 ws (KeptB.refl _ _)).1
 refine enter Try.func125 rfl Try.ntmps125 rfl hF ?_
 refine c_seq ?_
 refine za0 ?_
 refine o_q rfl rfl (q_asg rfl) ?_
 refine o_end ?_
 refine za1 ?_
 refine c_seq ?_
 refine za0 ?_
 refine o_e rfl (e_lit0 (Kd.int .i64) Try.underlying25 I3) (cur2 (fun A1 c2 => ?_))
 refine o_q rfl rfl (za2 rfl) ?_
 refine za7 h (fun l4 ha5 h => ?_) rfl
 refine o_e rfl (e_appr (i := 0) Try.underlying25 I3 rfl (by decide) (by decide) (fun _ _ _ _ h => h) rfl (fun w h => R0.now Z h) rfl rfl ha5) (cur2 (fun A6 c7 => ?_))
 refine o_q rfl rfl (q_asg rfl) ?_
 refine o_end ?_
 refine za1 ?_
 refine c_ret ?_
 have e0_ := Option.some.inj h; clear h
 subst e0_
 exact x_r1 (A6, c7) Try.results125 (zai rfl) rfl (fun w h => za6 [0] (by decide) rfl w h)

/-! ### loop.example/g01098/spec.plPowers: function 153 -/
def spec_plPowers.l0 (l4 : List (List Int)) : (List Int) → (List (List Int)) → Int → Option (List (List Int))
 | [], l9, i13 => some l9
 | y14 :: ys15, l9, i13 => (gt l4 y14).bind fun y27 => (spec_l1Own.f y27).bind fun l30 => (ap l9 ([l30] : List (List Int))).bind fun l37 => spec_plPowers.l0 l4 ys15 l37 (i13 + 1)
def spec_plPowers.f (k : Nat) (a0_0 : Int) (l0_1 : List SStep) (l0_2 : List Int) : Option (List (List Int)) := (spec_plExponents.f k a0_0 l0_1 l0_2).bind fun l4 => (spec_plPowers.l0 l4 l0_2 ([] : List (List Int)) 0).bind fun l9 => some l9
set_option maxHeartbeats 600000 in
set_option maxRecDepth 100000 in
theorem spec_plPowers.calls (k : Nat) {w0 ws : World} {P0 : Nat → Prop} (a0_0 : Int) (A0_1 : Option Addr) (c0_1 : Nat) (n0_1 : Nat) (l0_1 : List SStep) (A0_2 : Option Addr) (c0_2 : Nat) (n0_2 : Nat) (l0_2 : List Int) (Z : Below w0.heap.size w0 ws) (hF : Fr w0 ws P0 [] ws) (R0_1 : Stable ws P0 (fun w => Kd.C kStep w A0_1 n0_1 l0_1)) (hc0_1 : n0_1 ≤ c0_1) (R0_2 : Stable ws P0 (fun w => Kd.C (Kd.int .i64) w A0_2 n0_2 l0_2)) (hc0_2 : n0_2 ≤ c0_2) (r_1 : List (List Int)) (h : spec_plPowers.f k a0_0 l0_1 l0_2 = some r_1) :
  Calls Try.prog 153 #[.agg #[.int .i64 a0_0, .slice A0_1 n0_1 c0_1, .slice A0_2 n0_2 c0_2]] ws (Post1 w0 ws P0 (fun ((q_2, q_3, q_4) : (Option Addr) × Nat × Hd) => .slice q_2 r_1.length q_3) (fun ((q_2, q_3, q_4) : (Option Addr) × Nat × Hd) => [row (gk 3 (Kd.int .i64)) 25 (.slice q_2 r_1.length q_3) (zp q_4 r_1)])) := by
 unfold spec_plPowers.f at h
 obtain rfl := (R0_1 ws (KeptB.refl _ _)).1
 obtain rfl := (R0_2 ws (KeptB.refl _ _)).1
 refine enter Try.func153 rfl Try.ntmps153 rfl hF ?_
 refine c_seq ?_
 refine za0 ?_
 refine o_e rfl (e_box rfl) (fun g1 => ?_)
 refine o_q rfl rfl (q_asg rfl) ?_
 refine o_end ?_
 refine za1 ?_
 refine c_seq ?_
 refine za0 ?_
 refine o_q rfl rfl (q_ldB G27 Z27 rfl (fun w h => h.zae (i := 0) rfl) rfl) ?_
 refine za7 h (fun l4 hx3 h => ?_) rfl
 refine o_e rfl (zab 0 Z Try.func135 N135 rfl rfl rfl (fun w P1 hF hB hS hT => spec_plExponents.calls k a0_0 A0_1 c0_1 l0_1.length l0_1 A0_2 c0_2 l0_2.length l0_2 hB hF (hS _ R0_1) hc0_1 (hS _ R0_2) hc0_2 _ hx3)) (cur3 (fun A5 c6 H7 => ?_))
 refine o_q rfl rfl (q_asg rfl) ?_
 refine o_end ?_
 refine za1 ?_
 refine c_seq ?_
 refine za0 ?_
 refine o_q rfl rfl (q_asg rfl) ?_
 refine o_end ?_
 refine za1 ?_
 refine c_seq ?_
 refine c_seq ?_
 refine za0 ?_
 refine o_q rfl rfl (q_f F27_2 rfl) ?_
 refine o_q rfl rfl (q_ldb Y25 rfl (fun w h => h.zae (i := 1) rfl) rfl) ?_
 refine o_q rfl rfl (q_len Try.underlying25 rfl) ?_
 refine o_q rfl rfl (za2 rfl) ?_
 refine o_end ?_
 refine za1 ?_
 refine zaj ?_
 refine c_nil (gk 3 (Kd.int .i64)) 25 ?_
 refine za7 h (fun o21 hl20 hR19 => ?_) rfl
 clear h
 refine zba (p := l0_2.length ≤ 9223372036854775807) (fun w h => (R0_2.now Z h).2.1) (fun hm18 => ?_)
 refine zax (σ := (List Int) × (List (List Int)) × Int × (Option Addr) × Nat × Hd) (fun k16 ((ys15, l9, i13, A10, c11, H12) : (List Int) × (List (List Int)) × Int × (Option Addr) × Nat × Hd) => Rg l0_2 i13 ys15 ∧ ys15.length = k16 ∧ spec_plPowers.l0 l4 ys15 l9 i13 = some o21) [4, 6, 12, 13, 14, 15, 16, 17, 18, 19, 20, 21, 22, 23, 24] (fun ((ys15, l9, i13, A10, c11, H12) : (List Int) × (List (List Int)) × Int × (Option Addr) × Nat × Hd) => [(4, .slice A10 l9.length c11), (12, .int .i64 i13)]) (fun ((ys15, l9, i13, A10, c11, H12) : (List Int) × (List (List Int)) × Int × (Option Addr) × Nat × Hd) => [row (gk 3 (Kd.int .i64)) 25 (.slice A10 l9.length c11) (zp H12 l9), row (gk 3 (Kd.int .i64)) 25 (.slice A5 l4.length c6) (zp H7 l4), box g1 27 #[.int .i64 a0_0, .slice A0_1 l0_1.length c0_1, .slice A0_2 l0_2.length c0_2]]) l0_2.length (l0_2, ([] : List (List Int)), 0, none, 0, ([] : Hd)) ⟨Rg.start _, rfl, hl20⟩ ⟨rfl, rfl, trivial⟩ (fun w h => h) ?_
 refine fun k16 => cur6 (listC (fun l9 i13 A10 c11 H12 U22 hJ_ => ?_) (fun y14 ys15 l9 i13 A10 c11 H12 U22 hJ_ => ?_))
 ·skip
  clear hl20
  have hr17 := hJ_.1; have hk23 := hJ_.2.1; have h := hJ_.2.2; clear hJ_
  replace h : spec_plPowers.l0 l4 [] l9 i13 = some o21 := h
  rw [spec_plPowers.l0] at h
  refine c_seq ?_
  refine za0 ?_
  refine o_q rfl rfl (q_lss rfl rfl) ?_
  refine o_end ?_
  refine za1 ?_
  refine c_seq ?_
  refine zb3 (congrArg Value.bool hr17.ge) ?_
  refine zb4 ?_
  refine za8 ?_
  refine za8 ?_
  have e_ := Option.some.inj h; replace h := hR19; rw [← e_] at h; clear e_
  refine x_hit ?_
  refine za1 ?_
  refine c_seq ?_
  refine za0 ?_
  refine o_q rfl rfl (za2 rfl) ?_
  refine o_q rfl rfl (q_asg rfl) ?_
  refine o_end ?_
  refine za1 ?_
  refine c_ret ?_
  have e0_ := Option.some.inj h; clear h
  subst e0_
  exact x_r1 (A10, c11, H12) Try.results153 (zai rfl) rfl (fun w h => za6 [0] (by decide) rfl w h)
 ·skip
  clear hl20
  have hr17 := hJ_.1; have hk23 := hJ_.2.1; have h := hJ_.2.2; clear hJ_
  replace h : spec_plPowers.l0 l4 (y14 :: ys15) l9 i13 = some o21 := h
  rw [spec_plPowers.l0] at h
  refine c_seq ?_
  refine za0 ?_
  refine o_q rfl rfl (q_lss rfl rfl) ?_
  refine o_end ?_
  refine za1 ?_
  refine c_seq ?_
  refine zb1 (congrArg Value.bool hr17.lt) ?_
  refine zao ?_
  refine za1 ?_
  refine c_seq ?_
  refine zaj ?_
  refine c_seq ?_
  refine za0 ?_
  refine zaz (p := Sh A0_2 l0_2.length l0_2.length) (fun w h => f_sh (dk := (Kd.int .i64)) h (fun w h => R0_2.now Z h)) (fun hq24 => ?_)
  refine o_q rfl rfl (q_ix Try.underlying25 Z3 rfl rfl hq24 hr17.get) ?_
  refine o_q rfl rfl (q_lde (off := 0) Y3 rfl rfl (fun w h => R0_2.now Z h) hr17.get (fun _ _ h => h) rfl) ?_
  refine o_q rfl rfl (q_asg rfl) ?_
  refine o_end ?_
  refine za1 ?_
  refine za0 ?_
  refine o_q rfl rfl (za2 rfl) ?_
  refine o_q rfl rfl (za2 rfl) ?_
  refine o_q rfl rfl (za2 rfl) ?_
  refine zaz (p := Sh A5 l4.length (zp H7 l4).length) (fun w h => f_sh (dk := (gk 3 (Kd.int .i64))) h (fun w h => h.zaw (i := 1) rfl)) (fun hq25 => ?_)
  refine za7 h (fun y27 hg26 h => ?_) rfl
  refine o_q rfl rfl (q_ix Try.underlying73 Z25 rfl rfl hq25 (gt_zp hg26)) ?_
  refine zaz (p := y27.length ≤ hC H7 y14) (fun w h => (K_in (h.zaw (i := 1) rfl) hg26).1) (fun hc28 => ?_)
  refine o_q rfl rfl (q_lde (off := 0) Y25 rfl rfl (fun w h => h.zaw (i := 1) rfl) (gt_zp hg26) (fun _ _ h => h.1) rfl) ?_
  refine za7 h (fun l30 hx29 h => ?_) rfl
  refine o_e rfl (zab 0 Z Try.func125 N125 rfl rfl rfl (fun w P1 hF hB hS hT => spec_l1Own.calls (hA H7 y14) (hC H7 y14) y27.length y27 hB hF (stab_in (hT 1 _ rfl).row hg26) hc28 _ hx29)) (cur2 (fun A31 c32 => ?_))
  refine o_e rfl (e_litG (j := 0) (ue := 3) (dk := (Kd.int .i64)) (ys := l30) Try.underlying73 I25 rfl rfl rfl) (cur3 (fun A33 c34 H36 => ?_))
  refine za7 h (fun l37 ha38 h => ?_) rfl
  refine o_e rfl (e_appG (i := 2) (j := 0) Try.underlying73 I25 rfl (by decide) rfl rfl rfl rfl rfl ha38) (cur3 (fun A39 c40 H41 => ?_))
  refine o_q rfl rfl (q_asg rfl) ?_
  refine o_end ?_
  refine zal ?_
  refine za1 ?_
  refine za0 ?_
  refine o_q rfl rfl (q_up rfl rfl (hr17.up hm18)) ?_
  refine o_q rfl rfl (za2 rfl) ?_
  refine o_end ?_
  refine zam ys15.length (ys15, l37, i13 + 1, A39, c40, H41) (by rw [← hk23]; exact Nat.lt_succ_self _) ⟨hr17.step, rfl, h⟩ ⟨rfl, rfl, trivial⟩ (fun w h => za6 [2, 3, 4] (by decide) rfl w h) ?_
  repeat (first | exact zac _ _ | refine zaf rfl ?_ | refine zad rfl ?_ | refine zah rfl ?_)

/-! ### loop.example/g01098/spec.l1Same: function 183 -/
def spec_l1Same.l0 (l1 : List Int) : (List Int) → Int → Option ((Bool) ⊕ (Unit))
 | [], i2 => some (.inr ())
 | y3 :: ys4, i2 => (gt l1 i2).bind fun y16 => if y3 ≠ y16 then (some (.inl false)) else (spec_l1Same.l0 l1 ys4 (i2 + 1))
def spec_l1Same.f (l0 : List Int) (l1 : List Int) : Option Bool := if (l0.length : Int) ≠ (l1.length : Int) then (some false) else ((spec_l1Same.l0 l1 l0 0).bind fun o_ => match o_ with | .inl r_ => some r_ | .inr _ => some true)
set_option maxHeartbeats 600000 in
set_option maxRecDepth 100000 in
theorem spec_l1Same.calls {w0 ws : World} {P0 : Nat → Prop} (A0 : Option Addr) (c0 : Nat) (n0 : Nat) (l0 : List Int) (A1 : Option Addr) (c1 : Nat) (n1 : Nat) (l1 : List Int) (Z : Below w0.heap.size w0 ws) (hF : Fr w0 ws P0 [] ws) (R0 : Stable ws P0 (fun w => Kd.C (Kd.int .i64) w A0 n0 l0)) (hc0 : n0 ≤ c0) (R1 : Stable ws P0 (fun w => Kd.C (Kd.int .i64) w A1 n1 l1)) (hc1 : n1 ≤ c1) (r_1 : Bool) (h : spec_l1Same.f l0 l1 = some r_1) :
  Calls Try.prog 183 #[.slice A0 n0 c0, .slice A1 n1 c1] ws (Post1 w0 ws P0 (fun (_ : Unit) => .bool r_1) (fun (_ : Unit) => [])) := by
 unfold spec_l1Same.f at h
 obtain rfl := (R0 ws (KeptB.refl _ _)).1
 obtain rfl := (R1 ws (KeptB.refl _ _)).1
 refine enter Try.func183 rfl Try.ntmps183 rfl hF ?_
 refine c_seq ?_
 refine za0 ?_
 refine o_q rfl rfl (q_asg rfl) ?_
 refine o_end ?_
 refine za1 ?_
 refine c_seq ?_
 refine c_seq ?_
 refine za0 ?_
 refine o_q rfl rfl (za2 rfl) ?_
 refine o_q rfl rfl (q_len Try.underlying25 rfl) ?_
 refine o_q rfl rfl (za2 rfl) ?_
 refine o_q rfl rfl (q_len Try.underlying25 rfl) ?_
 refine o_q rfl rfl (q_neq rfl rfl) ?_
 refine o_end ?_
 refine za1 ?_
 refine zau _ rfl (fun hb1 => ?_) (fun hb1 => ?_)
 ·skip
  replace h := br_t hb1 h
  refine c_seq ?_
  refine za0 ?_
  refine o_q rfl rfl (q_asg rfl) ?_
  refine o_end ?_
  refine za1 ?_
  refine c_ret ?_
  refine zaa ?_
  have e0_ := Option.some.inj h; clear h
  subst e0_
  exact x_r1 () Try.results183 (zai rfl) rfl (fun w h => za6 [] (by decide) rfl w h)
 ·skip
  replace h := br_f hb1 h
  refine zao ?_
  refine za1 ?_
  refine c_seq ?_
  refine c_seq ?_
  refine za0 ?_
  refine o_q rfl rfl (za2 rfl) ?_
  refine o_q rfl rfl (q_len Try.underlying25 rfl) ?_
  refine o_q rfl rfl (za2 rfl) ?_
  refine o_end ?_
  refine za1 ?_
  refine zaj ?_
  refine za7 h (fun o10 hl9 hR8 => ?_) rfl
  clear h
  refine zba (p := l0.length ≤ 9223372036854775807) (fun w h => (R0.now Z h).2.1) (fun hm7 => ?_)
  refine zax (σ := (List Int) × Int) (fun k5 ((ys4, i2) : (List Int) × Int) => Rg l0 i2 ys4 ∧ ys4.length = k5 ∧ spec_l1Same.l0 l1 ys4 i2 = some o10) [4, 5, 13, 14, 15, 16, 17, 18, 19, 20, 21, 22, 23, 24, 25] (fun ((ys4, i2) : (List Int) × Int) => [(13, .int .i64 i2)]) (fun ((ys4, i2) : (List Int) × Int) => []) l0.length (l0, 0) ⟨Rg.start _, rfl, hl9⟩ ⟨rfl, trivial⟩ (fun w h => h) ?_
  refine fun k5 => cur2 (listC (fun i2 U11 hJ_ => ?_) (fun y3 ys4 i2 U11 hJ_ => ?_))
  ·skip
   clear hl9
   have hr6 := hJ_.1; have hk12 := hJ_.2.1; have h := hJ_.2.2; clear hJ_
   replace h : spec_l1Same.l0 l1 [] i2 = some o10 := h
   rw [spec_l1Same.l0] at h
   refine c_seq ?_
   refine za0 ?_
   refine o_q rfl rfl (q_lss rfl rfl) ?_
   refine o_end ?_
   refine za1 ?_
   refine c_seq ?_
   refine zb3 (congrArg Value.bool hr6.ge) ?_
   refine zb4 ?_
   refine za8 ?_
   refine za8 ?_
   have e_ := Option.some.inj h; replace h := hR8; rw [← e_] at h; clear e_
   refine x_hit ?_
   refine za1 ?_
   refine c_seq ?_
   refine za0 ?_
   refine o_q rfl rfl (q_asg rfl) ?_
   refine o_end ?_
   refine za1 ?_
   refine c_ret ?_
   have e0_ := Option.some.inj h; clear h
   subst e0_
   exact x_r1 () Try.results183 (zai rfl) rfl (fun w h => za6 [] (by decide) rfl w h)
  ·skip
   clear hl9
   have hr6 := hJ_.1; have hk12 := hJ_.2.1; have h := hJ_.2.2; clear hJ_
   replace h : spec_l1Same.l0 l1 (y3 :: ys4) i2 = some o10 := h
   rw [spec_l1Same.l0] at h
   refine c_seq ?_
   refine za0 ?_
   refine o_q rfl rfl (q_lss rfl rfl) ?_
   refine o_end ?_
   refine za1 ?_
   refine c_seq ?_
   refine zb1 (congrArg Value.bool hr6.lt) ?_
   refine zao ?_
   refine za1 ?_
   refine c_seq ?_
   refine zaj ?_
   refine c_seq ?_
   refine za0 ?_
   refine o_q rfl rfl (za2 rfl) ?_
   refine o_q rfl rfl (q_asg rfl) ?_
   refine o_end ?_
   refine za1 ?_
   refine c_seq ?_
   refine a_start (ds := []) MO rfl ?_
   refine za9 0 rfl rfl rfl (by kernel_rfl) (fun _ _ _ h => h) (za2 rfl) ?_
   refine za9 1 rfl rfl rfl (by kernel_rfl) (fun _ _ _ h => h) (za2 rfl) ?_
   refine a_fact (p := Sh A0 l0.length l0.length) (fun w h => f_sh (dk := (Kd.int .i64)) h (fun w h => R0.now Z h)) (fun hq13 => ?_)
   refine za9 2 rfl rfl rfl (by kernel_rfl) (fun _ _ _ h => h) (q_ix Try.underlying25 Z3 rfl rfl hq13 hr6.get) ?_
   refine zb0 3 rfl rfl rfl (by kernel_rfl) (fun _ _ _ h => h) (fun w h => h) (q_lde (off := 0) Y3 rfl rfl (fun w h => R0.now Z h) hr6.get (fun _ _ h => h) rfl) ?_
   refine za9 4 rfl rfl rfl (by kernel_rfl) (fun _ _ _ h => h) (za2 rfl) ?_
   refine za9 5 rfl rfl rfl (by kernel_rfl) (fun _ _ _ h => h) (za2 rfl) ?_
   refine a_fact (p := Sh A1 l1.length l1.length) (fun w h => f_sh (dk := (Kd.int .i64)) h (fun w h => R1.now Z h)) (fun hq14 => ?_)
   refine za7 h (fun y16 hg15 h => ?_) rfl
   refine za9 6 rfl rfl rfl (by kernel_rfl) (fun _ _ _ h => h) (q_ix Try.underlying25 Z3 rfl rfl hq14 hg15) ?_
   refine zb0 7 rfl rfl rfl (by kernel_rfl) (fun _ _ _ h => h) (fun w h => h) (q_lde (off := 0) Y3 rfl rfl (fun w h => R1.now Z h) hg15 (fun _ _ h => h) rfl) ?_
   refine za9 8 rfl rfl rfl (by kernel_rfl) (fun _ _ _ h => h) (q_neq rfl rfl) ?_
   refine zav (by kernel_rfl) ?_
   refine za1 ?_
   refine zau _ rfl (fun hb17 => ?_) (fun hb17 => ?_)
   ·skip
    replace h := br_t hb17 h
    refine c_seq ?_
    refine za0 ?_
    refine o_q rfl rfl (q_asg rfl) ?_
    refine o_end ?_
    refine za1 ?_
    refine c_ret ?_
    refine zar ?_
    refine zaa ?_
    refine zaa ?_
    have e_ := Option.some.inj h; replace h := hR8; rw [← e_] at h; clear e_
    refine zar ?_
    refine zaa ?_
    have e0_ := Option.some.inj h; clear h
    subst e0_
    exact x_r1 () Try.results183 (zai rfl) rfl (fun w h => za6 [] (by decide) rfl w h)
   ·skip
    replace h := br_f hb17 h
    refine zao ?_
    refine zal ?_
    refine za1 ?_
    refine za0 ?_
    refine o_q rfl rfl (q_up rfl rfl (hr6.up hm7)) ?_
    refine o_q rfl rfl (za2 rfl) ?_
    refine o_end ?_
    refine zam ys4.length (ys4, i2 + 1) (by rw [← hk12]; exact Nat.lt_succ_self _) ⟨hr6.step, rfl, h⟩ ⟨rfl, trivial⟩ (fun w h => za6 [] (by decide) rfl w h) ?_
    repeat (first | exact zac _ _ | refine zaf rfl ?_ | refine zad rfl ?_ | refine zah rfl ?_)

/-! ### loop.example/g01098/spec.plSame: function 152 -/
def spec_plSame.l0 (l1 : List (List Int)) : (List (List Int)) → Int → Option ((Bool) ⊕ (Unit))
 | [], i2 => some (.inr ())
 | y3 :: ys4, i2 => (gt l1 i2).bind fun y17 => (spec_l1Same.f y3 y17).bind fun b20 => if b20 = true then (spec_plSame.l0 l1 ys4 (i2 + 1)) else (some (.inl false))
def spec_plSame.f (l0 : List (List Int)) (l1 : List (List Int)) : Option Bool := if (l0.length : Int) ≠ (l1.length : Int) then (some false) else ((spec_plSame.l0 l1 l0 0).bind fun o_ => match o_ with | .inl r_ => some r_ | .inr _ => some true)
set_option maxHeartbeats 600000 in
set_option maxRecDepth 100000 in
theorem spec_plSame.calls {w0 ws : World} {P0 : Nat → Prop} (A0 : Option Addr) (c0 : Nat) (n0 : Nat) (H0 : Hd) (l0 : List (List Int)) (A1 : Option Addr) (c1 : Nat) (n1 : Nat) (H1 : Hd) (l1 : List (List Int)) (Z : Below w0.heap.size w0 ws) (hF : Fr w0 ws P0 [] ws) (R0 : Stable ws P0 (fun w => Kd.C (gk 3 (Kd.int .i64)) w A0 n0 (zp H0 l0))) (hc0 : n0 ≤ c0) (R1 : Stable ws P0 (fun w => Kd.C (gk 3 (Kd.int .i64)) w A1 n1 (zp H1 l1))) (hc1 : n1 ≤ c1) (r_1 : Bool) (h : spec_plSame.f l0 l1 = some r_1) :
  Calls Try.prog 152 #[.slice A0 n0 c0, .slice A1 n1 c1] ws (Post1 w0 ws P0 (fun (_ : Unit) => .bool r_1) (fun (_ : Unit) => [])) := by
 unfold spec_plSame.f at h
 obtain rfl := (zp_len _ _).symm.trans (R0 ws (KeptB.refl _ _)).1
 obtain rfl := (zp_len _ _).symm.trans (R1 ws (KeptB.refl _ _)).1
 refine enter Try.func152 rfl Try.ntmps152 rfl hF ?_
 refine c_seq ?_
 refine za0 ?_
 refine o_q rfl rfl (q_asg rfl) ?_
 refine o_end ?_
 refine za1 ?_
 refine c_seq ?_
 refine c_seq ?_
 refine za0 ?_
 refine o_q rfl rfl (za2 rfl) ?_
 refine o_q rfl rfl (q_len Try.underlying73 rfl) ?_
 refine o_q rfl rfl (za2 rfl) ?_
 refine o_q rfl rfl (q_len Try.underlying73 rfl) ?_
 refine o_q rfl rfl (q_neq rfl rfl) ?_
 refine o_end ?_
 refine za1 ?_
 refine zau _ rfl (fun hb1 => ?_) (fun hb1 => ?_)
 ·skip
  replace h := br_t hb1 h
  refine c_seq ?_
  refine za0 ?_
  refine o_q rfl rfl (q_asg rfl) ?_
  refine o_end ?_
  refine za1 ?_
  refine c_ret ?_
  refine zaa ?_
  have e0_ := Option.some.inj h; clear h
  subst e0_
  exact x_r1 () Try.results152 (zai rfl) rfl (fun w h => za6 [] (by decide) rfl w h)
 ·skip
  replace h := br_f hb1 h
  refine zao ?_
  refine za1 ?_
  refine c_seq ?_
  refine c_seq ?_
  refine za0 ?_
  refine o_q rfl rfl (za2 rfl) ?_
  refine o_q rfl rfl (q_len Try.underlying73 rfl) ?_
  refine o_q rfl rfl (za2 rfl) ?_
  refine o_end ?_
  refine za1 ?_
  refine zaj ?_
  refine za7 h (fun o10 hl9 hR8 => ?_) rfl
  clear h
  refine zba (p := l0.length ≤ 9223372036854775807) (fun w h => (R0.now Z h).2.1) (fun hm7 => ?_)
  refine zax (σ := (List (List Int)) × Int) (fun k5 ((ys4, i2) : (List (List Int)) × Int) => Rg l0 i2 ys4 ∧ ys4.length = k5 ∧ spec_plSame.l0 l1 ys4 i2 = some o10) [4, 5, 13, 14, 15, 16, 17, 18, 19, 20, 21, 22, 23, 24, 25, 26] (fun ((ys4, i2) : (List (List Int)) × Int) => [(13, .int .i64 i2)]) (fun ((ys4, i2) : (List (List Int)) × Int) => []) l0.length (l0, 0) ⟨Rg.start _, rfl, hl9⟩ ⟨rfl, trivial⟩ (fun w h => h) ?_
  refine fun k5 => cur2 (listC (fun i2 U11 hJ_ => ?_) (fun y3 ys4 i2 U11 hJ_ => ?_))
  ·skip
   clear hl9
   have hr6 := hJ_.1; have hk12 := hJ_.2.1; have h := hJ_.2.2; clear hJ_
   replace h : spec_plSame.l0 l1 [] i2 = some o10 := h
   rw [spec_plSame.l0] at h
   refine c_seq ?_
   refine za0 ?_
   refine o_q rfl rfl (q_lss rfl rfl) ?_
   refine o_end ?_
   refine za1 ?_
   refine c_seq ?_
   refine zb3 (congrArg Value.bool hr6.ge) ?_
   refine zb4 ?_
   refine za8 ?_
   refine za8 ?_
   have e_ := Option.some.inj h; replace h := hR8; rw [← e_] at h; clear e_
   refine x_hit ?_
   refine za1 ?_
   refine c_seq ?_
   refine za0 ?_
   refine o_q rfl rfl (q_asg rfl) ?_
   refine o_end ?_
   refine za1 ?_
   refine c_ret ?_
   have e0_ := Option.some.inj h; clear h
   subst e0_
   exact x_r1 () Try.results152 (zai rfl) rfl (fun w h => za6 [] (by decide) rfl w h)
  ·skip
   clear hl9
   have hr6 := hJ_.1; have hk12 := hJ_.2.1; have h := hJ_.2.2; clear hJ_
   replace h : spec_plSame.l0 l1 (y3 :: ys4) i2 = some o10 := h
   rw [spec_plSame.l0] at h
   refine c_seq ?_
   refine za0 ?_
   refine o_q rfl rfl (q_lss rfl rfl) ?_
   refine o_end ?_
   refine za1 ?_
   refine c_seq ?_
   refine zb1 (congrArg Value.bool hr6.lt) ?_
   refine zao ?_
   refine za1 ?_
   refine c_seq ?_
   refine zaj ?_
   refine c_seq ?_
   refine za0 ?_
   refine o_q rfl rfl (za2 rfl) ?_
   refine o_q rfl rfl (q_asg rfl) ?_
   refine o_end ?_
   refine za1 ?_
   refine c_seq ?_
   refine a_start (ds := []) MO rfl ?_
   refine za9 0 rfl rfl rfl (by kernel_rfl) (fun _ _ _ h => h) (za2 rfl) ?_
   refine za9 1 rfl rfl rfl (by kernel_rfl) (fun _ _ _ h => h) (za2 rfl) ?_
   refine a_fact (p := Sh A0 l0.length (zp H0 l0).length) (fun w h => f_sh (dk := (gk 3 (Kd.int .i64))) h (fun w h => R0.now Z h)) (fun hq13 => ?_)
   refine za9 2 rfl rfl rfl (by kernel_rfl) (fun _ _ _ h => h) (q_ix Try.underlying73 Z25 rfl rfl hq13 (gt_zp hr6.get)) ?_
   refine a_fact (p := y3.length ≤ hC H0 i2) (fun w h => (K_in (R0.now Z h) hr6.get).1) (fun hc14 => ?_)
   refine zb0 3 rfl rfl rfl (by kernel_rfl) (fun _ _ _ h => h) (fun w h => h) (q_lde (off := 0) Y25 rfl rfl (fun w h => R0.now Z h) (gt_zp hr6.get) (fun _ _ h => h.1) rfl) ?_
   refine za9 4 rfl rfl rfl (by kernel_rfl) (fun _ _ _ h => h) (za2 rfl) ?_
   refine za9 5 rfl rfl rfl (by kernel_rfl) (fun _ _ _ h => h) (za2 rfl) ?_
   refine a_fact (p := Sh A1 l1.length (zp H1 l1).length) (fun w h => f_sh (dk := (gk 3 (Kd.int .i64))) h (fun w h => R1.now Z h)) (fun hq15 => ?_)
   refine za7 h (fun y17 hg16 h => ?_) rfl
   refine za9 6 rfl rfl rfl (by kernel_rfl) (fun _ _ _ h => h) (q_ix Try.underlying73 Z25 rfl rfl hq15 (gt_zp hg16)) ?_
   refine a_fact (p := y17.length ≤ hC H1 i2) (fun w h => (K_in (R1.now Z h) hg16).1) (fun hc18 => ?_)
   refine zb0 7 rfl rfl rfl (by kernel_rfl) (fun _ _ _ h => h) (fun w h => h) (q_lde (off := 0) Y25 rfl rfl (fun w h => R1.now Z h) (gt_zp hg16) (fun _ _ h => h.1) rfl) ?_
   refine za7 h (fun b20 hx19 h => ?_) rfl
   refine a_one 8 rfl rfl (by kernel_rfl) rfl (zab 0 Z Try.func183 N183 rfl rfl rfl (fun w P1 hF hB hS hT => spec_l1Same.calls (hA H0 i2) (hC H0 i2) y3.length y3 (hA H1 i2) (hC H1 i2) y17.length y17 hB hF (stab_in (hS _ R0) hr6.get) hc14 (stab_in (hS _ R1) hg16) hc18 _ hx19)) (fun s w h => h) (fun _ => ?_)
   refine za9 9 rfl rfl rfl (by kernel_rfl) (fun _ _ _ h => h) (q_not rfl) ?_
   refine zav (by kernel_rfl) ?_
   refine za1 ?_
   refine zau _ rfl (fun hb21 => ?_) (fun hb21 => ?_)
   ·replace hb21 := nt_t hb21
    replace h := bb_f hb21 h
    refine c_seq ?_
    refine za0 ?_
    refine o_q rfl rfl (q_asg rfl) ?_
    refine o_end ?_
    refine za1 ?_
    refine c_ret ?_
    refine zar ?_
    refine zaa ?_
    refine zaa ?_
    have e_ := Option.some.inj h; replace h := hR8; rw [← e_] at h; clear e_
    refine zar ?_
    refine zaa ?_
    have e0_ := Option.some.inj h; clear h
    subst e0_
    exact x_r1 () Try.results152 (zai rfl) rfl (fun w h => za6 [] (by decide) rfl w h)
   ·replace hb21 := nt_f hb21
    replace h := bb_t hb21 h
    refine zao ?_
    refine zal ?_
    refine za1 ?_
    refine za0 ?_
    refine o_q rfl rfl (q_up rfl rfl (hr6.up hm7)) ?_
    refine o_q rfl rfl (za2 rfl) ?_
    refine o_end ?_
    refine zam ys4.length (ys4, i2 + 1) (by rw [← hk12]; exact Nat.lt_succ_self _) ⟨hr6.step, rfl, h⟩ ⟨rfl, trivial⟩ (fun w h => za6 [] (by decide) rfl w h) ?_
    repeat (first | exact zac _ _ | refine zaf rfl ?_ | refine zad rfl ?_ | refine zah rfl ?_)

/-! ### loop.example/g01098/spec.SamePowers: function 103 -/
def spec_SamePowers.f (k : Nat) (a0_0 : Int) (l0_1 : List SStep) (l0_2 : List Int) (a1_0 : Int) (l1_1 : List SStep) (l1_2 : List Int) : Option (Bool × Bool) := (spec_plGood.f k a0_0 l0_1 l0_2).bind fun b6 => if b6 = true then ((spec_plGood.f k a1_0 l1_1 l1_2).bind fun b9 => if b9 = true then (if a0_0 = a1_0 then ((spec_plPowers.f k a0_0 l0_1 l0_2).bind fun l13 => (spec_plPowers.f k a1_0 l1_1 l1_2).bind fun l18 => (spec_plSame.f l13 l18).bind fun b23 => some (b23, true)) else (some (false, true))) else (some (false, false))) else (some (false, false))
set_option maxHeartbeats 600000 in
set_option maxRecDepth 100000 in
theorem spec_SamePowers.calls (k : Nat) {w0 ws : World} {P0 : Nat → Prop} (a0_0 : Int) (A0_1 : Option Addr) (c0_1 : Nat) (n0_1 : Nat) (l0_1 : List SStep) (A0_2 : Option Addr) (c0_2 : Nat) (n0_2 : Nat) (l0_2 : List Int) (a1_0 : Int) (A1_1 : Option Addr) (c1_1 : Nat) (n1_1 : Nat) (l1_1 : List SStep) (A1_2 : Option Addr) (c1_2 : Nat) (n1_2 : Nat) (l1_2 : List Int) (Z : Below w0.heap.size w0 ws) (hF : Fr w0 ws P0 [] ws) (R0_1 : Stable ws P0 (fun w => Kd.C kStep w A0_1 n0_1 l0_1)) (hc0_1 : n0_1 ≤ c0_1) (R0_2 : Stable ws P0 (fun w => Kd.C (Kd.int .i64) w A0_2 n0_2 l0_2)) (hc0_2 : n0_2 ≤ c0_2) (R1_1 : Stable ws P0 (fun w => Kd.C kStep w A1_1 n1_1 l1_1)) (hc1_1 : n1_1 ≤ c1_1) (R1_2 : Stable ws P0 (fun w => Kd.C (Kd.int .i64) w A1_2 n1_2 l1_2)) (hc1_2 : n1_2 ≤ c1_2) (r_1 : Bool) (r_2 : Bool) (h : spec_SamePowers.f k a0_0 l0_1 l0_2 a1_0 l1_1 l1_2 = some (r_1, r_2)) :
  Calls Try.prog 103 #[.agg #[.int .i64 a0_0, .slice A0_1 n0_1 c0_1, .slice A0_2 n0_2 c0_2], .agg #[.int .i64 a1_0, .slice A1_1 n1_1 c1_1, .slice A1_2 n1_2 c1_2]] ws (Post1 w0 ws P0 (fun (_ : Unit) => .tuple #[.bool r_1, .bool r_2]) (fun (_ : Unit) => [])) := by
 unfold spec_SamePowers.f at h
 obtain rfl := (R0_1 ws (KeptB.refl _ _)).1
 obtain rfl := (R0_2 ws (KeptB.refl _ _)).1
 obtain rfl := (R1_1 ws (KeptB.refl _ _)).1
 obtain rfl := (R1_2 ws (KeptB.refl _ _)).1
 refine enter Try.func103 rfl Try.ntmps103 rfl hF ?_
 refine c_seq ?_
 refine za0 ?_
 refine o_e rfl (e_box rfl) (fun g1 => ?_)
 refine o_e rfl (e_box rfl) (fun g3 => ?_)
 refine o_q rfl rfl (q_asg rfl) ?_
 refine o_q rfl rfl (q_asg rfl) ?_
 refine o_end ?_
 refine za1 ?_
 refine c_seq ?_
 refine c_seq ?_
 refine za0 ?_
 refine o_q rfl rfl (q_ldB G27 Z27 rfl (fun w h => h.zae (i := 1) rfl) rfl) ?_
 refine za7 h (fun b6 hx5 h => ?_) rfl
 refine o_e rfl (zab 0 Z Try.func70 N70 rfl rfl rfl (fun w P1 hF hB hS hT => spec_plGood.calls k a0_0 A0_1 c0_1 l0_1.length l0_1 A0_2 c0_2 l0_2.length l0_2 hB hF (hS _ R0_1) hc0_1 (hS _ R0_2) hc0_2 _ hx5)) (fun _ => ?_)
 refine o_q rfl rfl (q_not rfl) ?_
 refine o_q rfl rfl (za2 rfl) ?_
 refine byB b6 (fun hb7 => ?_) (fun hb7 => ?_)
 ·replace h := bb_t hb7 h
  refine o_w (za4 rfl rfl rfl (congrArg (fun b => Value.bool (!(b))) hb7)) rfl (q_ldB G27 Z27 rfl (fun w h => h.zae (i := 0) rfl) rfl) ?_
  refine za7 h (fun b9 hx8 h => ?_) rfl
  refine o_ew (za4 rfl rfl rfl (congrArg (fun b => Value.bool (!(b))) hb7)) (zab 0 Z Try.func70 N70 rfl rfl rfl (fun w P1 hF hB hS hT => spec_plGood.calls k a1_0 A1_1 c1_1 l1_1.length l1_1 A1_2 c1_2 l1_2.length l1_2 hB hF (hS _ R1_1) hc1_1 (hS _ R1_2) hc1_2 _ hx8)) (fun _ => ?_)
  refine o_w (za4 rfl rfl rfl (congrArg (fun b => Value.bool (!(b))) hb7)) rfl (q_not rfl) ?_
  refine o_q rfl rfl (zaq false (congrArg (fun b => Value.bool (!(b))) hb7) rfl) ?_
  refine o_end ?_
  refine za1 ?_
  refine zau _ rfl (fun hb10 => ?_) (fun hb10 => ?_)
  ·replace hb10 := nt_t hb10
   replace h := bb_f hb10 h
   refine c_seq ?_
   refine za0 ?_
   refine o_q rfl rfl (q_asg rfl) ?_
   refine o_q rfl rfl (q_asg rfl) ?_
   refine o_end ?_
   refine za1 ?_
   refine c_ret ?_
   refine zaa ?_
   have e0_ := Option.some.inj h; clear h
   have d0_ := (Prod.mk.inj e0_).1; have e1_ := (Prod.mk.inj e0_).2; clear e0_; subst d0_
   subst e1_
   exact x_r2 () Try.results103 (zai rfl) (zai rfl) rfl (fun w h => za6 [] (by decide) rfl w h)
  ·replace hb10 := nt_f hb10
   replace h := bb_t hb10 h
   refine zao ?_
   refine za1 ?_
   refine c_seq ?_
   refine a_start (ds := []) MO rfl ?_
   refine za9 0 rfl rfl rfl (by kernel_rfl) (fun _ _ _ h => h) (q_f F27_0 rfl) ?_
   refine zb0 1 rfl rfl rfl (by kernel_rfl) (fun _ _ _ h => h) (fun w h => h) (q_ldb Y3 rfl (fun w h => h.zae (i := 1) rfl) rfl) ?_
   refine za9 2 rfl rfl rfl (by kernel_rfl) (fun _ _ _ h => h) (q_f F27_0 rfl) ?_
   refine zb0 3 rfl rfl rfl (by kernel_rfl) (fun _ _ _ h => h) (fun w h => h) (q_ldb Y3 rfl (fun w h => h.zae (i := 0) rfl) rfl) ?_
   refine za9 4 rfl rfl rfl (by kernel_rfl) (fun _ _ _ h => h) (q_eql rfl rfl) ?_
   refine za9 5 rfl rfl rfl (by kernel_rfl) (fun _ _ _ h => h) (za2 rfl) ?_
   refine byB (decide (a0_0 = a1_0)) (fun hb11 => ?_) (fun hb11 => ?_)
   ·replace h := br_t hb11 h
    refine a_takew 6 rfl rfl (za4 rfl rfl rfl (congrArg Value.bool hb11)) (by kernel_rfl) (fun _ _ _ h => h) (fun w h => h) (q_ldB G27 Z27 rfl (fun w h => h.zae (i := 1) rfl) rfl) ?_
    refine a_takew 8 rfl rfl (za4 rfl rfl rfl (congrArg Value.bool hb11)) (by kernel_rfl) (fun _ _ _ h => h) (fun w h => h) (q_ldB G27 Z27 rfl (fun w h => h.zae (i := 0) rfl) rfl) ?_
    refine za7 h (fun l13 hx12 h => ?_) rfl
    refine a_onew 7 rfl (za4 rfl rfl rfl (congrArg Value.bool hb11)) (by kernel_rfl) rfl (zab 0 Z Try.func153 N153 rfl rfl rfl (fun w P1 hF hB hS hT => spec_plPowers.calls k a0_0 A0_1 c0_1 l0_1.length l0_1 A0_2 c0_2 l0_2.length l0_2 hB hF (hS _ R0_1) hc0_1 (hS _ R0_2) hc0_2 _ hx12)) (fun s w h => za5 [some 1, some 2] (by decide) w h rfl) (cur3 (fun A14 c15 H16 => ?_))
    refine za7 h (fun l18 hx17 h => ?_) rfl
    refine a_onew 9 rfl (za4 rfl rfl rfl (congrArg Value.bool hb11)) (by kernel_rfl) rfl (zab 0 Z Try.func153 N153 rfl rfl rfl (fun w P1 hF hB hS hT => spec_plPowers.calls k a1_0 A1_1 c1_1 l1_1.length l1_1 A1_2 c1_2 l1_2.length l1_2 hB hF (hS _ R1_1) hc1_1 (hS _ R1_2) hc1_2 _ hx17)) (fun s w h => za5 [some 2, some 3] (by decide) w h rfl) (cur3 (fun A19 c20 H21 => ?_))
    refine za7 h (fun b23 hx22 h => ?_) rfl
    refine a_onew 10 rfl (za4 rfl rfl rfl (congrArg Value.bool hb11)) (by kernel_rfl) rfl (zab 0 Z Try.func152 N152 rfl rfl rfl (fun w P1 hF hB hS hT => spec_plSame.calls A14 c15 l13.length H16 l13 A19 c20 l18.length H21 l18 hB hF (hT 1 _ rfl).row (hT 1 _ rfl).cap (hT 0 _ rfl).row (hT 0 _ rfl).cap _ hx22)) (fun s w h => za5 [some 2, some 3] (by decide) w h rfl) (fun _ => ?_)
    refine za9 11 rfl rfl rfl (by kernel_rfl) (fun _ _ _ h => h) (zaq true (congrArg Value.bool hb11) rfl) ?_
    refine za9 12 rfl rfl rfl (by kernel_rfl) (fun _ _ _ h => h) (q_asg rfl) ?_
    refine za9 13 rfl rfl rfl (by kernel_rfl) (fun _ _ _ h => h) (q_asg rfl) ?_
    refine zav (by kernel_rfl) ?_
    refine za1 ?_
    refine c_ret ?_
    have e0_ := Option.some.inj h; clear h
    have d0_ := (Prod.mk.inj e0_).1; have e1_ := (Prod.mk.inj e0_).2; clear e0_; subst d0_
    subst e1_
    exact x_r2 () Try.results103 (zai rfl) (zai rfl) rfl (fun w h => za6 [] (by decide) rfl w h)
   ·replace h := br_f hb11 h
    refine a_no 6 rfl rfl (za3 rfl rfl rfl (congrArg Value.bool hb11) rfl) (by kernel_rfl) (fun _ _ _ h => h) ?_
    refine a_no 7 rfl rfl (za3 rfl rfl rfl (congrArg Value.bool hb11) rfl) (by kernel_rfl) (fun _ _ _ h => h) ?_
    refine a_no 8 rfl rfl (za3 rfl rfl rfl (congrArg Value.bool hb11) rfl) (by kernel_rfl) (fun _ _ _ h => h) ?_
    refine a_no 9 rfl rfl (za3 rfl rfl rfl (congrArg Value.bool hb11) rfl) (by kernel_rfl) (fun _ _ _ h => h) ?_
    refine a_no 10 rfl rfl (za3 rfl rfl rfl (congrArg Value.bool hb11) rfl) (by kernel_rfl) (fun _ _ _ h => h) ?_
    refine za9 11 rfl rfl rfl (by kernel_rfl) (fun _ _ _ h => h) (zaq false (congrArg Value.bool hb11) rfl) ?_
    refine za9 12 rfl rfl rfl (by kernel_rfl) (fun _ _ _ h => h) (q_asg rfl) ?_
    refine za9 13 rfl rfl rfl (by kernel_rfl) (fun _ _ _ h => h) (q_asg rfl) ?_
    refine zav (by kernel_rfl) ?_
    refine za1 ?_
    refine c_ret ?_
    have e0_ := Option.some.inj h; clear h
    have d0_ := (Prod.mk.inj e0_).1; have e1_ := (Prod.mk.inj e0_).2; clear e0_; subst d0_
    subst e1_
    exact x_r2 () Try.results103 (zai rfl) (zai rfl) rfl (fun w h => za6 [] (by decide) rfl w h)
 ·replace h := bb_f hb7 h
  refine @o_n _ _ _ _ _ _ _ _ _ _ _ 10 (za3 rfl rfl rfl (congrArg (fun b => Value.bool (!(b))) hb7) rfl) (Eq.refl (some 10)) ?_
  refine @o_n _ _ _ _ _ _ _ _ _ _ _ 11 (za3 rfl rfl rfl (congrArg (fun b => Value.bool (!(b))) hb7) rfl) (Eq.refl (some 11)) ?_
  refine @o_n _ _ _ _ _ _ _ _ _ _ _ 12 (za3 rfl rfl rfl (congrArg (fun b => Value.bool (!(b))) hb7) rfl) (Eq.refl (some 12)) ?_
  refine o_q rfl rfl (zaq true (congrArg (fun b => Value.bool (!(b))) hb7) rfl) ?_
  refine o_end ?_
  refine za1 ?_
  refine zb1 rfl ?_
  refine c_seq ?_
  refine za0 ?_
  refine o_q rfl rfl (q_asg rfl) ?_
  refine o_q rfl rfl (q_asg rfl) ?_
  refine o_end ?_
  refine za1 ?_
  refine c_ret ?_
  refine zaa ?_
  have e0_ := Option.some.inj h; clear h
  have d0_ := (Prod.mk.inj e0_).1; have e1_ := (Prod.mk.inj e0_).2; clear e0_; subst d0_
  subst e1_
  exact x_r2 () Try.results103 (zai rfl) (zai rfl) rfl (fun w h => za6 [] (by decide) rfl w h)

/-! ### loop.example/g01098/spec.CheckRegCode: function 40 -/
def spec_CheckRegCode.f (k : Nat) (a0_0 : Int) (l0_1 : List Int) (l0_2 : List SRegOp) (l0_3 : List Int) (a1_0 : Int) (l1_1 : List SStep) (l1_2 : List Int) : Option (Bool × Bool) := (spec_rePlan.f k a0_0 l0_1 l0_2 l0_3).bind fun (i6, l7, l8, b9) => if b9 = true then ((spec_plGood.f k a1_0 l1_1 l1_2).bind fun b18 => if b18 = true then ((spec_SamePowers.f k i6 l7 l8 a1_0 l1_1 l1_2).bind fun (b21, b22) => some (b21, b22)) else (some (false, false))) else (some (false, false))
set_option maxHeartbeats 600000 in
set_option maxRecDepth 100000 in
theorem spec_CheckRegCode.calls (k : Nat) {w0 ws : World} {P0 : Nat → Prop} (a0_0 : Int) (A0_1 : Option Addr) (c0_1 : Nat) (n0_1 : Nat) (l0_1 : List Int) (A0_2 : Option Addr) (c0_2 : Nat) (n0_2 : Nat) (l0_2 : List SRegOp) (A0_3 : Option Addr) (c0_3 : Nat) (n0_3 : Nat) (l0_3 : List Int) (a1_0 : Int) (A1_1 : Option Addr) (c1_1 : Nat) (n1_1 : Nat) (l1_1 : List SStep) (A1_2 : Option Addr) (c1_2 : Nat) (n1_2 : Nat) (l1_2 : List Int) (Z : Below w0.heap.size w0 ws) (hF : Fr w0 ws P0 [] ws) (R0_1 : Stable ws P0 (fun w => Kd.C (Kd.int .i64) w A0_1 n0_1 l0_1)) (hc0_1 : n0_1 ≤ c0_1) (R0_2 : Stable ws P0 (fun w => Kd.C zb6 w A0_2 n0_2 l0_2)) (hc0_2 : n0_2 ≤ c0_2) (R0_3 : Stable ws P0 (fun w => Kd.C (Kd.int .i64) w A0_3 n0_3 l0_3)) (hc0_3 : n0_3 ≤ c0_3) (R1_1 : Stable ws P0 (fun w => Kd.C kStep w A1_1 n1_1 l1_1)) (hc1_1 : n1_1 ≤ c1_1) (R1_2 : Stable ws P0 (fun w => Kd.C (Kd.int .i64) w A1_2 n1_2 l1_2)) (hc1_2 : n1_2 ≤ c1_2) (r_1 : Bool) (r_2 : Bool) (h : spec_CheckRegCode.f k a0_0 l0_1 l0_2 l0_3 a1_0 l1_1 l1_2 = some (r_1, r_2)) :
  Calls Try.prog 40 #[.agg #[.int .i64 a0_0, .slice A0_1 n0_1 c0_1, .slice A0_2 n0_2 c0_2, .slice A0_3 n0_3 c0_3], .agg #[.int .i64 a1_0, .slice A1_1 n1_1 c1_1, .slice A1_2 n1_2 c1_2]] ws (Post1 w0 ws P0 (fun (_ : Unit) => .tuple #[.bool r_1, .bool r_2]) (fun (_ : Unit) => [])) := by
 unfold spec_CheckRegCode.f at h
 obtain rfl := (R0_1 ws (KeptB.refl _ _)).1
 obtain rfl := (R0_2 ws (KeptB.refl _ _)).1
 obtain rfl := (R0_3 ws (KeptB.refl _ _)).1
 obtain rfl := (R1_1 ws (KeptB.refl _ _)).1
 obtain rfl := (R1_2 ws (KeptB.refl _ _)).1
 refine enter Try.func40 rfl Try.ntmps40 rfl hF ?_
 refine c_seq ?_
 refine za0 ?_
 refine o_e rfl (e_box rfl) (fun g1 => ?_)
 refine o_e rfl (e_box rfl) (fun g3 => ?_)
 refine o_q rfl rfl (q_asg rfl) ?_
 refine o_q rfl rfl (q_asg rfl) ?_
 refine o_end ?_
 refine za1 ?_
 refine c_seq ?_
 refine za0 ?_
 refine o_q rfl rfl (q_ldB G43 Z43 rfl (fun w h => h.zae (i := 1) rfl) rfl) ?_
 refine bindE4 h (fun i6 l7 l8 b9 hx5 h => ?_) rfl
 refine o_e rfl (zab 0 Z Try.func101 N101 rfl rfl rfl (fun w P1 hF hB hS hT => spec_rePlan.calls k a0_0 A0_1 c0_1 l0_1.length l0_1 A0_2 c0_2 l0_2.length l0_2 A0_3 c0_3 l0_3.length l0_3 hB hF (hS _ R0_1) hc0_1 (hS _ R0_2) hc0_2 (hS _ R0_3) hc0_3 _ _ _ _ hx5)) (cur4 (fun A10 c11 A12 c13 => ?_))
 refine o_q rfl rfl (za2 rfl) ?_
 refine o_q rfl rfl (q_ext rfl rfl) ?_
 refine o_q rfl rfl (q_ext rfl rfl) ?_
 refine o_e rfl (zat V27 rfl) (fun g14 => ?_)
 refine o_e rfl (zan (i := 0) rfl rfl rfl Z27 rfl rfl) (fun _ => ?_)
 refine o_q rfl rfl (q_asg rfl) ?_
 refine o_end ?_
 refine za1 ?_
 refine c_seq ?_
 refine c_seq ?_
 refine za0 ?_
 refine o_q rfl rfl (za2 rfl) ?_
 refine o_q rfl rfl (q_not rfl) ?_
 refine o_q rfl rfl (za2 rfl) ?_
 refine byB b9 (fun hb16 => ?_) (fun hb16 => ?_)
 ·replace h := bb_t hb16 h
  refine o_w (za4 rfl rfl rfl (congrArg (fun b => Value.bool (!(b))) hb16)) rfl (q_ldB G27 Z27 rfl (fun w h => h.zae (i := 3) rfl) rfl) ?_
  refine za7 h (fun b18 hx17 h => ?_) rfl
  refine o_ew (za4 rfl rfl rfl (congrArg (fun b => Value.bool (!(b))) hb16)) (zab 0 Z Try.func70 N70 rfl rfl rfl (fun w P1 hF hB hS hT => spec_plGood.calls k a1_0 A1_1 c1_1 l1_1.length l1_1 A1_2 c1_2 l1_2.length l1_2 hB hF (hS _ R1_1) hc1_1 (hS _ R1_2) hc1_2 _ hx17)) (fun _ => ?_)
  refine o_w (za4 rfl rfl rfl (congrArg (fun b => Value.bool (!(b))) hb16)) rfl (q_not rfl) ?_
  refine o_q rfl rfl (zaq false (congrArg (fun b => Value.bool (!(b))) hb16) rfl) ?_
  refine o_end ?_
  refine za1 ?_
  refine zau _ rfl (fun hb19 => ?_) (fun hb19 => ?_)
  ·replace hb19 := nt_t hb19
   replace h := bb_f hb19 h
   refine c_seq ?_
   refine za0 ?_
   refine o_q rfl rfl (q_asg rfl) ?_
   refine o_q rfl rfl (q_asg rfl) ?_
   refine o_end ?_
   refine za1 ?_
   refine c_ret ?_
   refine zaa ?_
   have e0_ := Option.some.inj h; clear h
   have d0_ := (Prod.mk.inj e0_).1; have e1_ := (Prod.mk.inj e0_).2; clear e0_; subst d0_
   subst e1_
   exact x_r2 () Try.results40 (zai rfl) (zai rfl) rfl (fun w h => za6 [] (by decide) rfl w h)
  ·replace hb19 := nt_f hb19
   replace h := bb_t hb19 h
   refine zao ?_
   refine za1 ?_
   refine c_seq ?_
   refine za0 ?_
   refine o_q rfl rfl (q_ldB G27 Z27 rfl (fun w h => h.zae (i := 0) rfl) rfl) ?_
   refine o_q rfl rfl (q_ldB G27 Z27 rfl (fun w h => h.zae (i := 3) rfl) rfl) ?_
   refine bindE2 h (fun b21 b22 hx20 h => ?_) rfl
   refine o_e rfl (zab 0 Z Try.func103 N103 rfl rfl rfl (fun w P1 hF hB hS hT => spec_SamePowers.calls k i6 A10 c11 l7.length l7 A12 c13 l8.length l8 a1_0 A1_1 c1_1 l1_1.length l1_1 A1_2 c1_2 l1_2.length l1_2 hB hF (hT 1 _ rfl).row (hT 1 _ rfl).cap (hT 2 _ rfl).row (hT 2 _ rfl).cap (hS _ R1_1) hc1_1 (hS _ R1_2) hc1_2 _ _ hx20)) (fun _ => ?_)
   refine o_q rfl rfl (q_ext rfl rfl) ?_
   refine o_q rfl rfl (q_ext rfl rfl) ?_
   refine o_q rfl rfl (q_asg rfl) ?_
   refine o_q rfl rfl (q_asg rfl) ?_
   refine o_end ?_
   refine za1 ?_
   refine c_ret ?_
   have e0_ := Option.some.inj h; clear h
   have d0_ := (Prod.mk.inj e0_).1; have e1_ := (Prod.mk.inj e0_).2; clear e0_; subst d0_
   subst e1_
   exact x_r2 () Try.results40 (zai rfl) (zai rfl) rfl (fun w h => za6 [] (by decide) rfl w h)
 ·replace h := bb_f hb16 h
  refine @o_n _ _ _ _ _ _ _ _ _ _ _ 16 (za3 rfl rfl rfl (congrArg (fun b => Value.bool (!(b))) hb16) rfl) (Eq.refl (some 16)) ?_
  refine @o_n _ _ _ _ _ _ _ _ _ _ _ 17 (za3 rfl rfl rfl (congrArg (fun b => Value.bool (!(b))) hb16) rfl) (Eq.refl (some 17)) ?_
  refine @o_n _ _ _ _ _ _ _ _ _ _ _ 18 (za3 rfl rfl rfl (congrArg (fun b => Value.bool (!(b))) hb16) rfl) (Eq.refl (some 18)) ?_
  refine o_q rfl rfl (zaq true (congrArg (fun b => Value.bool (!(b))) hb16) rfl) ?_
  refine o_end ?_
  refine za1 ?_
  refine zb1 rfl ?_
  refine c_seq ?_
  refine za0 ?_
  refine o_q rfl rfl (q_asg rfl) ?_
  refine o_q rfl rfl (q_asg rfl) ?_
  refine o_end ?_
  refine za1 ?_
  refine c_ret ?_
  refine zaa ?_
  have e0_ := Option.some.inj h; clear h
  have d0_ := (Prod.mk.inj e0_).1; have e1_ := (Prod.mk.inj e0_).2; clear e0_; subst d0_
  subst e1_
  exact x_r2 () Try.results40 (zai rfl) (zai rfl) rfl (fun w h => za6 [] (by decide) rfl w h)

/-! ### loop.example/g01098/impl.SamePowers: function 41 -/
def impl_SamePowers.f (k : Nat) (a0_0 : Int) (l0_1 : List SStep) (l0_2 : List Int) (a1_0 : Int) (l1_1 : List SStep) (l1_2 : List Int) : Option (Bool × Bool) := (impl_IsPlan.f k a0_0 l0_1 l0_2).bind fun b6 => if b6 = true then ((impl_IsPlan.f k a1_0 l1_1 l1_2).bind fun b9 => if b9 = true then ((impl_samePowers.f a0_0 l0_1 l0_2 a1_0 l1_1 l1_2).bind fun b12 => some (b12, true)) else (some (false, false))) else (some (false, false))
set_option maxHeartbeats 600000 in
set_option maxRecDepth 100000 in
theorem impl_SamePowers.calls (k : Nat) {w0 ws : World} {P0 : Nat → Prop} (a0_0 : Int) (A0_1 : Option Addr) (c0_1 : Nat) (n0_1 : Nat) (l0_1 : List SStep) (A0_2 : Option Addr) (c0_2 : Nat) (n0_2 : Nat) (l0_2 : List Int) (a1_0 : Int) (A1_1 : Option Addr) (c1_1 : Nat) (n1_1 : Nat) (l1_1 : List SStep) (A1_2 : Option Addr) (c1_2 : Nat) (n1_2 : Nat) (l1_2 : List Int) (Z : Below w0.heap.size w0 ws) (hF : Fr w0 ws P0 [] ws) (R0_1 : Stable ws P0 (fun w => Kd.C kStep w A0_1 n0_1 l0_1)) (hc0_1 : n0_1 ≤ c0_1) (R0_2 : Stable ws P0 (fun w => Kd.C (Kd.int .i64) w A0_2 n0_2 l0_2)) (hc0_2 : n0_2 ≤ c0_2) (R1_1 : Stable ws P0 (fun w => Kd.C kStep w A1_1 n1_1 l1_1)) (hc1_1 : n1_1 ≤ c1_1) (R1_2 : Stable ws P0 (fun w => Kd.C (Kd.int .i64) w A1_2 n1_2 l1_2)) (hc1_2 : n1_2 ≤ c1_2) (r_1 : Bool) (r_2 : Bool) (h : impl_SamePowers.f k a0_0 l0_1 l0_2 a1_0 l1_1 l1_2 = some (r_1, r_2)) :
  Calls Try.prog 41 #[.agg #[.int .i64 a0_0, .slice A0_1 n0_1 c0_1, .slice A0_2 n0_2 c0_2], .agg #[.int .i64 a1_0, .slice A1_1 n1_1 c1_1, .slice A1_2 n1_2 c1_2]] ws (Post1 w0 ws P0 (fun (_ : Unit) => .tuple #[.bool r_1, .bool r_2]) (fun (_ : Unit) => [])) := by
 unfold impl_SamePowers.f at h
 obtain rfl := (R0_1 ws (KeptB.refl _ _)).1
 obtain rfl := (R0_2 ws (KeptB.refl _ _)).1
 obtain rfl := (R1_1 ws (KeptB.refl _ _)).1
 obtain rfl := (R1_2 ws (KeptB.refl _ _)).1
 refine enter Try.func41 rfl Try.ntmps41 rfl hF ?_
 refine c_seq ?_
 refine za0 ?_
 refine o_e rfl (e_box rfl) (fun g1 => ?_)
 refine o_e rfl (e_box rfl) (fun g3 => ?_)
 refine o_q rfl rfl (q_asg rfl) ?_
 refine o_q rfl rfl (q_asg rfl) ?_
 refine o_end ?_
 refine za1 ?_
 refine c_seq ?_
 refine c_seq ?_
 refine za0 ?_
 refine o_q rfl rfl (q_ldB G27 Z27 rfl (fun w h => h.zae (i := 1) rfl) rfl) ?_
 refine za7 h (fun b6 hx5 h => ?_) rfl
 refine o_e rfl (zab 0 Z Try.func67 N67 rfl rfl rfl (fun w P1 hF hB hS hT => impl_IsPlan.calls k a0_0 A0_1 c0_1 l0_1.length l0_1 A0_2 c0_2 l0_2.length l0_2 hB hF (hS _ R0_1) hc0_1 (hS _ R0_2) hc0_2 _ hx5)) (fun _ => ?_)
 refine o_q rfl rfl (q_not rfl) ?_
 refine o_q rfl rfl (za2 rfl) ?_
 refine byB b6 (fun hb7 => ?_) (fun hb7 => ?_)
 ·replace h := bb_t hb7 h
  refine o_w (za4 rfl rfl rfl (congrArg (fun b => Value.bool (!(b))) hb7)) rfl (q_ldB G27 Z27 rfl (fun w h => h.zae (i := 0) rfl) rfl) ?_
  refine za7 h (fun b9 hx8 h => ?_) rfl
  refine o_ew (za4 rfl rfl rfl (congrArg (fun b => Value.bool (!(b))) hb7)) (zab 0 Z Try.func67 N67 rfl rfl rfl (fun w P1 hF hB hS hT => impl_IsPlan.calls k a1_0 A1_1 c1_1 l1_1.length l1_1 A1_2 c1_2 l1_2.length l1_2 hB hF (hS _ R1_1) hc1_1 (hS _ R1_2) hc1_2 _ hx8)) (fun _ => ?_)
  refine o_w (za4 rfl rfl rfl (congrArg (fun b => Value.bool (!(b))) hb7)) rfl (q_not rfl) ?_
  refine o_q rfl rfl (zaq false (congrArg (fun b => Value.bool (!(b))) hb7) rfl) ?_
  refine o_end ?_
  refine za1 ?_
  refine zau _ rfl (fun hb10 => ?_) (fun hb10 => ?_)
  ·replace hb10 := nt_t hb10
   replace h := bb_f hb10 h
   refine c_seq ?_
   refine za0 ?_
   refine o_q rfl rfl (q_asg rfl) ?_
   refine o_q rfl rfl (q_asg rfl) ?_
   refine o_end ?_
   refine za1 ?_
   refine c_ret ?_
   refine zaa ?_
   have e0_ := Option.some.inj h; clear h
   have d0_ := (Prod.mk.inj e0_).1; have e1_ := (Prod.mk.inj e0_).2; clear e0_; subst d0_
   subst e1_
   exact x_r2 () Try.results41 (zai rfl) (zai rfl) rfl (fun w h => za6 [] (by decide) rfl w h)
  ·replace hb10 := nt_f hb10
   replace h := bb_t hb10 h
   refine zao ?_
   refine za1 ?_
   refine c_seq ?_
   refine za0 ?_
   refine za7 h (fun b12 hx11 h => ?_) rfl
   refine o_e rfl (zab 0 Z Try.func89 N89 rfl rfl rfl (fun w P1 hF hB hS hT => impl_samePowers.calls g1 a0_0 A0_1 c0_1 l0_1.length l0_1 A0_2 c0_2 l0_2.length l0_2 g3 a1_0 A1_1 c1_1 l1_1.length l1_1 A1_2 c1_2 l1_2.length l1_2 hB hF (hS _ R0_1) hc0_1 (hS _ R0_2) hc0_2 (hT 1 _ rfl).box (hS _ R1_1) hc1_1 (hS _ R1_2) hc1_2 (hT 0 _ rfl).box _ hx11)) (fun _ => ?_)
   refine o_q rfl rfl (q_asg rfl) ?_
   refine o_q rfl rfl (q_asg rfl) ?_
   refine o_end ?_
   refine za1 ?_
   refine c_ret ?_
   have e0_ := Option.some.inj h; clear h
   have d0_ := (Prod.mk.inj e0_).1; have e1_ := (Prod.mk.inj e0_).2; clear e0_; subst d0_
   subst e1_
   exact x_r2 () Try.results41 (zai rfl) (zai rfl) rfl (fun w h => za6 [] (by decide) rfl w h)
 ·replace h := bb_f hb7 h
  refine @o_n _ _ _ _ _ _ _ _ _ _ _ 10 (za3 rfl rfl rfl (congrArg (fun b => Value.bool (!(b))) hb7) rfl) (Eq.refl (some 10)) ?_
  refine @o_n _ _ _ _ _ _ _ _ _ _ _ 11 (za3 rfl rfl rfl (congrArg (fun b => Value.bool (!(b))) hb7) rfl) (Eq.refl (some 11)) ?_
  refine @o_n _ _ _ _ _ _ _ _ _ _ _ 12 (za3 rfl rfl rfl (congrArg (fun b => Value.bool (!(b))) hb7) rfl) (Eq.refl (some 12)) ?_
  refine o_q rfl rfl (zaq true (congrArg (fun b => Value.bool (!(b))) hb7) rfl) ?_
  refine o_end ?_
  refine za1 ?_
  refine zb1 rfl ?_
  refine c_seq ?_
  refine za0 ?_
  refine o_q rfl rfl (q_asg rfl) ?_
  refine o_q rfl rfl (q_asg rfl) ?_
  refine o_end ?_
  refine za1 ?_
  refine c_ret ?_
  refine zaa ?_
  have e0_ := Option.some.inj h; clear h
  have d0_ := (Prod.mk.inj e0_).1; have e1_ := (Prod.mk.inj e0_).2; clear e0_; subst d0_
  subst e1_
  exact x_r2 () Try.results41 (zai rfl) (zai rfl) rfl (fun w h => za6 [] (by decide) rfl w h)

/-! ### loop.example/g01098/laws.FnCodesRun: function 6 -/
def laws_FnCodesRun.f (k : Nat) (l0 : List Int) (l1 : List Int) : Option Bool := (laws_big.f l0 l1).bind fun b2 => if b2 = true then (some true) else ((spec_DrawRunRegCode.f k l0).bind fun (i5, l6, l7, l8, i9, l10) => (impl_RunRegCode.f k i5 l6 l7 l8 i9 l10).bind fun (l22, b23) => (spec_RunRegCode.f k i5 l6 l7 l8 i9 l10).bind fun (l27, b28) => (impl_RegCodePlan.f k i5 l6 l7 l8).bind fun (i32, l33, l34, b35) => (spec_RegCodePlan.f k i5 l6 l7 l8).bind fun (i43, l44, l45, b46) => if (b23 != b28) = true then (some false) else ((laws_rSame.f l22 l27).bind fun b55 => if b55 = true then (if (b35 != b46) = true then (some false) else ((laws_rSamePlan.f i32 l33 l34 i43 l44 l45).bind fun b59 => if b59 = true then ((impl_IsRegCode.f k i5 l6 l7 l8).bind fun b62 => if (b35 != b62) = true then (some false) else ((if b23 = true then ((impl_RunResidues.f k i32 l33 l34 i9 l10).bind fun (l81, b82) => if b82 = true then ((laws_rSame.f l81 l22).bind fun b87 => if b87 = true then (some (.inr ())) else (some (.inl false))) else (some (.inl false))) else (some (.inr ())) : Option ((Bool) ⊕ (Unit))).bind fun o_ => match o_ with | .inl r_ => some r_ | .inr _ => (spec_DrawCheckRegCode.f k l1).bind fun (i90, l91, l92, l93, i94, l95, l96) => (impl_CheckRegCode.f k i90 l91 l92 l93 i94 l95 l96).bind fun (b112, b113) => (spec_CheckRegCode.f k i90 l91 l92 l93 i94 l95 l96).bind fun (b115, b116) => if (b113 != b116) = true then (some false) else (if (b112 != b115) = true then (some false) else (if b113 = true then ((impl_RegCodePlan.f k i90 l91 l92 l93).bind fun (i121, l122, l123, b124) => (impl_SamePowers.f k i121 l122 l123 i94 l95 l96).bind fun (b132, b133) => if b124 = true then (if b133 = true then (some (b132 == b112)) else (some false)) else (some false)) else (some true))))) else (some false))) else (some false)))
set_option maxHeartbeats 600000 in
set_option maxRecDepth 100000 in
theorem laws_FnCodesRun.calls (k : Nat) {w0 ws : World} {P0 : Nat → Prop} (A0 : Option Addr) (c0 : Nat) (n0 : Nat) (l0 : List Int) (A1 : Option Addr) (c1 : Nat) (n1 : Nat) (l1 : List Int) (Z : Below w0.heap.size w0 ws) (hF : Fr w0 ws P0 [] ws) (R0 : Stable ws P0 (fun w => Kd.C (Kd.int .u8) w A0 n0 l0)) (hc0 : n0 ≤ c0) (R1 : Stable ws P0 (fun w => Kd.C (Kd.int .u8) w A1 n1 l1)) (hc1 : n1 ≤ c1) (r_1 : Bool) (h : laws_FnCodesRun.f k l0 l1 = some r_1) :
  Calls Try.prog 6 #[.slice A0 n0 c0, .slice A1 n1 c1] ws (Post1 w0 ws P0 (fun (_ : Unit) => .bool r_1) (fun (_ : Unit) => [])) := by
 unfold laws_FnCodesRun.f at h
 obtain rfl := (R0 ws (KeptB.refl _ _)).1
 obtain rfl := (R1 ws (KeptB.refl _ _)).1
 refine enter Try.func6 rfl Try.ntmps6 rfl hF ?_
 refine c_seq ?_
 refine za0 ?_
 refine o_q rfl rfl (q_asg rfl) ?_
 refine o_end ?_
 refine za1 ?_
 refine c_seq ?_
 refine c_seq ?_
 refine za0 ?_
 refine o_q rfl rfl (za2 rfl) ?_
 refine o_q rfl rfl (za2 rfl) ?_
 refine za7 h (fun b2 hx1 h => ?_) rfl
 refine o_e rfl (zab 0 Z Try.func8 N8 rfl rfl rfl (fun w P1 hF hB hS hT => laws_big.calls A0 c0 l0.length l0 A1 c1 l1.length l1 hB hF (hS _ R0) hc0 (hS _ R1) hc1 _ hx1)) (fun _ => ?_)
 refine o_end ?_
 refine za1 ?_
 refine zau _ rfl (fun hb3 => ?_) (fun hb3 => ?_)
 ·skip
  replace h := bb_t hb3 h
  refine c_seq ?_
  refine za0 ?_
  refine o_q rfl rfl (q_asg rfl) ?_
  refine o_end ?_
  refine za1 ?_
  refine c_ret ?_
  refine zaa ?_
  have e0_ := Option.some.inj h; clear h
  subst e0_
  exact x_r1 () Try.results6 (zai rfl) rfl (fun w h => za6 [] (by decide) rfl w h)
 ·skip
  replace h := bb_f hb3 h
  refine zao ?_
  refine za1 ?_
  refine c_seq ?_
  refine za0 ?_
  refine o_q rfl rfl (za2 rfl) ?_
  refine bindE6 h (fun i5 l6 l7 l8 i9 l10 hx4 h => ?_) rfl
  refine o_e rfl (zab 0 Z Try.func36 N36 rfl rfl rfl (fun w P1 hF hB hS hT => spec_DrawRunRegCode.calls k A0 c0 l0.length l0 hB hF (hS _ R0) hc0 _ _ _ _ _ _ hx4)) (cur8 (fun A11 c12 A13 c14 A15 c16 A17 c18 => ?_))
  refine o_q rfl rfl (za2 rfl) ?_
  refine o_q rfl rfl (q_ext rfl rfl) ?_
  refine o_q rfl rfl (q_ext rfl rfl) ?_
  refine o_q rfl rfl (q_ext rfl rfl) ?_
  refine o_e rfl (zat V43 rfl) (fun g19 => ?_)
  refine o_e rfl (zan (i := 0) rfl rfl rfl Z43 rfl rfl) (fun _ => ?_)
  refine o_q rfl rfl (q_asg rfl) ?_
  refine o_q rfl rfl (q_asg rfl) ?_
  refine o_end ?_
  refine za1 ?_
  refine c_seq ?_
  refine za0 ?_
  refine o_q rfl rfl (q_ldB G43 Z43 rfl (fun w h => h.zae (i := 0) rfl) rfl) ?_
  refine o_q rfl rfl (za2 rfl) ?_
  refine o_q rfl rfl (za2 rfl) ?_
  refine bindE2 h (fun l22 b23 hx21 h => ?_) rfl
  refine o_e rfl (zab 0 Z Try.func34 N34 rfl rfl rfl (fun w P1 hF hB hS hT => impl_RunRegCode.calls k i5 A11 c12 l6.length l6 A13 c14 l7.length l7 A15 c16 l8.length l8 i9 A17 c18 l10.length l10 hB hF (hT 1 _ rfl).row (hT 1 _ rfl).cap (hT 2 _ rfl).row (hT 2 _ rfl).cap (hT 3 _ rfl).row (hT 3 _ rfl).cap (hT 4 _ rfl).row (hT 4 _ rfl).cap _ _ hx21)) (cur2 (fun A24 c25 => ?_))
  refine o_q rfl rfl (za2 rfl) ?_
  refine o_q rfl rfl (q_ext rfl rfl) ?_
  refine o_q rfl rfl (q_ext rfl rfl) ?_
  refine o_q rfl rfl (q_asg rfl) ?_
  refine o_q rfl rfl (q_asg rfl) ?_
  refine o_end ?_
  refine za1 ?_
  refine c_seq ?_
  refine za0 ?_
  refine o_q rfl rfl (q_ldB G43 Z43 rfl (fun w h => h.zae (i := 1) rfl) rfl) ?_
  refine o_q rfl rfl (za2 rfl) ?_
  refine o_q rfl rfl (za2 rfl) ?_
  refine bindE2 h (fun l27 b28 hx26 h => ?_) rfl
  refine o_e rfl (zab 0 Z Try.func37 N37 rfl rfl rfl (fun w P1 hF hB hS hT => spec_RunRegCode.calls k i5 A11 c12 l6.length l6 A13 c14 l7.length l7 A15 c16 l8.length l8 i9 A17 c18 l10.length l10 hB hF (hT 2 _ rfl).row (hT 2 _ rfl).cap (hT 3 _ rfl).row (hT 3 _ rfl).cap (hT 4 _ rfl).row (hT 4 _ rfl).cap (hT 5 _ rfl).row (hT 5 _ rfl).cap _ _ hx26)) (cur2 (fun A29 c30 => ?_))
  refine o_q rfl rfl (za2 rfl) ?_
  refine o_q rfl rfl (q_ext rfl rfl) ?_
  refine o_q rfl rfl (q_ext rfl rfl) ?_
  refine o_q rfl rfl (q_asg rfl) ?_
  refine o_q rfl rfl (q_asg rfl) ?_
  refine o_end ?_
  refine za1 ?_
  refine c_seq ?_
  refine za0 ?_
  refine o_q rfl rfl (q_ldB G43 Z43 rfl (fun w h => h.zae (i := 2) rfl) rfl) ?_
  refine bindE4 h (fun i32 l33 l34 b35 hx31 h => ?_) rfl
  refine o_e rfl (zab 0 Z Try.func29 N29 rfl rfl rfl (fun w P1 hF hB hS hT => impl_RegCodePlan.calls k i5 A11 c12 l6.length l6 A13 c14 l7.length l7 A15 c16 l8.length l8 hB hF (hT 3 _ rfl).row (hT 3 _ rfl).cap (hT 4 _ rfl).row (hT 4 _ rfl).cap (hT 5 _ rfl).row (hT 5 _ rfl).cap _ _ _ _ hx31)) (cur4 (fun A36 c37 A38 c39 => ?_))
  refine o_q rfl rfl (za2 rfl) ?_
  refine o_q rfl rfl (q_ext rfl rfl) ?_
  refine o_q rfl rfl (q_ext rfl rfl) ?_
  refine o_e rfl (zat V27 rfl) (fun g40 => ?_)
  refine o_e rfl (zan (i := 0) rfl rfl rfl Z27 rfl rfl) (fun _ => ?_)
  refine o_q rfl rfl (q_asg rfl) ?_
  refine o_end ?_
  refine za1 ?_
  refine c_seq ?_
  refine za0 ?_
  refine o_q rfl rfl (q_ldB G43 Z43 rfl (fun w h => h.zae (i := 5) rfl) rfl) ?_
  refine bindE4 h (fun i43 l44 l45 b46 hx42 h => ?_) rfl
  refine o_e rfl (zab 0 Z Try.func38 N38 rfl rfl rfl (fun w P1 hF hB hS hT => spec_RegCodePlan.calls k i5 A11 c12 l6.length l6 A13 c14 l7.length l7 A15 c16 l8.length l8 hB hF (hT 6 _ rfl).row (hT 6 _ rfl).cap (hT 7 _ rfl).row (hT 7 _ rfl).cap (hT 8 _ rfl).row (hT 8 _ rfl).cap _ _ _ _ hx42)) (cur4 (fun A47 c48 A49 c50 => ?_))
  refine o_q rfl rfl (za2 rfl) ?_
  refine o_q rfl rfl (q_ext rfl rfl) ?_
  refine o_q rfl rfl (q_ext rfl rfl) ?_
  refine o_e rfl (zat V27 rfl) (fun g51 => ?_)
  refine o_e rfl (zan (i := 0) rfl rfl rfl Z27 rfl rfl) (fun _ => ?_)
  refine o_q rfl rfl (q_asg rfl) ?_
  refine o_end ?_
  refine za1 ?_
  refine c_seq ?_
  refine c_seq ?_
  refine za0 ?_
  refine o_q rfl rfl (za2 rfl) ?_
  refine o_q rfl rfl (za2 rfl) ?_
  refine o_q rfl rfl (q_bneq Try.underlying4 rfl rfl) ?_
  refine o_q rfl rfl (za2 rfl) ?_
  refine byB (b23 != b28) (fun hb53 => ?_) (fun hb53 => ?_)
  ·replace h := bb_t hb53 h
   refine @o_n _ _ _ _ _ _ _ _ _ _ _ 65 (za3 rfl rfl rfl (congrArg Value.bool hb53) rfl) (Eq.refl (some 65)) ?_
   refine @o_n _ _ _ _ _ _ _ _ _ _ _ 66 (za3 rfl rfl rfl (congrArg Value.bool hb53) rfl) (Eq.refl (some 66)) ?_
   refine @o_n _ _ _ _ _ _ _ _ _ _ _ 67 (za3 rfl rfl rfl (congrArg Value.bool hb53) rfl) (Eq.refl (some 67)) ?_
   refine @o_n _ _ _ _ _ _ _ _ _ _ _ 68 (za3 rfl rfl rfl (congrArg Value.bool hb53) rfl) (Eq.refl (some 68)) ?_
   refine o_q rfl rfl (zaq true (congrArg Value.bool hb53) rfl) ?_
   refine o_q rfl rfl (za2 rfl) ?_
   refine @o_n _ _ _ _ _ _ _ _ _ _ _ 71 (za3 rfl rfl rfl rfl rfl) (Eq.refl (some 71)) ?_
   refine @o_n _ _ _ _ _ _ _ _ _ _ _ 72 (za3 rfl rfl rfl rfl rfl) (Eq.refl (some 72)) ?_
   refine @o_n _ _ _ _ _ _ _ _ _ _ _ 73 (za3 rfl rfl rfl rfl rfl) (Eq.refl (some 73)) ?_
   refine o_q rfl rfl (zaq true rfl rfl) ?_
   refine o_q rfl rfl (za2 rfl) ?_
   refine @o_n _ _ _ _ _ _ _ _ _ _ _ 76 (za3 rfl rfl rfl rfl rfl) (Eq.refl (some 76)) ?_
   refine @o_n _ _ _ _ _ _ _ _ _ _ _ 77 (za3 rfl rfl rfl rfl rfl) (Eq.refl (some 77)) ?_
   refine @o_n _ _ _ _ _ _ _ _ _ _ _ 78 (za3 rfl rfl rfl rfl rfl) (Eq.refl (some 78)) ?_
   refine @o_n _ _ _ _ _ _ _ _ _ _ _ 79 (za3 rfl rfl rfl rfl rfl) (Eq.refl (some 79)) ?_
   refine o_q rfl rfl (zaq true rfl rfl) ?_
   refine o_q rfl rfl (za2 rfl) ?_
   refine @o_n _ _ _ _ _ _ _ _ _ _ _ 82 (za3 rfl rfl rfl rfl rfl) (Eq.refl (some 82)) ?_
   refine @o_n _ _ _ _ _ _ _ _ _ _ _ 83 (za3 rfl rfl rfl rfl rfl) (Eq.refl (some 83)) ?_
   refine @o_n _ _ _ _ _ _ _ _ _ _ _ 84 (za3 rfl rfl rfl rfl rfl) (Eq.refl (some 84)) ?_
   refine @o_n _ _ _ _ _ _ _ _ _ _ _ 85 (za3 rfl rfl rfl rfl rfl) (Eq.refl (some 85)) ?_
   refine o_q rfl rfl (zaq true rfl rfl) ?_
   refine o_end ?_
   refine za1 ?_
   refine zb1 rfl ?_
   refine c_seq ?_
   refine za0 ?_
   refine o_q rfl rfl (q_asg rfl) ?_
   refine o_end ?_
   refine za1 ?_
   refine c_ret ?_
   refine zaa ?_
   have e0_ := Option.some.inj h; clear h
   subst e0_
   exact x_r1 () Try.results6 (zai rfl) rfl (fun w h => za6 [] (by decide) rfl w h)
  ·replace h := bb_f hb53 h
   refine o_w (za4 rfl rfl rfl (congrArg Value.bool hb53)) rfl (za2 rfl) ?_
   refine o_w (za4 rfl rfl rfl (congrArg Value.bool hb53)) rfl (za2 rfl) ?_
   refine za7 h (fun b55 hx54 h => ?_) rfl
   refine o_ew (za4 rfl rfl rfl (congrArg Value.bool hb53)) (zab 0 Z Try.func15 N15 rfl rfl rfl (fun w P1 hF hB hS hT => laws_rSame.calls A24 c25 l22.length l22 A29 c30 l27.length l27 hB hF (hT 7 _ rfl).row (hT 7 _ rfl).cap (hT 6 _ rfl).row (hT 6 _ rfl).cap _ hx54)) (fun _ => ?_)
   refine o_w (za4 rfl rfl rfl (congrArg Value.bool hb53)) rfl (q_not rfl) ?_
   refine o_q rfl rfl (zaq false (congrArg Value.bool hb53) rfl) ?_
   refine o_q rfl rfl (za2 rfl) ?_
   refine byB b55 (fun hb56 => ?_) (fun hb56 => ?_)
   ·replace h := bb_t hb56 h
    refine o_w (za4 rfl rfl rfl (congrArg (fun b => Value.bool (!(b))) hb56)) rfl (za2 rfl) ?_
    refine o_w (za4 rfl rfl rfl (congrArg (fun b => Value.bool (!(b))) hb56)) rfl (za2 rfl) ?_
    refine o_w (za4 rfl rfl rfl (congrArg (fun b => Value.bool (!(b))) hb56)) rfl (q_bneq Try.underlying4 rfl rfl) ?_
    refine o_q rfl rfl (zaq false (congrArg (fun b => Value.bool (!(b))) hb56) rfl) ?_
    refine o_q rfl rfl (za2 rfl) ?_
    refine byB (b35 != b46) (fun hb57 => ?_) (fun hb57 => ?_)
    ·replace h := bb_t hb57 h
     refine @o_n _ _ _ _ _ _ _ _ _ _ _ 76 (za3 rfl rfl rfl (congrArg Value.bool hb57) rfl) (Eq.refl (some 76)) ?_
     refine @o_n _ _ _ _ _ _ _ _ _ _ _ 77 (za3 rfl rfl rfl (congrArg Value.bool hb57) rfl) (Eq.refl (some 77)) ?_
     refine @o_n _ _ _ _ _ _ _ _ _ _ _ 78 (za3 rfl rfl rfl (congrArg Value.bool hb57) rfl) (Eq.refl (some 78)) ?_
     refine @o_n _ _ _ _ _ _ _ _ _ _ _ 79 (za3 rfl rfl rfl (congrArg Value.bool hb57) rfl) (Eq.refl (some 79)) ?_
     refine o_q rfl rfl (zaq true (congrArg Value.bool hb57) rfl) ?_
     refine o_q rfl rfl (za2 rfl) ?_
     refine @o_n _ _ _ _ _ _ _ _ _ _ _ 82 (za3 rfl rfl rfl rfl rfl) (Eq.refl (some 82)) ?_
     refine @o_n _ _ _ _ _ _ _ _ _ _ _ 83 (za3 rfl rfl rfl rfl rfl) (Eq.refl (some 83)) ?_
     refine @o_n _ _ _ _ _ _ _ _ _ _ _ 84 (za3 rfl rfl rfl rfl rfl) (Eq.refl (some 84)) ?_
     refine @o_n _ _ _ _ _ _ _ _ _ _ _ 85 (za3 rfl rfl rfl rfl rfl) (Eq.refl (some 85)) ?_
     refine o_q rfl rfl (zaq true rfl rfl) ?_
     refine o_end ?_
     refine za1 ?_
     refine zb1 rfl ?_
     refine c_seq ?_
     refine za0 ?_
     refine o_q rfl rfl (q_asg rfl) ?_
     refine o_end ?_
     refine za1 ?_
     refine c_ret ?_
     refine zaa ?_
     have e0_ := Option.some.inj h; clear h
     subst e0_
     exact x_r1 () Try.results6 (zai rfl) rfl (fun w h => za6 [] (by decide) rfl w h)
    ·replace h := bb_f hb57 h
     refine o_w (za4 rfl rfl rfl (congrArg Value.bool hb57)) rfl (q_ldB G27 Z27 rfl (fun w h => h.zae (i := 3) rfl) rfl) ?_
     refine o_w (za4 rfl rfl rfl (congrArg Value.bool hb57)) rfl (q_ldB G27 Z27 rfl (fun w h => h.zae (i := 0) rfl) rfl) ?_
     refine za7 h (fun b59 hx58 h => ?_) rfl
     refine o_ew (za4 rfl rfl rfl (congrArg Value.bool hb57)) (zab 0 Z Try.func31 N31 rfl rfl rfl (fun w P1 hF hB hS hT => laws_rSamePlan.calls i32 A36 c37 l33.length l33 A38 c39 l34.length l34 i43 A47 c48 l44.length l44 A49 c50 l45.length l45 hB hF (hT 4 _ rfl).row (hT 4 _ rfl).cap (hT 5 _ rfl).row (hT 5 _ rfl).cap (hT 1 _ rfl).row (hT 1 _ rfl).cap (hT 2 _ rfl).row (hT 2 _ rfl).cap _ hx58)) (fun _ => ?_)
     refine o_w (za4 rfl rfl rfl (congrArg Value.bool hb57)) rfl (q_not rfl) ?_
     refine o_q rfl rfl (zaq false (congrArg Value.bool hb57) rfl) ?_
     refine o_q rfl rfl (za2 rfl) ?_
     refine byB b59 (fun hb60 => ?_) (fun hb60 => ?_)
     ·replace h := bb_t hb60 h
      refine o_w (za4 rfl rfl rfl (congrArg (fun b => Value.bool (!(b))) hb60)) rfl (za2 rfl) ?_
      refine o_w (za4 rfl rfl rfl (congrArg (fun b => Value.bool (!(b))) hb60)) rfl (q_ldB G43 Z43 rfl (fun w h => h.zae (i := 8) rfl) rfl) ?_
      refine za7 h (fun b62 hx61 h => ?_) rfl
      refine o_ew (za4 rfl rfl rfl (congrArg (fun b => Value.bool (!(b))) hb60)) (zab 0 Z Try.func32 N32 rfl rfl rfl (fun w P1 hF hB hS hT => impl_IsRegCode.calls k i5 A11 c12 l6.length l6 A13 c14 l7.length l7 A15 c16 l8.length l8 hB hF (hT 9 _ rfl).row (hT 9 _ rfl).cap (hT 10 _ rfl).row (hT 10 _ rfl).cap (hT 11 _ rfl).row (hT 11 _ rfl).cap _ hx61)) (fun _ => ?_)
      refine o_w (za4 rfl rfl rfl (congrArg (fun b => Value.bool (!(b))) hb60)) rfl (q_bneq Try.underlying4 rfl rfl) ?_
      refine o_q rfl rfl (zaq false (congrArg (fun b => Value.bool (!(b))) hb60) rfl) ?_
      refine o_end ?_
      refine za1 ?_
      refine zau _ rfl (fun hb63 => ?_) (fun hb63 => ?_)
      ·skip
       replace h := bb_t hb63 h
       refine c_seq ?_
       refine za0 ?_
       refine o_q rfl rfl (q_asg rfl) ?_
       refine o_end ?_
       refine za1 ?_
       refine c_ret ?_
       refine zaa ?_
       have e0_ := Option.some.inj h; clear h
       subst e0_
       exact x_r1 () Try.results6 (zai rfl) rfl (fun w h => za6 [] (by decide) rfl w h)
      ·skip
       replace h := bb_f hb63 h
       refine zao ?_
       refine za1 ?_
       refine za7 h (fun o74 hl75 hR76 => ?_) rfl
       clear h
       refine c_cutJ (σ := Unit) (fun _ => some (.inr ()) = some o74) [4, 16, 17, 87, 88, 89, 90, 91, 92, 93, 94, 95, 96, 97, 98, 99, 100, 101, 102] (fun _ => []) (fun _ => [box g51 27 #[.int .i64 i43, .slice A47 l44.length c48, .slice A49 l45.length c50], row kStep 88 (.slice A47 l44.length c48) l44, row (Kd.int .i64) 3 (.slice A49 l45.length c50) l45, box g40 27 #[.int .i64 i32, .slice A36 l33.length c37, .slice A38 l34.length c39], row kStep 88 (.slice A36 l33.length c37) l33, row (Kd.int .i64) 3 (.slice A38 l34.length c39) l34, row (Kd.int .i64) 3 (.slice A29 l27.length c30) l27, row (Kd.int .i64) 3 (.slice A24 l22.length c25) l22, box g19 43 #[.int .i64 i5, .slice A11 l6.length c12, .slice A13 l7.length c14, .slice A15 l8.length c16], row (Kd.int .i64) 3 (.slice A11 l6.length c12) l6, row zb6 94 (.slice A13 l7.length c14) l7, row (Kd.int .i64) 3 (.slice A15 l8.length c16) l8, row (Kd.int .i64) 3 (.slice A17 l10.length c18) l10]) ?_ ?_
       ·skip
        have h := hl75; clear hl75
        refine c_seq ?_
        refine za0 ?_
        refine o_q rfl rfl (za2 rfl) ?_
        refine o_end ?_
        refine za1 ?_
        refine zau _ rfl (fun hb79 => ?_) (fun hb79 => ?_)
        ·skip
         replace h := bb_t hb79 h
         refine c_seq ?_
         refine za0 ?_
         refine o_q rfl rfl (q_ldB G27 Z27 rfl (fun w h => h.zae (i := 3) rfl) rfl) ?_
         refine o_q rfl rfl (za2 rfl) ?_
         refine o_q rfl rfl (za2 rfl) ?_
         refine bindE2 h (fun l81 b82 hx80 h => ?_) rfl
         refine o_e rfl (zab 0 Z Try.func35 N35 rfl rfl rfl (fun w P1 hF hB hS hT => impl_RunResidues.calls k i32 A36 c37 l33.length l33 A38 c39 l34.length l34 i9 A17 c18 l10.length l10 hB hF (hT 4 _ rfl).row (hT 4 _ rfl).cap (hT 5 _ rfl).row (hT 5 _ rfl).cap (hT 12 _ rfl).row (hT 12 _ rfl).cap _ _ hx80)) (cur2 (fun A83 c84 => ?_))
         refine o_q rfl rfl (za2 rfl) ?_
         refine o_q rfl rfl (q_ext rfl rfl) ?_
         refine o_q rfl rfl (q_ext rfl rfl) ?_
         refine o_q rfl rfl (q_asg rfl) ?_
         refine o_q rfl rfl (q_asg rfl) ?_
         refine o_end ?_
         refine za1 ?_
         refine c_seq ?_
         refine za0 ?_
         refine o_q rfl rfl (za2 rfl) ?_
         refine o_q rfl rfl (q_not rfl) ?_
         refine o_q rfl rfl (za2 rfl) ?_
         refine byB b82 (fun hb85 => ?_) (fun hb85 => ?_)
         ·replace h := bb_t hb85 h
          refine o_w (za4 rfl rfl rfl (congrArg (fun b => Value.bool (!(b))) hb85)) rfl (za2 rfl) ?_
          refine o_w (za4 rfl rfl rfl (congrArg (fun b => Value.bool (!(b))) hb85)) rfl (za2 rfl) ?_
          refine za7 h (fun b87 hx86 h => ?_) rfl
          refine o_ew (za4 rfl rfl rfl (congrArg (fun b => Value.bool (!(b))) hb85)) (zab 0 Z Try.func15 N15 rfl rfl rfl (fun w P1 hF hB hS hT => laws_rSame.calls A83 c84 l81.length l81 A24 c25 l22.length l22 hB hF (hT 0 _ rfl).row (hT 0 _ rfl).cap (hT 8 _ rfl).row (hT 8 _ rfl).cap _ hx86)) (fun _ => ?_)
          refine o_w (za4 rfl rfl rfl (congrArg (fun b => Value.bool (!(b))) hb85)) rfl (q_not rfl) ?_
          refine o_q rfl rfl (zaq false (congrArg (fun b => Value.bool (!(b))) hb85) rfl) ?_
          refine o_end ?_
          refine za1 ?_
          refine zau _ rfl (fun hb88 => ?_) (fun hb88 => ?_)
          ·replace hb88 := nt_t hb88
           replace h := bb_f hb88 h
           refine c_seq ?_
           refine za0 ?_
           refine o_q rfl rfl (q_asg rfl) ?_
           refine o_end ?_
           refine za1 ?_
           refine c_ret ?_
           refine zaa ?_
           have e_ := Option.some.inj h; replace h := hR76; rw [← e_] at h; clear e_
           have e0_ := Option.some.inj h; clear h
           subst e0_
           exact x_r1 () Try.results6 (zai rfl) rfl (fun w h => za6 [] (by decide) rfl w h)
          ·replace hb88 := nt_f hb88
           replace h := bb_t hb88 h
           refine zao ?_
           refine zas () h trivial (fun w h => za6 [1, 2, 3, 4, 5, 6, 7, 8, 9, 10, 11, 12, 13] (by decide) rfl w h) ?_
           repeat (first | exact zac _ _ | refine zaf rfl ?_ | refine zad rfl ?_ | refine zah rfl ?_)
         ·replace h := bb_f hb85 h
          refine @o_n _ _ _ _ _ _ _ _ _ _ _ 98 (za3 rfl rfl rfl (congrArg (fun b => Value.bool (!(b))) hb85) rfl) (Eq.refl (some 98)) ?_
          refine @o_n _ _ _ _ _ _ _ _ _ _ _ 99 (za3 rfl rfl rfl (congrArg (fun b => Value.bool (!(b))) hb85) rfl) (Eq.refl (some 99)) ?_
          refine @o_n _ _ _ _ _ _ _ _ _ _ _ 100 (za3 rfl rfl rfl (congrArg (fun b => Value.bool (!(b))) hb85) rfl) (Eq.refl (some 100)) ?_
          refine @o_n _ _ _ _ _ _ _ _ _ _ _ 101 (za3 rfl rfl rfl (congrArg (fun b => Value.bool (!(b))) hb85) rfl) (Eq.refl (some 101)) ?_
          refine o_q rfl rfl (zaq true (congrArg (fun b => Value.bool (!(b))) hb85) rfl) ?_
          refine o_end ?_
          refine za1 ?_
          refine zb1 rfl ?_
          refine c_seq ?_
          refine za0 ?_
          refine o_q rfl rfl (q_asg rfl) ?_
          refine o_end ?_
          refine za1 ?_
          refine c_ret ?_
          refine zaa ?_
          have e_ := Option.some.inj h; replace h := hR76; rw [← e_] at h; clear e_
          have e0_ := Option.some.inj h; clear h
          subst e0_
          exact x_r1 () Try.results6 (zai rfl) rfl (fun w h => za6 [] (by decide) rfl w h)
        ·skip
         replace h := bb_f hb79 h
         refine zao ?_
         refine zas () h trivial (fun w h => za6 [0, 1, 2, 3, 4, 5, 6, 7, 8, 9, 10, 11, 12] (by decide) rfl w h) ?_
         repeat (first | exact zac _ _ | refine zaf rfl ?_ | refine zad rfl ?_ | refine zah rfl ?_)
       ·skip
        refine (fun _ => fun U77 hJ78 => ?_)
        have e_ := Option.some.inj hJ78; have h := hR76; rw [← e_] at h; clear e_ hJ78 hR76 hl75
        refine c_seq ?_
        refine za0 ?_
        refine o_q rfl rfl (za2 rfl) ?_
        refine bindE7 h (fun i90 l91 l92 l93 i94 l95 l96 hx89 h => ?_) rfl
        refine o_e rfl (zab 0 Z Try.func39 N39 rfl rfl rfl (fun w P1 hF hB hS hT => spec_DrawCheckRegCode.calls k A1 c1 l1.length l1 hB hF (hS _ R1) hc1 _ _ _ _ _ _ _ hx89)) (cur10 (fun A97 c98 A99 c100 A101 c102 A103 c104 A105 c106 => ?_))
        refine o_q rfl rfl (za2 rfl) ?_
        refine o_q rfl rfl (q_ext rfl rfl) ?_
        refine o_q rfl rfl (q_ext rfl rfl) ?_
        refine o_e rfl (zat V43 rfl) (fun g107 => ?_)
        refine o_e rfl (zat V27 rfl) (fun g109 => ?_)
        refine o_e rfl (zan (i := 1) rfl rfl rfl Z43 rfl rfl) (fun _ => ?_)
        refine o_e rfl (zan (i := 0) rfl rfl rfl Z27 rfl rfl) (fun _ => ?_)
        refine o_end ?_
        refine za1 ?_
        refine c_seq ?_
        refine za0 ?_
        refine o_q rfl rfl (q_ldB G43 Z43 rfl (fun w h => h.zae (i := 1) rfl) rfl) ?_
        refine o_q rfl rfl (q_ldB G27 Z27 rfl (fun w h => h.zae (i := 0) rfl) rfl) ?_
        refine bindE2 h (fun b112 b113 hx111 h => ?_) rfl
        refine o_e rfl (zab 0 Z Try.func30 N30 rfl rfl rfl (fun w P1 hF hB hS hT => impl_CheckRegCode.calls k i90 A97 c98 l91.length l91 A99 c100 l92.length l92 A101 c102 l93.length l93 i94 A103 c104 l95.length l95 A105 c106 l96.length l96 hB hF (hT 2 _ rfl).row (hT 2 _ rfl).cap (hT 3 _ rfl).row (hT 3 _ rfl).cap (hT 4 _ rfl).row (hT 4 _ rfl).cap (hT 5 _ rfl).row (hT 5 _ rfl).cap (hT 6 _ rfl).row (hT 6 _ rfl).cap _ _ hx111)) (fun _ => ?_)
        refine o_q rfl rfl (za2 rfl) ?_
        refine o_q rfl rfl (q_ext rfl rfl) ?_
        refine o_q rfl rfl (q_ext rfl rfl) ?_
        refine o_q rfl rfl (q_asg rfl) ?_
        refine o_q rfl rfl (q_asg rfl) ?_
        refine o_end ?_
        refine za1 ?_
        refine c_seq ?_
        refine za0 ?_
        refine o_q rfl rfl (q_ldB G43 Z43 rfl (fun w h => h.zae (i := 1) rfl) rfl) ?_
        refine o_q rfl rfl (q_ldB G27 Z27 rfl (fun w h => h.zae (i := 0) rfl) rfl) ?_
        refine bindE2 h (fun b115 b116 hx114 h => ?_) rfl
        refine o_e rfl (zab 0 Z Try.func40 N40 rfl rfl rfl (fun w P1 hF hB hS hT => spec_CheckRegCode.calls k i90 A97 c98 l91.length l91 A99 c100 l92.length l92 A101 c102 l93.length l93 i94 A103 c104 l95.length l95 A105 c106 l96.length l96 hB hF (hT 2 _ rfl).row (hT 2 _ rfl).cap (hT 3 _ rfl).row (hT 3 _ rfl).cap (hT 4 _ rfl).row (hT 4 _ rfl).cap (hT 5 _ rfl).row (hT 5 _ rfl).cap (hT 6 _ rfl).row (hT 6 _ rfl).cap _ _ hx114)) (fun _ => ?_)
        refine o_q rfl rfl (za2 rfl) ?_
        refine o_q rfl rfl (q_ext rfl rfl) ?_
        refine o_q rfl rfl (q_ext rfl rfl) ?_
        refine o_q rfl rfl (q_asg rfl) ?_
        refine o_q rfl rfl (q_asg rfl) ?_
        refine o_end ?_
        refine za1 ?_
        refine c_seq ?_
        refine c_seq ?_
        refine za0 ?_
        refine o_q rfl rfl (za2 rfl) ?_
        refine o_q rfl rfl (za2 rfl) ?_
        refine o_q rfl rfl (q_bneq Try.underlying4 rfl rfl) ?_
        refine o_q rfl rfl (za2 rfl) ?_
        refine byB (b113 != b116) (fun hb117 => ?_) (fun hb117 => ?_)
        ·replace h := bb_t hb117 h
         refine @o_n _ _ _ _ _ _ _ _ _ _ _ 124 (za3 rfl rfl rfl (congrArg Value.bool hb117) rfl) (Eq.refl (some 124)) ?_
         refine @o_n _ _ _ _ _ _ _ _ _ _ _ 125 (za3 rfl rfl rfl (congrArg Value.bool hb117) rfl) (Eq.refl (some 125)) ?_
         refine @o_n _ _ _ _ _ _ _ _ _ _ _ 126 (za3 rfl rfl rfl (congrArg Value.bool hb117) rfl) (Eq.refl (some 126)) ?_
         refine o_q rfl rfl (zaq true (congrArg Value.bool hb117) rfl) ?_
         refine o_end ?_
         refine za1 ?_
         refine zb1 rfl ?_
         refine c_seq ?_
         refine za0 ?_
         refine o_q rfl rfl (q_asg rfl) ?_
         refine o_end ?_
         refine za1 ?_
         refine c_ret ?_
         refine zaa ?_
         have e0_ := Option.some.inj h; clear h
         subst e0_
         exact x_r1 () Try.results6 (zai rfl) rfl (fun w h => za6 [] (by decide) rfl w h)
        ·replace h := bb_f hb117 h
         refine o_w (za4 rfl rfl rfl (congrArg Value.bool hb117)) rfl (za2 rfl) ?_
         refine o_w (za4 rfl rfl rfl (congrArg Value.bool hb117)) rfl (za2 rfl) ?_
         refine o_w (za4 rfl rfl rfl (congrArg Value.bool hb117)) rfl (q_bneq Try.underlying4 rfl rfl) ?_
         refine o_q rfl rfl (zaq false (congrArg Value.bool hb117) rfl) ?_
         refine o_end ?_
         refine za1 ?_
         refine zau _ rfl (fun hb118 => ?_) (fun hb118 => ?_)
         ·skip
          replace h := bb_t hb118 h
          refine c_seq ?_
          refine za0 ?_
          refine o_q rfl rfl (q_asg rfl) ?_
          refine o_end ?_
          refine za1 ?_
          refine c_ret ?_
          refine zaa ?_
          have e0_ := Option.some.inj h; clear h
          subst e0_
          exact x_r1 () Try.results6 (zai rfl) rfl (fun w h => za6 [] (by decide) rfl w h)
         ·skip
          replace h := bb_f hb118 h
          refine zao ?_
          refine za1 ?_
          refine c_seq ?_
          refine c_seq ?_
          refine za0 ?_
          refine o_q rfl rfl (za2 rfl) ?_
          refine o_end ?_
          refine za1 ?_
          refine zau _ rfl (fun hb119 => ?_) (fun hb119 => ?_)
          ·skip
           replace h := bb_t hb119 h
           refine c_seq ?_
           refine za0 ?_
           refine o_q rfl rfl (q_ldB G43 Z43 rfl (fun w h => h.zae (i := 1) rfl) rfl) ?_
           refine bindE4 h (fun i121 l122 l123 b124 hx120 h => ?_) rfl
           refine o_e rfl (zab 0 Z Try.func29 N29 rfl rfl rfl (fun w P1 hF hB hS hT => impl_RegCodePlan.calls k i90 A97 c98 l91.length l91 A99 c100 l92.length l92 A101 c102 l93.length l93 hB hF (hT 2 _ rfl).row (hT 2 _ rfl).cap (hT 3 _ rfl).row (hT 3 _ rfl).cap (hT 4 _ rfl).row (hT 4 _ rfl).cap _ _ _ _ hx120)) (cur4 (fun A125 c126 A127 c128 => ?_))
           refine o_q rfl rfl (za2 rfl) ?_
           refine o_q rfl rfl (q_ext rfl rfl) ?_
           refine o_q rfl rfl (q_ext rfl rfl) ?_
           refine o_e rfl (zat V27 rfl) (fun g129 => ?_)
           refine o_e rfl (zan (i := 0) rfl rfl rfl Z27 rfl rfl) (fun _ => ?_)
           refine o_q rfl rfl (q_asg rfl) ?_
           refine o_end ?_
           refine za1 ?_
           refine c_seq ?_
           refine za0 ?_
           refine o_q rfl rfl (q_ldB G27 Z27 rfl (fun w h => h.zae (i := 0) rfl) rfl) ?_
           refine o_q rfl rfl (q_ldB G27 Z27 rfl (fun w h => h.zae (i := 3) rfl) rfl) ?_
           refine bindE2 h (fun b132 b133 hx131 h => ?_) rfl
           refine o_e rfl (zab 0 Z Try.func41 N41 rfl rfl rfl (fun w P1 hF hB hS hT => impl_SamePowers.calls k i121 A125 c126 l122.length l122 A127 c128 l123.length l123 i94 A103 c104 l95.length l95 A105 c106 l96.length l96 hB hF (hT 1 _ rfl).row (hT 1 _ rfl).cap (hT 2 _ rfl).row (hT 2 _ rfl).cap (hT 8 _ rfl).row (hT 8 _ rfl).cap (hT 9 _ rfl).row (hT 9 _ rfl).cap _ _ hx131)) (fun _ => ?_)
           refine o_q rfl rfl (za2 rfl) ?_
           refine o_q rfl rfl (q_ext rfl rfl) ?_
           refine o_q rfl rfl (q_ext rfl rfl) ?_
           refine o_q rfl rfl (q_asg rfl) ?_
           refine o_q rfl rfl (q_asg rfl) ?_
           refine o_end ?_
           refine za1 ?_
           refine c_seq ?_
           refine za0 ?_
           refine o_q rfl rfl (za2 rfl) ?_
           refine o_q rfl rfl (za2 rfl) ?_
           refine byB b124 (fun hb134 => ?_) (fun hb134 => ?_)
           ·replace h := bb_t hb134 h
            refine o_w (za4 rfl rfl rfl (congrArg Value.bool hb134)) rfl (za2 rfl) ?_
            refine o_q rfl rfl (zaq true (congrArg Value.bool hb134) rfl) ?_
            refine o_q rfl rfl (za2 rfl) ?_
            refine byB b133 (fun hb135 => ?_) (fun hb135 => ?_)
            ·replace h := bb_t hb135 h
             refine o_w (za4 rfl rfl rfl (congrArg Value.bool hb135)) rfl (za2 rfl) ?_
             refine o_w (za4 rfl rfl rfl (congrArg Value.bool hb135)) rfl (za2 rfl) ?_
             refine o_w (za4 rfl rfl rfl (congrArg Value.bool hb135)) rfl (q_beql Try.underlying4 rfl rfl) ?_
             refine o_q rfl rfl (zaq true (congrArg Value.bool hb135) rfl) ?_
             refine o_q rfl rfl (q_asg rfl) ?_
             refine o_end ?_
             refine za1 ?_
             refine c_ret ?_
             refine zaa ?_
             have e0_ := Option.some.inj h; clear h
             subst e0_
             exact x_r1 () Try.results6 (zai rfl) rfl (fun w h => za6 [] (by decide) rfl w h)
            ·replace h := bb_f hb135 h
             refine @o_n _ _ _ _ _ _ _ _ _ _ _ 145 (za3 rfl rfl rfl (congrArg Value.bool hb135) rfl) (Eq.refl (some 145)) ?_
             refine @o_n _ _ _ _ _ _ _ _ _ _ _ 146 (za3 rfl rfl rfl (congrArg Value.bool hb135) rfl) (Eq.refl (some 146)) ?_
             refine @o_n _ _ _ _ _ _ _ _ _ _ _ 147 (za3 rfl rfl rfl (congrArg Value.bool hb135) rfl) (Eq.refl (some 147)) ?_
             refine o_q rfl rfl (zaq false (congrArg Value.bool hb135) rfl) ?_
             refine o_q rfl rfl (q_asg rfl) ?_
             refine o_end ?_
             refine za1 ?_
             refine c_ret ?_
             refine zaa ?_
             have e0_ := Option.some.inj h; clear h
             subst e0_
             exact x_r1 () Try.results6 (zai rfl) rfl (fun w h => za6 [] (by decide) rfl w h)
           ·replace h := bb_f hb134 h
            refine @o_n _ _ _ _ _ _ _ _ _ _ _ 142 (za3 rfl rfl rfl (congrArg Value.bool hb134) rfl) (Eq.refl (some 142)) ?_
            refine o_q rfl rfl (zaq false (congrArg Value.bool hb134) rfl) ?_
            refine o_q rfl rfl (za2 rfl) ?_
            refine @o_n _ _ _ _ _ _ _ _ _ _ _ 145 (za3 rfl rfl rfl rfl rfl) (Eq.refl (some 145)) ?_
            refine @o_n _ _ _ _ _ _ _ _ _ _ _ 146 (za3 rfl rfl rfl rfl rfl) (Eq.refl (some 146)) ?_
            refine @o_n _ _ _ _ _ _ _ _ _ _ _ 147 (za3 rfl rfl rfl rfl rfl) (Eq.refl (some 147)) ?_
            refine o_q rfl rfl (zaq false rfl rfl) ?_
            refine o_q rfl rfl (q_asg rfl) ?_
            refine o_end ?_
            refine za1 ?_
            refine c_ret ?_
            refine zaa ?_
            have e0_ := Option.some.inj h; clear h
            subst e0_
            exact x_r1 () Try.results6 (zai rfl) rfl (fun w h => za6 [] (by decide) rfl w h)
          ·skip
           replace h := bb_f hb119 h
           refine zao ?_
           refine za1 ?_
           refine c_seq ?_
           refine za0 ?_
           refine o_q rfl rfl (q_asg rfl) ?_
           refine o_end ?_
           refine za1 ?_
           refine c_ret ?_
           have e0_ := Option.some.inj h; clear h
           subst e0_
           exact x_r1 () Try.results6 (zai rfl) rfl (fun w h => za6 [] (by decide) rfl w h)
     ·replace h := bb_f hb60 h
      refine @o_n _ _ _ _ _ _ _ _ _ _ _ 82 (za3 rfl rfl rfl (congrArg (fun b => Value.bool (!(b))) hb60) rfl) (Eq.refl (some 82)) ?_
      refine @o_n _ _ _ _ _ _ _ _ _ _ _ 83 (za3 rfl rfl rfl (congrArg (fun b => Value.bool (!(b))) hb60) rfl) (Eq.refl (some 83)) ?_
      refine @o_n _ _ _ _ _ _ _ _ _ _ _ 84 (za3 rfl rfl rfl (congrArg (fun b => Value.bool (!(b))) hb60) rfl) (Eq.refl (some 84)) ?_
      refine @o_n _ _ _ _ _ _ _ _ _ _ _ 85 (za3 rfl rfl rfl (congrArg (fun b => Value.bool (!(b))) hb60) rfl) (Eq.refl (some 85)) ?_
      refine o_q rfl rfl (zaq true (congrArg (fun b => Value.bool (!(b))) hb60) rfl) ?_
      refine o_end ?_
      refine za1 ?_
      refine zb1 rfl ?_
      refine c_seq ?_
      refine za0 ?_
      refine o_q rfl rfl (q_asg rfl) ?_
      refine o_end ?_
      refine za1 ?_
      refine c_ret ?_
      refine zaa ?_
      have e0_ := Option.some.inj h; clear h
      subst e0_
      exact x_r1 () Try.results6 (zai rfl) rfl (fun w h => za6 [] (by decide) rfl w h)
   ·replace h := bb_f hb56 h
    refine @o_n _ _ _ _ _ _ _ _ _ _ _ 71 (za3 rfl rfl rfl (congrArg (fun b => Value.bool (!(b))) hb56) rfl) (Eq.refl (some 71)) ?_
    refine @o_n _ _ _ _ _ _ _ _ _ _ _ 72 (za3 rfl rfl rfl (congrArg (fun b => Value.bool (!(b))) hb56) rfl) (Eq.refl (some 72)) ?_
    refine @o_n _ _ _ _ _ _ _ _ _ _ _ 73 (za3 rfl rfl rfl (congrArg (fun b => Value.bool (!(b))) hb56) rfl) (Eq.refl (some 73)) ?_
    refine o_q rfl rfl (zaq true (congrArg (fun b => Value.bool (!(b))) hb56) rfl) ?_
    refine o_q rfl rfl (za2 rfl) ?_
    refine @o_n _ _ _ _ _ _ _ _ _ _ _ 76 (za3 rfl rfl rfl rfl rfl) (Eq.refl (some 76)) ?_
    refine @o_n _ _ _ _ _ _ _ _ _ _ _ 77 (za3 rfl rfl rfl rfl rfl) (Eq.refl (some 77)) ?_
    refine @o_n _ _ _ _ _ _ _ _ _ _ _ 78 (za3 rfl rfl rfl rfl rfl) (Eq.refl (some 78)) ?_
    refine @o_n _ _ _ _ _ _ _ _ _ _ _ 79 (za3 rfl rfl rfl rfl rfl) (Eq.refl (some 79)) ?_
    refine o_q rfl rfl (zaq true rfl rfl) ?_
    refine o_q rfl rfl (za2 rfl) ?_
    refine @o_n _ _ _ _ _ _ _ _ _ _ _ 82 (za3 rfl rfl rfl rfl rfl) (Eq.refl (some 82)) ?_
    refine @o_n _ _ _ _ _ _ _ _ _ _ _ 83 (za3 rfl rfl rfl rfl rfl) (Eq.refl (some 83)) ?_
    refine @o_n _ _ _ _ _ _ _ _ _ _ _ 84 (za3 rfl rfl rfl rfl rfl) (Eq.refl (some 84)) ?_
    refine @o_n _ _ _ _ _ _ _ _ _ _ _ 85 (za3 rfl rfl rfl rfl rfl) (Eq.refl (some 85)) ?_
    refine o_q rfl rfl (zaq true rfl rfl) ?_
    refine o_end ?_
    refine za1 ?_
    refine zb1 rfl ?_
    refine c_seq ?_
    refine za0 ?_
    refine o_q rfl rfl (q_asg rfl) ?_
    refine o_end ?_
    refine za1 ?_
    refine c_ret ?_
    refine zaa ?_
    have e0_ := Option.some.inj h; clear h
    subst e0_
    exact x_r1 () Try.results6 (zai rfl) rfl (fun w h => za6 [] (by decide) rfl w h)

/-! ### loop.example/g01098/impl.firsts: function 77 -/
def impl_firsts.l0 : Nat → (List Int) → Int → Option (List Int)
 | 0, l4, i7 => some l4
 | k10 + 1, l4, i7 => (ap l4 ([i7] : List Int)).bind fun l22 => impl_firsts.l0 k10 l22 (i7 + 1)
def impl_firsts.f (a0 : Int) : Option (List Int) := (bd a0).bind fun _ => (impl_firsts.l0 ((a0).toNat) ([] : List Int) 0).bind fun l4 => some l4
set_option maxHeartbeats 600000 in
set_option maxRecDepth 100000 in
theorem impl_firsts.calls {w0 ws : World} {P0 : Nat → Prop} (a0 : Int) (Z : Below w0.heap.size w0 ws) (hF : Fr w0 ws P0 [] ws)  (r_1 : List Int) (h : impl_firsts.f a0 = some r_1) :
  Calls Try.prog 77 #[.int .i64 a0] ws (Post1 w0 ws P0 (fun ((q_2, q_3) : (Option Addr) × Nat) => .slice q_2 r_1.length q_3) (fun ((q_2, q_3) : (Option Addr) × Nat) => [row (Kd.int .i64) 3 (.slice q_2 r_1.length q_3) r_1])) := by
 unfold impl_firsts.f at h
 refine enter Try.func77 rfl Try.ntmps77 rfl hF ?_
 refine c_seq ?_
 refine za0 ?_
 refine o_q rfl rfl (q_asg rfl) ?_
 refine o_end ?_
 refine za1 ?_
 refine c_seq ?_
 refine za0 ?_
 refine o_e rfl (e_lit0 (Kd.int .i64) Try.underlying25 I3) (cur2 (fun A1 c2 => ?_))
 refine o_q rfl rfl (q_asg rfl) ?_
 refine o_end ?_
 refine za1 ?_
 refine c_seq ?_
 refine c_seq ?_
 refine za0 ?_
 refine o_q rfl rfl (za2 rfl) ?_
 refine o_q rfl rfl (za2 rfl) ?_
 refine o_end ?_
 refine za1 ?_
 refine zaj ?_
 refine za7 h (fun _ hbd16 h => ?_) rfl
 refine za7 h (fun o15 hl14 hR13 => ?_) rfl
 clear h
 have hm12 : a0 ≤ 9223372036854775807 := bd_le hbd16
 refine zax (σ := (List Int) × Int × (Option Addr) × Nat) (fun k10 ((l4, i7, A5, c6) : (List Int) × Int × (Option Addr) × Nat) => Cn a0 i7 k10 ∧ impl_firsts.l0 k10 l4 i7 = some o15) [3, 4, 7, 8, 9, 10, 11, 12, 13, 14] (fun ((l4, i7, A5, c6) : (List Int) × Int × (Option Addr) × Nat) => [(3, .slice A5 l4.length c6), (7, .int .i64 i7)]) (fun ((l4, i7, A5, c6) : (List Int) × Int × (Option Addr) × Nat) => [row (Kd.int .i64) 3 (.slice A5 l4.length c6) l4]) (a0).toNat (([] : List Int), 0, A1, c2) ⟨Cn.start hm12, hl14⟩ ⟨rfl, rfl, trivial⟩ (fun w h => h) ?_
 refine natC (cur4 (fun l4 i7 A5 c6 => fun U17 hJ_ => ?_)) (fun k10 => (cur4 (fun l4 i7 A5 c6 => fun U17 hJ_ => ?_)))
 ·skip
  clear hl14
  have hr11 := hJ_.1; have h := hJ_.2; clear hJ_
  replace h : impl_firsts.l0 0 l4 i7 = some o15 := h
  rw [impl_firsts.l0] at h
  refine c_seq ?_
  refine za0 ?_
  refine o_q rfl rfl (q_lss rfl rfl) ?_
  refine o_end ?_
  refine za1 ?_
  refine c_seq ?_
  refine zb3 (congrArg Value.bool hr11.ge) ?_
  refine zb4 ?_
  refine za8 ?_
  refine za8 ?_
  have e_ := Option.some.inj h; replace h := hR13; rw [← e_] at h; clear e_
  refine x_hit ?_
  refine za1 ?_
  refine c_seq ?_
  refine za0 ?_
  refine o_q rfl rfl (za2 rfl) ?_
  refine o_q rfl rfl (q_asg rfl) ?_
  refine o_end ?_
  refine za1 ?_
  refine c_ret ?_
  have e0_ := Option.some.inj h; clear h
  subst e0_
  exact x_r1 (A5, c6) Try.results77 (zai rfl) rfl (fun w h => za6 [0] (by decide) rfl w h)
 ·skip
  clear hl14
  have hr11 := hJ_.1; have h := hJ_.2; clear hJ_
  replace h : impl_firsts.l0 (k10 + 1) l4 i7 = some o15 := h
  rw [impl_firsts.l0] at h
  refine c_seq ?_
  refine za0 ?_
  refine o_q rfl rfl (q_lss rfl rfl) ?_
  refine o_end ?_
  refine za1 ?_
  refine c_seq ?_
  refine zb1 (congrArg Value.bool hr11.lt) ?_
  refine zao ?_
  refine za1 ?_
  refine c_seq ?_
  refine zaj ?_
  refine c_seq ?_
  refine za0 ?_
  refine o_q rfl rfl (za2 rfl) ?_
  refine o_q rfl rfl (q_asg rfl) ?_
  refine o_end ?_
  refine za1 ?_
  refine za0 ?_
  refine o_q rfl rfl (za2 rfl) ?_
  refine o_q rfl rfl (za2 rfl) ?_
  refine o_e rfl (e_lit (vs := [(0, .int .i64 i7)]) (cs := [.int .i64 i7]) (Kd.int .i64) ([i7] : List Int) Try.underlying25 I3 (by decide) rfl (by decide) rfl rfl (fun _ _ => Kd.zak _)) (cur2 (fun A19 c20 => ?_))
  refine za7 h (fun l22 ha23 h => ?_) rfl
  refine o_e rfl (e_app (i := 1) (j := 0) Try.underlying25 I3 rfl (by decide) (by decide) rfl rfl rfl rfl rfl ha23) (cur2 (fun A24 c25 => ?_))
  refine o_q rfl rfl (q_asg rfl) ?_
  refine o_end ?_
  refine zal ?_
  refine za1 ?_
  refine za0 ?_
  refine o_q rfl rfl (q_up rfl rfl hr11.up) ?_
  refine o_q rfl rfl (za2 rfl) ?_
  refine o_end ?_
  refine zam k10 (l22, i7 + 1, A24, c25) (Nat.lt_succ_self _) ⟨hr11.step, h⟩ ⟨rfl, rfl, trivial⟩ (fun w h => za6 [1] (by decide) rfl w h) ?_
  repeat (first | exact zac _ _ | refine zaf rfl ?_ | refine zad rfl ?_ | refine zah rfl ?_)

/-! ### (*loop.example/g01098/impl.Plan).needed: function 68 -/
def impl_Plan_needed.l2 (a0_0 : Int) : (List Bool) → (List Bool) → Int → Option (List Bool)
 | [], l31, i32 => some l31
 | y33 :: ys34, l31, i32 => (gt l31 (w64 (a0_0 + i32))).bind fun y47 => if y47 = true then ((gt l31 (w64 (a0_0 + i32))).bind fun y50 => (st l31 (w64 (a0_0 + i32)) y33).bind fun l51 => impl_Plan_needed.l2 a0_0 ys34 l51 (i32 + 1)) else ((gt l31 (w64 (a0_0 + i32))).bind fun y54 => (st l31 (w64 (a0_0 + i32)) false).bind fun l55 => impl_Plan_needed.l2 a0_0 ys34 l55 (i32 + 1))
def impl_Plan_needed.l1 (l1 : List Bool) : (List SStep) → (List Bool) → Int → Option (List Bool)
 | [], l19, i20 => some l19
 | y21 :: ys22, l19, i20 => (gt l1 i20).bind fun y62 => if y62 = true then (impl_Plan_needed.l1 l1 ys22 l19 (i20 + 1)) else ((gt l19 y21.f0).bind fun y66 => (st l19 y21.f0 true).bind fun l67 => (gt l67 y21.f1).bind fun y71 => (st l67 y21.f1 true).bind fun l72 => impl_Plan_needed.l1 l1 ys22 l72 (i20 + 1))
def impl_Plan_needed.l0 : (List Int) → (List Bool) → Int → Option (List Bool)
 | [], l7, i8 => some l7
 | y9 :: ys10, l7, i8 => (gt l7 y9).bind fun y77 => (st l7 y9 true).bind fun l78 => impl_Plan_needed.l0 ys10 l78 (i8 + 1)
def impl_Plan_needed.f (a0_0 : Int) (l0_1 : List SStep) (l0_2 : List Int) (l1 : List Bool) : Option (List Bool) := (impl_Plan_many.f a0_0 l0_1 l0_2).bind fun _ => (mk0 (w64 (a0_0 + (l0_1.length : Int))) false).bind fun l2 => (impl_Plan_needed.l0 l0_2 l2 0).bind fun l7 => (impl_Plan_needed.l1 l1 l0_1 l7 0).bind fun l19 => (impl_Plan_needed.l2 a0_0 l1 l19 0).bind fun l31 => some l31
set_option maxHeartbeats 600000 in
set_option maxRecDepth 100000 in
theorem impl_Plan_needed.calls {w0 ws : World} {P0 : Nat → Prop} (g0 : Nat) (a0_0 : Int) (A0_1 : Option Addr) (c0_1 : Nat) (n0_1 : Nat) (l0_1 : List SStep) (A0_2 : Option Addr) (c0_2 : Nat) (n0_2 : Nat) (l0_2 : List Int) (A1 : Option Addr) (c1 : Nat) (n1 : Nat) (l1 : List Bool) (Z : Below w0.heap.size w0 ws) (hF : Fr w0 ws P0 [] ws) (R0_1 : Stable ws P0 (fun w => Kd.C kStep w A0_1 n0_1 l0_1)) (hc0_1 : n0_1 ≤ c0_1) (R0_2 : Stable ws P0 (fun w => Kd.C (Kd.int .i64) w A0_2 n0_2 l0_2)) (hc0_2 : n0_2 ≤ c0_2) (B0 : Stable ws P0 (fun w => w.heap[g0]? = some (.cells #[.int .i64 a0_0, .slice A0_1 n0_1 c0_1, .slice A0_2 n0_2 c0_2] 27 (0, 0)))) (R1 : Stable ws P0 (fun w => Kd.C Kd.bool w A1 n1 l1)) (hc1 : n1 ≤ c1) (r_1 : List Bool) (h : impl_Plan_needed.f a0_0 l0_1 l0_2 l1 = some r_1) :
  Calls Try.prog 68 #[.pointer (some ⟨g0, 0, none⟩), .slice A1 n1 c1] ws (Post1 w0 ws P0 (fun ((q_2, q_3) : (Option Addr) × Nat) => .slice q_2 r_1.length q_3) (fun ((q_2, q_3) : (Option Addr) × Nat) => [row Kd.bool 4 (.slice q_2 r_1.length q_3) r_1])) := by
 unfold impl_Plan_needed.f at h
 obtain rfl := (R0_1 ws (KeptB.refl _ _)).1
 obtain rfl := (R0_2 ws (KeptB.refl _ _)).1
 obtain rfl := (R1 ws (KeptB.refl _ _)).1
 refine enter Try.func68 rfl Try.ntmps68 rfl hF ?_
 refine c_seq ?_
 refine za0 ?_
 refine o_q rfl rfl (q_asg rfl) ?_
 refine o_end ?_
 refine za1 ?_
 refine c_seq ?_
 refine za0 ?_
 refine o_q rfl rfl (za2 rfl) ?_
 refine za7 h (fun _ hx1 h => ?_) rfl
 refine o_e rfl (zab 0 Z Try.func84 N84 rfl rfl rfl (fun w P1 hF hB hS hT => impl_Plan_many.calls g0 a0_0 A0_1 c0_1 l0_1.length l0_1 A0_2 c0_2 l0_2.length l0_2 hB hF (hS _ R0_1) hc0_1 (hS _ R0_2) hc0_2 (hS _ B0) hx1)) (fun _ => ?_)
 refine za7 h (fun l2 hm3 h => ?_) rfl
 refine o_e rfl (e_make Kd.bool false Try.underlying78 I4 rfl (by decide) (by decide) (fun _ _ => rfl) rfl rfl hm3) (cur2 (fun A4 c5 => ?_))
 refine o_q rfl rfl (q_asg rfl) ?_
 refine o_end ?_
 refine za1 ?_
 refine c_seq ?_
 refine c_seq ?_
 refine za0 ?_
 refine o_q rfl rfl (za2 rfl) ?_
 refine o_q rfl rfl (q_nil rfl) ?_
 refine o_q rfl rfl (q_f F27_2 rfl) ?_
 refine o_q rfl rfl (q_ldb Y25 rfl (fun w h => B0.now Z h) rfl) ?_
 refine o_q rfl rfl (q_len Try.underlying25 rfl) ?_
 refine o_q rfl rfl (za2 rfl) ?_
 refine o_end ?_
 refine za1 ?_
 refine zaj ?_
 refine za7 h (fun o16 hl15 hR14 => ?_) rfl
 clear h
 refine zba (p := l0_2.length ≤ 9223372036854775807) (fun w h => (R0_2.now Z h).2.1) (fun hm13 => ?_)
 refine zax (σ := (List Int) × (List Bool) × Int) (fun k11 ((ys10, l7, i8) : (List Int) × (List Bool) × Int) => Rg l0_2 i8 ys10 ∧ ys10.length = k11 ∧ impl_Plan_needed.l0 ys10 l7 i8 = some o16) [7, 20, 21, 22, 23, 24, 25, 26, 27] (fun ((ys10, l7, i8) : (List Int) × (List Bool) × Int) => [(20, .int .i64 i8)]) (fun ((ys10, l7, i8) : (List Int) × (List Bool) × Int) => [row Kd.bool 4 (.slice A4 l2.length c5) l7]) l0_2.length (l0_2, l2, 0) ⟨Rg.start _, rfl, hl15⟩ ⟨rfl, trivial⟩ (fun w h => h) ?_
 refine fun k11 => cur3 (listC (fun l7 i8 U17 hJ_ => ?_) (fun y9 ys10 l7 i8 U17 hJ_ => ?_))
 ·skip
  clear hl15
  have hr12 := hJ_.1; have hk18 := hJ_.2.1; have h := hJ_.2.2; clear hJ_
  replace h : impl_Plan_needed.l0 [] l7 i8 = some o16 := h
  rw [impl_Plan_needed.l0] at h
  refine c_seq ?_
  refine za0 ?_
  refine o_q rfl rfl (q_lss rfl rfl) ?_
  refine o_end ?_
  refine za1 ?_
  refine c_seq ?_
  refine zb3 (congrArg Value.bool hr12.ge) ?_
  refine zb4 ?_
  refine za8 ?_
  refine za8 ?_
  have e_ := Option.some.inj h; replace h := hR14; rw [← e_] at h; clear e_
  refine x_hit ?_
  refine za1 ?_
  refine c_seq ?_
  refine c_seq ?_
  refine za0 ?_
  refine o_q rfl rfl (za2 rfl) ?_
  refine o_q rfl rfl (q_nil rfl) ?_
  refine o_q rfl rfl (q_f F27_1 rfl) ?_
  refine o_q rfl rfl (q_ldb Y24 rfl (fun w h => B0.now Z h) rfl) ?_
  refine o_q rfl rfl (q_len Try.underlying24 rfl) ?_
  refine o_q rfl rfl (za2 rfl) ?_
  refine o_end ?_
  refine za1 ?_
  refine zaj ?_
  refine za7 h (fun o28 hl27 hR26 => ?_) rfl
  clear h
  refine zba (p := l0_1.length ≤ 9223372036854775807) (fun w h => (R0_1.now Z h).2.1) (fun hm25 => ?_)
  refine zax (σ := (List SStep) × (List Bool) × Int) (fun k23 ((ys22, l19, i20) : (List SStep) × (List Bool) × Int) => Rg l0_1 i20 ys22 ∧ ys22.length = k23 ∧ impl_Plan_needed.l1 l1 ys22 l19 i20 = some o28) [8, 9, 33, 34, 35, 36, 37, 38, 39, 40, 41, 42, 43, 44, 45, 46, 47, 48, 49, 50, 51] (fun ((ys22, l19, i20) : (List SStep) × (List Bool) × Int) => [(33, .int .i64 i20)]) (fun ((ys22, l19, i20) : (List SStep) × (List Bool) × Int) => [row Kd.bool 4 (.slice A4 l2.length c5) l19]) l0_1.length (l0_1, l7, 0) ⟨Rg.start _, rfl, hl27⟩ ⟨rfl, trivial⟩ (fun w h => h) ?_
  refine fun k23 => cur3 (listC (fun l19 i20 U29 hJ_ => ?_) (fun y21 ys22 l19 i20 U29 hJ_ => ?_))
  ·skip
   clear hl27
   have hr24 := hJ_.1; have hk30 := hJ_.2.1; have h := hJ_.2.2; clear hJ_
   replace h : impl_Plan_needed.l1 l1 [] l19 i20 = some o28 := h
   rw [impl_Plan_needed.l1] at h
   refine c_seq ?_
   refine za0 ?_
   refine o_q rfl rfl (q_lss rfl rfl) ?_
   refine o_end ?_
   refine za1 ?_
   refine c_seq ?_
   refine zb3 (congrArg Value.bool hr24.ge) ?_
   refine zb4 ?_
   refine za8 ?_
   refine za8 ?_
   have e_ := Option.some.inj h; replace h := hR26; rw [← e_] at h; clear e_
   refine x_hit ?_
   refine za1 ?_
   refine c_seq ?_
   refine c_seq ?_
   refine za0 ?_
   refine o_q rfl rfl (za2 rfl) ?_
   refine o_q rfl rfl (q_len Try.underlying78 rfl) ?_
   refine o_q rfl rfl (za2 rfl) ?_
   refine o_end ?_
   refine za1 ?_
   refine zaj ?_
   refine za7 h (fun o40 hl39 hR38 => ?_) rfl
   clear h
   refine zba (p := l1.length ≤ 9223372036854775807) (fun w h => (R1.now Z h).2.1) (fun hm37 => ?_)
   refine zax (σ := (List Bool) × (List Bool) × Int) (fun k35 ((ys34, l31, i32) : (List Bool) × (List Bool) × Int) => Rg l1 i32 ys34 ∧ ys34.length = k35 ∧ impl_Plan_needed.l2 a0_0 ys34 l31 i32 = some o40) [10, 11, 54, 55, 56, 57, 58, 59, 60, 61, 62, 63, 64, 65, 66, 67, 68, 69, 70, 71, 72, 73, 74, 75, 76, 77, 78, 79] (fun ((ys34, l31, i32) : (List Bool) × (List Bool) × Int) => [(54, .int .i64 i32)]) (fun ((ys34, l31, i32) : (List Bool) × (List Bool) × Int) => [row Kd.bool 4 (.slice A4 l2.length c5) l31]) l1.length (l1, l19, 0) ⟨Rg.start _, rfl, hl39⟩ ⟨rfl, trivial⟩ (fun w h => h) ?_
   refine fun k35 => cur3 (listC (fun l31 i32 U41 hJ_ => ?_) (fun y33 ys34 l31 i32 U41 hJ_ => ?_))
   ·skip
    clear hl39
    have hr36 := hJ_.1; have hk42 := hJ_.2.1; have h := hJ_.2.2; clear hJ_
    replace h : impl_Plan_needed.l2 a0_0 [] l31 i32 = some o40 := h
    rw [impl_Plan_needed.l2] at h
    refine c_seq ?_
    refine za0 ?_
    refine o_q rfl rfl (q_lss rfl rfl) ?_
    refine o_end ?_
    refine za1 ?_
    refine c_seq ?_
    refine zb3 (congrArg Value.bool hr36.ge) ?_
    refine zb4 ?_
    refine za8 ?_
    refine za8 ?_
    have e_ := Option.some.inj h; replace h := hR38; rw [← e_] at h; clear e_
    refine x_hit ?_
    refine za1 ?_
    refine c_seq ?_
    refine za0 ?_
    refine o_q rfl rfl (za2 rfl) ?_
    refine o_q rfl rfl (q_asg rfl) ?_
    refine o_end ?_
    refine za1 ?_
    refine c_ret ?_
    refine x_fact (p := l2.length = l31.length) (fun w h => (h.row_C (i := 0) rfl).2.1) (fun hn43 => ?_)
    have e0_ := Option.some.inj h; clear h
    subst e0_
    exact x_r1 (A4, c5) Try.results68 (zai (v := .slice A4 l2.length c5) rfl) (by (try rw [hn43]); first | done | rfl) (f_pickE (L1 := [row Kd.bool 4 (.slice A4 l2.length c5) l31]) rfl [0] (by decide) rfl (by (try rw [hn43]); first | done | rfl))
   ·skip
    clear hl39
    have hr36 := hJ_.1; have hk42 := hJ_.2.1; have h := hJ_.2.2; clear hJ_
    replace h : impl_Plan_needed.l2 a0_0 (y33 :: ys34) l31 i32 = some o40 := h
    rw [impl_Plan_needed.l2] at h
    refine c_seq ?_
    refine za0 ?_
    refine o_q rfl rfl (q_lss rfl rfl) ?_
    refine o_end ?_
    refine za1 ?_
    refine c_seq ?_
    refine zb1 (congrArg Value.bool hr36.lt) ?_
    refine zao ?_
    refine za1 ?_
    refine c_seq ?_
    refine zaj ?_
    refine c_seq ?_
    refine za0 ?_
    refine o_q rfl rfl (za2 rfl) ?_
    refine zaz (p := Sh A1 l1.length l1.length) (fun w h => f_sh (dk := Kd.bool) h (fun w h => R1.now Z h)) (fun hq44 => ?_)
    refine o_q rfl rfl (q_ix Try.underlying78 Z4 rfl rfl hq44 hr36.get) ?_
    refine o_q rfl rfl (q_lde (off := 0) Y4 rfl rfl (fun w h => R1.now Z h) hr36.get (fun _ _ h => h) rfl) ?_
    refine o_q rfl rfl (q_asg rfl) ?_
    refine o_q rfl rfl (q_asg rfl) ?_
    refine o_end ?_
    refine za1 ?_
    refine a_startS (ds := []) [none] MO rfl ?_
    refine za9 0 rfl rfl rfl (by kernel_rfl) (fun _ _ _ h => h) (za2 rfl) ?_
    refine za9 1 rfl rfl rfl (by kernel_rfl) (fun _ _ _ h => h) (za2 rfl) ?_
    refine za9 2 rfl rfl rfl (by kernel_rfl) (fun _ _ _ h => h) (q_nil rfl) ?_
    refine za9 3 rfl rfl rfl (by kernel_rfl) (fun _ _ _ h => h) (q_f F27_0 rfl) ?_
    refine zb0 4 rfl rfl rfl (by kernel_rfl) (fun _ _ _ h => h) (fun w h => za5 [none] (by decide) w h rfl) (q_ldb Y3 rfl (fun w h => B0.now Z h) rfl) ?_
    refine za9 5 rfl rfl rfl (by kernel_rfl) (fun _ _ _ h => h) (za2 rfl) ?_
    refine za9 6 rfl rfl rfl (by kernel_rfl) (fun _ _ _ h => h) (zb8 rfl rfl) ?_
    refine za9 7 rfl rfl rfl (by kernel_rfl) (fun _ _ _ h => h) (za2 rfl) ?_
    refine za9 8 rfl rfl rfl (by kernel_rfl) (fun _ _ _ h => h) (za2 rfl) ?_
    refine za9 9 rfl rfl rfl (by kernel_rfl) (fun _ _ _ h => h) (q_nil rfl) ?_
    refine za9 10 rfl rfl rfl (by kernel_rfl) (fun _ _ _ h => h) (q_f F27_0 rfl) ?_
    refine zb0 11 rfl rfl rfl (by kernel_rfl) (fun _ _ _ h => h) (fun w h => za5 [none] (by decide) w h rfl) (q_ldb Y3 rfl (fun w h => B0.now Z h) rfl) ?_
    refine za9 12 rfl rfl rfl (by kernel_rfl) (fun _ _ _ h => h) (za2 rfl) ?_
    refine za9 13 rfl rfl rfl (by kernel_rfl) (fun _ _ _ h => h) (zb8 rfl rfl) ?_
    refine a_fact (p := Sh A4 l2.length l31.length) (fun w h => f_sh (dk := Kd.bool) h (fun w h => h.zaw (i := 0) rfl)) (fun hq45 => ?_)
    refine za7 h (fun y47 hg46 h => ?_) rfl
    refine za9 14 rfl rfl rfl (by kernel_rfl) (fun _ _ _ h => h) (q_ix Try.underlying78 Z4 rfl rfl hq45 hg46) ?_
    refine a_one 15 rfl rfl (by kernel_rfl) rfl (ev_q rfl (q_lde (off := 0) Y4 rfl rfl (fun w h => h.zaw (i := 0) rfl) hg46 (fun _ _ h => h) rfl)) (fun s w h => za5 [none] (by decide) w h rfl) (fun _ => ?_)
    refine za9 16 rfl rfl rfl (by kernel_rfl) (fun _ _ _ h => h) (za2 rfl) ?_
    refine byB y47 (fun hb48 => ?_) (fun hb48 => ?_)
    ·replace h := bb_t hb48 h
     refine a_purew 17 rfl rfl (za4 rfl rfl rfl (congrArg Value.bool hb48)) (by kernel_rfl) (fun _ _ _ h => h) (za2 rfl) ?_
     refine za9 18 rfl rfl rfl (by kernel_rfl) (fun _ _ _ h => h) (zaq true (congrArg Value.bool hb48) rfl) ?_
     refine za7 h (fun y50 hg49 h => ?_) rfl
     refine za9 19 rfl rfl rfl (by kernel_rfl) (fun _ _ _ h => h) (q_ix Try.underlying78 Z4 rfl rfl hq45 hg49) ?_
     refine za7 h (fun l51 hs52 h => ?_) rfl
     refine a_one 20 rfl rfl (by kernel_rfl) rfl (e_set (i := 0) rfl rfl rfl Z4 hs52) (fun s w h => za5 [none] (by decide) w h rfl) (fun _ => ?_)
     refine zav (by kernel_rfl) ?_
     refine zal ?_
     refine za1 ?_
     refine za0 ?_
     refine o_q rfl rfl (q_up rfl rfl (hr36.up hm37)) ?_
     refine o_q rfl rfl (za2 rfl) ?_
     refine o_end ?_
     refine zam ys34.length (ys34, l51, i32 + 1) (by rw [← hk42]; exact Nat.lt_succ_self _) ⟨hr36.step, rfl, h⟩ ⟨rfl, trivial⟩ (fun w h => za6 [0] (by decide) rfl w h) ?_
     repeat (first | exact zac _ _ | refine zaf rfl ?_ | refine zad rfl ?_ | refine zah rfl ?_)
    ·replace h := bb_f hb48 h
     refine a_no 17 rfl rfl (za3 rfl rfl rfl (congrArg Value.bool hb48) rfl) (by kernel_rfl) (fun _ _ _ h => h) ?_
     refine za9 18 rfl rfl rfl (by kernel_rfl) (fun _ _ _ h => h) (zaq false (congrArg Value.bool hb48) rfl) ?_
     refine za7 h (fun y54 hg53 h => ?_) rfl
     refine za9 19 rfl rfl rfl (by kernel_rfl) (fun _ _ _ h => h) (q_ix Try.underlying78 Z4 rfl rfl hq45 hg53) ?_
     refine za7 h (fun l55 hs56 h => ?_) rfl
     refine a_one 20 rfl rfl (by kernel_rfl) rfl (e_set (i := 0) rfl rfl rfl Z4 hs56) (fun s w h => za5 [none] (by decide) w h rfl) (fun _ => ?_)
     refine zav (by kernel_rfl) ?_
     refine zal ?_
     refine za1 ?_
     refine za0 ?_
     refine o_q rfl rfl (q_up rfl rfl (hr36.up hm37)) ?_
     refine o_q rfl rfl (za2 rfl) ?_
     refine o_end ?_
     refine zam ys34.length (ys34, l55, i32 + 1) (by rw [← hk42]; exact Nat.lt_succ_self _) ⟨hr36.step, rfl, h⟩ ⟨rfl, trivial⟩ (fun w h => za6 [0] (by decide) rfl w h) ?_
     repeat (first | exact zac _ _ | refine zaf rfl ?_ | refine zad rfl ?_ | refine zah rfl ?_)
  ·skip
   clear hl27
   have hr24 := hJ_.1; have hk30 := hJ_.2.1; have h := hJ_.2.2; clear hJ_
   replace h : impl_Plan_needed.l1 l1 (y21 :: ys22) l19 i20 = some o28 := h
   rw [impl_Plan_needed.l1] at h
   refine c_seq ?_
   refine za0 ?_
   refine o_q rfl rfl (q_lss rfl rfl) ?_
   refine o_end ?_
   refine za1 ?_
   refine c_seq ?_
   refine zb1 (congrArg Value.bool hr24.lt) ?_
   refine zao ?_
   refine za1 ?_
   refine c_seq ?_
   refine zaj ?_
   refine c_seq ?_
   refine za0 ?_
   refine o_q rfl rfl (za2 rfl) ?_
   refine zaz (p := Sh A0_1 l0_1.length l0_1.length) (fun w h => f_sh (dk := kStep) h (fun w h => R0_1.now Z h)) (fun hq57 => ?_)
   refine o_q rfl rfl (q_ix Try.underlying24 Z88 rfl rfl hq57 hr24.get) ?_
   refine o_q rfl rfl (q_ldE G88 Z88 rfl rfl (fun w h => R0_1.now Z h) hr24.get (fun _ _ h => h) rfl) ?_
   refine o_e rfl (zat V88 rfl) (fun g58 => ?_)
   refine o_q rfl rfl (q_asg rfl) ?_
   refine o_e rfl (zan (i := 0) rfl rfl rfl Z88 rfl rfl) (fun _ => ?_)
   refine o_end ?_
   refine za1 ?_
   refine c_seq ?_
   refine za0 ?_
   refine o_q rfl rfl (za2 rfl) ?_
   refine o_q rfl rfl (za2 rfl) ?_
   refine zaz (p := Sh A1 l1.length l1.length) (fun w h => f_sh (dk := Kd.bool) h (fun w h => R1.now Z h)) (fun hq60 => ?_)
   refine za7 h (fun y62 hg61 h => ?_) rfl
   refine o_q rfl rfl (q_ix Try.underlying78 Z4 rfl rfl hq60 hg61) ?_
   refine o_q rfl rfl (q_lde (off := 0) Y4 rfl rfl (fun w h => R1.now Z h) hg61 (fun _ _ h => h) rfl) ?_
   refine o_q rfl rfl (q_not rfl) ?_
   refine o_end ?_
   refine za1 ?_
   refine zau _ rfl (fun hb63 => ?_) (fun hb63 => ?_)
   ·replace hb63 := nt_t hb63
    replace h := bb_f hb63 h
    refine a_startS (ds := []) [some 0, none] MO rfl ?_
    refine za9 0 rfl rfl rfl (by kernel_rfl) (fun _ _ _ h => h) (za2 rfl) ?_
    refine za9 1 rfl rfl rfl (by kernel_rfl) (fun _ _ _ h => h) (q_f F88_0 rfl) ?_
    refine zb0 2 rfl rfl rfl (by kernel_rfl) (fun _ _ _ h => h) (fun w h => za5 [some 0, none] (by decide) w h rfl) (q_ldb Y3 rfl (fun w h => h.zae (i := 0) rfl) rfl) ?_
    refine za9 3 rfl rfl rfl (by kernel_rfl) (fun _ _ _ h => h) (za2 rfl) ?_
    refine za9 4 rfl rfl rfl (by kernel_rfl) (fun _ _ _ h => h) (q_f F88_1 rfl) ?_
    refine zb0 5 rfl rfl rfl (by kernel_rfl) (fun _ _ _ h => h) (fun w h => za5 [some 0, none] (by decide) w h rfl) (q_ldb Y3 rfl (fun w h => h.zae (i := 0) rfl) rfl) ?_
    refine a_fact (p := Sh A4 l2.length l19.length) (fun w h => f_sh (dk := Kd.bool) h (fun w h => h.zaw (i := 1) rfl)) (fun hq64 => ?_)
    refine za7 h (fun y66 hg65 h => ?_) rfl
    refine za9 6 rfl rfl rfl (by kernel_rfl) (fun _ _ _ h => h) (q_ix Try.underlying78 Z4 rfl rfl hq64 hg65) ?_
    refine za7 h (fun l67 hs68 h => ?_) rfl
    refine a_one 7 rfl rfl (by kernel_rfl) rfl (e_set (i := 1) rfl rfl rfl Z4 hs68) (fun s w h => za5 [some 0, none] (by decide) w h rfl) (fun _ => ?_)
    refine a_fact (p := Sh A4 l2.length l67.length) (fun w h => f_sh (dk := Kd.bool) h (fun w h => h.zaw (i := 1) rfl)) (fun hq69 => ?_)
    refine za7 h (fun y71 hg70 h => ?_) rfl
    refine za9 8 rfl rfl rfl (by kernel_rfl) (fun _ _ _ h => h) (q_ix Try.underlying78 Z4 rfl rfl hq69 hg70) ?_
    refine za7 h (fun l72 hs73 h => ?_) rfl
    refine a_one 9 rfl rfl (by kernel_rfl) rfl (e_set (i := 1) rfl rfl rfl Z4 hs73) (fun s w h => za5 [some 0, none] (by decide) w h rfl) (fun _ => ?_)
    refine zav (by kernel_rfl) ?_
    refine zal ?_
    refine za1 ?_
    refine za0 ?_
    refine o_q rfl rfl (q_up rfl rfl (hr24.up hm25)) ?_
    refine o_q rfl rfl (za2 rfl) ?_
    refine o_end ?_
    refine zam ys22.length (ys22, l72, i20 + 1) (by rw [← hk30]; exact Nat.lt_succ_self _) ⟨hr24.step, rfl, h⟩ ⟨rfl, trivial⟩ (fun w h => za6 [1] (by decide) rfl w h) ?_
    repeat (first | exact zac _ _ | refine zaf rfl ?_ | refine zad rfl ?_ | refine zah rfl ?_)
   ·replace hb63 := nt_f hb63
    replace h := bb_t hb63 h
    refine zao ?_
    refine zal ?_
    refine za1 ?_
    refine za0 ?_
    refine o_q rfl rfl (q_up rfl rfl (hr24.up hm25)) ?_
    refine o_q rfl rfl (za2 rfl) ?_
    refine o_end ?_
    refine zam ys22.length (ys22, l19, i20 + 1) (by rw [← hk30]; exact Nat.lt_succ_self _) ⟨hr24.step, rfl, h⟩ ⟨rfl, trivial⟩ (fun w h => za6 [1] (by decide) rfl w h) ?_
    repeat (first | exact zac _ _ | refine zaf rfl ?_ | refine zad rfl ?_ | refine zah rfl ?_)
 ·skip
  clear hl15
  have hr12 := hJ_.1; have hk18 := hJ_.2.1; have h := hJ_.2.2; clear hJ_
  replace h : impl_Plan_needed.l0 (y9 :: ys10) l7 i8 = some o16 := h
  rw [impl_Plan_needed.l0] at h
  refine c_seq ?_
  refine za0 ?_
  refine o_q rfl rfl (q_lss rfl rfl) ?_
  refine o_end ?_
  refine za1 ?_
  refine c_seq ?_
  refine zb1 (congrArg Value.bool hr12.lt) ?_
  refine zao ?_
  refine za1 ?_
  refine c_seq ?_
  refine zaj ?_
  refine c_seq ?_
  refine za0 ?_
  refine zaz (p := Sh A0_2 l0_2.length l0_2.length) (fun w h => f_sh (dk := (Kd.int .i64)) h (fun w h => R0_2.now Z h)) (fun hq74 => ?_)
  refine o_q rfl rfl (q_ix Try.underlying25 Z3 rfl rfl hq74 hr12.get) ?_
  refine o_q rfl rfl (q_lde (off := 0) Y3 rfl rfl (fun w h => R0_2.now Z h) hr12.get (fun _ _ h => h) rfl) ?_
  refine o_q rfl rfl (q_asg rfl) ?_
  refine o_end ?_
  refine za1 ?_
  refine za0 ?_
  refine o_q rfl rfl (za2 rfl) ?_
  refine o_q rfl rfl (za2 rfl) ?_
  refine zaz (p := Sh A4 l2.length l7.length) (fun w h => f_sh (dk := Kd.bool) h (fun w h => h.zaw (i := 0) rfl)) (fun hq75 => ?_)
  refine za7 h (fun y77 hg76 h => ?_) rfl
  refine o_q rfl rfl (q_ix Try.underlying78 Z4 rfl rfl hq75 hg76) ?_
  refine za7 h (fun l78 hs79 h => ?_) rfl
  refine o_e rfl (e_set (i := 0) rfl rfl rfl Z4 hs79) (fun _ => ?_)
  refine o_end ?_
  refine zal ?_
  refine za1 ?_
  refine za0 ?_
  refine o_q rfl rfl (q_up rfl rfl (hr12.up hm13)) ?_
  refine o_q rfl rfl (za2 rfl) ?_
  refine o_end ?_
  refine zam ys10.length (ys10, l78, i8 + 1) (by rw [← hk18]; exact Nat.lt_succ_self _) ⟨hr12.step, rfl, h⟩ ⟨rfl, trivial⟩ (fun w h => za6 [0] (by decide) rfl w h) ?_
  repeat (first | exact zac _ _ | refine zaf rfl ?_ | refine zad rfl ?_ | refine zah rfl ?_)

/-! ### (*loop.example/g01098/impl.Plan).held: function 141 -/
def impl_Plan_held.l0 : (List Bool) → Int → Int → Option Int
 | [], i10, i11 => some i11
 | y12 :: ys13, i10, i11 => if y12 = true then (impl_Plan_held.l0 ys13 (i10 + 1) (w64 (i11 + 1))) else (impl_Plan_held.l0 ys13 (i10 + 1) i11)
def impl_Plan_held.f (a0_0 : Int) (l0_1 : List SStep) (l0_2 : List Int) (l1 : List Bool) (a2 : Int) : Option Int := (impl_Plan_needed.f a0_0 l0_1 l0_2 l1).bind fun l2 => (gt l2 (w64 (a0_0 + a2))).bind fun y7 => (st l2 (w64 (a0_0 + a2)) true).bind fun l8 => (impl_Plan_held.l0 l8 0 0).bind fun i11 => some i11
set_option maxHeartbeats 600000 in
set_option maxRecDepth 100000 in
theorem impl_Plan_held.calls {w0 ws : World} {P0 : Nat → Prop} (g0 : Nat) (a0_0 : Int) (A0_1 : Option Addr) (c0_1 : Nat) (n0_1 : Nat) (l0_1 : List SStep) (A0_2 : Option Addr) (c0_2 : Nat) (n0_2 : Nat) (l0_2 : List Int) (A1 : Option Addr) (c1 : Nat) (n1 : Nat) (l1 : List Bool) (a2 : Int) (Z : Below w0.heap.size w0 ws) (hF : Fr w0 ws P0 [] ws) (R0_1 : Stable ws P0 (fun w => Kd.C kStep w A0_1 n0_1 l0_1)) (hc0_1 : n0_1 ≤ c0_1) (R0_2 : Stable ws P0 (fun w => Kd.C (Kd.int .i64) w A0_2 n0_2 l0_2)) (hc0_2 : n0_2 ≤ c0_2) (B0 : Stable ws P0 (fun w => w.heap[g0]? = some (.cells #[.int .i64 a0_0, .slice A0_1 n0_1 c0_1, .slice A0_2 n0_2 c0_2] 27 (0, 0)))) (R1 : Stable ws P0 (fun w => Kd.C Kd.bool w A1 n1 l1)) (hc1 : n1 ≤ c1) (r_1 : Int) (h : impl_Plan_held.f a0_0 l0_1 l0_2 l1 a2 = some r_1) :
  Calls Try.prog 141 #[.pointer (some ⟨g0, 0, none⟩), .slice A1 n1 c1, .int .i64 a2] ws (Post1 w0 ws P0 (fun (_ : Unit) => .int .i64 r_1) (fun (_ : Unit) => [])) := by
 unfold impl_Plan_held.f at h
 obtain rfl := (R0_1 ws (KeptB.refl _ _)).1
 obtain rfl := (R0_2 ws (KeptB.refl _ _)).1
 obtain rfl := (R1 ws (KeptB.refl _ _)).1
 refine enter Try.func141 rfl Try.ntmps141 rfl hF ?_
 refine c_seq ?_
 refine za0 ?_
 refine o_q rfl rfl (q_asg rfl) ?_
 refine o_end ?_
 refine za1 ?_
 refine c_seq ?_
 refine za0 ?_
 refine o_q rfl rfl (za2 rfl) ?_
 refine o_q rfl rfl (za2 rfl) ?_
 refine za7 h (fun l2 hx1 h => ?_) rfl
 refine o_e rfl (zab 0 Z Try.func68 N68 rfl rfl rfl (fun w P1 hF hB hS hT => impl_Plan_needed.calls g0 a0_0 A0_1 c0_1 l0_1.length l0_1 A0_2 c0_2 l0_2.length l0_2 A1 c1 l1.length l1 hB hF (hS _ R0_1) hc0_1 (hS _ R0_2) hc0_2 (hS _ B0) (hS _ R1) hc1 _ hx1)) (cur2 (fun A3 c4 => ?_))
 refine o_q rfl rfl (q_asg rfl) ?_
 refine o_q rfl rfl (q_asg rfl) ?_
 refine o_end ?_
 refine za1 ?_
 refine c_seq ?_
 refine za0 ?_
 refine o_q rfl rfl (za2 rfl) ?_
 refine o_q rfl rfl (za2 rfl) ?_
 refine o_q rfl rfl (q_nil rfl) ?_
 refine o_q rfl rfl (q_f F27_0 rfl) ?_
 refine o_q rfl rfl (q_ldb Y3 rfl (fun w h => B0.now Z h) rfl) ?_
 refine o_q rfl rfl (za2 rfl) ?_
 refine o_q rfl rfl (zb8 rfl rfl) ?_
 refine zaz (p := Sh A3 l2.length l2.length) (fun w h => f_sh (dk := Kd.bool) h (fun w h => h.zaw (i := 0) rfl)) (fun hq5 => ?_)
 refine za7 h (fun y7 hg6 h => ?_) rfl
 refine o_q rfl rfl (q_ix Try.underlying78 Z4 rfl rfl hq5 hg6) ?_
 refine za7 h (fun l8 hs9 h => ?_) rfl
 refine o_e rfl (e_set (i := 0) rfl rfl rfl Z4 hs9) (fun _ => ?_)
 refine o_end ?_
 refine za1 ?_
 refine c_seq ?_
 refine c_seq ?_
 refine za0 ?_
 refine o_q rfl rfl (za2 rfl) ?_
 refine o_q rfl rfl (q_len Try.underlying78 rfl) ?_
 refine o_q rfl rfl (za2 rfl) ?_
 refine o_end ?_
 refine za1 ?_
 refine zaj ?_
 refine za7 h (fun o19 hl18 hR17 => ?_) rfl
 clear h
 refine zba (p := l2.length ≤ 9223372036854775807) (fun w h => (h.zaw (i := 0) rfl).2.1) (fun hm16 => ?_)
 refine zba (p := l2.length = l8.length) (fun w h => (h.row_C (i := 0) rfl).2.1) (fun hn20 => ?_)
 refine zax (σ := (List Bool) × Int × Int) (fun k14 ((ys13, i10, i11) : (List Bool) × Int × Int) => Rg l8 i10 ys13 ∧ ys13.length = k14 ∧ impl_Plan_held.l0 ys13 i10 i11 = some o19) [8, 10, 24, 25, 26, 27, 28, 29, 30, 31] (fun ((ys13, i10, i11) : (List Bool) × Int × Int) => [(8, .int .i64 i11), (24, .int .i64 i10)]) (fun ((ys13, i10, i11) : (List Bool) × Int × Int) => [row Kd.bool 4 (.slice A3 l2.length c4) l8]) l8.length (l8, 0, 0) ⟨Rg.start _, rfl, hl18⟩ ⟨rfl, rfl, trivial⟩ (fun w h => h) ?_
 refine fun k14 => cur3 (listC (fun i10 i11 U21 hJ_ => ?_) (fun y12 ys13 i10 i11 U21 hJ_ => ?_))
 ·skip
  clear hl18
  have hr15 := hJ_.1; have hk22 := hJ_.2.1; have h := hJ_.2.2; clear hJ_
  replace h : impl_Plan_held.l0 [] i10 i11 = some o19 := h
  rw [impl_Plan_held.l0] at h
  refine c_seq ?_
  refine za0 ?_
  refine o_q rfl rfl (q_lss rfl rfl) ?_
  refine o_end ?_
  refine za1 ?_
  refine c_seq ?_
  refine zb3 (congrArg Value.bool (hr15.gen hn20)) ?_
  refine zb4 ?_
  refine za8 ?_
  refine za8 ?_
  have e_ := Option.some.inj h; replace h := hR17; rw [← e_] at h; clear e_
  refine x_hit ?_
  refine za1 ?_
  refine c_seq ?_
  refine za0 ?_
  refine o_q rfl rfl (za2 rfl) ?_
  refine o_q rfl rfl (q_asg rfl) ?_
  refine o_end ?_
  refine za1 ?_
  refine c_ret ?_
  have e0_ := Option.some.inj h; clear h
  subst e0_
  exact x_r1 () Try.results141 (zai rfl) rfl (fun w h => za6 [] (by decide) rfl w h)
 ·skip
  clear hl18
  have hr15 := hJ_.1; have hk22 := hJ_.2.1; have h := hJ_.2.2; clear hJ_
  replace h : impl_Plan_held.l0 (y12 :: ys13) i10 i11 = some o19 := h
  rw [impl_Plan_held.l0] at h
  refine c_seq ?_
  refine za0 ?_
  refine o_q rfl rfl (q_lss rfl rfl) ?_
  refine o_end ?_
  refine za1 ?_
  refine c_seq ?_
  refine zb1 (congrArg Value.bool (hr15.ltn hn20)) ?_
  refine zao ?_
  refine za1 ?_
  refine c_seq ?_
  refine zaj ?_
  refine c_seq ?_
  refine za0 ?_
  refine zaz (p := Sh A3 l2.length l8.length) (fun w h => f_sh (dk := Kd.bool) h (fun w h => h.zaw (i := 0) rfl)) (fun hq23 => ?_)
  refine o_q rfl rfl (q_ix Try.underlying78 Z4 rfl rfl hq23 hr15.get) ?_
  refine o_q rfl rfl (q_lde (off := 0) Y4 rfl rfl (fun w h => h.zaw (i := 0) rfl) hr15.get (fun _ _ h => h) rfl) ?_
  refine o_q rfl rfl (q_asg rfl) ?_
  refine o_end ?_
  refine za1 ?_
  refine c_seq ?_
  refine za0 ?_
  refine o_q rfl rfl (za2 rfl) ?_
  refine o_end ?_
  refine za1 ?_
  refine zau _ rfl (fun hb24 => ?_) (fun hb24 => ?_)
  ·skip
   replace h := bb_t hb24 h
   refine za0 ?_
   refine o_q rfl rfl (za2 rfl) ?_
   refine o_q rfl rfl (zb8 rfl rfl) ?_
   refine o_q rfl rfl (q_asg rfl) ?_
   refine o_end ?_
   refine zal ?_
   refine za1 ?_
   refine za0 ?_
   refine o_q rfl rfl (q_up rfl rfl (hr15.up (hn20 ▸ hm16))) ?_
   refine o_q rfl rfl (za2 rfl) ?_
   refine o_end ?_
   refine zam ys13.length (ys13, i10 + 1, w64 (i11 + 1)) (by rw [← hk22]; exact Nat.lt_succ_self _) ⟨hr15.step, rfl, h⟩ ⟨rfl, rfl, trivial⟩ (fun w h => za6 [0] (by decide) rfl w h) ?_
   repeat (first | exact zac _ _ | refine zaf rfl ?_ | refine zad rfl ?_ | refine zah rfl ?_)
  ·skip
   replace h := bb_f hb24 h
   refine zao ?_
   refine zal ?_
   refine za1 ?_
   refine za0 ?_
   refine o_q rfl rfl (q_up rfl rfl (hr15.up (hn20 ▸ hm16))) ?_
   refine o_q rfl rfl (za2 rfl) ?_
   refine o_end ?_
   refine zam ys13.length (ys13, i10 + 1, i11) (by rw [← hk22]; exact Nat.lt_succ_self _) ⟨hr15.step, rfl, h⟩ ⟨rfl, rfl, trivial⟩ (fun w h => za6 [0] (by decide) rfl w h) ?_
   repeat (first | exact zac _ _ | refine zaf rfl ?_ | refine zad rfl ?_ | refine zah rfl ?_)

/-! ### (*loop.example/g01098/impl.Plan).pressure: function 81 -/
def impl_Plan_pressure.l0 (a0_0 : Int) (l0_1 : List SStep) (l0_2 : List Int) : (List Int) → (List Bool) → Int → Int → Option ((List Bool) × Int)
 | [], l7, i8, i9 => some (l7, i9)
 | y10 :: ys11, l7, i8, i9 => (gt l7 y10).bind fun y23 => (st l7 y10 true).bind fun l24 => (impl_Plan_held.f a0_0 l0_1 l0_2 l24 y10).bind fun i27 => impl_Plan_pressure.l0 a0_0 l0_1 l0_2 ys11 l24 (i8 + 1) (mx i9 i27)
def impl_Plan_pressure.f (a0_0 : Int) (l0_1 : List SStep) (l0_2 : List Int) (l1 : List Int) : Option Int := (mk0 (l0_1.length : Int) false).bind fun l2 => (impl_Plan_pressure.l0 a0_0 l0_1 l0_2 l1 l2 0 a0_0).bind fun (l7, i9) => some i9
set_option maxHeartbeats 600000 in
set_option maxRecDepth 100000 in
theorem impl_Plan_pressure.calls {w0 ws : World} {P0 : Nat → Prop} (g0 : Nat) (a0_0 : Int) (A0_1 : Option Addr) (c0_1 : Nat) (n0_1 : Nat) (l0_1 : List SStep) (A0_2 : Option Addr) (c0_2 : Nat) (n0_2 : Nat) (l0_2 : List Int) (A1 : Option Addr) (c1 : Nat) (n1 : Nat) (l1 : List Int) (Z : Below w0.heap.size w0 ws) (hF : Fr w0 ws P0 [] ws) (R0_1 : Stable ws P0 (fun w => Kd.C kStep w A0_1 n0_1 l0_1)) (hc0_1 : n0_1 ≤ c0_1) (R0_2 : Stable ws P0 (fun w => Kd.C (Kd.int .i64) w A0_2 n0_2 l0_2)) (hc0_2 : n0_2 ≤ c0_2) (B0 : Stable ws P0 (fun w => w.heap[g0]? = some (.cells #[.int .i64 a0_0, .slice A0_1 n0_1 c0_1, .slice A0_2 n0_2 c0_2] 27 (0, 0)))) (R1 : Stable ws P0 (fun w => Kd.C (Kd.int .i64) w A1 n1 l1)) (hc1 : n1 ≤ c1) (r_1 : Int) (h : impl_Plan_pressure.f a0_0 l0_1 l0_2 l1 = some r_1) :
  Calls Try.prog 81 #[.pointer (some ⟨g0, 0, none⟩), .slice A1 n1 c1] ws (Post1 w0 ws P0 (fun (_ : Unit) => .int .i64 r_1) (fun (_ : Unit) => [])) := by
 unfold impl_Plan_pressure.f at h
 obtain rfl := (R0_1 ws (KeptB.refl _ _)).1
 obtain rfl := (R0_2 ws (KeptB.refl _ _)).1
 obtain rfl := (R1 ws (KeptB.refl _ _)).1
 refine enter Try.func81 rfl Try.ntmps81 rfl hF ?_
 refine c_seq ?_
 refine za0 ?_
 refine o_q rfl rfl (q_asg rfl) ?_
 refine o_end ?_
 refine za1 ?_
 refine c_seq ?_
 refine a_start (ds := []) MO rfl ?_
 refine za9 0 rfl rfl rfl (by kernel_rfl) (fun _ _ _ h => h) (za2 rfl) ?_
 refine za9 1 rfl rfl rfl (by kernel_rfl) (fun _ _ _ h => h) (q_nil rfl) ?_
 refine za9 2 rfl rfl rfl (by kernel_rfl) (fun _ _ _ h => h) (q_f F27_0 rfl) ?_
 refine zb0 3 rfl rfl rfl (by kernel_rfl) (fun _ _ _ h => h) (fun w h => h) (q_ldb Y3 rfl (fun w h => B0.now Z h) rfl) ?_
 refine za9 4 rfl rfl rfl (by kernel_rfl) (fun _ _ _ h => h) (za2 rfl) ?_
 refine za9 5 rfl rfl rfl (by kernel_rfl) (fun _ _ _ h => h) (q_nil rfl) ?_
 refine za9 6 rfl rfl rfl (by kernel_rfl) (fun _ _ _ h => h) (q_f F27_1 rfl) ?_
 refine zb0 7 rfl rfl rfl (by kernel_rfl) (fun _ _ _ h => h) (fun w h => h) (q_ldb Y24 rfl (fun w h => B0.now Z h) rfl) ?_
 refine za9 8 rfl rfl rfl (by kernel_rfl) (fun _ _ _ h => h) (q_len Try.underlying24 rfl) ?_
 refine za9 10 rfl rfl rfl (by kernel_rfl) (fun _ _ _ h => h) (q_asg rfl) ?_
 refine za7 h (fun l2 hm3 h => ?_) rfl
 refine a_one 9 rfl rfl (by kernel_rfl) rfl (e_make Kd.bool false Try.underlying78 I4 rfl (by decide) (by decide) (fun _ _ => rfl) rfl rfl hm3) (fun s w h => za5 [] (by decide) w h rfl) (cur2 (fun A4 c5 => ?_))
 refine za9 11 rfl rfl rfl (by kernel_rfl) (fun _ _ _ h => h) (q_asg rfl) ?_
 refine zav (by kernel_rfl) ?_
 refine za1 ?_
 refine c_seq ?_
 refine c_seq ?_
 refine za0 ?_
 refine o_q rfl rfl (za2 rfl) ?_
 refine o_q rfl rfl (q_len Try.underlying25 rfl) ?_
 refine o_q rfl rfl (za2 rfl) ?_
 refine o_end ?_
 refine za1 ?_
 refine zaj ?_
 refine za7 h (fun o17 hl16 hR15 => ?_) rfl
 clear h
 refine zba (p := l1.length ≤ 9223372036854775807) (fun w h => (R1.now Z h).2.1) (fun hm14 => ?_)
 refine zax (σ := (List Int) × (List Bool) × Int × Int) (fun k12 ((ys11, l7, i8, i9) : (List Int) × (List Bool) × Int × Int) => Rg l1 i8 ys11 ∧ ys11.length = k12 ∧ impl_Plan_pressure.l0 a0_0 l0_1 l0_2 ys11 l7 i8 i9 = some o17) [5, 8, 21, 22, 23, 24, 25, 26, 27, 28, 29, 30, 31, 32, 33, 34] (fun ((ys11, l7, i8, i9) : (List Int) × (List Bool) × Int × Int) => [(5, .int .i64 i9), (21, .int .i64 i8)]) (fun ((ys11, l7, i8, i9) : (List Int) × (List Bool) × Int × Int) => [row Kd.bool 4 (.slice A4 l2.length c5) l7]) l1.length (l1, l2, 0, a0_0) ⟨Rg.start _, rfl, hl16⟩ ⟨rfl, rfl, trivial⟩ (fun w h => h) ?_
 refine fun k12 => cur4 (listC (fun l7 i8 i9 U18 hJ_ => ?_) (fun y10 ys11 l7 i8 i9 U18 hJ_ => ?_))
 ·skip
  clear hl16
  have hr13 := hJ_.1; have hk19 := hJ_.2.1; have h := hJ_.2.2; clear hJ_
  replace h : impl_Plan_pressure.l0 a0_0 l0_1 l0_2 [] l7 i8 i9 = some o17 := h
  rw [impl_Plan_pressure.l0] at h
  refine c_seq ?_
  refine za0 ?_
  refine o_q rfl rfl (q_lss rfl rfl) ?_
  refine o_end ?_
  refine za1 ?_
  refine c_seq ?_
  refine zb3 (congrArg Value.bool hr13.ge) ?_
  refine zb4 ?_
  refine za8 ?_
  refine za8 ?_
  have e_ := Option.some.inj h; replace h := hR15; rw [← e_] at h; clear e_
  refine x_hit ?_
  refine za1 ?_
  refine c_seq ?_
  refine za0 ?_
  refine o_q rfl rfl (za2 rfl) ?_
  refine o_q rfl rfl (q_asg rfl) ?_
  refine o_end ?_
  refine za1 ?_
  refine c_ret ?_
  have e0_ := Option.some.inj h; clear h
  subst e0_
  exact x_r1 () Try.results81 (zai rfl) rfl (fun w h => za6 [] (by decide) rfl w h)
 ·skip
  clear hl16
  have hr13 := hJ_.1; have hk19 := hJ_.2.1; have h := hJ_.2.2; clear hJ_
  replace h : impl_Plan_pressure.l0 a0_0 l0_1 l0_2 (y10 :: ys11) l7 i8 i9 = some o17 := h
  rw [impl_Plan_pressure.l0] at h
  refine c_seq ?_
  refine za0 ?_
  refine o_q rfl rfl (q_lss rfl rfl) ?_
  refine o_end ?_
  refine za1 ?_
  refine c_seq ?_
  refine zb1 (congrArg Value.bool hr13.lt) ?_
  refine zao ?_
  refine za1 ?_
  refine c_seq ?_
  refine zaj ?_
  refine c_seq ?_
  refine za0 ?_
  refine zaz (p := Sh A1 l1.length l1.length) (fun w h => f_sh (dk := (Kd.int .i64)) h (fun w h => R1.now Z h)) (fun hq20 => ?_)
  refine o_q rfl rfl (q_ix Try.underlying25 Z3 rfl rfl hq20 hr13.get) ?_
  refine o_q rfl rfl (q_lde (off := 0) Y3 rfl rfl (fun w h => R1.now Z h) hr13.get (fun _ _ h => h) rfl) ?_
  refine o_q rfl rfl (q_asg rfl) ?_
  refine o_end ?_
  refine za1 ?_
  refine c_seq ?_
  refine za0 ?_
  refine o_q rfl rfl (za2 rfl) ?_
  refine o_q rfl rfl (za2 rfl) ?_
  refine zaz (p := Sh A4 l2.length l7.length) (fun w h => f_sh (dk := Kd.bool) h (fun w h => h.zaw (i := 0) rfl)) (fun hq21 => ?_)
  refine za7 h (fun y23 hg22 h => ?_) rfl
  refine o_q rfl rfl (q_ix Try.underlying78 Z4 rfl rfl hq21 hg22) ?_
  refine za7 h (fun l24 hs25 h => ?_) rfl
  refine o_e rfl (e_set (i := 0) rfl rfl rfl Z4 hs25) (fun _ => ?_)
  refine o_end ?_
  refine za1 ?_
  refine za0 ?_
  refine o_q rfl rfl (za2 rfl) ?_
  refine o_q rfl rfl (za2 rfl) ?_
  refine o_q rfl rfl (za2 rfl) ?_
  refine o_q rfl rfl (za2 rfl) ?_
  refine za7 h (fun i27 hx26 h => ?_) rfl
  refine o_e rfl (zab 0 Z Try.func141 N141 rfl rfl rfl (fun w P1 hF hB hS hT => impl_Plan_held.calls g0 a0_0 A0_1 c0_1 l0_1.length l0_1 A0_2 c0_2 l0_2.length l0_2 A4 c5 l2.length l24 y10 hB hF (hS _ R0_1) hc0_1 (hS _ R0_2) hc0_2 (hS _ B0) (hT 0 _ rfl).row (hT 0 _ rfl).cap _ hx26)) (fun _ => ?_)
  refine o_q rfl rfl (q_max rfl rfl) ?_
  refine o_q rfl rfl (q_asg rfl) ?_
  refine o_end ?_
  refine zal ?_
  refine za1 ?_
  refine za0 ?_
  refine o_q rfl rfl (q_up rfl rfl (hr13.up hm14)) ?_
  refine o_q rfl rfl (za2 rfl) ?_
  refine o_end ?_
  refine zam ys11.length (ys11, l24, i8 + 1, mx i9 i27) (by rw [← hk19]; exact Nat.lt_succ_self _) ⟨hr13.step, rfl, h⟩ ⟨rfl, rfl, trivial⟩ (fun w h => za6 [0] (by decide) rfl w h) ?_
  repeat (first | exact zac _ _ | refine zaf rfl ?_ | refine zad rfl ?_ | refine zah rfl ?_)

/-! ### (*loop.example/g01098/impl.Plan).doneFirst: function 69 -/
def impl_Plan_doneFirst.l0 : Nat → (List Bool) → Int → Option (List Bool)
 | 0, l6, i7 => some l6
 | k10 + 1, l6, i7 => (gt l6 i7).bind fun y22 => (st l6 i7 true).bind fun l23 => impl_Plan_doneFirst.l0 k10 l23 (i7 + 1)
def impl_Plan_doneFirst.f (a0_0 : Int) (l0_1 : List SStep) (l0_2 : List Int) (a1 : Int) : Option (List Bool) := (mk0 (l0_1.length : Int) false).bind fun l1 => (bd a1).bind fun _ => (impl_Plan_doneFirst.l0 ((a1).toNat) l1 0).bind fun l6 => some l6
set_option maxHeartbeats 600000 in
set_option maxRecDepth 100000 in
theorem impl_Plan_doneFirst.calls {w0 ws : World} {P0 : Nat → Prop} (g0 : Nat) (a0_0 : Int) (A0_1 : Option Addr) (c0_1 : Nat) (n0_1 : Nat) (l0_1 : List SStep) (A0_2 : Option Addr) (c0_2 : Nat) (n0_2 : Nat) (l0_2 : List Int) (a1 : Int) (Z : Below w0.heap.size w0 ws) (hF : Fr w0 ws P0 [] ws) (R0_1 : Stable ws P0 (fun w => Kd.C kStep w A0_1 n0_1 l0_1)) (hc0_1 : n0_1 ≤ c0_1) (R0_2 : Stable ws P0 (fun w => Kd.C (Kd.int .i64) w A0_2 n0_2 l0_2)) (hc0_2 : n0_2 ≤ c0_2) (B0 : Stable ws P0 (fun w => w.heap[g0]? = some (.cells #[.int .i64 a0_0, .slice A0_1 n0_1 c0_1, .slice A0_2 n0_2 c0_2] 27 (0, 0)))) (r_1 : List Bool) (h : impl_Plan_doneFirst.f a0_0 l0_1 l0_2 a1 = some r_1) :
  Calls Try.prog 69 #[.pointer (some ⟨g0, 0, none⟩), .int .i64 a1] ws (Post1 w0 ws P0 (fun ((q_2, q_3) : (Option Addr) × Nat) => .slice q_2 r_1.length q_3) (fun ((q_2, q_3) : (Option Addr) × Nat) => [row Kd.bool 4 (.slice q_2 r_1.length q_3) r_1])) := by
 unfold impl_Plan_doneFirst.f at h
 obtain rfl := (R0_1 ws (KeptB.refl _ _)).1
 obtain rfl := (R0_2 ws (KeptB.refl _ _)).1
 refine enter Try.func69 rfl Try.ntmps69 rfl hF ?_
 refine c_seq ?_
 refine za0 ?_
 refine o_q rfl rfl (q_asg rfl) ?_
 refine o_end ?_
 refine za1 ?_
 refine c_seq ?_
 refine za0 ?_
 refine o_q rfl rfl (za2 rfl) ?_
 refine o_q rfl rfl (q_nil rfl) ?_
 refine o_q rfl rfl (q_f F27_1 rfl) ?_
 refine o_q rfl rfl (q_ldb Y24 rfl (fun w h => B0.now Z h) rfl) ?_
 refine o_q rfl rfl (q_len Try.underlying24 rfl) ?_
 refine za7 h (fun l1 hm2 h => ?_) rfl
 refine o_e rfl (e_make Kd.bool false Try.underlying78 I4 rfl (by decide) (by decide) (fun _ _ => rfl) rfl rfl hm2) (cur2 (fun A3 c4 => ?_))
 refine o_q rfl rfl (q_asg rfl) ?_
 refine o_end ?_
 refine za1 ?_
 refine c_seq ?_
 refine c_seq ?_
 refine za0 ?_
 refine o_q rfl rfl (za2 rfl) ?_
 refine o_q rfl rfl (za2 rfl) ?_
 refine o_end ?_
 refine za1 ?_
 refine zaj ?_
 refine za7 h (fun _ hbd16 h => ?_) rfl
 refine za7 h (fun o15 hl14 hR13 => ?_) rfl
 clear h
 have hm12 : a1 ≤ 9223372036854775807 := bd_le hbd16
 refine zax (σ := (List Bool) × Int) (fun k10 ((l6, i7) : (List Bool) × Int) => Cn a1 i7 k10 ∧ impl_Plan_doneFirst.l0 k10 l6 i7 = some o15) [6, 14, 15, 16, 17, 18, 19, 20] (fun ((l6, i7) : (List Bool) × Int) => [(14, .int .i64 i7)]) (fun ((l6, i7) : (List Bool) × Int) => [row Kd.bool 4 (.slice A3 l1.length c4) l6]) (a1).toNat (l1, 0) ⟨Cn.start hm12, hl14⟩ ⟨rfl, trivial⟩ (fun w h => h) ?_
 refine natC (cur2 (fun l6 i7 => fun U17 hJ_ => ?_)) (fun k10 => (cur2 (fun l6 i7 => fun U17 hJ_ => ?_)))
 ·skip
  clear hl14
  have hr11 := hJ_.1; have h := hJ_.2; clear hJ_
  replace h : impl_Plan_doneFirst.l0 0 l6 i7 = some o15 := h
  rw [impl_Plan_doneFirst.l0] at h
  refine c_seq ?_
  refine za0 ?_
  refine o_q rfl rfl (q_lss rfl rfl) ?_
  refine o_end ?_
  refine za1 ?_
  refine c_seq ?_
  refine zb3 (congrArg Value.bool hr11.ge) ?_
  refine zb4 ?_
  refine za8 ?_
  refine za8 ?_
  have e_ := Option.some.inj h; replace h := hR13; rw [← e_] at h; clear e_
  refine x_hit ?_
  refine za1 ?_
  refine c_seq ?_
  refine za0 ?_
  refine o_q rfl rfl (za2 rfl) ?_
  refine o_q rfl rfl (q_asg rfl) ?_
  refine o_end ?_
  refine za1 ?_
  refine c_ret ?_
  refine x_fact (p := l1.length = l6.length) (fun w h => (h.row_C (i := 0) rfl).2.1) (fun hn19 => ?_)
  have e0_ := Option.some.inj h; clear h
  subst e0_
  exact x_r1 (A3, c4) Try.results69 (zai (v := .slice A3 l1.length c4) rfl) (by (try rw [hn19]); first | done | rfl) (f_pickE (L1 := [row Kd.bool 4 (.slice A3 l1.length c4) l6]) rfl [0] (by decide) rfl (by (try rw [hn19]); first | done | rfl))
 ·skip
  clear hl14
  have hr11 := hJ_.1; have h := hJ_.2; clear hJ_
  replace h : impl_Plan_doneFirst.l0 (k10 + 1) l6 i7 = some o15 := h
  rw [impl_Plan_doneFirst.l0] at h
  refine c_seq ?_
  refine za0 ?_
  refine o_q rfl rfl (q_lss rfl rfl) ?_
  refine o_end ?_
  refine za1 ?_
  refine c_seq ?_
  refine zb1 (congrArg Value.bool hr11.lt) ?_
  refine zao ?_
  refine za1 ?_
  refine c_seq ?_
  refine zaj ?_
  refine c_seq ?_
  refine za0 ?_
  refine o_q rfl rfl (za2 rfl) ?_
  refine o_q rfl rfl (q_asg rfl) ?_
  refine o_end ?_
  refine za1 ?_
  refine za0 ?_
  refine o_q rfl rfl (za2 rfl) ?_
  refine o_q rfl rfl (za2 rfl) ?_
  refine zaz (p := Sh A3 l1.length l6.length) (fun w h => f_sh (dk := Kd.bool) h (fun w h => h.zaw (i := 0) rfl)) (fun hq20 => ?_)
  refine za7 h (fun y22 hg21 h => ?_) rfl
  refine o_q rfl rfl (q_ix Try.underlying78 Z4 rfl rfl hq20 hg21) ?_
  refine za7 h (fun l23 hs24 h => ?_) rfl
  refine o_e rfl (e_set (i := 0) rfl rfl rfl Z4 hs24) (fun _ => ?_)
  refine o_end ?_
  refine zal ?_
  refine za1 ?_
  refine za0 ?_
  refine o_q rfl rfl (q_up rfl rfl hr11.up) ?_
  refine o_q rfl rfl (za2 rfl) ?_
  refine o_end ?_
  refine zam k10 (l23, i7 + 1) (Nat.lt_succ_self _) ⟨hr11.step, h⟩ ⟨rfl, trivial⟩ (fun w h => za6 [0] (by decide) rfl w h) ?_
  repeat (first | exact zac _ _ | refine zaf rfl ?_ | refine zad rfl ?_ | refine zah rfl ?_)

/-! ### slices.Index[[]int,int]: function 85 -/
def slices_Index_int_int.l0 (a1 : Int) : (List Int) → Int → Option ((Int) ⊕ (Unit))
 | [], i1 => some (.inr ())
 | y2 :: ys3, i1 => if a1 = y2 then (some (.inl i1)) else (slices_Index_int_int.l0 a1 ys3 (i1 + 1))
def slices_Index_int_int.f (l0 : List Int) (a1 : Int) : Option Int := (slices_Index_int_int.l0 a1 l0 0).bind fun o_ => match o_ with | .inl r_ => some r_ | .inr _ => some (-1)
set_option maxHeartbeats 600000 in
set_option maxRecDepth 100000 in
theorem slices_Index_int_int.calls {w0 ws : World} {P0 : Nat → Prop} (A0 : Option Addr) (c0 : Nat) (n0 : Nat) (l0 : List Int) (a1 : Int) (Z : Below w0.heap.size w0 ws) (hF : Fr w0 ws P0 [] ws) (R0 : Stable ws P0 (fun w => Kd.C (Kd.int .i64) w A0 n0 l0)) (hc0 : n0 ≤ c0) (r_1 : Int) (h : slices_Index_int_int.f l0 a1 = some r_1) :
  Calls Try.prog 85 #[.slice A0 n0 c0, .int .i64 a1] ws (Post1 w0 ws P0 (fun (_ : Unit) => .int .i64 r_1) (fun (_ : Unit) => [])) := by
 unfold slices_Index_int_int.f at h
 obtain rfl := (R0 ws (KeptB.refl _ _)).1
 refine enter Try.func85 rfl Try.ntmps85 rfl hF ?_
 refine c_seq ?_
 refine za0 ?_
 refine o_q rfl rfl (q_asg rfl) ?_
 refine o_end ?_
 refine za1 ?_
 refine c_seq ?_
 refine c_seq ?_
 refine za0 ?_
 refine o_q rfl rfl (za2 rfl) ?_
 refine o_q rfl rfl (q_len Try.underlying25 rfl) ?_
 refine o_q rfl rfl (za2 rfl) ?_
 refine o_end ?_
 refine za1 ?_
 refine zaj ?_
 refine za7 h (fun o9 hl8 hR7 => ?_) rfl
 clear h
 refine zba (p := l0.length ≤ 9223372036854775807) (fun w h => (R0.now Z h).2.1) (fun hm6 => ?_)
 refine zax (σ := (List Int) × Int) (fun k4 ((ys3, i1) : (List Int) × Int) => Rg l0 i1 ys3 ∧ ys3.length = k4 ∧ slices_Index_int_int.l0 a1 ys3 i1 = some o9) [4, 5, 8, 9, 10, 11, 12, 13, 14, 15, 16, 17, 18] (fun ((ys3, i1) : (List Int) × Int) => [(8, .int .i64 i1)]) (fun ((ys3, i1) : (List Int) × Int) => []) l0.length (l0, 0) ⟨Rg.start _, rfl, hl8⟩ ⟨rfl, trivial⟩ (fun w h => h) ?_
 refine fun k4 => cur2 (listC (fun i1 U10 hJ_ => ?_) (fun y2 ys3 i1 U10 hJ_ => ?_))
 ·skip
  clear hl8
  have hr5 := hJ_.1; have hk11 := hJ_.2.1; have h := hJ_.2.2; clear hJ_
  replace h : slices_Index_int_int.l0 a1 [] i1 = some o9 := h
  rw [slices_Index_int_int.l0] at h
  refine c_seq ?_
  refine za0 ?_
  refine o_q rfl rfl (q_lss rfl rfl) ?_
  refine o_end ?_
  refine za1 ?_
  refine c_seq ?_
  refine zb3 (congrArg Value.bool hr5.ge) ?_
  refine zb4 ?_
  refine za8 ?_
  refine za8 ?_
  have e_ := Option.some.inj h; replace h := hR7; rw [← e_] at h; clear e_
  refine x_hit ?_
  refine za1 ?_
  refine c_seq ?_
  refine za0 ?_
  refine o_q rfl rfl (q_asg rfl) ?_
  refine o_end ?_
  refine za1 ?_
  refine c_ret ?_
  have e0_ := Option.some.inj h; clear h
  subst e0_
  exact x_r1 () Try.results85 (zai rfl) rfl (fun w h => za6 [] (by decide) rfl w h)
 ·skip
  clear hl8
  have hr5 := hJ_.1; have hk11 := hJ_.2.1; have h := hJ_.2.2; clear hJ_
  replace h : slices_Index_int_int.l0 a1 (y2 :: ys3) i1 = some o9 := h
  rw [slices_Index_int_int.l0] at h
  refine c_seq ?_
  refine za0 ?_
  refine o_q rfl rfl (q_lss rfl rfl) ?_
  refine o_end ?_
  refine za1 ?_
  refine c_seq ?_
  refine zb1 (congrArg Value.bool hr5.lt) ?_
  refine zao ?_
  refine za1 ?_
  refine c_seq ?_
  refine zaj ?_
  refine c_seq ?_
  refine za0 ?_
  refine o_q rfl rfl (za2 rfl) ?_
  refine o_q rfl rfl (q_asg rfl) ?_
  refine o_end ?_
  refine za1 ?_
  refine c_seq ?_
  refine za0 ?_
  refine o_q rfl rfl (za2 rfl) ?_
  refine o_q rfl rfl (za2 rfl) ?_
  refine o_q rfl rfl (za2 rfl) ?_
  refine zaz (p := Sh A0 l0.length l0.length) (fun w h => f_sh (dk := (Kd.int .i64)) h (fun w h => R0.now Z h)) (fun hq12 => ?_)
  refine o_q rfl rfl (q_ix Try.underlying25 Z3 rfl rfl hq12 hr5.get) ?_
  refine o_q rfl rfl (q_lde (off := 0) Y3 rfl rfl (fun w h => R0.now Z h) hr5.get (fun _ _ h => h) rfl) ?_
  refine o_q rfl rfl (q_eql rfl rfl) ?_
  refine o_end ?_
  refine za1 ?_
  refine zau _ rfl (fun hb13 => ?_) (fun hb13 => ?_)
  ·skip
   replace h := br_t hb13 h
   refine c_seq ?_
   refine za0 ?_
   refine o_q rfl rfl (za2 rfl) ?_
   refine o_q rfl rfl (q_asg rfl) ?_
   refine o_end ?_
   refine za1 ?_
   refine c_ret ?_
   refine zar ?_
   refine zaa ?_
   refine zaa ?_
   have e_ := Option.some.inj h; replace h := hR7; rw [← e_] at h; clear e_
   refine zar ?_
   refine zaa ?_
   have e0_ := Option.some.inj h; clear h
   subst e0_
   exact x_r1 () Try.results85 (zai rfl) rfl (fun w h => za6 [] (by decide) rfl w h)
  ·skip
   replace h := br_f hb13 h
   refine zao ?_
   refine zal ?_
   refine za1 ?_
   refine za0 ?_
   refine o_q rfl rfl (q_up rfl rfl (hr5.up hm6)) ?_
   refine o_q rfl rfl (za2 rfl) ?_
   refine o_end ?_
   refine zam ys3.length (ys3, i1 + 1) (by rw [← hk11]; exact Nat.lt_succ_self _) ⟨hr5.step, rfl, h⟩ ⟨rfl, trivial⟩ (fun w h => za6 [] (by decide) rfl w h) ?_
   repeat (first | exact zac _ _ | refine zaf rfl ?_ | refine zad rfl ?_ | refine zah rfl ?_)

/-! ### loop.example/g01098/impl.renamed: function 78 -/
def impl_renamed.l0 (l1 : List Int) : (List Int) → (List Int) → Int → Option (List Int)
 | [], l5, i8 => some l5
 | y9 :: ys10, l5, i8 => (gt l1 y9).bind fun y22 => (ap l5 ([y22] : List Int)).bind fun l26 => impl_renamed.l0 l1 ys10 l26 (i8 + 1)
def impl_renamed.f (l0 : List Int) (l1 : List Int) : Option (List Int) := (impl_renamed.l0 l1 l0 ([] : List Int) 0).bind fun l5 => some l5
set_option maxHeartbeats 600000 in
set_option maxRecDepth 100000 in
theorem impl_renamed.calls {w0 ws : World} {P0 : Nat → Prop} (A0 : Option Addr) (c0 : Nat) (n0 : Nat) (l0 : List Int) (A1 : Option Addr) (c1 : Nat) (n1 : Nat) (l1 : List Int) (Z : Below w0.heap.size w0 ws) (hF : Fr w0 ws P0 [] ws) (R0 : Stable ws P0 (fun w => Kd.C (Kd.int .i64) w A0 n0 l0)) (hc0 : n0 ≤ c0) (R1 : Stable ws P0 (fun w => Kd.C (Kd.int .i64) w A1 n1 l1)) (hc1 : n1 ≤ c1) (r_1 : List Int) (h : impl_renamed.f l0 l1 = some r_1) :
  Calls Try.prog 78 #[.slice A0 n0 c0, .slice A1 n1 c1] ws (Post1 w0 ws P0 (fun ((q_2, q_3) : (Option Addr) × Nat) => .slice q_2 r_1.length q_3) (fun ((q_2, q_3) : (Option Addr) × Nat) => [row (Kd.int .i64) 3 (.slice q_2 r_1.length q_3) r_1])) := by
 unfold impl_renamed.f at h
 obtain rfl := (R0 ws (KeptB.refl _ _)).1
 obtain rfl := (R1 ws (KeptB.refl _ _)).1
 refine enter Try.func78 rfl Try.ntmps78 rfl hF ?_
 refine c_seq ?_
 refine za0 ?_
 refine o_q rfl rfl (q_asg rfl) ?_
 refine o_end ?_
 refine za1 ?_
 refine c_seq ?_
 refine za0 ?_
 refine o_e rfl (e_lit0 (Kd.int .i64) Try.underlying25 I3) (cur2 (fun A2 c3 => ?_))
 refine o_q rfl rfl (q_asg rfl) ?_
 refine o_end ?_
 refine za1 ?_
 refine c_seq ?_
 refine c_seq ?_
 refine za0 ?_
 refine o_q rfl rfl (za2 rfl) ?_
 refine o_q rfl rfl (q_len Try.underlying25 rfl) ?_
 refine o_q rfl rfl (za2 rfl) ?_
 refine o_end ?_
 refine za1 ?_
 refine zaj ?_
 refine za7 h (fun o16 hl15 hR14 => ?_) rfl
 clear h
 refine zba (p := l0.length ≤ 9223372036854775807) (fun w h => (R0.now Z h).2.1) (fun hm13 => ?_)
 refine zax (σ := (List Int) × (List Int) × Int × (Option Addr) × Nat) (fun k11 ((ys10, l5, i8, A6, c7) : (List Int) × (List Int) × Int × (Option Addr) × Nat) => Rg l0 i8 ys10 ∧ ys10.length = k11 ∧ impl_renamed.l0 l1 ys10 l5 i8 = some o16) [5, 7, 11, 12, 13, 14, 15, 16, 17, 18, 19, 20, 21, 22] (fun ((ys10, l5, i8, A6, c7) : (List Int) × (List Int) × Int × (Option Addr) × Nat) => [(5, .slice A6 l5.length c7), (11, .int .i64 i8)]) (fun ((ys10, l5, i8, A6, c7) : (List Int) × (List Int) × Int × (Option Addr) × Nat) => [row (Kd.int .i64) 3 (.slice A6 l5.length c7) l5]) l0.length (l0, ([] : List Int), 0, A2, c3) ⟨Rg.start _, rfl, hl15⟩ ⟨rfl, rfl, trivial⟩ (fun w h => h) ?_
 refine fun k11 => cur5 (listC (fun l5 i8 A6 c7 U17 hJ_ => ?_) (fun y9 ys10 l5 i8 A6 c7 U17 hJ_ => ?_))
 ·skip
  clear hl15
  have hr12 := hJ_.1; have hk18 := hJ_.2.1; have h := hJ_.2.2; clear hJ_
  replace h : impl_renamed.l0 l1 [] l5 i8 = some o16 := h
  rw [impl_renamed.l0] at h
  refine c_seq ?_
  refine za0 ?_
  refine o_q rfl rfl (q_lss rfl rfl) ?_
  refine o_end ?_
  refine za1 ?_
  refine c_seq ?_
  refine zb3 (congrArg Value.bool hr12.ge) ?_
  refine zb4 ?_
  refine za8 ?_
  refine za8 ?_
  have e_ := Option.some.inj h; replace h := hR14; rw [← e_] at h; clear e_
  refine x_hit ?_
  refine za1 ?_
  refine c_seq ?_
  refine za0 ?_
  refine o_q rfl rfl (za2 rfl) ?_
  refine o_q rfl rfl (q_asg rfl) ?_
  refine o_end ?_
  refine za1 ?_
  refine c_ret ?_
  have e0_ := Option.some.inj h; clear h
  subst e0_
  exact x_r1 (A6, c7) Try.results78 (zai rfl) rfl (fun w h => za6 [0] (by decide) rfl w h)
 ·skip
  clear hl15
  have hr12 := hJ_.1; have hk18 := hJ_.2.1; have h := hJ_.2.2; clear hJ_
  replace h : impl_renamed.l0 l1 (y9 :: ys10) l5 i8 = some o16 := h
  rw [impl_renamed.l0] at h
  refine c_seq ?_
  refine za0 ?_
  refine o_q rfl rfl (q_lss rfl rfl) ?_
  refine o_end ?_
  refine za1 ?_
  refine c_seq ?_
  refine zb1 (congrArg Value.bool hr12.lt) ?_
  refine zao ?_
  refine za1 ?_
  refine c_seq ?_
  refine zaj ?_
  refine c_seq ?_
  refine za0 ?_
  refine zaz (p := Sh A0 l0.length l0.length) (fun w h => f_sh (dk := (Kd.int .i64)) h (fun w h => R0.now Z h)) (fun hq19 => ?_)
  refine o_q rfl rfl (q_ix Try.underlying25 Z3 rfl rfl hq19 hr12.get) ?_
  refine o_q rfl rfl (q_lde (off := 0) Y3 rfl rfl (fun w h => R0.now Z h) hr12.get (fun _ _ h => h) rfl) ?_
  refine o_q rfl rfl (q_asg rfl) ?_
  refine o_end ?_
  refine za1 ?_
  refine za0 ?_
  refine o_q rfl rfl (za2 rfl) ?_
  refine o_q rfl rfl (za2 rfl) ?_
  refine o_q rfl rfl (za2 rfl) ?_
  refine zaz (p := Sh A1 l1.length l1.length) (fun w h => f_sh (dk := (Kd.int .i64)) h (fun w h => R1.now Z h)) (fun hq20 => ?_)
  refine za7 h (fun y22 hg21 h => ?_) rfl
  refine o_q rfl rfl (q_ix Try.underlying25 Z3 rfl rfl hq20 hg21) ?_
  refine o_q rfl rfl (q_lde (off := 0) Y3 rfl rfl (fun w h => R1.now Z h) hg21 (fun _ _ h => h) rfl) ?_
  refine o_e rfl (e_lit (vs := [(0, .int .i64 y22)]) (cs := [.int .i64 y22]) (Kd.int .i64) ([y22] : List Int) Try.underlying25 I3 (by decide) rfl (by decide) rfl rfl (fun _ _ => Kd.zak _)) (cur2 (fun A23 c24 => ?_))
  refine za7 h (fun l26 ha27 h => ?_) rfl
  refine o_e rfl (e_app (i := 1) (j := 0) Try.underlying25 I3 rfl (by decide) (by decide) rfl rfl rfl rfl rfl ha27) (cur2 (fun A28 c29 => ?_))
  refine o_q rfl rfl (q_asg rfl) ?_
  refine o_end ?_
  refine zal ?_
  refine za1 ?_
  refine za0 ?_
  refine o_q rfl rfl (q_up rfl rfl (hr12.up hm13)) ?_
  refine o_q rfl rfl (za2 rfl) ?_
  refine o_end ?_
  refine zam ys10.length (ys10, l26, i8 + 1, A28, c29) (by rw [← hk18]; exact Nat.lt_succ_self _) ⟨hr12.step, rfl, h⟩ ⟨rfl, rfl, trivial⟩ (fun w h => za6 [1] (by decide) rfl w h) ?_
  repeat (first | exact zac _ _ | refine zaf rfl ?_ | refine zad rfl ?_ | refine zah rfl ?_)

end Go.Proofs.Ytdicngjloiphkaa.L6
