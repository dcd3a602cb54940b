import Derived.Test.YtdicngjloiphkaaKFnCodesRunL6p4
namespace Go.Proofs.Ytdicngjloiphkaa.L6
open Go.RowKit Go.Proofs.Ytdicngjloiphkaa.Frame Go.Proofs.YtdicngjloiphkaaW.PrintLast Go.Proofs.Ytdicngjloiphkaa.Hand
open Go.Proofs.YtdicngjloiphkaaW.PrintWords hiding mn mx
set_option linter.unusedVariables false
/-! ### loop.example/g01098/spec.reCode: function 97 -/
def spec_reCode.f (k : Nat) (a0_0 : Int) (l0_1 : List Int) (l0_2 : List SRegOp) (l0_3 : List Int) : Option Bool := (spec_rePlan.f k a0_0 l0_1 l0_2 l0_3).bind fun (i4, l5, l6, b7) => some b7
set_option maxHeartbeats 600000 in
set_option maxRecDepth 100000 in
theorem spec_reCode.calls (k : Nat) {w0 ws : World} {P0 : Nat → Prop} (a0_0 : Int) (A0_1 : Option Addr) (c0_1 : Nat) (n0_1 : Nat) (l0_1 : List Int) (A0_2 : Option Addr) (c0_2 : Nat) (n0_2 : Nat) (l0_2 : List SRegOp) (A0_3 : Option Addr) (c0_3 : Nat) (n0_3 : Nat) (l0_3 : List Int) (Z : Below w0.heap.size w0 ws) (hF : Fr w0 ws P0 [] ws) (R0_1 : Stable ws P0 (fun w => Kd.C (Kd.int .i64) w A0_1 n0_1 l0_1)) (hc0_1 : n0_1 ≤ c0_1) (R0_2 : Stable ws P0 (fun w => Kd.C zb6 w A0_2 n0_2 l0_2)) (hc0_2 : n0_2 ≤ c0_2) (R0_3 : Stable ws P0 (fun w => Kd.C (Kd.int .i64) w A0_3 n0_3 l0_3)) (hc0_3 : n0_3 ≤ c0_3) (r_1 : Bool) (h : spec_reCode.f k a0_0 l0_1 l0_2 l0_3 = some r_1) :
  Calls Try.prog 97 #[.agg #[.int .i64 a0_0, .slice A0_1 n0_1 c0_1, .slice A0_2 n0_2 c0_2, .slice A0_3 n0_3 c0_3]] ws (Post1 w0 ws P0 (fun (_ : Unit) => .bool r_1) (fun (_ : Unit) => [])) := by
 unfold spec_reCode.f at h
 obtain rfl := (R0_1 ws (KeptB.refl _ _)).1
 obtain rfl := (R0_2 ws (KeptB.refl _ _)).1
 obtain rfl := (R0_3 ws (KeptB.refl _ _)).1
 refine enter Try.func97 rfl Try.ntmps97 rfl hF ?_
 refine c_seq ?_
 refine za0 ?_
 refine o_e rfl (e_box rfl) (fun g1 => ?_)
 refine o_q rfl rfl (q_asg rfl) ?_
 refine o_end ?_
 refine za1 ?_
 refine c_seq ?_
 refine za0 ?_
 refine o_q rfl rfl (q_ldB G43 Z43 rfl (fun w h => h.zae (i := 0) rfl) rfl) ?_
 refine bindE4 h (fun i4 l5 l6 b7 hx3 h => ?_) rfl
 refine o_e rfl (zab 0 Z Try.func101 N101 rfl rfl rfl (fun w P1 hF hB hS hT => spec_rePlan.calls k a0_0 A0_1 c0_1 l0_1.length l0_1 A0_2 c0_2 l0_2.length l0_2 A0_3 c0_3 l0_3.length l0_3 hB hF (hS _ R0_1) hc0_1 (hS _ R0_2) hc0_2 (hS _ R0_3) hc0_3 _ _ _ _ hx3)) (cur4 (fun A8 c9 A10 c11 => ?_))
 refine o_q rfl rfl (za2 rfl) ?_
 refine o_q rfl rfl (q_ext rfl rfl) ?_
 refine o_q rfl rfl (q_ext rfl rfl) ?_
 refine o_e rfl (zat V27 rfl) (fun g12 => ?_)
 refine o_e rfl (zan (i := 0) rfl rfl rfl Z27 rfl rfl) (fun _ => ?_)
 refine o_q rfl rfl (q_asg rfl) ?_
 refine o_end ?_
 refine za1 ?_
 refine c_seq ?_
 refine za0 ?_
 refine o_q rfl rfl (za2 rfl) ?_
 refine o_q rfl rfl (q_asg rfl) ?_
 refine o_end ?_
 refine za1 ?_
 refine c_ret ?_
 have e0_ := Option.some.inj h; clear h
 subst e0_
 exact x_r1 () Try.results97 (zai rfl) rfl (fun w h => za6 [] (by decide) rfl w h)

/-! ### loop.example/g01098/spec.moModulus: function 98 -/
def spec_moModulus.f (a0 : Int) : Option Bool := (spec_l1In.f a0 2 10000).bind fun b2 => some b2
set_option maxHeartbeats 600000 in
set_option maxRecDepth 100000 in
theorem spec_moModulus.calls {w0 ws : World} {P0 : Nat → Prop} (a0 : Int) (Z : Below w0.heap.size w0 ws) (hF : Fr w0 ws P0 [] ws)  (r_1 : Bool) (h : spec_moModulus.f a0 = some r_1) :
  Calls Try.prog 98 #[.int .i64 a0] ws (Post1 w0 ws P0 (fun (_ : Unit) => .bool r_1) (fun (_ : Unit) => [])) := by
 unfold spec_moModulus.f at h
 refine enter Try.func98 rfl Try.ntmps98 rfl hF ?_
 refine c_seq ?_
 refine za0 ?_
 refine o_q rfl rfl (q_asg rfl) ?_
 refine o_end ?_
 refine za1 ?_
 refine c_seq ?_
 refine za0 ?_
 refine o_q rfl rfl (za2 rfl) ?_
 refine za7 h (fun b2 hx1 h => ?_) rfl
 refine o_e rfl (zab 0 Z Try.func61 N61 rfl rfl rfl (fun w P1 hF hB hS hT => spec_l1In.calls a0 2 10000 hB hF _ hx1)) (fun _ => ?_)
 refine o_q rfl rfl (q_asg rfl) ?_
 refine o_end ?_
 refine za1 ?_
 refine c_ret ?_
 have e0_ := Option.some.inj h; clear h
 subst e0_
 exact x_r1 () Try.results98 (zai rfl) rfl (fun w h => za6 [] (by decide) rfl w h)

/-! ### loop.example/g01098/spec.moPick: function 100 -/
def spec_moPick.l0 (l0 : List Int) : (List Int) → (List Int) → Int → Option (List Int)
 | [], l3, i6 => some l3
 | y7 :: ys8, l3, i6 => (gt l0 y7).bind fun y20 => (ap l3 ([y20] : List Int)).bind fun l24 => spec_moPick.l0 l0 ys8 l24 (i6 + 1)
def spec_moPick.f (l0 : List Int) (l1 : List Int) : Option (List Int) := (spec_moPick.l0 l0 l1 ([] : List Int) 0).bind fun l3 => some l3
set_option maxHeartbeats 600000 in
set_option maxRecDepth 100000 in
theorem spec_moPick.calls {w0 ws : World} {P0 : Nat → Prop} (A0 : Option Addr) (c0 : Nat) (n0 : Nat) (l0 : List Int) (A1 : Option Addr) (c1 : Nat) (n1 : Nat) (l1 : List Int) (Z : Below w0.heap.size w0 ws) (hF : Fr w0 ws P0 [] ws) (R0 : Stable ws P0 (fun w => Kd.C (Kd.int .i64) w A0 n0 l0)) (hc0 : n0 ≤ c0) (R1 : Stable ws P0 (fun w => Kd.C (Kd.int .i64) w A1 n1 l1)) (hc1 : n1 ≤ c1) (r_1 : List Int) (h : spec_moPick.f l0 l1 = some r_1) :
  Calls Try.prog 100 #[.slice A0 n0 c0, .slice A1 n1 c1] ws (Post1 w0 ws P0 (fun ((q_2, q_3) : (Option Addr) × Nat) => .slice q_2 r_1.length q_3) (fun ((q_2, q_3) : (Option Addr) × Nat) => [row (Kd.int .i64) 3 (.slice q_2 r_1.length q_3) r_1])) := by
 unfold spec_moPick.f at h
 obtain rfl := (R0 ws (KeptB.refl _ _)).1
 obtain rfl := (R1 ws (KeptB.refl _ _)).1
 refine enter Try.func100 rfl Try.ntmps100 rfl hF ?_
 refine c_seq ?_
 refine za0 ?_
 refine o_q rfl rfl (q_asg rfl) ?_
 refine o_end ?_
 refine za1 ?_
 refine c_seq ?_
 refine za0 ?_
 refine o_q rfl rfl (q_asg rfl) ?_
 refine o_end ?_
 refine za1 ?_
 refine c_seq ?_
 refine c_seq ?_
 refine za0 ?_
 refine o_q rfl rfl (za2 rfl) ?_
 refine o_q rfl rfl (q_len Try.underlying25 rfl) ?_
 refine o_q rfl rfl (za2 rfl) ?_
 refine o_end ?_
 refine za1 ?_
 refine zaj ?_
 refine c_nil (Kd.int .i64) 3 ?_
 refine za7 h (fun o14 hl13 hR12 => ?_) rfl
 clear h
 refine zba (p := l1.length ≤ 9223372036854775807) (fun w h => (R1.now Z h).2.1) (fun hm11 => ?_)
 refine zax (σ := (List Int) × (List Int) × Int × (Option Addr) × Nat) (fun k9 ((ys8, l3, i6, A4, c5) : (List Int) × (List Int) × Int × (Option Addr) × Nat) => Rg l1 i6 ys8 ∧ ys8.length = k9 ∧ spec_moPick.l0 l0 ys8 l3 i6 = some o14) [5, 7, 10, 11, 12, 13, 14, 15, 16, 17, 18, 19, 20, 21] (fun ((ys8, l3, i6, A4, c5) : (List Int) × (List Int) × Int × (Option Addr) × Nat) => [(5, .slice A4 l3.length c5), (10, .int .i64 i6)]) (fun ((ys8, l3, i6, A4, c5) : (List Int) × (List Int) × Int × (Option Addr) × Nat) => [row (Kd.int .i64) 3 (.slice A4 l3.length c5) l3]) l1.length (l1, ([] : List Int), 0, none, 0) ⟨Rg.start _, rfl, hl13⟩ ⟨rfl, rfl, trivial⟩ (fun w h => h) ?_
 refine fun k9 => cur5 (listC (fun l3 i6 A4 c5 U15 hJ_ => ?_) (fun y7 ys8 l3 i6 A4 c5 U15 hJ_ => ?_))
 ·skip
  clear hl13
  have hr10 := hJ_.1; have hk16 := hJ_.2.1; have h := hJ_.2.2; clear hJ_
  replace h : spec_moPick.l0 l0 [] l3 i6 = some o14 := h
  rw [spec_moPick.l0] at h
  refine c_seq ?_
  refine za0 ?_
  refine o_q rfl rfl (q_lss rfl rfl) ?_
  refine o_end ?_
  refine za1 ?_
  refine c_seq ?_
  refine zb3 (congrArg Value.bool hr10.ge) ?_
  refine zb4 ?_
  refine za8 ?_
  refine za8 ?_
  have e_ := Option.some.inj h; replace h := hR12; rw [← e_] at h; clear e_
  refine x_hit ?_
  refine za1 ?_
  refine c_seq ?_
  refine za0 ?_
  refine o_q rfl rfl (za2 rfl) ?_
  refine o_q rfl rfl (q_asg rfl) ?_
  refine o_end ?_
  refine za1 ?_
  refine c_ret ?_
  have e0_ := Option.some.inj h; clear h
  subst e0_
  exact x_r1 (A4, c5) Try.results100 (zai rfl) rfl (fun w h => za6 [0] (by decide) rfl w h)
 ·skip
  clear hl13
  have hr10 := hJ_.1; have hk16 := hJ_.2.1; have h := hJ_.2.2; clear hJ_
  replace h : spec_moPick.l0 l0 (y7 :: ys8) l3 i6 = some o14 := h
  rw [spec_moPick.l0] at h
  refine c_seq ?_
  refine za0 ?_
  refine o_q rfl rfl (q_lss rfl rfl) ?_
  refine o_end ?_
  refine za1 ?_
  refine c_seq ?_
  refine zb1 (congrArg Value.bool hr10.lt) ?_
  refine zao ?_
  refine za1 ?_
  refine c_seq ?_
  refine zaj ?_
  refine c_seq ?_
  refine za0 ?_
  refine zaz (p := Sh A1 l1.length l1.length) (fun w h => f_sh (dk := (Kd.int .i64)) h (fun w h => R1.now Z h)) (fun hq17 => ?_)
  refine o_q rfl rfl (q_ix Try.underlying25 Z3 rfl rfl hq17 hr10.get) ?_
  refine o_q rfl rfl (q_lde (off := 0) Y3 rfl rfl (fun w h => R1.now Z h) hr10.get (fun _ _ h => h) rfl) ?_
  refine o_q rfl rfl (q_asg rfl) ?_
  refine o_end ?_
  refine za1 ?_
  refine za0 ?_
  refine o_q rfl rfl (za2 rfl) ?_
  refine o_q rfl rfl (za2 rfl) ?_
  refine o_q rfl rfl (za2 rfl) ?_
  refine zaz (p := Sh A0 l0.length l0.length) (fun w h => f_sh (dk := (Kd.int .i64)) h (fun w h => R0.now Z h)) (fun hq18 => ?_)
  refine za7 h (fun y20 hg19 h => ?_) rfl
  refine o_q rfl rfl (q_ix Try.underlying25 Z3 rfl rfl hq18 hg19) ?_
  refine o_q rfl rfl (q_lde (off := 0) Y3 rfl rfl (fun w h => R0.now Z h) hg19 (fun _ _ h => h) rfl) ?_
  refine o_e rfl (e_lit (vs := [(0, .int .i64 y20)]) (cs := [.int .i64 y20]) (Kd.int .i64) ([y20] : List Int) Try.underlying25 I3 (by decide) rfl (by decide) rfl rfl (fun _ _ => Kd.zak _)) (cur2 (fun A21 c22 => ?_))
  refine za7 h (fun l24 ha25 h => ?_) rfl
  refine o_e rfl (e_app (i := 1) (j := 0) Try.underlying25 I3 rfl (by decide) (by decide) rfl rfl rfl rfl rfl ha25) (cur2 (fun A26 c27 => ?_))
  refine o_q rfl rfl (q_asg rfl) ?_
  refine o_end ?_
  refine zal ?_
  refine za1 ?_
  refine za0 ?_
  refine o_q rfl rfl (q_up rfl rfl (hr10.up hm11)) ?_
  refine o_q rfl rfl (za2 rfl) ?_
  refine o_end ?_
  refine zam ys8.length (ys8, l24, i6 + 1, A26, c27) (by rw [← hk16]; exact Nat.lt_succ_self _) ⟨hr10.step, rfl, h⟩ ⟨rfl, rfl, trivial⟩ (fun w h => za6 [1] (by decide) rfl w h) ?_
  repeat (first | exact zac _ _ | refine zaf rfl ?_ | refine zad rfl ?_ | refine zah rfl ?_)

/-! ### loop.example/g01098/spec.RunRegCode: function 37 -/
def spec_RunRegCode.l1 (a1 : Int) : (List SRegOp) → (List Int) → Int → Option (List Int)
 | [], l30, i31 => some l30
 | y32 :: ys33, l30, i31 => (gt l30 y32.f1).bind fun y412 => (gt l30 y32.f2).bind fun y711 => (nz a1).bind fun _ => (gt l30 y32.f0).bind fun y1011 => (st l30 y32.f0 ((w64 (y412 * y711)).tmod a1)).bind fun l1070 => spec_RunRegCode.l1 a1 ys33 l1070 (i31 + 1)
def spec_RunRegCode.l0 (l2 : List Int) : (List Int) → (List Int) → Int → Option (List Int)
 | [], l18, i19 => some l18
 | y20 :: ys21, l18, i19 => (gt l2 i19).bind fun y1193 => (gt l18 y20).bind fun y1196 => (st l18 y20 y1193).bind fun l1197 => spec_RunRegCode.l0 l2 ys21 l1197 (i19 + 1)
def spec_RunRegCode.f (k : Nat) (a0_0 : Int) (l0_1 : List Int) (l0_2 : List SRegOp) (l0_3 : List Int) (a1 : Int) (l2 : List Int) : Option ((List Int) × Bool) := (spec_reCode.f k a0_0 l0_1 l0_2 l0_3).bind fun b4 => if b4 = true then ((spec_moModulus.f a1).bind fun b7 => if b7 = true then (if (l2.length : Int) ≠ (l0_1.length : Int) then (some (([] : List Int), false)) else ((spec_l1All.f l2 0 (w64 (a1 - 1))).bind fun b11 => if b11 = true then ((mk0 a0_0 (0 : Int)).bind fun l13 => (spec_RunRegCode.l0 l2 l0_1 l13 0).bind fun l18 => (spec_RunRegCode.l1 a1 l0_2 l18 0).bind fun l30 => (spec_moPick.f l30 l0_3).bind fun l43 => some (l43, true)) else (some (([] : List Int), false)))) else (some (([] : List Int), false))) else (some (([] : List Int), false))
set_option maxHeartbeats 600000 in
set_option maxRecDepth 100000 in
theorem spec_RunRegCode.calls (k : Nat) {w0 ws : World} {P0 : Nat → Prop} (a0_0 : Int) (A0_1 : Option Addr) (c0_1 : Nat) (n0_1 : Nat) (l0_1 : List Int) (A0_2 : Option Addr) (c0_2 : Nat) (n0_2 : Nat) (l0_2 : List SRegOp) (A0_3 : Option Addr) (c0_3 : Nat) (n0_3 : Nat) (l0_3 : List Int) (a1 : Int) (A2 : Option Addr) (c2 : Nat) (n2 : Nat) (l2 : List Int) (Z : Below w0.heap.size w0 ws) (hF : Fr w0 ws P0 [] ws) (R0_1 : Stable ws P0 (fun w => Kd.C (Kd.int .i64) w A0_1 n0_1 l0_1)) (hc0_1 : n0_1 ≤ c0_1) (R0_2 : Stable ws P0 (fun w => Kd.C zb6 w A0_2 n0_2 l0_2)) (hc0_2 : n0_2 ≤ c0_2) (R0_3 : Stable ws P0 (fun w => Kd.C (Kd.int .i64) w A0_3 n0_3 l0_3)) (hc0_3 : n0_3 ≤ c0_3) (R2 : Stable ws P0 (fun w => Kd.C (Kd.int .i64) w A2 n2 l2)) (hc2 : n2 ≤ c2) (r_1 : List Int) (r_4 : Bool) (h : spec_RunRegCode.f k a0_0 l0_1 l0_2 l0_3 a1 l2 = some (r_1, r_4)) :
  Calls Try.prog 37 #[.agg #[.int .i64 a0_0, .slice A0_1 n0_1 c0_1, .slice A0_2 n0_2 c0_2, .slice A0_3 n0_3 c0_3], .int .i64 a1, .slice A2 n2 c2] ws (Post1 w0 ws P0 (fun ((q_2, q_3) : (Option Addr) × Nat) => .tuple #[.slice q_2 r_1.length q_3, .bool r_4]) (fun ((q_2, q_3) : (Option Addr) × Nat) => [row (Kd.int .i64) 3 (.slice q_2 r_1.length q_3) r_1])) := by
 unfold spec_RunRegCode.f at h
 obtain rfl := (R0_1 ws (KeptB.refl _ _)).1
 obtain rfl := (R0_2 ws (KeptB.refl _ _)).1
 obtain rfl := (R0_3 ws (KeptB.refl _ _)).1
 obtain rfl := (R2 ws (KeptB.refl _ _)).1
 refine enter Try.func37 rfl Try.ntmps37 rfl hF ?_
 refine c_seq ?_
 refine za0 ?_
 refine o_e rfl (e_box rfl) (fun g1 => ?_)
 refine o_q rfl rfl (q_asg rfl) ?_
 refine o_q rfl rfl (q_asg rfl) ?_
 refine o_end ?_
 refine za1 ?_
 refine c_seq ?_
 refine c_seq ?_
 refine za0 ?_
 refine o_q rfl rfl (q_ldB G43 Z43 rfl (fun w h => h.zae (i := 0) rfl) rfl) ?_
 refine za7 h (fun b4 hx3 h => ?_) rfl
 refine o_e rfl (zab 0 Z Try.func97 N97 rfl rfl rfl (fun w P1 hF hB hS hT => spec_reCode.calls k a0_0 A0_1 c0_1 l0_1.length l0_1 A0_2 c0_2 l0_2.length l0_2 A0_3 c0_3 l0_3.length l0_3 hB hF (hS _ R0_1) hc0_1 (hS _ R0_2) hc0_2 (hS _ R0_3) hc0_3 _ hx3)) (fun _ => ?_)
 refine o_q rfl rfl (q_not rfl) ?_
 refine o_q rfl rfl (za2 rfl) ?_
 refine byB b4 (fun hb5 => ?_) (fun hb5 => ?_)
 ·replace h := bb_t hb5 h
  refine o_w (za4 rfl rfl rfl (congrArg (fun b => Value.bool (!(b))) hb5)) rfl (za2 rfl) ?_
  refine za7 h (fun b7 hx6 h => ?_) rfl
  refine o_ew (za4 rfl rfl rfl (congrArg (fun b => Value.bool (!(b))) hb5)) (zab 0 Z Try.func98 N98 rfl rfl rfl (fun w P1 hF hB hS hT => spec_moModulus.calls a1 hB hF _ hx6)) (fun _ => ?_)
  refine o_w (za4 rfl rfl rfl (congrArg (fun b => Value.bool (!(b))) hb5)) rfl (q_not rfl) ?_
  refine o_q rfl rfl (zaq false (congrArg (fun b => Value.bool (!(b))) hb5) rfl) ?_
  refine o_q rfl rfl (za2 rfl) ?_
  refine byB b7 (fun hb8 => ?_) (fun hb8 => ?_)
  ·replace h := bb_t hb8 h
   refine o_w (za4 rfl rfl rfl (congrArg (fun b => Value.bool (!(b))) hb8)) rfl (za2 rfl) ?_
   refine o_w (za4 rfl rfl rfl (congrArg (fun b => Value.bool (!(b))) hb8)) rfl (q_len Try.underlying25 rfl) ?_
   refine o_w (za4 rfl rfl rfl (congrArg (fun b => Value.bool (!(b))) hb8)) rfl (q_f F43_1 rfl) ?_
   refine o_w (za4 rfl rfl rfl (congrArg (fun b => Value.bool (!(b))) hb8)) rfl (q_ldb Y25 rfl (fun w h => h.zae (i := 0) rfl) rfl) ?_
   refine o_w (za4 rfl rfl rfl (congrArg (fun b => Value.bool (!(b))) hb8)) rfl (q_len Try.underlying25 rfl) ?_
   refine o_w (za4 rfl rfl rfl (congrArg (fun b => Value.bool (!(b))) hb8)) rfl (q_neq rfl rfl) ?_
   refine o_q rfl rfl (zaq false (congrArg (fun b => Value.bool (!(b))) hb8) rfl) ?_
   refine o_q rfl rfl (za2 rfl) ?_
   refine byB (decide ((l2.length : Int) ≠ (l0_1.length : Int))) (fun hb9 => ?_) (fun hb9 => ?_)
   ·replace h := br_t hb9 h
    refine @o_n _ _ _ _ _ _ _ _ _ _ _ 30 (za3 rfl rfl rfl (congrArg Value.bool hb9) rfl) (Eq.refl (some 30)) ?_
    refine @o_n _ _ _ _ _ _ _ _ _ _ _ 31 (za3 rfl rfl rfl (congrArg Value.bool hb9) rfl) (Eq.refl (some 31)) ?_
    refine @o_n _ _ _ _ _ _ _ _ _ _ _ 32 (za3 rfl rfl rfl (congrArg Value.bool hb9) rfl) (Eq.refl (some 32)) ?_
    refine @o_n _ _ _ _ _ _ _ _ _ _ _ 33 (za3 rfl rfl rfl (congrArg Value.bool hb9) rfl) (Eq.refl (some 33)) ?_
    refine @o_n _ _ _ _ _ _ _ _ _ _ _ 34 (za3 rfl rfl rfl (congrArg Value.bool hb9) rfl) (Eq.refl (some 34)) ?_
    refine o_q rfl rfl (zaq true (congrArg Value.bool hb9) rfl) ?_
    refine o_end ?_
    refine za1 ?_
    refine zb1 rfl ?_
    refine c_seq ?_
    refine za0 ?_
    refine o_q rfl rfl (q_asg rfl) ?_
    refine o_q rfl rfl (q_asg rfl) ?_
    refine o_end ?_
    refine za1 ?_
    refine c_ret ?_
    refine zaa ?_
    refine x_nil (Kd.int .i64) 3 ?_
    have e0_ := Option.some.inj h; clear h
    have d0_ := (Prod.mk.inj e0_).1; have e1_ := (Prod.mk.inj e0_).2; clear e0_; subst d0_
    subst e1_
    exact x_r2 (none, 0) Try.results37 (zai rfl) (zai rfl) rfl (fun w h => za6 [0] (by decide) rfl w h)
   ·replace h := br_f hb9 h
    refine o_w (za4 rfl rfl rfl (congrArg Value.bool hb9)) rfl (za2 rfl) ?_
    refine o_w (za4 rfl rfl rfl (congrArg Value.bool hb9)) rfl (za2 rfl) ?_
    refine o_w (za4 rfl rfl rfl (congrArg Value.bool hb9)) rfl (q_sub64 rfl rfl) ?_
    refine za7 h (fun b11 hx10 h => ?_) rfl
    refine o_ew (za4 rfl rfl rfl (congrArg Value.bool hb9)) (zab 0 Z Try.func99 N99 rfl rfl rfl (fun w P1 hF hB hS hT => spec_l1All.calls A2 c2 l2.length l2 0 (w64 (a1 - 1)) hB hF (hS _ R2) hc2 _ hx10)) (fun _ => ?_)
    refine o_w (za4 rfl rfl rfl (congrArg Value.bool hb9)) rfl (q_not rfl) ?_
    refine o_q rfl rfl (zaq false (congrArg Value.bool hb9) rfl) ?_
    refine o_end ?_
    refine za1 ?_
    refine zau _ rfl (fun hb12 => ?_) (fun hb12 => ?_)
    ·replace hb12 := nt_t hb12
     replace h := bb_f hb12 h
     refine c_seq ?_
     refine za0 ?_
     refine o_q rfl rfl (q_asg rfl) ?_
     refine o_q rfl rfl (q_asg rfl) ?_
     refine o_end ?_
     refine za1 ?_
     refine c_ret ?_
     refine zaa ?_
     refine x_nil (Kd.int .i64) 3 ?_
     have e0_ := Option.some.inj h; clear h
     have d0_ := (Prod.mk.inj e0_).1; have e1_ := (Prod.mk.inj e0_).2; clear e0_; subst d0_
     subst e1_
     exact x_r2 (none, 0) Try.results37 (zai rfl) (zai rfl) rfl (fun w h => za6 [0] (by decide) rfl w h)
    ·replace hb12 := nt_f hb12
     replace h := bb_t hb12 h
     refine zao ?_
     refine za1 ?_
     refine c_seq ?_
     refine za0 ?_
     refine o_q rfl rfl (q_f F43_0 rfl) ?_
     refine o_q rfl rfl (q_ldb Y3 rfl (fun w h => h.zae (i := 0) rfl) rfl) ?_
     refine za7 h (fun l13 hm14 h => ?_) rfl
     refine o_e rfl (e_make (Kd.int .i64) (0 : Int) Try.underlying25 I3 rfl (by decide) (by decide) (fun _ _ => rfl) rfl rfl hm14) (cur2 (fun A15 c16 => ?_))
     refine o_q rfl rfl (q_asg rfl) ?_
     refine o_end ?_
     refine za1 ?_
     refine c_seq ?_
     refine c_seq ?_
     refine za0 ?_
     refine o_q rfl rfl (q_f F43_1 rfl) ?_
     refine o_q rfl rfl (q_ldb Y25 rfl (fun w h => h.zae (i := 1) rfl) rfl) ?_
     refine o_q rfl rfl (q_len Try.underlying25 rfl) ?_
     refine o_q rfl rfl (za2 rfl) ?_
     refine o_end ?_
     refine za1 ?_
     refine zaj ?_
     refine za7 h (fun o27 hl26 hR25 => ?_) rfl
     clear h
     refine zba (p := l0_1.length ≤ 9223372036854775807) (fun w h => (R0_1.now Z h).2.1) (fun hm24 => ?_)
     refine zax (σ := (List Int) × (List Int) × Int) (fun k22 ((ys21, l18, i19) : (List Int) × (List Int) × Int) => Rg l0_1 i19 ys21 ∧ ys21.length = k22 ∧ spec_RunRegCode.l0 l2 ys21 l18 i19 = some o27) [9, 10, 42, 43, 44, 45, 46, 47, 48, 49, 50, 51, 52, 53, 54] (fun ((ys21, l18, i19) : (List Int) × (List Int) × Int) => [(42, .int .i64 i19)]) (fun ((ys21, l18, i19) : (List Int) × (List Int) × Int) => [row (Kd.int .i64) 3 (.slice A15 l13.length c16) l18, box g1 43 #[.int .i64 a0_0, .slice A0_1 l0_1.length c0_1, .slice A0_2 l0_2.length c0_2, .slice A0_3 l0_3.length c0_3]]) l0_1.length (l0_1, l13, 0) ⟨Rg.start _, rfl, hl26⟩ ⟨rfl, trivial⟩ (fun w h => h) ?_
     refine fun k22 => cur3 (listC (fun l18 i19 U28 hJ_ => ?_) (fun y20 ys21 l18 i19 U28 hJ_ => ?_))
     ·skip
      clear hl26
      have hr23 := hJ_.1; have hk29 := hJ_.2.1; have h := hJ_.2.2; clear hJ_
      replace h : spec_RunRegCode.l0 l2 [] l18 i19 = some o27 := h
      rw [spec_RunRegCode.l0] at h
      refine c_seq ?_
      refine za0 ?_
      refine o_q rfl rfl (q_lss rfl rfl) ?_
      refine o_end ?_
      refine za1 ?_
      refine c_seq ?_
      refine zb3 (congrArg Value.bool hr23.ge) ?_
      refine zb4 ?_
      refine za8 ?_
      refine za8 ?_
      have e_ := Option.some.inj h; replace h := hR25; rw [← e_] at h; clear e_
      refine x_hit ?_
      refine za1 ?_
      refine c_seq ?_
      refine c_seq ?_
      refine za0 ?_
      refine o_q rfl rfl (q_f F43_2 rfl) ?_
      refine o_q rfl rfl (q_ldb Y41 rfl (fun w h => h.zae (i := 1) rfl) rfl) ?_
      refine o_q rfl rfl (q_len Try.underlying41 rfl) ?_
      refine o_q rfl rfl (za2 rfl) ?_
      refine o_end ?_
      refine za1 ?_
      refine zaj ?_
      refine za7 h (fun o39 hl38 hR37 => ?_) rfl
      clear h
      refine zba (p := l0_2.length ≤ 9223372036854775807) (fun w h => (R0_2.now Z h).2.1) (fun hm36 => ?_)
      refine zax (σ := (List SRegOp) × (List Int) × Int) (fun k34 ((ys33, l30, i31) : (List SRegOp) × (List Int) × Int) => Rg l0_2 i31 ys33 ∧ ys33.length = k34 ∧ spec_RunRegCode.l1 a1 ys33 l30 i31 = some o39) [12, 58, 59, 60, 61, 62, 63, 64, 65, 66, 67, 68, 69, 70, 71, 72, 73, 74, 75, 76, 77, 78, 79] (fun ((ys33, l30, i31) : (List SRegOp) × (List Int) × Int) => [(58, .int .i64 i31)]) (fun ((ys33, l30, i31) : (List SRegOp) × (List Int) × Int) => [row (Kd.int .i64) 3 (.slice A15 l13.length c16) l30, box g1 43 #[.int .i64 a0_0, .slice A0_1 l0_1.length c0_1, .slice A0_2 l0_2.length c0_2, .slice A0_3 l0_3.length c0_3]]) l0_2.length (l0_2, l18, 0) ⟨Rg.start _, rfl, hl38⟩ ⟨rfl, trivial⟩ (fun w h => h) ?_
      refine fun k34 => cur3 (listC (fun l30 i31 U40 hJ_ => ?_) (fun y32 ys33 l30 i31 U40 hJ_ => ?_))
      ·skip
       clear hl38
       have hr35 := hJ_.1; have hk41 := hJ_.2.1; have h := hJ_.2.2; clear hJ_
       replace h : spec_RunRegCode.l1 a1 [] l30 i31 = some o39 := h
       rw [spec_RunRegCode.l1] at h
       refine c_seq ?_
       refine za0 ?_
       refine o_q rfl rfl (q_lss rfl rfl) ?_
       refine o_end ?_
       refine za1 ?_
       refine c_seq ?_
       refine zb3 (congrArg Value.bool hr35.ge) ?_
       refine zb4 ?_
       refine za8 ?_
       refine za8 ?_
       have e_ := Option.some.inj h; replace h := hR37; rw [← e_] at h; clear e_
       refine x_hit ?_
       refine za1 ?_
       refine c_seq ?_
       refine za0 ?_
       refine o_q rfl rfl (za2 rfl) ?_
       refine o_q rfl rfl (q_f F43_3 rfl) ?_
       refine o_q rfl rfl (q_ldb Y25 rfl (fun w h => h.zae (i := 1) rfl) rfl) ?_
       refine za7 h (fun l43 hx42 h => ?_) rfl
       refine o_e rfl (zab 0 Z Try.func100 N100 rfl rfl rfl (fun w P1 hF hB hS hT => spec_moPick.calls A15 c16 l13.length l30 A0_3 c0_3 l0_3.length l0_3 hB hF (hT 0 _ rfl).row (hT 0 _ rfl).cap (hS _ R0_3) hc0_3 _ hx42)) (cur2 (fun A44 c45 => ?_))
       refine o_q rfl rfl (q_asg rfl) ?_
       refine o_q rfl rfl (q_asg rfl) ?_
       refine o_end ?_
       refine za1 ?_
       refine c_ret ?_
       have e0_ := Option.some.inj h; clear h
       have d0_ := (Prod.mk.inj e0_).1; have e1_ := (Prod.mk.inj e0_).2; clear e0_; subst d0_
       subst e1_
       exact x_r2 (A44, c45) Try.results37 (zai rfl) (zai rfl) rfl (fun w h => za6 [0] (by decide) rfl w h)
      ·skip
       clear hl38
       have hr35 := hJ_.1; have hk41 := hJ_.2.1; have h := hJ_.2.2; clear hJ_
       replace h : spec_RunRegCode.l1 a1 (y32 :: ys33) l30 i31 = some o39 := h
       rw [spec_RunRegCode.l1] at h
       refine c_seq ?_
       refine za0 ?_
       refine o_q rfl rfl (q_lss rfl rfl) ?_
       refine o_end ?_
       refine za1 ?_
       refine c_seq ?_
       refine zb1 (congrArg Value.bool hr35.lt) ?_
       refine zao ?_
       refine za1 ?_
       refine c_seq ?_
       refine zaj ?_
       refine c_seq ?_
       refine za0 ?_
       refine zaz (p := Sh A0_2 l0_2.length l0_2.length) (fun w h => f_sh (dk := zb6) h (fun w h => R0_2.now Z h)) (fun hq46 => ?_)
       refine o_q rfl rfl (q_ix Try.underlying41 Z94 rfl rfl hq46 hr35.get) ?_
       refine o_q rfl rfl (q_ldE G94 Z94 rfl rfl (fun w h => R0_2.now Z h) hr35.get (fun _ _ h => h) rfl) ?_
       refine o_e rfl (zat V94 rfl) (fun g47 => ?_)
       refine o_e rfl (zan (i := 0) rfl rfl rfl Z94 rfl rfl) (fun _ => ?_)
       refine o_end ?_
       refine za1 ?_
       refine za7 h (fun y412 hg411 h => ?_) rfl
       refine za7 h (fun y711 hg710 h => ?_) rfl
       refine za7 h (fun _ hz950 h => ?_) rfl
       refine za7 h (fun y1011 hg1010 h => ?_) rfl
       refine za7 h (fun l1070 hs1071 h => ?_) rfl
       refine a_startS (ds := []) [some 0, none, some 2] MO rfl ?_
       refine za9 0 rfl rfl rfl (by kernel_rfl) (fun _ _ _ h => h) (za2 rfl) ?_
       refine za9 1 rfl rfl rfl (by kernel_rfl) (fun _ _ _ h => h) (q_f F94_0 rfl) ?_
       refine zb0 2 rfl rfl rfl (by kernel_rfl) (fun _ _ _ h => h) (fun w h => za5 [some 0, none, some 2] (by decide) w h rfl) (q_ldb Y3 rfl (fun w h => h.zae (i := 0) rfl) rfl) ?_
       refine za9 3 rfl rfl rfl (by kernel_rfl) (fun _ _ _ h => h) (za2 rfl) ?_
       refine za9 4 rfl rfl rfl (by kernel_rfl) (fun _ _ _ h => h) (q_f F94_1 rfl) ?_
       refine zb0 5 rfl rfl rfl (by kernel_rfl) (fun _ _ _ h => h) (fun w h => za5 [some 0, none, some 2] (by decide) w h rfl) (q_ldb Y3 rfl (fun w h => h.zae (i := 0) rfl) rfl) ?_
       refine a_fact (p := Sh A15 l13.length l30.length) (fun w h => f_sh (dk := (Kd.int .i64)) h (fun w h => h.zaw (i := 1) rfl)) (fun hq410 => ?_)
       refine za9 6 rfl rfl rfl (by kernel_rfl) (fun _ _ _ h => h) (q_ix Try.underlying25 Z3 rfl rfl hq410 hg411) ?_
       refine za9 8 rfl rfl rfl (by kernel_rfl) (fun _ _ _ h => h) (za2 rfl) ?_
       refine za9 9 rfl rfl rfl (by kernel_rfl) (fun _ _ _ h => h) (q_f F94_2 rfl) ?_
       refine zb0 10 rfl rfl rfl (by kernel_rfl) (fun _ _ _ h => h) (fun w h => za5 [some 0, none, some 2] (by decide) w h rfl) (q_ldb Y3 rfl (fun w h => h.zae (i := 0) rfl) rfl) ?_
       refine za9 11 rfl rfl rfl (by kernel_rfl) (fun _ _ _ h => h) (q_ix Try.underlying25 Z3 rfl rfl hq410 hg710) ?_
       refine za9 14 rfl rfl rfl (by kernel_rfl) (fun _ _ _ h => h) (za2 rfl) ?_
       refine a_two 7 12 rfl rfl rfl rfl (by kernel_rfl) rfl rfl (ev_q rfl (q_lde (off := 0) Y3 rfl rfl (fun w h => h.zaw (i := 1) rfl) hg411 (fun _ _ h => h) rfl)) (fun s w h => za5 [some 0, none, some 2] (by decide) w h rfl) (ev_q rfl (q_lde (off := 0) Y3 rfl rfl (fun w h => h.zaw (i := 1) rfl) hg710 (fun _ _ h => h) rfl)) (fun s w h => za5 [some 0, none, some 2] (by decide) w h rfl) (fun _ => ?_) (fun _ => ?_)
       ·skip
        refine a_one 12 rfl rfl (by kernel_rfl) rfl (ev_q rfl (q_lde (off := 0) Y3 rfl rfl (fun w h => h.zaw (i := 1) rfl) hg710 (fun _ _ h => h) rfl)) (fun s w h => za5 [some 0, none, some 2] (by decide) w h rfl) (fun _ => ?_)
        refine za9 13 rfl rfl rfl (by kernel_rfl) (fun _ _ _ h => h) (q_mul64 rfl rfl) ?_
        refine za9 15 rfl rfl rfl (by kernel_rfl) (fun _ _ _ h => h) (q_rem rfl rfl (nz_ne hz950)) ?_
        refine za9 16 rfl rfl rfl (by kernel_rfl) (fun _ _ _ h => h) (q_ix Try.underlying25 Z3 rfl rfl hq410 hg1010) ?_
        refine a_one 17 rfl rfl (by kernel_rfl) rfl (e_set (i := 1) rfl rfl rfl Z3 hs1071) (fun s w h => za5 [some 0, none, some 2] (by decide) w h rfl) (fun _ => ?_)
        refine zav (by kernel_rfl) ?_
        refine zal ?_
        refine za1 ?_
        refine za0 ?_
        refine o_q rfl rfl (q_up rfl rfl (hr35.up hm36)) ?_
        refine o_q rfl rfl (za2 rfl) ?_
        refine o_end ?_
        refine zam ys33.length (ys33, l1070, i31 + 1) (by rw [← hk41]; exact Nat.lt_succ_self _) ⟨hr35.step, rfl, h⟩ ⟨rfl, trivial⟩ (fun w h => za6 [1, 2] (by decide) rfl w h) ?_
        repeat (first | exact zac _ _ | refine zaf rfl ?_ | refine zad rfl ?_ | refine zah rfl ?_)
       ·skip
        refine a_one 7 rfl rfl (by kernel_rfl) rfl (ev_q rfl (q_lde (off := 0) Y3 rfl rfl (fun w h => h.zaw (i := 1) rfl) hg411 (fun _ _ h => h) rfl)) (fun s w h => za5 [some 0, none, some 2] (by decide) w h rfl) (fun _ => ?_)
        refine za9 13 rfl rfl rfl (by kernel_rfl) (fun _ _ _ h => h) (q_mul64 rfl rfl) ?_
        refine za9 15 rfl rfl rfl (by kernel_rfl) (fun _ _ _ h => h) (q_rem rfl rfl (nz_ne hz950)) ?_
        refine za9 16 rfl rfl rfl (by kernel_rfl) (fun _ _ _ h => h) (q_ix Try.underlying25 Z3 rfl rfl hq410 hg1010) ?_
        refine a_one 17 rfl rfl (by kernel_rfl) rfl (e_set (i := 1) rfl rfl rfl Z3 hs1071) (fun s w h => za5 [some 0, none, some 2] (by decide) w h rfl) (fun _ => ?_)
        refine zav (by kernel_rfl) ?_
        refine zal ?_
        refine za1 ?_
        refine za0 ?_
        refine o_q rfl rfl (q_up rfl rfl (hr35.up hm36)) ?_
        refine o_q rfl rfl (za2 rfl) ?_
        refine o_end ?_
        refine zam ys33.length (ys33, l1070, i31 + 1) (by rw [← hk41]; exact Nat.lt_succ_self _) ⟨hr35.step, rfl, h⟩ ⟨rfl, trivial⟩ (fun w h => za6 [1, 2] (by decide) rfl w h) ?_
        repeat (first | exact zac _ _ | refine zaf rfl ?_ | refine zad rfl ?_ | refine zah rfl ?_)
     ·skip
      clear hl26
      have hr23 := hJ_.1; have hk29 := hJ_.2.1; have h := hJ_.2.2; clear hJ_
      replace h : spec_RunRegCode.l0 l2 (y20 :: ys21) l18 i19 = some o27 := h
      rw [spec_RunRegCode.l0] at h
      refine c_seq ?_
      refine za0 ?_
      refine o_q rfl rfl (q_lss rfl rfl) ?_
      refine o_end ?_
      refine za1 ?_
      refine c_seq ?_
      refine zb1 (congrArg Value.bool hr23.lt) ?_
      refine zao ?_
      refine za1 ?_
      refine c_seq ?_
      refine zaj ?_
      refine c_seq ?_
      refine za0 ?_
      refine o_q rfl rfl (za2 rfl) ?_
      refine zaz (p := Sh A0_1 l0_1.length l0_1.length) (fun w h => f_sh (dk := (Kd.int .i64)) h (fun w h => R0_1.now Z h)) (fun hq1190 => ?_)
      refine o_q rfl rfl (q_ix Try.underlying25 Z3 rfl rfl hq1190 hr23.get) ?_
      refine o_q rfl rfl (q_lde (off := 0) Y3 rfl rfl (fun w h => R0_1.now Z h) hr23.get (fun _ _ h => h) rfl) ?_
      refine o_q rfl rfl (q_asg rfl) ?_
      refine o_q rfl rfl (q_asg rfl) ?_
      refine o_end ?_
      refine za1 ?_
      refine za0 ?_
      refine o_q rfl rfl (za2 rfl) ?_
      refine o_q rfl rfl (za2 rfl) ?_
      refine o_q rfl rfl (za2 rfl) ?_
      refine o_q rfl rfl (za2 rfl) ?_
      refine zaz (p := Sh A2 l2.length l2.length) (fun w h => f_sh (dk := (Kd.int .i64)) h (fun w h => R2.now Z h)) (fun hq1191 => ?_)
      refine za7 h (fun y1193 hg1192 h => ?_) rfl
      refine o_q rfl rfl (q_ix Try.underlying25 Z3 rfl rfl hq1191 hg1192) ?_
      refine o_q rfl rfl (q_lde (off := 0) Y3 rfl rfl (fun w h => R2.now Z h) hg1192 (fun _ _ h => h) rfl) ?_
      refine zaz (p := Sh A15 l13.length l18.length) (fun w h => f_sh (dk := (Kd.int .i64)) h (fun w h => h.zaw (i := 0) rfl)) (fun hq1194 => ?_)
      refine za7 h (fun y1196 hg1195 h => ?_) rfl
      refine o_q rfl rfl (q_ix Try.underlying25 Z3 rfl rfl hq1194 hg1195) ?_
      refine za7 h (fun l1197 hs1198 h => ?_) rfl
      refine o_e rfl (e_set (i := 0) rfl rfl rfl Z3 hs1198) (fun _ => ?_)
      refine o_end ?_
      refine zal ?_
      refine za1 ?_
      refine za0 ?_
      refine o_q rfl rfl (q_up rfl rfl (hr23.up hm24)) ?_
      refine o_q rfl rfl (za2 rfl) ?_
      refine o_end ?_
      refine zam ys21.length (ys21, l1197, i19 + 1) (by rw [← hk29]; exact Nat.lt_succ_self _) ⟨hr23.step, rfl, h⟩ ⟨rfl, trivial⟩ (fun w h => za6 [0, 1] (by decide) rfl w h) ?_
      repeat (first | exact zac _ _ | refine zaf rfl ?_ | refine zad rfl ?_ | refine zah rfl ?_)
  ·replace h := bb_f hb8 h
   refine @o_n _ _ _ _ _ _ _ _ _ _ _ 22 (za3 rfl rfl rfl (congrArg (fun b => Value.bool (!(b))) hb8) rfl) (Eq.refl (some 22)) ?_
   refine @o_n _ _ _ _ _ _ _ _ _ _ _ 23 (za3 rfl rfl rfl (congrArg (fun b => Value.bool (!(b))) hb8) rfl) (Eq.refl (some 23)) ?_
   refine @o_n _ _ _ _ _ _ _ _ _ _ _ 24 (za3 rfl rfl rfl (congrArg (fun b => Value.bool (!(b))) hb8) rfl) (Eq.refl (some 24)) ?_
   refine @o_n _ _ _ _ _ _ _ _ _ _ _ 25 (za3 rfl rfl rfl (congrArg (fun b => Value.bool (!(b))) hb8) rfl) (Eq.refl (some 25)) ?_
   refine @o_n _ _ _ _ _ _ _ _ _ _ _ 26 (za3 rfl rfl rfl (congrArg (fun b => Value.bool (!(b))) hb8) rfl) (Eq.refl (some 26)) ?_
   refine @o_n _ _ _ _ _ _ _ _ _ _ _ 27 (za3 rfl rfl rfl (congrArg (fun b => Value.bool (!(b))) hb8) rfl) (Eq.refl (some 27)) ?_
   refine o_q rfl rfl (zaq true (congrArg (fun b => Value.bool (!(b))) hb8) rfl) ?_
   refine o_q rfl rfl (za2 rfl) ?_
   refine @o_n _ _ _ _ _ _ _ _ _ _ _ 30 (za3 rfl rfl rfl rfl rfl) (Eq.refl (some 30)) ?_
   refine @o_n _ _ _ _ _ _ _ _ _ _ _ 31 (za3 rfl rfl rfl rfl rfl) (Eq.refl (some 31)) ?_
   refine @o_n _ _ _ _ _ _ _ _ _ _ _ 32 (za3 rfl rfl rfl rfl rfl) (Eq.refl (some 32)) ?_
   refine @o_n _ _ _ _ _ _ _ _ _ _ _ 33 (za3 rfl rfl rfl rfl rfl) (Eq.refl (some 33)) ?_
   refine @o_n _ _ _ _ _ _ _ _ _ _ _ 34 (za3 rfl rfl rfl rfl rfl) (Eq.refl (some 34)) ?_
   refine o_q rfl rfl (zaq true rfl rfl) ?_
   refine o_end ?_
   refine za1 ?_
   refine zb1 rfl ?_
   refine c_seq ?_
   refine za0 ?_
   refine o_q rfl rfl (q_asg rfl) ?_
   refine o_q rfl rfl (q_asg rfl) ?_
   refine o_end ?_
   refine za1 ?_
   refine c_ret ?_
   refine zaa ?_
   refine x_nil (Kd.int .i64) 3 ?_
   have e0_ := Option.some.inj h; clear h
   have d0_ := (Prod.mk.inj e0_).1; have e1_ := (Prod.mk.inj e0_).2; clear e0_; subst d0_
   subst e1_
   exact x_r2 (none, 0) Try.results37 (zai rfl) (zai rfl) rfl (fun w h => za6 [0] (by decide) rfl w h)
 ·replace h := bb_f hb5 h
  refine @o_n _ _ _ _ _ _ _ _ _ _ _ 17 (za3 rfl rfl rfl (congrArg (fun b => Value.bool (!(b))) hb5) rfl) (Eq.refl (some 17)) ?_
  refine @o_n _ _ _ _ _ _ _ _ _ _ _ 18 (za3 rfl rfl rfl (congrArg (fun b => Value.bool (!(b))) hb5) rfl) (Eq.refl (some 18)) ?_
  refine @o_n _ _ _ _ _ _ _ _ _ _ _ 19 (za3 rfl rfl rfl (congrArg (fun b => Value.bool (!(b))) hb5) rfl) (Eq.refl (some 19)) ?_
  refine o_q rfl rfl (zaq true (congrArg (fun b => Value.bool (!(b))) hb5) rfl) ?_
  refine o_q rfl rfl (za2 rfl) ?_
  refine @o_n _ _ _ _ _ _ _ _ _ _ _ 22 (za3 rfl rfl rfl rfl rfl) (Eq.refl (some 22)) ?_
  refine @o_n _ _ _ _ _ _ _ _ _ _ _ 23 (za3 rfl rfl rfl rfl rfl) (Eq.refl (some 23)) ?_
  refine @o_n _ _ _ _ _ _ _ _ _ _ _ 24 (za3 rfl rfl rfl rfl rfl) (Eq.refl (some 24)) ?_
  refine @o_n _ _ _ _ _ _ _ _ _ _ _ 25 (za3 rfl rfl rfl rfl rfl) (Eq.refl (some 25)) ?_
  refine @o_n _ _ _ _ _ _ _ _ _ _ _ 26 (za3 rfl rfl rfl rfl rfl) (Eq.refl (some 26)) ?_
  refine @o_n _ _ _ _ _ _ _ _ _ _ _ 27 (za3 rfl rfl rfl rfl rfl) (Eq.refl (some 27)) ?_
  refine o_q rfl rfl (zaq true rfl rfl) ?_
  refine o_q rfl rfl (za2 rfl) ?_
  refine @o_n _ _ _ _ _ _ _ _ _ _ _ 30 (za3 rfl rfl rfl rfl rfl) (Eq.refl (some 30)) ?_
  refine @o_n _ _ _ _ _ _ _ _ _ _ _ 31 (za3 rfl rfl rfl rfl rfl) (Eq.refl (some 31)) ?_
  refine @o_n _ _ _ _ _ _ _ _ _ _ _ 32 (za3 rfl rfl rfl rfl rfl) (Eq.refl (some 32)) ?_
  refine @o_n _ _ _ _ _ _ _ _ _ _ _ 33 (za3 rfl rfl rfl rfl rfl) (Eq.refl (some 33)) ?_
  refine @o_n _ _ _ _ _ _ _ _ _ _ _ 34 (za3 rfl rfl rfl rfl rfl) (Eq.refl (some 34)) ?_
  refine o_q rfl rfl (zaq true rfl rfl) ?_
  refine o_end ?_
  refine za1 ?_
  refine zb1 rfl ?_
  refine c_seq ?_
  refine za0 ?_
  refine o_q rfl rfl (q_asg rfl) ?_
  refine o_q rfl rfl (q_asg rfl) ?_
  refine o_end ?_
  refine za1 ?_
  refine c_ret ?_
  refine zaa ?_
  refine x_nil (Kd.int .i64) 3 ?_
  have e0_ := Option.some.inj h; clear h
  have d0_ := (Prod.mk.inj e0_).1; have e1_ := (Prod.mk.inj e0_).2; clear e0_; subst d0_
  subst e1_
  exact x_r2 (none, 0) Try.results37 (zai rfl) (zai rfl) rfl (fun w h => za6 [0] (by decide) rfl w h)

/-! ### loop.example/g01098/impl.RegCodePlan: function 29 -/
def impl_RegCodePlan.f (k : Nat) (a0_0 : Int) (l0_1 : List Int) (l0_2 : List SRegOp) (l0_3 : List Int) : Option (Int × (List SStep) × (List Int) × Bool) := (impl_RegCode_plan.f k a0_0 l0_1 l0_2 l0_3).bind fun (i6, l7, l8, b9) => some (i6, l7, l8, b9)
set_option maxHeartbeats 600000 in
set_option maxRecDepth 100000 in
theorem impl_RegCodePlan.calls (k : Nat) {w0 ws : World} {P0 : Nat → Prop} (a0_0 : Int) (A0_1 : Option Addr) (c0_1 : Nat) (n0_1 : Nat) (l0_1 : List Int) (A0_2 : Option Addr) (c0_2 : Nat) (n0_2 : Nat) (l0_2 : List SRegOp) (A0_3 : Option Addr) (c0_3 : Nat) (n0_3 : Nat) (l0_3 : List Int) (Z : Below w0.heap.size w0 ws) (hF : Fr w0 ws P0 [] ws) (R0_1 : Stable ws P0 (fun w => Kd.C (Kd.int .i64) w A0_1 n0_1 l0_1)) (hc0_1 : n0_1 ≤ c0_1) (R0_2 : Stable ws P0 (fun w => Kd.C zb6 w A0_2 n0_2 l0_2)) (hc0_2 : n0_2 ≤ c0_2) (R0_3 : Stable ws P0 (fun w => Kd.C (Kd.int .i64) w A0_3 n0_3 l0_3)) (hc0_3 : n0_3 ≤ c0_3) (r_1 : Int) (r_2 : List SStep) (r_5 : List Int) (r_8 : Bool) (h : impl_RegCodePlan.f k a0_0 l0_1 l0_2 l0_3 = some (r_1, r_2, r_5, r_8)) :
  Calls Try.prog 29 #[.agg #[.int .i64 a0_0, .slice A0_1 n0_1 c0_1, .slice A0_2 n0_2 c0_2, .slice A0_3 n0_3 c0_3]] ws (Post1 w0 ws P0 (fun ((q_3, q_4, q_6, q_7) : (Option Addr) × Nat × (Option Addr) × Nat) => .tuple #[.agg #[.int .i64 r_1, .slice q_3 r_2.length q_4, .slice q_6 r_5.length q_7], .bool r_8]) (fun ((q_3, q_4, q_6, q_7) : (Option Addr) × Nat × (Option Addr) × Nat) => [row kStep 88 (.slice q_3 r_2.length q_4) r_2, row (Kd.int .i64) 3 (.slice q_6 r_5.length q_7) r_5])) := by
 unfold impl_RegCodePlan.f at h
 obtain rfl := (R0_1 ws (KeptB.refl _ _)).1
 obtain rfl := (R0_2 ws (KeptB.refl _ _)).1
 obtain rfl := (R0_3 ws (KeptB.refl _ _)).1
 refine enter Try.func29 rfl Try.ntmps29 rfl hF ?_
 refine c_seq ?_
 refine za0 ?_
 refine o_e rfl (e_box rfl) (fun g1 => ?_)
 refine o_e rfl (zat V27 rfl) (fun g3 => ?_)
 refine o_q rfl rfl (q_asg rfl) ?_
 refine o_end ?_
 refine za1 ?_
 refine c_seq ?_
 refine za0 ?_
 refine bindE4 h (fun i6 l7 l8 b9 hx5 h => ?_) rfl
 refine o_e rfl (zab 0 Z Try.func88 N88 rfl rfl rfl (fun w P1 hF hB hS hT => impl_RegCode_plan.calls k g1 a0_0 A0_1 c0_1 l0_1.length l0_1 A0_2 c0_2 l0_2.length l0_2 A0_3 c0_3 l0_3.length l0_3 hB hF (hS _ R0_1) hc0_1 (hS _ R0_2) hc0_2 (hS _ R0_3) hc0_3 (hT 1 _ rfl).box _ _ _ _ hx5)) (cur4 (fun A10 c11 A12 c13 => ?_))
 refine o_q rfl rfl (q_ext rfl rfl) ?_
 refine o_q rfl rfl (q_ext rfl rfl) ?_
 refine o_e rfl (zan (i := 2) rfl rfl rfl Z27 rfl rfl) (fun _ => ?_)
 refine o_q rfl rfl (q_asg rfl) ?_
 refine o_end ?_
 refine za1 ?_
 refine c_ret ?_
 have e0_ := Option.some.inj h; clear h
 have d0_ := (Prod.mk.inj e0_).1; have e1_ := (Prod.mk.inj e0_).2; clear e0_; subst d0_
 have d1_ := (Prod.mk.inj e1_).1; have e2_ := (Prod.mk.inj e1_).2; clear e1_; subst d1_
 have d2_ := (Prod.mk.inj e2_).1; have e3_ := (Prod.mk.inj e2_).2; clear e2_; subst d2_
 subst e3_
 exact x_r2 (A10, c11, A12, c13) Try.results29 (rv_cell rfl G27 Z27 (fun w h => h.zae (i := 2) rfl) rfl) (zai rfl) rfl (fun w h => za6 [0, 1] (by decide) rfl w h)

/-! ### loop.example/g01098/spec.RegCodePlan: function 38 -/
def spec_RegCodePlan.f (k : Nat) (a0_0 : Int) (l0_1 : List Int) (l0_2 : List SRegOp) (l0_3 : List Int) : Option (Int × (List SStep) × (List Int) × Bool) := (spec_rePlan.f k a0_0 l0_1 l0_2 l0_3).bind fun (i6, l7, l8, b9) => if b9 = true then (some (i6, l7, l8, true)) else (some (0, ([] : List SStep), ([] : List Int), false))
set_option maxHeartbeats 600000 in
set_option maxRecDepth 100000 in
theorem spec_RegCodePlan.calls (k : Nat) {w0 ws : World} {P0 : Nat → Prop} (a0_0 : Int) (A0_1 : Option Addr) (c0_1 : Nat) (n0_1 : Nat) (l0_1 : List Int) (A0_2 : Option Addr) (c0_2 : Nat) (n0_2 : Nat) (l0_2 : List SRegOp) (A0_3 : Option Addr) (c0_3 : Nat) (n0_3 : Nat) (l0_3 : List Int) (Z : Below w0.heap.size w0 ws) (hF : Fr w0 ws P0 [] ws) (R0_1 : Stable ws P0 (fun w => Kd.C (Kd.int .i64) w A0_1 n0_1 l0_1)) (hc0_1 : n0_1 ≤ c0_1) (R0_2 : Stable ws P0 (fun w => Kd.C zb6 w A0_2 n0_2 l0_2)) (hc0_2 : n0_2 ≤ c0_2) (R0_3 : Stable ws P0 (fun w => Kd.C (Kd.int .i64) w A0_3 n0_3 l0_3)) (hc0_3 : n0_3 ≤ c0_3) (r_1 : Int) (r_2 : List SStep) (r_5 : List Int) (r_8 : Bool) (h : spec_RegCodePlan.f k a0_0 l0_1 l0_2 l0_3 = some (r_1, r_2, r_5, r_8)) :
  Calls Try.prog 38 #[.agg #[.int .i64 a0_0, .slice A0_1 n0_1 c0_1, .slice A0_2 n0_2 c0_2, .slice A0_3 n0_3 c0_3]] ws (Post1 w0 ws P0 (fun ((q_3, q_4, q_6, q_7) : (Option Addr) × Nat × (Option Addr) × Nat) => .tuple #[.agg #[.int .i64 r_1, .slice q_3 r_2.length q_4, .slice q_6 r_5.length q_7], .bool r_8]) (fun ((q_3, q_4, q_6, q_7) : (Option Addr) × Nat × (Option Addr) × Nat) => [row kStep 88 (.slice q_3 r_2.length q_4) r_2, row (Kd.int .i64) 3 (.slice q_6 r_5.length q_7) r_5])) := by
 unfold spec_RegCodePlan.f at h
 obtain rfl := (R0_1 ws (KeptB.refl _ _)).1
 obtain rfl := (R0_2 ws (KeptB.refl _ _)).1
 obtain rfl := (R0_3 ws (KeptB.refl _ _)).1
 refine enter Try.func38 rfl Try.ntmps38 rfl hF ?_
 refine c_seq ?_
 refine za0 ?_
 refine o_e rfl (e_box rfl) (fun g1 => ?_)
 refine o_e rfl (zat V27 rfl) (fun g3 => ?_)
 refine o_q rfl rfl (q_asg rfl) ?_
 refine o_end ?_
 refine za1 ?_
 refine c_seq ?_
 refine za0 ?_
 refine o_q rfl rfl (q_ldB G43 Z43 rfl (fun w h => h.zae (i := 1) rfl) rfl) ?_
 refine bindE4 h (fun i6 l7 l8 b9 hx5 h => ?_) rfl
 refine o_e rfl (zab 0 Z Try.func101 N101 rfl rfl rfl (fun w P1 hF hB hS hT => spec_rePlan.calls k a0_0 A0_1 c0_1 l0_1.length l0_1 A0_2 c0_2 l0_2.length l0_2 A0_3 c0_3 l0_3.length l0_3 hB hF (hS _ R0_1) hc0_1 (hS _ R0_2) hc0_2 (hS _ R0_3) hc0_3 _ _ _ _ hx5)) (cur4 (fun A10 c11 A12 c13 => ?_))
 refine o_q rfl rfl (za2 rfl) ?_
 refine o_q rfl rfl (q_ext rfl rfl) ?_
 refine o_q rfl rfl (q_ext rfl rfl) ?_
 refine o_e rfl (zat V27 rfl) (fun g14 => ?_)
 refine o_e rfl (zan (i := 0) rfl rfl rfl Z27 rfl rfl) (fun _ => ?_)
 refine o_q rfl rfl (q_asg rfl) ?_
 refine o_end ?_
 refine za1 ?_
 refine c_seq ?_
 refine c_seq ?_
 refine za0 ?_
 refine o_q rfl rfl (za2 rfl) ?_
 refine o_q rfl rfl (q_not rfl) ?_
 refine o_end ?_
 refine za1 ?_
 refine zau _ rfl (fun hb16 => ?_) (fun hb16 => ?_)
 ·replace hb16 := nt_t hb16
  replace h := bb_f hb16 h
  refine c_seq ?_
  refine za0 ?_
  refine o_q rfl rfl (zb5 (vs := []) (cs := [.int .i64 0, .slice none 0 0, .slice none 0 0]) rfl rfl) ?_
  refine o_e rfl (zan (i := 3) rfl rfl rfl Z27 rfl rfl) (fun _ => ?_)
  refine o_q rfl rfl (q_asg rfl) ?_
  refine o_end ?_
  refine za1 ?_
  refine c_ret ?_
  refine zaa ?_
  refine x_nil kStep 88 ?_
  refine x_nil (Kd.int .i64) 3 ?_
  have e0_ := Option.some.inj h; clear h
  have d0_ := (Prod.mk.inj e0_).1; have e1_ := (Prod.mk.inj e0_).2; clear e0_; subst d0_
  have d1_ := (Prod.mk.inj e1_).1; have e2_ := (Prod.mk.inj e1_).2; clear e1_; subst d1_
  have d2_ := (Prod.mk.inj e2_).1; have e3_ := (Prod.mk.inj e2_).2; clear e2_; subst d2_
  subst e3_
  exact x_r2 (none, 0, none, 0) Try.results38 (rv_cell rfl G27 Z27 (fun w h => h.zae (i := 5) rfl) rfl) (zai rfl) rfl (fun w h => za6 [1, 0] (by decide) rfl w h)
 ·replace hb16 := nt_f hb16
  replace h := bb_t hb16 h
  refine zao ?_
  refine za1 ?_
  refine c_seq ?_
  refine za0 ?_
  refine o_q rfl rfl (q_ldB G27 Z27 rfl (fun w h => h.zae (i := 0) rfl) rfl) ?_
  refine o_e rfl (zan (i := 3) rfl rfl rfl Z27 rfl rfl) (fun _ => ?_)
  refine o_q rfl rfl (q_asg rfl) ?_
  refine o_end ?_
  refine za1 ?_
  refine c_ret ?_
  have e0_ := Option.some.inj h; clear h
  have d0_ := (Prod.mk.inj e0_).1; have e1_ := (Prod.mk.inj e0_).2; clear e0_; subst d0_
  have d1_ := (Prod.mk.inj e1_).1; have e2_ := (Prod.mk.inj e1_).2; clear e1_; subst d1_
  have d2_ := (Prod.mk.inj e2_).1; have e3_ := (Prod.mk.inj e2_).2; clear e2_; subst d2_
  subst e3_
  exact x_r2 (A10, c11, A12, c13) Try.results38 (rv_cell rfl G27 Z27 (fun w h => h.zae (i := 3) rfl) rfl) (zai rfl) rfl (fun w h => za6 [1, 2] (by decide) rfl w h)

/-! ### loop.example/g01098/laws.rSame: function 15 -/
def laws_rSame.l0 (l1 : List Int) : (List Int) → Int → Option ((Bool) ⊕ (Unit))
 | [], i2 => some (.inr ())
 | y3 :: ys4, i2 => (gt l1 i2).bind fun y16 => if y3 ≠ y16 then (some (.inl false)) else (laws_rSame.l0 l1 ys4 (i2 + 1))
def laws_rSame.f (l0 : List Int) (l1 : List Int) : Option Bool := if (l0.length : Int) ≠ (l1.length : Int) then (some false) else ((laws_rSame.l0 l1 l0 0).bind fun o_ => match o_ with | .inl r_ => some r_ | .inr _ => some true)
set_option maxHeartbeats 600000 in
set_option maxRecDepth 100000 in
theorem laws_rSame.calls {w0 ws : World} {P0 : Nat → Prop} (A0 : Option Addr) (c0 : Nat) (n0 : Nat) (l0 : List Int) (A1 : Option Addr) (c1 : Nat) (n1 : Nat) (l1 : List Int) (Z : Below w0.heap.size w0 ws) (hF : Fr w0 ws P0 [] ws) (R0 : Stable ws P0 (fun w => Kd.C (Kd.int .i64) w A0 n0 l0)) (hc0 : n0 ≤ c0) (R1 : Stable ws P0 (fun w => Kd.C (Kd.int .i64) w A1 n1 l1)) (hc1 : n1 ≤ c1) (r_1 : Bool) (h : laws_rSame.f l0 l1 = some r_1) :
  Calls Try.prog 15 #[.slice A0 n0 c0, .slice A1 n1 c1] ws (Post1 w0 ws P0 (fun (_ : Unit) => .bool r_1) (fun (_ : Unit) => [])) := by
 unfold laws_rSame.f at h
 obtain rfl := (R0 ws (KeptB.refl _ _)).1
 obtain rfl := (R1 ws (KeptB.refl _ _)).1
 refine enter Try.func15 rfl Try.ntmps15 rfl hF ?_
 refine c_seq ?_
 refine za0 ?_
 refine o_q rfl rfl (q_asg rfl) ?_
 refine o_end ?_
 refine za1 ?_
 refine c_seq ?_
 refine c_seq ?_
 refine za0 ?_
 refine o_q rfl rfl (za2 rfl) ?_
 refine o_q rfl rfl (q_len Try.underlying25 rfl) ?_
 refine o_q rfl rfl (za2 rfl) ?_
 refine o_q rfl rfl (q_len Try.underlying25 rfl) ?_
 refine o_q rfl rfl (q_neq rfl rfl) ?_
 refine o_end ?_
 refine za1 ?_
 refine zau _ rfl (fun hb1 => ?_) (fun hb1 => ?_)
 ·skip
  replace h := br_t hb1 h
  refine c_seq ?_
  refine za0 ?_
  refine o_q rfl rfl (q_asg rfl) ?_
  refine o_end ?_
  refine za1 ?_
  refine c_ret ?_
  refine zaa ?_
  have e0_ := Option.some.inj h; clear h
  subst e0_
  exact x_r1 () Try.results15 (zai rfl) rfl (fun w h => za6 [] (by decide) rfl w h)
 ·skip
  replace h := br_f hb1 h
  refine zao ?_
  refine za1 ?_
  refine c_seq ?_
  refine c_seq ?_
  refine za0 ?_
  refine o_q rfl rfl (za2 rfl) ?_
  refine o_q rfl rfl (q_len Try.underlying25 rfl) ?_
  refine o_q rfl rfl (za2 rfl) ?_
  refine o_end ?_
  refine za1 ?_
  refine zaj ?_
  refine za7 h (fun o10 hl9 hR8 => ?_) rfl
  clear h
  refine zba (p := l0.length ≤ 9223372036854775807) (fun w h => (R0.now Z h).2.1) (fun hm7 => ?_)
  refine zax (σ := (List Int) × Int) (fun k5 ((ys4, i2) : (List Int) × Int) => Rg l0 i2 ys4 ∧ ys4.length = k5 ∧ laws_rSame.l0 l1 ys4 i2 = some o10) [4, 5, 13, 14, 15, 16, 17, 18, 19, 20, 21, 22, 23, 24, 25] (fun ((ys4, i2) : (List Int) × Int) => [(13, .int .i64 i2)]) (fun ((ys4, i2) : (List Int) × Int) => []) l0.length (l0, 0) ⟨Rg.start _, rfl, hl9⟩ ⟨rfl, trivial⟩ (fun w h => h) ?_
  refine fun k5 => cur2 (listC (fun i2 U11 hJ_ => ?_) (fun y3 ys4 i2 U11 hJ_ => ?_))
  ·skip
   clear hl9
   have hr6 := hJ_.1; have hk12 := hJ_.2.1; have h := hJ_.2.2; clear hJ_
   replace h : laws_rSame.l0 l1 [] i2 = some o10 := h
   rw [laws_rSame.l0] at h
   refine c_seq ?_
   refine za0 ?_
   refine o_q rfl rfl (q_lss rfl rfl) ?_
   refine o_end ?_
   refine za1 ?_
   refine c_seq ?_
   refine zb3 (congrArg Value.bool hr6.ge) ?_
   refine zb4 ?_
   refine za8 ?_
   refine za8 ?_
   have e_ := Option.some.inj h; replace h := hR8; rw [← e_] at h; clear e_
   refine x_hit ?_
   refine za1 ?_
   refine c_seq ?_
   refine za0 ?_
   refine o_q rfl rfl (q_asg rfl) ?_
   refine o_end ?_
   refine za1 ?_
   refine c_ret ?_
   have e0_ := Option.some.inj h; clear h
   subst e0_
   exact x_r1 () Try.results15 (zai rfl) rfl (fun w h => za6 [] (by decide) rfl w h)
  ·skip
   clear hl9
   have hr6 := hJ_.1; have hk12 := hJ_.2.1; have h := hJ_.2.2; clear hJ_
   replace h : laws_rSame.l0 l1 (y3 :: ys4) i2 = some o10 := h
   rw [laws_rSame.l0] at h
   refine c_seq ?_
   refine za0 ?_
   refine o_q rfl rfl (q_lss rfl rfl) ?_
   refine o_end ?_
   refine za1 ?_
   refine c_seq ?_
   refine zb1 (congrArg Value.bool hr6.lt) ?_
   refine zao ?_
   refine za1 ?_
   refine c_seq ?_
   refine zaj ?_
   refine c_seq ?_
   refine za0 ?_
   refine o_q rfl rfl (za2 rfl) ?_
   refine o_q rfl rfl (q_asg rfl) ?_
   refine o_end ?_
   refine za1 ?_
   refine c_seq ?_
   refine a_start (ds := []) MO rfl ?_
   refine za9 0 rfl rfl rfl (by kernel_rfl) (fun _ _ _ h => h) (za2 rfl) ?_
   refine za9 1 rfl rfl rfl (by kernel_rfl) (fun _ _ _ h => h) (za2 rfl) ?_
   refine a_fact (p := Sh A0 l0.length l0.length) (fun w h => f_sh (dk := (Kd.int .i64)) h (fun w h => R0.now Z h)) (fun hq13 => ?_)
   refine za9 2 rfl rfl rfl (by kernel_rfl) (fun _ _ _ h => h) (q_ix Try.underlying25 Z3 rfl rfl hq13 hr6.get) ?_
   refine zb0 3 rfl rfl rfl (by kernel_rfl) (fun _ _ _ h => h) (fun w h => h) (q_lde (off := 0) Y3 rfl rfl (fun w h => R0.now Z h) hr6.get (fun _ _ h => h) rfl) ?_
   refine za9 4 rfl rfl rfl (by kernel_rfl) (fun _ _ _ h => h) (za2 rfl) ?_
   refine za9 5 rfl rfl rfl (by kernel_rfl) (fun _ _ _ h => h) (za2 rfl) ?_
   refine a_fact (p := Sh A1 l1.length l1.length) (fun w h => f_sh (dk := (Kd.int .i64)) h (fun w h => R1.now Z h)) (fun hq14 => ?_)
   refine za7 h (fun y16 hg15 h => ?_) rfl
   refine za9 6 rfl rfl rfl (by kernel_rfl) (fun _ _ _ h => h) (q_ix Try.underlying25 Z3 rfl rfl hq14 hg15) ?_
   refine zb0 7 rfl rfl rfl (by kernel_rfl) (fun _ _ _ h => h) (fun w h => h) (q_lde (off := 0) Y3 rfl rfl (fun w h => R1.now Z h) hg15 (fun _ _ h => h) rfl) ?_
   refine za9 8 rfl rfl rfl (by kernel_rfl) (fun _ _ _ h => h) (q_neq rfl rfl) ?_
   refine zav (by kernel_rfl) ?_
   refine za1 ?_
   refine zau _ rfl (fun hb17 => ?_) (fun hb17 => ?_)
   ·skip
    replace h := br_t hb17 h
    refine c_seq ?_
    refine za0 ?_
    refine o_q rfl rfl (q_asg rfl) ?_
    refine o_end ?_
    refine za1 ?_
    refine c_ret ?_
    refine zar ?_
    refine zaa ?_
    refine zaa ?_
    have e_ := Option.some.inj h; replace h := hR8; rw [← e_] at h; clear e_
    refine zar ?_
    refine zaa ?_
    have e0_ := Option.some.inj h; clear h
    subst e0_
    exact x_r1 () Try.results15 (zai rfl) rfl (fun w h => za6 [] (by decide) rfl w h)
   ·skip
    replace h := br_f hb17 h
    refine zao ?_
    refine zal ?_
    refine za1 ?_
    refine za0 ?_
    refine o_q rfl rfl (q_up rfl rfl (hr6.up hm7)) ?_
    refine o_q rfl rfl (za2 rfl) ?_
    refine o_end ?_
    refine zam ys4.length (ys4, i2 + 1) (by rw [← hk12]; exact Nat.lt_succ_self _) ⟨hr6.step, rfl, h⟩ ⟨rfl, trivial⟩ (fun w h => za6 [] (by decide) rfl w h) ?_
    repeat (first | exact zac _ _ | refine zaf rfl ?_ | refine zad rfl ?_ | refine zah rfl ?_)

/-! ### loop.example/g01098/laws.rSamePlan: function 31 -/
def laws_rSamePlan.l0 (l1_1 : List SStep) : (List SStep) → Int → Option ((Bool) ⊕ (Unit))
 | [], i10 => some (.inr ())
 | y11 :: ys12, i10 => (gt l1_1 i10).bind fun y24 => if (y11.f0 == y24.f0 && (y11.f1 == y24.f1 && true)) = true then (laws_rSamePlan.l0 l1_1 ys12 (i10 + 1)) else (some (.inl false))
def laws_rSamePlan.f (a0_0 : Int) (l0_1 : List SStep) (l0_2 : List Int) (a1_0 : Int) (l1_1 : List SStep) (l1_2 : List Int) : Option Bool := if a0_0 ≠ a1_0 then (some false) else (if (l0_1.length : Int) ≠ (l1_1.length : Int) then (some false) else ((laws_rSame.f l0_2 l1_2).bind fun b8 => if b8 = true then ((laws_rSamePlan.l0 l1_1 l0_1 0).bind fun o_ => match o_ with | .inl r_ => some r_ | .inr _ => some true) else (some false)))
set_option maxHeartbeats 600000 in
set_option maxRecDepth 100000 in
theorem laws_rSamePlan.calls {w0 ws : World} {P0 : Nat → Prop} (a0_0 : Int) (A0_1 : Option Addr) (c0_1 : Nat) (n0_1 : Nat) (l0_1 : List SStep) (A0_2 : Option Addr) (c0_2 : Nat) (n0_2 : Nat) (l0_2 : List Int) (a1_0 : Int) (A1_1 : Option Addr) (c1_1 : Nat) (n1_1 : Nat) (l1_1 : List SStep) (A1_2 : Option Addr) (c1_2 : Nat) (n1_2 : Nat) (l1_2 : List Int) (Z : Below w0.heap.size w0 ws) (hF : Fr w0 ws P0 [] ws) (R0_1 : Stable ws P0 (fun w => Kd.C kStep w A0_1 n0_1 l0_1)) (hc0_1 : n0_1 ≤ c0_1) (R0_2 : Stable ws P0 (fun w => Kd.C (Kd.int .i64) w A0_2 n0_2 l0_2)) (hc0_2 : n0_2 ≤ c0_2) (R1_1 : Stable ws P0 (fun w => Kd.C kStep w A1_1 n1_1 l1_1)) (hc1_1 : n1_1 ≤ c1_1) (R1_2 : Stable ws P0 (fun w => Kd.C (Kd.int .i64) w A1_2 n1_2 l1_2)) (hc1_2 : n1_2 ≤ c1_2) (r_1 : Bool) (h : laws_rSamePlan.f a0_0 l0_1 l0_2 a1_0 l1_1 l1_2 = some r_1) :
  Calls Try.prog 31 #[.agg #[.int .i64 a0_0, .slice A0_1 n0_1 c0_1, .slice A0_2 n0_2 c0_2], .agg #[.int .i64 a1_0, .slice A1_1 n1_1 c1_1, .slice A1_2 n1_2 c1_2]] ws (Post1 w0 ws P0 (fun (_ : Unit) => .bool r_1) (fun (_ : Unit) => [])) := by
 unfold laws_rSamePlan.f at h
 obtain rfl := (R0_1 ws (KeptB.refl _ _)).1
 obtain rfl := (R0_2 ws (KeptB.refl _ _)).1
 obtain rfl := (R1_1 ws (KeptB.refl _ _)).1
 obtain rfl := (R1_2 ws (KeptB.refl _ _)).1
 refine enter Try.func31 rfl Try.ntmps31 rfl hF ?_
 refine c_seq ?_
 refine za0 ?_
 refine o_e rfl (e_box rfl) (fun g1 => ?_)
 refine o_e rfl (e_box rfl) (fun g3 => ?_)
 refine o_q rfl rfl (q_asg rfl) ?_
 refine o_end ?_
 refine za1 ?_
 refine c_seq ?_
 refine c_seq ?_
 refine za0 ?_
 refine o_q rfl rfl (q_f F27_0 rfl) ?_
 refine o_q rfl rfl (q_ldb Y3 rfl (fun w h => h.zae (i := 1) rfl) rfl) ?_
 refine o_q rfl rfl (q_f F27_0 rfl) ?_
 refine o_q rfl rfl (q_ldb Y3 rfl (fun w h => h.zae (i := 0) rfl) rfl) ?_
 refine o_q rfl rfl (q_neq rfl rfl) ?_
 refine o_q rfl rfl (za2 rfl) ?_
 refine byB (decide (a0_0 ≠ a1_0)) (fun hb5 => ?_) (fun hb5 => ?_)
 ·replace h := br_t hb5 h
  refine @o_n _ _ _ _ _ _ _ _ _ _ _ 12 (za3 rfl rfl rfl (congrArg Value.bool hb5) rfl) (Eq.refl (some 12)) ?_
  refine @o_n _ _ _ _ _ _ _ _ _ _ _ 13 (za3 rfl rfl rfl (congrArg Value.bool hb5) rfl) (Eq.refl (some 13)) ?_
  refine @o_n _ _ _ _ _ _ _ _ _ _ _ 14 (za3 rfl rfl rfl (congrArg Value.bool hb5) rfl) (Eq.refl (some 14)) ?_
  refine @o_n _ _ _ _ _ _ _ _ _ _ _ 15 (za3 rfl rfl rfl (congrArg Value.bool hb5) rfl) (Eq.refl (some 15)) ?_
  refine @o_n _ _ _ _ _ _ _ _ _ _ _ 16 (za3 rfl rfl rfl (congrArg Value.bool hb5) rfl) (Eq.refl (some 16)) ?_
  refine @o_n _ _ _ _ _ _ _ _ _ _ _ 17 (za3 rfl rfl rfl (congrArg Value.bool hb5) rfl) (Eq.refl (some 17)) ?_
  refine @o_n _ _ _ _ _ _ _ _ _ _ _ 18 (za3 rfl rfl rfl (congrArg Value.bool hb5) rfl) (Eq.refl (some 18)) ?_
  refine o_q rfl rfl (zaq true (congrArg Value.bool hb5) rfl) ?_
  refine o_q rfl rfl (za2 rfl) ?_
  refine @o_n _ _ _ _ _ _ _ _ _ _ _ 21 (za3 rfl rfl rfl rfl rfl) (Eq.refl (some 21)) ?_
  refine @o_n _ _ _ _ _ _ _ _ _ _ _ 22 (za3 rfl rfl rfl rfl rfl) (Eq.refl (some 22)) ?_
  refine @o_n _ _ _ _ _ _ _ _ _ _ _ 23 (za3 rfl rfl rfl rfl rfl) (Eq.refl (some 23)) ?_
  refine @o_n _ _ _ _ _ _ _ _ _ _ _ 24 (za3 rfl rfl rfl rfl rfl) (Eq.refl (some 24)) ?_
  refine @o_n _ _ _ _ _ _ _ _ _ _ _ 25 (za3 rfl rfl rfl rfl rfl) (Eq.refl (some 25)) ?_
  refine @o_n _ _ _ _ _ _ _ _ _ _ _ 26 (za3 rfl rfl rfl rfl rfl) (Eq.refl (some 26)) ?_
  refine o_q rfl rfl (zaq true rfl rfl) ?_
  refine o_end ?_
  refine za1 ?_
  refine zb1 rfl ?_
  refine c_seq ?_
  refine za0 ?_
  refine o_q rfl rfl (q_asg rfl) ?_
  refine o_end ?_
  refine za1 ?_
  refine c_ret ?_
  refine zaa ?_
  have e0_ := Option.some.inj h; clear h
  subst e0_
  exact x_r1 () Try.results31 (zai rfl) rfl (fun w h => za6 [] (by decide) rfl w h)
 ·replace h := br_f hb5 h
  refine o_w (za4 rfl rfl rfl (congrArg Value.bool hb5)) rfl (q_f F27_1 rfl) ?_
  refine o_w (za4 rfl rfl rfl (congrArg Value.bool hb5)) rfl (q_ldb Y24 rfl (fun w h => h.zae (i := 1) rfl) rfl) ?_
  refine o_w (za4 rfl rfl rfl (congrArg Value.bool hb5)) rfl (q_len Try.underlying24 rfl) ?_
  refine o_w (za4 rfl rfl rfl (congrArg Value.bool hb5)) rfl (q_f F27_1 rfl) ?_
  refine o_w (za4 rfl rfl rfl (congrArg Value.bool hb5)) rfl (q_ldb Y24 rfl (fun w h => h.zae (i := 0) rfl) rfl) ?_
  refine o_w (za4 rfl rfl rfl (congrArg Value.bool hb5)) rfl (q_len Try.underlying24 rfl) ?_
  refine o_w (za4 rfl rfl rfl (congrArg Value.bool hb5)) rfl (q_neq rfl rfl) ?_
  refine o_q rfl rfl (zaq false (congrArg Value.bool hb5) rfl) ?_
  refine o_q rfl rfl (za2 rfl) ?_
  refine byB (decide ((l0_1.length : Int) ≠ (l1_1.length : Int))) (fun hb6 => ?_) (fun hb6 => ?_)
  ·replace h := br_t hb6 h
   refine @o_n _ _ _ _ _ _ _ _ _ _ _ 21 (za3 rfl rfl rfl (congrArg Value.bool hb6) rfl) (Eq.refl (some 21)) ?_
   refine @o_n _ _ _ _ _ _ _ _ _ _ _ 22 (za3 rfl rfl rfl (congrArg Value.bool hb6) rfl) (Eq.refl (some 22)) ?_
   refine @o_n _ _ _ _ _ _ _ _ _ _ _ 23 (za3 rfl rfl rfl (congrArg Value.bool hb6) rfl) (Eq.refl (some 23)) ?_
   refine @o_n _ _ _ _ _ _ _ _ _ _ _ 24 (za3 rfl rfl rfl (congrArg Value.bool hb6) rfl) (Eq.refl (some 24)) ?_
   refine @o_n _ _ _ _ _ _ _ _ _ _ _ 25 (za3 rfl rfl rfl (congrArg Value.bool hb6) rfl) (Eq.refl (some 25)) ?_
   refine @o_n _ _ _ _ _ _ _ _ _ _ _ 26 (za3 rfl rfl rfl (congrArg Value.bool hb6) rfl) (Eq.refl (some 26)) ?_
   refine o_q rfl rfl (zaq true (congrArg Value.bool hb6) rfl) ?_
   refine o_end ?_
   refine za1 ?_
   refine zb1 rfl ?_
   refine c_seq ?_
   refine za0 ?_
   refine o_q rfl rfl (q_asg rfl) ?_
   refine o_end ?_
   refine za1 ?_
   refine c_ret ?_
   refine zaa ?_
   have e0_ := Option.some.inj h; clear h
   subst e0_
   exact x_r1 () Try.results31 (zai rfl) rfl (fun w h => za6 [] (by decide) rfl w h)
  ·replace h := br_f hb6 h
   refine o_w (za4 rfl rfl rfl (congrArg Value.bool hb6)) rfl (q_f F27_2 rfl) ?_
   refine o_w (za4 rfl rfl rfl (congrArg Value.bool hb6)) rfl (q_ldb Y25 rfl (fun w h => h.zae (i := 1) rfl) rfl) ?_
   refine o_w (za4 rfl rfl rfl (congrArg Value.bool hb6)) rfl (q_f F27_2 rfl) ?_
   refine o_w (za4 rfl rfl rfl (congrArg Value.bool hb6)) rfl (q_ldb Y25 rfl (fun w h => h.zae (i := 0) rfl) rfl) ?_
   refine za7 h (fun b8 hx7 h => ?_) rfl
   refine o_ew (za4 rfl rfl rfl (congrArg Value.bool hb6)) (zab 0 Z Try.func15 N15 rfl rfl rfl (fun w P1 hF hB hS hT => laws_rSame.calls A0_2 c0_2 l0_2.length l0_2 A1_2 c1_2 l1_2.length l1_2 hB hF (hS _ R0_2) hc0_2 (hS _ R1_2) hc1_2 _ hx7)) (fun _ => ?_)
   refine o_w (za4 rfl rfl rfl (congrArg Value.bool hb6)) rfl (q_not rfl) ?_
   refine o_q rfl rfl (zaq false (congrArg Value.bool hb6) rfl) ?_
   refine o_end ?_
   refine za1 ?_
   refine zau _ rfl (fun hb9 => ?_) (fun hb9 => ?_)
   ·replace hb9 := nt_t hb9
    replace h := bb_f hb9 h
    refine c_seq ?_
    refine za0 ?_
    refine o_q rfl rfl (q_asg rfl) ?_
    refine o_end ?_
    refine za1 ?_
    refine c_ret ?_
    refine zaa ?_
    have e0_ := Option.some.inj h; clear h
    subst e0_
    exact x_r1 () Try.results31 (zai rfl) rfl (fun w h => za6 [] (by decide) rfl w h)
   ·replace hb9 := nt_f hb9
    replace h := bb_t hb9 h
    refine zao ?_
    refine za1 ?_
    refine c_seq ?_
    refine c_seq ?_
    refine za0 ?_
    refine o_q rfl rfl (q_f F27_1 rfl) ?_
    refine o_q rfl rfl (q_ldb Y24 rfl (fun w h => h.zae (i := 1) rfl) rfl) ?_
    refine o_q rfl rfl (q_len Try.underlying24 rfl) ?_
    refine o_q rfl rfl (za2 rfl) ?_
    refine o_end ?_
    refine za1 ?_
    refine zaj ?_
    refine za7 h (fun o18 hl17 hR16 => ?_) rfl
    clear h
    refine zba (p := l0_1.length ≤ 9223372036854775807) (fun w h => (R0_1.now Z h).2.1) (fun hm15 => ?_)
    refine zax (σ := (List SStep) × Int) (fun k13 ((ys12, i10) : (List SStep) × Int) => Rg l0_1 i10 ys12 ∧ ys12.length = k13 ∧ laws_rSamePlan.l0 l1_1 ys12 i10 = some o18) [4, 5, 31, 32, 33, 34, 35, 36, 37, 38, 39, 40, 41, 42, 43, 44, 45] (fun ((ys12, i10) : (List SStep) × Int) => [(31, .int .i64 i10)]) (fun ((ys12, i10) : (List SStep) × Int) => [box g3 27 #[.int .i64 a1_0, .slice A1_1 l1_1.length c1_1, .slice A1_2 l1_2.length c1_2], box g1 27 #[.int .i64 a0_0, .slice A0_1 l0_1.length c0_1, .slice A0_2 l0_2.length c0_2]]) l0_1.length (l0_1, 0) ⟨Rg.start _, rfl, hl17⟩ ⟨rfl, trivial⟩ (fun w h => h) ?_
    refine fun k13 => cur2 (listC (fun i10 U19 hJ_ => ?_) (fun y11 ys12 i10 U19 hJ_ => ?_))
    ·skip
     clear hl17
     have hr14 := hJ_.1; have hk20 := hJ_.2.1; have h := hJ_.2.2; clear hJ_
     replace h : laws_rSamePlan.l0 l1_1 [] i10 = some o18 := h
     rw [laws_rSamePlan.l0] at h
     refine c_seq ?_
     refine za0 ?_
     refine o_q rfl rfl (q_lss rfl rfl) ?_
     refine o_end ?_
     refine za1 ?_
     refine c_seq ?_
     refine zb3 (congrArg Value.bool hr14.ge) ?_
     refine zb4 ?_
     refine za8 ?_
     refine za8 ?_
     have e_ := Option.some.inj h; replace h := hR16; rw [← e_] at h; clear e_
     refine x_hit ?_
     refine za1 ?_
     refine c_seq ?_
     refine za0 ?_
     refine o_q rfl rfl (q_asg rfl) ?_
     refine o_end ?_
     refine za1 ?_
     refine c_ret ?_
     have e0_ := Option.some.inj h; clear h
     subst e0_
     exact x_r1 () Try.results31 (zai rfl) rfl (fun w h => za6 [] (by decide) rfl w h)
    ·skip
     clear hl17
     have hr14 := hJ_.1; have hk20 := hJ_.2.1; have h := hJ_.2.2; clear hJ_
     replace h : laws_rSamePlan.l0 l1_1 (y11 :: ys12) i10 = some o18 := h
     rw [laws_rSamePlan.l0] at h
     refine c_seq ?_
     refine za0 ?_
     refine o_q rfl rfl (q_lss rfl rfl) ?_
     refine o_end ?_
     refine za1 ?_
     refine c_seq ?_
     refine zb1 (congrArg Value.bool hr14.lt) ?_
     refine zao ?_
     refine za1 ?_
     refine c_seq ?_
     refine zaj ?_
     refine c_seq ?_
     refine za0 ?_
     refine o_q rfl rfl (za2 rfl) ?_
     refine o_q rfl rfl (q_asg rfl) ?_
     refine o_end ?_
     refine za1 ?_
     refine c_seq ?_
     refine a_start (ds := []) MO rfl ?_
     refine za9 0 rfl rfl rfl (by kernel_rfl) (fun _ _ _ h => h) (q_f F27_1 rfl) ?_
     refine zb0 1 rfl rfl rfl (by kernel_rfl) (fun _ _ _ h => h) (fun w h => h) (q_ldb Y24 rfl (fun w h => h.zae (i := 1) rfl) rfl) ?_
     refine za9 2 rfl rfl rfl (by kernel_rfl) (fun _ _ _ h => h) (za2 rfl) ?_
     refine a_fact (p := Sh A0_1 l0_1.length l0_1.length) (fun w h => f_sh (dk := kStep) h (fun w h => R0_1.now Z h)) (fun hq21 => ?_)
     refine za9 3 rfl rfl rfl (by kernel_rfl) (fun _ _ _ h => h) (q_ix Try.underlying24 Z88 rfl rfl hq21 hr14.get) ?_
     refine zb0 4 rfl rfl rfl (by kernel_rfl) (fun _ _ _ h => h) (fun w h => h) (q_ldE G88 Z88 rfl rfl (fun w h => R0_1.now Z h) hr14.get (fun _ _ h => h) rfl) ?_
     refine za9 5 rfl rfl rfl (by kernel_rfl) (fun _ _ _ h => h) (q_f F27_1 rfl) ?_
     refine zb0 6 rfl rfl rfl (by kernel_rfl) (fun _ _ _ h => h) (fun w h => h) (q_ldb Y24 rfl (fun w h => h.zae (i := 0) rfl) rfl) ?_
     refine za9 7 rfl rfl rfl (by kernel_rfl) (fun _ _ _ h => h) (za2 rfl) ?_
     refine a_fact (p := Sh A1_1 l1_1.length l1_1.length) (fun w h => f_sh (dk := kStep) h (fun w h => R1_1.now Z h)) (fun hq22 => ?_)
     refine za7 h (fun y24 hg23 h => ?_) rfl
     refine za9 8 rfl rfl rfl (by kernel_rfl) (fun _ _ _ h => h) (q_ix Try.underlying24 Z88 rfl rfl hq22 hg23) ?_
     refine zb0 9 rfl rfl rfl (by kernel_rfl) (fun _ _ _ h => h) (fun w h => h) (q_ldE G88 Z88 rfl rfl (fun w h => R1_1.now Z h) hg23 (fun _ _ h => h) rfl) ?_
     refine za9 10 rfl rfl rfl (by kernel_rfl) (fun _ _ _ h => h) (q_aneq E88 O88 P88 (Q88 y11.f0 y11.f1 y24.f0 y24.f1) rfl rfl) ?_
     refine zav (by kernel_rfl) ?_
     refine za1 ?_
     refine zau _ rfl (fun hb25 => ?_) (fun hb25 => ?_)
     ·replace hb25 := nt_t hb25
      replace h := bb_f hb25 h
      refine c_seq ?_
      refine za0 ?_
      refine o_q rfl rfl (q_asg rfl) ?_
      refine o_end ?_
      refine za1 ?_
      refine c_ret ?_
      refine zar ?_
      refine zaa ?_
      refine zaa ?_
      have e_ := Option.some.inj h; replace h := hR16; rw [← e_] at h; clear e_
      refine zar ?_
      refine zaa ?_
      have e0_ := Option.some.inj h; clear h
      subst e0_
      exact x_r1 () Try.results31 (zai rfl) rfl (fun w h => za6 [] (by decide) rfl w h)
     ·replace hb25 := nt_f hb25
      replace h := bb_t hb25 h
      refine zao ?_
      refine zal ?_
      refine za1 ?_
      refine za0 ?_
      refine o_q rfl rfl (q_up rfl rfl (hr14.up hm15)) ?_
      refine o_q rfl rfl (za2 rfl) ?_
      refine o_end ?_
      refine zam ys12.length (ys12, i10 + 1) (by rw [← hk20]; exact Nat.lt_succ_self _) ⟨hr14.step, rfl, h⟩ ⟨rfl, trivial⟩ (fun w h => za6 [0, 1] (by decide) rfl w h) ?_
      repeat (first | exact zac _ _ | refine zaf rfl ?_ | refine zad rfl ?_ | refine zah rfl ?_)

/-! ### loop.example/g01098/impl.IsRegCode: function 32 -/
def impl_IsRegCode.f (k : Nat) (a0_0 : Int) (l0_1 : List Int) (l0_2 : List SRegOp) (l0_3 : List Int) : Option Bool := (impl_RegCode_plan.f k a0_0 l0_1 l0_2 l0_3).bind fun (i4, l5, l6, b7) => some b7
set_option maxHeartbeats 600000 in
set_option maxRecDepth 100000 in
theorem impl_IsRegCode.calls (k : Nat) {w0 ws : World} {P0 : Nat → Prop} (a0_0 : Int) (A0_1 : Option Addr) (c0_1 : Nat) (n0_1 : Nat) (l0_1 : List Int) (A0_2 : Option Addr) (c0_2 : Nat) (n0_2 : Nat) (l0_2 : List SRegOp) (A0_3 : Option Addr) (c0_3 : Nat) (n0_3 : Nat) (l0_3 : List Int) (Z : Below w0.heap.size w0 ws) (hF : Fr w0 ws P0 [] ws) (R0_1 : Stable ws P0 (fun w => Kd.C (Kd.int .i64) w A0_1 n0_1 l0_1)) (hc0_1 : n0_1 ≤ c0_1) (R0_2 : Stable ws P0 (fun w => Kd.C zb6 w A0_2 n0_2 l0_2)) (hc0_2 : n0_2 ≤ c0_2) (R0_3 : Stable ws P0 (fun w => Kd.C (Kd.int .i64) w A0_3 n0_3 l0_3)) (hc0_3 : n0_3 ≤ c0_3) (r_1 : Bool) (h : impl_IsRegCode.f k a0_0 l0_1 l0_2 l0_3 = some r_1) :
  Calls Try.prog 32 #[.agg #[.int .i64 a0_0, .slice A0_1 n0_1 c0_1, .slice A0_2 n0_2 c0_2, .slice A0_3 n0_3 c0_3]] ws (Post1 w0 ws P0 (fun (_ : Unit) => .bool r_1) (fun (_ : Unit) => [])) := by
 unfold impl_IsRegCode.f at h
 obtain rfl := (R0_1 ws (KeptB.refl _ _)).1
 obtain rfl := (R0_2 ws (KeptB.refl _ _)).1
 obtain rfl := (R0_3 ws (KeptB.refl _ _)).1
 refine enter Try.func32 rfl Try.ntmps32 rfl hF ?_
 refine c_seq ?_
 refine za0 ?_
 refine o_e rfl (e_box rfl) (fun g1 => ?_)
 refine o_q rfl rfl (q_asg rfl) ?_
 refine o_end ?_
 refine za1 ?_
 refine c_seq ?_
 refine za0 ?_
 refine bindE4 h (fun i4 l5 l6 b7 hx3 h => ?_) rfl
 refine o_e rfl (zab 0 Z Try.func88 N88 rfl rfl rfl (fun w P1 hF hB hS hT => impl_RegCode_plan.calls k g1 a0_0 A0_1 c0_1 l0_1.length l0_1 A0_2 c0_2 l0_2.length l0_2 A0_3 c0_3 l0_3.length l0_3 hB hF (hS _ R0_1) hc0_1 (hS _ R0_2) hc0_2 (hS _ R0_3) hc0_3 (hT 0 _ rfl).box _ _ _ _ hx3)) (cur4 (fun A8 c9 A10 c11 => ?_))
 refine o_q rfl rfl (za2 rfl) ?_
 refine o_q rfl rfl (q_ext rfl rfl) ?_
 refine o_q rfl rfl (q_ext rfl rfl) ?_
 refine o_e rfl (zat V27 rfl) (fun g12 => ?_)
 refine o_e rfl (zan (i := 0) rfl rfl rfl Z27 rfl rfl) (fun _ => ?_)
 refine o_q rfl rfl (q_asg rfl) ?_
 refine o_end ?_
 refine za1 ?_
 refine c_seq ?_
 refine za0 ?_
 refine o_q rfl rfl (za2 rfl) ?_
 refine o_q rfl rfl (q_asg rfl) ?_
 refine o_end ?_
 refine za1 ?_
 refine c_ret ?_
 have e0_ := Option.some.inj h; clear h
 subst e0_
 exact x_r1 () Try.results32 (zai rfl) rfl (fun w h => za6 [] (by decide) rfl w h)

/-! ### (*loop.example/g01098/spec.l1Cur).anyPlan: function 64 -/
def spec_l1Cur_anyPlan.l0 : Nat → (List SStep) → Int → Option (List SStep)
 | 0, _, _ => none
 | k1398 + 1, l1392, i1395 => if 0 < i1395 then ((ap l1392 ([(⟨(l1392.length : Int), (l1392.length : Int)⟩ : SStep)] : List SStep)).bind fun l1410 => spec_l1Cur_anyPlan.l0 k1398 l1410 (w64 (i1395 - 1))) else (some l1392)
def spec_l1Cur_anyPlan.l1 (l0_0 : List Int) (i4 : Int) (l5 : List SStep) : Nat → (List Int) → Int → Int → Option (Int × (List SStep) × (List Int) × Int × Int)
 | 0, _, _, _ => none
 | k1425 + 1, l1418, i1421, i1422 => (spec_l1Cur_pick.f l0_0 i1421 i1422 2).bind fun (i1434, i1435, i1436) => if (l1418.length : Int) < w64 (6 + i1434) then ((ap l1418 ([0] : List Int)).bind fun l1441 => spec_l1Cur_anyPlan.l1 l0_0 i4 l5 k1425 l1441 i1435 i1436) else (some (i4, l5, l1418, i1435, i1436))
def spec_l1Cur_anyPlan.l2 : Nat → (List SStep) → Int → Option (List SStep)
 | 0, _, _ => none
 | k1457 + 1, l1451, i1454 => if 0 < i1454 then ((ap l1451 ([(⟨0, w64 (1 + (l1451.length : Int))⟩ : SStep)] : List SStep)).bind fun l1469 => spec_l1Cur_anyPlan.l2 k1457 l1469 (w64 (i1454 - 1))) else (some l1451)
def spec_l1Cur_anyPlan.f (k : Nat) (l0_0 : List Int) (a0_1 : Int) (a0_2 : Int) (a1 : Int) (a2 : Int) : Option (Int × (List SStep) × (List Int) × Int × Int) := (spec_l1Cur_plan.f k l0_0 a0_1 a0_2 a1 a2).bind fun (i4, l5, l6, i7, i8) => ((spec_l1Cur_pick.f l0_0 i7 i8 16).bind fun (i753, i754, i755) => if i753 = 0 then ((spec_l1Cur_among.f l0_0 i754 i755 ([(-1), 0, 1, 6, 7] : List Int)).bind fun (i761, i762, i763) => some (i761, l5, l6, i762, i763)) else (if i753 = 1 then (if 0 < (l5.length : Int) then ((spec_l1Cur_pick.f l0_0 i754 i755 (l5.length : Int)).bind fun (i767, i768, i769) => (spec_l1Cur_pick.f l0_0 i768 i769 5).bind fun (i771, i772, i773) => (spec_l1Cur_pick.f l0_0 i772 i773 8).bind fun (i775, i776, i777) => (gt l5 i767).bind fun y780 => (st l5 i767 (⟨w64 (i771 - 1), i775⟩ : SStep)).bind fun l781 => some (i4, l781, l6, i776, i777)) else (some (i4, l5, l6, i754, i755))) else (if i753 = 2 then ((spec_l1Cur_pick.f l0_0 i754 i755 12).bind fun (i967, i968, i969) => (ap l6 ([w64 (i967 - 1)] : List Int)).bind fun l1146 => some (i4, l5, l1146, i968, i969)) else (if i753 = 3 then ((spec_l1Cur_pick.f l0_0 i754 i755 4).bind fun (i1388, i1389, i1390) => (spec_l1Cur_anyPlan.l0 k ([] : List SStep) (w64 (18 + i1388))).bind fun l1392 => some (1, l1392, ([(l1392.length : Int)] : List Int), i1389, i1390)) else (if i753 = 4 then ((spec_l1Cur_anyPlan.l1 l0_0 i4 l5 k l6 i754 i755)) else (if i753 = 5 then ((spec_l1Cur_pick.f l0_0 i754 i755 2).bind fun (i1447, i1448, i1449) => (spec_l1Cur_anyPlan.l2 k ([] : List SStep) (w64 (40 + i1447))).bind fun l1451 => some (2, l1451, ([5] : List Int), i1448, i1449)) else (some (i4, l5, l6, i754, i755)))))))).bind fun (i738, l739, l742, i745, i746) => some (i738, l739, l742, i745, i746)
set_option maxHeartbeats 600000 in
set_option maxRecDepth 100000 in
theorem spec_l1Cur_anyPlan.calls (k : Nat) {w0 ws : World} {P0 : Nat → Prop} (g0 : Nat) (A0_0 : Option Addr) (c0_0 : Nat) (n0_0 : Nat) (l0_0 : List Int) (a0_1 : Int) (a0_2 : Int) (a1 : Int) (a2 : Int) (Z : Below w0.heap.size w0 ws) (hF : Fr w0 ws P0 [box g0 67 #[.slice A0_0 n0_0 c0_0, .int .i64 a0_1, .int .u64 a0_2]] ws) (R0_0 : Stable ws P0 (fun w => Kd.C (Kd.int .u8) w A0_0 n0_0 l0_0)) (hc0_0 : n0_0 ≤ c0_0) (r_1 : Int) (r_2 : List SStep) (r_5 : List Int) (r_8 : Int) (r_9 : Int) (h : spec_l1Cur_anyPlan.f k l0_0 a0_1 a0_2 a1 a2 = some (r_1, r_2, r_5, r_8, r_9)) :
  Calls Try.prog 64 #[.pointer (some ⟨g0, 0, none⟩), .int .i64 a1, .int .i64 a2] ws (Post1 w0 ws P0 (fun ((q_3, q_4, q_6, q_7) : (Option Addr) × Nat × (Option Addr) × Nat) => .agg #[.int .i64 r_1, .slice q_3 r_2.length q_4, .slice q_6 r_5.length q_7]) (fun ((q_3, q_4, q_6, q_7) : (Option Addr) × Nat × (Option Addr) × Nat) => [row kStep 88 (.slice q_3 r_2.length q_4) r_2, row (Kd.int .i64) 3 (.slice q_6 r_5.length q_7) r_5, box g0 67 #[.slice A0_0 n0_0 c0_0, .int .i64 r_8, .int .u64 r_9]])) := by
 unfold spec_l1Cur_anyPlan.f at h
 obtain rfl := (R0_0 ws (KeptB.refl _ _)).1
 refine enter Try.func64 rfl Try.ntmps64 rfl hF ?_
 refine c_seq ?_
 refine za0 ?_
 refine o_e rfl (zat V27 rfl) (fun g1 => ?_)
 refine o_end ?_
 refine za1 ?_
 refine c_seq ?_
 refine za0 ?_
 refine o_q rfl rfl (za2 rfl) ?_
 refine o_q rfl rfl (za2 rfl) ?_
 refine o_q rfl rfl (za2 rfl) ?_
 refine o_pick [1, 0] (by decide) rfl ?_
 refine bindE5 h (fun i4 l5 l6 i7 i8 hx3 h => ?_) rfl
 refine o_e rfl (zab 1 Z Try.func128 N128 rfl rfl rfl (fun w P1 hF hB hS hT => spec_l1Cur_plan.calls k g0 A0_0 c0_0 l0_0.length l0_0 a0_1 a0_2 a1 a2 hB hF (hS _ R0_0) hc0_0 _ _ _ _ _ hx3)) (cur4 (fun A9 c10 A11 c12 => ?_))
 refine o_e rfl (zat V27 rfl) (fun g13 => ?_)
 refine o_e rfl (zan (i := 0) rfl rfl rfl Z27 rfl rfl) (fun _ => ?_)
 refine o_end ?_
 refine za1 ?_
 refine za7 h (fun o747 hl748 hR749 => ?_) rfl
 clear h
 refine c_cutJ (σ := Int × (List SStep) × (List Int) × Int × Int × (Option Addr) × Nat × (Option Addr) × Nat) (fun (i738, l739, l742, i745, i746, A740, c741, A743, c744) => some (i738, l739, l742, i745, i746) = some o747) [8, 9, 14, 15, 16, 17, 18, 19, 20, 21, 22, 23, 24, 25, 26, 27, 28, 29, 30, 31, 32, 33, 34, 35, 36, 37, 38, 39, 40, 41, 42, 43, 44, 45, 46, 47, 48, 49, 50, 51, 52, 53, 54, 55, 56, 57, 58, 59, 60, 61, 62, 63, 64, 65, 66, 67, 68, 69, 70, 71, 72, 73, 74, 75, 76, 77, 78, 79, 80, 81, 82, 83, 84, 85, 86, 87, 88, 89, 90, 91, 92, 93, 94, 95, 96, 97, 98, 99, 100, 101, 102, 103, 104, 105, 106, 107, 108, 109, 110, 111, 112, 113, 114] (fun (i738, l739, l742, i745, i746, A740, c741, A743, c744) => []) (fun (i738, l739, l742, i745, i746, A740, c741, A743, c744) => [box g1 27 #[.int .i64 0, .slice none 0 0, .slice none 0 0], box g13 27 #[.int .i64 i738, .slice A740 l739.length c741, .slice A743 l742.length c744], row kStep 88 (.slice A740 l739.length c741) l739, row (Kd.int .i64) 3 (.slice A743 l742.length c744) l742, box g0 67 #[.slice A0_0 l0_0.length c0_0, .int .i64 i745, .int .u64 i746]]) ?_ ?_
 ·skip
  have h := hl748; clear hl748
  clear hR749
  refine c_seq ?_
  refine za0 ?_
  refine o_q rfl rfl (za2 rfl) ?_
  refine o_pick [3, 0, 1, 2, 4] (by decide) rfl ?_
  refine bindE3 h (fun i753 i754 i755 hx752 h => ?_) rfl
  refine o_e rfl (zab 1 Z Try.func66 N66 rfl rfl rfl (fun w P1 hF hB hS hT => spec_l1Cur_pick.calls g0 A0_0 c0_0 l0_0.length l0_0 i7 i8 16 hB hF (hS _ R0_0) hc0_0 _ _ _ hx752)) (fun _ => ?_)
  refine o_end ?_
  refine za1 ?_
  refine zaj ?_
  refine c_seq ?_
  refine za0 ?_
  refine o_q rfl rfl (q_eql rfl rfl) ?_
  refine o_q rfl rfl (q_asg rfl) ?_
  refine o_end ?_
  refine za1 ?_
  refine zau _ rfl (fun hb756 => ?_) (fun hb756 => ?_)
  ·skip
   replace h := br_t hb756 h
   refine za0 ?_
   refine o_q rfl rfl (za2 rfl) ?_
   refine o_e rfl (e_lit (vs := [(0, .int .i64 (-1)), (1, .int .i64 0), (2, .int .i64 1), (3, .int .i64 6), (4, .int .i64 7)]) (cs := [.int .i64 (-1), .int .i64 0, .int .i64 1, .int .i64 6, .int .i64 7]) (Kd.int .i64) ([(-1), 0, 1, 6, 7] : List Int) Try.underlying25 I3 (by decide) rfl (by decide) rfl rfl (fun _ _ => Kd.zak _)) (cur2 (fun A757 c758 => ?_))
   refine o_pick [1, 0, 2, 3, 4, 5] (by decide) rfl ?_
   refine bindE3 h (fun i761 i762 i763 hx760 h => ?_) rfl
   refine o_e rfl (zab 1 Z Try.func56 N56 rfl rfl rfl (fun w P1 hF hB hS hT => spec_l1Cur_among.calls g0 A0_0 c0_0 l0_0.length l0_0 i754 i755 A757 c758 (([(-1), 0, 1, 6, 7] : List Int).length) ([(-1), 0, 1, 6, 7] : List Int) hB hF (hS _ R0_0) hc0_0 (hT 0 _ rfl).row (hT 0 _ rfl).cap _ _ _ hx760)) (fun _ => ?_)
   refine o_q rfl rfl (q_f F27_0 rfl) ?_
   refine o_e rfl (zay (i := 2) rfl rfl rfl rfl Z3 rfl rfl) (fun _ => ?_)
   refine o_end ?_
   refine zal ?_
   refine zas (i761, l5, l6, i762, i763, A9, c10, A11, c12) h trivial (fun w h => za6 [5, 2, 3, 4, 0] (by decide) rfl w h) ?_
   repeat (first | exact zac _ _ | refine zaf rfl ?_ | refine zad rfl ?_ | refine zah rfl ?_)
  ·skip
   replace h := br_f hb756 h
   refine c_seq ?_
   refine za0 ?_
   refine o_q rfl rfl (q_eql rfl rfl) ?_
   refine o_q rfl rfl (q_asg rfl) ?_
   refine o_end ?_
   refine za1 ?_
   refine zau _ rfl (fun hb764 => ?_) (fun hb764 => ?_)
   ·skip
    replace h := br_t hb764 h
    refine c_seq ?_
    refine za0 ?_
    refine o_q rfl rfl (q_f F27_1 rfl) ?_
    refine o_q rfl rfl (q_ldb Y24 rfl (fun w h => h.zae (i := 1) rfl) rfl) ?_
    refine o_q rfl rfl (q_len Try.underlying24 rfl) ?_
    refine o_q rfl rfl (q_gtr rfl rfl) ?_
    refine o_end ?_
    refine za1 ?_
    refine zau _ rfl (fun hb765 => ?_) (fun hb765 => ?_)
    ·skip
     replace h := br_t hb765 h
     refine a_startS (ds := []) [none, some 1, none, some 3, some 4] MO rfl ?_
     refine za9 0 rfl rfl rfl (by kernel_rfl) (fun _ _ _ h => h) (q_f F27_1 rfl) ?_
     refine zb0 1 rfl rfl rfl (by kernel_rfl) (fun _ _ _ h => h) (fun w h => za5 [none, some 1, none, some 3, some 4] (by decide) w h rfl) (q_ldb Y24 rfl (fun w h => h.zae (i := 1) rfl) rfl) ?_
     refine za9 2 rfl rfl rfl (by kernel_rfl) (fun _ _ _ h => h) (za2 rfl) ?_
     refine za9 3 rfl rfl rfl (by kernel_rfl) (fun _ _ _ h => h) (q_f F27_1 rfl) ?_
     refine zb0 4 rfl rfl rfl (by kernel_rfl) (fun _ _ _ h => h) (fun w h => za5 [none, some 1, none, some 3, some 4] (by decide) w h rfl) (q_ldb Y24 rfl (fun w h => h.zae (i := 1) rfl) rfl) ?_
     refine za9 5 rfl rfl rfl (by kernel_rfl) (fun _ _ _ h => h) (q_len Try.underlying24 rfl) ?_
     refine za9 7 rfl rfl rfl (by kernel_rfl) (fun _ _ _ h => h) (za2 rfl) ?_
     refine za9 10 rfl rfl rfl (by kernel_rfl) (fun _ _ _ h => h) (za2 rfl) ?_
     refine bindE3 h (fun i767 i768 i769 hx766 h => ?_) rfl
     refine a_one 6 rfl rfl (by kernel_rfl) rfl (zab 1 Z Try.func66 N66 rfl rfl rfl (fun w P1 hF hB hS hT => spec_l1Cur_pick.calls g0 A0_0 c0_0 l0_0.length l0_0 i754 i755 (l5.length : Int) hB hF (hS _ R0_0) hc0_0 _ _ _ hx766)) (fun s w h => za5 [none, some 1, none, some 3, some 4] (by decide) w h rfl) (fun _ => ?_)
     refine bindE3 h (fun i771 i772 i773 hx770 h => ?_) rfl
     refine a_one 8 rfl rfl (by kernel_rfl) rfl (zab 1 Z Try.func66 N66 rfl rfl rfl (fun w P1 hF hB hS hT => spec_l1Cur_pick.calls g0 A0_0 c0_0 l0_0.length l0_0 i768 i769 5 hB hF (hS _ R0_0) hc0_0 _ _ _ hx770)) (fun s w h => za5 [none, some 1, none, some 3, some 4] (by decide) w h rfl) (fun _ => ?_)
     refine za9 9 rfl rfl rfl (by kernel_rfl) (fun _ _ _ h => h) (q_sub64 rfl rfl) ?_
     refine bindE3 h (fun i775 i776 i777 hx774 h => ?_) rfl
     refine a_one 11 rfl rfl (by kernel_rfl) rfl (zab 1 Z Try.func66 N66 rfl rfl rfl (fun w P1 hF hB hS hT => spec_l1Cur_pick.calls g0 A0_0 c0_0 l0_0.length l0_0 i772 i773 8 hB hF (hS _ R0_0) hc0_0 _ _ _ hx774)) (fun s w h => za5 [none, some 1, none, some 3, some 4] (by decide) w h rfl) (fun _ => ?_)
     refine za9 12 rfl rfl rfl (by kernel_rfl) (fun _ _ _ h => h) (zb5 (vs := [(0, .int .i64 (w64 (i771 - 1))), (1, .int .i64 i775)]) (cs := [.int .i64 (w64 (i771 - 1)), .int .i64 i775]) rfl rfl) ?_
     refine a_fact (p := Sh A9 l5.length l5.length) (fun w h => f_sh (dk := kStep) h (fun w h => h.zaw (i := 2) rfl)) (fun hq778 => ?_)
     refine za7 h (fun y780 hg779 h => ?_) rfl
     refine za9 13 rfl rfl rfl (by kernel_rfl) (fun _ _ _ h => h) (q_ix Try.underlying24 Z88 rfl rfl hq778 hg779) ?_
     refine za7 h (fun l781 hs782 h => ?_) rfl
     refine a_one 14 rfl rfl (by kernel_rfl) rfl (e_setF (i := 2) (off := 0) (vs := [.int .i64 (w64 (i771 - 1)), .int .i64 i775]) (q' := (⟨w64 (i771 - 1), i775⟩ : SStep)) rfl rfl rfl rfl rfl rfl Z88 hg779 rfl rfl hs782) (fun s w h => za5 [none, some 1, none, some 3, some 4] (by decide) w h rfl) (fun _ => ?_)
     refine zav (by kernel_rfl) ?_
     refine zal ?_
     refine x_fact (p := l5.length = l781.length) (fun w h => (h.row_C (i := 2) rfl).2.1) (fun hn783 => ?_)
     refine zas (i4, l781, l6, i776, i777, A9, c10, A11, c12) h trivial (f_pickE (L1 := [box g0 67 #[.slice A0_0 l0_0.length c0_0, .int .i64 i776, .int .u64 i777], box g13 27 #[.int .i64 i4, .slice A9 l5.length c10, .slice A11 l6.length c12], row kStep 88 (.slice A9 l5.length c10) l781, row (Kd.int .i64) 3 (.slice A11 l6.length c12) l6, box g1 27 #[.int .i64 0, .slice none 0 0, .slice none 0 0]]) rfl [4, 1, 2, 3, 0] (by decide) rfl (by (try rw [hn783]); first | done | rfl)) ?_
     repeat (first | exact zac _ _ | refine zaf rfl ?_ | refine zad rfl ?_ | refine zah rfl ?_)
    ·skip
     replace h := br_f hb765 h
     refine zao ?_
     refine zal ?_
     refine zas (i4, l5, l6, i754, i755, A9, c10, A11, c12) h trivial (fun w h => za6 [4, 1, 2, 3, 0] (by decide) rfl w h) ?_
     repeat (first | exact zac _ _ | refine zaf rfl ?_ | refine zad rfl ?_ | refine zah rfl ?_)
   ·skip
    replace h := br_f hb764 h
    refine c_seq ?_
    refine za0 ?_
    refine o_q rfl rfl (q_eql rfl rfl) ?_
    refine o_q rfl rfl (q_asg rfl) ?_
    refine o_end ?_
    refine za1 ?_
    refine zau _ rfl (fun hb784 => ?_) (fun hb784 => ?_)
    ·skip
     replace h := br_t hb784 h
     refine bindE3 h (fun i967 i968 i969 hx966 h => ?_) rfl
     refine za7 h (fun l1146 ha1147 h => ?_) rfl
     refine a_startS (ds := []) [none, none, some 2, none, some 4] MO rfl ?_
     refine za9 0 rfl rfl rfl (by kernel_rfl) (fun _ _ _ h => h) (q_f F27_2 rfl) ?_
     refine za9 2 rfl rfl rfl (by kernel_rfl) (fun _ _ _ h => h) (za2 rfl) ?_
     refine a_two 1 3 rfl rfl rfl rfl (by kernel_rfl) rfl rfl (ev_q rfl (q_ldb Y25 rfl (fun w h => h.zae (i := 1) rfl) rfl)) (fun s w h => za5 [none, none, some 2, none, some 4] (by decide) w h rfl) (zab 1 Z Try.func66 N66 rfl rfl rfl (fun w P1 hF hB hS hT => spec_l1Cur_pick.calls g0 A0_0 c0_0 l0_0.length l0_0 i754 i755 12 hB hF (hS _ R0_0) hc0_0 _ _ _ hx966)) (fun s w h => za5 [none, none, some 2, none, some 4] (by decide) w h rfl) (fun _ => ?_) (fun _ => ?_)
     ·skip
      refine a_one 3 rfl rfl (by kernel_rfl) rfl (zab 1 Z Try.func66 N66 rfl rfl rfl (fun w P1 hF hB hS hT => spec_l1Cur_pick.calls g0 A0_0 c0_0 l0_0.length l0_0 i754 i755 12 hB hF (hS _ R0_0) hc0_0 _ _ _ hx966)) (fun s w h => za5 [none, none, some 2, none, some 4] (by decide) w h rfl) (fun _ => ?_)
      refine za9 4 rfl rfl rfl (by kernel_rfl) (fun _ _ _ h => h) (q_sub64 rfl rfl) ?_
      refine a_one 5 rfl rfl (by kernel_rfl) rfl (e_lit (vs := [(0, .int .i64 (w64 (i967 - 1)))]) (cs := [.int .i64 (w64 (i967 - 1))]) (Kd.int .i64) ([w64 (i967 - 1)] : List Int) Try.underlying25 I3 (by decide) rfl (by decide) rfl rfl (fun _ _ => Kd.zak _)) (fun s w h => za5 [none, none, some 3, none, some 5] (by decide) w h rfl) (cur2 (fun A1086 c1087 => ?_))
      refine a_one 6 rfl rfl (by kernel_rfl) rfl (e_app (i := 4) (j := 0) Try.underlying25 I3 rfl (by decide) (by decide) rfl rfl rfl rfl rfl ha1147) (fun s w h => za5 [none, none, some 3, none, some 5] (by decide) w h rfl) (cur2 (fun A1148 c1149 => ?_))
      refine za9 7 rfl rfl rfl (by kernel_rfl) (fun _ _ _ h => h) (q_f F27_2 rfl) ?_
      refine a_one 8 rfl rfl (by kernel_rfl) rfl (zay (i := 2) rfl rfl rfl rfl Z25 rfl rfl) (fun s w h => za5 [none, none, some 3, none, some 5] (by decide) w h rfl) (fun _ => ?_)
      refine zav (by kernel_rfl) ?_
      refine zal ?_
      refine zas (i4, l5, l1146, i968, i969, A9, c10, A1148, c1149) h trivial (fun w h => za6 [5, 2, 3, 4, 1] (by decide) rfl w h) ?_
      repeat (first | exact zac _ _ | refine zaf rfl ?_ | refine zad rfl ?_ | refine zah rfl ?_)
     ·skip
      refine za9 4 rfl rfl rfl (by kernel_rfl) (fun _ _ _ h => h) (q_sub64 rfl rfl) ?_
      refine a_two 1 5 rfl rfl rfl rfl (by kernel_rfl) rfl rfl (ev_q rfl (q_ldb Y25 rfl (fun w h => h.zae (i := 1) rfl) rfl)) (fun s w h => za5 [none, none, some 2, none, some 4] (by decide) w h rfl) (e_lit (vs := [(0, .int .i64 (w64 (i967 - 1)))]) (cs := [.int .i64 (w64 (i967 - 1))]) (Kd.int .i64) ([w64 (i967 - 1)] : List Int) Try.underlying25 I3 (by decide) rfl (by decide) rfl rfl (fun _ _ => Kd.zak _)) (fun s w h => za5 [none, none, some 3, none, some 5] (by decide) w h rfl) (fun _ => ?_) (cur2 (fun A1086 c1087 => ?_))
      ·skip
       refine a_one 5 rfl rfl (by kernel_rfl) rfl (e_lit (vs := [(0, .int .i64 (w64 (i967 - 1)))]) (cs := [.int .i64 (w64 (i967 - 1))]) (Kd.int .i64) ([w64 (i967 - 1)] : List Int) Try.underlying25 I3 (by decide) rfl (by decide) rfl rfl (fun _ _ => Kd.zak _)) (fun s w h => za5 [none, none, some 3, none, some 5] (by decide) w h rfl) (cur2 (fun A1086 c1087 => ?_))
       refine a_one 6 rfl rfl (by kernel_rfl) rfl (e_app (i := 4) (j := 0) Try.underlying25 I3 rfl (by decide) (by decide) rfl rfl rfl rfl rfl ha1147) (fun s w h => za5 [none, none, some 3, none, some 5] (by decide) w h rfl) (cur2 (fun A1148 c1149 => ?_))
       refine za9 7 rfl rfl rfl (by kernel_rfl) (fun _ _ _ h => h) (q_f F27_2 rfl) ?_
       refine a_one 8 rfl rfl (by kernel_rfl) rfl (zay (i := 2) rfl rfl rfl rfl Z25 rfl rfl) (fun s w h => za5 [none, none, some 3, none, some 5] (by decide) w h rfl) (fun _ => ?_)
       refine zav (by kernel_rfl) ?_
       refine zal ?_
       refine zas (i4, l5, l1146, i968, i969, A9, c10, A1148, c1149) h trivial (fun w h => za6 [5, 2, 3, 4, 1] (by decide) rfl w h) ?_
       repeat (first | exact zac _ _ | refine zaf rfl ?_ | refine zad rfl ?_ | refine zah rfl ?_)
      ·skip
       refine a_one 1 rfl rfl (by kernel_rfl) rfl (ev_q rfl (q_ldb Y25 rfl (fun w h => h.zae (i := 2) rfl) rfl)) (fun s w h => za5 [none, none, some 3, none, some 5] (by decide) w h rfl) (fun _ => ?_)
       refine a_one 6 rfl rfl (by kernel_rfl) rfl (e_app (i := 4) (j := 0) Try.underlying25 I3 rfl (by decide) (by decide) rfl rfl rfl rfl rfl ha1147) (fun s w h => za5 [none, none, some 3, none, some 5] (by decide) w h rfl) (cur2 (fun A1148 c1149 => ?_))
       refine za9 7 rfl rfl rfl (by kernel_rfl) (fun _ _ _ h => h) (q_f F27_2 rfl) ?_
       refine a_one 8 rfl rfl (by kernel_rfl) rfl (zay (i := 2) rfl rfl rfl rfl Z25 rfl rfl) (fun s w h => za5 [none, none, some 3, none, some 5] (by decide) w h rfl) (fun _ => ?_)
       refine zav (by kernel_rfl) ?_
       refine zal ?_
       refine zas (i4, l5, l1146, i968, i969, A9, c10, A1148, c1149) h trivial (fun w h => za6 [5, 2, 3, 4, 1] (by decide) rfl w h) ?_
       repeat (first | exact zac _ _ | refine zaf rfl ?_ | refine zad rfl ?_ | refine zah rfl ?_)
    ·skip
     replace h := br_f hb784 h
     refine c_seq ?_
     refine za0 ?_
     refine o_q rfl rfl (q_eql rfl rfl) ?_
     refine o_q rfl rfl (q_asg rfl) ?_
     refine o_end ?_
     refine za1 ?_
     refine zau _ rfl (fun hb1386 => ?_) (fun hb1386 => ?_)
     ·skip
      replace h := br_t hb1386 h
      refine c_seq ?_
      refine za0 ?_
      refine o_q rfl rfl (zb5 (vs := [(0, .int .i64 1)]) (cs := [.int .i64 1, .slice none 0 0, .slice none 0 0]) rfl rfl) ?_
      refine o_e rfl (zan (i := 1) rfl rfl rfl Z27 rfl rfl) (fun _ => ?_)
      refine o_end ?_
      refine za1 ?_
      refine c_seq ?_
      refine c_seq ?_
      refine za0 ?_
      refine o_q rfl rfl (za2 rfl) ?_
      refine bindE3 h (fun i1388 i1389 i1390 hx1387 h => ?_) rfl
      refine o_e rfl (zab 1 Z Try.func66 N66 rfl rfl rfl (fun w P1 hF hB hS hT => spec_l1Cur_pick.calls g0 A0_0 c0_0 l0_0.length l0_0 i754 i755 4 hB hF (hS _ R0_0) hc0_0 _ _ _ hx1387)) (fun _ => ?_)
      refine o_q rfl rfl (zb8 rfl rfl) ?_
      refine o_q rfl rfl (q_asg rfl) ?_
      refine o_end ?_
      refine za1 ?_
      refine zaj ?_
      refine c_nil kStep 88 ?_
      refine za7 h (fun o1403 hl1402 hR1401 => ?_) rfl
      clear h
      refine zax (σ := (List SStep) × Int × (Option Addr) × Nat) (fun k1398 ((l1392, i1395, A1393, c1394) : (List SStep) × Int × (Option Addr) × Nat) => spec_l1Cur_anyPlan.l0 k1398 l1392 i1395 = some o1403) [8, 58, 59, 60, 61, 62, 63, 64, 65, 66, 67, 68, 69, 70, 71, 72, 73] (fun ((l1392, i1395, A1393, c1394) : (List SStep) × Int × (Option Addr) × Nat) => [(8, .int .i64 i1395)]) (fun ((l1392, i1395, A1393, c1394) : (List SStep) × Int × (Option Addr) × Nat) => [row kStep 88 (.slice A1393 l1392.length c1394) l1392, box g0 67 #[.slice A0_0 l0_0.length c0_0, .int .i64 i1389, .int .u64 i1390], box g13 27 #[.int .i64 1, .slice A1393 l1392.length c1394, .slice none 0 0], row kStep 88 (.slice A9 l5.length c10) l5, row (Kd.int .i64) 3 (.slice A11 l6.length c12) l6, box g1 27 #[.int .i64 0, .slice none 0 0, .slice none 0 0]]) k (([] : List SStep), w64 (18 + i1388), none, 0) hl1402 ⟨rfl, trivial⟩ (fun w h => h) ?_
      refine natC (cur4 (fun l1392 i1395 A1393 c1394 => fun U1404 hJ_ => ?_)) (fun k1398 => (cur4 (fun l1392 i1395 A1393 c1394 => fun U1404 hJ_ => ?_)))
      ·skip
       replace hJ_ : spec_l1Cur_anyPlan.l0 0 l1392 i1395 = some o1403 := hJ_
       rw [spec_l1Cur_anyPlan.l0] at hJ_
       exact noneE hJ_
      ·skip
       clear hl1402
       have h := hJ_; clear hJ_
       replace h : spec_l1Cur_anyPlan.l0 (k1398 + 1) l1392 i1395 = some o1403 := h
       rw [spec_l1Cur_anyPlan.l0] at h
       refine c_seq ?_
       refine c_seq ?_
       refine za0 ?_
       refine o_q rfl rfl (za2 rfl) ?_
       refine o_q rfl rfl (q_gtr rfl rfl) ?_
       refine o_end ?_
       refine za1 ?_
       refine zau _ rfl (fun hb1406 => ?_) (fun hb1406 => ?_)
       ·skip
        replace h := br_t hb1406 h
        refine zao ?_
        refine za1 ?_
        refine c_seq ?_
        refine zaj ?_
        refine za0 ?_
        refine o_q rfl rfl (q_f F27_1 rfl) ?_
        refine o_q rfl rfl (q_ldb Y24 rfl (fun w h => h.zae (i := 2) rfl) rfl) ?_
        refine o_q rfl rfl (q_f F27_1 rfl) ?_
        refine o_q rfl rfl (q_ldb Y24 rfl (fun w h => h.zae (i := 2) rfl) rfl) ?_
        refine o_q rfl rfl (q_len Try.underlying24 rfl) ?_
        refine o_q rfl rfl (q_f F27_1 rfl) ?_
        refine o_q rfl rfl (q_ldb Y24 rfl (fun w h => h.zae (i := 2) rfl) rfl) ?_
        refine o_q rfl rfl (q_len Try.underlying24 rfl) ?_
        refine o_q rfl rfl (zb5 (vs := [(0, .int .i64 (l1392.length : Int)), (1, .int .i64 (l1392.length : Int))]) (cs := [.int .i64 (l1392.length : Int), .int .i64 (l1392.length : Int)]) rfl rfl) ?_
        refine o_e rfl (e_lit (vs := [(0, .agg #[.int .i64 (l1392.length : Int), .int .i64 (l1392.length : Int)])]) (cs := [.int .i64 (l1392.length : Int), .int .i64 (l1392.length : Int)]) kStep ([(⟨(l1392.length : Int), (l1392.length : Int)⟩ : SStep)] : List SStep) Try.underlying24 I88 (by decide) rfl (by decide) rfl rfl (fun _ _ => zb9 _)) (cur2 (fun A1407 c1408 => ?_))
        refine za7 h (fun l1410 ha1411 h => ?_) rfl
        refine o_e rfl (e_app (i := 1) (j := 0) Try.underlying24 I88 rfl (by decide) (by decide) rfl rfl rfl rfl rfl ha1411) (cur2 (fun A1412 c1413 => ?_))
        refine o_q rfl rfl (q_f F27_1 rfl) ?_
        refine o_e rfl (zay (i := 3) rfl rfl rfl rfl Z24 rfl rfl) (fun _ => ?_)
        refine o_end ?_
        refine zal ?_
        refine za1 ?_
        refine za0 ?_
        refine o_q rfl rfl (za2 rfl) ?_
        refine o_q rfl rfl (q_sub64 rfl rfl) ?_
        refine o_q rfl rfl (q_asg rfl) ?_
        refine o_end ?_
        refine zam k1398 (l1410, w64 (i1395 - 1), A1412, c1413) (Nat.lt_succ_self _) h ⟨rfl, trivial⟩ (fun w h => za6 [1, 2, 3, 4, 5, 6] (by decide) rfl w h) ?_
        repeat (first | exact zac _ _ | refine zaf rfl ?_ | refine zad rfl ?_ | refine zah rfl ?_)
       ·skip
        replace h := br_f hb1406 h
        refine zb4 ?_
        refine za8 ?_
        refine za8 ?_
        have e_ := Option.some.inj h; replace h := hR1401; rw [← e_] at h; clear e_
        refine x_hit ?_
        refine za1 ?_
        refine za0 ?_
        refine o_q rfl rfl (q_f F27_1 rfl) ?_
        refine o_q rfl rfl (q_ldb Y24 rfl (fun w h => h.zae (i := 2) rfl) rfl) ?_
        refine o_q rfl rfl (q_len Try.underlying24 rfl) ?_
        refine o_e rfl (e_lit (vs := [(0, .int .i64 (l1392.length : Int))]) (cs := [.int .i64 (l1392.length : Int)]) (Kd.int .i64) ([(l1392.length : Int)] : List Int) Try.underlying25 I3 (by decide) rfl (by decide) rfl rfl (fun _ _ => Kd.zak _)) (cur2 (fun A1414 c1415 => ?_))
        refine o_q rfl rfl (q_f F27_2 rfl) ?_
        refine o_e rfl (zay (i := 3) rfl rfl rfl rfl Z25 rfl rfl) (fun _ => ?_)
        refine o_end ?_
        refine zal ?_
        refine zas (1, l1392, ([(l1392.length : Int)] : List Int), i1389, i1390, A1393, c1394, A1414, c1415) h trivial (fun w h => za6 [6, 3, 1, 0, 2] (by decide) rfl w h) ?_
        repeat (first | exact zac _ _ | refine zaf rfl ?_ | refine zad rfl ?_ | refine zah rfl ?_)
     ·skip
      replace h := br_f hb1386 h
      refine c_seq ?_
      refine za0 ?_
      refine o_q rfl rfl (q_eql rfl rfl) ?_
      refine o_q rfl rfl (q_asg rfl) ?_
      refine o_end ?_
      refine za1 ?_
      refine zau _ rfl (fun hb1417 => ?_) (fun hb1417 => ?_)
      ·skip
       replace h := br_t hb1417 h
       refine zaj ?_
       have hl1429 := h; clear h
       refine zax (σ := (List Int) × Int × Int × (Option Addr) × Nat) (fun k1425 ((l1418, i1421, i1422, A1419, c1420) : (List Int) × Int × Int × (Option Addr) × Nat) => spec_l1Cur_anyPlan.l1 l0_0 i4 l5 k1425 l1418 i1421 i1422 = some o747) [81, 82, 83, 84, 85, 86, 87, 88, 89, 90, 91, 92] (fun ((l1418, i1421, i1422, A1419, c1420) : (List Int) × Int × Int × (Option Addr) × Nat) => []) (fun ((l1418, i1421, i1422, A1419, c1420) : (List Int) × Int × Int × (Option Addr) × Nat) => [box g0 67 #[.slice A0_0 l0_0.length c0_0, .int .i64 i1421, .int .u64 i1422], box g13 27 #[.int .i64 i4, .slice A9 l5.length c10, .slice A1419 l1418.length c1420], row kStep 88 (.slice A9 l5.length c10) l5, row (Kd.int .i64) 3 (.slice A1419 l1418.length c1420) l1418, box g1 27 #[.int .i64 0, .slice none 0 0, .slice none 0 0]]) k (l6, i754, i755, A11, c12) hl1429 trivial (fun w h => h) ?_
       refine natC (cur5 (fun l1418 i1421 i1422 A1419 c1420 => fun U1431 hJ_ => ?_)) (fun k1425 => (cur5 (fun l1418 i1421 i1422 A1419 c1420 => fun U1431 hJ_ => ?_)))
       ·skip
        replace hJ_ : spec_l1Cur_anyPlan.l1 l0_0 i4 l5 0 l1418 i1421 i1422 = some o747 := hJ_
        rw [spec_l1Cur_anyPlan.l1] at hJ_
        exact noneE hJ_
       ·skip
        clear hl1429
        have h := hJ_; clear hJ_
        replace h : spec_l1Cur_anyPlan.l1 l0_0 i4 l5 (k1425 + 1) l1418 i1421 i1422 = some o747 := h
        rw [spec_l1Cur_anyPlan.l1] at h
        refine c_seq ?_
        refine c_seq ?_
        refine a_startS (ds := []) [none, some 1, some 2, some 3, some 4] MO rfl ?_
        refine za9 0 rfl rfl rfl (by kernel_rfl) (fun _ _ _ h => h) (q_f F27_2 rfl) ?_
        refine zb0 1 rfl rfl rfl (by kernel_rfl) (fun _ _ _ h => h) (fun w h => za5 [none, some 1, some 2, some 3, some 4] (by decide) w h rfl) (q_ldb Y25 rfl (fun w h => h.zae (i := 1) rfl) rfl) ?_
        refine za9 2 rfl rfl rfl (by kernel_rfl) (fun _ _ _ h => h) (q_len Try.underlying25 rfl) ?_
        refine za9 3 rfl rfl rfl (by kernel_rfl) (fun _ _ _ h => h) (za2 rfl) ?_
        refine bindE3 h (fun i1434 i1435 i1436 hx1433 h => ?_) rfl
        refine a_one 4 rfl rfl (by kernel_rfl) rfl (zab 1 Z Try.func66 N66 rfl rfl rfl (fun w P1 hF hB hS hT => spec_l1Cur_pick.calls g0 A0_0 c0_0 l0_0.length l0_0 i1421 i1422 2 hB hF (hS _ R0_0) hc0_0 _ _ _ hx1433)) (fun s w h => za5 [none, some 1, some 2, some 3, some 4] (by decide) w h rfl) (fun _ => ?_)
        refine za9 5 rfl rfl rfl (by kernel_rfl) (fun _ _ _ h => h) (zb8 rfl rfl) ?_
        refine za9 6 rfl rfl rfl (by kernel_rfl) (fun _ _ _ h => h) (q_lss rfl rfl) ?_
        refine zav (by kernel_rfl) ?_
        refine za1 ?_
        refine zau _ rfl (fun hb1437 => ?_) (fun hb1437 => ?_)
        ·skip
         replace h := br_t hb1437 h
         refine zao ?_
         refine za1 ?_
         refine zaj ?_
         refine za0 ?_
         refine o_q rfl rfl (q_f F27_2 rfl) ?_
         refine o_q rfl rfl (q_ldb Y25 rfl (fun w h => h.zae (i := 1) rfl) rfl) ?_
         refine o_e rfl (e_lit (vs := [(0, .int .i64 0)]) (cs := [.int .i64 0]) (Kd.int .i64) ([0] : List Int) Try.underlying25 I3 (by decide) rfl (by decide) rfl rfl (fun _ _ => Kd.zak _)) (cur2 (fun A1438 c1439 => ?_))
         refine za7 h (fun l1441 ha1442 h => ?_) rfl
         refine o_e rfl (e_app (i := 4) (j := 0) Try.underlying25 I3 rfl (by decide) (by decide) rfl rfl rfl rfl rfl ha1442) (cur2 (fun A1443 c1444 => ?_))
         refine o_q rfl rfl (q_f F27_2 rfl) ?_
         refine o_e rfl (zay (i := 2) rfl rfl rfl rfl Z25 rfl rfl) (fun _ => ?_)
         refine o_end ?_
         refine zal ?_
         refine zam k1425 (l1441, i1435, i1436, A1443, c1444) (Nat.lt_succ_self _) h trivial (fun w h => za6 [1, 2, 3, 4, 5] (by decide) rfl w h) ?_
         repeat (first | exact zac _ _ | refine zaf rfl ?_ | refine zad rfl ?_ | refine zah rfl ?_)
        ·skip
         replace h := br_f hb1437 h
         refine zb4 ?_
         refine za8 ?_
         refine za8 ?_
         refine x_hit ?_
         refine zal ?_
         refine zas (i4, l5, l1418, i1435, i1436, A9, c10, A1419, c1420) h trivial (fun w h => za6 [4, 1, 2, 3, 0] (by decide) rfl w h) ?_
         repeat (first | exact zac _ _ | refine zaf rfl ?_ | refine zad rfl ?_ | refine zah rfl ?_)
      ·skip
       replace h := br_f hb1417 h
       refine c_seq ?_
       refine za0 ?_
       refine o_q rfl rfl (q_eql rfl rfl) ?_
       refine o_q rfl rfl (q_asg rfl) ?_
       refine o_end ?_
       refine za1 ?_
       refine zau _ rfl (fun hb1445 => ?_) (fun hb1445 => ?_)
       ·skip
        replace h := br_t hb1445 h
        refine c_seq ?_
        refine za0 ?_
        refine o_q rfl rfl (zb5 (vs := [(0, .int .i64 2)]) (cs := [.int .i64 2, .slice none 0 0, .slice none 0 0]) rfl rfl) ?_
        refine o_e rfl (zan (i := 1) rfl rfl rfl Z27 rfl rfl) (fun _ => ?_)
        refine o_end ?_
        refine za1 ?_
        refine c_seq ?_
        refine c_seq ?_
        refine za0 ?_
        refine o_q rfl rfl (za2 rfl) ?_
        refine bindE3 h (fun i1447 i1448 i1449 hx1446 h => ?_) rfl
        refine o_e rfl (zab 1 Z Try.func66 N66 rfl rfl rfl (fun w P1 hF hB hS hT => spec_l1Cur_pick.calls g0 A0_0 c0_0 l0_0.length l0_0 i754 i755 2 hB hF (hS _ R0_0) hc0_0 _ _ _ hx1446)) (fun _ => ?_)
        refine o_q rfl rfl (zb8 rfl rfl) ?_
        refine o_q rfl rfl (q_asg rfl) ?_
        refine o_end ?_
        refine za1 ?_
        refine zaj ?_
        refine c_nil kStep 88 ?_
        refine za7 h (fun o1462 hl1461 hR1460 => ?_) rfl
        clear h
        refine zax (σ := (List SStep) × Int × (Option Addr) × Nat) (fun k1457 ((l1451, i1454, A1452, c1453) : (List SStep) × Int × (Option Addr) × Nat) => spec_l1Cur_anyPlan.l2 k1457 l1451 i1454 = some o1462) [9, 99, 100, 101, 102, 103, 104, 105, 106, 107, 108, 109, 110, 111, 112] (fun ((l1451, i1454, A1452, c1453) : (List SStep) × Int × (Option Addr) × Nat) => [(9, .int .i64 i1454)]) (fun ((l1451, i1454, A1452, c1453) : (List SStep) × Int × (Option Addr) × Nat) => [row kStep 88 (.slice A1452 l1451.length c1453) l1451, box g0 67 #[.slice A0_0 l0_0.length c0_0, .int .i64 i1448, .int .u64 i1449], box g13 27 #[.int .i64 2, .slice A1452 l1451.length c1453, .slice none 0 0], row kStep 88 (.slice A9 l5.length c10) l5, row (Kd.int .i64) 3 (.slice A11 l6.length c12) l6, box g1 27 #[.int .i64 0, .slice none 0 0, .slice none 0 0]]) k (([] : List SStep), w64 (40 + i1447), none, 0) hl1461 ⟨rfl, trivial⟩ (fun w h => h) ?_
        refine natC (cur4 (fun l1451 i1454 A1452 c1453 => fun U1463 hJ_ => ?_)) (fun k1457 => (cur4 (fun l1451 i1454 A1452 c1453 => fun U1463 hJ_ => ?_)))
        ·skip
         replace hJ_ : spec_l1Cur_anyPlan.l2 0 l1451 i1454 = some o1462 := hJ_
         rw [spec_l1Cur_anyPlan.l2] at hJ_
         exact noneE hJ_
        ·skip
         clear hl1461
         have h := hJ_; clear hJ_
         replace h : spec_l1Cur_anyPlan.l2 (k1457 + 1) l1451 i1454 = some o1462 := h
         rw [spec_l1Cur_anyPlan.l2] at h
         refine c_seq ?_
         refine c_seq ?_
         refine za0 ?_
         refine o_q rfl rfl (za2 rfl) ?_
         refine o_q rfl rfl (q_gtr rfl rfl) ?_
         refine o_end ?_
         refine za1 ?_
         refine zau _ rfl (fun hb1465 => ?_) (fun hb1465 => ?_)
         ·skip
          replace h := br_t hb1465 h
          refine zao ?_
          refine za1 ?_
          refine c_seq ?_
          refine zaj ?_
          refine za0 ?_
          refine o_q rfl rfl (q_f F27_1 rfl) ?_
          refine o_q rfl rfl (q_ldb Y24 rfl (fun w h => h.zae (i := 2) rfl) rfl) ?_
          refine o_q rfl rfl (q_f F27_1 rfl) ?_
          refine o_q rfl rfl (q_ldb Y24 rfl (fun w h => h.zae (i := 2) rfl) rfl) ?_
          refine o_q rfl rfl (q_len Try.underlying24 rfl) ?_
          refine o_q rfl rfl (zb8 rfl rfl) ?_
          refine o_q rfl rfl (zb5 (vs := [(0, .int .i64 0), (1, .int .i64 (w64 (1 + (l1451.length : Int))))]) (cs := [.int .i64 0, .int .i64 (w64 (1 + (l1451.length : Int)))]) rfl rfl) ?_
          refine o_e rfl (e_lit (vs := [(0, .agg #[.int .i64 0, .int .i64 (w64 (1 + (l1451.length : Int)))])]) (cs := [.int .i64 0, .int .i64 (w64 (1 + (l1451.length : Int)))]) kStep ([(⟨0, w64 (1 + (l1451.length : Int))⟩ : SStep)] : List SStep) Try.underlying24 I88 (by decide) rfl (by decide) rfl rfl (fun _ _ => zb9 _)) (cur2 (fun A1466 c1467 => ?_))
          refine za7 h (fun l1469 ha1470 h => ?_) rfl
          refine o_e rfl (e_app (i := 1) (j := 0) Try.underlying24 I88 rfl (by decide) (by decide) rfl rfl rfl rfl rfl ha1470) (cur2 (fun A1471 c1472 => ?_))
          refine o_q rfl rfl (q_f F27_1 rfl) ?_
          refine o_e rfl (zay (i := 3) rfl rfl rfl rfl Z24 rfl rfl) (fun _ => ?_)
          refine o_end ?_
          refine zal ?_
          refine za1 ?_
          refine za0 ?_
          refine o_q rfl rfl (za2 rfl) ?_
          refine o_q rfl rfl (q_sub64 rfl rfl) ?_
          refine o_q rfl rfl (q_asg rfl) ?_
          refine o_end ?_
          refine zam k1457 (l1469, w64 (i1454 - 1), A1471, c1472) (Nat.lt_succ_self _) h ⟨rfl, trivial⟩ (fun w h => za6 [1, 2, 3, 4, 5, 6] (by decide) rfl w h) ?_
          repeat (first | exact zac _ _ | refine zaf rfl ?_ | refine zad rfl ?_ | refine zah rfl ?_)
         ·skip
          replace h := br_f hb1465 h
          refine zb4 ?_
          refine za8 ?_
          refine za8 ?_
          have e_ := Option.some.inj h; replace h := hR1460; rw [← e_] at h; clear e_
          refine x_hit ?_
          refine za1 ?_
          refine za0 ?_
          refine o_e rfl (e_lit (vs := [(0, .int .i64 5)]) (cs := [.int .i64 5]) (Kd.int .i64) ([5] : List Int) Try.underlying25 I3 (by decide) rfl (by decide) rfl rfl (fun _ _ => Kd.zak _)) (cur2 (fun A1473 c1474 => ?_))
          refine o_q rfl rfl (q_f F27_2 rfl) ?_
          refine o_e rfl (zay (i := 3) rfl rfl rfl rfl Z25 rfl rfl) (fun _ => ?_)
          refine o_end ?_
          refine zal ?_
          refine zas (2, l1451, ([5] : List Int), i1448, i1449, A1452, c1453, A1473, c1474) h trivial (fun w h => za6 [6, 3, 1, 0, 2] (by decide) rfl w h) ?_
          repeat (first | exact zac _ _ | refine zaf rfl ?_ | refine zad rfl ?_ | refine zah rfl ?_)
       ·skip
        replace h := br_f hb1445 h
        refine zao ?_
        refine zal ?_
        refine zas (i4, l5, l6, i754, i755, A9, c10, A11, c12) h trivial (fun w h => za6 [4, 1, 2, 3, 0] (by decide) rfl w h) ?_
        repeat (first | exact zac _ _ | refine zaf rfl ?_ | refine zad rfl ?_ | refine zah rfl ?_)
 ·skip
  refine (cur9 (fun i738 l739 l742 i745 i746 A740 c741 A743 c744 => fun U750 hJ751 => ?_))
  have e_ := Option.some.inj hJ751; have h := hR749; rw [← e_] at h; clear e_ hJ751 hR749 hl748
  refine c_seq ?_
  refine za0 ?_
  refine o_q rfl rfl (q_ldB G27 Z27 rfl (fun w h => h.zae (i := 1) rfl) rfl) ?_
  refine o_e rfl (zan (i := 0) rfl rfl rfl Z27 rfl rfl) (fun _ => ?_)
  refine o_end ?_
  refine za1 ?_
  refine c_ret ?_
  have e0_ := Option.some.inj h; clear h
  have d0_ := (Prod.mk.inj e0_).1; have e1_ := (Prod.mk.inj e0_).2; clear e0_; subst d0_
  have d1_ := (Prod.mk.inj e1_).1; have e2_ := (Prod.mk.inj e1_).2; clear e1_; subst d1_
  have d2_ := (Prod.mk.inj e2_).1; have e3_ := (Prod.mk.inj e2_).2; clear e2_; subst d2_
  have d3_ := (Prod.mk.inj e3_).1; have e4_ := (Prod.mk.inj e3_).2; clear e3_; subst d3_
  subst e4_
  exact x_r1 (A740, c741, A743, c744) Try.results64 (rv_cell rfl G27 Z27 (fun w h => h.zae (i := 0) rfl) rfl) rfl (fun w h => za6 [2, 3, 4] (by decide) rfl w h)

/-! ### loop.example/g01098/spec.DrawCheckRegCode: function 39 -/
def spec_DrawCheckRegCode.f (k : Nat) (l0 : List Int) : Option (Int × (List Int) × (List SRegOp) × (List Int) × Int × (List SStep) × (List Int)) := (spec_l1Cur_code9.f k l0 0 0).bind fun (i8, l9, l10, l11, i12, i13) => (spec_rePlan.f k i8 l9 l10 l11).bind fun (i23, l24, l25, b26) => (if b26 = true then ((spec_l1Cur_one.f l0 i12 i13 3).bind fun (b48, i49, i50) => some (i49, i50, b48)) else (some (i12, i13, true))).bind fun (i38, i39, b40) => if b40 = true then ((spec_l1Cur_inputs.f l0 i38 i39).bind fun (i53, i54, i55) => (spec_l1Cur_anyPlan.f k l0 i54 i55 i53 5).bind fun (i57, l58, l59, i60, i61) => some (i8, l9, l10, l11, i57, l58, l59)) else (some (i8, l9, l10, l11, i23, l24, l25))
set_option maxHeartbeats 600000 in
set_option maxRecDepth 100000 in
theorem spec_DrawCheckRegCode.calls (k : Nat) {w0 ws : World} {P0 : Nat → Prop} (A0 : Option Addr) (c0 : Nat) (n0 : Nat) (l0 : List Int) (Z : Below w0.heap.size w0 ws) (hF : Fr w0 ws P0 [] ws) (R0 : Stable ws P0 (fun w => Kd.C (Kd.int .u8) w A0 n0 l0)) (hc0 : n0 ≤ c0) (r_1 : Int) (r_2 : List Int) (r_5 : List SRegOp) (r_8 : List Int) (r_11 : Int) (r_12 : List SStep) (r_15 : List Int) (h : spec_DrawCheckRegCode.f k l0 = some (r_1, r_2, r_5, r_8, r_11, r_12, r_15)) :
  Calls Try.prog 39 #[.slice A0 n0 c0] ws (Post1 w0 ws P0 (fun ((q_3, q_4, q_6, q_7, q_9, q_10, q_13, q_14, q_16, q_17) : (Option Addr) × Nat × (Option Addr) × Nat × (Option Addr) × Nat × (Option Addr) × Nat × (Option Addr) × Nat) => .tuple #[.agg #[.int .i64 r_1, .slice q_3 r_2.length q_4, .slice q_6 r_5.length q_7, .slice q_9 r_8.length q_10], .agg #[.int .i64 r_11, .slice q_13 r_12.length q_14, .slice q_16 r_15.length q_17]]) (fun ((q_3, q_4, q_6, q_7, q_9, q_10, q_13, q_14, q_16, q_17) : (Option Addr) × Nat × (Option Addr) × Nat × (Option Addr) × Nat × (Option Addr) × Nat × (Option Addr) × Nat) => [row (Kd.int .i64) 3 (.slice q_3 r_2.length q_4) r_2, row zb6 94 (.slice q_6 r_5.length q_7) r_5, row (Kd.int .i64) 3 (.slice q_9 r_8.length q_10) r_8, row kStep 88 (.slice q_13 r_12.length q_14) r_12, row (Kd.int .i64) 3 (.slice q_16 r_15.length q_17) r_15])) := by
 unfold spec_DrawCheckRegCode.f at h
 obtain rfl := (R0 ws (KeptB.refl _ _)).1
 refine enter Try.func39 rfl Try.ntmps39 rfl hF ?_
 refine c_seq ?_
 refine za0 ?_
 refine o_e rfl (zat V43 rfl) (fun g1 => ?_)
 refine o_e rfl (zat V27 rfl) (fun g3 => ?_)
 refine o_end ?_
 refine za1 ?_
 refine c_seq ?_
 refine za0 ?_
 refine o_q rfl rfl (za2 rfl) ?_
 refine o_q rfl rfl (zb5 (vs := [(0, .slice A0 l0.length c0)]) (cs := [.slice A0 l0.length c0, .int .i64 0, .int .u64 0]) rfl rfl) ?_
 refine o_e rfl (e_box rfl) (fun g5 => ?_)
 refine o_q rfl rfl (q_asg rfl) ?_
 refine o_end ?_
 refine za1 ?_
 refine c_seq ?_
 refine za0 ?_
 refine o_q rfl rfl (za2 rfl) ?_
 refine bindE6 h (fun i8 l9 l10 l11 i12 i13 hx7 h => ?_) rfl
 refine o_e rfl (zab 1 Z Try.func94 N94 rfl rfl rfl (fun w P1 hF hB hS hT => spec_l1Cur_code9.calls k g5 A0 c0 l0.length l0 0 0 hB hF (hS _ R0) hc0 _ _ _ _ _ _ hx7)) (cur6 (fun A14 c15 A16 c17 A18 c19 => ?_))
 refine o_e rfl (zat V43 rfl) (fun g20 => ?_)
 refine o_e rfl (zan (i := 0) rfl rfl rfl Z43 rfl rfl) (fun _ => ?_)
 refine o_end ?_
 refine za1 ?_
 refine c_seq ?_
 refine za0 ?_
 refine o_q rfl rfl (q_ldB G43 Z43 rfl (fun w h => h.zae (i := 0) rfl) rfl) ?_
 refine bindE4 h (fun i23 l24 l25 b26 hx22 h => ?_) rfl
 refine o_e rfl (zab 0 Z Try.func101 N101 rfl rfl rfl (fun w P1 hF hB hS hT => spec_rePlan.calls k i8 A14 c15 l9.length l9 A16 c17 l10.length l10 A18 c19 l11.length l11 hB hF (hT 1 _ rfl).row (hT 1 _ rfl).cap (hT 2 _ rfl).row (hT 2 _ rfl).cap (hT 3 _ rfl).row (hT 3 _ rfl).cap _ _ _ _ hx22)) (cur4 (fun A27 c28 A29 c30 => ?_))
 refine o_q rfl rfl (za2 rfl) ?_
 refine o_q rfl rfl (q_ext rfl rfl) ?_
 refine o_q rfl rfl (q_ext rfl rfl) ?_
 refine o_e rfl (zat V27 rfl) (fun g31 => ?_)
 refine o_e rfl (zan (i := 0) rfl rfl rfl Z27 rfl rfl) (fun _ => ?_)
 refine o_q rfl rfl (q_asg rfl) ?_
 refine o_end ?_
 refine za1 ?_
 refine c_seq ?_
 refine za7 h (fun o41 hl42 hR43 => ?_) rfl
 clear h
 refine c_cutJ (σ := Int × Int × Bool) (fun (i38, i39, b40) => some (i38, i39, b40) = some o41) [18, 19, 20, 21, 22, 23] (fun (i38, i39, b40) => [(23, .bool b40)]) (fun (i38, i39, b40) => [box g1 43 #[.int .i64 0, .slice none 0 0, .slice none 0 0, .slice none 0 0], box g3 27 #[.int .i64 0, .slice none 0 0, .slice none 0 0], box g5 67 #[.slice A0 l0.length c0, .int .i64 i38, .int .u64 i39], box g20 43 #[.int .i64 i8, .slice A14 l9.length c15, .slice A16 l10.length c17, .slice A18 l11.length c19], row (Kd.int .i64) 3 (.slice A14 l9.length c15) l9, row zb6 94 (.slice A16 l10.length c17) l10, row (Kd.int .i64) 3 (.slice A18 l11.length c19) l11, box g31 27 #[.int .i64 i23, .slice A27 l24.length c28, .slice A29 l25.length c30], row kStep 88 (.slice A27 l24.length c28) l24, row (Kd.int .i64) 3 (.slice A29 l25.length c30) l25]) ?_ ?_
 ·skip
  have h := hl42; clear hl42
  clear hR43
  refine za0 ?_
  refine o_q rfl rfl (za2 rfl) ?_
  refine o_q rfl rfl (q_not rfl) ?_
  refine o_q rfl rfl (za2 rfl) ?_
  refine byB b26 (fun hb46 => ?_) (fun hb46 => ?_)
  ·replace h := bb_t hb46 h
   refine o_w (za4 rfl rfl rfl (congrArg (fun b => Value.bool (!(b))) hb46)) rfl (za2 rfl) ?_
   refine o_pick [7, 0, 1, 2, 3, 4, 5, 6, 8, 9] (by decide) rfl ?_
   refine bindE3 h (fun b48 i49 i50 hx47 h => ?_) rfl
   refine o_ew (za4 rfl rfl rfl (congrArg (fun b => Value.bool (!(b))) hb46)) (zab 1 Z Try.func102 N102 rfl rfl rfl (fun w P1 hF hB hS hT => spec_l1Cur_one.calls g5 A0 c0 l0.length l0 i12 i13 3 hB hF (hS _ R0) hc0 _ _ _ hx47)) (fun _ => ?_)
   refine o_q rfl rfl (zaq false (congrArg (fun b => Value.bool (!(b))) hb46) rfl) ?_
   refine o_end ?_
   refine zas (i49, i50, b48) h ⟨rfl, trivial⟩ (fun w h => za6 [9, 8, 0, 4, 5, 6, 7, 1, 2, 3] (by decide) rfl w h) ?_
   repeat (first | exact zac _ _ | refine zaf rfl ?_ | refine zad rfl ?_ | refine zah rfl ?_)
  ·replace h := bb_f hb46 h
   refine @o_n _ _ _ _ _ _ _ _ _ _ _ 21 (za3 rfl rfl rfl (congrArg (fun b => Value.bool (!(b))) hb46) rfl) (Eq.refl (some 21)) ?_
   refine @o_n _ _ _ _ _ _ _ _ _ _ _ 22 (za3 rfl rfl rfl (congrArg (fun b => Value.bool (!(b))) hb46) rfl) (Eq.refl (some 22)) ?_
   refine o_q rfl rfl (zaq true (congrArg (fun b => Value.bool (!(b))) hb46) rfl) ?_
   refine o_end ?_
   refine zas (i12, i13, true) h ⟨rfl, trivial⟩ (fun w h => za6 [9, 8, 7, 3, 4, 5, 6, 0, 1, 2] (by decide) rfl w h) ?_
   repeat (first | exact zac _ _ | refine zaf rfl ?_ | refine zad rfl ?_ | refine zah rfl ?_)
 ·skip
  refine (cur3 (fun i38 i39 b40 => fun U44 hJ45 => ?_))
  have e_ := Option.some.inj hJ45; have h := hR43; rw [← e_] at h; clear e_ hJ45 hR43 hl42
  refine zau _ rfl (fun hb51 => ?_) (fun hb51 => ?_)
  ·skip
   replace h := bb_t hb51 h
   refine c_seq ?_
   refine a_startS (ds := []) [none, none, none, some 3, some 4, some 5, some 6, some 7, some 8, some 9] MO rfl ?_
   refine zb0 0 rfl rfl rfl (by kernel_rfl) (fun _ _ _ h => h) (fun w h => za5 [none, none, none, some 3, some 4, some 5, some 6, some 7, some 8, some 9] (by decide) w h rfl) (q_ldB G43 Z43 rfl (fun w h => h.zae (i := 3) rfl) rfl) ?_
   refine za9 1 rfl rfl rfl (by kernel_rfl) (fun _ _ _ h => h) (za2 rfl) ?_
   refine za9 2 rfl rfl rfl (by kernel_rfl) (fun _ _ _ h => h) (za2 rfl) ?_
   refine a_pick [2, 0, 1, 3, 4, 5, 6, 7, 8, 9] (by decide) rfl ?_
   refine bindE3 h (fun i53 i54 i55 hx52 h => ?_) rfl
   refine a_one 3 rfl rfl (by kernel_rfl) rfl (zab 1 Z Try.func65 N65 rfl rfl rfl (fun w P1 hF hB hS hT => spec_l1Cur_inputs.calls g5 A0 c0 l0.length l0 i38 i39 hB hF (hS _ R0) hc0 _ _ _ hx52)) (fun s w h => za5 [none, none, none, some 3, some 4, some 5, some 6, some 7, some 8, some 9] (by decide) w h rfl) (fun _ => ?_)
   refine bindE5 h (fun i57 l58 l59 i60 i61 hx56 h => ?_) rfl
   refine a_one 4 rfl rfl (by kernel_rfl) rfl (zab 1 Z Try.func64 N64 rfl rfl rfl (fun w P1 hF hB hS hT => spec_l1Cur_anyPlan.calls k g5 A0 c0 l0.length l0 i54 i55 i53 5 hB hF (hS _ R0) hc0 _ _ _ _ _ hx56)) (fun s w h => za5 [none, none, none, some 5, some 6, some 7, some 8, some 9, some 10, some 11] (by decide) w h rfl) (cur4 (fun A62 c63 A64 c65 => ?_))
   refine a_one 5 rfl rfl (by kernel_rfl) rfl (zan (i := 3) rfl rfl rfl Z43 rfl rfl) (fun s w h => za5 [none, none, none, some 5, some 6, some 7, some 8, some 9, some 10, some 11] (by decide) w h rfl) (fun _ => ?_)
   refine a_one 6 rfl rfl (by kernel_rfl) rfl (zan (i := 4) rfl rfl rfl Z27 rfl rfl) (fun s w h => za5 [none, none, none, some 5, some 6, some 7, some 8, some 9, some 10, some 11] (by decide) w h rfl) (fun _ => ?_)
   refine zav (by kernel_rfl) ?_
   refine za1 ?_
   refine c_ret ?_
   refine zaa ?_
   have e0_ := Option.some.inj h; clear h
   have d0_ := (Prod.mk.inj e0_).1; have e1_ := (Prod.mk.inj e0_).2; clear e0_; subst d0_
   have d1_ := (Prod.mk.inj e1_).1; have e2_ := (Prod.mk.inj e1_).2; clear e1_; subst d1_
   have d2_ := (Prod.mk.inj e2_).1; have e3_ := (Prod.mk.inj e2_).2; clear e2_; subst d2_
   have d3_ := (Prod.mk.inj e3_).1; have e4_ := (Prod.mk.inj e3_).2; clear e3_; subst d3_
   have d4_ := (Prod.mk.inj e4_).1; have e5_ := (Prod.mk.inj e4_).2; clear e4_; subst d4_
   have d5_ := (Prod.mk.inj e5_).1; have e6_ := (Prod.mk.inj e5_).2; clear e5_; subst d5_
   subst e6_
   exact x_r2 (A14, c15, A16, c17, A18, c19, A62, c63, A64, c65) Try.results39 (rv_cell rfl G43 Z43 (fun w h => h.zae (i := 3) rfl) rfl) (rv_cell rfl G27 Z27 (fun w h => h.zae (i := 4) rfl) rfl) rfl (fun w h => za6 [6, 7, 8, 0, 1] (by decide) rfl w h)
  ·skip
   replace h := bb_f hb51 h
   refine zao ?_
   refine za1 ?_
   refine c_seq ?_
   refine a_startS (ds := []) [none, none, some 2, some 3, some 4, some 5, some 6, some 7, some 8, some 9] MO rfl ?_
   refine zb0 0 rfl rfl rfl (by kernel_rfl) (fun _ _ _ h => h) (fun w h => za5 [none, none, some 2, some 3, some 4, some 5, some 6, some 7, some 8, some 9] (by decide) w h rfl) (q_ldB G43 Z43 rfl (fun w h => h.zae (i := 3) rfl) rfl) ?_
   refine zb0 1 rfl rfl rfl (by kernel_rfl) (fun _ _ _ h => h) (fun w h => za5 [none, none, some 2, some 3, some 4, some 5, some 6, some 7, some 8, some 9] (by decide) w h rfl) (q_ldB G27 Z27 rfl (fun w h => h.zae (i := 7) rfl) rfl) ?_
   refine a_one 2 rfl rfl (by kernel_rfl) rfl (zan (i := 0) rfl rfl rfl Z43 rfl rfl) (fun s w h => za5 [none, none, some 2, some 3, some 4, some 5, some 6, some 7, some 8, some 9] (by decide) w h rfl) (fun _ => ?_)
   refine a_one 3 rfl rfl (by kernel_rfl) rfl (zan (i := 1) rfl rfl rfl Z27 rfl rfl) (fun s w h => za5 [none, none, some 2, some 3, some 4, some 5, some 6, some 7, some 8, some 9] (by decide) w h rfl) (fun _ => ?_)
   refine zav (by kernel_rfl) ?_
   refine za1 ?_
   refine c_ret ?_
   have e0_ := Option.some.inj h; clear h
   have d0_ := (Prod.mk.inj e0_).1; have e1_ := (Prod.mk.inj e0_).2; clear e0_; subst d0_
   have d1_ := (Prod.mk.inj e1_).1; have e2_ := (Prod.mk.inj e1_).2; clear e1_; subst d1_
   have d2_ := (Prod.mk.inj e2_).1; have e3_ := (Prod.mk.inj e2_).2; clear e2_; subst d2_
   have d3_ := (Prod.mk.inj e3_).1; have e4_ := (Prod.mk.inj e3_).2; clear e3_; subst d3_
   have d4_ := (Prod.mk.inj e4_).1; have e5_ := (Prod.mk.inj e4_).2; clear e4_; subst d4_
   have d5_ := (Prod.mk.inj e5_).1; have e6_ := (Prod.mk.inj e5_).2; clear e5_; subst d5_
   subst e6_
   exact x_r2 (A14, c15, A16, c17, A18, c19, A27, c28, A29, c30) Try.results39 (rv_cell rfl G43 Z43 (fun w h => h.zae (i := 0) rfl) rfl) (rv_cell rfl G27 Z27 (fun w h => h.zae (i := 1) rfl) rfl) rfl (fun w h => za6 [4, 5, 6, 8, 9] (by decide) rfl w h)

/-! ### (*loop.example/g01098/impl.Plan).outputExponents: function 145 -/
def impl_Plan_outputExponents.l0 (l2 : List (List Int)) : (List Int) → (List (List Int)) → Int → Option (List (List Int))
 | [], l9, i13 => some l9
 | y14 :: ys15, l9, i13 => (gt l2 y14).bind fun y27 => (slices_Clone_int_int.f y27).bind fun l30 => (ap l9 ([l30] : List (List Int))).bind fun l37 => impl_Plan_outputExponents.l0 l2 ys15 l37 (i13 + 1)
def impl_Plan_outputExponents.f (a0_0 : Int) (l0_1 : List SStep) (l0_2 : List Int) : Option (List (List Int)) := (impl_Plan_exponents.f a0_0 l0_1 l0_2).bind fun l2 => (impl_Plan_outputExponents.l0 l2 l0_2 ([] : List (List Int)) 0).bind fun l9 => some l9
set_option maxHeartbeats 600000 in
set_option maxRecDepth 100000 in
theorem impl_Plan_outputExponents.calls {w0 ws : World} {P0 : Nat → Prop} (g0 : Nat) (a0_0 : Int) (A0_1 : Option Addr) (c0_1 : Nat) (n0_1 : Nat) (l0_1 : List SStep) (A0_2 : Option Addr) (c0_2 : Nat) (n0_2 : Nat) (l0_2 : List Int) (Z : Below w0.heap.size w0 ws) (hF : Fr w0 ws P0 [] ws) (R0_1 : Stable ws P0 (fun w => Kd.C kStep w A0_1 n0_1 l0_1)) (hc0_1 : n0_1 ≤ c0_1) (R0_2 : Stable ws P0 (fun w => Kd.C (Kd.int .i64) w A0_2 n0_2 l0_2)) (hc0_2 : n0_2 ≤ c0_2) (B0 : Stable ws P0 (fun w => w.heap[g0]? = some (.cells #[.int .i64 a0_0, .slice A0_1 n0_1 c0_1, .slice A0_2 n0_2 c0_2] 27 (0, 0)))) (r_1 : List (List Int)) (h : impl_Plan_outputExponents.f a0_0 l0_1 l0_2 = some r_1) :
  Calls Try.prog 145 #[.pointer (some ⟨g0, 0, none⟩)] ws (Post1 w0 ws P0 (fun ((q_2, q_3, q_4) : (Option Addr) × Nat × Hd) => .slice q_2 r_1.length q_3) (fun ((q_2, q_3, q_4) : (Option Addr) × Nat × Hd) => [row (gk 3 (Kd.int .i64)) 25 (.slice q_2 r_1.length q_3) (zp q_4 r_1)])) := by
 unfold impl_Plan_outputExponents.f at h
 obtain rfl := (R0_1 ws (KeptB.refl _ _)).1
 obtain rfl := (R0_2 ws (KeptB.refl _ _)).1
 refine enter Try.func145 rfl Try.ntmps145 rfl hF ?_
 refine c_seq ?_
 refine za0 ?_
 refine o_q rfl rfl (q_asg rfl) ?_
 refine o_end ?_
 refine za1 ?_
 refine c_seq ?_
 refine za0 ?_
 refine o_q rfl rfl (za2 rfl) ?_
 refine za7 h (fun l2 hx1 h => ?_) rfl
 refine o_e rfl (zab 0 Z Try.func132 N132 rfl rfl rfl (fun w P1 hF hB hS hT => impl_Plan_exponents.calls g0 a0_0 A0_1 c0_1 l0_1.length l0_1 A0_2 c0_2 l0_2.length l0_2 hB hF (hS _ R0_1) hc0_1 (hS _ R0_2) hc0_2 (hS _ B0) _ hx1)) (cur3 (fun A3 c4 H5 => ?_))
 refine o_e rfl (e_lit0 (gk 3 (Kd.int .i64)) Try.underlying73 I25) (cur2 (fun A6 c7 => ?_))
 refine o_q rfl rfl (q_asg rfl) ?_
 refine o_q rfl rfl (q_asg rfl) ?_
 refine o_end ?_
 refine za1 ?_
 refine c_seq ?_
 refine c_seq ?_
 refine za0 ?_
 refine o_q rfl rfl (za2 rfl) ?_
 refine o_q rfl rfl (q_nil rfl) ?_
 refine o_q rfl rfl (q_f F27_2 rfl) ?_
 refine o_q rfl rfl (q_ldb Y25 rfl (fun w h => B0.now Z h) rfl) ?_
 refine o_q rfl rfl (q_len Try.underlying25 rfl) ?_
 refine o_q rfl rfl (za2 rfl) ?_
 refine o_end ?_
 refine za1 ?_
 refine zaj ?_
 refine za7 h (fun o21 hl20 hR19 => ?_) rfl
 clear h
 refine zba (p := l0_2.length ≤ 9223372036854775807) (fun w h => (R0_2.now Z h).2.1) (fun hm18 => ?_)
 refine zax (σ := (List Int) × (List (List Int)) × Int × (Option Addr) × Nat × Hd) (fun k16 ((ys15, l9, i13, A10, c11, H12) : (List Int) × (List (List Int)) × Int × (Option Addr) × Nat × Hd) => Rg l0_2 i13 ys15 ∧ ys15.length = k16 ∧ impl_Plan_outputExponents.l0 l2 ys15 l9 i13 = some o21) [4, 6, 15, 16, 17, 18, 19, 20, 21, 22, 23, 24, 25, 26, 27] (fun ((ys15, l9, i13, A10, c11, H12) : (List Int) × (List (List Int)) × Int × (Option Addr) × Nat × Hd) => [(4, .slice A10 l9.length c11), (15, .int .i64 i13)]) (fun ((ys15, l9, i13, A10, c11, H12) : (List Int) × (List (List Int)) × Int × (Option Addr) × Nat × Hd) => [row (gk 3 (Kd.int .i64)) 25 (.slice A10 l9.length c11) (zp H12 l9), row (gk 3 (Kd.int .i64)) 25 (.slice A3 l2.length c4) (zp H5 l2)]) l0_2.length (l0_2, ([] : List (List Int)), 0, A6, c7, ([] : Hd)) ⟨Rg.start _, rfl, hl20⟩ ⟨rfl, rfl, trivial⟩ (fun w h => h) ?_
 refine fun k16 => cur6 (listC (fun l9 i13 A10 c11 H12 U22 hJ_ => ?_) (fun y14 ys15 l9 i13 A10 c11 H12 U22 hJ_ => ?_))
 ·skip
  clear hl20
  have hr17 := hJ_.1; have hk23 := hJ_.2.1; have h := hJ_.2.2; clear hJ_
  replace h : impl_Plan_outputExponents.l0 l2 [] l9 i13 = some o21 := h
  rw [impl_Plan_outputExponents.l0] at h
  refine c_seq ?_
  refine za0 ?_
  refine o_q rfl rfl (q_lss rfl rfl) ?_
  refine o_end ?_
  refine za1 ?_
  refine c_seq ?_
  refine zb3 (congrArg Value.bool hr17.ge) ?_
  refine zb4 ?_
  refine za8 ?_
  refine za8 ?_
  have e_ := Option.some.inj h; replace h := hR19; rw [← e_] at h; clear e_
  refine x_hit ?_
  refine za1 ?_
  refine c_seq ?_
  refine za0 ?_
  refine o_q rfl rfl (za2 rfl) ?_
  refine o_q rfl rfl (q_asg rfl) ?_
  refine o_end ?_
  refine za1 ?_
  refine c_ret ?_
  have e0_ := Option.some.inj h; clear h
  subst e0_
  exact x_r1 (A10, c11, H12) Try.results145 (zai rfl) rfl (fun w h => za6 [0] (by decide) rfl w h)
 ·skip
  clear hl20
  have hr17 := hJ_.1; have hk23 := hJ_.2.1; have h := hJ_.2.2; clear hJ_
  replace h : impl_Plan_outputExponents.l0 l2 (y14 :: ys15) l9 i13 = some o21 := h
  rw [impl_Plan_outputExponents.l0] at h
  refine c_seq ?_
  refine za0 ?_
  refine o_q rfl rfl (q_lss rfl rfl) ?_
  refine o_end ?_
  refine za1 ?_
  refine c_seq ?_
  refine zb1 (congrArg Value.bool hr17.lt) ?_
  refine zao ?_
  refine za1 ?_
  refine c_seq ?_
  refine zaj ?_
  refine c_seq ?_
  refine za0 ?_
  refine zaz (p := Sh A0_2 l0_2.length l0_2.length) (fun w h => f_sh (dk := (Kd.int .i64)) h (fun w h => R0_2.now Z h)) (fun hq24 => ?_)
  refine o_q rfl rfl (q_ix Try.underlying25 Z3 rfl rfl hq24 hr17.get) ?_
  refine o_q rfl rfl (q_lde (off := 0) Y3 rfl rfl (fun w h => R0_2.now Z h) hr17.get (fun _ _ h => h) rfl) ?_
  refine o_q rfl rfl (q_asg rfl) ?_
  refine o_end ?_
  refine za1 ?_
  refine za0 ?_
  refine o_q rfl rfl (za2 rfl) ?_
  refine o_q rfl rfl (za2 rfl) ?_
  refine o_q rfl rfl (za2 rfl) ?_
  refine zaz (p := Sh A3 l2.length (zp H5 l2).length) (fun w h => f_sh (dk := (gk 3 (Kd.int .i64))) h (fun w h => h.zaw (i := 1) rfl)) (fun hq25 => ?_)
  refine za7 h (fun y27 hg26 h => ?_) rfl
  refine o_q rfl rfl (q_ix Try.underlying73 Z25 rfl rfl hq25 (gt_zp hg26)) ?_
  refine zaz (p := y27.length ≤ hC H5 y14) (fun w h => (K_in (h.zaw (i := 1) rfl) hg26).1) (fun hc28 => ?_)
  refine o_q rfl rfl (q_lde (off := 0) Y25 rfl rfl (fun w h => h.zaw (i := 1) rfl) (gt_zp hg26) (fun _ _ h => h.1) rfl) ?_
  refine za7 h (fun l30 hx29 h => ?_) rfl
  refine o_e rfl (zab 0 Z Try.func137 N137 rfl rfl rfl (fun w P1 hF hB hS hT => slices_Clone_int_int.calls (hA H5 y14) (hC H5 y14) y27.length y27 hB hF (stab_in (hT 1 _ rfl).row hg26) hc28 _ hx29)) (cur2 (fun A31 c32 => ?_))
  refine o_e rfl (e_litG (j := 0) (ue := 3) (dk := (Kd.int .i64)) (ys := l30) Try.underlying73 I25 rfl rfl rfl) (cur3 (fun A33 c34 H36 => ?_))
  refine za7 h (fun l37 ha38 h => ?_) rfl
  refine o_e rfl (e_appG (i := 2) (j := 0) Try.underlying73 I25 rfl (by decide) rfl rfl rfl rfl rfl ha38) (cur3 (fun A39 c40 H41 => ?_))
  refine o_q rfl rfl (q_asg rfl) ?_
  refine o_end ?_
  refine zal ?_
  refine za1 ?_
  refine za0 ?_
  refine o_q rfl rfl (q_up rfl rfl (hr17.up hm18)) ?_
  refine o_q rfl rfl (za2 rfl) ?_
  refine o_end ?_
  refine zam ys15.length (ys15, l37, i13 + 1, A39, c40, H41) (by rw [← hk23]; exact Nat.lt_succ_self _) ⟨hr17.step, rfl, h⟩ ⟨rfl, rfl, trivial⟩ (fun w h => za6 [2, 3] (by decide) rfl w h) ?_
  repeat (first | exact zac _ _ | refine zaf rfl ?_ | refine zad rfl ?_ | refine zah rfl ?_)

/-! ### slices.Equal[[]int,int]: function 138 -/
def slices_Equal_int_int.l0 (l1 : List Int) : (List Int) → Int → Option ((Bool) ⊕ (Unit))
 | [], i2 => some (.inr ())
 | y3 :: ys4, i2 => (gt l1 i2).bind fun y16 => if y3 ≠ y16 then (some (.inl false)) else (slices_Equal_int_int.l0 l1 ys4 (i2 + 1))
def slices_Equal_int_int.f (l0 : List Int) (l1 : List Int) : Option Bool := if (l0.length : Int) ≠ (l1.length : Int) then (some false) else ((slices_Equal_int_int.l0 l1 l0 0).bind fun o_ => match o_ with | .inl r_ => some r_ | .inr _ => some true)
set_option maxHeartbeats 600000 in
set_option maxRecDepth 100000 in
theorem slices_Equal_int_int.calls {w0 ws : World} {P0 : Nat → Prop} (A0 : Option Addr) (c0 : Nat) (n0 : Nat) (l0 : List Int) (A1 : Option Addr) (c1 : Nat) (n1 : Nat) (l1 : List Int) (Z : Below w0.heap.size w0 ws) (hF : Fr w0 ws P0 [] ws) (R0 : Stable ws P0 (fun w => Kd.C (Kd.int .i64) w A0 n0 l0)) (hc0 : n0 ≤ c0) (R1 : Stable ws P0 (fun w => Kd.C (Kd.int .i64) w A1 n1 l1)) (hc1 : n1 ≤ c1) (r_1 : Bool) (h : slices_Equal_int_int.f l0 l1 = some r_1) :
  Calls Try.prog 138 #[.slice A0 n0 c0, .slice A1 n1 c1] ws (Post1 w0 ws P0 (fun (_ : Unit) => .bool r_1) (fun (_ : Unit) => [])) := by
 unfold slices_Equal_int_int.f at h
 obtain rfl := (R0 ws (KeptB.refl _ _)).1
 obtain rfl := (R1 ws (KeptB.refl _ _)).1
 refine enter Try.func138 rfl Try.ntmps138 rfl hF ?_
 refine c_seq ?_
 refine za0 ?_
 refine o_q rfl rfl (q_asg rfl) ?_
 refine o_end ?_
 refine za1 ?_
 refine c_seq ?_
 refine c_seq ?_
 refine za0 ?_
 refine o_q rfl rfl (za2 rfl) ?_
 refine o_q rfl rfl (q_len Try.underlying25 rfl) ?_
 refine o_q rfl rfl (za2 rfl) ?_
 refine o_q rfl rfl (q_len Try.underlying25 rfl) ?_
 refine o_q rfl rfl (q_neq rfl rfl) ?_
 refine o_end ?_
 refine za1 ?_
 refine zau _ rfl (fun hb1 => ?_) (fun hb1 => ?_)
 ·skip
  replace h := br_t hb1 h
  refine c_seq ?_
  refine za0 ?_
  refine o_q rfl rfl (q_asg rfl) ?_
  refine o_end ?_
  refine za1 ?_
  refine c_ret ?_
  refine zaa ?_
  have e0_ := Option.some.inj h; clear h
  subst e0_
  exact x_r1 () Try.results138 (zai rfl) rfl (fun w h => za6 [] (by decide) rfl w h)
 ·skip
  replace h := br_f hb1 h
  refine zao ?_
  refine za1 ?_
  refine c_seq ?_
  refine c_seq ?_
  refine za0 ?_
  refine o_q rfl rfl (za2 rfl) ?_
  refine o_q rfl rfl (q_len Try.underlying25 rfl) ?_
  refine o_q rfl rfl (za2 rfl) ?_
  refine o_end ?_
  refine za1 ?_
  refine zaj ?_
  refine za7 h (fun o10 hl9 hR8 => ?_) rfl
  clear h
  refine zba (p := l0.length ≤ 9223372036854775807) (fun w h => (R0.now Z h).2.1) (fun hm7 => ?_)
  refine zax (σ := (List Int) × Int) (fun k5 ((ys4, i2) : (List Int) × Int) => Rg l0 i2 ys4 ∧ ys4.length = k5 ∧ slices_Equal_int_int.l0 l1 ys4 i2 = some o10) [4, 5, 13, 14, 15, 16, 17, 18, 19, 20, 21, 22, 23, 24, 25] (fun ((ys4, i2) : (List Int) × Int) => [(13, .int .i64 i2)]) (fun ((ys4, i2) : (List Int) × Int) => []) l0.length (l0, 0) ⟨Rg.start _, rfl, hl9⟩ ⟨rfl, trivial⟩ (fun w h => h) ?_
  refine fun k5 => cur2 (listC (fun i2 U11 hJ_ => ?_) (fun y3 ys4 i2 U11 hJ_ => ?_))
  ·skip
   clear hl9
   have hr6 := hJ_.1; have hk12 := hJ_.2.1; have h := hJ_.2.2; clear hJ_
   replace h : slices_Equal_int_int.l0 l1 [] i2 = some o10 := h
   rw [slices_Equal_int_int.l0] at h
   refine c_seq ?_
   refine za0 ?_
   refine o_q rfl rfl (q_lss rfl rfl) ?_
   refine o_end ?_
   refine za1 ?_
   refine c_seq ?_
   refine zb3 (congrArg Value.bool hr6.ge) ?_
   refine zb4 ?_
   refine za8 ?_
   refine za8 ?_
   have e_ := Option.some.inj h; replace h := hR8; rw [← e_] at h; clear e_
   refine x_hit ?_
   refine za1 ?_
   refine c_seq ?_
   refine za0 ?_
   refine o_q rfl rfl (q_asg rfl) ?_
   refine o_end ?_
   refine za1 ?_
   refine c_ret ?_
   have e0_ := Option.some.inj h; clear h
   subst e0_
   exact x_r1 () Try.results138 (zai rfl) rfl (fun w h => za6 [] (by decide) rfl w h)
  ·skip
   clear hl9
   have hr6 := hJ_.1; have hk12 := hJ_.2.1; have h := hJ_.2.2; clear hJ_
   replace h : slices_Equal_int_int.l0 l1 (y3 :: ys4) i2 = some o10 := h
   rw [slices_Equal_int_int.l0] at h
   refine c_seq ?_
   refine za0 ?_
   refine o_q rfl rfl (q_lss rfl rfl) ?_
   refine o_end ?_
   refine za1 ?_
   refine c_seq ?_
   refine zb1 (congrArg Value.bool hr6.lt) ?_
   refine zao ?_
   refine za1 ?_
   refine c_seq ?_
   refine zaj ?_
   refine c_seq ?_
   refine za0 ?_
   refine o_q rfl rfl (za2 rfl) ?_
   refine o_q rfl rfl (q_asg rfl) ?_
   refine o_end ?_
   refine za1 ?_
   refine c_seq ?_
   refine a_start (ds := []) MO rfl ?_
   refine za9 0 rfl rfl rfl (by kernel_rfl) (fun _ _ _ h => h) (za2 rfl) ?_
   refine za9 1 rfl rfl rfl (by kernel_rfl) (fun _ _ _ h => h) (za2 rfl) ?_
   refine a_fact (p := Sh A0 l0.length l0.length) (fun w h => f_sh (dk := (Kd.int .i64)) h (fun w h => R0.now Z h)) (fun hq13 => ?_)
   refine za9 2 rfl rfl rfl (by kernel_rfl) (fun _ _ _ h => h) (q_ix Try.underlying25 Z3 rfl rfl hq13 hr6.get) ?_
   refine zb0 3 rfl rfl rfl (by kernel_rfl) (fun _ _ _ h => h) (fun w h => h) (q_lde (off := 0) Y3 rfl rfl (fun w h => R0.now Z h) hr6.get (fun _ _ h => h) rfl) ?_
   refine za9 4 rfl rfl rfl (by kernel_rfl) (fun _ _ _ h => h) (za2 rfl) ?_
   refine za9 5 rfl rfl rfl (by kernel_rfl) (fun _ _ _ h => h) (za2 rfl) ?_
   refine a_fact (p := Sh A1 l1.length l1.length) (fun w h => f_sh (dk := (Kd.int .i64)) h (fun w h => R1.now Z h)) (fun hq14 => ?_)
   refine za7 h (fun y16 hg15 h => ?_) rfl
   refine za9 6 rfl rfl rfl (by kernel_rfl) (fun _ _ _ h => h) (q_ix Try.underlying25 Z3 rfl rfl hq14 hg15) ?_
   refine zb0 7 rfl rfl rfl (by kernel_rfl) (fun _ _ _ h => h) (fun w h => h) (q_lde (off := 0) Y3 rfl rfl (fun w h => R1.now Z h) hg15 (fun _ _ h => h) rfl) ?_
   refine za9 8 rfl rfl rfl (by kernel_rfl) (fun _ _ _ h => h) (q_neq rfl rfl) ?_
   refine zav (by kernel_rfl) ?_
   refine za1 ?_
   refine zau _ rfl (fun hb17 => ?_) (fun hb17 => ?_)
   ·skip
    replace h := br_t hb17 h
    refine c_seq ?_
    refine za0 ?_
    refine o_q rfl rfl (q_asg rfl) ?_
    refine o_end ?_
    refine za1 ?_
    refine c_ret ?_
    refine zar ?_
    refine zaa ?_
    refine zaa ?_
    have e_ := Option.some.inj h; replace h := hR8; rw [← e_] at h; clear e_
    refine zar ?_
    refine zaa ?_
    have e0_ := Option.some.inj h; clear h
    subst e0_
    exact x_r1 () Try.results138 (zai rfl) rfl (fun w h => za6 [] (by decide) rfl w h)
   ·skip
    replace h := br_f hb17 h
    refine zao ?_
    refine zal ?_
    refine za1 ?_
    refine za0 ?_
    refine o_q rfl rfl (q_up rfl rfl (hr6.up hm7)) ?_
    refine o_q rfl rfl (za2 rfl) ?_
    refine o_end ?_
    refine zam ys4.length (ys4, i2 + 1) (by rw [← hk12]; exact Nat.lt_succ_self _) ⟨hr6.step, rfl, h⟩ ⟨rfl, trivial⟩ (fun w h => za6 [] (by decide) rfl w h) ?_
    repeat (first | exact zac _ _ | refine zaf rfl ?_ | refine zad rfl ?_ | refine zah rfl ?_)

/-! ### slices.EqualFunc[[][]int,[][]int,[]int,[]int]: function 144 -/
def slices_EqualFunc_int_int_int_int.l0 (l1 : List (List Int)) : (List (List Int)) → Int → Option ((Bool) ⊕ (Unit))
 | [], i2 => some (.inr ())
 | y3 :: ys4, i2 => (gt l1 i2).bind fun y17 => (slices_Equal_int_int.f y3 y17).bind fun b20 => if b20 = true then (slices_EqualFunc_int_int_int_int.l0 l1 ys4 (i2 + 1)) else (some (.inl false))
def slices_EqualFunc_int_int_int_int.f (l0 : List (List Int)) (l1 : List (List Int)) : Option Bool := if (l0.length : Int) ≠ (l1.length : Int) then (some false) else ((slices_EqualFunc_int_int_int_int.l0 l1 l0 0).bind fun o_ => match o_ with | .inl r_ => some r_ | .inr _ => some true)
set_option maxHeartbeats 600000 in
set_option maxRecDepth 100000 in
theorem slices_EqualFunc_int_int_int_int.calls {w0 ws : World} {P0 : Nat → Prop} (A0 : Option Addr) (c0 : Nat) (n0 : Nat) (H0 : Hd) (l0 : List (List Int)) (A1 : Option Addr) (c1 : Nat) (n1 : Nat) (H1 : Hd) (l1 : List (List Int)) (Z : Below w0.heap.size w0 ws) (hF : Fr w0 ws P0 [] ws) (R0 : Stable ws P0 (fun w => Kd.C (gk 3 (Kd.int .i64)) w A0 n0 (zp H0 l0))) (hc0 : n0 ≤ c0) (R1 : Stable ws P0 (fun w => Kd.C (gk 3 (Kd.int .i64)) w A1 n1 (zp H1 l1))) (hc1 : n1 ≤ c1) (r_1 : Bool) (h : slices_EqualFunc_int_int_int_int.f l0 l1 = some r_1) :
  Calls Try.prog 144 #[.slice A0 n0 c0, .slice A1 n1 c1, .func (.func 138) #[] #[]] ws (Post1 w0 ws P0 (fun (_ : Unit) => .bool r_1) (fun (_ : Unit) => [])) := by
 unfold slices_EqualFunc_int_int_int_int.f at h
 obtain rfl := (zp_len _ _).symm.trans (R0 ws (KeptB.refl _ _)).1
 obtain rfl := (zp_len _ _).symm.trans (R1 ws (KeptB.refl _ _)).1
 refine enter Try.func144 rfl Try.ntmps144 rfl hF ?_
 refine c_seq ?_
 refine za0 ?_
 refine o_q rfl rfl (q_asg rfl) ?_
 refine o_end ?_
 refine za1 ?_
 refine c_seq ?_
 refine c_seq ?_
 refine za0 ?_
 refine o_q rfl rfl (za2 rfl) ?_
 refine o_q rfl rfl (q_len Try.underlying73 rfl) ?_
 refine o_q rfl rfl (za2 rfl) ?_
 refine o_q rfl rfl (q_len Try.underlying73 rfl) ?_
 refine o_q rfl rfl (q_neq rfl rfl) ?_
 refine o_end ?_
 refine za1 ?_
 refine zau _ rfl (fun hb1 => ?_) (fun hb1 => ?_)
 ·skip
  replace h := br_t hb1 h
  refine c_seq ?_
  refine za0 ?_
  refine o_q rfl rfl (q_asg rfl) ?_
  refine o_end ?_
  refine za1 ?_
  refine c_ret ?_
  refine zaa ?_
  have e0_ := Option.some.inj h; clear h
  subst e0_
  exact x_r1 () Try.results144 (zai rfl) rfl (fun w h => za6 [] (by decide) rfl w h)
 ·skip
  replace h := br_f hb1 h
  refine zao ?_
  refine za1 ?_
  refine c_seq ?_
  refine c_seq ?_
  refine za0 ?_
  refine o_q rfl rfl (za2 rfl) ?_
  refine o_q rfl rfl (q_len Try.underlying73 rfl) ?_
  refine o_q rfl rfl (za2 rfl) ?_
  refine o_end ?_
  refine za1 ?_
  refine zaj ?_
  refine za7 h (fun o10 hl9 hR8 => ?_) rfl
  clear h
  refine zba (p := l0.length ≤ 9223372036854775807) (fun w h => (R0.now Z h).2.1) (fun hm7 => ?_)
  refine zax (σ := (List (List Int)) × Int) (fun k5 ((ys4, i2) : (List (List Int)) × Int) => Rg l0 i2 ys4 ∧ ys4.length = k5 ∧ slices_EqualFunc_int_int_int_int.l0 l1 ys4 i2 = some o10) [6, 7, 8, 9, 17, 18, 19, 20, 21, 22, 23, 24, 25, 26, 27, 28, 29, 30, 31] (fun ((ys4, i2) : (List (List Int)) × Int) => [(17, .int .i64 i2)]) (fun ((ys4, i2) : (List (List Int)) × Int) => []) l0.length (l0, 0) ⟨Rg.start _, rfl, hl9⟩ ⟨rfl, trivial⟩ (fun w h => h) ?_
  refine fun k5 => cur2 (listC (fun i2 U11 hJ_ => ?_) (fun y3 ys4 i2 U11 hJ_ => ?_))
  ·skip
   clear hl9
   have hr6 := hJ_.1; have hk12 := hJ_.2.1; have h := hJ_.2.2; clear hJ_
   replace h : slices_EqualFunc_int_int_int_int.l0 l1 [] i2 = some o10 := h
   rw [slices_EqualFunc_int_int_int_int.l0] at h
   refine c_seq ?_
   refine za0 ?_
   refine o_q rfl rfl (q_lss rfl rfl) ?_
   refine o_end ?_
   refine za1 ?_
   refine c_seq ?_
   refine zb3 (congrArg Value.bool hr6.ge) ?_
   refine zb4 ?_
   refine za8 ?_
   refine za8 ?_
   have e_ := Option.some.inj h; replace h := hR8; rw [← e_] at h; clear e_
   refine x_hit ?_
   refine za1 ?_
   refine c_seq ?_
   refine za0 ?_
   refine o_q rfl rfl (q_asg rfl) ?_
   refine o_end ?_
   refine za1 ?_
   refine c_ret ?_
   have e0_ := Option.some.inj h; clear h
   subst e0_
   exact x_r1 () Try.results144 (zai rfl) rfl (fun w h => za6 [] (by decide) rfl w h)
  ·skip
   clear hl9
   have hr6 := hJ_.1; have hk12 := hJ_.2.1; have h := hJ_.2.2; clear hJ_
   replace h : slices_EqualFunc_int_int_int_int.l0 l1 (y3 :: ys4) i2 = some o10 := h
   rw [slices_EqualFunc_int_int_int_int.l0] at h
   refine c_seq ?_
   refine za0 ?_
   refine o_q rfl rfl (q_lss rfl rfl) ?_
   refine o_end ?_
   refine za1 ?_
   refine c_seq ?_
   refine zb1 (congrArg Value.bool hr6.lt) ?_
   refine zao ?_
   refine za1 ?_
   refine c_seq ?_
   refine zaj ?_
   refine c_seq ?_
   refine za0 ?_
   refine o_q rfl rfl (za2 rfl) ?_
   refine zaz (p := Sh A0 l0.length (zp H0 l0).length) (fun w h => f_sh (dk := (gk 3 (Kd.int .i64))) h (fun w h => R0.now Z h)) (fun hq13 => ?_)
   refine o_q rfl rfl (q_ix Try.underlying73 Z25 rfl rfl hq13 (gt_zp hr6.get)) ?_
   refine zaz (p := y3.length ≤ hC H0 i2) (fun w h => (K_in (R0.now Z h) hr6.get).1) (fun hc14 => ?_)
   refine o_q rfl rfl (q_lde (off := 0) Y25 rfl rfl (fun w h => R0.now Z h) (gt_zp hr6.get) (fun _ _ h => h.1) rfl) ?_
   refine o_q rfl rfl (q_asg rfl) ?_
   refine o_q rfl rfl (q_asg rfl) ?_
   refine o_end ?_
   refine za1 ?_
   refine c_seq ?_
   refine za0 ?_
   refine o_q rfl rfl (za2 rfl) ?_
   refine o_q rfl rfl (za2 rfl) ?_
   refine zaz (p := Sh A1 l1.length (zp H1 l1).length) (fun w h => f_sh (dk := (gk 3 (Kd.int .i64))) h (fun w h => R1.now Z h)) (fun hq15 => ?_)
   refine za7 h (fun y17 hg16 h => ?_) rfl
   refine o_q rfl rfl (q_ix Try.underlying73 Z25 rfl rfl hq15 (gt_zp hg16)) ?_
   refine zaz (p := y17.length ≤ hC H1 i2) (fun w h => (K_in (R1.now Z h) hg16).1) (fun hc18 => ?_)
   refine o_q rfl rfl (q_lde (off := 0) Y25 rfl rfl (fun w h => R1.now Z h) (gt_zp hg16) (fun _ _ h => h.1) rfl) ?_
   refine o_q rfl rfl (q_asg rfl) ?_
   refine o_end ?_
   refine za1 ?_
   refine c_seq ?_
   refine za0 ?_
   refine o_q rfl rfl (za2 rfl) ?_
   refine o_q rfl rfl (za2 rfl) ?_
   refine o_q rfl rfl (za2 rfl) ?_
   refine za7 h (fun b20 hx19 h => ?_) rfl
   refine o_e rfl (zab 0 Z Try.func138 N138 rfl rfl rfl (fun w P1 hF hB hS hT => slices_Equal_int_int.calls (hA H0 i2) (hC H0 i2) y3.length y3 (hA H1 i2) (hC H1 i2) y17.length y17 hB hF (stab_in (hS _ R0) hr6.get) hc14 (stab_in (hS _ R1) hg16) hc18 _ hx19)) (fun _ => ?_)
   refine o_q rfl rfl (q_not rfl) ?_
   refine o_end ?_
   refine za1 ?_
   refine zau _ rfl (fun hb21 => ?_) (fun hb21 => ?_)
   ·replace hb21 := nt_t hb21
    replace h := bb_f hb21 h
    refine c_seq ?_
    refine za0 ?_
    refine o_q rfl rfl (q_asg rfl) ?_
    refine o_end ?_
    refine za1 ?_
    refine c_ret ?_
    refine zar ?_
    refine zaa ?_
    refine zaa ?_
    have e_ := Option.some.inj h; replace h := hR8; rw [← e_] at h; clear e_
    refine zar ?_
    refine zaa ?_
    have e0_ := Option.some.inj h; clear h
    subst e0_
    exact x_r1 () Try.results144 (zai rfl) rfl (fun w h => za6 [] (by decide) rfl w h)
   ·replace hb21 := nt_f hb21
    replace h := bb_t hb21 h
    refine zao ?_
    refine zal ?_
    refine za1 ?_
    refine za0 ?_
    refine o_q rfl rfl (q_up rfl rfl (hr6.up hm7)) ?_
    refine o_q rfl rfl (za2 rfl) ?_
    refine o_end ?_
    refine zam ys4.length (ys4, i2 + 1) (by rw [← hk12]; exact Nat.lt_succ_self _) ⟨hr6.step, rfl, h⟩ ⟨rfl, trivial⟩ (fun w h => za6 [] (by decide) rfl w h) ?_
    repeat (first | exact zac _ _ | refine zaf rfl ?_ | refine zad rfl ?_ | refine zah rfl ?_)

/-! ### loop.example/g01098/impl.samePowers: function 89 -/
def impl_samePowers.f (a0_0 : Int) (l0_1 : List SStep) (l0_2 : List Int) (a1_0 : Int) (l1_1 : List SStep) (l1_2 : List Int) : Option Bool := if a0_0 = a1_0 then ((impl_Plan_outputExponents.f a0_0 l0_1 l0_2).bind fun l3 => (impl_Plan_outputExponents.f a1_0 l1_1 l1_2).bind fun l8 => (slices_EqualFunc_int_int_int_int.f l3 l8).bind fun b13 => some b13) else (some false)
set_option maxHeartbeats 600000 in
set_option maxRecDepth 100000 in
theorem impl_samePowers.calls {w0 ws : World} {P0 : Nat → Prop} (g0 : Nat) (a0_0 : Int) (A0_1 : Option Addr) (c0_1 : Nat) (n0_1 : Nat) (l0_1 : List SStep) (A0_2 : Option Addr) (c0_2 : Nat) (n0_2 : Nat) (l0_2 : List Int) (g1 : Nat) (a1_0 : Int) (A1_1 : Option Addr) (c1_1 : Nat) (n1_1 : Nat) (l1_1 : List SStep) (A1_2 : Option Addr) (c1_2 : Nat) (n1_2 : Nat) (l1_2 : List Int) (Z : Below w0.heap.size w0 ws) (hF : Fr w0 ws P0 [] ws) (R0_1 : Stable ws P0 (fun w => Kd.C kStep w A0_1 n0_1 l0_1)) (hc0_1 : n0_1 ≤ c0_1) (R0_2 : Stable ws P0 (fun w => Kd.C (Kd.int .i64) w A0_2 n0_2 l0_2)) (hc0_2 : n0_2 ≤ c0_2) (B0 : Stable ws P0 (fun w => w.heap[g0]? = some (.cells #[.int .i64 a0_0, .slice A0_1 n0_1 c0_1, .slice A0_2 n0_2 c0_2] 27 (0, 0)))) (R1_1 : Stable ws P0 (fun w => Kd.C kStep w A1_1 n1_1 l1_1)) (hc1_1 : n1_1 ≤ c1_1) (R1_2 : Stable ws P0 (fun w => Kd.C (Kd.int .i64) w A1_2 n1_2 l1_2)) (hc1_2 : n1_2 ≤ c1_2) (B1 : Stable ws P0 (fun w => w.heap[g1]? = some (.cells #[.int .i64 a1_0, .slice A1_1 n1_1 c1_1, .slice A1_2 n1_2 c1_2] 27 (0, 0)))) (r_1 : Bool) (h : impl_samePowers.f a0_0 l0_1 l0_2 a1_0 l1_1 l1_2 = some r_1) :
  Calls Try.prog 89 #[.pointer (some ⟨g0, 0, none⟩), .pointer (some ⟨g1, 0, none⟩)] ws (Post1 w0 ws P0 (fun (_ : Unit) => .bool r_1) (fun (_ : Unit) => [])) := by
 unfold impl_samePowers.f at h
 obtain rfl := (R0_1 ws (KeptB.refl _ _)).1
 obtain rfl := (R0_2 ws (KeptB.refl _ _)).1
 obtain rfl := (R1_1 ws (KeptB.refl _ _)).1
 obtain rfl := (R1_2 ws (KeptB.refl _ _)).1
 refine enter Try.func89 rfl Try.ntmps89 rfl hF ?_
 refine c_seq ?_
 refine za0 ?_
 refine o_q rfl rfl (q_asg rfl) ?_
 refine o_end ?_
 refine za1 ?_
 refine c_seq ?_
 refine a_start (ds := []) MO rfl ?_
 refine za9 0 rfl rfl rfl (by kernel_rfl) (fun _ _ _ h => h) (za2 rfl) ?_
 refine za9 1 rfl rfl rfl (by kernel_rfl) (fun _ _ _ h => h) (q_nil rfl) ?_
 refine za9 2 rfl rfl rfl (by kernel_rfl) (fun _ _ _ h => h) (q_f F27_0 rfl) ?_
 refine zb0 3 rfl rfl rfl (by kernel_rfl) (fun _ _ _ h => h) (fun w h => h) (q_ldb Y3 rfl (fun w h => B0.now Z h) rfl) ?_
 refine za9 4 rfl rfl rfl (by kernel_rfl) (fun _ _ _ h => h) (za2 rfl) ?_
 refine za9 5 rfl rfl rfl (by kernel_rfl) (fun _ _ _ h => h) (q_nil rfl) ?_
 refine za9 6 rfl rfl rfl (by kernel_rfl) (fun _ _ _ h => h) (q_f F27_0 rfl) ?_
 refine zb0 7 rfl rfl rfl (by kernel_rfl) (fun _ _ _ h => h) (fun w h => h) (q_ldb Y3 rfl (fun w h => B1.now Z h) rfl) ?_
 refine za9 8 rfl rfl rfl (by kernel_rfl) (fun _ _ _ h => h) (q_eql rfl rfl) ?_
 refine za9 9 rfl rfl rfl (by kernel_rfl) (fun _ _ _ h => h) (za2 rfl) ?_
 refine byB (decide (a0_0 = a1_0)) (fun hb1 => ?_) (fun hb1 => ?_)
 ·replace h := br_t hb1 h
  refine a_purew 10 rfl rfl (za4 rfl rfl rfl (congrArg Value.bool hb1)) (by kernel_rfl) (fun _ _ _ h => h) (za2 rfl) ?_
  refine a_purew 12 rfl rfl (za4 rfl rfl rfl (congrArg Value.bool hb1)) (by kernel_rfl) (fun _ _ _ h => h) (za2 rfl) ?_
  refine za7 h (fun l3 hx2 h => ?_) rfl
  refine a_onew 11 rfl (za4 rfl rfl rfl (congrArg Value.bool hb1)) (by kernel_rfl) rfl (zab 0 Z Try.func145 N145 rfl rfl rfl (fun w P1 hF hB hS hT => impl_Plan_outputExponents.calls g0 a0_0 A0_1 c0_1 l0_1.length l0_1 A0_2 c0_2 l0_2.length l0_2 hB hF (hS _ R0_1) hc0_1 (hS _ R0_2) hc0_2 (hS _ B0) _ hx2)) (fun s w h => za5 [] (by decide) w h rfl) (cur3 (fun A4 c5 H6 => ?_))
  refine za7 h (fun l8 hx7 h => ?_) rfl
  refine a_onew 13 rfl (za4 rfl rfl rfl (congrArg Value.bool hb1)) (by kernel_rfl) rfl (zab 0 Z Try.func145 N145 rfl rfl rfl (fun w P1 hF hB hS hT => impl_Plan_outputExponents.calls g1 a1_0 A1_1 c1_1 l1_1.length l1_1 A1_2 c1_2 l1_2.length l1_2 hB hF (hS _ R1_1) hc1_1 (hS _ R1_2) hc1_2 (hS _ B1) _ hx7)) (fun s w h => za5 [] (by decide) w h rfl) (cur3 (fun A9 c10 H11 => ?_))
  refine za7 h (fun b13 hx12 h => ?_) rfl
  refine a_onew 14 rfl (za4 rfl rfl rfl (congrArg Value.bool hb1)) (by kernel_rfl) rfl (zab 0 Z Try.func144 N144 rfl rfl rfl (fun w P1 hF hB hS hT => slices_EqualFunc_int_int_int_int.calls A4 c5 l3.length H6 l3 A9 c10 l8.length H11 l8 hB hF (hT 1 _ rfl).row (hT 1 _ rfl).cap (hT 0 _ rfl).row (hT 0 _ rfl).cap _ hx12)) (fun s w h => za5 [] (by decide) w h rfl) (fun _ => ?_)
  refine za9 15 rfl rfl rfl (by kernel_rfl) (fun _ _ _ h => h) (zaq true (congrArg Value.bool hb1) rfl) ?_
  refine za9 16 rfl rfl rfl (by kernel_rfl) (fun _ _ _ h => h) (q_asg rfl) ?_
  refine zav (by kernel_rfl) ?_
  refine za1 ?_
  refine c_ret ?_
  have e0_ := Option.some.inj h; clear h
  subst e0_
  exact x_r1 () Try.results89 (zai rfl) rfl (fun w h => za6 [] (by decide) rfl w h)
 ·replace h := br_f hb1 h
  refine a_no 10 rfl rfl (za3 rfl rfl rfl (congrArg Value.bool hb1) rfl) (by kernel_rfl) (fun _ _ _ h => h) ?_
  refine a_no 11 rfl rfl (za3 rfl rfl rfl (congrArg Value.bool hb1) rfl) (by kernel_rfl) (fun _ _ _ h => h) ?_
  refine a_no 12 rfl rfl (za3 rfl rfl rfl (congrArg Value.bool hb1) rfl) (by kernel_rfl) (fun _ _ _ h => h) ?_
  refine a_no 13 rfl rfl (za3 rfl rfl rfl (congrArg Value.bool hb1) rfl) (by kernel_rfl) (fun _ _ _ h => h) ?_
  refine a_no 14 rfl rfl (za3 rfl rfl rfl (congrArg Value.bool hb1) rfl) (by kernel_rfl) (fun _ _ _ h => h) ?_
  refine za9 15 rfl rfl rfl (by kernel_rfl) (fun _ _ _ h => h) (zaq false (congrArg Value.bool hb1) rfl) ?_
  refine za9 16 rfl rfl rfl (by kernel_rfl) (fun _ _ _ h => h) (q_asg rfl) ?_
  refine zav (by kernel_rfl) ?_
  refine za1 ?_
  refine c_ret ?_
  have e0_ := Option.some.inj h; clear h
  subst e0_
  exact x_r1 () Try.results89 (zai rfl) rfl (fun w h => za6 [] (by decide) rfl w h)

end Go.Proofs.Ytdicngjloiphkaa.L6
