import Derived.Test.YtnnlfipcoahcnaaGreatDoorKFnExactParseRegCodeG1p2
namespace Go.Proofs.YtnnlfipcoahcnaaGreatDoor.G1
open Go.RowKit Go.Proofs.YtnnlfipcoahcnaaGreatDoor.Frame Go.Proofs.YtnnlfipcoahcnaaGreatDoorW.PrintLast Go.Proofs.YtnnlfipcoahcnaaGreatDoor.Hand
open Go.Proofs.YtnnlfipcoahcnaaGreatDoorW.PrintWords hiding mn mx
set_option linter.unusedVariables false
/-! ### loop.example/g01098/impl.numberOf: function 41 -/
def impl_numberOf.f (a0 : ByteArray) : Option Int := (strconv_Atoi.f a0).bind fun i2 => some i2
set_option maxHeartbeats 600000 in
set_option maxRecDepth 100000 in
theorem impl_numberOf.calls {w0 ws : World} {P0 : Nat → Prop} (a0 : ByteArray) (Z : Below w0.heap.size w0 ws) (hF : Fr w0 ws P0 [] ws) (GW : Stable ws P0 GP) (r_1 : Int) (h : impl_numberOf.f a0 = some r_1) :
    Calls Tryz.prog 41 #[.string a0] ws (Post1 w0 ws P0 (fun (_ : Unit) => .int .i64 r_1) (fun (_ : Unit) => [])) := by
  unfold impl_numberOf.f at h
  refine enter Tryz.func41 rfl Tryz.ntmps41 rfl hF ?_
  refine c_seq ?_
  refine za0 ?_
  refine o_q rfl rfl (q_asg rfl) ?_
  refine o_end ?_
  refine za1 ?_
  refine c_seq ?_
  refine za0 ?_
  refine o_q rfl rfl (za2 rfl) ?_
  refine za6 h (fun i2 hx1 h => ?_) rfl
  refine o_e rfl (za9 0 Z Tryz.func94 N94 rfl rfl rfl (fun w P1 hF hB hS hT => strconv_Atoi.calls a0 hB hF (hS _ GW) _ hx1)) (fun E3 => ?_)
  refine o_q rfl rfl (za2 rfl) ?_
  refine o_q rfl rfl (q_ext rfl rfl) ?_
  refine o_q rfl rfl (q_ext rfl rfl) ?_
  refine o_q rfl rfl (q_asg rfl) ?_
  refine o_q rfl rfl (q_asg rfl) ?_
  refine o_end ?_
  refine za1 ?_
  refine c_seq ?_
  refine za0 ?_
  refine o_q rfl rfl (za2 rfl) ?_
  refine o_q rfl rfl (q_asg rfl) ?_
  refine o_end ?_
  refine za1 ?_
  refine c_ret ?_
  have e0_ := Option.some.inj h; clear h
  subst e0_
  exact x_r1 () Tryz.results41 (zaf rfl) rfl (fun w h => za7 [] (by decide) rfl w h)

/-! ### loop.example/g01098/impl.parts: function 43 -/
def impl_parts.f (a0 : ByteArray) (a1 : Int) : Option (List ByteArray) := if a0 = (⟨#[45]⟩ : ByteArray) then (some ([] : List ByteArray)) else ((strings_SplitN.f a0 (⟨#[44]⟩ : ByteArray) (w64 (a1 + 1))).bind fun l3 => some l3)
set_option maxHeartbeats 600000 in
set_option maxRecDepth 100000 in
theorem impl_parts.calls {w0 ws : World} {P0 : Nat → Prop} (a0 : ByteArray) (a1 : Int) (Z : Below w0.heap.size w0 ws) (hF : Fr w0 ws P0 [] ws) (GW : Stable ws P0 GP) (r_1 : List ByteArray) (h : impl_parts.f a0 a1 = some r_1) :
    Calls Tryz.prog 43 #[.string a0, .int .i64 a1] ws (Post1 w0 ws P0 (fun ((q_2, q_3) : (Option Addr) × Nat) => .slice q_2 r_1.length q_3) (fun ((q_2, q_3) : (Option Addr) × Nat) => [row Kd.string 9 (.slice q_2 r_1.length q_3) r_1])) := by
  unfold impl_parts.f at h
  refine enter Tryz.func43 rfl Tryz.ntmps43 rfl hF ?_
  refine c_seq ?_
  refine za0 ?_
  refine o_q rfl rfl (q_asg rfl) ?_
  refine o_end ?_
  refine za1 ?_
  refine c_seq ?_
  refine c_seq ?_
  refine za0 ?_
  refine o_q rfl rfl (za2 rfl) ?_
  refine o_q rfl rfl (q_seql rfl rfl) ?_
  refine o_end ?_
  refine za1 ?_
  refine zaq _ rfl (fun hb1 => ?_) (fun hb1 => ?_)
  · skip
    replace h := br_t hb1 h
    refine c_seq ?_
    refine za0 ?_
    refine o_q rfl rfl (q_asg rfl) ?_
    refine o_end ?_
    refine za1 ?_
    refine c_ret ?_
    refine za5 ?_
    refine x_nil Kd.string 9 ?_
    have e0_ := Option.some.inj h; clear h
    subst e0_
    exact x_r1 (none, 0) Tryz.results43 (zaf rfl) rfl (fun w h => za7 [0] (by decide) rfl w h)
  · skip
    replace h := br_f hb1 h
    refine zak ?_
    refine za1 ?_
    refine c_seq ?_
    refine za0 ?_
    refine o_q rfl rfl (za2 rfl) ?_
    refine o_q rfl rfl (za2 rfl) ?_
    refine o_q rfl rfl (q_add64 rfl rfl) ?_
    refine za6 h (fun l3 hx2 h => ?_) rfl
    refine o_e rfl (za9 0 Z Tryz.func40 N40 rfl rfl rfl (fun w P1 hF hB hS hT => strings_SplitN.calls a0 (⟨#[44]⟩ : ByteArray) (w64 (a1 + 1)) hB hF (hS _ GW) _ hx2)) (cur2 (fun A4 c5 => ?_))
    refine o_q rfl rfl (q_asg rfl) ?_
    refine o_end ?_
    refine za1 ?_
    refine c_ret ?_
    have e0_ := Option.some.inj h; clear h
    subst e0_
    exact x_r1 (A4, c5) Tryz.results43 (zaf rfl) rfl (fun w h => za7 [0] (by decide) rfl w h)

/-! ### loop.example/g01098/impl.numbersOf: function 42 -/
def impl_numbersOf.l0 : (List ByteArray) → (List Int) → Int → Option (List Int)
  | [], l4, i7 => some l4
  | y8 :: ys9, l4, i7 => (impl_numberOf.f y8).bind fun i20 => (ap l4 ([i20] : List Int)).bind fun l24 => impl_numbersOf.l0 ys9 l24 (i7 + 1)
def impl_numbersOf.f (l0 : List ByteArray) : Option (List Int) := (impl_numbersOf.l0 l0 ([] : List Int) 0).bind fun l4 => some l4
set_option maxHeartbeats 600000 in
set_option maxRecDepth 100000 in
theorem impl_numbersOf.calls {w0 ws : World} {P0 : Nat → Prop} (A0 : Option Addr) (c0 : Nat) (n0 : Nat) (l0 : List ByteArray) (Z : Below w0.heap.size w0 ws) (hF : Fr w0 ws P0 [] ws) (R0 : Stable ws P0 (fun w => Kd.C Kd.string w A0 n0 l0)) (hc0 : n0 ≤ c0) (GW : Stable ws P0 GP) (r_1 : List Int) (h : impl_numbersOf.f l0 = some r_1) :
    Calls Tryz.prog 42 #[.slice A0 n0 c0] ws (Post1 w0 ws P0 (fun ((q_2, q_3) : (Option Addr) × Nat) => .slice q_2 r_1.length q_3) (fun ((q_2, q_3) : (Option Addr) × Nat) => [row (Kd.int .i64) 3 (.slice q_2 r_1.length q_3) r_1])) := by
  unfold impl_numbersOf.f at h
  obtain rfl := (R0 ws (KeptB.refl _ _)).1
  refine enter Tryz.func42 rfl Tryz.ntmps42 rfl hF ?_
  refine c_seq ?_
  refine za0 ?_
  refine o_q rfl rfl (q_asg rfl) ?_
  refine o_end ?_
  refine za1 ?_
  refine c_seq ?_
  refine za0 ?_
  refine o_e rfl (e_lit0 (Kd.int .i64) Tryz.underlying25 I3) (cur2 (fun A1 c2 => ?_))
  refine o_q rfl rfl (q_asg rfl) ?_
  refine o_end ?_
  refine za1 ?_
  refine c_seq ?_
  refine c_seq ?_
  refine za0 ?_
  refine o_q rfl rfl (za2 rfl) ?_
  refine o_q rfl rfl (q_len Tryz.underlying64 rfl) ?_
  refine o_q rfl rfl (za2 rfl) ?_
  refine o_end ?_
  refine za1 ?_
  refine zal ?_
  refine za6 h (fun o15 hl14 hR13 => ?_) rfl
  clear h
  refine c_fact (p := l0.length ≤ 9223372036854775807) (fun w h => (R0.now Z h).2.1) (fun hm12 => ?_)
  refine zb1 (σ := (List ByteArray) × (List Int) × Int × (Option Addr) × Nat) (fun k10 ((ys9, l4, i7, A5, c6) : (List ByteArray) × (List Int) × Int × (Option Addr) × Nat) => Rg l0 i7 ys9 ∧ ys9.length = k10 ∧ impl_numbersOf.l0 ys9 l4 i7 = some o15) [3, 5, 9, 10, 11, 12, 13, 14, 15, 16, 17, 18] (fun ((ys9, l4, i7, A5, c6) : (List ByteArray) × (List Int) × Int × (Option Addr) × Nat) => [(3, .slice A5 l4.length c6), (9, .int .i64 i7)]) (fun ((ys9, l4, i7, A5, c6) : (List ByteArray) × (List Int) × Int × (Option Addr) × Nat) => [row (Kd.int .i64) 3 (.slice A5 l4.length c6) l4]) l0.length (l0, ([] : List Int), 0, A1, c2) ⟨Rg.start _, rfl, hl14⟩ ⟨rfl, rfl, trivial⟩ (fun w h => h) ?_
  refine fun k10 => cur5 (listC (fun l4 i7 A5 c6 U16 hJ_ => ?_) (fun y8 ys9 l4 i7 A5 c6 U16 hJ_ => ?_))
  · skip
    clear hl14
    have hr11 := hJ_.1; have hk17 := hJ_.2.1; have h := hJ_.2.2; clear hJ_
    replace h : impl_numbersOf.l0 [] l4 i7 = some o15 := h
    rw [impl_numbersOf.l0] at h
    refine c_seq ?_
    refine za0 ?_
    refine o_q rfl rfl (q_lss rfl rfl) ?_
    refine o_end ?_
    refine za1 ?_
    refine c_seq ?_
    refine c_false (congrArg Value.bool hr11.ge) ?_
    refine c_exit ?_
    refine zaa ?_
    refine zaa ?_
    have e_ := Option.some.inj h; replace h := hR13; rw [← e_] at h; clear e_
    refine x_hit ?_
    refine za1 ?_
    refine c_seq ?_
    refine za0 ?_
    refine o_q rfl rfl (za2 rfl) ?_
    refine o_q rfl rfl (q_asg rfl) ?_
    refine o_end ?_
    refine za1 ?_
    refine c_ret ?_
    have e0_ := Option.some.inj h; clear h
    subst e0_
    exact x_r1 (A5, c6) Tryz.results42 (zaf rfl) rfl (fun w h => za7 [0] (by decide) rfl w h)
  · skip
    clear hl14
    have hr11 := hJ_.1; have hk17 := hJ_.2.1; have h := hJ_.2.2; clear hJ_
    replace h : impl_numbersOf.l0 (y8 :: ys9) l4 i7 = some o15 := h
    rw [impl_numbersOf.l0] at h
    refine c_seq ?_
    refine za0 ?_
    refine o_q rfl rfl (q_lss rfl rfl) ?_
    refine o_end ?_
    refine za1 ?_
    refine c_seq ?_
    refine c_true (congrArg Value.bool hr11.lt) ?_
    refine zak ?_
    refine za1 ?_
    refine c_seq ?_
    refine zal ?_
    refine c_seq ?_
    refine za0 ?_
    refine zb2 (p := Sh A0 l0.length l0.length) (fun w h => f_sh (dk := Kd.string) h (fun w h => R0.now Z h)) (fun hq18 => ?_)
    refine o_q rfl rfl (q_ix Tryz.underlying64 Z9 rfl rfl hq18 hr11.get) ?_
    refine o_q rfl rfl (q_lde (off := 0) Y9 rfl rfl (fun w h => R0.now Z h) hr11.get (fun _ _ h => h) rfl) ?_
    refine o_q rfl rfl (q_asg rfl) ?_
    refine o_end ?_
    refine za1 ?_
    refine za0 ?_
    refine o_q rfl rfl (za2 rfl) ?_
    refine o_q rfl rfl (za2 rfl) ?_
    refine za6 h (fun i20 hx19 h => ?_) rfl
    refine o_e rfl (za9 0 Z Tryz.func41 N41 rfl rfl rfl (fun w P1 hF hB hS hT => impl_numberOf.calls y8 hB hF (hS _ GW) _ hx19)) (fun _ => ?_)
    refine o_e rfl (e_lit (vs := [(0, .int .i64 i20)]) (cs := [.int .i64 i20]) (Kd.int .i64) ([i20] : List Int) Tryz.underlying25 I3 (by decide) rfl (by decide) rfl rfl (fun _ _ => Kd.zav _)) (cur2 (fun A21 c22 => ?_))
    refine za6 h (fun l24 ha25 h => ?_) rfl
    refine o_e rfl (e_app (i := 1) (j := 0) Tryz.underlying25 I3 rfl (by decide) (by decide) rfl rfl rfl rfl rfl ha25) (cur2 (fun A26 c27 => ?_))
    refine o_q rfl rfl (q_asg rfl) ?_
    refine o_end ?_
    refine zaw ?_
    refine za1 ?_
    refine za0 ?_
    refine o_q rfl rfl (q_up rfl rfl (hr11.up hm12)) ?_
    refine o_q rfl rfl (za2 rfl) ?_
    refine o_end ?_
    refine zao ys9.length (ys9, l24, i7 + 1, A26, c27) (by rw [← hk17]; exact Nat.lt_succ_self _) ⟨hr11.step, rfl, h⟩ ⟨rfl, rfl, trivial⟩ (fun w h => za7 [1] (by decide) rfl w h) ?_
    repeat (first | exact zac _ _ | refine zai rfl ?_ | refine zad rfl ?_ | refine zaj rfl ?_)

/-! ### (*loop.example/g01098/impl.RegCode).read$1: function 137 -/
def impl_RegCode_read_1.f (a0 : Int) (l1_0 : List Int) : Option Bool := (impl_in.f a0 0 (w64 ((l1_0.length : Int) - 1))).bind fun b2 => some b2
set_option maxHeartbeats 600000 in
set_option maxRecDepth 100000 in
theorem impl_RegCode_read_1.calls {w0 ws : World} {P0 : Nat → Prop} (a0 : Int) (g1 : Nat) (A1_0 : Option Addr) (c1_0 : Nat) (n1_0 : Nat) (l1_0 : List Int) (Z : Below w0.heap.size w0 ws) (hF : Fr w0 ws P0 [] ws) (R1_0 : Stable ws P0 (fun w => Kd.C (Kd.int .i64) w A1_0 n1_0 l1_0)) (hc1_0 : n1_0 ≤ c1_0) (B1 : Stable ws P0 (fun w => w.heap[g1]? = some (.cells #[.slice A1_0 n1_0 c1_0] 25 (0, 0)))) (r_1 : Bool) (h : impl_RegCode_read_1.f a0 l1_0 = some r_1) :
    Calls Tryz.prog 137 #[.int .i64 a0, .pointer (some ⟨g1, 0, none⟩)] ws (Post1 w0 ws P0 (fun (_ : Unit) => .bool r_1) (fun (_ : Unit) => [])) := by
  unfold impl_RegCode_read_1.f at h
  obtain rfl := (R1_0 ws (KeptB.refl _ _)).1
  refine enter Tryz.func137 rfl Tryz.ntmps137 rfl hF ?_
  refine c_seq ?_
  refine za0 ?_
  refine o_q rfl rfl (q_asg rfl) ?_
  refine o_end ?_
  refine za1 ?_
  refine c_seq ?_
  refine za0 ?_
  refine o_q rfl rfl (za2 rfl) ?_
  refine o_q rfl rfl (q_ldb Y25 rfl (fun w h => B1.now Z h) rfl) ?_
  refine o_q rfl rfl (q_len Tryz.underlying25 rfl) ?_
  refine o_q rfl rfl (q_sub64 rfl rfl) ?_
  refine za6 h (fun b2 hx1 h => ?_) rfl
  refine o_e rfl (za9 0 Z Tryz.func88 N88 rfl rfl rfl (fun w P1 hF hB hS hT => impl_in.calls a0 0 (w64 ((l1_0.length : Int) - 1)) hB hF _ hx1)) (fun _ => ?_)
  refine o_q rfl rfl (q_asg rfl) ?_
  refine o_end ?_
  refine za1 ?_
  refine c_ret ?_
  have e0_ := Option.some.inj h; clear h
  subst e0_
  exact x_r1 () Tryz.results137 (zaf rfl) rfl (fun w h => za7 [] (by decide) rfl w h)

/-! ### loop.example/g01098/impl.step: function 138 -/
def impl_step.f (a0 : Int) (a1 : Int) : Option Unit := some ()
set_option maxHeartbeats 600000 in
set_option maxRecDepth 100000 in
theorem impl_step.calls {w0 ws : World} {P0 : Nat → Prop} (a0 : Int) (a1 : Int) (Z : Below w0.heap.size w0 ws) (hF : Fr w0 ws P0 [] ws)   (h : impl_step.f a0 a1 = some ()) :
    Calls Tryz.prog 138 #[.int .i64 a0, .int .i64 a1] ws (Post1 w0 ws P0 (fun (_ : Unit) => .agg #[.int .i64 (mn a0 a1), .int .i64 (mx a0 a1)]) (fun (_ : Unit) => [])) := by
  unfold impl_step.f at h
  refine enter Tryz.func138 rfl Tryz.ntmps138 rfl hF ?_
  refine c_seq ?_
  refine za0 ?_
  refine o_e rfl (zau V72 rfl) (fun g1 => ?_)
  refine o_end ?_
  refine za1 ?_
  refine c_seq ?_
  refine za0 ?_
  refine o_q rfl rfl (za2 rfl) ?_
  refine o_q rfl rfl (za2 rfl) ?_
  refine o_q rfl rfl (q_min rfl rfl) ?_
  refine o_q rfl rfl (za2 rfl) ?_
  refine o_q rfl rfl (za2 rfl) ?_
  refine o_q rfl rfl (q_max rfl rfl) ?_
  refine o_q rfl rfl (q_build (vs := [(0, .int .i64 (mn a0 a1)), (1, .int .i64 (mx a0 a1))]) (cs := [.int .i64 (mn a0 a1), .int .i64 (mx a0 a1)]) rfl rfl) ?_
  refine o_e rfl (zam (i := 0) rfl rfl rfl Z72 rfl rfl) (fun _ => ?_)
  refine o_end ?_
  refine za1 ?_
  refine c_ret ?_
  exact x_r1 () Tryz.results138 (rv_cell rfl G72 Z72 (fun w h => h.zae (i := 0) rfl) rfl) rfl (fun w h => za7 [] (by decide) rfl w h)

/-! ### (*loop.example/g01098/impl.RegCode).read: function 111 -/
def impl_RegCode_read.l2 (l2308 : List Int) : (List Int) → (List Int) → Int → Option ((Int × (List SStep) × (List Int) × Bool) ⊕ ((List Int)))
  | [], l2324, i2327 => some (.inr l2324)
  | y2328 :: ys2329, l2324, i2327 => ((impl_RegCode_read_1.f y2328 l2308).bind fun b2354 => if b2354 = true then ((gt l2308 y2328).bind fun y2358 => some (decide (y2358 = (-1)))) else (some true)).bind fun b2347 => if b2347 = true then (some (.inl (0, ([] : List SStep), ([] : List Int), false))) else ((gt l2308 y2328).bind fun y2603 => (ap l2324 ([y2603] : List Int)).bind fun l2781 => impl_RegCode_read.l2 l2308 ys2329 l2781 (i2327 + 1))
def impl_RegCode_read.l1 (l0_1 : List Int) : (List SRegOp) → (List Int) → (List SStep) → Int → Option ((Int × (List SStep) × (List Int) × Bool) ⊕ ((List Int) × (List SStep)))
  | [], l2308, l2309, i2312 => some (.inr (l2308, l2309))
  | y2313 :: ys2314, l2308, l2309, i2312 => ((impl_RegCode_read_1.f y2313.f0 l2308).bind fun b3046 => if b3046 = true then ((impl_RegCode_read_1.f y2313.f1 l2308).bind fun b3049 => if b3049 = true then ((impl_RegCode_read_1.f y2313.f2 l2308).bind fun b3052 => if b3052 = true then ((gt l2308 y2313.f1).bind fun y3056 => if y3056 = (-1) then (some true) else ((gt l2308 y2313.f2).bind fun y3059 => some (decide (y3059 = (-1))))) else (some true)) else (some true)) else (some true)).bind fun b3039 => if b3039 = true then (some (.inl (0, ([] : List SStep), ([] : List Int), false))) else (((gt l2308 y2313.f1).bind fun y4453 => (gt l2308 y2313.f2).bind fun y4752 => (impl_step.f y4453 y4752).bind fun _ => (ap l2309 ([(⟨mn y4453 y4752, mx y4453 y4752⟩ : SStep)] : List SStep)).bind fun l4991 => some l4991).bind fun l4142 => (impl_Plan_many.f (l0_1.length : Int) l4142 []).bind fun _ => (gt l2308 y2313.f0).bind fun y5234 => (st l2308 y2313.f0 (w64 (w64 ((l0_1.length : Int) + (l4142.length : Int)) - 1))).bind fun l5235 => impl_RegCode_read.l1 l0_1 ys2314 l5235 l4142 (i2312 + 1))
def impl_RegCode_read.l0 : (List Int) → (List Int) → Int → Option ((Int × (List SStep) × (List Int) × Bool) ⊕ ((List Int)))
  | [], l2295, i2296 => some (.inr l2295)
  | y2297 :: ys2298, l2295, i2296 => ((impl_RegCode_read_1.f y2297 l2295).bind fun b5251 => if b5251 = true then ((gt l2295 y2297).bind fun y5255 => some (decide (y5255 ≠ (-1)))) else (some true)).bind fun b5244 => if b5244 = true then (some (.inl (0, ([] : List SStep), ([] : List Int), false))) else ((gt l2295 y2297).bind fun y5259 => (st l2295 y2297 i2296).bind fun l5260 => impl_RegCode_read.l0 ys2298 l5260 (i2296 + 1))
def impl_RegCode_read.f (a0_0 : Int) (l0_1 : List Int) (l0_2 : List SRegOp) (l0_3 : List Int) : Option (Int × (List SStep) × (List Int) × Bool) := ((slices_Repeat_int_int.f ([(-1)] : List Int) (mx (mn a0_0 46) 0)).bind fun l1936 => some l1936).bind fun l1146 => (impl_RegCode_read.l0 l0_1 l1146 0).bind fun o_ => match o_ with | .inl r_ => some r_ | .inr l2295 => (impl_RegCode_read.l1 l0_1 l0_2 l2295 ([] : List SStep) 0).bind fun o_ => match o_ with | .inl r_ => some r_ | .inr (l2308, l2309) => (impl_RegCode_read.l2 l2308 l0_3 ([] : List Int) 0).bind fun o_ => match o_ with | .inl r_ => some r_ | .inr l2324 => (impl_in.f a0_0 1 46).bind fun b2339 => some ((l0_1.length : Int), l2309, l2324, b2339)
set_option maxHeartbeats 8000000 in
set_option maxRecDepth 100000 in
theorem impl_RegCode_read.calls {w0 ws : World} {P0 : Nat → Prop} (g0 : Nat) (a0_0 : Int) (A0_1 : Option Addr) (c0_1 : Nat) (n0_1 : Nat) (l0_1 : List Int) (A0_2 : Option Addr) (c0_2 : Nat) (n0_2 : Nat) (l0_2 : List SRegOp) (A0_3 : Option Addr) (c0_3 : Nat) (n0_3 : Nat) (l0_3 : List Int) (Z : Below w0.heap.size w0 ws) (hF : Fr w0 ws P0 [] ws) (R0_1 : Stable ws P0 (fun w => Kd.C (Kd.int .i64) w A0_1 n0_1 l0_1)) (hc0_1 : n0_1 ≤ c0_1) (R0_2 : Stable ws P0 (fun w => Kd.C zax w A0_2 n0_2 l0_2)) (hc0_2 : n0_2 ≤ c0_2) (R0_3 : Stable ws P0 (fun w => Kd.C (Kd.int .i64) w A0_3 n0_3 l0_3)) (hc0_3 : n0_3 ≤ c0_3) (B0 : Stable ws P0 (fun w => w.heap[g0]? = some (.cells #[.int .i64 a0_0, .slice A0_1 n0_1 c0_1, .slice A0_2 n0_2 c0_2, .slice A0_3 n0_3 c0_3] 38 (0, 0)))) (r_1 : Int) (r_2 : List SStep) (r_5 : List Int) (r_8 : Bool) (h : impl_RegCode_read.f a0_0 l0_1 l0_2 l0_3 = some (r_1, r_2, r_5, r_8)) :
    Calls Tryz.prog 111 #[.pointer (some ⟨g0, 0, none⟩)] ws (Post1 w0 ws P0 (fun ((q_3, q_4, q_6, q_7) : (Option Addr) × Nat × (Option Addr) × Nat) => .tuple #[.agg #[.int .i64 r_1, .slice q_3 r_2.length q_4, .slice q_6 r_5.length q_7], .bool r_8]) (fun ((q_3, q_4, q_6, q_7) : (Option Addr) × Nat × (Option Addr) × Nat) => [row kStep 72 (.slice q_3 r_2.length q_4) r_2, row (Kd.int .i64) 3 (.slice q_6 r_5.length q_7) r_5])) := by
  unfold impl_RegCode_read.f at h
  obtain rfl := (R0_1 ws (KeptB.refl _ _)).1
  obtain rfl := (R0_2 ws (KeptB.refl _ _)).1
  obtain rfl := (R0_3 ws (KeptB.refl _ _)).1
  refine enter Tryz.func111 rfl Tryz.ntmps111 rfl hF ?_
  refine c_seq ?_
  refine za0 ?_
  refine o_e rfl (zau V27 rfl) (fun g1 => ?_)
  refine o_q rfl rfl (q_asg rfl) ?_
  refine o_end ?_
  refine za1 ?_
  refine za6 h (fun o1149 hl1150 hR1151 => ?_) rfl
  clear h
  refine c_cutJ (σ := (List Int) × Nat × Nat × (Option Addr) × Nat) (fun (l1146, g1144, g1145, A1147, c1148) => some l1146 = some o1149) [4, 5, 13, 14, 15, 16, 17, 18, 19, 20, 21, 22, 23, 24, 25, 26] (fun (l1146, g1144, g1145, A1147, c1148) => [(4, .pointer (some ⟨g1144, 0, none⟩)), (5, .pointer (some ⟨g1145, 0, none⟩))]) (fun (l1146, g1144, g1145, A1147, c1148) => [box g1 27 #[.int .i64 0, .slice none 0 0, .slice none 0 0], box g1144 27 #[.int .i64 (l0_1.length : Int), .slice none 0 0, .slice none 0 0], box g1145 25 #[.slice A1147 l1146.length c1148], row (Kd.int .i64) 3 (.slice A1147 l1146.length c1148) l1146]) ?_ ?_
  · skip
    have h := hl1150; clear hl1150
    clear hR1151
    refine za6 h (fun l1936 hx1935 h => ?_) rfl
    refine a_start (ds := []) MO rfl ?_
    refine zab 0 rfl rfl rfl (by kernel_rfl) (fun _ _ _ h => h) (za2 rfl) ?_
    refine zab 1 rfl rfl rfl (by kernel_rfl) (fun _ _ _ h => h) (q_nil rfl) ?_
    refine zab 2 rfl rfl rfl (by kernel_rfl) (fun _ _ _ h => h) (q_f F38_1 rfl) ?_
    refine zaz 3 rfl rfl rfl (by kernel_rfl) (fun _ _ _ h => h) (fun w h => h) (q_ldb Y25 rfl (fun w h => B0.now Z h) rfl) ?_
    refine zab 4 rfl rfl rfl (by kernel_rfl) (fun _ _ _ h => h) (q_len Tryz.underlying25 rfl) ?_
    refine zab 5 rfl rfl rfl (by kernel_rfl) (fun _ _ _ h => h) (q_build (vs := [(0, .int .i64 (l0_1.length : Int))]) (cs := [.int .i64 (l0_1.length : Int), .slice none 0 0, .slice none 0 0]) rfl rfl) ?_
    refine zab 7 rfl rfl rfl (by kernel_rfl) (fun _ _ _ h => h) (za2 rfl) ?_
    refine zab 8 rfl rfl rfl (by kernel_rfl) (fun _ _ _ h => h) (q_nil rfl) ?_
    refine zab 9 rfl rfl rfl (by kernel_rfl) (fun _ _ _ h => h) (q_f F38_0 rfl) ?_
    refine zaz 10 rfl rfl rfl (by kernel_rfl) (fun _ _ _ h => h) (fun w h => h) (q_ldb Y3 rfl (fun w h => B0.now Z h) rfl) ?_
    refine zab 11 rfl rfl rfl (by kernel_rfl) (fun _ _ _ h => h) (q_min rfl rfl) ?_
    refine zab 12 rfl rfl rfl (by kernel_rfl) (fun _ _ _ h => h) (q_max rfl rfl) ?_
    refine a_three 6 14 15 rfl rfl rfl rfl rfl rfl (by kernel_rfl) rfl rfl rfl (e_lit (vs := [(0, .int .i64 (-1))]) (cs := [.int .i64 (-1)]) (Kd.int .i64) ([(-1)] : List Int) Tryz.underlying25 I3 (by decide) rfl (by decide) rfl rfl (fun _ _ => Kd.zav _)) (fun s w h => za8 [some 1] (by decide) w h rfl) (zau V27 rfl) (fun s w h => za8 [some 1] (by decide) w h rfl) (zau V25 rfl) (fun s w h => za8 [some 1] (by decide) w h rfl) (cur2 (fun A1515 c1516 => ?_)) (fun g1995 => ?_) (fun g2055 => ?_)
    · skip
      refine a_three 13 14 15 rfl rfl rfl rfl rfl rfl (by kernel_rfl) rfl rfl rfl (za9 0 Z Tryz.func74 N74 rfl rfl rfl (fun w P1 hF hB hS hT => slices_Repeat_int_int.calls A1515 c1516 (([(-1)] : List Int).length) ([(-1)] : List Int) (mx (mn a0_0 46) 0) hB hF (hT 0 _ rfl).row (hT 0 _ rfl).cap _ hx1935)) (fun s w h => za8 [some 2] (by decide) w h rfl) (zau V27 rfl) (fun s w h => za8 [some 2] (by decide) w h rfl) (zau V25 rfl) (fun s w h => za8 [some 2] (by decide) w h rfl) (cur2 (fun A1937 c1938 => ?_)) (fun g1995 => ?_) (fun g2055 => ?_)
      · skip
        refine a_two 14 15 rfl rfl rfl rfl (by kernel_rfl) rfl rfl (zau V27 rfl) (fun s w h => za8 [some 3] (by decide) w h rfl) (zau V25 rfl) (fun s w h => za8 [some 3] (by decide) w h rfl) (fun g1995 => ?_) (fun g2055 => ?_)
        · skip
          refine a_one 15 rfl rfl (by kernel_rfl) rfl (zau V25 rfl) (fun s w h => za8 [some 4] (by decide) w h rfl) (fun g2055 => ?_)
          refine a_one 16 rfl rfl (by kernel_rfl) rfl (zam (i := 1) rfl rfl rfl Z27 rfl rfl) (fun s w h => za8 [some 4] (by decide) w h rfl) (fun _ => ?_)
          refine a_one 17 rfl rfl (by kernel_rfl) rfl (e_store (i := 0) rfl rfl rfl rfl Z25 rfl rfl) (fun s w h => za8 [some 4] (by decide) w h rfl) (fun _ => ?_)
          refine zay (by kernel_rfl) ?_
          refine zat (l1936, g1995, g2055, A1937, c1938) h ⟨rfl, rfl, trivial⟩ (fun w h => za7 [4, 1, 0, 2] (by decide) rfl w h) ?_
          repeat (first | exact zac _ _ | refine zai rfl ?_ | refine zad rfl ?_ | refine zaj rfl ?_)
        · skip
          refine a_one 14 rfl rfl (by kernel_rfl) rfl (zau V27 rfl) (fun s w h => za8 [some 4] (by decide) w h rfl) (fun g1995 => ?_)
          refine a_one 16 rfl rfl (by kernel_rfl) rfl (zam (i := 0) rfl rfl rfl Z27 rfl rfl) (fun s w h => za8 [some 4] (by decide) w h rfl) (fun _ => ?_)
          refine a_one 17 rfl rfl (by kernel_rfl) rfl (e_store (i := 1) rfl rfl rfl rfl Z25 rfl rfl) (fun s w h => za8 [some 4] (by decide) w h rfl) (fun _ => ?_)
          refine zay (by kernel_rfl) ?_
          refine zat (l1936, g1995, g2055, A1937, c1938) h ⟨rfl, rfl, trivial⟩ (fun w h => za7 [4, 0, 1, 2] (by decide) rfl w h) ?_
          repeat (first | exact zac _ _ | refine zai rfl ?_ | refine zad rfl ?_ | refine zaj rfl ?_)
      · skip
        refine a_two 13 15 rfl rfl rfl rfl (by kernel_rfl) rfl rfl (za9 0 Z Tryz.func74 N74 rfl rfl rfl (fun w P1 hF hB hS hT => slices_Repeat_int_int.calls A1515 c1516 (([(-1)] : List Int).length) ([(-1)] : List Int) (mx (mn a0_0 46) 0) hB hF (hT 1 _ rfl).row (hT 1 _ rfl).cap _ hx1935)) (fun s w h => za8 [some 3] (by decide) w h rfl) (zau V25 rfl) (fun s w h => za8 [some 3] (by decide) w h rfl) (cur2 (fun A1937 c1938 => ?_)) (fun g2055 => ?_)
        · skip
          refine a_one 15 rfl rfl (by kernel_rfl) rfl (zau V25 rfl) (fun s w h => za8 [some 4] (by decide) w h rfl) (fun g2055 => ?_)
          refine a_one 16 rfl rfl (by kernel_rfl) rfl (zam (i := 2) rfl rfl rfl Z27 rfl rfl) (fun s w h => za8 [some 4] (by decide) w h rfl) (fun _ => ?_)
          refine a_one 17 rfl rfl (by kernel_rfl) rfl (e_store (i := 0) rfl rfl rfl rfl Z25 rfl rfl) (fun s w h => za8 [some 4] (by decide) w h rfl) (fun _ => ?_)
          refine zay (by kernel_rfl) ?_
          refine zat (l1936, g1995, g2055, A1937, c1938) h ⟨rfl, rfl, trivial⟩ (fun w h => za7 [4, 2, 0, 1] (by decide) rfl w h) ?_
          repeat (first | exact zac _ _ | refine zai rfl ?_ | refine zad rfl ?_ | refine zaj rfl ?_)
        · skip
          refine a_one 13 rfl rfl (by kernel_rfl) rfl (za9 0 Z Tryz.func74 N74 rfl rfl rfl (fun w P1 hF hB hS hT => slices_Repeat_int_int.calls A1515 c1516 (([(-1)] : List Int).length) ([(-1)] : List Int) (mx (mn a0_0 46) 0) hB hF (hT 2 _ rfl).row (hT 2 _ rfl).cap _ hx1935)) (fun s w h => za8 [some 4] (by decide) w h rfl) (cur2 (fun A1937 c1938 => ?_))
          refine a_one 16 rfl rfl (by kernel_rfl) rfl (zam (i := 2) rfl rfl rfl Z27 rfl rfl) (fun s w h => za8 [some 4] (by decide) w h rfl) (fun _ => ?_)
          refine a_one 17 rfl rfl (by kernel_rfl) rfl (e_store (i := 1) rfl rfl rfl rfl Z25 rfl rfl) (fun s w h => za8 [some 4] (by decide) w h rfl) (fun _ => ?_)
          refine zay (by kernel_rfl) ?_
          refine zat (l1936, g1995, g2055, A1937, c1938) h ⟨rfl, rfl, trivial⟩ (fun w h => za7 [4, 2, 1, 0] (by decide) rfl w h) ?_
          repeat (first | exact zac _ _ | refine zai rfl ?_ | refine zad rfl ?_ | refine zaj rfl ?_)
      · skip
        refine a_two 13 14 rfl rfl rfl rfl (by kernel_rfl) rfl rfl (za9 0 Z Tryz.func74 N74 rfl rfl rfl (fun w P1 hF hB hS hT => slices_Repeat_int_int.calls A1515 c1516 (([(-1)] : List Int).length) ([(-1)] : List Int) (mx (mn a0_0 46) 0) hB hF (hT 1 _ rfl).row (hT 1 _ rfl).cap _ hx1935)) (fun s w h => za8 [some 3] (by decide) w h rfl) (zau V27 rfl) (fun s w h => za8 [some 3] (by decide) w h rfl) (cur2 (fun A1937 c1938 => ?_)) (fun g1995 => ?_)
        · skip
          refine a_one 14 rfl rfl (by kernel_rfl) rfl (zau V27 rfl) (fun s w h => za8 [some 4] (by decide) w h rfl) (fun g1995 => ?_)
          refine a_one 16 rfl rfl (by kernel_rfl) rfl (zam (i := 0) rfl rfl rfl Z27 rfl rfl) (fun s w h => za8 [some 4] (by decide) w h rfl) (fun _ => ?_)
          refine a_one 17 rfl rfl (by kernel_rfl) rfl (e_store (i := 2) rfl rfl rfl rfl Z25 rfl rfl) (fun s w h => za8 [some 4] (by decide) w h rfl) (fun _ => ?_)
          refine zay (by kernel_rfl) ?_
          refine zat (l1936, g1995, g2055, A1937, c1938) h ⟨rfl, rfl, trivial⟩ (fun w h => za7 [4, 0, 2, 1] (by decide) rfl w h) ?_
          repeat (first | exact zac _ _ | refine zai rfl ?_ | refine zad rfl ?_ | refine zaj rfl ?_)
        · skip
          refine a_one 13 rfl rfl (by kernel_rfl) rfl (za9 0 Z Tryz.func74 N74 rfl rfl rfl (fun w P1 hF hB hS hT => slices_Repeat_int_int.calls A1515 c1516 (([(-1)] : List Int).length) ([(-1)] : List Int) (mx (mn a0_0 46) 0) hB hF (hT 2 _ rfl).row (hT 2 _ rfl).cap _ hx1935)) (fun s w h => za8 [some 4] (by decide) w h rfl) (cur2 (fun A1937 c1938 => ?_))
          refine a_one 16 rfl rfl (by kernel_rfl) rfl (zam (i := 1) rfl rfl rfl Z27 rfl rfl) (fun s w h => za8 [some 4] (by decide) w h rfl) (fun _ => ?_)
          refine a_one 17 rfl rfl (by kernel_rfl) rfl (e_store (i := 2) rfl rfl rfl rfl Z25 rfl rfl) (fun s w h => za8 [some 4] (by decide) w h rfl) (fun _ => ?_)
          refine zay (by kernel_rfl) ?_
          refine zat (l1936, g1995, g2055, A1937, c1938) h ⟨rfl, rfl, trivial⟩ (fun w h => za7 [4, 1, 2, 0] (by decide) rfl w h) ?_
          repeat (first | exact zac _ _ | refine zai rfl ?_ | refine zad rfl ?_ | refine zaj rfl ?_)
    · skip
      refine a_two 6 15 rfl rfl rfl rfl (by kernel_rfl) rfl rfl (e_lit (vs := [(0, .int .i64 (-1))]) (cs := [.int .i64 (-1)]) (Kd.int .i64) ([(-1)] : List Int) Tryz.underlying25 I3 (by decide) rfl (by decide) rfl rfl (fun _ _ => Kd.zav _)) (fun s w h => za8 [some 2] (by decide) w h rfl) (zau V25 rfl) (fun s w h => za8 [some 2] (by decide) w h rfl) (cur2 (fun A1515 c1516 => ?_)) (fun g2055 => ?_)
      · skip
        refine a_two 13 15 rfl rfl rfl rfl (by kernel_rfl) rfl rfl (za9 0 Z Tryz.func74 N74 rfl rfl rfl (fun w P1 hF hB hS hT => slices_Repeat_int_int.calls A1515 c1516 (([(-1)] : List Int).length) ([(-1)] : List Int) (mx (mn a0_0 46) 0) hB hF (hT 0 _ rfl).row (hT 0 _ rfl).cap _ hx1935)) (fun s w h => za8 [some 3] (by decide) w h rfl) (zau V25 rfl) (fun s w h => za8 [some 3] (by decide) w h rfl) (cur2 (fun A1937 c1938 => ?_)) (fun g2055 => ?_)
        · skip
          refine a_one 15 rfl rfl (by kernel_rfl) rfl (zau V25 rfl) (fun s w h => za8 [some 4] (by decide) w h rfl) (fun g2055 => ?_)
          refine a_one 16 rfl rfl (by kernel_rfl) rfl (zam (i := 3) rfl rfl rfl Z27 rfl rfl) (fun s w h => za8 [some 4] (by decide) w h rfl) (fun _ => ?_)
          refine a_one 17 rfl rfl (by kernel_rfl) rfl (e_store (i := 0) rfl rfl rfl rfl Z25 rfl rfl) (fun s w h => za8 [some 4] (by decide) w h rfl) (fun _ => ?_)
          refine zay (by kernel_rfl) ?_
          refine zat (l1936, g1995, g2055, A1937, c1938) h ⟨rfl, rfl, trivial⟩ (fun w h => za7 [4, 3, 0, 1] (by decide) rfl w h) ?_
          repeat (first | exact zac _ _ | refine zai rfl ?_ | refine zad rfl ?_ | refine zaj rfl ?_)
        · skip
          refine a_one 13 rfl rfl (by kernel_rfl) rfl (za9 0 Z Tryz.func74 N74 rfl rfl rfl (fun w P1 hF hB hS hT => slices_Repeat_int_int.calls A1515 c1516 (([(-1)] : List Int).length) ([(-1)] : List Int) (mx (mn a0_0 46) 0) hB hF (hT 1 _ rfl).row (hT 1 _ rfl).cap _ hx1935)) (fun s w h => za8 [some 4] (by decide) w h rfl) (cur2 (fun A1937 c1938 => ?_))
          refine a_one 16 rfl rfl (by kernel_rfl) rfl (zam (i := 3) rfl rfl rfl Z27 rfl rfl) (fun s w h => za8 [some 4] (by decide) w h rfl) (fun _ => ?_)
          refine a_one 17 rfl rfl (by kernel_rfl) rfl (e_store (i := 1) rfl rfl rfl rfl Z25 rfl rfl) (fun s w h => za8 [some 4] (by decide) w h rfl) (fun _ => ?_)
          refine zay (by kernel_rfl) ?_
          refine zat (l1936, g1995, g2055, A1937, c1938) h ⟨rfl, rfl, trivial⟩ (fun w h => za7 [4, 3, 1, 0] (by decide) rfl w h) ?_
          repeat (first | exact zac _ _ | refine zai rfl ?_ | refine zad rfl ?_ | refine zaj rfl ?_)
      · skip
        refine a_one 6 rfl rfl (by kernel_rfl) rfl (e_lit (vs := [(0, .int .i64 (-1))]) (cs := [.int .i64 (-1)]) (Kd.int .i64) ([(-1)] : List Int) Tryz.underlying25 I3 (by decide) rfl (by decide) rfl rfl (fun _ _ => Kd.zav _)) (fun s w h => za8 [some 3] (by decide) w h rfl) (cur2 (fun A1515 c1516 => ?_))
        refine a_one 13 rfl rfl (by kernel_rfl) rfl (za9 0 Z Tryz.func74 N74 rfl rfl rfl (fun w P1 hF hB hS hT => slices_Repeat_int_int.calls A1515 c1516 (([(-1)] : List Int).length) ([(-1)] : List Int) (mx (mn a0_0 46) 0) hB hF (hT 0 _ rfl).row (hT 0 _ rfl).cap _ hx1935)) (fun s w h => za8 [some 4] (by decide) w h rfl) (cur2 (fun A1937 c1938 => ?_))
        refine a_one 16 rfl rfl (by kernel_rfl) rfl (zam (i := 3) rfl rfl rfl Z27 rfl rfl) (fun s w h => za8 [some 4] (by decide) w h rfl) (fun _ => ?_)
        refine a_one 17 rfl rfl (by kernel_rfl) rfl (e_store (i := 2) rfl rfl rfl rfl Z25 rfl rfl) (fun s w h => za8 [some 4] (by decide) w h rfl) (fun _ => ?_)
        refine zay (by kernel_rfl) ?_
        refine zat (l1936, g1995, g2055, A1937, c1938) h ⟨rfl, rfl, trivial⟩ (fun w h => za7 [4, 3, 2, 0] (by decide) rfl w h) ?_
        repeat (first | exact zac _ _ | refine zai rfl ?_ | refine zad rfl ?_ | refine zaj rfl ?_)
    · skip
      refine a_two 6 14 rfl rfl rfl rfl (by kernel_rfl) rfl rfl (e_lit (vs := [(0, .int .i64 (-1))]) (cs := [.int .i64 (-1)]) (Kd.int .i64) ([(-1)] : List Int) Tryz.underlying25 I3 (by decide) rfl (by decide) rfl rfl (fun _ _ => Kd.zav _)) (fun s w h => za8 [some 2] (by decide) w h rfl) (zau V27 rfl) (fun s w h => za8 [some 2] (by decide) w h rfl) (cur2 (fun A1515 c1516 => ?_)) (fun g1995 => ?_)
      · skip
        refine a_two 13 14 rfl rfl rfl rfl (by kernel_rfl) rfl rfl (za9 0 Z Tryz.func74 N74 rfl rfl rfl (fun w P1 hF hB hS hT => slices_Repeat_int_int.calls A1515 c1516 (([(-1)] : List Int).length) ([(-1)] : List Int) (mx (mn a0_0 46) 0) hB hF (hT 0 _ rfl).row (hT 0 _ rfl).cap _ hx1935)) (fun s w h => za8 [some 3] (by decide) w h rfl) (zau V27 rfl) (fun s w h => za8 [some 3] (by decide) w h rfl) (cur2 (fun A1937 c1938 => ?_)) (fun g1995 => ?_)
        · skip
          refine a_one 14 rfl rfl (by kernel_rfl) rfl (zau V27 rfl) (fun s w h => za8 [some 4] (by decide) w h rfl) (fun g1995 => ?_)
          refine a_one 16 rfl rfl (by kernel_rfl) rfl (zam (i := 0) rfl rfl rfl Z27 rfl rfl) (fun s w h => za8 [some 4] (by decide) w h rfl) (fun _ => ?_)
          refine a_one 17 rfl rfl (by kernel_rfl) rfl (e_store (i := 3) rfl rfl rfl rfl Z25 rfl rfl) (fun s w h => za8 [some 4] (by decide) w h rfl) (fun _ => ?_)
          refine zay (by kernel_rfl) ?_
          refine zat (l1936, g1995, g2055, A1937, c1938) h ⟨rfl, rfl, trivial⟩ (fun w h => za7 [4, 0, 3, 1] (by decide) rfl w h) ?_
          repeat (first | exact zac _ _ | refine zai rfl ?_ | refine zad rfl ?_ | refine zaj rfl ?_)
        · skip
          refine a_one 13 rfl rfl (by kernel_rfl) rfl (za9 0 Z Tryz.func74 N74 rfl rfl rfl (fun w P1 hF hB hS hT => slices_Repeat_int_int.calls A1515 c1516 (([(-1)] : List Int).length) ([(-1)] : List Int) (mx (mn a0_0 46) 0) hB hF (hT 1 _ rfl).row (hT 1 _ rfl).cap _ hx1935)) (fun s w h => za8 [some 4] (by decide) w h rfl) (cur2 (fun A1937 c1938 => ?_))
          refine a_one 16 rfl rfl (by kernel_rfl) rfl (zam (i := 1) rfl rfl rfl Z27 rfl rfl) (fun s w h => za8 [some 4] (by decide) w h rfl) (fun _ => ?_)
          refine a_one 17 rfl rfl (by kernel_rfl) rfl (e_store (i := 3) rfl rfl rfl rfl Z25 rfl rfl) (fun s w h => za8 [some 4] (by decide) w h rfl) (fun _ => ?_)
          refine zay (by kernel_rfl) ?_
          refine zat (l1936, g1995, g2055, A1937, c1938) h ⟨rfl, rfl, trivial⟩ (fun w h => za7 [4, 1, 3, 0] (by decide) rfl w h) ?_
          repeat (first | exact zac _ _ | refine zai rfl ?_ | refine zad rfl ?_ | refine zaj rfl ?_)
      · skip
        refine a_one 6 rfl rfl (by kernel_rfl) rfl (e_lit (vs := [(0, .int .i64 (-1))]) (cs := [.int .i64 (-1)]) (Kd.int .i64) ([(-1)] : List Int) Tryz.underlying25 I3 (by decide) rfl (by decide) rfl rfl (fun _ _ => Kd.zav _)) (fun s w h => za8 [some 3] (by decide) w h rfl) (cur2 (fun A1515 c1516 => ?_))
        refine a_one 13 rfl rfl (by kernel_rfl) rfl (za9 0 Z Tryz.func74 N74 rfl rfl rfl (fun w P1 hF hB hS hT => slices_Repeat_int_int.calls A1515 c1516 (([(-1)] : List Int).length) ([(-1)] : List Int) (mx (mn a0_0 46) 0) hB hF (hT 0 _ rfl).row (hT 0 _ rfl).cap _ hx1935)) (fun s w h => za8 [some 4] (by decide) w h rfl) (cur2 (fun A1937 c1938 => ?_))
        refine a_one 16 rfl rfl (by kernel_rfl) rfl (zam (i := 2) rfl rfl rfl Z27 rfl rfl) (fun s w h => za8 [some 4] (by decide) w h rfl) (fun _ => ?_)
        refine a_one 17 rfl rfl (by kernel_rfl) rfl (e_store (i := 3) rfl rfl rfl rfl Z25 rfl rfl) (fun s w h => za8 [some 4] (by decide) w h rfl) (fun _ => ?_)
        refine zay (by kernel_rfl) ?_
        refine zat (l1936, g1995, g2055, A1937, c1938) h ⟨rfl, rfl, trivial⟩ (fun w h => za7 [4, 2, 3, 0] (by decide) rfl w h) ?_
        repeat (first | exact zac _ _ | refine zai rfl ?_ | refine zad rfl ?_ | refine zaj rfl ?_)
  · skip
    refine (cur5 (fun l1146 g1144 g1145 A1147 c1148 => fun U1152 hJ1153 => ?_))
    have e_ := Option.some.inj hJ1153; have h := hR1151; rw [← e_] at h; clear e_ hJ1153 hR1151 hl1150
    refine c_seq ?_
    refine za0 ?_
    refine o_q rfl rfl (q_func rfl rfl) ?_
    refine o_q rfl rfl (q_asg rfl) ?_
    refine o_end ?_
    refine za1 ?_
    refine c_seq ?_
    refine c_seq ?_
    refine za0 ?_
    refine o_q rfl rfl (za2 rfl) ?_
    refine o_q rfl rfl (q_nil rfl) ?_
    refine o_q rfl rfl (q_f F38_1 rfl) ?_
    refine o_q rfl rfl (q_ldb Y25 rfl (fun w h => B0.now Z h) rfl) ?_
    refine o_q rfl rfl (q_len Tryz.underlying25 rfl) ?_
    refine o_q rfl rfl (za2 rfl) ?_
    refine o_end ?_
    refine za1 ?_
    refine zal ?_
    refine za6 h (fun o2304 hl2303 hR2302 => ?_) rfl
    clear h
    refine c_fact (p := l0_1.length ≤ 9223372036854775807) (fun w h => (R0_1.now Z h).2.1) (fun hm2301 => ?_)
    refine zb1 (σ := (List Int) × (List Int) × Int) (fun k2299 ((ys2298, l2295, i2296) : (List Int) × (List Int) × Int) => Rg l0_1 i2296 ys2298 ∧ ys2298.length = k2299 ∧ impl_RegCode_read.l0 ys2298 l2295 i2296 = some o2304) [3, 7, 8, 33, 34, 35, 36, 37, 38, 39, 40, 41, 42, 43, 44, 45, 46, 47, 48, 49, 50, 51, 52, 53, 54] (fun ((ys2298, l2295, i2296) : (List Int) × (List Int) × Int) => [(33, .int .i64 i2296)]) (fun ((ys2298, l2295, i2296) : (List Int) × (List Int) × Int) => [box g1 27 #[.int .i64 0, .slice none 0 0, .slice none 0 0], box g1144 27 #[.int .i64 (l0_1.length : Int), .slice none 0 0, .slice none 0 0], box g1145 25 #[.slice A1147 l1146.length c1148], row (Kd.int .i64) 3 (.slice A1147 l1146.length c1148) l2295]) l0_1.length (l0_1, l1146, 0) ⟨Rg.start _, rfl, hl2303⟩ ⟨rfl, trivial⟩ (fun w h => h) ?_
    refine fun k2299 => cur3 (listC (fun l2295 i2296 U2305 hJ_ => ?_) (fun y2297 ys2298 l2295 i2296 U2305 hJ_ => ?_))
    · skip
      clear hl2303
      have hr2300 := hJ_.1; have hk2306 := hJ_.2.1; have h := hJ_.2.2; clear hJ_
      replace h : impl_RegCode_read.l0 [] l2295 i2296 = some o2304 := h
      rw [impl_RegCode_read.l0] at h
      refine c_seq ?_
      refine za0 ?_
      refine o_q rfl rfl (q_lss rfl rfl) ?_
      refine o_end ?_
      refine za1 ?_
      refine c_seq ?_
      refine c_false (congrArg Value.bool hr2300.ge) ?_
      refine c_exit ?_
      refine zaa ?_
      refine zaa ?_
      have e_ := Option.some.inj h; replace h := hR2302; rw [← e_] at h; clear e_
      refine x_hit ?_
      refine za1 ?_
      refine c_seq ?_
      refine c_seq ?_
      refine za0 ?_
      refine o_q rfl rfl (za2 rfl) ?_
      refine o_q rfl rfl (q_nil rfl) ?_
      refine o_q rfl rfl (q_f F38_2 rfl) ?_
      refine o_q rfl rfl (q_ldb Y36 rfl (fun w h => B0.now Z h) rfl) ?_
      refine o_q rfl rfl (q_len Tryz.underlying36 rfl) ?_
      refine o_q rfl rfl (za2 rfl) ?_
      refine o_end ?_
      refine za1 ?_
      refine zal ?_
      refine c_nil kStep 72 ?_
      refine za6 h (fun o2320 hl2319 hR2318 => ?_) rfl
      clear h
      refine c_fact (p := l0_2.length ≤ 9223372036854775807) (fun w h => (R0_2.now Z h).2.1) (fun hm2317 => ?_)
      refine zb1 (σ := (List SRegOp) × (List Int) × (List SStep) × Int × (Option Addr) × Nat) (fun k2315 ((ys2314, l2308, l2309, i2312, A2310, c2311) : (List SRegOp) × (List Int) × (List SStep) × Int × (Option Addr) × Nat) => Rg l0_2 i2312 ys2314 ∧ ys2314.length = k2315 ∧ impl_RegCode_read.l1 l0_1 ys2314 l2308 l2309 i2312 = some o2320) [3, 10, 60, 61, 62, 63, 64, 65, 66, 67, 68, 69, 70, 71, 72, 73, 74, 75, 76, 77, 78, 79, 80, 81, 82, 83, 84, 85, 86, 87, 88, 89, 90, 91, 92, 93, 94, 95, 96, 97, 98, 99, 100, 101, 102, 103, 104, 105, 106, 107, 108, 109, 110, 111, 112, 113, 114, 115, 116, 117, 118, 119, 120, 121, 122] (fun ((ys2314, l2308, l2309, i2312, A2310, c2311) : (List SRegOp) × (List Int) × (List SStep) × Int × (Option Addr) × Nat) => [(60, .int .i64 i2312)]) (fun ((ys2314, l2308, l2309, i2312, A2310, c2311) : (List SRegOp) × (List Int) × (List SStep) × Int × (Option Addr) × Nat) => [row kStep 72 (.slice A2310 l2309.length c2311) l2309, box g1 27 #[.int .i64 0, .slice none 0 0, .slice none 0 0], box g1144 27 #[.int .i64 (l0_1.length : Int), .slice A2310 l2309.length c2311, .slice none 0 0], box g1145 25 #[.slice A1147 l1146.length c1148], row (Kd.int .i64) 3 (.slice A1147 l1146.length c1148) l2308]) l0_2.length (l0_2, l2295, ([] : List SStep), 0, none, 0) ⟨Rg.start _, rfl, hl2319⟩ ⟨rfl, trivial⟩ (fun w h => h) ?_
      refine fun k2315 => cur6 (listC (fun l2308 l2309 i2312 A2310 c2311 U2321 hJ_ => ?_) (fun y2313 ys2314 l2308 l2309 i2312 A2310 c2311 U2321 hJ_ => ?_))
      · skip
        clear hl2319
        have hr2316 := hJ_.1; have hk2322 := hJ_.2.1; have h := hJ_.2.2; clear hJ_
        replace h : impl_RegCode_read.l1 l0_1 [] l2308 l2309 i2312 = some o2320 := h
        rw [impl_RegCode_read.l1] at h
        refine c_seq ?_
        refine za0 ?_
        refine o_q rfl rfl (q_lss rfl rfl) ?_
        refine o_end ?_
        refine za1 ?_
        refine c_seq ?_
        refine c_false (congrArg Value.bool hr2316.ge) ?_
        refine c_exit ?_
        refine zaa ?_
        refine zaa ?_
        have e_ := Option.some.inj h; replace h := hR2318; rw [← e_] at h; clear e_
        refine x_hit ?_
        refine za1 ?_
        refine c_seq ?_
        refine c_seq ?_
        refine za0 ?_
        refine o_q rfl rfl (za2 rfl) ?_
        refine o_q rfl rfl (q_nil rfl) ?_
        refine o_q rfl rfl (q_f F38_3 rfl) ?_
        refine o_q rfl rfl (q_ldb Y25 rfl (fun w h => B0.now Z h) rfl) ?_
        refine o_q rfl rfl (q_len Tryz.underlying25 rfl) ?_
        refine o_q rfl rfl (za2 rfl) ?_
        refine o_end ?_
        refine za1 ?_
        refine zal ?_
        refine c_nil (Kd.int .i64) 3 ?_
        refine za6 h (fun o2335 hl2334 hR2333 => ?_) rfl
        clear h
        refine c_fact (p := l0_3.length ≤ 9223372036854775807) (fun w h => (R0_3.now Z h).2.1) (fun hm2332 => ?_)
        refine zb1 (σ := (List Int) × (List Int) × Int × (Option Addr) × Nat) (fun k2330 ((ys2329, l2324, i2327, A2325, c2326) : (List Int) × (List Int) × Int × (Option Addr) × Nat) => Rg l0_3 i2327 ys2329 ∧ ys2329.length = k2330 ∧ impl_RegCode_read.l2 l2308 ys2329 l2324 i2327 = some o2335) [3, 12, 128, 129, 130, 131, 132, 133, 134, 135, 136, 137, 138, 139, 140, 141, 142, 143, 144, 145, 146, 147, 148, 149, 150, 151, 152, 153] (fun ((ys2329, l2324, i2327, A2325, c2326) : (List Int) × (List Int) × Int × (Option Addr) × Nat) => [(128, .int .i64 i2327)]) (fun ((ys2329, l2324, i2327, A2325, c2326) : (List Int) × (List Int) × Int × (Option Addr) × Nat) => [row (Kd.int .i64) 3 (.slice A2325 l2324.length c2326) l2324, row kStep 72 (.slice A2310 l2309.length c2311) l2309, box g1 27 #[.int .i64 0, .slice none 0 0, .slice none 0 0], box g1144 27 #[.int .i64 (l0_1.length : Int), .slice A2310 l2309.length c2311, .slice A2325 l2324.length c2326], box g1145 25 #[.slice A1147 l1146.length c1148], row (Kd.int .i64) 3 (.slice A1147 l1146.length c1148) l2308]) l0_3.length (l0_3, ([] : List Int), 0, none, 0) ⟨Rg.start _, rfl, hl2334⟩ ⟨rfl, trivial⟩ (fun w h => h) ?_
        refine fun k2330 => cur5 (listC (fun l2324 i2327 A2325 c2326 U2336 hJ_ => ?_) (fun y2328 ys2329 l2324 i2327 A2325 c2326 U2336 hJ_ => ?_))
        · skip
          clear hl2334
          have hr2331 := hJ_.1; have hk2337 := hJ_.2.1; have h := hJ_.2.2; clear hJ_
          replace h : impl_RegCode_read.l2 l2308 [] l2324 i2327 = some o2335 := h
          rw [impl_RegCode_read.l2] at h
          refine c_seq ?_
          refine za0 ?_
          refine o_q rfl rfl (q_lss rfl rfl) ?_
          refine o_end ?_
          refine za1 ?_
          refine c_seq ?_
          refine c_false (congrArg Value.bool hr2331.ge) ?_
          refine c_exit ?_
          refine zaa ?_
          refine zaa ?_
          have e_ := Option.some.inj h; replace h := hR2333; rw [← e_] at h; clear e_
          refine x_hit ?_
          refine za1 ?_
          refine c_seq ?_
          refine a_startS (ds := []) [some 0, some 1, none, some 3, some 4, some 5] MO rfl ?_
          refine zaz 0 rfl rfl rfl (by kernel_rfl) (fun _ _ _ h => h) (fun w h => za8 [some 0, some 1, none, some 3, some 4, some 5] (by decide) w h rfl) (q_ldB G27 Z27 rfl (fun w h => h.zae (i := 3) rfl) rfl) ?_
          refine zab 1 rfl rfl rfl (by kernel_rfl) (fun _ _ _ h => h) (za2 rfl) ?_
          refine zab 2 rfl rfl rfl (by kernel_rfl) (fun _ _ _ h => h) (q_nil rfl) ?_
          refine zab 3 rfl rfl rfl (by kernel_rfl) (fun _ _ _ h => h) (q_f F38_0 rfl) ?_
          refine zaz 4 rfl rfl rfl (by kernel_rfl) (fun _ _ _ h => h) (fun w h => za8 [some 0, some 1, none, some 3, some 4, some 5] (by decide) w h rfl) (q_ldb Y3 rfl (fun w h => B0.now Z h) rfl) ?_
          refine za6 h (fun b2339 hx2338 h => ?_) rfl
          refine a_one 5 rfl rfl (by kernel_rfl) rfl (za9 0 Z Tryz.func88 N88 rfl rfl rfl (fun w P1 hF hB hS hT => impl_in.calls a0_0 1 46 hB hF _ hx2338)) (fun s w h => za8 [some 0, some 1, none, some 3, some 4, some 5] (by decide) w h rfl) (fun _ => ?_)
          refine a_one 6 rfl rfl (by kernel_rfl) rfl (zam (i := 2) rfl rfl rfl Z27 rfl rfl) (fun s w h => za8 [some 0, some 1, none, some 3, some 4, some 5] (by decide) w h rfl) (fun _ => ?_)
          refine zab 7 rfl rfl rfl (by kernel_rfl) (fun _ _ _ h => h) (q_asg rfl) ?_
          refine zay (by kernel_rfl) ?_
          refine za1 ?_
          refine c_ret ?_
          have e0_ := Option.some.inj h; clear h
          have d0_ := (Prod.mk.inj e0_).1; have e1_ := (Prod.mk.inj e0_).2; clear e0_; subst d0_
          have d1_ := (Prod.mk.inj e1_).1; have e2_ := (Prod.mk.inj e1_).2; clear e1_; subst d1_
          have d2_ := (Prod.mk.inj e2_).1; have e3_ := (Prod.mk.inj e2_).2; clear e2_; subst d2_
          subst e3_
          exact x_r2 (A2310, c2311, A2325, c2326) Tryz.results111 (rv_cell rfl G27 Z27 (fun w h => h.zae (i := 2) rfl) rfl) (zaf rfl) rfl (fun w h => za7 [1, 0] (by decide) rfl w h)
        · skip
          clear hl2334
          have hr2331 := hJ_.1; have hk2337 := hJ_.2.1; have h := hJ_.2.2; clear hJ_
          replace h : impl_RegCode_read.l2 l2308 (y2328 :: ys2329) l2324 i2327 = some o2335 := h
          rw [impl_RegCode_read.l2] at h
          refine c_seq ?_
          refine za0 ?_
          refine o_q rfl rfl (q_lss rfl rfl) ?_
          refine o_end ?_
          refine za1 ?_
          refine c_seq ?_
          refine c_true (congrArg Value.bool hr2331.lt) ?_
          refine zak ?_
          refine za1 ?_
          refine c_seq ?_
          refine zal ?_
          refine c_seq ?_
          refine za0 ?_
          refine zb2 (p := Sh A0_3 l0_3.length l0_3.length) (fun w h => f_sh (dk := (Kd.int .i64)) h (fun w h => R0_3.now Z h)) (fun hq2340 => ?_)
          refine o_q rfl rfl (q_ix Tryz.underlying25 Z3 rfl rfl hq2340 hr2331.get) ?_
          refine o_q rfl rfl (q_lde (off := 0) Y3 rfl rfl (fun w h => R0_3.now Z h) hr2331.get (fun _ _ h => h) rfl) ?_
          refine o_q rfl rfl (q_asg rfl) ?_
          refine o_end ?_
          refine za1 ?_
          refine c_seq ?_
          refine za6 h (fun o2348 hl2349 hR2350 => ?_) rfl
          clear h
          refine c_cutJ (σ := Bool) (fun b2347 => some b2347 = some o2348) [132, 133, 134, 135, 136, 137, 138, 139, 140, 141, 142] (fun b2347 => [(142, .bool b2347)]) (fun b2347 => [box g1 27 #[.int .i64 0, .slice none 0 0, .slice none 0 0], box g1144 27 #[.int .i64 (l0_1.length : Int), .slice A2310 l2309.length c2311, .slice A2325 l2324.length c2326], row kStep 72 (.slice A2310 l2309.length c2311) l2309, row (Kd.int .i64) 3 (.slice A2325 l2324.length c2326) l2324, box g1145 25 #[.slice A1147 l1146.length c1148], row (Kd.int .i64) 3 (.slice A1147 l1146.length c1148) l2308]) ?_ ?_
          · skip
            have h := hl2349; clear hl2349
            clear hR2350
            refine za0 ?_
            refine o_q rfl rfl (za2 rfl) ?_
            refine o_q rfl rfl (za2 rfl) ?_
            refine za6 h (fun b2354 hx2353 h => ?_) rfl
            refine o_e rfl (za9 0 Z Tryz.func137 N137 rfl rfl rfl (fun w P1 hF hB hS hT => impl_RegCode_read_1.calls y2328 g1145 A1147 c1148 l1146.length l2308 hB hF (hT 5 _ rfl).row (hT 5 _ rfl).cap (hT 4 _ rfl).box _ hx2353)) (fun _ => ?_)
            refine o_q rfl rfl (q_not rfl) ?_
            refine o_q rfl rfl (za2 rfl) ?_
            refine byB b2354 (fun hb2355 => ?_) (fun hb2355 => ?_)
            · replace h := bb_t hb2355 h
              refine o_w (za4 rfl rfl rfl (congrArg (fun b => Value.bool (!(b))) hb2355)) rfl (q_ldb Y25 rfl (fun w h => h.zae (i := 4) rfl) rfl) ?_
              refine o_w (za4 rfl rfl rfl (congrArg (fun b => Value.bool (!(b))) hb2355)) rfl (za2 rfl) ?_
              refine zb2 (p := Sh A1147 l1146.length l2308.length) (fun w h => f_sh (dk := (Kd.int .i64)) h (fun w h => h.zan (i := 5) rfl)) (fun hq2356 => ?_)
              refine za6 h (fun y2358 hg2357 h => ?_) rfl
              refine o_w (za4 rfl rfl rfl (congrArg (fun b => Value.bool (!(b))) hb2355)) rfl (q_ix Tryz.underlying25 Z3 rfl rfl hq2356 hg2357) ?_
              refine o_w (za4 rfl rfl rfl (congrArg (fun b => Value.bool (!(b))) hb2355)) rfl (q_lde (off := 0) Y3 rfl rfl (fun w h => h.zan (i := 5) rfl) hg2357 (fun _ _ h => h) rfl) ?_
              refine o_w (za4 rfl rfl rfl (congrArg (fun b => Value.bool (!(b))) hb2355)) rfl (q_eql rfl rfl) ?_
              refine o_q rfl rfl (zas false (congrArg (fun b => Value.bool (!(b))) hb2355) rfl) ?_
              refine o_end ?_
              refine zat (decide (y2358 = (-1))) h ⟨rfl, trivial⟩ (fun w h => za7 [2, 3, 1, 0, 4, 5] (by decide) rfl w h) ?_
              repeat (first | exact zac _ _ | refine zai rfl ?_ | refine zad rfl ?_ | refine zaj rfl ?_)
            · replace h := bb_f hb2355 h
              refine @o_n _ _ _ _ _ _ _ _ _ _ _ 137 (za3 rfl rfl rfl (congrArg (fun b => Value.bool (!(b))) hb2355) rfl) (Eq.refl (some 137)) ?_
              refine @o_n _ _ _ _ _ _ _ _ _ _ _ 138 (za3 rfl rfl rfl (congrArg (fun b => Value.bool (!(b))) hb2355) rfl) (Eq.refl (some 138)) ?_
              refine @o_n _ _ _ _ _ _ _ _ _ _ _ 139 (za3 rfl rfl rfl (congrArg (fun b => Value.bool (!(b))) hb2355) rfl) (Eq.refl (some 139)) ?_
              refine @o_n _ _ _ _ _ _ _ _ _ _ _ 140 (za3 rfl rfl rfl (congrArg (fun b => Value.bool (!(b))) hb2355) rfl) (Eq.refl (some 140)) ?_
              refine @o_n _ _ _ _ _ _ _ _ _ _ _ 141 (za3 rfl rfl rfl (congrArg (fun b => Value.bool (!(b))) hb2355) rfl) (Eq.refl (some 141)) ?_
              refine o_q rfl rfl (zas true (congrArg (fun b => Value.bool (!(b))) hb2355) rfl) ?_
              refine o_end ?_
              refine zat true h ⟨rfl, trivial⟩ (fun w h => za7 [2, 3, 1, 0, 4, 5] (by decide) rfl w h) ?_
              repeat (first | exact zac _ _ | refine zai rfl ?_ | refine zad rfl ?_ | refine zaj rfl ?_)
          · skip
            refine (fun b2347 => fun U2351 hJ2352 => ?_)
            have e_ := Option.some.inj hJ2352; have h := hR2350; rw [← e_] at h; clear e_ hJ2352 hR2350 hl2349
            refine zaq _ rfl (fun hb2359 => ?_) (fun hb2359 => ?_)
            · skip
              replace h := bb_t hb2359 h
              refine c_seq ?_
              refine za0 ?_
              refine o_q rfl rfl (q_build (vs := []) (cs := [.int .i64 0, .slice none 0 0, .slice none 0 0]) rfl rfl) ?_
              refine o_e rfl (zam (i := 0) rfl rfl rfl Z27 rfl rfl) (fun _ => ?_)
              refine o_q rfl rfl (q_asg rfl) ?_
              refine o_end ?_
              refine za1 ?_
              refine c_ret ?_
              refine za5 ?_
              refine zah ?_
              refine za5 ?_
              refine za5 ?_
              have e_ := Option.some.inj h; replace h := hR2333; rw [← e_] at h; clear e_
              refine zah ?_
              refine za5 ?_
              refine x_nil kStep 72 ?_
              refine x_nil (Kd.int .i64) 3 ?_
              have e0_ := Option.some.inj h; clear h
              have d0_ := (Prod.mk.inj e0_).1; have e1_ := (Prod.mk.inj e0_).2; clear e0_; subst d0_
              have d1_ := (Prod.mk.inj e1_).1; have e2_ := (Prod.mk.inj e1_).2; clear e1_; subst d1_
              have d2_ := (Prod.mk.inj e2_).1; have e3_ := (Prod.mk.inj e2_).2; clear e2_; subst d2_
              subst e3_
              exact x_r2 (none, 0, none, 0) Tryz.results111 (rv_cell rfl G27 Z27 (fun w h => h.zae (i := 2) rfl) rfl) (zaf rfl) rfl (fun w h => za7 [1, 0] (by decide) rfl w h)
            · skip
              replace h := bb_f hb2359 h
              refine zak ?_
              refine za1 ?_
              refine za6 h (fun y2603 hg2602 h => ?_) rfl
              refine za6 h (fun l2781 ha2782 h => ?_) rfl
              refine a_startS (ds := []) [some 0, none, some 2, none, some 4, some 5] MO rfl ?_
              refine zab 0 rfl rfl rfl (by kernel_rfl) (fun _ _ _ h => h) (q_f F27_2 rfl) ?_
              refine zaz 2 rfl rfl rfl (by kernel_rfl) (fun _ _ _ h => h) (fun w h => za8 [some 0, none, some 2, none, some 4, some 5] (by decide) w h rfl) (q_ldb Y25 rfl (fun w h => h.zae (i := 4) rfl) rfl) ?_
              refine zab 3 rfl rfl rfl (by kernel_rfl) (fun _ _ _ h => h) (za2 rfl) ?_
              refine a_fact (p := Sh A1147 l1146.length l2308.length) (fun w h => f_sh (dk := (Kd.int .i64)) h (fun w h => h.zan (i := 5) rfl)) (fun hq2601 => ?_)
              refine zab 4 rfl rfl rfl (by kernel_rfl) (fun _ _ _ h => h) (q_ix Tryz.underlying25 Z3 rfl rfl hq2601 hg2602) ?_
              refine zaz 5 rfl rfl rfl (by kernel_rfl) (fun _ _ _ h => h) (fun w h => za8 [some 0, none, some 2, none, some 4, some 5] (by decide) w h rfl) (q_lde (off := 0) Y3 rfl rfl (fun w h => h.zan (i := 5) rfl) hg2602 (fun _ _ h => h) rfl) ?_
              refine a_two 1 6 rfl rfl rfl rfl (by kernel_rfl) rfl rfl (ev_q rfl (q_ldb Y25 rfl (fun w h => h.zae (i := 1) rfl) rfl)) (fun s w h => za8 [some 0, none, some 2, none, some 4, some 5] (by decide) w h rfl) (e_lit (vs := [(0, .int .i64 y2603)]) (cs := [.int .i64 y2603]) (Kd.int .i64) ([y2603] : List Int) Tryz.underlying25 I3 (by decide) rfl (by decide) rfl rfl (fun _ _ => Kd.zav _)) (fun s w h => za8 [some 1, none, some 3, none, some 5, some 6] (by decide) w h rfl) (fun _ => ?_) (cur2 (fun A2721 c2722 => ?_))
              · skip
                refine a_one 6 rfl rfl (by kernel_rfl) rfl (e_lit (vs := [(0, .int .i64 y2603)]) (cs := [.int .i64 y2603]) (Kd.int .i64) ([y2603] : List Int) Tryz.underlying25 I3 (by decide) rfl (by decide) rfl rfl (fun _ _ => Kd.zav _)) (fun s w h => za8 [some 1, none, some 3, none, some 5, some 6] (by decide) w h rfl) (cur2 (fun A2721 c2722 => ?_))
                refine a_one 7 rfl rfl (by kernel_rfl) rfl (e_app (i := 4) (j := 0) Tryz.underlying25 I3 rfl (by decide) (by decide) rfl rfl rfl rfl rfl ha2782) (fun s w h => za8 [some 1, none, some 3, none, some 5, some 6] (by decide) w h rfl) (cur2 (fun A2783 c2784 => ?_))
                refine zab 8 rfl rfl rfl (by kernel_rfl) (fun _ _ _ h => h) (q_f F27_2 rfl) ?_
                refine a_one 9 rfl rfl (by kernel_rfl) rfl (e_store (i := 2) rfl rfl rfl rfl Z25 rfl rfl) (fun s w h => za8 [some 1, none, some 3, none, some 5, some 6] (by decide) w h rfl) (fun _ => ?_)
                refine zay (by kernel_rfl) ?_
                refine zaw ?_
                refine za1 ?_
                refine za0 ?_
                refine o_q rfl rfl (q_up rfl rfl (hr2331.up hm2332)) ?_
                refine o_q rfl rfl (za2 rfl) ?_
                refine o_end ?_
                refine zao ys2329.length (ys2329, l2781, i2327 + 1, A2783, c2784) (by rw [← hk2337]; exact Nat.lt_succ_self _) ⟨hr2331.step, rfl, h⟩ ⟨rfl, trivial⟩ (fun w h => za7 [4, 3, 1, 2, 5, 6] (by decide) rfl w h) ?_
                repeat (first | exact zac _ _ | refine zai rfl ?_ | refine zad rfl ?_ | refine zaj rfl ?_)
              · skip
                refine a_one 1 rfl rfl (by kernel_rfl) rfl (ev_q rfl (q_ldb Y25 rfl (fun w h => h.zae (i := 2) rfl) rfl)) (fun s w h => za8 [some 1, none, some 3, none, some 5, some 6] (by decide) w h rfl) (fun _ => ?_)
                refine a_one 7 rfl rfl (by kernel_rfl) rfl (e_app (i := 4) (j := 0) Tryz.underlying25 I3 rfl (by decide) (by decide) rfl rfl rfl rfl rfl ha2782) (fun s w h => za8 [some 1, none, some 3, none, some 5, some 6] (by decide) w h rfl) (cur2 (fun A2783 c2784 => ?_))
                refine zab 8 rfl rfl rfl (by kernel_rfl) (fun _ _ _ h => h) (q_f F27_2 rfl) ?_
                refine a_one 9 rfl rfl (by kernel_rfl) rfl (e_store (i := 2) rfl rfl rfl rfl Z25 rfl rfl) (fun s w h => za8 [some 1, none, some 3, none, some 5, some 6] (by decide) w h rfl) (fun _ => ?_)
                refine zay (by kernel_rfl) ?_
                refine zaw ?_
                refine za1 ?_
                refine za0 ?_
                refine o_q rfl rfl (q_up rfl rfl (hr2331.up hm2332)) ?_
                refine o_q rfl rfl (za2 rfl) ?_
                refine o_end ?_
                refine zao ys2329.length (ys2329, l2781, i2327 + 1, A2783, c2784) (by rw [← hk2337]; exact Nat.lt_succ_self _) ⟨hr2331.step, rfl, h⟩ ⟨rfl, trivial⟩ (fun w h => za7 [4, 3, 1, 2, 5, 6] (by decide) rfl w h) ?_
                repeat (first | exact zac _ _ | refine zai rfl ?_ | refine zad rfl ?_ | refine zaj rfl ?_)
      · skip
        clear hl2319
        have hr2316 := hJ_.1; have hk2322 := hJ_.2.1; have h := hJ_.2.2; clear hJ_
        replace h : impl_RegCode_read.l1 l0_1 (y2313 :: ys2314) l2308 l2309 i2312 = some o2320 := h
        rw [impl_RegCode_read.l1] at h
        refine c_seq ?_
        refine za0 ?_
        refine o_q rfl rfl (q_lss rfl rfl) ?_
        refine o_end ?_
        refine za1 ?_
        refine c_seq ?_
        refine c_true (congrArg Value.bool hr2316.lt) ?_
        refine zak ?_
        refine za1 ?_
        refine c_seq ?_
        refine zal ?_
        refine c_seq ?_
        refine za0 ?_
        refine zb2 (p := Sh A0_2 l0_2.length l0_2.length) (fun w h => f_sh (dk := zax) h (fun w h => R0_2.now Z h)) (fun hq3021 => ?_)
        refine o_q rfl rfl (q_ix Tryz.underlying36 Z84 rfl rfl hq3021 hr2316.get) ?_
        refine o_q rfl rfl (q_ldE G84 Z84 rfl rfl (fun w h => R0_2.now Z h) hr2316.get (fun _ _ h => h) rfl) ?_
        refine o_e rfl (zau V84 rfl) (fun g3022 => ?_)
        refine o_e rfl (zam (i := 0) rfl rfl rfl Z84 rfl rfl) (fun _ => ?_)
        refine o_end ?_
        refine za1 ?_
        refine c_seq ?_
        refine za6 h (fun o3040 hl3041 hR3042 => ?_) rfl
        clear h
        refine c_cutJ (σ := Bool) (fun b3039 => some b3039 = some o3040) [64, 65, 66, 67, 68, 69, 70, 71, 72, 73, 74, 75, 76, 77, 78, 79, 80, 81, 82, 83, 84, 85, 86, 87, 88, 89, 90, 91, 92, 93, 94, 95, 96, 97, 98] (fun b3039 => [(98, .bool b3039)]) (fun b3039 => [box g1 27 #[.int .i64 0, .slice none 0 0, .slice none 0 0], box g1144 27 #[.int .i64 (l0_1.length : Int), .slice A2310 l2309.length c2311, .slice none 0 0], row kStep 72 (.slice A2310 l2309.length c2311) l2309, box g1145 25 #[.slice A1147 l1146.length c1148], row (Kd.int .i64) 3 (.slice A1147 l1146.length c1148) l2308, box g3022 84 #[.int .i64 y2313.f0, .int .i64 y2313.f1, .int .i64 y2313.f2]]) ?_ ?_
        · skip
          have h := hl3041; clear hl3041
          clear hR3042
          refine za0 ?_
          refine o_q rfl rfl (za2 rfl) ?_
          refine o_q rfl rfl (q_f F84_0 rfl) ?_
          refine o_q rfl rfl (q_ldb Y3 rfl (fun w h => h.zae (i := 0) rfl) rfl) ?_
          refine za6 h (fun b3046 hx3045 h => ?_) rfl
          refine o_e rfl (za9 0 Z Tryz.func137 N137 rfl rfl rfl (fun w P1 hF hB hS hT => impl_RegCode_read_1.calls y2313.f0 g1145 A1147 c1148 l1146.length l2308 hB hF (hT 5 _ rfl).row (hT 5 _ rfl).cap (hT 4 _ rfl).box _ hx3045)) (fun _ => ?_)
          refine o_q rfl rfl (q_not rfl) ?_
          refine o_q rfl rfl (za2 rfl) ?_
          refine byB b3046 (fun hb3047 => ?_) (fun hb3047 => ?_)
          · replace h := bb_t hb3047 h
            refine o_w (za4 rfl rfl rfl (congrArg (fun b => Value.bool (!(b))) hb3047)) rfl (za2 rfl) ?_
            refine o_w (za4 rfl rfl rfl (congrArg (fun b => Value.bool (!(b))) hb3047)) rfl (q_f F84_1 rfl) ?_
            refine o_w (za4 rfl rfl rfl (congrArg (fun b => Value.bool (!(b))) hb3047)) rfl (q_ldb Y3 rfl (fun w h => h.zae (i := 0) rfl) rfl) ?_
            refine za6 h (fun b3049 hx3048 h => ?_) rfl
            refine o_ew (za4 rfl rfl rfl (congrArg (fun b => Value.bool (!(b))) hb3047)) (za9 0 Z Tryz.func137 N137 rfl rfl rfl (fun w P1 hF hB hS hT => impl_RegCode_read_1.calls y2313.f1 g1145 A1147 c1148 l1146.length l2308 hB hF (hT 5 _ rfl).row (hT 5 _ rfl).cap (hT 4 _ rfl).box _ hx3048)) (fun _ => ?_)
            refine o_w (za4 rfl rfl rfl (congrArg (fun b => Value.bool (!(b))) hb3047)) rfl (q_not rfl) ?_
            refine o_q rfl rfl (zas false (congrArg (fun b => Value.bool (!(b))) hb3047) rfl) ?_
            refine o_q rfl rfl (za2 rfl) ?_
            refine byB b3049 (fun hb3050 => ?_) (fun hb3050 => ?_)
            · replace h := bb_t hb3050 h
              refine o_w (za4 rfl rfl rfl (congrArg (fun b => Value.bool (!(b))) hb3050)) rfl (za2 rfl) ?_
              refine o_w (za4 rfl rfl rfl (congrArg (fun b => Value.bool (!(b))) hb3050)) rfl (q_f F84_2 rfl) ?_
              refine o_w (za4 rfl rfl rfl (congrArg (fun b => Value.bool (!(b))) hb3050)) rfl (q_ldb Y3 rfl (fun w h => h.zae (i := 0) rfl) rfl) ?_
              refine za6 h (fun b3052 hx3051 h => ?_) rfl
              refine o_ew (za4 rfl rfl rfl (congrArg (fun b => Value.bool (!(b))) hb3050)) (za9 0 Z Tryz.func137 N137 rfl rfl rfl (fun w P1 hF hB hS hT => impl_RegCode_read_1.calls y2313.f2 g1145 A1147 c1148 l1146.length l2308 hB hF (hT 5 _ rfl).row (hT 5 _ rfl).cap (hT 4 _ rfl).box _ hx3051)) (fun _ => ?_)
              refine o_w (za4 rfl rfl rfl (congrArg (fun b => Value.bool (!(b))) hb3050)) rfl (q_not rfl) ?_
              refine o_q rfl rfl (zas false (congrArg (fun b => Value.bool (!(b))) hb3050) rfl) ?_
              refine o_q rfl rfl (za2 rfl) ?_
              refine byB b3052 (fun hb3053 => ?_) (fun hb3053 => ?_)
              · replace h := bb_t hb3053 h
                refine o_w (za4 rfl rfl rfl (congrArg (fun b => Value.bool (!(b))) hb3053)) rfl (q_ldb Y25 rfl (fun w h => h.zae (i := 4) rfl) rfl) ?_
                refine o_w (za4 rfl rfl rfl (congrArg (fun b => Value.bool (!(b))) hb3053)) rfl (q_f F84_1 rfl) ?_
                refine o_w (za4 rfl rfl rfl (congrArg (fun b => Value.bool (!(b))) hb3053)) rfl (q_ldb Y3 rfl (fun w h => h.zae (i := 0) rfl) rfl) ?_
                refine zb2 (p := Sh A1147 l1146.length l2308.length) (fun w h => f_sh (dk := (Kd.int .i64)) h (fun w h => h.zan (i := 5) rfl)) (fun hq3054 => ?_)
                refine za6 h (fun y3056 hg3055 h => ?_) rfl
                refine o_w (za4 rfl rfl rfl (congrArg (fun b => Value.bool (!(b))) hb3053)) rfl (q_ix Tryz.underlying25 Z3 rfl rfl hq3054 hg3055) ?_
                refine o_w (za4 rfl rfl rfl (congrArg (fun b => Value.bool (!(b))) hb3053)) rfl (q_lde (off := 0) Y3 rfl rfl (fun w h => h.zan (i := 5) rfl) hg3055 (fun _ _ h => h) rfl) ?_
                refine o_w (za4 rfl rfl rfl (congrArg (fun b => Value.bool (!(b))) hb3053)) rfl (q_eql rfl rfl) ?_
                refine o_q rfl rfl (zas false (congrArg (fun b => Value.bool (!(b))) hb3053) rfl) ?_
                refine o_q rfl rfl (za2 rfl) ?_
                refine byB (decide (y3056 = (-1))) (fun hb3057 => ?_) (fun hb3057 => ?_)
                · replace h := br_t hb3057 h
                  refine @o_n _ _ _ _ _ _ _ _ _ _ _ 92 (za3 rfl rfl rfl (congrArg Value.bool hb3057) rfl) (Eq.refl (some 92)) ?_
                  refine @o_n _ _ _ _ _ _ _ _ _ _ _ 93 (za3 rfl rfl rfl (congrArg Value.bool hb3057) rfl) (Eq.refl (some 93)) ?_
                  refine @o_n _ _ _ _ _ _ _ _ _ _ _ 94 (za3 rfl rfl rfl (congrArg Value.bool hb3057) rfl) (Eq.refl (some 94)) ?_
                  refine @o_n _ _ _ _ _ _ _ _ _ _ _ 95 (za3 rfl rfl rfl (congrArg Value.bool hb3057) rfl) (Eq.refl (some 95)) ?_
                  refine @o_n _ _ _ _ _ _ _ _ _ _ _ 96 (za3 rfl rfl rfl (congrArg Value.bool hb3057) rfl) (Eq.refl (some 96)) ?_
                  refine @o_n _ _ _ _ _ _ _ _ _ _ _ 97 (za3 rfl rfl rfl (congrArg Value.bool hb3057) rfl) (Eq.refl (some 97)) ?_
                  refine o_q rfl rfl (zas true (congrArg Value.bool hb3057) rfl) ?_
                  refine o_end ?_
                  refine zat true h ⟨rfl, trivial⟩ (fun w h => za7 [2, 3, 1, 4, 5, 0] (by decide) rfl w h) ?_
                  repeat (first | exact zac _ _ | refine zai rfl ?_ | refine zad rfl ?_ | refine zaj rfl ?_)
                · replace h := br_f hb3057 h
                  refine o_w (za4 rfl rfl rfl (congrArg Value.bool hb3057)) rfl (q_ldb Y25 rfl (fun w h => h.zae (i := 4) rfl) rfl) ?_
                  refine o_w (za4 rfl rfl rfl (congrArg Value.bool hb3057)) rfl (q_f F84_2 rfl) ?_
                  refine o_w (za4 rfl rfl rfl (congrArg Value.bool hb3057)) rfl (q_ldb Y3 rfl (fun w h => h.zae (i := 0) rfl) rfl) ?_
                  refine za6 h (fun y3059 hg3058 h => ?_) rfl
                  refine o_w (za4 rfl rfl rfl (congrArg Value.bool hb3057)) rfl (q_ix Tryz.underlying25 Z3 rfl rfl hq3054 hg3058) ?_
                  refine o_w (za4 rfl rfl rfl (congrArg Value.bool hb3057)) rfl (q_lde (off := 0) Y3 rfl rfl (fun w h => h.zan (i := 5) rfl) hg3058 (fun _ _ h => h) rfl) ?_
                  refine o_w (za4 rfl rfl rfl (congrArg Value.bool hb3057)) rfl (q_eql rfl rfl) ?_
                  refine o_q rfl rfl (zas false (congrArg Value.bool hb3057) rfl) ?_
                  refine o_end ?_
                  refine zat (decide (y3059 = (-1))) h ⟨rfl, trivial⟩ (fun w h => za7 [2, 3, 1, 4, 5, 0] (by decide) rfl w h) ?_
                  repeat (first | exact zac _ _ | refine zai rfl ?_ | refine zad rfl ?_ | refine zaj rfl ?_)
              · replace h := bb_f hb3053 h
                refine @o_n _ _ _ _ _ _ _ _ _ _ _ 84 (za3 rfl rfl rfl (congrArg (fun b => Value.bool (!(b))) hb3053) rfl) (Eq.refl (some 84)) ?_
                refine @o_n _ _ _ _ _ _ _ _ _ _ _ 85 (za3 rfl rfl rfl (congrArg (fun b => Value.bool (!(b))) hb3053) rfl) (Eq.refl (some 85)) ?_
                refine @o_n _ _ _ _ _ _ _ _ _ _ _ 86 (za3 rfl rfl rfl (congrArg (fun b => Value.bool (!(b))) hb3053) rfl) (Eq.refl (some 86)) ?_
                refine @o_n _ _ _ _ _ _ _ _ _ _ _ 87 (za3 rfl rfl rfl (congrArg (fun b => Value.bool (!(b))) hb3053) rfl) (Eq.refl (some 87)) ?_
                refine @o_n _ _ _ _ _ _ _ _ _ _ _ 88 (za3 rfl rfl rfl (congrArg (fun b => Value.bool (!(b))) hb3053) rfl) (Eq.refl (some 88)) ?_
                refine @o_n _ _ _ _ _ _ _ _ _ _ _ 89 (za3 rfl rfl rfl (congrArg (fun b => Value.bool (!(b))) hb3053) rfl) (Eq.refl (some 89)) ?_
                refine o_q rfl rfl (zas true (congrArg (fun b => Value.bool (!(b))) hb3053) rfl) ?_
                refine o_q rfl rfl (za2 rfl) ?_
                refine @o_n _ _ _ _ _ _ _ _ _ _ _ 92 (za3 rfl rfl rfl rfl rfl) (Eq.refl (some 92)) ?_
                refine @o_n _ _ _ _ _ _ _ _ _ _ _ 93 (za3 rfl rfl rfl rfl rfl) (Eq.refl (some 93)) ?_
                refine @o_n _ _ _ _ _ _ _ _ _ _ _ 94 (za3 rfl rfl rfl rfl rfl) (Eq.refl (some 94)) ?_
                refine @o_n _ _ _ _ _ _ _ _ _ _ _ 95 (za3 rfl rfl rfl rfl rfl) (Eq.refl (some 95)) ?_
                refine @o_n _ _ _ _ _ _ _ _ _ _ _ 96 (za3 rfl rfl rfl rfl rfl) (Eq.refl (some 96)) ?_
                refine @o_n _ _ _ _ _ _ _ _ _ _ _ 97 (za3 rfl rfl rfl rfl rfl) (Eq.refl (some 97)) ?_
                refine o_q rfl rfl (zas true rfl rfl) ?_
                refine o_end ?_
                refine zat true h ⟨rfl, trivial⟩ (fun w h => za7 [2, 3, 1, 4, 5, 0] (by decide) rfl w h) ?_
                repeat (first | exact zac _ _ | refine zai rfl ?_ | refine zad rfl ?_ | refine zaj rfl ?_)
            · replace h := bb_f hb3050 h
              refine @o_n _ _ _ _ _ _ _ _ _ _ _ 77 (za3 rfl rfl rfl (congrArg (fun b => Value.bool (!(b))) hb3050) rfl) (Eq.refl (some 77)) ?_
              refine @o_n _ _ _ _ _ _ _ _ _ _ _ 78 (za3 rfl rfl rfl (congrArg (fun b => Value.bool (!(b))) hb3050) rfl) (Eq.refl (some 78)) ?_
              refine @o_n _ _ _ _ _ _ _ _ _ _ _ 79 (za3 rfl rfl rfl (congrArg (fun b => Value.bool (!(b))) hb3050) rfl) (Eq.refl (some 79)) ?_
              refine @o_n _ _ _ _ _ _ _ _ _ _ _ 80 (za3 rfl rfl rfl (congrArg (fun b => Value.bool (!(b))) hb3050) rfl) (Eq.refl (some 80)) ?_
              refine @o_n _ _ _ _ _ _ _ _ _ _ _ 81 (za3 rfl rfl rfl (congrArg (fun b => Value.bool (!(b))) hb3050) rfl) (Eq.refl (some 81)) ?_
              refine o_q rfl rfl (zas true (congrArg (fun b => Value.bool (!(b))) hb3050) rfl) ?_
              refine o_q rfl rfl (za2 rfl) ?_
              refine @o_n _ _ _ _ _ _ _ _ _ _ _ 84 (za3 rfl rfl rfl rfl rfl) (Eq.refl (some 84)) ?_
              refine @o_n _ _ _ _ _ _ _ _ _ _ _ 85 (za3 rfl rfl rfl rfl rfl) (Eq.refl (some 85)) ?_
              refine @o_n _ _ _ _ _ _ _ _ _ _ _ 86 (za3 rfl rfl rfl rfl rfl) (Eq.refl (some 86)) ?_
              refine @o_n _ _ _ _ _ _ _ _ _ _ _ 87 (za3 rfl rfl rfl rfl rfl) (Eq.refl (some 87)) ?_
              refine @o_n _ _ _ _ _ _ _ _ _ _ _ 88 (za3 rfl rfl rfl rfl rfl) (Eq.refl (some 88)) ?_
              refine @o_n _ _ _ _ _ _ _ _ _ _ _ 89 (za3 rfl rfl rfl rfl rfl) (Eq.refl (some 89)) ?_
              refine o_q rfl rfl (zas true rfl rfl) ?_
              refine o_q rfl rfl (za2 rfl) ?_
              refine @o_n _ _ _ _ _ _ _ _ _ _ _ 92 (za3 rfl rfl rfl rfl rfl) (Eq.refl (some 92)) ?_
              refine @o_n _ _ _ _ _ _ _ _ _ _ _ 93 (za3 rfl rfl rfl rfl rfl) (Eq.refl (some 93)) ?_
              refine @o_n _ _ _ _ _ _ _ _ _ _ _ 94 (za3 rfl rfl rfl rfl rfl) (Eq.refl (some 94)) ?_
              refine @o_n _ _ _ _ _ _ _ _ _ _ _ 95 (za3 rfl rfl rfl rfl rfl) (Eq.refl (some 95)) ?_
              refine @o_n _ _ _ _ _ _ _ _ _ _ _ 96 (za3 rfl rfl rfl rfl rfl) (Eq.refl (some 96)) ?_
              refine @o_n _ _ _ _ _ _ _ _ _ _ _ 97 (za3 rfl rfl rfl rfl rfl) (Eq.refl (some 97)) ?_
              refine o_q rfl rfl (zas true rfl rfl) ?_
              refine o_end ?_
              refine zat true h ⟨rfl, trivial⟩ (fun w h => za7 [2, 3, 1, 4, 5, 0] (by decide) rfl w h) ?_
              repeat (first | exact zac _ _ | refine zai rfl ?_ | refine zad rfl ?_ | refine zaj rfl ?_)
          · replace h := bb_f hb3047 h
            refine @o_n _ _ _ _ _ _ _ _ _ _ _ 70 (za3 rfl rfl rfl (congrArg (fun b => Value.bool (!(b))) hb3047) rfl) (Eq.refl (some 70)) ?_
            refine @o_n _ _ _ _ _ _ _ _ _ _ _ 71 (za3 rfl rfl rfl (congrArg (fun b => Value.bool (!(b))) hb3047) rfl) (Eq.refl (some 71)) ?_
            refine @o_n _ _ _ _ _ _ _ _ _ _ _ 72 (za3 rfl rfl rfl (congrArg (fun b => Value.bool (!(b))) hb3047) rfl) (Eq.refl (some 72)) ?_
            refine @o_n _ _ _ _ _ _ _ _ _ _ _ 73 (za3 rfl rfl rfl (congrArg (fun b => Value.bool (!(b))) hb3047) rfl) (Eq.refl (some 73)) ?_
            refine @o_n _ _ _ _ _ _ _ _ _ _ _ 74 (za3 rfl rfl rfl (congrArg (fun b => Value.bool (!(b))) hb3047) rfl) (Eq.refl (some 74)) ?_
            refine o_q rfl rfl (zas true (congrArg (fun b => Value.bool (!(b))) hb3047) rfl) ?_
            refine o_q rfl rfl (za2 rfl) ?_
            refine @o_n _ _ _ _ _ _ _ _ _ _ _ 77 (za3 rfl rfl rfl rfl rfl) (Eq.refl (some 77)) ?_
            refine @o_n _ _ _ _ _ _ _ _ _ _ _ 78 (za3 rfl rfl rfl rfl rfl) (Eq.refl (some 78)) ?_
            refine @o_n _ _ _ _ _ _ _ _ _ _ _ 79 (za3 rfl rfl rfl rfl rfl) (Eq.refl (some 79)) ?_
            refine @o_n _ _ _ _ _ _ _ _ _ _ _ 80 (za3 rfl rfl rfl rfl rfl) (Eq.refl (some 80)) ?_
            refine @o_n _ _ _ _ _ _ _ _ _ _ _ 81 (za3 rfl rfl rfl rfl rfl) (Eq.refl (some 81)) ?_
            refine o_q rfl rfl (zas true rfl rfl) ?_
            refine o_q rfl rfl (za2 rfl) ?_
            refine @o_n _ _ _ _ _ _ _ _ _ _ _ 84 (za3 rfl rfl rfl rfl rfl) (Eq.refl (some 84)) ?_
            refine @o_n _ _ _ _ _ _ _ _ _ _ _ 85 (za3 rfl rfl rfl rfl rfl) (Eq.refl (some 85)) ?_
            refine @o_n _ _ _ _ _ _ _ _ _ _ _ 86 (za3 rfl rfl rfl rfl rfl) (Eq.refl (some 86)) ?_
            refine @o_n _ _ _ _ _ _ _ _ _ _ _ 87 (za3 rfl rfl rfl rfl rfl) (Eq.refl (some 87)) ?_
            refine @o_n _ _ _ _ _ _ _ _ _ _ _ 88 (za3 rfl rfl rfl rfl rfl) (Eq.refl (some 88)) ?_
            refine @o_n _ _ _ _ _ _ _ _ _ _ _ 89 (za3 rfl rfl rfl rfl rfl) (Eq.refl (some 89)) ?_
            refine o_q rfl rfl (zas true rfl rfl) ?_
            refine o_q rfl rfl (za2 rfl) ?_
            refine @o_n _ _ _ _ _ _ _ _ _ _ _ 92 (za3 rfl rfl rfl rfl rfl) (Eq.refl (some 92)) ?_
            refine @o_n _ _ _ _ _ _ _ _ _ _ _ 93 (za3 rfl rfl rfl rfl rfl) (Eq.refl (some 93)) ?_
            refine @o_n _ _ _ _ _ _ _ _ _ _ _ 94 (za3 rfl rfl rfl rfl rfl) (Eq.refl (some 94)) ?_
            refine @o_n _ _ _ _ _ _ _ _ _ _ _ 95 (za3 rfl rfl rfl rfl rfl) (Eq.refl (some 95)) ?_
            refine @o_n _ _ _ _ _ _ _ _ _ _ _ 96 (za3 rfl rfl rfl rfl rfl) (Eq.refl (some 96)) ?_
            refine @o_n _ _ _ _ _ _ _ _ _ _ _ 97 (za3 rfl rfl rfl rfl rfl) (Eq.refl (some 97)) ?_
            refine o_q rfl rfl (zas true rfl rfl) ?_
            refine o_end ?_
            refine zat true h ⟨rfl, trivial⟩ (fun w h => za7 [2, 3, 1, 4, 5, 0] (by decide) rfl w h) ?_
            repeat (first | exact zac _ _ | refine zai rfl ?_ | refine zad rfl ?_ | refine zaj rfl ?_)
        · skip
          refine (fun b3039 => fun U3043 hJ3044 => ?_)
          have e_ := Option.some.inj hJ3044; have h := hR3042; rw [← e_] at h; clear e_ hJ3044 hR3042 hl3041
          refine zaq _ rfl (fun hb3060 => ?_) (fun hb3060 => ?_)
          · skip
            replace h := bb_t hb3060 h
            refine c_seq ?_
            refine za0 ?_
            refine o_q rfl rfl (q_build (vs := []) (cs := [.int .i64 0, .slice none 0 0, .slice none 0 0]) rfl rfl) ?_
            refine o_e rfl (zam (i := 0) rfl rfl rfl Z27 rfl rfl) (fun _ => ?_)
            refine o_q rfl rfl (q_asg rfl) ?_
            refine o_end ?_
            refine za1 ?_
            refine c_ret ?_
            refine za5 ?_
            refine zah ?_
            refine za5 ?_
            refine za5 ?_
            have e_ := Option.some.inj h; replace h := hR2318; rw [← e_] at h; clear e_
            refine zah ?_
            refine za5 ?_
            refine x_nil kStep 72 ?_
            refine x_nil (Kd.int .i64) 3 ?_
            have e0_ := Option.some.inj h; clear h
            have d0_ := (Prod.mk.inj e0_).1; have e1_ := (Prod.mk.inj e0_).2; clear e0_; subst d0_
            have d1_ := (Prod.mk.inj e1_).1; have e2_ := (Prod.mk.inj e1_).2; clear e1_; subst d1_
            have d2_ := (Prod.mk.inj e2_).1; have e3_ := (Prod.mk.inj e2_).2; clear e2_; subst d2_
            subst e3_
            exact x_r2 (none, 0, none, 0) Tryz.results111 (rv_cell rfl G27 Z27 (fun w h => h.zae (i := 2) rfl) rfl) (zaf rfl) rfl (fun w h => za7 [1, 0] (by decide) rfl w h)
          · skip
            replace h := bb_f hb3060 h
            refine zak ?_
            refine za1 ?_
            refine za6 h (fun o4145 hl4146 hR4147 => ?_) rfl
            clear h
            refine c_cutJ (σ := (List SStep) × (Option Addr) × Nat) (fun (l4142, A4143, c4144) => some l4142 = some o4145) [100, 101, 102, 103, 104, 105, 106, 107, 108, 109, 110, 111, 112, 113, 114, 115] (fun (l4142, A4143, c4144) => []) (fun (l4142, A4143, c4144) => [box g1 27 #[.int .i64 0, .slice none 0 0, .slice none 0 0], box g1144 27 #[.int .i64 (l0_1.length : Int), .slice A4143 l4142.length c4144, .slice none 0 0], row kStep 72 (.slice A4143 l4142.length c4144) l4142, box g1145 25 #[.slice A1147 l1146.length c1148], row (Kd.int .i64) 3 (.slice A1147 l1146.length c1148) l2308, box g3022 84 #[.int .i64 y2313.f0, .int .i64 y2313.f1, .int .i64 y2313.f2]]) ?_ ?_
            · skip
              have h := hl4146; clear hl4146
              clear hR4147
              refine za6 h (fun y4453 hg4452 h => ?_) rfl
              refine za6 h (fun y4752 hg4751 h => ?_) rfl
              refine za6 h (fun _ hx4871 h => ?_) rfl
              refine za6 h (fun l4991 ha4992 h => ?_) rfl
              refine a_startS (ds := []) [some 0, none, none, some 3, some 4, some 5] MO rfl ?_
              refine zab 0 rfl rfl rfl (by kernel_rfl) (fun _ _ _ h => h) (q_f F27_1 rfl) ?_
              refine zaz 2 rfl rfl rfl (by kernel_rfl) (fun _ _ _ h => h) (fun w h => za8 [some 0, none, none, some 3, some 4, some 5] (by decide) w h rfl) (q_ldb Y25 rfl (fun w h => h.zae (i := 3) rfl) rfl) ?_
              refine zab 3 rfl rfl rfl (by kernel_rfl) (fun _ _ _ h => h) (q_f F84_1 rfl) ?_
              refine zaz 4 rfl rfl rfl (by kernel_rfl) (fun _ _ _ h => h) (fun w h => za8 [some 0, none, none, some 3, some 4, some 5] (by decide) w h rfl) (q_ldb Y3 rfl (fun w h => h.zae (i := 5) rfl) rfl) ?_
              refine a_fact (p := Sh A1147 l1146.length l2308.length) (fun w h => f_sh (dk := (Kd.int .i64)) h (fun w h => h.zan (i := 4) rfl)) (fun hq4451 => ?_)
              refine zab 5 rfl rfl rfl (by kernel_rfl) (fun _ _ _ h => h) (q_ix Tryz.underlying25 Z3 rfl rfl hq4451 hg4452) ?_
              refine zaz 6 rfl rfl rfl (by kernel_rfl) (fun _ _ _ h => h) (fun w h => za8 [some 0, none, none, some 3, some 4, some 5] (by decide) w h rfl) (q_lde (off := 0) Y3 rfl rfl (fun w h => h.zan (i := 4) rfl) hg4452 (fun _ _ h => h) rfl) ?_
              refine zaz 7 rfl rfl rfl (by kernel_rfl) (fun _ _ _ h => h) (fun w h => za8 [some 0, none, none, some 3, some 4, some 5] (by decide) w h rfl) (q_ldb Y25 rfl (fun w h => h.zae (i := 3) rfl) rfl) ?_
              refine zab 8 rfl rfl rfl (by kernel_rfl) (fun _ _ _ h => h) (q_f F84_2 rfl) ?_
              refine zaz 9 rfl rfl rfl (by kernel_rfl) (fun _ _ _ h => h) (fun w h => za8 [some 0, none, none, some 3, some 4, some 5] (by decide) w h rfl) (q_ldb Y3 rfl (fun w h => h.zae (i := 5) rfl) rfl) ?_
              refine zab 10 rfl rfl rfl (by kernel_rfl) (fun _ _ _ h => h) (q_ix Tryz.underlying25 Z3 rfl rfl hq4451 hg4751) ?_
              refine zaz 11 rfl rfl rfl (by kernel_rfl) (fun _ _ _ h => h) (fun w h => za8 [some 0, none, none, some 3, some 4, some 5] (by decide) w h rfl) (q_lde (off := 0) Y3 rfl rfl (fun w h => h.zan (i := 4) rfl) hg4751 (fun _ _ h => h) rfl) ?_
              refine a_two 1 12 rfl rfl rfl rfl (by kernel_rfl) rfl rfl (ev_q rfl (q_ldb Y24 rfl (fun w h => h.zae (i := 1) rfl) rfl)) (fun s w h => za8 [some 0, none, none, some 3, some 4, some 5] (by decide) w h rfl) (za9 0 Z Tryz.func138 N138 rfl rfl rfl (fun w P1 hF hB hS hT => impl_step.calls y4453 y4752 hB hF hx4871)) (fun s w h => za8 [some 0, none, none, some 3, some 4, some 5] (by decide) w h rfl) (fun _ => ?_) (fun _ => ?_)
              · skip
                refine a_one 12 rfl rfl (by kernel_rfl) rfl (za9 0 Z Tryz.func138 N138 rfl rfl rfl (fun w P1 hF hB hS hT => impl_step.calls y4453 y4752 hB hF hx4871)) (fun s w h => za8 [some 0, none, none, some 3, some 4, some 5] (by decide) w h rfl) (fun _ => ?_)
                refine a_one 13 rfl rfl (by kernel_rfl) rfl (e_lit (vs := [(0, .agg #[.int .i64 (mn y4453 y4752), .int .i64 (mx y4453 y4752)])]) (cs := [.int .i64 (mn y4453 y4752), .int .i64 (mx y4453 y4752)]) kStep ([(⟨mn y4453 y4752, mx y4453 y4752⟩ : SStep)] : List SStep) Tryz.underlying24 I72 (by decide) rfl (by decide) rfl rfl (fun _ _ => reps_flat _)) (fun s w h => za8 [some 1, none, none, some 4, some 5, some 6] (by decide) w h rfl) (cur2 (fun A4931 c4932 => ?_))
                refine a_one 14 rfl rfl (by kernel_rfl) rfl (e_app (i := 3) (j := 0) Tryz.underlying24 I72 rfl (by decide) (by decide) rfl rfl rfl rfl rfl ha4992) (fun s w h => za8 [some 1, none, none, some 4, some 5, some 6] (by decide) w h rfl) (cur2 (fun A4993 c4994 => ?_))
                refine zab 15 rfl rfl rfl (by kernel_rfl) (fun _ _ _ h => h) (q_f F27_1 rfl) ?_
                refine a_one 16 rfl rfl (by kernel_rfl) rfl (e_store (i := 2) rfl rfl rfl rfl Z24 rfl rfl) (fun s w h => za8 [some 1, none, none, some 4, some 5, some 6] (by decide) w h rfl) (fun _ => ?_)
                refine zay (by kernel_rfl) ?_
                refine zat (l4991, A4993, c4994) h trivial (fun w h => za7 [1, 2, 3, 4, 5, 6] (by decide) rfl w h) ?_
                repeat (first | exact zac _ _ | refine zai rfl ?_ | refine zad rfl ?_ | refine zaj rfl ?_)
              · skip
                refine a_two 1 13 rfl rfl rfl rfl (by kernel_rfl) rfl rfl (ev_q rfl (q_ldb Y24 rfl (fun w h => h.zae (i := 1) rfl) rfl)) (fun s w h => za8 [some 0, none, none, some 3, some 4, some 5] (by decide) w h rfl) (e_lit (vs := [(0, .agg #[.int .i64 (mn y4453 y4752), .int .i64 (mx y4453 y4752)])]) (cs := [.int .i64 (mn y4453 y4752), .int .i64 (mx y4453 y4752)]) kStep ([(⟨mn y4453 y4752, mx y4453 y4752⟩ : SStep)] : List SStep) Tryz.underlying24 I72 (by decide) rfl (by decide) rfl rfl (fun _ _ => reps_flat _)) (fun s w h => za8 [some 1, none, none, some 4, some 5, some 6] (by decide) w h rfl) (fun _ => ?_) (cur2 (fun A4931 c4932 => ?_))
                · skip
                  refine a_one 13 rfl rfl (by kernel_rfl) rfl (e_lit (vs := [(0, .agg #[.int .i64 (mn y4453 y4752), .int .i64 (mx y4453 y4752)])]) (cs := [.int .i64 (mn y4453 y4752), .int .i64 (mx y4453 y4752)]) kStep ([(⟨mn y4453 y4752, mx y4453 y4752⟩ : SStep)] : List SStep) Tryz.underlying24 I72 (by decide) rfl (by decide) rfl rfl (fun _ _ => reps_flat _)) (fun s w h => za8 [some 1, none, none, some 4, some 5, some 6] (by decide) w h rfl) (cur2 (fun A4931 c4932 => ?_))
                  refine a_one 14 rfl rfl (by kernel_rfl) rfl (e_app (i := 3) (j := 0) Tryz.underlying24 I72 rfl (by decide) (by decide) rfl rfl rfl rfl rfl ha4992) (fun s w h => za8 [some 1, none, none, some 4, some 5, some 6] (by decide) w h rfl) (cur2 (fun A4993 c4994 => ?_))
                  refine zab 15 rfl rfl rfl (by kernel_rfl) (fun _ _ _ h => h) (q_f F27_1 rfl) ?_
                  refine a_one 16 rfl rfl (by kernel_rfl) rfl (e_store (i := 2) rfl rfl rfl rfl Z24 rfl rfl) (fun s w h => za8 [some 1, none, none, some 4, some 5, some 6] (by decide) w h rfl) (fun _ => ?_)
                  refine zay (by kernel_rfl) ?_
                  refine zat (l4991, A4993, c4994) h trivial (fun w h => za7 [1, 2, 3, 4, 5, 6] (by decide) rfl w h) ?_
                  repeat (first | exact zac _ _ | refine zai rfl ?_ | refine zad rfl ?_ | refine zaj rfl ?_)
                · skip
                  refine a_one 1 rfl rfl (by kernel_rfl) rfl (ev_q rfl (q_ldb Y24 rfl (fun w h => h.zae (i := 2) rfl) rfl)) (fun s w h => za8 [some 1, none, none, some 4, some 5, some 6] (by decide) w h rfl) (fun _ => ?_)
                  refine a_one 14 rfl rfl (by kernel_rfl) rfl (e_app (i := 3) (j := 0) Tryz.underlying24 I72 rfl (by decide) (by decide) rfl rfl rfl rfl rfl ha4992) (fun s w h => za8 [some 1, none, none, some 4, some 5, some 6] (by decide) w h rfl) (cur2 (fun A4993 c4994 => ?_))
                  refine zab 15 rfl rfl rfl (by kernel_rfl) (fun _ _ _ h => h) (q_f F27_1 rfl) ?_
                  refine a_one 16 rfl rfl (by kernel_rfl) rfl (e_store (i := 2) rfl rfl rfl rfl Z24 rfl rfl) (fun s w h => za8 [some 1, none, none, some 4, some 5, some 6] (by decide) w h rfl) (fun _ => ?_)
                  refine zay (by kernel_rfl) ?_
                  refine zat (l4991, A4993, c4994) h trivial (fun w h => za7 [1, 2, 3, 4, 5, 6] (by decide) rfl w h) ?_
                  repeat (first | exact zac _ _ | refine zai rfl ?_ | refine zad rfl ?_ | refine zaj rfl ?_)
            · skip
              refine (cur3 (fun l4142 A4143 c4144 => fun U4148 hJ4149 => ?_))
              have e_ := Option.some.inj hJ4149; have h := hR4147; rw [← e_] at h; clear e_ hJ4149 hR4147 hl4146
              refine a_startS (ds := []) [some 0, some 1, some 2, some 3, none, some 5] MO rfl ?_
              refine zaz 0 rfl rfl rfl (by kernel_rfl) (fun _ _ _ h => h) (fun w h => za8 [some 0, some 1, some 2, some 3, none, some 5] (by decide) w h rfl) (q_ldb Y25 rfl (fun w h => h.zae (i := 3) rfl) rfl) ?_
              refine zab 1 rfl rfl rfl (by kernel_rfl) (fun _ _ _ h => h) (q_f F84_0 rfl) ?_
              refine zaz 2 rfl rfl rfl (by kernel_rfl) (fun _ _ _ h => h) (fun w h => za8 [some 0, some 1, some 2, some 3, none, some 5] (by decide) w h rfl) (q_ldb Y3 rfl (fun w h => h.zae (i := 5) rfl) rfl) ?_
              refine za6 h (fun _ hx5231 h => ?_) rfl
              refine a_one 3 rfl rfl (by kernel_rfl) rfl (za9 0 Z Tryz.func91 N91 rfl rfl rfl (fun w P1 hF hB hS hT => impl_Plan_many.calls g1144 (l0_1.length : Int) A4143 c4144 l4142.length l4142 none 0 0 [] hB hF (hT 2 _ rfl).row (hT 2 _ rfl).cap (stab_nil _) (Nat.le_refl 0) (hT 1 _ rfl).box hx5231)) (fun s w h => za8 [some 0, some 1, some 2, some 3, none, some 5] (by decide) w h rfl) (fun _ => ?_)
              refine zab 4 rfl rfl rfl (by kernel_rfl) (fun _ _ _ h => h) (q_sub64 rfl rfl) ?_
              refine a_fact (p := Sh A1147 l1146.length l2308.length) (fun w h => f_sh (dk := (Kd.int .i64)) h (fun w h => h.zan (i := 4) rfl)) (fun hq5232 => ?_)
              refine za6 h (fun y5234 hg5233 h => ?_) rfl
              refine zab 5 rfl rfl rfl (by kernel_rfl) (fun _ _ _ h => h) (q_ix Tryz.underlying25 Z3 rfl rfl hq5232 hg5233) ?_
              refine za6 h (fun l5235 hs5236 h => ?_) rfl
              refine a_one 6 rfl rfl (by kernel_rfl) rfl (e_set (i := 4) rfl rfl rfl Z3 hs5236) (fun s w h => za8 [some 0, some 1, some 2, some 3, none, some 5] (by decide) w h rfl) (fun _ => ?_)
              refine zay (by kernel_rfl) ?_
              refine zaw ?_
              refine za1 ?_
              refine za0 ?_
              refine o_q rfl rfl (q_up rfl rfl (hr2316.up hm2317)) ?_
              refine o_q rfl rfl (za2 rfl) ?_
              refine o_end ?_
              refine zao ys2314.length (ys2314, l5235, l4142, i2312 + 1, A4143, c4144) (by rw [← hk2322]; exact Nat.lt_succ_self _) ⟨hr2316.step, rfl, h⟩ ⟨rfl, trivial⟩ (fun w h => za7 [2, 0, 1, 3, 4] (by decide) rfl w h) ?_
              repeat (first | exact zac _ _ | refine zai rfl ?_ | refine zad rfl ?_ | refine zaj rfl ?_)
    · skip
      clear hl2303
      have hr2300 := hJ_.1; have hk2306 := hJ_.2.1; have h := hJ_.2.2; clear hJ_
      replace h : impl_RegCode_read.l0 (y2297 :: ys2298) l2295 i2296 = some o2304 := h
      rw [impl_RegCode_read.l0] at h
      refine c_seq ?_
      refine za0 ?_
      refine o_q rfl rfl (q_lss rfl rfl) ?_
      refine o_end ?_
      refine za1 ?_
      refine c_seq ?_
      refine c_true (congrArg Value.bool hr2300.lt) ?_
      refine zak ?_
      refine za1 ?_
      refine c_seq ?_
      refine zal ?_
      refine c_seq ?_
      refine za0 ?_
      refine o_q rfl rfl (za2 rfl) ?_
      refine zb2 (p := Sh A0_1 l0_1.length l0_1.length) (fun w h => f_sh (dk := (Kd.int .i64)) h (fun w h => R0_1.now Z h)) (fun hq5237 => ?_)
      refine o_q rfl rfl (q_ix Tryz.underlying25 Z3 rfl rfl hq5237 hr2300.get) ?_
      refine o_q rfl rfl (q_lde (off := 0) Y3 rfl rfl (fun w h => R0_1.now Z h) hr2300.get (fun _ _ h => h) rfl) ?_
      refine o_q rfl rfl (q_asg rfl) ?_
      refine o_q rfl rfl (q_asg rfl) ?_
      refine o_end ?_
      refine za1 ?_
      refine c_seq ?_
      refine za6 h (fun o5245 hl5246 hR5247 => ?_) rfl
      clear h
      refine c_cutJ (σ := Bool) (fun b5244 => some b5244 = some o5245) [38, 39, 40, 41, 42, 43, 44, 45, 46, 47, 48] (fun b5244 => [(48, .bool b5244)]) (fun b5244 => [box g1 27 #[.int .i64 0, .slice none 0 0, .slice none 0 0], box g1144 27 #[.int .i64 (l0_1.length : Int), .slice none 0 0, .slice none 0 0], box g1145 25 #[.slice A1147 l1146.length c1148], row (Kd.int .i64) 3 (.slice A1147 l1146.length c1148) l2295]) ?_ ?_
      · skip
        have h := hl5246; clear hl5246
        clear hR5247
        refine za0 ?_
        refine o_q rfl rfl (za2 rfl) ?_
        refine o_q rfl rfl (za2 rfl) ?_
        refine za6 h (fun b5251 hx5250 h => ?_) rfl
        refine o_e rfl (za9 0 Z Tryz.func137 N137 rfl rfl rfl (fun w P1 hF hB hS hT => impl_RegCode_read_1.calls y2297 g1145 A1147 c1148 l1146.length l2295 hB hF (hT 3 _ rfl).row (hT 3 _ rfl).cap (hT 2 _ rfl).box _ hx5250)) (fun _ => ?_)
        refine o_q rfl rfl (q_not rfl) ?_
        refine o_q rfl rfl (za2 rfl) ?_
        refine byB b5251 (fun hb5252 => ?_) (fun hb5252 => ?_)
        · replace h := bb_t hb5252 h
          refine o_w (za4 rfl rfl rfl (congrArg (fun b => Value.bool (!(b))) hb5252)) rfl (q_ldb Y25 rfl (fun w h => h.zae (i := 2) rfl) rfl) ?_
          refine o_w (za4 rfl rfl rfl (congrArg (fun b => Value.bool (!(b))) hb5252)) rfl (za2 rfl) ?_
          refine zb2 (p := Sh A1147 l1146.length l2295.length) (fun w h => f_sh (dk := (Kd.int .i64)) h (fun w h => h.zan (i := 3) rfl)) (fun hq5253 => ?_)
          refine za6 h (fun y5255 hg5254 h => ?_) rfl
          refine o_w (za4 rfl rfl rfl (congrArg (fun b => Value.bool (!(b))) hb5252)) rfl (q_ix Tryz.underlying25 Z3 rfl rfl hq5253 hg5254) ?_
          refine o_w (za4 rfl rfl rfl (congrArg (fun b => Value.bool (!(b))) hb5252)) rfl (q_lde (off := 0) Y3 rfl rfl (fun w h => h.zan (i := 3) rfl) hg5254 (fun _ _ h => h) rfl) ?_
          refine o_w (za4 rfl rfl rfl (congrArg (fun b => Value.bool (!(b))) hb5252)) rfl (q_neq rfl rfl) ?_
          refine o_q rfl rfl (zas false (congrArg (fun b => Value.bool (!(b))) hb5252) rfl) ?_
          refine o_end ?_
          refine zat (decide (y5255 ≠ (-1))) h ⟨rfl, trivial⟩ (fun w h => za7 [0, 1, 2, 3] (by decide) rfl w h) ?_
          repeat (first | exact zac _ _ | refine zai rfl ?_ | refine zad rfl ?_ | refine zaj rfl ?_)
        · replace h := bb_f hb5252 h
          refine @o_n _ _ _ _ _ _ _ _ _ _ _ 43 (za3 rfl rfl rfl (congrArg (fun b => Value.bool (!(b))) hb5252) rfl) (Eq.refl (some 43)) ?_
          refine @o_n _ _ _ _ _ _ _ _ _ _ _ 44 (za3 rfl rfl rfl (congrArg (fun b => Value.bool (!(b))) hb5252) rfl) (Eq.refl (some 44)) ?_
          refine @o_n _ _ _ _ _ _ _ _ _ _ _ 45 (za3 rfl rfl rfl (congrArg (fun b => Value.bool (!(b))) hb5252) rfl) (Eq.refl (some 45)) ?_
          refine @o_n _ _ _ _ _ _ _ _ _ _ _ 46 (za3 rfl rfl rfl (congrArg (fun b => Value.bool (!(b))) hb5252) rfl) (Eq.refl (some 46)) ?_
          refine @o_n _ _ _ _ _ _ _ _ _ _ _ 47 (za3 rfl rfl rfl (congrArg (fun b => Value.bool (!(b))) hb5252) rfl) (Eq.refl (some 47)) ?_
          refine o_q rfl rfl (zas true (congrArg (fun b => Value.bool (!(b))) hb5252) rfl) ?_
          refine o_end ?_
          refine zat true h ⟨rfl, trivial⟩ (fun w h => za7 [0, 1, 2, 3] (by decide) rfl w h) ?_
          repeat (first | exact zac _ _ | refine zai rfl ?_ | refine zad rfl ?_ | refine zaj rfl ?_)
      · skip
        refine (fun b5244 => fun U5248 hJ5249 => ?_)
        have e_ := Option.some.inj hJ5249; have h := hR5247; rw [← e_] at h; clear e_ hJ5249 hR5247 hl5246
        refine zaq _ rfl (fun hb5256 => ?_) (fun hb5256 => ?_)
        · skip
          replace h := bb_t hb5256 h
          refine c_seq ?_
          refine za0 ?_
          refine o_q rfl rfl (q_build (vs := []) (cs := [.int .i64 0, .slice none 0 0, .slice none 0 0]) rfl rfl) ?_
          refine o_e rfl (zam (i := 0) rfl rfl rfl Z27 rfl rfl) (fun _ => ?_)
          refine o_q rfl rfl (q_asg rfl) ?_
          refine o_end ?_
          refine za1 ?_
          refine c_ret ?_
          refine za5 ?_
          refine zah ?_
          refine za5 ?_
          refine za5 ?_
          have e_ := Option.some.inj h; replace h := hR2302; rw [← e_] at h; clear e_
          refine zah ?_
          refine za5 ?_
          refine x_nil kStep 72 ?_
          refine x_nil (Kd.int .i64) 3 ?_
          have e0_ := Option.some.inj h; clear h
          have d0_ := (Prod.mk.inj e0_).1; have e1_ := (Prod.mk.inj e0_).2; clear e0_; subst d0_
          have d1_ := (Prod.mk.inj e1_).1; have e2_ := (Prod.mk.inj e1_).2; clear e1_; subst d1_
          have d2_ := (Prod.mk.inj e2_).1; have e3_ := (Prod.mk.inj e2_).2; clear e2_; subst d2_
          subst e3_
          exact x_r2 (none, 0, none, 0) Tryz.results111 (rv_cell rfl G27 Z27 (fun w h => h.zae (i := 2) rfl) rfl) (zaf rfl) rfl (fun w h => za7 [1, 0] (by decide) rfl w h)
        · skip
          replace h := bb_f hb5256 h
          refine zak ?_
          refine za1 ?_
          refine za0 ?_
          refine o_q rfl rfl (q_ldb Y25 rfl (fun w h => h.zae (i := 2) rfl) rfl) ?_
          refine o_q rfl rfl (za2 rfl) ?_
          refine o_q rfl rfl (za2 rfl) ?_
          refine zb2 (p := Sh A1147 l1146.length l2295.length) (fun w h => f_sh (dk := (Kd.int .i64)) h (fun w h => h.zan (i := 3) rfl)) (fun hq5257 => ?_)
          refine za6 h (fun y5259 hg5258 h => ?_) rfl
          refine o_q rfl rfl (q_ix Tryz.underlying25 Z3 rfl rfl hq5257 hg5258) ?_
          refine za6 h (fun l5260 hs5261 h => ?_) rfl
          refine o_e rfl (e_set (i := 3) rfl rfl rfl Z3 hs5261) (fun _ => ?_)
          refine o_end ?_
          refine zaw ?_
          refine za1 ?_
          refine za0 ?_
          refine o_q rfl rfl (q_up rfl rfl (hr2300.up hm2301)) ?_
          refine o_q rfl rfl (za2 rfl) ?_
          refine o_end ?_
          refine zao ys2298.length (ys2298, l5260, i2296 + 1) (by rw [← hk2306]; exact Nat.lt_succ_self _) ⟨hr2300.step, rfl, h⟩ ⟨rfl, trivial⟩ (fun w h => za7 [0, 1, 2, 3] (by decide) rfl w h) ?_
          repeat (first | exact zac _ _ | refine zai rfl ?_ | refine zad rfl ?_ | refine zaj rfl ?_)

/-! ### loop.example/g01098/impl.told: function 112 -/
def impl_told.f (k : Nat) (a0_0 : Int) (l0_1 : List SStep) (l0_2 : List Int) : Option (Int × (List SStep) × (List Int) × Bool) := (impl_IsPlan.f k a0_0 l0_1 l0_2).bind fun b6 => if b6 = true then (some (a0_0, l0_1, l0_2, true)) else (some (0, ([] : List SStep), ([] : List Int), false))
set_option maxHeartbeats 600000 in
set_option maxRecDepth 100000 in
theorem impl_told.calls (k : Nat) {w0 ws : World} {P0 : Nat → Prop} (a0_0 : Int) (A0_1 : Option Addr) (c0_1 : Nat) (n0_1 : Nat) (l0_1 : List SStep) (A0_2 : Option Addr) (c0_2 : Nat) (n0_2 : Nat) (l0_2 : List Int) (Z : Below w0.heap.size w0 ws) (hF : Fr w0 ws P0 [row kStep 72 (.slice A0_1 n0_1 c0_1) l0_1, row (Kd.int .i64) 3 (.slice A0_2 n0_2 c0_2) l0_2] ws)  (r_1 : Int) (r_2 : List SStep) (r_5 : List Int) (r_8 : Bool) (h : impl_told.f k a0_0 l0_1 l0_2 = some (r_1, r_2, r_5, r_8)) :
    Calls Tryz.prog 112 #[.agg #[.int .i64 a0_0, .slice A0_1 n0_1 c0_1, .slice A0_2 n0_2 c0_2]] ws (Post1 w0 ws P0 (fun ((q_3, q_4, q_6, q_7) : (Option Addr) × Nat × (Option Addr) × Nat) => .tuple #[.agg #[.int .i64 r_1, .slice q_3 r_2.length q_4, .slice q_6 r_5.length q_7], .bool r_8]) (fun ((q_3, q_4, q_6, q_7) : (Option Addr) × Nat × (Option Addr) × Nat) => [row kStep 72 (.slice q_3 r_2.length q_4) r_2, row (Kd.int .i64) 3 (.slice q_6 r_5.length q_7) r_5])) := by
  unfold impl_told.f at h
  obtain rfl := (hF.row_C (i := 0) rfl).2.1
  obtain rfl := (hF.row_C (i := 1) rfl).2.1
  refine enter Tryz.func112 rfl Tryz.ntmps112 rfl hF ?_
  refine c_seq ?_
  refine za0 ?_
  refine o_e rfl (e_box rfl) (fun g1 => ?_)
  refine o_e rfl (zau V27 rfl) (fun g3 => ?_)
  refine o_q rfl rfl (q_asg rfl) ?_
  refine o_end ?_
  refine za1 ?_
  refine c_seq ?_
  refine c_seq ?_
  refine za0 ?_
  refine o_q rfl rfl (q_ldB G27 Z27 rfl (fun w h => h.zae (i := 1) rfl) rfl) ?_
  refine za6 h (fun b6 hx5 h => ?_) rfl
  refine o_e rfl (za9 0 Z Tryz.func10 N10 rfl rfl rfl (fun w P1 hF hB hS hT => impl_IsPlan.calls k a0_0 A0_1 c0_1 l0_1.length l0_1 A0_2 c0_2 l0_2.length l0_2 hB hF (hT 2 _ rfl).row (hT 2 _ rfl).cap (hT 3 _ rfl).row (hT 3 _ rfl).cap _ hx5)) (fun _ => ?_)
  refine o_q rfl rfl (q_not rfl) ?_
  refine o_end ?_
  refine za1 ?_
  refine zaq _ rfl (fun hb7 => ?_) (fun hb7 => ?_)
  · replace hb7 := nt_t hb7
    replace h := bb_f hb7 h
    refine c_seq ?_
    refine za0 ?_
    refine o_q rfl rfl (q_build (vs := []) (cs := [.int .i64 0, .slice none 0 0, .slice none 0 0]) rfl rfl) ?_
    refine o_e rfl (zam (i := 0) rfl rfl rfl Z27 rfl rfl) (fun _ => ?_)
    refine o_q rfl rfl (q_asg rfl) ?_
    refine o_end ?_
    refine za1 ?_
    refine c_ret ?_
    refine za5 ?_
    refine x_nil kStep 72 ?_
    refine x_nil (Kd.int .i64) 3 ?_
    have e0_ := Option.some.inj h; clear h
    have d0_ := (Prod.mk.inj e0_).1; have e1_ := (Prod.mk.inj e0_).2; clear e0_; subst d0_
    have d1_ := (Prod.mk.inj e1_).1; have e2_ := (Prod.mk.inj e1_).2; clear e1_; subst d1_
    have d2_ := (Prod.mk.inj e2_).1; have e3_ := (Prod.mk.inj e2_).2; clear e2_; subst d2_
    subst e3_
    exact x_r2 (none, 0, none, 0) Tryz.results112 (rv_cell rfl G27 Z27 (fun w h => h.zae (i := 2) rfl) rfl) (zaf rfl) rfl (fun w h => za7 [1, 0] (by decide) rfl w h)
  · replace hb7 := nt_f hb7
    replace h := bb_t hb7 h
    refine zak ?_
    refine za1 ?_
    refine c_seq ?_
    refine za0 ?_
    refine o_q rfl rfl (q_ldB G27 Z27 rfl (fun w h => h.zae (i := 1) rfl) rfl) ?_
    refine o_e rfl (zam (i := 0) rfl rfl rfl Z27 rfl rfl) (fun _ => ?_)
    refine o_q rfl rfl (q_asg rfl) ?_
    refine o_end ?_
    refine za1 ?_
    refine c_ret ?_
    have e0_ := Option.some.inj h; clear h
    have d0_ := (Prod.mk.inj e0_).1; have e1_ := (Prod.mk.inj e0_).2; clear e0_; subst d0_
    have d1_ := (Prod.mk.inj e1_).1; have e2_ := (Prod.mk.inj e1_).2; clear e1_; subst d1_
    have d2_ := (Prod.mk.inj e2_).1; have e3_ := (Prod.mk.inj e2_).2; clear e2_; subst d2_
    subst e3_
    exact x_r2 (A0_1, c0_1, A0_2, c0_2) Tryz.results112 (rv_cell rfl G27 Z27 (fun w h => h.zae (i := 0) rfl) rfl) (zaf rfl) rfl (fun w h => za7 [2, 3] (by decide) rfl w h)

/-! ### (*loop.example/g01098/impl.RegCode).plan: function 78 -/
def impl_RegCode_plan.f (k : Nat) (a0_0 : Int) (l0_1 : List Int) (l0_2 : List SRegOp) (l0_3 : List Int) : Option (Int × (List SStep) × (List Int) × Bool) := (if 6 < (l0_1.length : Int) then (some true) else (if 40 < (l0_2.length : Int) then (some true) else (some (decide (6 < (l0_3.length : Int)))))).bind fun b5 => if b5 = true then (some (0, ([] : List SStep), ([] : List Int), false)) else ((impl_RegCode_read.f a0_0 l0_1 l0_2 l0_3).bind fun (i15, l16, l17, b18) => if b18 = true then ((impl_told.f k i15 l16 l17).bind fun (i27, l28, l29, b30) => some (i27, l28, l29, b30)) else (some (0, ([] : List SStep), ([] : List Int), false)))
set_option maxHeartbeats 600000 in
set_option maxRecDepth 100000 in
theorem impl_RegCode_plan.calls (k : Nat) {w0 ws : World} {P0 : Nat → Prop} (g0 : Nat) (a0_0 : Int) (A0_1 : Option Addr) (c0_1 : Nat) (n0_1 : Nat) (l0_1 : List Int) (A0_2 : Option Addr) (c0_2 : Nat) (n0_2 : Nat) (l0_2 : List SRegOp) (A0_3 : Option Addr) (c0_3 : Nat) (n0_3 : Nat) (l0_3 : List Int) (Z : Below w0.heap.size w0 ws) (hF : Fr w0 ws P0 [] ws) (R0_1 : Stable ws P0 (fun w => Kd.C (Kd.int .i64) w A0_1 n0_1 l0_1)) (hc0_1 : n0_1 ≤ c0_1) (R0_2 : Stable ws P0 (fun w => Kd.C zax w A0_2 n0_2 l0_2)) (hc0_2 : n0_2 ≤ c0_2) (R0_3 : Stable ws P0 (fun w => Kd.C (Kd.int .i64) w A0_3 n0_3 l0_3)) (hc0_3 : n0_3 ≤ c0_3) (B0 : Stable ws P0 (fun w => w.heap[g0]? = some (.cells #[.int .i64 a0_0, .slice A0_1 n0_1 c0_1, .slice A0_2 n0_2 c0_2, .slice A0_3 n0_3 c0_3] 38 (0, 0)))) (r_1 : Int) (r_2 : List SStep) (r_5 : List Int) (r_8 : Bool) (h : impl_RegCode_plan.f k a0_0 l0_1 l0_2 l0_3 = some (r_1, r_2, r_5, r_8)) :
    Calls Tryz.prog 78 #[.pointer (some ⟨g0, 0, none⟩)] ws (Post1 w0 ws P0 (fun ((q_3, q_4, q_6, q_7) : (Option Addr) × Nat × (Option Addr) × Nat) => .tuple #[.agg #[.int .i64 r_1, .slice q_3 r_2.length q_4, .slice q_6 r_5.length q_7], .bool r_8]) (fun ((q_3, q_4, q_6, q_7) : (Option Addr) × Nat × (Option Addr) × Nat) => [row kStep 72 (.slice q_3 r_2.length q_4) r_2, row (Kd.int .i64) 3 (.slice q_6 r_5.length q_7) r_5])) := by
  unfold impl_RegCode_plan.f at h
  obtain rfl := (R0_1 ws (KeptB.refl _ _)).1
  obtain rfl := (R0_2 ws (KeptB.refl _ _)).1
  obtain rfl := (R0_3 ws (KeptB.refl _ _)).1
  refine enter Tryz.func78 rfl Tryz.ntmps78 rfl hF ?_
  refine c_seq ?_
  refine za0 ?_
  refine o_e rfl (zau V27 rfl) (fun g1 => ?_)
  refine o_q rfl rfl (q_asg rfl) ?_
  refine o_end ?_
  refine za1 ?_
  refine c_seq ?_
  refine za6 h (fun o6 hl7 hR8 => ?_) rfl
  clear h
  refine c_cutJ (σ := Bool) (fun b5 => some b5 = some o6) [6, 7, 8, 9, 10, 11, 12, 13, 14, 15, 16, 17, 18, 19, 20, 21, 22, 23, 24, 25, 26, 27] (fun b5 => [(27, .bool b5)]) (fun b5 => [box g1 27 #[.int .i64 0, .slice none 0 0, .slice none 0 0]]) ?_ ?_
  · skip
    have h := hl7; clear hl7
    clear hR8
    refine za0 ?_
    refine o_q rfl rfl (za2 rfl) ?_
    refine o_q rfl rfl (q_nil rfl) ?_
    refine o_q rfl rfl (q_f F38_1 rfl) ?_
    refine o_q rfl rfl (q_ldb Y25 rfl (fun w h => B0.now Z h) rfl) ?_
    refine o_q rfl rfl (q_len Tryz.underlying25 rfl) ?_
    refine o_q rfl rfl (q_gtr rfl rfl) ?_
    refine o_q rfl rfl (za2 rfl) ?_
    refine byB (decide (6 < (l0_1.length : Int))) (fun hb11 => ?_) (fun hb11 => ?_)
    · replace h := br_t hb11 h
      refine @o_n _ _ _ _ _ _ _ _ _ _ _ 13 (za3 rfl rfl rfl (congrArg Value.bool hb11) rfl) (Eq.refl (some 13)) ?_
      refine @o_n _ _ _ _ _ _ _ _ _ _ _ 14 (za3 rfl rfl rfl (congrArg Value.bool hb11) rfl) (Eq.refl (some 14)) ?_
      refine @o_n _ _ _ _ _ _ _ _ _ _ _ 15 (za3 rfl rfl rfl (congrArg Value.bool hb11) rfl) (Eq.refl (some 15)) ?_
      refine @o_n _ _ _ _ _ _ _ _ _ _ _ 16 (za3 rfl rfl rfl (congrArg Value.bool hb11) rfl) (Eq.refl (some 16)) ?_
      refine @o_n _ _ _ _ _ _ _ _ _ _ _ 17 (za3 rfl rfl rfl (congrArg Value.bool hb11) rfl) (Eq.refl (some 17)) ?_
      refine @o_n _ _ _ _ _ _ _ _ _ _ _ 18 (za3 rfl rfl rfl (congrArg Value.bool hb11) rfl) (Eq.refl (some 18)) ?_
      refine o_q rfl rfl (zas true (congrArg Value.bool hb11) rfl) ?_
      refine o_q rfl rfl (za2 rfl) ?_
      refine @o_n _ _ _ _ _ _ _ _ _ _ _ 21 (za3 rfl rfl rfl rfl rfl) (Eq.refl (some 21)) ?_
      refine @o_n _ _ _ _ _ _ _ _ _ _ _ 22 (za3 rfl rfl rfl rfl rfl) (Eq.refl (some 22)) ?_
      refine @o_n _ _ _ _ _ _ _ _ _ _ _ 23 (za3 rfl rfl rfl rfl rfl) (Eq.refl (some 23)) ?_
      refine @o_n _ _ _ _ _ _ _ _ _ _ _ 24 (za3 rfl rfl rfl rfl rfl) (Eq.refl (some 24)) ?_
      refine @o_n _ _ _ _ _ _ _ _ _ _ _ 25 (za3 rfl rfl rfl rfl rfl) (Eq.refl (some 25)) ?_
      refine @o_n _ _ _ _ _ _ _ _ _ _ _ 26 (za3 rfl rfl rfl rfl rfl) (Eq.refl (some 26)) ?_
      refine o_q rfl rfl (zas true rfl rfl) ?_
      refine o_end ?_
      refine zat true h ⟨rfl, trivial⟩ (fun w h => za7 [0] (by decide) rfl w h) ?_
      repeat (first | exact zac _ _ | refine zai rfl ?_ | refine zad rfl ?_ | refine zaj rfl ?_)
    · replace h := br_f hb11 h
      refine o_w (za4 rfl rfl rfl (congrArg Value.bool hb11)) rfl (za2 rfl) ?_
      refine o_w (za4 rfl rfl rfl (congrArg Value.bool hb11)) rfl (q_nil rfl) ?_
      refine o_w (za4 rfl rfl rfl (congrArg Value.bool hb11)) rfl (q_f F38_2 rfl) ?_
      refine o_w (za4 rfl rfl rfl (congrArg Value.bool hb11)) rfl (q_ldb Y36 rfl (fun w h => B0.now Z h) rfl) ?_
      refine o_w (za4 rfl rfl rfl (congrArg Value.bool hb11)) rfl (q_len Tryz.underlying36 rfl) ?_
      refine o_w (za4 rfl rfl rfl (congrArg Value.bool hb11)) rfl (q_gtr rfl rfl) ?_
      refine o_q rfl rfl (zas false (congrArg Value.bool hb11) rfl) ?_
      refine o_q rfl rfl (za2 rfl) ?_
      refine byB (decide (40 < (l0_2.length : Int))) (fun hb12 => ?_) (fun hb12 => ?_)
      · replace h := br_t hb12 h
        refine @o_n _ _ _ _ _ _ _ _ _ _ _ 21 (za3 rfl rfl rfl (congrArg Value.bool hb12) rfl) (Eq.refl (some 21)) ?_
        refine @o_n _ _ _ _ _ _ _ _ _ _ _ 22 (za3 rfl rfl rfl (congrArg Value.bool hb12) rfl) (Eq.refl (some 22)) ?_
        refine @o_n _ _ _ _ _ _ _ _ _ _ _ 23 (za3 rfl rfl rfl (congrArg Value.bool hb12) rfl) (Eq.refl (some 23)) ?_
        refine @o_n _ _ _ _ _ _ _ _ _ _ _ 24 (za3 rfl rfl rfl (congrArg Value.bool hb12) rfl) (Eq.refl (some 24)) ?_
        refine @o_n _ _ _ _ _ _ _ _ _ _ _ 25 (za3 rfl rfl rfl (congrArg Value.bool hb12) rfl) (Eq.refl (some 25)) ?_
        refine @o_n _ _ _ _ _ _ _ _ _ _ _ 26 (za3 rfl rfl rfl (congrArg Value.bool hb12) rfl) (Eq.refl (some 26)) ?_
        refine o_q rfl rfl (zas true (congrArg Value.bool hb12) rfl) ?_
        refine o_end ?_
        refine zat true h ⟨rfl, trivial⟩ (fun w h => za7 [0] (by decide) rfl w h) ?_
        repeat (first | exact zac _ _ | refine zai rfl ?_ | refine zad rfl ?_ | refine zaj rfl ?_)
      · replace h := br_f hb12 h
        refine o_w (za4 rfl rfl rfl (congrArg Value.bool hb12)) rfl (za2 rfl) ?_
        refine o_w (za4 rfl rfl rfl (congrArg Value.bool hb12)) rfl (q_nil rfl) ?_
        refine o_w (za4 rfl rfl rfl (congrArg Value.bool hb12)) rfl (q_f F38_3 rfl) ?_
        refine o_w (za4 rfl rfl rfl (congrArg Value.bool hb12)) rfl (q_ldb Y25 rfl (fun w h => B0.now Z h) rfl) ?_
        refine o_w (za4 rfl rfl rfl (congrArg Value.bool hb12)) rfl (q_len Tryz.underlying25 rfl) ?_
        refine o_w (za4 rfl rfl rfl (congrArg Value.bool hb12)) rfl (q_gtr rfl rfl) ?_
        refine o_q rfl rfl (zas false (congrArg Value.bool hb12) rfl) ?_
        refine o_end ?_
        refine zat (decide (6 < (l0_3.length : Int))) h ⟨rfl, trivial⟩ (fun w h => za7 [0] (by decide) rfl w h) ?_
        repeat (first | exact zac _ _ | refine zai rfl ?_ | refine zad rfl ?_ | refine zaj rfl ?_)
  · skip
    refine (fun b5 => fun U9 hJ10 => ?_)
    have e_ := Option.some.inj hJ10; have h := hR8; rw [← e_] at h; clear e_ hJ10 hR8 hl7
    refine zaq _ rfl (fun hb13 => ?_) (fun hb13 => ?_)
    · skip
      replace h := bb_t hb13 h
      refine c_seq ?_
      refine za0 ?_
      refine o_q rfl rfl (q_build (vs := []) (cs := [.int .i64 0, .slice none 0 0, .slice none 0 0]) rfl rfl) ?_
      refine o_e rfl (zam (i := 0) rfl rfl rfl Z27 rfl rfl) (fun _ => ?_)
      refine o_q rfl rfl (q_asg rfl) ?_
      refine o_end ?_
      refine za1 ?_
      refine c_ret ?_
      refine za5 ?_
      refine x_nil kStep 72 ?_
      refine x_nil (Kd.int .i64) 3 ?_
      have e0_ := Option.some.inj h; clear h
      have d0_ := (Prod.mk.inj e0_).1; have e1_ := (Prod.mk.inj e0_).2; clear e0_; subst d0_
      have d1_ := (Prod.mk.inj e1_).1; have e2_ := (Prod.mk.inj e1_).2; clear e1_; subst d1_
      have d2_ := (Prod.mk.inj e2_).1; have e3_ := (Prod.mk.inj e2_).2; clear e2_; subst d2_
      subst e3_
      exact x_r2 (none, 0, none, 0) Tryz.results78 (rv_cell rfl G27 Z27 (fun w h => h.zae (i := 2) rfl) rfl) (zaf rfl) rfl (fun w h => za7 [1, 0] (by decide) rfl w h)
    · skip
      replace h := bb_f hb13 h
      refine zak ?_
      refine za1 ?_
      refine c_seq ?_
      refine za0 ?_
      refine o_q rfl rfl (za2 rfl) ?_
      refine bindE4 h (fun i15 l16 l17 b18 hx14 h => ?_) rfl
      refine o_e rfl (za9 0 Z Tryz.func111 N111 rfl rfl rfl (fun w P1 hF hB hS hT => impl_RegCode_read.calls g0 a0_0 A0_1 c0_1 l0_1.length l0_1 A0_2 c0_2 l0_2.length l0_2 A0_3 c0_3 l0_3.length l0_3 hB hF (hS _ R0_1) hc0_1 (hS _ R0_2) hc0_2 (hS _ R0_3) hc0_3 (hS _ B0) _ _ _ _ hx14)) (cur4 (fun A19 c20 A21 c22 => ?_))
      refine o_q rfl rfl (za2 rfl) ?_
      refine o_q rfl rfl (q_ext rfl rfl) ?_
      refine o_q rfl rfl (q_ext rfl rfl) ?_
      refine o_e rfl (zau V27 rfl) (fun g23 => ?_)
      refine o_e rfl (zam (i := 0) rfl rfl rfl Z27 rfl rfl) (fun _ => ?_)
      refine o_q rfl rfl (q_asg rfl) ?_
      refine o_end ?_
      refine za1 ?_
      refine c_seq ?_
      refine c_seq ?_
      refine za0 ?_
      refine o_q rfl rfl (za2 rfl) ?_
      refine o_q rfl rfl (q_not rfl) ?_
      refine o_end ?_
      refine za1 ?_
      refine zaq _ rfl (fun hb25 => ?_) (fun hb25 => ?_)
      · replace hb25 := nt_t hb25
        replace h := bb_f hb25 h
        refine c_seq ?_
        refine za0 ?_
        refine o_q rfl rfl (q_build (vs := []) (cs := [.int .i64 0, .slice none 0 0, .slice none 0 0]) rfl rfl) ?_
        refine o_e rfl (zam (i := 3) rfl rfl rfl Z27 rfl rfl) (fun _ => ?_)
        refine o_q rfl rfl (q_asg rfl) ?_
        refine o_end ?_
        refine za1 ?_
        refine c_ret ?_
        refine za5 ?_
        refine x_nil kStep 72 ?_
        refine x_nil (Kd.int .i64) 3 ?_
        have e0_ := Option.some.inj h; clear h
        have d0_ := (Prod.mk.inj e0_).1; have e1_ := (Prod.mk.inj e0_).2; clear e0_; subst d0_
        have d1_ := (Prod.mk.inj e1_).1; have e2_ := (Prod.mk.inj e1_).2; clear e1_; subst d1_
        have d2_ := (Prod.mk.inj e2_).1; have e3_ := (Prod.mk.inj e2_).2; clear e2_; subst d2_
        subst e3_
        exact x_r2 (none, 0, none, 0) Tryz.results78 (rv_cell rfl G27 Z27 (fun w h => h.zae (i := 5) rfl) rfl) (zaf rfl) rfl (fun w h => za7 [1, 0] (by decide) rfl w h)
      · replace hb25 := nt_f hb25
        replace h := bb_t hb25 h
        refine zak ?_
        refine za1 ?_
        refine c_seq ?_
        refine za0 ?_
        refine o_q rfl rfl (q_ldB G27 Z27 rfl (fun w h => h.zae (i := 0) rfl) rfl) ?_
        refine o_pick [1, 2, 0, 3] (by decide) rfl ?_
        refine bindE4 h (fun i27 l28 l29 b30 hx26 h => ?_) rfl
        refine o_e rfl (za9 2 Z Tryz.func112 N112 rfl rfl rfl (fun w P1 hF hB hS hT => impl_told.calls k i15 A19 c20 l16.length l16 A21 c22 l17.length l17 hB hF _ _ _ _ hx26)) (cur4 (fun A31 c32 A33 c34 => ?_))
        refine o_q rfl rfl (q_ext rfl rfl) ?_
        refine o_q rfl rfl (q_ext rfl rfl) ?_
        refine o_e rfl (zam (i := 3) rfl rfl rfl Z27 rfl rfl) (fun _ => ?_)
        refine o_q rfl rfl (q_asg rfl) ?_
        refine o_end ?_
        refine za1 ?_
        refine c_ret ?_
        have e0_ := Option.some.inj h; clear h
        have d0_ := (Prod.mk.inj e0_).1; have e1_ := (Prod.mk.inj e0_).2; clear e0_; subst d0_
        have d1_ := (Prod.mk.inj e1_).1; have e2_ := (Prod.mk.inj e1_).2; clear e1_; subst d1_
        have d2_ := (Prod.mk.inj e2_).1; have e3_ := (Prod.mk.inj e2_).2; clear e2_; subst d2_
        subst e3_
        exact x_r2 (A31, c32, A33, c34) Tryz.results78 (rv_cell rfl G27 Z27 (fun w h => h.zae (i := 3) rfl) rfl) (zaf rfl) rfl (fun w h => za7 [0, 1] (by decide) rfl w h)

/-! ### loop.example/g01098/impl.IsRegCode: function 26 -/
def impl_IsRegCode.f (k : Nat) (a0_0 : Int) (l0_1 : List Int) (l0_2 : List SRegOp) (l0_3 : List Int) : Option Bool := (impl_RegCode_plan.f k a0_0 l0_1 l0_2 l0_3).bind fun (i4, l5, l6, b7) => some b7
set_option maxHeartbeats 600000 in
set_option maxRecDepth 100000 in
theorem impl_IsRegCode.calls (k : Nat) {w0 ws : World} {P0 : Nat → Prop} (a0_0 : Int) (A0_1 : Option Addr) (c0_1 : Nat) (n0_1 : Nat) (l0_1 : List Int) (A0_2 : Option Addr) (c0_2 : Nat) (n0_2 : Nat) (l0_2 : List SRegOp) (A0_3 : Option Addr) (c0_3 : Nat) (n0_3 : Nat) (l0_3 : List Int) (Z : Below w0.heap.size w0 ws) (hF : Fr w0 ws P0 [] ws) (R0_1 : Stable ws P0 (fun w => Kd.C (Kd.int .i64) w A0_1 n0_1 l0_1)) (hc0_1 : n0_1 ≤ c0_1) (R0_2 : Stable ws P0 (fun w => Kd.C zax w A0_2 n0_2 l0_2)) (hc0_2 : n0_2 ≤ c0_2) (R0_3 : Stable ws P0 (fun w => Kd.C (Kd.int .i64) w A0_3 n0_3 l0_3)) (hc0_3 : n0_3 ≤ c0_3) (r_1 : Bool) (h : impl_IsRegCode.f k a0_0 l0_1 l0_2 l0_3 = some r_1) :
    Calls Tryz.prog 26 #[.agg #[.int .i64 a0_0, .slice A0_1 n0_1 c0_1, .slice A0_2 n0_2 c0_2, .slice A0_3 n0_3 c0_3]] ws (Post1 w0 ws P0 (fun (_ : Unit) => .bool r_1) (fun (_ : Unit) => [])) := by
  unfold impl_IsRegCode.f at h
  obtain rfl := (R0_1 ws (KeptB.refl _ _)).1
  obtain rfl := (R0_2 ws (KeptB.refl _ _)).1
  obtain rfl := (R0_3 ws (KeptB.refl _ _)).1
  refine enter Tryz.func26 rfl Tryz.ntmps26 rfl hF ?_
  refine c_seq ?_
  refine za0 ?_
  refine o_e rfl (e_box rfl) (fun g1 => ?_)
  refine o_q rfl rfl (q_asg rfl) ?_
  refine o_end ?_
  refine za1 ?_
  refine c_seq ?_
  refine za0 ?_
  refine bindE4 h (fun i4 l5 l6 b7 hx3 h => ?_) rfl
  refine o_e rfl (za9 0 Z Tryz.func78 N78 rfl rfl rfl (fun w P1 hF hB hS hT => impl_RegCode_plan.calls k g1 a0_0 A0_1 c0_1 l0_1.length l0_1 A0_2 c0_2 l0_2.length l0_2 A0_3 c0_3 l0_3.length l0_3 hB hF (hS _ R0_1) hc0_1 (hS _ R0_2) hc0_2 (hS _ R0_3) hc0_3 (hT 0 _ rfl).box _ _ _ _ hx3)) (cur4 (fun A8 c9 A10 c11 => ?_))
  refine o_q rfl rfl (za2 rfl) ?_
  refine o_q rfl rfl (q_ext rfl rfl) ?_
  refine o_q rfl rfl (q_ext rfl rfl) ?_
  refine o_e rfl (zau V27 rfl) (fun g12 => ?_)
  refine o_e rfl (zam (i := 0) rfl rfl rfl Z27 rfl rfl) (fun _ => ?_)
  refine o_q rfl rfl (q_asg rfl) ?_
  refine o_end ?_
  refine za1 ?_
  refine c_seq ?_
  refine za0 ?_
  refine o_q rfl rfl (za2 rfl) ?_
  refine o_q rfl rfl (q_asg rfl) ?_
  refine o_end ?_
  refine za1 ?_
  refine c_ret ?_
  have e0_ := Option.some.inj h; clear h
  subst e0_
  exact x_r1 () Tryz.results26 (zaf rfl) rfl (fun w h => za7 [] (by decide) rfl w h)

/-! ### loop.example/g01098/impl.listed: function 82 -/
def impl_listed.f (l0 : List ByteArray) : Option ByteArray := if (l0.length : Int) = 0 then (some (⟨#[45]⟩ : ByteArray)) else ((strings_Join.f l0 (⟨#[44]⟩ : ByteArray)).bind fun s3 => some s3)
set_option maxHeartbeats 600000 in
set_option maxRecDepth 100000 in
theorem impl_listed.calls {w0 ws : World} {P0 : Nat → Prop} (A0 : Option Addr) (c0 : Nat) (n0 : Nat) (l0 : List ByteArray) (Z : Below w0.heap.size w0 ws) (hF : Fr w0 ws P0 [] ws) (R0 : Stable ws P0 (fun w => Kd.C Kd.string w A0 n0 l0)) (hc0 : n0 ≤ c0) (r_1 : ByteArray) (h : impl_listed.f l0 = some r_1) :
    Calls Tryz.prog 82 #[.slice A0 n0 c0] ws (Post1 w0 ws P0 (fun (_ : Unit) => .string r_1) (fun (_ : Unit) => [])) := by
  unfold impl_listed.f at h
  obtain rfl := (R0 ws (KeptB.refl _ _)).1
  refine enter Tryz.func82 rfl Tryz.ntmps82 rfl hF ?_
  refine c_seq ?_
  refine za0 ?_
  refine o_q rfl rfl (q_asg rfl) ?_
  refine o_end ?_
  refine za1 ?_
  refine c_seq ?_
  refine c_seq ?_
  refine za0 ?_
  refine o_q rfl rfl (za2 rfl) ?_
  refine o_q rfl rfl (q_len Tryz.underlying64 rfl) ?_
  refine o_q rfl rfl (q_eql rfl rfl) ?_
  refine o_end ?_
  refine za1 ?_
  refine zaq _ rfl (fun hb1 => ?_) (fun hb1 => ?_)
  · skip
    replace h := br_t hb1 h
    refine c_seq ?_
    refine za0 ?_
    refine o_q rfl rfl (q_asg rfl) ?_
    refine o_end ?_
    refine za1 ?_
    refine c_ret ?_
    refine za5 ?_
    have e0_ := Option.some.inj h; clear h
    subst e0_
    exact x_r1 () Tryz.results82 (zaf rfl) rfl (fun w h => za7 [] (by decide) rfl w h)
  · skip
    replace h := br_f hb1 h
    refine zak ?_
    refine za1 ?_
    refine c_seq ?_
    refine za0 ?_
    refine o_q rfl rfl (za2 rfl) ?_
    refine za6 h (fun s3 hx2 h => ?_) rfl
    refine o_e rfl (za9 0 Z Tryz.func99 N99 rfl rfl rfl (fun w P1 hF hB hS hT => strings_Join.calls A0 c0 l0.length l0 (⟨#[44]⟩ : ByteArray) hB hF (hS _ R0) hc0 _ hx2)) (fun _ => ?_)
    refine o_q rfl rfl (q_asg rfl) ?_
    refine o_end ?_
    refine za1 ?_
    refine c_ret ?_
    have e0_ := Option.some.inj h; clear h
    subst e0_
    exact x_r1 () Tryz.results82 (zaf rfl) rfl (fun w h => za7 [] (by decide) rfl w h)

/-! ### loop.example/g01098/impl.numbersText: function 83 -/
def impl_numbersText.l0 : (List Int) → (List ByteArray) → Int → Option (List ByteArray)
  | [], l4, i7 => some l4
  | y8 :: ys9, l4, i7 => (strconv_Itoa.f y8).bind fun s22 => (ap l4 ([s22] : List ByteArray)).bind fun l26 => impl_numbersText.l0 ys9 l26 (i7 + 1)
def impl_numbersText.f (l0 : List Int) : Option ByteArray := (impl_numbersText.l0 l0 ([] : List ByteArray) 0).bind fun l4 => (impl_listed.f l4).bind fun s19 => some s19
set_option maxHeartbeats 600000 in
set_option maxRecDepth 100000 in
theorem impl_numbersText.calls {w0 ws : World} {P0 : Nat → Prop} (A0 : Option Addr) (c0 : Nat) (n0 : Nat) (l0 : List Int) (Z : Below w0.heap.size w0 ws) (hF : Fr w0 ws P0 [] ws) (R0 : Stable ws P0 (fun w => Kd.C (Kd.int .i64) w A0 n0 l0)) (hc0 : n0 ≤ c0) (r_1 : ByteArray) (h : impl_numbersText.f l0 = some r_1) :
    Calls Tryz.prog 83 #[.slice A0 n0 c0] ws (Post1 w0 ws P0 (fun (_ : Unit) => .string r_1) (fun (_ : Unit) => [])) := by
  unfold impl_numbersText.f at h
  obtain rfl := (R0 ws (KeptB.refl _ _)).1
  refine enter Tryz.func83 rfl Tryz.ntmps83 rfl hF ?_
  refine c_seq ?_
  refine za0 ?_
  refine o_q rfl rfl (q_asg rfl) ?_
  refine o_end ?_
  refine za1 ?_
  refine c_seq ?_
  refine za0 ?_
  refine o_e rfl (e_lit0 Kd.string Tryz.underlying64 I9) (cur2 (fun A1 c2 => ?_))
  refine o_q rfl rfl (q_asg rfl) ?_
  refine o_end ?_
  refine za1 ?_
  refine c_seq ?_
  refine c_seq ?_
  refine za0 ?_
  refine o_q rfl rfl (za2 rfl) ?_
  refine o_q rfl rfl (q_len Tryz.underlying25 rfl) ?_
  refine o_q rfl rfl (za2 rfl) ?_
  refine o_end ?_
  refine za1 ?_
  refine zal ?_
  refine za6 h (fun o15 hl14 hR13 => ?_) rfl
  clear h
  refine c_fact (p := l0.length ≤ 9223372036854775807) (fun w h => (R0.now Z h).2.1) (fun hm12 => ?_)
  refine zb1 (σ := (List Int) × (List ByteArray) × Int × (Option Addr) × Nat) (fun k10 ((ys9, l4, i7, A5, c6) : (List Int) × (List ByteArray) × Int × (Option Addr) × Nat) => Rg l0 i7 ys9 ∧ ys9.length = k10 ∧ impl_numbersText.l0 ys9 l4 i7 = some o15) [3, 5, 9, 10, 11, 12, 13, 14, 15, 16, 17, 18] (fun ((ys9, l4, i7, A5, c6) : (List Int) × (List ByteArray) × Int × (Option Addr) × Nat) => [(3, .slice A5 l4.length c6), (9, .int .i64 i7)]) (fun ((ys9, l4, i7, A5, c6) : (List Int) × (List ByteArray) × Int × (Option Addr) × Nat) => [row Kd.string 9 (.slice A5 l4.length c6) l4]) l0.length (l0, ([] : List ByteArray), 0, A1, c2) ⟨Rg.start _, rfl, hl14⟩ ⟨rfl, rfl, trivial⟩ (fun w h => h) ?_
  refine fun k10 => cur5 (listC (fun l4 i7 A5 c6 U16 hJ_ => ?_) (fun y8 ys9 l4 i7 A5 c6 U16 hJ_ => ?_))
  · skip
    clear hl14
    have hr11 := hJ_.1; have hk17 := hJ_.2.1; have h := hJ_.2.2; clear hJ_
    replace h : impl_numbersText.l0 [] l4 i7 = some o15 := h
    rw [impl_numbersText.l0] at h
    refine c_seq ?_
    refine za0 ?_
    refine o_q rfl rfl (q_lss rfl rfl) ?_
    refine o_end ?_
    refine za1 ?_
    refine c_seq ?_
    refine c_false (congrArg Value.bool hr11.ge) ?_
    refine c_exit ?_
    refine zaa ?_
    refine zaa ?_
    have e_ := Option.some.inj h; replace h := hR13; rw [← e_] at h; clear e_
    refine x_hit ?_
    refine za1 ?_
    refine c_seq ?_
    refine za0 ?_
    refine o_q rfl rfl (za2 rfl) ?_
    refine za6 h (fun s19 hx18 h => ?_) rfl
    refine o_e rfl (za9 0 Z Tryz.func82 N82 rfl rfl rfl (fun w P1 hF hB hS hT => impl_listed.calls A5 c6 l4.length l4 hB hF (hT 0 _ rfl).row (hT 0 _ rfl).cap _ hx18)) (fun _ => ?_)
    refine o_q rfl rfl (q_asg rfl) ?_
    refine o_end ?_
    refine za1 ?_
    refine c_ret ?_
    have e0_ := Option.some.inj h; clear h
    subst e0_
    exact x_r1 () Tryz.results83 (zaf rfl) rfl (fun w h => za7 [] (by decide) rfl w h)
  · skip
    clear hl14
    have hr11 := hJ_.1; have hk17 := hJ_.2.1; have h := hJ_.2.2; clear hJ_
    replace h : impl_numbersText.l0 (y8 :: ys9) l4 i7 = some o15 := h
    rw [impl_numbersText.l0] at h
    refine c_seq ?_
    refine za0 ?_
    refine o_q rfl rfl (q_lss rfl rfl) ?_
    refine o_end ?_
    refine za1 ?_
    refine c_seq ?_
    refine c_true (congrArg Value.bool hr11.lt) ?_
    refine zak ?_
    refine za1 ?_
    refine c_seq ?_
    refine zal ?_
    refine c_seq ?_
    refine za0 ?_
    refine zb2 (p := Sh A0 l0.length l0.length) (fun w h => f_sh (dk := (Kd.int .i64)) h (fun w h => R0.now Z h)) (fun hq20 => ?_)
    refine o_q rfl rfl (q_ix Tryz.underlying25 Z3 rfl rfl hq20 hr11.get) ?_
    refine o_q rfl rfl (q_lde (off := 0) Y3 rfl rfl (fun w h => R0.now Z h) hr11.get (fun _ _ h => h) rfl) ?_
    refine o_q rfl rfl (q_asg rfl) ?_
    refine o_end ?_
    refine za1 ?_
    refine za0 ?_
    refine o_q rfl rfl (za2 rfl) ?_
    refine o_q rfl rfl (za2 rfl) ?_
    refine za6 h (fun s22 hx21 h => ?_) rfl
    refine o_e rfl (za9 0 Z Tryz.func81 N81 rfl rfl rfl (fun w P1 hF hB hS hT => strconv_Itoa.calls y8 hB hF _ hx21)) (fun _ => ?_)
    refine o_e rfl (e_lit (vs := [(0, .string s22)]) (cs := [.string s22]) Kd.string ([s22] : List ByteArray) Tryz.underlying64 I9 (by decide) rfl (by decide) rfl rfl (fun _ _ => Kd.zav _)) (cur2 (fun A23 c24 => ?_))
    refine za6 h (fun l26 ha27 h => ?_) rfl
    refine o_e rfl (e_app (i := 1) (j := 0) Tryz.underlying64 I9 rfl (by decide) (by decide) rfl rfl rfl rfl rfl ha27) (cur2 (fun A28 c29 => ?_))
    refine o_q rfl rfl (q_asg rfl) ?_
    refine o_end ?_
    refine zaw ?_
    refine za1 ?_
    refine za0 ?_
    refine o_q rfl rfl (q_up rfl rfl (hr11.up hm12)) ?_
    refine o_q rfl rfl (za2 rfl) ?_
    refine o_end ?_
    refine zao ys9.length (ys9, l26, i7 + 1, A28, c29) (by rw [← hk17]; exact Nat.lt_succ_self _) ⟨hr11.step, rfl, h⟩ ⟨rfl, rfl, trivial⟩ (fun w h => za7 [1] (by decide) rfl w h) ?_
    repeat (first | exact zac _ _ | refine zai rfl ?_ | refine zad rfl ?_ | refine zaj rfl ?_)

/-! ### (*loop.example/g01098/impl.RegCode).text: function 58 -/
def impl_RegCode_text.l0 : (List SRegOp) → (List ByteArray) → Int → Option (List ByteArray)
  | [], l4, i7 => some l4
  | y8 :: ys9, l4, i7 => (strconv_Itoa.f y8.f0).bind fun s35 => (sap s35 (⟨#[61]⟩ : ByteArray)).bind fun s37 => (strconv_Itoa.f y8.f1).bind fun s39 => (sap s37 s39).bind fun s41 => (sap s41 (⟨#[42]⟩ : ByteArray)).bind fun s43 => (strconv_Itoa.f y8.f2).bind fun s45 => (sap s43 s45).bind fun s47 => (ap l4 ([s47] : List ByteArray)).bind fun l51 => impl_RegCode_text.l0 ys9 l51 (i7 + 1)
def impl_RegCode_text.f (a0_0 : Int) (l0_1 : List Int) (l0_2 : List SRegOp) (l0_3 : List Int) : Option ByteArray := (impl_RegCode_text.l0 l0_2 ([] : List ByteArray) 0).bind fun l4 => (strconv_Itoa.f a0_0).bind fun s19 => (impl_numbersText.f l0_1).bind fun s21 => (impl_listed.f l4).bind fun s23 => (impl_numbersText.f l0_3).bind fun s25 => (strings_Join.f ([s19, s21, s23, s25] : List ByteArray) (⟨#[58]⟩ : ByteArray)).bind fun s30 => some s30
set_option maxHeartbeats 600000 in
set_option maxRecDepth 100000 in
theorem impl_RegCode_text.calls {w0 ws : World} {P0 : Nat → Prop} (g0 : Nat) (a0_0 : Int) (A0_1 : Option Addr) (c0_1 : Nat) (n0_1 : Nat) (l0_1 : List Int) (A0_2 : Option Addr) (c0_2 : Nat) (n0_2 : Nat) (l0_2 : List SRegOp) (A0_3 : Option Addr) (c0_3 : Nat) (n0_3 : Nat) (l0_3 : List Int) (Z : Below w0.heap.size w0 ws) (hF : Fr w0 ws P0 [] ws) (R0_1 : Stable ws P0 (fun w => Kd.C (Kd.int .i64) w A0_1 n0_1 l0_1)) (hc0_1 : n0_1 ≤ c0_1) (R0_2 : Stable ws P0 (fun w => Kd.C zax w A0_2 n0_2 l0_2)) (hc0_2 : n0_2 ≤ c0_2) (R0_3 : Stable ws P0 (fun w => Kd.C (Kd.int .i64) w A0_3 n0_3 l0_3)) (hc0_3 : n0_3 ≤ c0_3) (B0 : Stable ws P0 (fun w => w.heap[g0]? = some (.cells #[.int .i64 a0_0, .slice A0_1 n0_1 c0_1, .slice A0_2 n0_2 c0_2, .slice A0_3 n0_3 c0_3] 38 (0, 0)))) (r_1 : ByteArray) (h : impl_RegCode_text.f a0_0 l0_1 l0_2 l0_3 = some r_1) :
    Calls Tryz.prog 58 #[.pointer (some ⟨g0, 0, none⟩)] ws (Post1 w0 ws P0 (fun (_ : Unit) => .string r_1) (fun (_ : Unit) => [])) := by
  unfold impl_RegCode_text.f at h
  obtain rfl := (R0_1 ws (KeptB.refl _ _)).1
  obtain rfl := (R0_2 ws (KeptB.refl _ _)).1
  obtain rfl := (R0_3 ws (KeptB.refl _ _)).1
  refine enter Tryz.func58 rfl Tryz.ntmps58 rfl hF ?_
  refine c_seq ?_
  refine za0 ?_
  refine o_q rfl rfl (q_asg rfl) ?_
  refine o_end ?_
  refine za1 ?_
  refine c_seq ?_
  refine za0 ?_
  refine o_e rfl (e_lit0 Kd.string Tryz.underlying64 I9) (cur2 (fun A1 c2 => ?_))
  refine o_q rfl rfl (q_asg rfl) ?_
  refine o_end ?_
  refine za1 ?_
  refine c_seq ?_
  refine c_seq ?_
  refine za0 ?_
  refine o_q rfl rfl (za2 rfl) ?_
  refine o_q rfl rfl (q_nil rfl) ?_
  refine o_q rfl rfl (q_f F38_2 rfl) ?_
  refine o_q rfl rfl (q_ldb Y36 rfl (fun w h => B0.now Z h) rfl) ?_
  refine o_q rfl rfl (q_len Tryz.underlying36 rfl) ?_
  refine o_q rfl rfl (za2 rfl) ?_
  refine o_end ?_
  refine za1 ?_
  refine zal ?_
  refine za6 h (fun o15 hl14 hR13 => ?_) rfl
  clear h
  refine c_fact (p := l0_2.length ≤ 9223372036854775807) (fun w h => (R0_2.now Z h).2.1) (fun hm12 => ?_)
  refine zb1 (σ := (List SRegOp) × (List ByteArray) × Int × (Option Addr) × Nat) (fun k10 ((ys9, l4, i7, A5, c6) : (List SRegOp) × (List ByteArray) × Int × (Option Addr) × Nat) => Rg l0_2 i7 ys9 ∧ ys9.length = k10 ∧ impl_RegCode_text.l0 ys9 l4 i7 = some o15) [3, 5, 12, 13, 14, 15, 16, 17, 18, 19, 20, 21, 22, 23, 24, 25, 26, 27, 28, 29, 30, 31, 32] (fun ((ys9, l4, i7, A5, c6) : (List SRegOp) × (List ByteArray) × Int × (Option Addr) × Nat) => [(3, .slice A5 l4.length c6), (12, .int .i64 i7)]) (fun ((ys9, l4, i7, A5, c6) : (List SRegOp) × (List ByteArray) × Int × (Option Addr) × Nat) => [row Kd.string 9 (.slice A5 l4.length c6) l4]) l0_2.length (l0_2, ([] : List ByteArray), 0, A1, c2) ⟨Rg.start _, rfl, hl14⟩ ⟨rfl, rfl, trivial⟩ (fun w h => h) ?_
  refine fun k10 => cur5 (listC (fun l4 i7 A5 c6 U16 hJ_ => ?_) (fun y8 ys9 l4 i7 A5 c6 U16 hJ_ => ?_))
  · skip
    clear hl14
    have hr11 := hJ_.1; have hk17 := hJ_.2.1; have h := hJ_.2.2; clear hJ_
    replace h : impl_RegCode_text.l0 [] l4 i7 = some o15 := h
    rw [impl_RegCode_text.l0] at h
    refine c_seq ?_
    refine za0 ?_
    refine o_q rfl rfl (q_lss rfl rfl) ?_
    refine o_end ?_
    refine za1 ?_
    refine c_seq ?_
    refine c_false (congrArg Value.bool hr11.ge) ?_
    refine c_exit ?_
    refine zaa ?_
    refine zaa ?_
    have e_ := Option.some.inj h; replace h := hR13; rw [← e_] at h; clear e_
    refine x_hit ?_
    refine za1 ?_
    refine c_seq ?_
    refine a_start (ds := []) MO rfl ?_
    refine zab 0 rfl rfl rfl (by kernel_rfl) (fun _ _ _ h => h) (za2 rfl) ?_
    refine zab 1 rfl rfl rfl (by kernel_rfl) (fun _ _ _ h => h) (q_nil rfl) ?_
    refine zab 2 rfl rfl rfl (by kernel_rfl) (fun _ _ _ h => h) (q_f F38_0 rfl) ?_
    refine zaz 3 rfl rfl rfl (by kernel_rfl) (fun _ _ _ h => h) (fun w h => h) (q_ldb Y3 rfl (fun w h => B0.now Z h) rfl) ?_
    refine zab 5 rfl rfl rfl (by kernel_rfl) (fun _ _ _ h => h) (za2 rfl) ?_
    refine zab 6 rfl rfl rfl (by kernel_rfl) (fun _ _ _ h => h) (q_nil rfl) ?_
    refine zab 7 rfl rfl rfl (by kernel_rfl) (fun _ _ _ h => h) (q_f F38_1 rfl) ?_
    refine zaz 8 rfl rfl rfl (by kernel_rfl) (fun _ _ _ h => h) (fun w h => h) (q_ldb Y25 rfl (fun w h => B0.now Z h) rfl) ?_
    refine zab 10 rfl rfl rfl (by kernel_rfl) (fun _ _ _ h => h) (za2 rfl) ?_
    refine zab 12 rfl rfl rfl (by kernel_rfl) (fun _ _ _ h => h) (za2 rfl) ?_
    refine zab 13 rfl rfl rfl (by kernel_rfl) (fun _ _ _ h => h) (q_nil rfl) ?_
    refine zab 14 rfl rfl rfl (by kernel_rfl) (fun _ _ _ h => h) (q_f F38_3 rfl) ?_
    refine zaz 15 rfl rfl rfl (by kernel_rfl) (fun _ _ _ h => h) (fun w h => h) (q_ldb Y25 rfl (fun w h => B0.now Z h) rfl) ?_
    refine za6 h (fun s19 hx18 h => ?_) rfl
    refine a_one 4 rfl rfl (by kernel_rfl) rfl (za9 0 Z Tryz.func81 N81 rfl rfl rfl (fun w P1 hF hB hS hT => strconv_Itoa.calls a0_0 hB hF _ hx18)) (fun s w h => h) (fun _ => ?_)
    refine za6 h (fun s21 hx20 h => ?_) rfl
    refine a_one 9 rfl rfl (by kernel_rfl) rfl (za9 0 Z Tryz.func83 N83 rfl rfl rfl (fun w P1 hF hB hS hT => impl_numbersText.calls A0_1 c0_1 l0_1.length l0_1 hB hF (hS _ R0_1) hc0_1 _ hx20)) (fun s w h => h) (fun _ => ?_)
    refine za6 h (fun s23 hx22 h => ?_) rfl
    refine a_one 11 rfl rfl (by kernel_rfl) rfl (za9 0 Z Tryz.func82 N82 rfl rfl rfl (fun w P1 hF hB hS hT => impl_listed.calls A5 c6 l4.length l4 hB hF (hT 0 _ rfl).row (hT 0 _ rfl).cap _ hx22)) (fun s w h => h) (fun _ => ?_)
    refine za6 h (fun s25 hx24 h => ?_) rfl
    refine a_one 16 rfl rfl (by kernel_rfl) rfl (za9 0 Z Tryz.func83 N83 rfl rfl rfl (fun w P1 hF hB hS hT => impl_numbersText.calls A0_3 c0_3 l0_3.length l0_3 hB hF (hS _ R0_3) hc0_3 _ hx24)) (fun s w h => h) (fun _ => ?_)
    refine a_one 17 rfl rfl (by kernel_rfl) rfl (e_lit (vs := [(0, .string s19), (1, .string s21), (2, .string s23), (3, .string s25)]) (cs := [.string s19, .string s21, .string s23, .string s25]) Kd.string ([s19, s21, s23, s25] : List ByteArray) Tryz.underlying64 I9 (by decide) rfl (by decide) rfl rfl (fun _ _ => Kd.zav _)) (fun s w h => za8 [some 1] (by decide) w h rfl) (cur2 (fun A26 c27 => ?_))
    refine za6 h (fun s30 hx29 h => ?_) rfl
    refine a_one 18 rfl rfl (by kernel_rfl) rfl (za9 0 Z Tryz.func99 N99 rfl rfl rfl (fun w P1 hF hB hS hT => strings_Join.calls A26 c27 (([s19, s21, s23, s25] : List ByteArray).length) ([s19, s21, s23, s25] : List ByteArray) (⟨#[58]⟩ : ByteArray) hB hF (hT 0 _ rfl).row (hT 0 _ rfl).cap _ hx29)) (fun s w h => za8 [some 1] (by decide) w h rfl) (fun _ => ?_)
    refine zab 19 rfl rfl rfl (by kernel_rfl) (fun _ _ _ h => h) (q_asg rfl) ?_
    refine zay (by kernel_rfl) ?_
    refine za1 ?_
    refine c_ret ?_
    have e0_ := Option.some.inj h; clear h
    subst e0_
    exact x_r1 () Tryz.results58 (zaf rfl) rfl (fun w h => za7 [] (by decide) rfl w h)
  · skip
    clear hl14
    have hr11 := hJ_.1; have hk17 := hJ_.2.1; have h := hJ_.2.2; clear hJ_
    replace h : impl_RegCode_text.l0 (y8 :: ys9) l4 i7 = some o15 := h
    rw [impl_RegCode_text.l0] at h
    refine c_seq ?_
    refine za0 ?_
    refine o_q rfl rfl (q_lss rfl rfl) ?_
    refine o_end ?_
    refine za1 ?_
    refine c_seq ?_
    refine c_true (congrArg Value.bool hr11.lt) ?_
    refine zak ?_
    refine za1 ?_
    refine c_seq ?_
    refine zal ?_
    refine c_seq ?_
    refine za0 ?_
    refine zb2 (p := Sh A0_2 l0_2.length l0_2.length) (fun w h => f_sh (dk := zax) h (fun w h => R0_2.now Z h)) (fun hq31 => ?_)
    refine o_q rfl rfl (q_ix Tryz.underlying36 Z84 rfl rfl hq31 hr11.get) ?_
    refine o_q rfl rfl (q_ldE G84 Z84 rfl rfl (fun w h => R0_2.now Z h) hr11.get (fun _ _ h => h) rfl) ?_
    refine o_e rfl (zau V84 rfl) (fun g32 => ?_)
    refine o_e rfl (zam (i := 0) rfl rfl rfl Z84 rfl rfl) (fun _ => ?_)
    refine o_end ?_
    refine za1 ?_
    refine a_startS (ds := []) [some 0, none] MO rfl ?_
    refine zab 0 rfl rfl rfl (by kernel_rfl) (fun _ _ _ h => h) (za2 rfl) ?_
    refine zab 1 rfl rfl rfl (by kernel_rfl) (fun _ _ _ h => h) (q_f F84_0 rfl) ?_
    refine zaz 2 rfl rfl rfl (by kernel_rfl) (fun _ _ _ h => h) (fun w h => za8 [some 0, none] (by decide) w h rfl) (q_ldb Y3 rfl (fun w h => h.zae (i := 0) rfl) rfl) ?_
    refine zab 5 rfl rfl rfl (by kernel_rfl) (fun _ _ _ h => h) (q_f F84_1 rfl) ?_
    refine zaz 6 rfl rfl rfl (by kernel_rfl) (fun _ _ _ h => h) (fun w h => za8 [some 0, none] (by decide) w h rfl) (q_ldb Y3 rfl (fun w h => h.zae (i := 0) rfl) rfl) ?_
    refine zab 10 rfl rfl rfl (by kernel_rfl) (fun _ _ _ h => h) (q_f F84_2 rfl) ?_
    refine zaz 11 rfl rfl rfl (by kernel_rfl) (fun _ _ _ h => h) (fun w h => za8 [some 0, none] (by decide) w h rfl) (q_ldb Y3 rfl (fun w h => h.zae (i := 0) rfl) rfl) ?_
    refine za6 h (fun s35 hx34 h => ?_) rfl
    refine a_one 3 rfl rfl (by kernel_rfl) rfl (za9 0 Z Tryz.func81 N81 rfl rfl rfl (fun w P1 hF hB hS hT => strconv_Itoa.calls y8.f0 hB hF _ hx34)) (fun s w h => za8 [some 0, none] (by decide) w h rfl) (fun _ => ?_)
    refine za6 h (fun s37 hs36 h => ?_) rfl
    refine zab 4 rfl rfl rfl (by kernel_rfl) (fun _ _ _ h => h) (q_sap rfl rfl hs36) ?_
    refine za6 h (fun s39 hx38 h => ?_) rfl
    refine a_one 7 rfl rfl (by kernel_rfl) rfl (za9 0 Z Tryz.func81 N81 rfl rfl rfl (fun w P1 hF hB hS hT => strconv_Itoa.calls y8.f1 hB hF _ hx38)) (fun s w h => za8 [some 0, none] (by decide) w h rfl) (fun _ => ?_)
    refine za6 h (fun s41 hs40 h => ?_) rfl
    refine zab 8 rfl rfl rfl (by kernel_rfl) (fun _ _ _ h => h) (q_sap rfl rfl hs40) ?_
    refine za6 h (fun s43 hs42 h => ?_) rfl
    refine zab 9 rfl rfl rfl (by kernel_rfl) (fun _ _ _ h => h) (q_sap rfl rfl hs42) ?_
    refine za6 h (fun s45 hx44 h => ?_) rfl
    refine a_one 12 rfl rfl (by kernel_rfl) rfl (za9 0 Z Tryz.func81 N81 rfl rfl rfl (fun w P1 hF hB hS hT => strconv_Itoa.calls y8.f2 hB hF _ hx44)) (fun s w h => za8 [some 0, none] (by decide) w h rfl) (fun _ => ?_)
    refine za6 h (fun s47 hs46 h => ?_) rfl
    refine zab 13 rfl rfl rfl (by kernel_rfl) (fun _ _ _ h => h) (q_sap rfl rfl hs46) ?_
    refine a_one 14 rfl rfl (by kernel_rfl) rfl (e_lit (vs := [(0, .string s47)]) (cs := [.string s47]) Kd.string ([s47] : List ByteArray) Tryz.underlying64 I9 (by decide) rfl (by decide) rfl rfl (fun _ _ => Kd.zav _)) (fun s w h => za8 [some 1, none] (by decide) w h rfl) (cur2 (fun A48 c49 => ?_))
    refine za6 h (fun l51 ha52 h => ?_) rfl
    refine a_one 15 rfl rfl (by kernel_rfl) rfl (e_app (i := 2) (j := 0) Tryz.underlying64 I9 rfl (by decide) (by decide) rfl rfl rfl rfl rfl ha52) (fun s w h => za8 [some 1, none] (by decide) w h rfl) (cur2 (fun A53 c54 => ?_))
    refine zab 16 rfl rfl rfl (by kernel_rfl) (fun _ _ _ h => h) (q_asg rfl) ?_
    refine zay (by kernel_rfl) ?_
    refine zaw ?_
    refine za1 ?_
    refine za0 ?_
    refine o_q rfl rfl (q_up rfl rfl (hr11.up hm12)) ?_
    refine o_q rfl rfl (za2 rfl) ?_
    refine o_end ?_
    refine zao ys9.length (ys9, l51, i7 + 1, A53, c54) (by rw [← hk17]; exact Nat.lt_succ_self _) ⟨hr11.step, rfl, h⟩ ⟨rfl, rfl, trivial⟩ (fun w h => za7 [2] (by decide) rfl w h) ?_
    repeat (first | exact zac _ _ | refine zai rfl ?_ | refine zad rfl ?_ | refine zaj rfl ?_)

/-! ### loop.example/g01098/impl.ParseRegCode: function 16 -/
def impl_ParseRegCode.l0 : (List ByteArray) → (List SRegOp) → Int → Option (List SRegOp)
  | [], l2191, i2194 => some l2191
  | y2195 :: ys2196, l2191, i2194 => (strings_Cut.f y2195 (⟨#[61]⟩ : ByteArray)).bind fun (s2224, s2225, b2226) => (strings_Cut.f s2225 (⟨#[42]⟩ : ByteArray)).bind fun (s2228, s2229, b2230) => (impl_numberOf.f s2224).bind fun i2413 => (impl_numberOf.f s2228).bind fun i2533 => (impl_numberOf.f s2229).bind fun i2653 => (ap l2191 ([(⟨i2413, i2533, i2653⟩ : SRegOp)] : List SRegOp)).bind fun l2832 => impl_ParseRegCode.l0 ys2196 l2832 (i2194 + 1)
def impl_ParseRegCode.f (k : Nat) (a0 : ByteArray) : Option (Int × (List Int) × (List SRegOp) × (List Int) × Bool) := (strings_SplitN.f a0 (⟨#[58]⟩ : ByteArray) 5).bind fun l4 => if (l4.length : Int) ≠ 4 then (some (0, ([] : List Int), ([] : List SRegOp), ([] : List Int), false)) else (((gt l4 0).bind fun y1165 => (impl_numberOf.f y1165).bind fun i1284 => (gt l4 1).bind fun y1404 => (impl_parts.f y1404 6).bind fun l1524 => (impl_numbersOf.f l1524).bind fun l1584 => (gt l4 3).bind fun y1704 => (impl_parts.f y1704 6).bind fun l1824 => (impl_numbersOf.f l1824).bind fun l1884 => some (i1284, l1584, l1884)).bind fun (i1090, l1091, l1094) => (gt l4 2).bind fun y2185 => (impl_parts.f y2185 40).bind fun l2187 => (impl_ParseRegCode.l0 l2187 ([] : List SRegOp) 0).bind fun l2191 => ((impl_IsRegCode.f k i1090 l1091 l2191 l1094).bind fun b2217 => if b2217 = true then ((impl_RegCode_text.f i1090 l1091 l2191 l1094).bind fun s2220 => some (decide (s2220 ≠ a0))) else (some true)).bind fun b2210 => if b2210 = true then (some (0, ([] : List Int), ([] : List SRegOp), ([] : List Int), false)) else (some (i1090, l1091, l2191, l1094, true)))
set_option maxHeartbeats 600000 in
set_option maxRecDepth 100000 in
theorem impl_ParseRegCode.calls (k : Nat) {w0 ws : World} {P0 : Nat → Prop} (a0 : ByteArray) (Z : Below w0.heap.size w0 ws) (hF : Fr w0 ws P0 [] ws) (GW : Stable ws P0 GP) (r_1 : Int) (r_2 : List Int) (r_5 : List SRegOp) (r_8 : List Int) (r_11 : Bool) (h : impl_ParseRegCode.f k a0 = some (r_1, r_2, r_5, r_8, r_11)) :
    Calls Tryz.prog 16 #[.string a0] ws (Post1 w0 ws P0 (fun ((q_3, q_4, q_6, q_7, q_9, q_10) : (Option Addr) × Nat × (Option Addr) × Nat × (Option Addr) × Nat) => .tuple #[.agg #[.int .i64 r_1, .slice q_3 r_2.length q_4, .slice q_6 r_5.length q_7, .slice q_9 r_8.length q_10], .bool r_11]) (fun ((q_3, q_4, q_6, q_7, q_9, q_10) : (Option Addr) × Nat × (Option Addr) × Nat × (Option Addr) × Nat) => [row (Kd.int .i64) 3 (.slice q_3 r_2.length q_4) r_2, row zax 84 (.slice q_6 r_5.length q_7) r_5, row (Kd.int .i64) 3 (.slice q_9 r_8.length q_10) r_8])) := by
  unfold impl_ParseRegCode.f at h
  refine enter Tryz.func16 rfl Tryz.ntmps16 rfl hF ?_
  refine c_seq ?_
  refine za0 ?_
  refine o_e rfl (zau V38 rfl) (fun g1 => ?_)
  refine o_q rfl rfl (q_asg rfl) ?_
  refine o_end ?_
  refine za1 ?_
  refine c_seq ?_
  refine za0 ?_
  refine o_q rfl rfl (za2 rfl) ?_
  refine za6 h (fun l4 hx3 h => ?_) rfl
  refine o_e rfl (za9 0 Z Tryz.func40 N40 rfl rfl rfl (fun w P1 hF hB hS hT => strings_SplitN.calls a0 (⟨#[58]⟩ : ByteArray) 5 hB hF (hS _ GW) _ hx3)) (cur2 (fun A5 c6 => ?_))
  refine o_q rfl rfl (q_asg rfl) ?_
  refine o_end ?_
  refine za1 ?_
  refine c_seq ?_
  refine c_seq ?_
  refine za0 ?_
  refine o_q rfl rfl (za2 rfl) ?_
  refine o_q rfl rfl (q_len Tryz.underlying64 rfl) ?_
  refine o_q rfl rfl (q_neq rfl rfl) ?_
  refine o_end ?_
  refine za1 ?_
  refine zaq _ rfl (fun hb7 => ?_) (fun hb7 => ?_)
  · skip
    replace h := br_t hb7 h
    refine c_seq ?_
    refine za0 ?_
    refine o_q rfl rfl (q_build (vs := []) (cs := [.int .i64 0, .slice none 0 0, .slice none 0 0, .slice none 0 0]) rfl rfl) ?_
    refine o_e rfl (zam (i := 1) rfl rfl rfl Z38 rfl rfl) (fun _ => ?_)
    refine o_q rfl rfl (q_asg rfl) ?_
    refine o_end ?_
    refine za1 ?_
    refine c_ret ?_
    refine za5 ?_
    refine x_nil (Kd.int .i64) 3 ?_
    refine x_nil zax 84 ?_
    refine x_nil (Kd.int .i64) 3 ?_
    have e0_ := Option.some.inj h; clear h
    have d0_ := (Prod.mk.inj e0_).1; have e1_ := (Prod.mk.inj e0_).2; clear e0_; subst d0_
    have d1_ := (Prod.mk.inj e1_).1; have e2_ := (Prod.mk.inj e1_).2; clear e1_; subst d1_
    have d2_ := (Prod.mk.inj e2_).1; have e3_ := (Prod.mk.inj e2_).2; clear e2_; subst d2_
    have d3_ := (Prod.mk.inj e3_).1; have e4_ := (Prod.mk.inj e3_).2; clear e3_; subst d3_
    subst e4_
    exact x_r2 (none, 0, none, 0, none, 0) Tryz.results16 (rv_cell rfl G38 Z38 (fun w h => h.zae (i := 4) rfl) rfl) (zaf rfl) rfl (fun w h => za7 [2, 1, 0] (by decide) rfl w h)
  · skip
    replace h := br_f hb7 h
    refine zak ?_
    refine za1 ?_
    refine za6 h (fun o1097 hl1098 hR1099 => ?_) rfl
    clear h
    refine c_cutJ (σ := Int × (List Int) × (List Int) × Nat × (Option Addr) × Nat × (Option Addr) × Nat) (fun (i1090, l1091, l1094, g1089, A1092, c1093, A1095, c1096) => some (i1090, l1091, l1094) = some o1097) [5, 20, 21, 22, 23, 24, 25, 26, 27, 28, 29, 30, 31, 32, 33, 34] (fun (i1090, l1091, l1094, g1089, A1092, c1093, A1095, c1096) => [(5, .pointer (some ⟨g1089, 0, none⟩))]) (fun (i1090, l1091, l1094, g1089, A1092, c1093, A1095, c1096) => [box g1 38 #[.int .i64 0, .slice none 0 0, .slice none 0 0, .slice none 0 0], row Kd.string 9 (.slice A5 l4.length c6) l4, box g1089 38 #[.int .i64 i1090, .slice A1092 l1091.length c1093, .slice none 0 0, .slice A1095 l1094.length c1096], row (Kd.int .i64) 3 (.slice A1092 l1091.length c1093) l1091, row (Kd.int .i64) 3 (.slice A1095 l1094.length c1096) l1094]) ?_ ?_
    · skip
      have h := hl1098; clear hl1098
      clear hR1099
      refine za6 h (fun y1165 hg1164 h => ?_) rfl
      refine za6 h (fun i1284 hx1283 h => ?_) rfl
      refine za6 h (fun y1404 hg1403 h => ?_) rfl
      refine za6 h (fun l1524 hx1523 h => ?_) rfl
      refine za6 h (fun l1584 hx1583 h => ?_) rfl
      refine za6 h (fun y1704 hg1703 h => ?_) rfl
      refine za6 h (fun l1824 hx1823 h => ?_) rfl
      refine za6 h (fun l1884 hx1883 h => ?_) rfl
      refine a_start (ds := []) MO rfl ?_
      refine zab 0 rfl rfl rfl (by kernel_rfl) (fun _ _ _ h => h) (za2 rfl) ?_
      refine a_fact (p := Sh A5 l4.length l4.length) (fun w h => f_sh (dk := Kd.string) h (fun w h => h.zan (i := 0) rfl)) (fun hq1163 => ?_)
      refine zab 1 rfl rfl rfl (by kernel_rfl) (fun _ _ _ h => h) (q_ix Tryz.underlying64 Z9 rfl rfl hq1163 hg1164) ?_
      refine zaz 2 rfl rfl rfl (by kernel_rfl) (fun _ _ _ h => h) (fun w h => h) (q_lde (off := 0) Y9 rfl rfl (fun w h => h.zan (i := 0) rfl) hg1164 (fun _ _ h => h) rfl) ?_
      refine zab 4 rfl rfl rfl (by kernel_rfl) (fun _ _ _ h => h) (za2 rfl) ?_
      refine zab 5 rfl rfl rfl (by kernel_rfl) (fun _ _ _ h => h) (q_ix Tryz.underlying64 Z9 rfl rfl hq1163 hg1403) ?_
      refine zaz 6 rfl rfl rfl (by kernel_rfl) (fun _ _ _ h => h) (fun w h => h) (q_lde (off := 0) Y9 rfl rfl (fun w h => h.zan (i := 0) rfl) hg1403 (fun _ _ h => h) rfl) ?_
      refine zab 9 rfl rfl rfl (by kernel_rfl) (fun _ _ _ h => h) (za2 rfl) ?_
      refine zab 10 rfl rfl rfl (by kernel_rfl) (fun _ _ _ h => h) (q_ix Tryz.underlying64 Z9 rfl rfl hq1163 hg1703) ?_
      refine zaz 11 rfl rfl rfl (by kernel_rfl) (fun _ _ _ h => h) (fun w h => h) (q_lde (off := 0) Y9 rfl rfl (fun w h => h.zan (i := 0) rfl) hg1703 (fun _ _ h => h) rfl) ?_
      refine a_two 3 15 rfl rfl rfl rfl (by kernel_rfl) rfl rfl (za9 0 Z Tryz.func41 N41 rfl rfl rfl (fun w P1 hF hB hS hT => impl_numberOf.calls y1165 hB hF (hS _ GW) _ hx1283)) (fun s w h => h) (zau V38 rfl) (fun s w h => za8 [some 1, some 2] (by decide) w h rfl) (fun _ => ?_) (fun g2003 => ?_)
      · skip
        refine a_two 7 15 rfl rfl rfl rfl (by kernel_rfl) rfl rfl (za9 0 Z Tryz.func43 N43 rfl rfl rfl (fun w P1 hF hB hS hT => impl_parts.calls y1404 6 hB hF (hS _ GW) _ hx1523)) (fun s w h => za8 [some 1, some 2] (by decide) w h rfl) (zau V38 rfl) (fun s w h => za8 [some 1, some 2] (by decide) w h rfl) (cur2 (fun A1525 c1526 => ?_)) (fun g2003 => ?_)
        · skip
          refine a_two 8 15 rfl rfl rfl rfl (by kernel_rfl) rfl rfl (za9 0 Z Tryz.func42 N42 rfl rfl rfl (fun w P1 hF hB hS hT => impl_numbersOf.calls A1525 c1526 l1524.length l1524 hB hF (hT 0 _ rfl).row (hT 0 _ rfl).cap (hS _ GW) _ hx1583)) (fun s w h => za8 [some 2, some 3] (by decide) w h rfl) (zau V38 rfl) (fun s w h => za8 [some 2, some 3] (by decide) w h rfl) (cur2 (fun A1585 c1586 => ?_)) (fun g2003 => ?_)
          · skip
            refine a_two 12 15 rfl rfl rfl rfl (by kernel_rfl) rfl rfl (za9 0 Z Tryz.func43 N43 rfl rfl rfl (fun w P1 hF hB hS hT => impl_parts.calls y1704 6 hB hF (hS _ GW) _ hx1823)) (fun s w h => za8 [some 3, some 4] (by decide) w h rfl) (zau V38 rfl) (fun s w h => za8 [some 3, some 4] (by decide) w h rfl) (cur2 (fun A1825 c1826 => ?_)) (fun g2003 => ?_)
            · skip
              refine a_two 13 15 rfl rfl rfl rfl (by kernel_rfl) rfl rfl (za9 0 Z Tryz.func42 N42 rfl rfl rfl (fun w P1 hF hB hS hT => impl_numbersOf.calls A1825 c1826 l1824.length l1824 hB hF (hT 0 _ rfl).row (hT 0 _ rfl).cap (hS _ GW) _ hx1883)) (fun s w h => za8 [some 4, some 5] (by decide) w h rfl) (zau V38 rfl) (fun s w h => za8 [some 4, some 5] (by decide) w h rfl) (cur2 (fun A1885 c1886 => ?_)) (fun g2003 => ?_)
              · skip
                refine zab 14 rfl rfl rfl (by kernel_rfl) (fun _ _ _ h => h) (q_build (vs := [(0, .int .i64 i1284), (1, .slice A1585 l1584.length c1586), (3, .slice A1885 l1884.length c1886)]) (cs := [.int .i64 i1284, .slice A1585 l1584.length c1586, .slice none 0 0, .slice A1885 l1884.length c1886]) rfl rfl) ?_
                refine a_one 15 rfl rfl (by kernel_rfl) rfl (zau V38 rfl) (fun s w h => za8 [some 5, some 6] (by decide) w h rfl) (fun g2003 => ?_)
                refine a_one 16 rfl rfl (by kernel_rfl) rfl (zam (i := 0) rfl rfl rfl Z38 rfl rfl) (fun s w h => za8 [some 5, some 6] (by decide) w h rfl) (fun _ => ?_)
                refine zay (by kernel_rfl) ?_
                refine zat (i1284, l1584, l1884, g2003, A1585, c1586, A1885, c1886) h ⟨rfl, trivial⟩ (fun w h => za7 [6, 5, 0, 3, 1] (by decide) rfl w h) ?_
                repeat (first | exact zac _ _ | refine zai rfl ?_ | refine zad rfl ?_ | refine zaj rfl ?_)
              · skip
                refine a_one 13 rfl rfl (by kernel_rfl) rfl (za9 0 Z Tryz.func42 N42 rfl rfl rfl (fun w P1 hF hB hS hT => impl_numbersOf.calls A1825 c1826 l1824.length l1824 hB hF (hT 1 _ rfl).row (hT 1 _ rfl).cap (hS _ GW) _ hx1883)) (fun s w h => za8 [some 5, some 6] (by decide) w h rfl) (cur2 (fun A1885 c1886 => ?_))
                refine zab 14 rfl rfl rfl (by kernel_rfl) (fun _ _ _ h => h) (q_build (vs := [(0, .int .i64 i1284), (1, .slice A1585 l1584.length c1586), (3, .slice A1885 l1884.length c1886)]) (cs := [.int .i64 i1284, .slice A1585 l1584.length c1586, .slice none 0 0, .slice A1885 l1884.length c1886]) rfl rfl) ?_
                refine a_one 16 rfl rfl (by kernel_rfl) rfl (zam (i := 1) rfl rfl rfl Z38 rfl rfl) (fun s w h => za8 [some 5, some 6] (by decide) w h rfl) (fun _ => ?_)
                refine zay (by kernel_rfl) ?_
                refine zat (i1284, l1584, l1884, g2003, A1585, c1586, A1885, c1886) h ⟨rfl, trivial⟩ (fun w h => za7 [6, 5, 1, 3, 0] (by decide) rfl w h) ?_
                repeat (first | exact zac _ _ | refine zai rfl ?_ | refine zad rfl ?_ | refine zaj rfl ?_)
            · skip
              refine a_one 12 rfl rfl (by kernel_rfl) rfl (za9 0 Z Tryz.func43 N43 rfl rfl rfl (fun w P1 hF hB hS hT => impl_parts.calls y1704 6 hB hF (hS _ GW) _ hx1823)) (fun s w h => za8 [some 4, some 5] (by decide) w h rfl) (cur2 (fun A1825 c1826 => ?_))
              refine a_one 13 rfl rfl (by kernel_rfl) rfl (za9 0 Z Tryz.func42 N42 rfl rfl rfl (fun w P1 hF hB hS hT => impl_numbersOf.calls A1825 c1826 l1824.length l1824 hB hF (hT 0 _ rfl).row (hT 0 _ rfl).cap (hS _ GW) _ hx1883)) (fun s w h => za8 [some 5, some 6] (by decide) w h rfl) (cur2 (fun A1885 c1886 => ?_))
              refine zab 14 rfl rfl rfl (by kernel_rfl) (fun _ _ _ h => h) (q_build (vs := [(0, .int .i64 i1284), (1, .slice A1585 l1584.length c1586), (3, .slice A1885 l1884.length c1886)]) (cs := [.int .i64 i1284, .slice A1585 l1584.length c1586, .slice none 0 0, .slice A1885 l1884.length c1886]) rfl rfl) ?_
              refine a_one 16 rfl rfl (by kernel_rfl) rfl (zam (i := 2) rfl rfl rfl Z38 rfl rfl) (fun s w h => za8 [some 5, some 6] (by decide) w h rfl) (fun _ => ?_)
              refine zay (by kernel_rfl) ?_
              refine zat (i1284, l1584, l1884, g2003, A1585, c1586, A1885, c1886) h ⟨rfl, trivial⟩ (fun w h => za7 [6, 5, 2, 3, 0] (by decide) rfl w h) ?_
              repeat (first | exact zac _ _ | refine zai rfl ?_ | refine zad rfl ?_ | refine zaj rfl ?_)
          · skip
            refine a_one 8 rfl rfl (by kernel_rfl) rfl (za9 0 Z Tryz.func42 N42 rfl rfl rfl (fun w P1 hF hB hS hT => impl_numbersOf.calls A1525 c1526 l1524.length l1524 hB hF (hT 1 _ rfl).row (hT 1 _ rfl).cap (hS _ GW) _ hx1583)) (fun s w h => za8 [some 3, some 4] (by decide) w h rfl) (cur2 (fun A1585 c1586 => ?_))
            refine a_one 12 rfl rfl (by kernel_rfl) rfl (za9 0 Z Tryz.func43 N43 rfl rfl rfl (fun w P1 hF hB hS hT => impl_parts.calls y1704 6 hB hF (hS _ GW) _ hx1823)) (fun s w h => za8 [some 4, some 5] (by decide) w h rfl) (cur2 (fun A1825 c1826 => ?_))
            refine a_one 13 rfl rfl (by kernel_rfl) rfl (za9 0 Z Tryz.func42 N42 rfl rfl rfl (fun w P1 hF hB hS hT => impl_numbersOf.calls A1825 c1826 l1824.length l1824 hB hF (hT 0 _ rfl).row (hT 0 _ rfl).cap (hS _ GW) _ hx1883)) (fun s w h => za8 [some 5, some 6] (by decide) w h rfl) (cur2 (fun A1885 c1886 => ?_))
            refine zab 14 rfl rfl rfl (by kernel_rfl) (fun _ _ _ h => h) (q_build (vs := [(0, .int .i64 i1284), (1, .slice A1585 l1584.length c1586), (3, .slice A1885 l1884.length c1886)]) (cs := [.int .i64 i1284, .slice A1585 l1584.length c1586, .slice none 0 0, .slice A1885 l1884.length c1886]) rfl rfl) ?_
            refine a_one 16 rfl rfl (by kernel_rfl) rfl (zam (i := 3) rfl rfl rfl Z38 rfl rfl) (fun s w h => za8 [some 5, some 6] (by decide) w h rfl) (fun _ => ?_)
            refine zay (by kernel_rfl) ?_
            refine zat (i1284, l1584, l1884, g2003, A1585, c1586, A1885, c1886) h ⟨rfl, trivial⟩ (fun w h => za7 [6, 5, 3, 2, 0] (by decide) rfl w h) ?_
            repeat (first | exact zac _ _ | refine zai rfl ?_ | refine zad rfl ?_ | refine zaj rfl ?_)
        · skip
          refine a_one 7 rfl rfl (by kernel_rfl) rfl (za9 0 Z Tryz.func43 N43 rfl rfl rfl (fun w P1 hF hB hS hT => impl_parts.calls y1404 6 hB hF (hS _ GW) _ hx1523)) (fun s w h => za8 [some 2, some 3] (by decide) w h rfl) (cur2 (fun A1525 c1526 => ?_))
          refine a_one 8 rfl rfl (by kernel_rfl) rfl (za9 0 Z Tryz.func42 N42 rfl rfl rfl (fun w P1 hF hB hS hT => impl_numbersOf.calls A1525 c1526 l1524.length l1524 hB hF (hT 0 _ rfl).row (hT 0 _ rfl).cap (hS _ GW) _ hx1583)) (fun s w h => za8 [some 3, some 4] (by decide) w h rfl) (cur2 (fun A1585 c1586 => ?_))
          refine a_one 12 rfl rfl (by kernel_rfl) rfl (za9 0 Z Tryz.func43 N43 rfl rfl rfl (fun w P1 hF hB hS hT => impl_parts.calls y1704 6 hB hF (hS _ GW) _ hx1823)) (fun s w h => za8 [some 4, some 5] (by decide) w h rfl) (cur2 (fun A1825 c1826 => ?_))
          refine a_one 13 rfl rfl (by kernel_rfl) rfl (za9 0 Z Tryz.func42 N42 rfl rfl rfl (fun w P1 hF hB hS hT => impl_numbersOf.calls A1825 c1826 l1824.length l1824 hB hF (hT 0 _ rfl).row (hT 0 _ rfl).cap (hS _ GW) _ hx1883)) (fun s w h => za8 [some 5, some 6] (by decide) w h rfl) (cur2 (fun A1885 c1886 => ?_))
          refine zab 14 rfl rfl rfl (by kernel_rfl) (fun _ _ _ h => h) (q_build (vs := [(0, .int .i64 i1284), (1, .slice A1585 l1584.length c1586), (3, .slice A1885 l1884.length c1886)]) (cs := [.int .i64 i1284, .slice A1585 l1584.length c1586, .slice none 0 0, .slice A1885 l1884.length c1886]) rfl rfl) ?_
          refine a_one 16 rfl rfl (by kernel_rfl) rfl (zam (i := 4) rfl rfl rfl Z38 rfl rfl) (fun s w h => za8 [some 5, some 6] (by decide) w h rfl) (fun _ => ?_)
          refine zay (by kernel_rfl) ?_
          refine zat (i1284, l1584, l1884, g2003, A1585, c1586, A1885, c1886) h ⟨rfl, trivial⟩ (fun w h => za7 [6, 5, 4, 2, 0] (by decide) rfl w h) ?_
          repeat (first | exact zac _ _ | refine zai rfl ?_ | refine zad rfl ?_ | refine zaj rfl ?_)
      · skip
        refine a_one 3 rfl rfl (by kernel_rfl) rfl (za9 0 Z Tryz.func41 N41 rfl rfl rfl (fun w P1 hF hB hS hT => impl_numberOf.calls y1165 hB hF (hS _ GW) _ hx1283)) (fun s w h => za8 [some 1, some 2] (by decide) w h rfl) (fun _ => ?_)
        refine a_one 7 rfl rfl (by kernel_rfl) rfl (za9 0 Z Tryz.func43 N43 rfl rfl rfl (fun w P1 hF hB hS hT => impl_parts.calls y1404 6 hB hF (hS _ GW) _ hx1523)) (fun s w h => za8 [some 2, some 3] (by decide) w h rfl) (cur2 (fun A1525 c1526 => ?_))
        refine a_one 8 rfl rfl (by kernel_rfl) rfl (za9 0 Z Tryz.func42 N42 rfl rfl rfl (fun w P1 hF hB hS hT => impl_numbersOf.calls A1525 c1526 l1524.length l1524 hB hF (hT 0 _ rfl).row (hT 0 _ rfl).cap (hS _ GW) _ hx1583)) (fun s w h => za8 [some 3, some 4] (by decide) w h rfl) (cur2 (fun A1585 c1586 => ?_))
        refine a_one 12 rfl rfl (by kernel_rfl) rfl (za9 0 Z Tryz.func43 N43 rfl rfl rfl (fun w P1 hF hB hS hT => impl_parts.calls y1704 6 hB hF (hS _ GW) _ hx1823)) (fun s w h => za8 [some 4, some 5] (by decide) w h rfl) (cur2 (fun A1825 c1826 => ?_))
        refine a_one 13 rfl rfl (by kernel_rfl) rfl (za9 0 Z Tryz.func42 N42 rfl rfl rfl (fun w P1 hF hB hS hT => impl_numbersOf.calls A1825 c1826 l1824.length l1824 hB hF (hT 0 _ rfl).row (hT 0 _ rfl).cap (hS _ GW) _ hx1883)) (fun s w h => za8 [some 5, some 6] (by decide) w h rfl) (cur2 (fun A1885 c1886 => ?_))
        refine zab 14 rfl rfl rfl (by kernel_rfl) (fun _ _ _ h => h) (q_build (vs := [(0, .int .i64 i1284), (1, .slice A1585 l1584.length c1586), (3, .slice A1885 l1884.length c1886)]) (cs := [.int .i64 i1284, .slice A1585 l1584.length c1586, .slice none 0 0, .slice A1885 l1884.length c1886]) rfl rfl) ?_
        refine a_one 16 rfl rfl (by kernel_rfl) rfl (zam (i := 4) rfl rfl rfl Z38 rfl rfl) (fun s w h => za8 [some 5, some 6] (by decide) w h rfl) (fun _ => ?_)
        refine zay (by kernel_rfl) ?_
        refine zat (i1284, l1584, l1884, g2003, A1585, c1586, A1885, c1886) h ⟨rfl, trivial⟩ (fun w h => za7 [6, 5, 4, 2, 0] (by decide) rfl w h) ?_
        repeat (first | exact zac _ _ | refine zai rfl ?_ | refine zad rfl ?_ | refine zaj rfl ?_)
    · skip
      refine (cur8 (fun i1090 l1091 l1094 g1089 A1092 c1093 A1095 c1096 => fun U1100 hJ1101 => ?_))
      have e_ := Option.some.inj hJ1101; have h := hR1099; rw [← e_] at h; clear e_ hJ1101 hR1099 hl1098
      refine c_seq ?_
      refine c_seq ?_
      refine za0 ?_
      refine o_q rfl rfl (za2 rfl) ?_
      refine zb2 (p := Sh A5 l4.length l4.length) (fun w h => f_sh (dk := Kd.string) h (fun w h => h.zan (i := 1) rfl)) (fun hq2183 => ?_)
      refine za6 h (fun y2185 hg2184 h => ?_) rfl
      refine o_q rfl rfl (q_ix Tryz.underlying64 Z9 rfl rfl hq2183 hg2184) ?_
      refine o_q rfl rfl (q_lde (off := 0) Y9 rfl rfl (fun w h => h.zan (i := 1) rfl) hg2184 (fun _ _ h => h) rfl) ?_
      refine za6 h (fun l2187 hx2186 h => ?_) rfl
      refine o_e rfl (za9 0 Z Tryz.func43 N43 rfl rfl rfl (fun w P1 hF hB hS hT => impl_parts.calls y2185 40 hB hF (hS _ GW) _ hx2186)) (cur2 (fun A2188 c2189 => ?_))
      refine o_q rfl rfl (q_len Tryz.underlying64 rfl) ?_
      refine o_q rfl rfl (za2 rfl) ?_
      refine o_end ?_
      refine za1 ?_
      refine zal ?_
      refine c_nil zax 84 ?_
      refine za6 h (fun o2202 hl2201 hR2200 => ?_) rfl
      clear h
      refine c_fact (p := l2187.length ≤ 9223372036854775807) (fun w h => (h.zan (i := 1) rfl).2.1) (fun hm2199 => ?_)
      refine zb1 (σ := (List ByteArray) × (List SRegOp) × Int × (Option Addr) × Nat) (fun k2197 ((ys2196, l2191, i2194, A2192, c2193) : (List ByteArray) × (List SRegOp) × Int × (Option Addr) × Nat) => Rg l2187 i2194 ys2196 ∧ ys2196.length = k2197 ∧ impl_ParseRegCode.l0 ys2196 l2191 i2194 = some o2202) [7, 8, 9, 10, 11, 12, 13, 40, 41, 42, 43, 44, 45, 46, 47, 48, 49, 50, 51, 52, 53, 54, 55, 56, 57, 58, 59, 60, 61, 62, 63, 64, 65, 66, 67, 68] (fun ((ys2196, l2191, i2194, A2192, c2193) : (List ByteArray) × (List SRegOp) × Int × (Option Addr) × Nat) => [(40, .int .i64 i2194)]) (fun ((ys2196, l2191, i2194, A2192, c2193) : (List ByteArray) × (List SRegOp) × Int × (Option Addr) × Nat) => [row zax 84 (.slice A2192 l2191.length c2193) l2191, row Kd.string 9 (.slice A2188 l2187.length c2189) l2187, box g1 38 #[.int .i64 0, .slice none 0 0, .slice none 0 0, .slice none 0 0], row Kd.string 9 (.slice A5 l4.length c6) l4, box g1089 38 #[.int .i64 i1090, .slice A1092 l1091.length c1093, .slice A2192 l2191.length c2193, .slice A1095 l1094.length c1096], row (Kd.int .i64) 3 (.slice A1092 l1091.length c1093) l1091, row (Kd.int .i64) 3 (.slice A1095 l1094.length c1096) l1094]) l2187.length (l2187, ([] : List SRegOp), 0, none, 0) ⟨Rg.start _, rfl, hl2201⟩ ⟨rfl, trivial⟩ (fun w h => h) ?_
      refine fun k2197 => cur5 (listC (fun l2191 i2194 A2192 c2193 U2203 hJ_ => ?_) (fun y2195 ys2196 l2191 i2194 A2192 c2193 U2203 hJ_ => ?_))
      · skip
        clear hl2201
        have hr2198 := hJ_.1; have hk2204 := hJ_.2.1; have h := hJ_.2.2; clear hJ_
        replace h : impl_ParseRegCode.l0 [] l2191 i2194 = some o2202 := h
        rw [impl_ParseRegCode.l0] at h
        refine c_seq ?_
        refine za0 ?_
        refine o_q rfl rfl (q_lss rfl rfl) ?_
        refine o_end ?_
        refine za1 ?_
        refine c_seq ?_
        refine c_false (congrArg Value.bool hr2198.ge) ?_
        refine c_exit ?_
        refine zaa ?_
        refine zaa ?_
        have e_ := Option.some.inj h; replace h := hR2200; rw [← e_] at h; clear e_
        refine x_hit ?_
        refine za1 ?_
        refine c_seq ?_
        refine za6 h (fun o2211 hl2212 hR2213 => ?_) rfl
        clear h
        refine c_cutJ (σ := Bool) (fun b2210 => some b2210 = some o2211) [69, 70, 71, 72, 73, 74, 75, 76] (fun b2210 => [(76, .bool b2210)]) (fun b2210 => [box g1 38 #[.int .i64 0, .slice none 0 0, .slice none 0 0, .slice none 0 0], box g1089 38 #[.int .i64 i1090, .slice A1092 l1091.length c1093, .slice A2192 l2191.length c2193, .slice A1095 l1094.length c1096], row (Kd.int .i64) 3 (.slice A1092 l1091.length c1093) l1091, row zax 84 (.slice A2192 l2191.length c2193) l2191, row (Kd.int .i64) 3 (.slice A1095 l1094.length c1096) l1094, row Kd.string 9 (.slice A2188 l2187.length c2189) l2187, row Kd.string 9 (.slice A5 l4.length c6) l4]) ?_ ?_
        · skip
          have h := hl2212; clear hl2212
          clear hR2213
          refine za0 ?_
          refine o_q rfl rfl (q_ldB G38 Z38 rfl (fun w h => h.zae (i := 4) rfl) rfl) ?_
          refine za6 h (fun b2217 hx2216 h => ?_) rfl
          refine o_e rfl (za9 0 Z Tryz.func26 N26 rfl rfl rfl (fun w P1 hF hB hS hT => impl_IsRegCode.calls k i1090 A1092 c1093 l1091.length l1091 A2192 c2193 l2191.length l2191 A1095 c1096 l1094.length l1094 hB hF (hT 5 _ rfl).row (hT 5 _ rfl).cap (hT 0 _ rfl).row (hT 0 _ rfl).cap (hT 6 _ rfl).row (hT 6 _ rfl).cap _ hx2216)) (fun _ => ?_)
          refine o_q rfl rfl (q_not rfl) ?_
          refine o_q rfl rfl (za2 rfl) ?_
          refine byB b2217 (fun hb2218 => ?_) (fun hb2218 => ?_)
          · replace h := bb_t hb2218 h
            refine za6 h (fun s2220 hx2219 h => ?_) rfl
            refine o_ew (za4 rfl rfl rfl (congrArg (fun b => Value.bool (!(b))) hb2218)) (za9 0 Z Tryz.func58 N58 rfl rfl rfl (fun w P1 hF hB hS hT => impl_RegCode_text.calls g1089 i1090 A1092 c1093 l1091.length l1091 A2192 c2193 l2191.length l2191 A1095 c1096 l1094.length l1094 hB hF (hT 5 _ rfl).row (hT 5 _ rfl).cap (hT 0 _ rfl).row (hT 0 _ rfl).cap (hT 6 _ rfl).row (hT 6 _ rfl).cap (hT 4 _ rfl).box _ hx2219)) (fun _ => ?_)
            refine o_w (za4 rfl rfl rfl (congrArg (fun b => Value.bool (!(b))) hb2218)) rfl (za2 rfl) ?_
            refine o_w (za4 rfl rfl rfl (congrArg (fun b => Value.bool (!(b))) hb2218)) rfl (q_sneq rfl rfl) ?_
            refine o_q rfl rfl (zas false (congrArg (fun b => Value.bool (!(b))) hb2218) rfl) ?_
            refine o_end ?_
            refine zat (decide (s2220 ≠ a0)) h ⟨rfl, trivial⟩ (fun w h => za7 [2, 4, 5, 0, 6, 1, 3] (by decide) rfl w h) ?_
            repeat (first | exact zac _ _ | refine zai rfl ?_ | refine zad rfl ?_ | refine zaj rfl ?_)
          · replace h := bb_f hb2218 h
            refine @o_n _ _ _ _ _ _ _ _ _ _ _ 73 (za3 rfl rfl rfl (congrArg (fun b => Value.bool (!(b))) hb2218) rfl) (Eq.refl (some 73)) ?_
            refine @o_n _ _ _ _ _ _ _ _ _ _ _ 74 (za3 rfl rfl rfl (congrArg (fun b => Value.bool (!(b))) hb2218) rfl) (Eq.refl (some 74)) ?_
            refine @o_n _ _ _ _ _ _ _ _ _ _ _ 75 (za3 rfl rfl rfl (congrArg (fun b => Value.bool (!(b))) hb2218) rfl) (Eq.refl (some 75)) ?_
            refine o_q rfl rfl (zas true (congrArg (fun b => Value.bool (!(b))) hb2218) rfl) ?_
            refine o_end ?_
            refine zat true h ⟨rfl, trivial⟩ (fun w h => za7 [2, 4, 5, 0, 6, 1, 3] (by decide) rfl w h) ?_
            repeat (first | exact zac _ _ | refine zai rfl ?_ | refine zad rfl ?_ | refine zaj rfl ?_)
        · skip
          refine (fun b2210 => fun U2214 hJ2215 => ?_)
          have e_ := Option.some.inj hJ2215; have h := hR2213; rw [← e_] at h; clear e_ hJ2215 hR2213 hl2212
          refine zaq _ rfl (fun hb2221 => ?_) (fun hb2221 => ?_)
          · skip
            replace h := bb_t hb2221 h
            refine c_seq ?_
            refine za0 ?_
            refine o_q rfl rfl (q_build (vs := []) (cs := [.int .i64 0, .slice none 0 0, .slice none 0 0, .slice none 0 0]) rfl rfl) ?_
            refine o_e rfl (zam (i := 0) rfl rfl rfl Z38 rfl rfl) (fun _ => ?_)
            refine o_q rfl rfl (q_asg rfl) ?_
            refine o_end ?_
            refine za1 ?_
            refine c_ret ?_
            refine za5 ?_
            refine x_nil (Kd.int .i64) 3 ?_
            refine x_nil zax 84 ?_
            refine x_nil (Kd.int .i64) 3 ?_
            have e0_ := Option.some.inj h; clear h
            have d0_ := (Prod.mk.inj e0_).1; have e1_ := (Prod.mk.inj e0_).2; clear e0_; subst d0_
            have d1_ := (Prod.mk.inj e1_).1; have e2_ := (Prod.mk.inj e1_).2; clear e1_; subst d1_
            have d2_ := (Prod.mk.inj e2_).1; have e3_ := (Prod.mk.inj e2_).2; clear e2_; subst d2_
            have d3_ := (Prod.mk.inj e3_).1; have e4_ := (Prod.mk.inj e3_).2; clear e3_; subst d3_
            subst e4_
            exact x_r2 (none, 0, none, 0, none, 0) Tryz.results16 (rv_cell rfl G38 Z38 (fun w h => h.zae (i := 3) rfl) rfl) (zaf rfl) rfl (fun w h => za7 [2, 1, 0] (by decide) rfl w h)
          · skip
            replace h := bb_f hb2221 h
            refine zak ?_
            refine za1 ?_
            refine c_seq ?_
            refine za0 ?_
            refine o_q rfl rfl (q_ldB G38 Z38 rfl (fun w h => h.zae (i := 1) rfl) rfl) ?_
            refine o_e rfl (zam (i := 0) rfl rfl rfl Z38 rfl rfl) (fun _ => ?_)
            refine o_q rfl rfl (q_asg rfl) ?_
            refine o_end ?_
            refine za1 ?_
            refine c_ret ?_
            have e0_ := Option.some.inj h; clear h
            have d0_ := (Prod.mk.inj e0_).1; have e1_ := (Prod.mk.inj e0_).2; clear e0_; subst d0_
            have d1_ := (Prod.mk.inj e1_).1; have e2_ := (Prod.mk.inj e1_).2; clear e1_; subst d1_
            have d2_ := (Prod.mk.inj e2_).1; have e3_ := (Prod.mk.inj e2_).2; clear e2_; subst d2_
            have d3_ := (Prod.mk.inj e3_).1; have e4_ := (Prod.mk.inj e3_).2; clear e3_; subst d3_
            subst e4_
            exact x_r2 (A1092, c1093, A2192, c2193, A1095, c1096) Tryz.results16 (rv_cell rfl G38 Z38 (fun w h => h.zae (i := 0) rfl) rfl) (zaf rfl) rfl (fun w h => za7 [2, 3, 4] (by decide) rfl w h)
      · skip
        clear hl2201
        have hr2198 := hJ_.1; have hk2204 := hJ_.2.1; have h := hJ_.2.2; clear hJ_
        replace h : impl_ParseRegCode.l0 (y2195 :: ys2196) l2191 i2194 = some o2202 := h
        rw [impl_ParseRegCode.l0] at h
        refine c_seq ?_
        refine za0 ?_
        refine o_q rfl rfl (q_lss rfl rfl) ?_
        refine o_end ?_
        refine za1 ?_
        refine c_seq ?_
        refine c_true (congrArg Value.bool hr2198.lt) ?_
        refine zak ?_
        refine za1 ?_
        refine c_seq ?_
        refine zal ?_
        refine c_seq ?_
        refine za0 ?_
        refine zb2 (p := Sh A2188 l2187.length l2187.length) (fun w h => f_sh (dk := Kd.string) h (fun w h => h.zan (i := 1) rfl)) (fun hq2222 => ?_)
        refine o_q rfl rfl (q_ix Tryz.underlying64 Z9 rfl rfl hq2222 hr2198.get) ?_
        refine o_q rfl rfl (q_lde (off := 0) Y9 rfl rfl (fun w h => h.zan (i := 1) rfl) hr2198.get (fun _ _ h => h) rfl) ?_
        refine o_q rfl rfl (q_asg rfl) ?_
        refine o_end ?_
        refine za1 ?_
        refine c_seq ?_
        refine za0 ?_
        refine o_q rfl rfl (za2 rfl) ?_
        refine bindE3 h (fun s2224 s2225 b2226 hx2223 h => ?_) rfl
        refine o_e rfl (za9 0 Z Tryz.func44 N44 rfl rfl rfl (fun w P1 hF hB hS hT => strings_Cut.calls y2195 (⟨#[61]⟩ : ByteArray) hB hF (hS _ GW) _ _ _ hx2223)) (fun _ => ?_)
        refine o_q rfl rfl (za2 rfl) ?_
        refine o_q rfl rfl (q_ext rfl rfl) ?_
        refine o_q rfl rfl (q_ext rfl rfl) ?_
        refine o_q rfl rfl (q_ext rfl rfl) ?_
        refine o_q rfl rfl (q_asg rfl) ?_
        refine o_q rfl rfl (q_asg rfl) ?_
        refine o_q rfl rfl (q_asg rfl) ?_
        refine o_end ?_
        refine za1 ?_
        refine c_seq ?_
        refine za0 ?_
        refine o_q rfl rfl (za2 rfl) ?_
        refine bindE3 h (fun s2228 s2229 b2230 hx2227 h => ?_) rfl
        refine o_e rfl (za9 0 Z Tryz.func44 N44 rfl rfl rfl (fun w P1 hF hB hS hT => strings_Cut.calls s2225 (⟨#[42]⟩ : ByteArray) hB hF (hS _ GW) _ _ _ hx2227)) (fun _ => ?_)
        refine o_q rfl rfl (za2 rfl) ?_
        refine o_q rfl rfl (q_ext rfl rfl) ?_
        refine o_q rfl rfl (q_ext rfl rfl) ?_
        refine o_q rfl rfl (q_ext rfl rfl) ?_
        refine o_q rfl rfl (q_asg rfl) ?_
        refine o_q rfl rfl (q_asg rfl) ?_
        refine o_q rfl rfl (q_asg rfl) ?_
        refine o_end ?_
        refine za1 ?_
        refine za6 h (fun i2413 hx2412 h => ?_) rfl
        refine za6 h (fun i2533 hx2532 h => ?_) rfl
        refine za6 h (fun i2653 hx2652 h => ?_) rfl
        refine za6 h (fun l2832 ha2833 h => ?_) rfl
        refine a_startS (ds := []) [none, some 1, some 2, some 3, none, some 5, some 6] MO rfl ?_
        refine zab 0 rfl rfl rfl (by kernel_rfl) (fun _ _ _ h => h) (q_f F38_2 rfl) ?_
        refine zab 2 rfl rfl rfl (by kernel_rfl) (fun _ _ _ h => h) (za2 rfl) ?_
        refine zab 4 rfl rfl rfl (by kernel_rfl) (fun _ _ _ h => h) (za2 rfl) ?_
        refine zab 6 rfl rfl rfl (by kernel_rfl) (fun _ _ _ h => h) (za2 rfl) ?_
        refine a_two 1 3 rfl rfl rfl rfl (by kernel_rfl) rfl rfl (ev_q rfl (q_ldb Y36 rfl (fun w h => h.zae (i := 4) rfl) rfl)) (fun s w h => za8 [none, some 1, some 2, some 3, none, some 5, some 6] (by decide) w h rfl) (za9 0 Z Tryz.func41 N41 rfl rfl rfl (fun w P1 hF hB hS hT => impl_numberOf.calls s2224 hB hF (hS _ GW) _ hx2412)) (fun s w h => za8 [none, some 1, some 2, some 3, none, some 5, some 6] (by decide) w h rfl) (fun _ => ?_) (fun _ => ?_)
        · skip
          refine a_one 3 rfl rfl (by kernel_rfl) rfl (za9 0 Z Tryz.func41 N41 rfl rfl rfl (fun w P1 hF hB hS hT => impl_numberOf.calls s2224 hB hF (hS _ GW) _ hx2412)) (fun s w h => za8 [none, some 1, some 2, some 3, none, some 5, some 6] (by decide) w h rfl) (fun _ => ?_)
          refine a_one 5 rfl rfl (by kernel_rfl) rfl (za9 0 Z Tryz.func41 N41 rfl rfl rfl (fun w P1 hF hB hS hT => impl_numberOf.calls s2228 hB hF (hS _ GW) _ hx2532)) (fun s w h => za8 [none, some 1, some 2, some 3, none, some 5, some 6] (by decide) w h rfl) (fun _ => ?_)
          refine a_one 7 rfl rfl (by kernel_rfl) rfl (za9 0 Z Tryz.func41 N41 rfl rfl rfl (fun w P1 hF hB hS hT => impl_numberOf.calls s2229 hB hF (hS _ GW) _ hx2652)) (fun s w h => za8 [none, some 1, some 2, some 3, none, some 5, some 6] (by decide) w h rfl) (fun _ => ?_)
          refine zab 8 rfl rfl rfl (by kernel_rfl) (fun _ _ _ h => h) (q_build (vs := [(0, .int .i64 i2413), (1, .int .i64 i2533), (2, .int .i64 i2653)]) (cs := [.int .i64 i2413, .int .i64 i2533, .int .i64 i2653]) rfl rfl) ?_
          refine a_one 9 rfl rfl (by kernel_rfl) rfl (e_lit (vs := [(0, .agg #[.int .i64 i2413, .int .i64 i2533, .int .i64 i2653])]) (cs := [.int .i64 i2413, .int .i64 i2533, .int .i64 i2653]) zax ([(⟨i2413, i2533, i2653⟩ : SRegOp)] : List SRegOp) Tryz.underlying36 I84 (by decide) rfl (by decide) rfl rfl (fun _ _ => reps_flat _)) (fun s w h => za8 [none, some 2, some 3, some 4, none, some 6, some 7] (by decide) w h rfl) (cur2 (fun A2772 c2773 => ?_))
          refine a_one 10 rfl rfl (by kernel_rfl) rfl (e_app (i := 1) (j := 0) Tryz.underlying36 I84 rfl (by decide) (by decide) rfl rfl rfl rfl rfl ha2833) (fun s w h => za8 [none, some 2, some 3, some 4, none, some 6, some 7] (by decide) w h rfl) (cur2 (fun A2834 c2835 => ?_))
          refine zab 11 rfl rfl rfl (by kernel_rfl) (fun _ _ _ h => h) (q_f F38_2 rfl) ?_
          refine a_one 12 rfl rfl (by kernel_rfl) rfl (e_store (i := 5) rfl rfl rfl rfl Z36 rfl rfl) (fun s w h => za8 [none, some 2, some 3, some 4, none, some 6, some 7] (by decide) w h rfl) (fun _ => ?_)
          refine zay (by kernel_rfl) ?_
          refine zaw ?_
          refine za1 ?_
          refine za0 ?_
          refine o_q rfl rfl (q_up rfl rfl (hr2198.up hm2199)) ?_
          refine o_q rfl rfl (za2 rfl) ?_
          refine o_end ?_
          refine zao ys2196.length (ys2196, l2832, i2194 + 1, A2834, c2835) (by rw [← hk2204]; exact Nat.lt_succ_self _) ⟨hr2198.step, rfl, h⟩ ⟨rfl, trivial⟩ (fun w h => za7 [1, 2, 3, 4, 5, 6, 7] (by decide) rfl w h) ?_
          repeat (first | exact zac _ _ | refine zai rfl ?_ | refine zad rfl ?_ | refine zaj rfl ?_)
        · skip
          refine a_two 1 5 rfl rfl rfl rfl (by kernel_rfl) rfl rfl (ev_q rfl (q_ldb Y36 rfl (fun w h => h.zae (i := 4) rfl) rfl)) (fun s w h => za8 [none, some 1, some 2, some 3, none, some 5, some 6] (by decide) w h rfl) (za9 0 Z Tryz.func41 N41 rfl rfl rfl (fun w P1 hF hB hS hT => impl_numberOf.calls s2228 hB hF (hS _ GW) _ hx2532)) (fun s w h => za8 [none, some 1, some 2, some 3, none, some 5, some 6] (by decide) w h rfl) (fun _ => ?_) (fun _ => ?_)
          · skip
            refine a_one 5 rfl rfl (by kernel_rfl) rfl (za9 0 Z Tryz.func41 N41 rfl rfl rfl (fun w P1 hF hB hS hT => impl_numberOf.calls s2228 hB hF (hS _ GW) _ hx2532)) (fun s w h => za8 [none, some 1, some 2, some 3, none, some 5, some 6] (by decide) w h rfl) (fun _ => ?_)
            refine a_one 7 rfl rfl (by kernel_rfl) rfl (za9 0 Z Tryz.func41 N41 rfl rfl rfl (fun w P1 hF hB hS hT => impl_numberOf.calls s2229 hB hF (hS _ GW) _ hx2652)) (fun s w h => za8 [none, some 1, some 2, some 3, none, some 5, some 6] (by decide) w h rfl) (fun _ => ?_)
            refine zab 8 rfl rfl rfl (by kernel_rfl) (fun _ _ _ h => h) (q_build (vs := [(0, .int .i64 i2413), (1, .int .i64 i2533), (2, .int .i64 i2653)]) (cs := [.int .i64 i2413, .int .i64 i2533, .int .i64 i2653]) rfl rfl) ?_
            refine a_one 9 rfl rfl (by kernel_rfl) rfl (e_lit (vs := [(0, .agg #[.int .i64 i2413, .int .i64 i2533, .int .i64 i2653])]) (cs := [.int .i64 i2413, .int .i64 i2533, .int .i64 i2653]) zax ([(⟨i2413, i2533, i2653⟩ : SRegOp)] : List SRegOp) Tryz.underlying36 I84 (by decide) rfl (by decide) rfl rfl (fun _ _ => reps_flat _)) (fun s w h => za8 [none, some 2, some 3, some 4, none, some 6, some 7] (by decide) w h rfl) (cur2 (fun A2772 c2773 => ?_))
            refine a_one 10 rfl rfl (by kernel_rfl) rfl (e_app (i := 1) (j := 0) Tryz.underlying36 I84 rfl (by decide) (by decide) rfl rfl rfl rfl rfl ha2833) (fun s w h => za8 [none, some 2, some 3, some 4, none, some 6, some 7] (by decide) w h rfl) (cur2 (fun A2834 c2835 => ?_))
            refine zab 11 rfl rfl rfl (by kernel_rfl) (fun _ _ _ h => h) (q_f F38_2 rfl) ?_
            refine a_one 12 rfl rfl (by kernel_rfl) rfl (e_store (i := 5) rfl rfl rfl rfl Z36 rfl rfl) (fun s w h => za8 [none, some 2, some 3, some 4, none, some 6, some 7] (by decide) w h rfl) (fun _ => ?_)
            refine zay (by kernel_rfl) ?_
            refine zaw ?_
            refine za1 ?_
            refine za0 ?_
            refine o_q rfl rfl (q_up rfl rfl (hr2198.up hm2199)) ?_
            refine o_q rfl rfl (za2 rfl) ?_
            refine o_end ?_
            refine zao ys2196.length (ys2196, l2832, i2194 + 1, A2834, c2835) (by rw [← hk2204]; exact Nat.lt_succ_self _) ⟨hr2198.step, rfl, h⟩ ⟨rfl, trivial⟩ (fun w h => za7 [1, 2, 3, 4, 5, 6, 7] (by decide) rfl w h) ?_
            repeat (first | exact zac _ _ | refine zai rfl ?_ | refine zad rfl ?_ | refine zaj rfl ?_)
          · skip
            refine a_two 1 7 rfl rfl rfl rfl (by kernel_rfl) rfl rfl (ev_q rfl (q_ldb Y36 rfl (fun w h => h.zae (i := 4) rfl) rfl)) (fun s w h => za8 [none, some 1, some 2, some 3, none, some 5, some 6] (by decide) w h rfl) (za9 0 Z Tryz.func41 N41 rfl rfl rfl (fun w P1 hF hB hS hT => impl_numberOf.calls s2229 hB hF (hS _ GW) _ hx2652)) (fun s w h => za8 [none, some 1, some 2, some 3, none, some 5, some 6] (by decide) w h rfl) (fun _ => ?_) (fun _ => ?_)
            · skip
              refine a_one 7 rfl rfl (by kernel_rfl) rfl (za9 0 Z Tryz.func41 N41 rfl rfl rfl (fun w P1 hF hB hS hT => impl_numberOf.calls s2229 hB hF (hS _ GW) _ hx2652)) (fun s w h => za8 [none, some 1, some 2, some 3, none, some 5, some 6] (by decide) w h rfl) (fun _ => ?_)
              refine zab 8 rfl rfl rfl (by kernel_rfl) (fun _ _ _ h => h) (q_build (vs := [(0, .int .i64 i2413), (1, .int .i64 i2533), (2, .int .i64 i2653)]) (cs := [.int .i64 i2413, .int .i64 i2533, .int .i64 i2653]) rfl rfl) ?_
              refine a_one 9 rfl rfl (by kernel_rfl) rfl (e_lit (vs := [(0, .agg #[.int .i64 i2413, .int .i64 i2533, .int .i64 i2653])]) (cs := [.int .i64 i2413, .int .i64 i2533, .int .i64 i2653]) zax ([(⟨i2413, i2533, i2653⟩ : SRegOp)] : List SRegOp) Tryz.underlying36 I84 (by decide) rfl (by decide) rfl rfl (fun _ _ => reps_flat _)) (fun s w h => za8 [none, some 2, some 3, some 4, none, some 6, some 7] (by decide) w h rfl) (cur2 (fun A2772 c2773 => ?_))
              refine a_one 10 rfl rfl (by kernel_rfl) rfl (e_app (i := 1) (j := 0) Tryz.underlying36 I84 rfl (by decide) (by decide) rfl rfl rfl rfl rfl ha2833) (fun s w h => za8 [none, some 2, some 3, some 4, none, some 6, some 7] (by decide) w h rfl) (cur2 (fun A2834 c2835 => ?_))
              refine zab 11 rfl rfl rfl (by kernel_rfl) (fun _ _ _ h => h) (q_f F38_2 rfl) ?_
              refine a_one 12 rfl rfl (by kernel_rfl) rfl (e_store (i := 5) rfl rfl rfl rfl Z36 rfl rfl) (fun s w h => za8 [none, some 2, some 3, some 4, none, some 6, some 7] (by decide) w h rfl) (fun _ => ?_)
              refine zay (by kernel_rfl) ?_
              refine zaw ?_
              refine za1 ?_
              refine za0 ?_
              refine o_q rfl rfl (q_up rfl rfl (hr2198.up hm2199)) ?_
              refine o_q rfl rfl (za2 rfl) ?_
              refine o_end ?_
              refine zao ys2196.length (ys2196, l2832, i2194 + 1, A2834, c2835) (by rw [← hk2204]; exact Nat.lt_succ_self _) ⟨hr2198.step, rfl, h⟩ ⟨rfl, trivial⟩ (fun w h => za7 [1, 2, 3, 4, 5, 6, 7] (by decide) rfl w h) ?_
              repeat (first | exact zac _ _ | refine zai rfl ?_ | refine zad rfl ?_ | refine zaj rfl ?_)
            · skip
              refine zab 8 rfl rfl rfl (by kernel_rfl) (fun _ _ _ h => h) (q_build (vs := [(0, .int .i64 i2413), (1, .int .i64 i2533), (2, .int .i64 i2653)]) (cs := [.int .i64 i2413, .int .i64 i2533, .int .i64 i2653]) rfl rfl) ?_
              refine a_two 1 9 rfl rfl rfl rfl (by kernel_rfl) rfl rfl (ev_q rfl (q_ldb Y36 rfl (fun w h => h.zae (i := 4) rfl) rfl)) (fun s w h => za8 [none, some 1, some 2, some 3, none, some 5, some 6] (by decide) w h rfl) (e_lit (vs := [(0, .agg #[.int .i64 i2413, .int .i64 i2533, .int .i64 i2653])]) (cs := [.int .i64 i2413, .int .i64 i2533, .int .i64 i2653]) zax ([(⟨i2413, i2533, i2653⟩ : SRegOp)] : List SRegOp) Tryz.underlying36 I84 (by decide) rfl (by decide) rfl rfl (fun _ _ => reps_flat _)) (fun s w h => za8 [none, some 2, some 3, some 4, none, some 6, some 7] (by decide) w h rfl) (fun _ => ?_) (cur2 (fun A2772 c2773 => ?_))
              · skip
                refine a_one 9 rfl rfl (by kernel_rfl) rfl (e_lit (vs := [(0, .agg #[.int .i64 i2413, .int .i64 i2533, .int .i64 i2653])]) (cs := [.int .i64 i2413, .int .i64 i2533, .int .i64 i2653]) zax ([(⟨i2413, i2533, i2653⟩ : SRegOp)] : List SRegOp) Tryz.underlying36 I84 (by decide) rfl (by decide) rfl rfl (fun _ _ => reps_flat _)) (fun s w h => za8 [none, some 2, some 3, some 4, none, some 6, some 7] (by decide) w h rfl) (cur2 (fun A2772 c2773 => ?_))
                refine a_one 10 rfl rfl (by kernel_rfl) rfl (e_app (i := 1) (j := 0) Tryz.underlying36 I84 rfl (by decide) (by decide) rfl rfl rfl rfl rfl ha2833) (fun s w h => za8 [none, some 2, some 3, some 4, none, some 6, some 7] (by decide) w h rfl) (cur2 (fun A2834 c2835 => ?_))
                refine zab 11 rfl rfl rfl (by kernel_rfl) (fun _ _ _ h => h) (q_f F38_2 rfl) ?_
                refine a_one 12 rfl rfl (by kernel_rfl) rfl (e_store (i := 5) rfl rfl rfl rfl Z36 rfl rfl) (fun s w h => za8 [none, some 2, some 3, some 4, none, some 6, some 7] (by decide) w h rfl) (fun _ => ?_)
                refine zay (by kernel_rfl) ?_
                refine zaw ?_
                refine za1 ?_
                refine za0 ?_
                refine o_q rfl rfl (q_up rfl rfl (hr2198.up hm2199)) ?_
                refine o_q rfl rfl (za2 rfl) ?_
                refine o_end ?_
                refine zao ys2196.length (ys2196, l2832, i2194 + 1, A2834, c2835) (by rw [← hk2204]; exact Nat.lt_succ_self _) ⟨hr2198.step, rfl, h⟩ ⟨rfl, trivial⟩ (fun w h => za7 [1, 2, 3, 4, 5, 6, 7] (by decide) rfl w h) ?_
                repeat (first | exact zac _ _ | refine zai rfl ?_ | refine zad rfl ?_ | refine zaj rfl ?_)
              · skip
                refine a_one 1 rfl rfl (by kernel_rfl) rfl (ev_q rfl (q_ldb Y36 rfl (fun w h => h.zae (i := 5) rfl) rfl)) (fun s w h => za8 [none, some 2, some 3, some 4, none, some 6, some 7] (by decide) w h rfl) (fun _ => ?_)
                refine a_one 10 rfl rfl (by kernel_rfl) rfl (e_app (i := 1) (j := 0) Tryz.underlying36 I84 rfl (by decide) (by decide) rfl rfl rfl rfl rfl ha2833) (fun s w h => za8 [none, some 2, some 3, some 4, none, some 6, some 7] (by decide) w h rfl) (cur2 (fun A2834 c2835 => ?_))
                refine zab 11 rfl rfl rfl (by kernel_rfl) (fun _ _ _ h => h) (q_f F38_2 rfl) ?_
                refine a_one 12 rfl rfl (by kernel_rfl) rfl (e_store (i := 5) rfl rfl rfl rfl Z36 rfl rfl) (fun s w h => za8 [none, some 2, some 3, some 4, none, some 6, some 7] (by decide) w h rfl) (fun _ => ?_)
                refine zay (by kernel_rfl) ?_
                refine zaw ?_
                refine za1 ?_
                refine za0 ?_
                refine o_q rfl rfl (q_up rfl rfl (hr2198.up hm2199)) ?_
                refine o_q rfl rfl (za2 rfl) ?_
                refine o_end ?_
                refine zao ys2196.length (ys2196, l2832, i2194 + 1, A2834, c2835) (by rw [← hk2204]; exact Nat.lt_succ_self _) ⟨hr2198.step, rfl, h⟩ ⟨rfl, trivial⟩ (fun w h => za7 [1, 2, 3, 4, 5, 6, 7] (by decide) rfl w h) ?_
                repeat (first | exact zac _ _ | refine zai rfl ?_ | refine zad rfl ?_ | refine zaj rfl ?_)

end Go.Proofs.YtnnlfipcoahcnaaGreatDoor.G1
