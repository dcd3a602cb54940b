import Derived.Test.YtdicngjloiphkaaKFnFewestRegistersFWp2
namespace Go.Proofs.Ytdicngjloiphkaa.FW
open Go.RowKit Go.Proofs.Ytdicngjloiphkaa.Frame Go.Proofs.YtdicngjloiphkaaW.PrintLast Go.Proofs.Ytdicngjloiphkaa.Hand
open Go.Proofs.YtdicngjloiphkaaW.PrintWords hiding mn mx
set_option linter.unusedVariables false
/-! ### (*loop.example/g01098/impl.Plan).best: function 74 -/
def impl_Plan_best.f (k : Nat) (a0_0 : Int) (l0_1 : List SStep) (l0_2 : List Int) : Option ((List Int) × Int) := (impl_Plan_orders_2.f k a0_0 l0_1 l0_2 [] a0_0 l0_1 l0_2 (-1) ([] : List Int)).bind fun (i11, l12) => some (l12, i11)
set_option maxHeartbeats 600000 in
set_option maxRecDepth 100000 in
theorem impl_Plan_best.calls (k : Nat) {w0 ws : World} {P0 : Nat → Prop} (g0 : Nat) (a0_0 : Int) (A0_1 : Option Addr) (c0_1 : Nat) (n0_1 : Nat) (l0_1 : List SStep) (A0_2 : Option Addr) (c0_2 : Nat) (n0_2 : Nat) (l0_2 : List Int) (Z : Below w0.heap.size w0 ws) (hF : Fr w0 ws P0 [] ws) (R0_1 : Stable ws P0 (fun w => Kd.C kStep w A0_1 n0_1 l0_1)) (hc0_1 : n0_1 ≤ c0_1) (R0_2 : Stable ws P0 (fun w => Kd.C (Kd.int .i64) w A0_2 n0_2 l0_2)) (hc0_2 : n0_2 ≤ c0_2) (B0 : Stable ws P0 (fun w => w.heap[g0]? = some (.cells #[.int .i64 a0_0, .slice A0_1 n0_1 c0_1, .slice A0_2 n0_2 c0_2] 27 (0, 0)))) (r_1 : List Int) (r_4 : Int) (h : impl_Plan_best.f k a0_0 l0_1 l0_2 = some (r_1, r_4)) :
    Calls Try.prog 74 #[.pointer (some ⟨g0, 0, none⟩)] ws (Post1 w0 ws P0 (fun ((q_2, q_3) : (Option Addr) × Nat) => .tuple #[.slice q_2 r_1.length q_3, .int .i64 r_4]) (fun ((q_2, q_3) : (Option Addr) × Nat) => [row (Kd.int .i64) 3 (.slice q_2 r_1.length q_3) r_1])) := by
  unfold impl_Plan_best.f at h
  obtain rfl := (R0_1 ws (KeptB.refl _ _)).1
  obtain rfl := (R0_2 ws (KeptB.refl _ _)).1
  refine enter Try.func74 rfl Try.ntmps74 rfl hF ?_
  refine c_seq ?_
  refine za0 ?_
  refine o_e rfl (e_box rfl) (fun g1 => ?_)
  refine o_q rfl rfl (q_asg rfl) ?_
  refine o_q rfl rfl (q_asg rfl) ?_
  refine o_end ?_
  refine za2 ?_
  refine c_seq ?_
  refine za0 ?_
  refine o_e rfl (e_lit0 (Kd.int .i64) Try.underlying25 I3) (cur2 (fun A3 c4 => ?_))
  refine o_e rfl (e_alloc V25 rfl) (fun g6 => ?_)
  refine o_e rfl (e_alloc V3 rfl) (fun g8 => ?_)
  refine o_e rfl (e_store (i := 1) rfl rfl rfl rfl Z25 rfl rfl) (fun _ => ?_)
  refine o_e rfl (e_store (i := 0) rfl rfl rfl rfl Z3 rfl rfl) (fun _ => ?_)
  refine o_end ?_
  refine za2 ?_
  refine c_seq ?_
  refine za0 ?_
  refine o_q rfl rfl (q_ldb Y97 rfl (fun w h => h.zac (i := 3) rfl) rfl) ?_
  refine o_q rfl rfl (q_func rfl rfl) ?_
  refine bindE2 h (fun i11 l12 hx10 h => ?_) rfl
  refine o_e rfl (za9 3 Z Try.func123 N123 rfl rfl rfl (fun w P1 hF hB hS hT => impl_Plan_orders_2.calls k g0 a0_0 A0_1 c0_1 l0_1.length l0_1 A0_2 c0_2 l0_2.length l0_2 none 0 0 [] g1 g0 a0_0 A0_1 c0_1 l0_1.length l0_1 A0_2 c0_2 l0_2.length l0_2 g8 (-1) g6 A3 c4 (([] : List Int).length) ([] : List Int) hB hF (hS _ R0_1) hc0_1 (hS _ R0_2) hc0_2 (hS _ B0) (stab_nil _) (Nat.le_refl 0) (hS _ R0_1) hc0_1 (hS _ R0_2) hc0_2 (hS _ B0) (hT 0 _ rfl).box _ _ hx10)) (cur2 (fun A13 c14 => ?_))
  refine o_end ?_
  refine za2 ?_
  refine c_seq ?_
  refine a_start (ds := []) MO rfl ?_
  refine zau 0 rfl rfl rfl (by kernel_rfl) (fun _ _ _ h => h) (fun w h => h) (q_ldb Y25 rfl (fun w h => h.zac (i := 1) rfl) rfl) ?_
  refine zau 1 rfl rfl rfl (by kernel_rfl) (fun _ _ _ h => h) (fun w h => h) (q_ldb Y3 rfl (fun w h => h.zac (i := 0) rfl) rfl) ?_
  refine za7 2 rfl rfl rfl (by kernel_rfl) (fun _ _ _ h => h) (q_asg rfl) ?_
  refine za7 3 rfl rfl rfl (by kernel_rfl) (fun _ _ _ h => h) (q_asg rfl) ?_
  refine zav (by kernel_rfl) ?_
  refine za2 ?_
  refine c_ret ?_
  have e0_ := Option.some.inj h; clear h
  have d0_ := (Prod.mk.inj e0_).1; have e1_ := (Prod.mk.inj e0_).2; clear e0_; subst d0_
  subst e1_
  exact x_r2 (A13, c14) Try.results74 (zaj rfl) (zaj rfl) rfl (fun w h => za5 [2] (by decide) rfl w h)

/-! ### loop.example/g01098/impl.BestOrder: function 18 -/
def impl_BestOrder.f (k : Nat) (a0_0 : Int) (l0_1 : List SStep) (l0_2 : List Int) : Option ((List Int) × Bool) := (impl_orderable.f k a0_0 l0_1 l0_2).bind fun b4 => if b4 = true then ((impl_Plan_best.f k a0_0 l0_1 l0_2).bind fun (l7, i8) => some (l7, true)) else (some (([] : List Int), false))
set_option maxHeartbeats 600000 in
set_option maxRecDepth 100000 in
theorem impl_BestOrder.calls (k : Nat) {w0 ws : World} {P0 : Nat → Prop} (a0_0 : Int) (A0_1 : Option Addr) (c0_1 : Nat) (n0_1 : Nat) (l0_1 : List SStep) (A0_2 : Option Addr) (c0_2 : Nat) (n0_2 : Nat) (l0_2 : List Int) (Z : Below w0.heap.size w0 ws) (hF : Fr w0 ws P0 [] ws) (R0_1 : Stable ws P0 (fun w => Kd.C kStep w A0_1 n0_1 l0_1)) (hc0_1 : n0_1 ≤ c0_1) (R0_2 : Stable ws P0 (fun w => Kd.C (Kd.int .i64) w A0_2 n0_2 l0_2)) (hc0_2 : n0_2 ≤ c0_2) (r_1 : List Int) (r_4 : Bool) (h : impl_BestOrder.f k a0_0 l0_1 l0_2 = some (r_1, r_4)) :
    Calls Try.prog 18 #[.agg #[.int .i64 a0_0, .slice A0_1 n0_1 c0_1, .slice A0_2 n0_2 c0_2]] ws (Post1 w0 ws P0 (fun ((q_2, q_3) : (Option Addr) × Nat) => .tuple #[.slice q_2 r_1.length q_3, .bool r_4]) (fun ((q_2, q_3) : (Option Addr) × Nat) => [row (Kd.int .i64) 3 (.slice q_2 r_1.length q_3) r_1])) := by
  unfold impl_BestOrder.f at h
  obtain rfl := (R0_1 ws (KeptB.refl _ _)).1
  obtain rfl := (R0_2 ws (KeptB.refl _ _)).1
  refine enter Try.func18 rfl Try.ntmps18 rfl hF ?_
  refine c_seq ?_
  refine za0 ?_
  refine o_e rfl (e_box rfl) (fun g1 => ?_)
  refine o_q rfl rfl (q_asg rfl) ?_
  refine o_q rfl rfl (q_asg rfl) ?_
  refine o_end ?_
  refine za2 ?_
  refine c_seq ?_
  refine c_seq ?_
  refine za0 ?_
  refine o_q rfl rfl (q_ldB G27 Z27 rfl (fun w h => h.zac (i := 0) rfl) rfl) ?_
  refine za8 h (fun b4 hx3 h => ?_) rfl
  refine o_e rfl (za9 0 Z Try.func57 N57 rfl rfl rfl (fun w P1 hF hB hS hT => impl_orderable.calls k a0_0 A0_1 c0_1 l0_1.length l0_1 A0_2 c0_2 l0_2.length l0_2 hB hF (hS _ R0_1) hc0_1 (hS _ R0_2) hc0_2 _ hx3)) (fun _ => ?_)
  refine o_q rfl rfl (q_not rfl) ?_
  refine o_end ?_
  refine za2 ?_
  refine zat _ rfl (fun hb5 => ?_) (fun hb5 => ?_)
  · replace hb5 := nt_t hb5
    replace h := bb_f hb5 h
    refine c_seq ?_
    refine za0 ?_
    refine o_q rfl rfl (q_asg rfl) ?_
    refine o_q rfl rfl (q_asg rfl) ?_
    refine o_end ?_
    refine za2 ?_
    refine c_ret ?_
    refine zaf ?_
    refine x_nil (Kd.int .i64) 3 ?_
    have e0_ := Option.some.inj h; clear h
    have d0_ := (Prod.mk.inj e0_).1; have e1_ := (Prod.mk.inj e0_).2; clear e0_; subst d0_
    subst e1_
    exact x_r2 (none, 0) Try.results18 (zaj rfl) (zaj rfl) rfl (fun w h => za5 [0] (by decide) rfl w h)
  · replace hb5 := nt_f hb5
    replace h := bb_t hb5 h
    refine zaq ?_
    refine za2 ?_
    refine c_seq ?_
    refine za0 ?_
    refine bindE2 h (fun l7 i8 hx6 h => ?_) rfl
    refine o_e rfl (za9 0 Z Try.func74 N74 rfl rfl rfl (fun w P1 hF hB hS hT => impl_Plan_best.calls k g1 a0_0 A0_1 c0_1 l0_1.length l0_1 A0_2 c0_2 l0_2.length l0_2 hB hF (hS _ R0_1) hc0_1 (hS _ R0_2) hc0_2 (hT 0 _ rfl).box _ _ hx6)) (cur2 (fun A9 c10 => ?_))
    refine o_q rfl rfl (za3 rfl) ?_
    refine o_q rfl rfl (q_ext rfl rfl) ?_
    refine o_q rfl rfl (q_ext rfl rfl) ?_
    refine o_q rfl rfl (q_asg rfl) ?_
    refine o_q rfl rfl (q_asg rfl) ?_
    refine o_end ?_
    refine za2 ?_
    refine c_seq ?_
    refine za0 ?_
    refine o_q rfl rfl (za3 rfl) ?_
    refine o_q rfl rfl (q_asg rfl) ?_
    refine o_q rfl rfl (q_asg rfl) ?_
    refine o_end ?_
    refine za2 ?_
    refine c_ret ?_
    have e0_ := Option.some.inj h; clear h
    have d0_ := (Prod.mk.inj e0_).1; have e1_ := (Prod.mk.inj e0_).2; clear e0_; subst d0_
    subst e1_
    exact x_r2 (A9, c10) Try.results18 (zaj rfl) (zaj rfl) rfl (fun w h => za5 [0] (by decide) rfl w h)

/-! ### loop.example/g01098/spec.l1In: function 61 -/
def spec_l1In.f (a0 : Int) (a1 : Int) (a2 : Int) : Option Bool := if a1 ≤ a0 then (some (decide (a0 ≤ a2))) else (some false)
set_option maxHeartbeats 600000 in
set_option maxRecDepth 100000 in
theorem spec_l1In.calls {w0 ws : World} {P0 : Nat → Prop} (a0 : Int) (a1 : Int) (a2 : Int) (Z : Below w0.heap.size w0 ws) (hF : Fr w0 ws P0 [] ws)  (r_1 : Bool) (h : spec_l1In.f a0 a1 a2 = some r_1) :
    Calls Try.prog 61 #[.int .i64 a0, .int .i64 a1, .int .i64 a2] ws (Post1 w0 ws P0 (fun (_ : Unit) => .bool r_1) (fun (_ : Unit) => [])) := by
  unfold spec_l1In.f at h
  refine enter Try.func61 rfl Try.ntmps61 rfl hF ?_
  refine c_seq ?_
  refine za0 ?_
  refine o_q rfl rfl (q_asg rfl) ?_
  refine o_end ?_
  refine za2 ?_
  refine c_seq ?_
  refine za0 ?_
  refine o_q rfl rfl (za3 rfl) ?_
  refine o_q rfl rfl (za3 rfl) ?_
  refine o_q rfl rfl (q_geq rfl rfl) ?_
  refine o_q rfl rfl (za3 rfl) ?_
  refine byB (decide (a1 ≤ a0)) (fun hb1 => ?_) (fun hb1 => ?_)
  · replace h := br_t hb1 h
    refine o_w (za4 rfl rfl rfl (congrArg Value.bool hb1)) rfl (za3 rfl) ?_
    refine o_w (za4 rfl rfl rfl (congrArg Value.bool hb1)) rfl (za3 rfl) ?_
    refine o_w (za4 rfl rfl rfl (congrArg Value.bool hb1)) rfl (q_leq rfl rfl) ?_
    refine o_q rfl rfl (zaa true (congrArg Value.bool hb1) rfl) ?_
    refine o_q rfl rfl (q_asg rfl) ?_
    refine o_end ?_
    refine za2 ?_
    refine c_ret ?_
    have e0_ := Option.some.inj h; clear h
    subst e0_
    exact x_r1 () Try.results61 (zaj rfl) rfl (fun w h => za5 [] (by decide) rfl w h)
  · replace h := br_f hb1 h
    refine @o_n _ _ _ _ _ _ _ _ _ _ _ 11 (za1 rfl rfl rfl (congrArg Value.bool hb1) rfl) (Eq.refl (some 11)) ?_
    refine @o_n _ _ _ _ _ _ _ _ _ _ _ 12 (za1 rfl rfl rfl (congrArg Value.bool hb1) rfl) (Eq.refl (some 12)) ?_
    refine @o_n _ _ _ _ _ _ _ _ _ _ _ 13 (za1 rfl rfl rfl (congrArg Value.bool hb1) rfl) (Eq.refl (some 13)) ?_
    refine o_q rfl rfl (zaa false (congrArg Value.bool hb1) rfl) ?_
    refine o_q rfl rfl (q_asg rfl) ?_
    refine o_end ?_
    refine za2 ?_
    refine c_ret ?_
    have e0_ := Option.some.inj h; clear h
    subst e0_
    exact x_r1 () Try.results61 (zaj rfl) rfl (fun w h => za5 [] (by decide) rfl w h)

/-! ### loop.example/g01098/spec.plSum: function 175 -/
def spec_plSum.l0 (l1 : List Int) : (List Int) → (List Int) → Int → Option (List Int)
  | [], l3, i6 => some l3
  | y7 :: ys8, l3, i6 => (gt l1 i6).bind fun y20 => (spec_l1Least.f (w64 (y7 + y20)) 1000001).bind fun i22 => (ap l3 ([i22] : List Int)).bind fun l26 => spec_plSum.l0 l1 ys8 l26 (i6 + 1)
def spec_plSum.f (l0 : List Int) (l1 : List Int) : Option (List Int) := (spec_plSum.l0 l1 l0 ([] : List Int) 0).bind fun l3 => some l3
set_option maxHeartbeats 600000 in
set_option maxRecDepth 100000 in
theorem spec_plSum.calls {w0 ws : World} {P0 : Nat → Prop} (A0 : Option Addr) (c0 : Nat) (n0 : Nat) (l0 : List Int) (A1 : Option Addr) (c1 : Nat) (n1 : Nat) (l1 : List Int) (Z : Below w0.heap.size w0 ws) (hF : Fr w0 ws P0 [] ws) (R0 : Stable ws P0 (fun w => Kd.C (Kd.int .i64) w A0 n0 l0)) (hc0 : n0 ≤ c0) (R1 : Stable ws P0 (fun w => Kd.C (Kd.int .i64) w A1 n1 l1)) (hc1 : n1 ≤ c1) (r_1 : List Int) (h : spec_plSum.f l0 l1 = some r_1) :
    Calls Try.prog 175 #[.slice A0 n0 c0, .slice A1 n1 c1] ws (Post1 w0 ws P0 (fun ((q_2, q_3) : (Option Addr) × Nat) => .slice q_2 r_1.length q_3) (fun ((q_2, q_3) : (Option Addr) × Nat) => [row (Kd.int .i64) 3 (.slice q_2 r_1.length q_3) r_1])) := by
  unfold spec_plSum.f at h
  obtain rfl := (R0 ws (KeptB.refl _ _)).1
  obtain rfl := (R1 ws (KeptB.refl _ _)).1
  refine enter Try.func175 rfl Try.ntmps175 rfl hF ?_
  refine c_seq ?_
  refine za0 ?_
  refine o_q rfl rfl (q_asg rfl) ?_
  refine o_end ?_
  refine za2 ?_
  refine c_seq ?_
  refine za0 ?_
  refine o_q rfl rfl (q_asg rfl) ?_
  refine o_end ?_
  refine za2 ?_
  refine c_seq ?_
  refine c_seq ?_
  refine za0 ?_
  refine o_q rfl rfl (za3 rfl) ?_
  refine o_q rfl rfl (q_len Try.underlying25 rfl) ?_
  refine o_q rfl rfl (za3 rfl) ?_
  refine o_end ?_
  refine za2 ?_
  refine zam ?_
  refine c_nil (Kd.int .i64) 3 ?_
  refine za8 h (fun o14 hl13 hR12 => ?_) rfl
  clear h
  refine c_fact (p := l0.length ≤ 9223372036854775807) (fun w h => (R0.now Z h).2.1) (fun hm11 => ?_)
  refine zaw (σ := (List Int) × (List Int) × Int × (Option Addr) × Nat) (fun k9 ((ys8, l3, i6, A4, c5) : (List Int) × (List Int) × Int × (Option Addr) × Nat) => Rg l0 i6 ys8 ∧ ys8.length = k9 ∧ spec_plSum.l0 l1 ys8 l3 i6 = some o14) [5, 6, 9, 10, 11, 12, 13, 14, 15, 16, 17, 18, 19, 20, 21, 22, 23, 24, 25] (fun ((ys8, l3, i6, A4, c5) : (List Int) × (List Int) × Int × (Option Addr) × Nat) => [(5, .slice A4 l3.length c5), (9, .int .i64 i6)]) (fun ((ys8, l3, i6, A4, c5) : (List Int) × (List Int) × Int × (Option Addr) × Nat) => [row (Kd.int .i64) 3 (.slice A4 l3.length c5) l3]) l0.length (l0, ([] : List Int), 0, none, 0) ⟨Rg.start _, rfl, hl13⟩ ⟨rfl, rfl, trivial⟩ (fun w h => h) ?_
  refine fun k9 => cur5 (listC (fun l3 i6 A4 c5 U15 hJ_ => ?_) (fun y7 ys8 l3 i6 A4 c5 U15 hJ_ => ?_))
  · skip
    clear hl13
    have hr10 := hJ_.1; have hk16 := hJ_.2.1; have h := hJ_.2.2; clear hJ_
    replace h : spec_plSum.l0 l1 [] l3 i6 = some o14 := h
    rw [spec_plSum.l0] at h
    refine c_seq ?_
    refine za0 ?_
    refine o_q rfl rfl (q_lss rfl rfl) ?_
    refine o_end ?_
    refine za2 ?_
    refine c_seq ?_
    refine c_false (congrArg Value.bool hr10.ge) ?_
    refine c_exit ?_
    refine za6 ?_
    refine za6 ?_
    have e_ := Option.some.inj h; replace h := hR12; rw [← e_] at h; clear e_
    refine x_hit ?_
    refine za2 ?_
    refine c_seq ?_
    refine za0 ?_
    refine o_q rfl rfl (za3 rfl) ?_
    refine o_q rfl rfl (q_asg rfl) ?_
    refine o_end ?_
    refine za2 ?_
    refine c_ret ?_
    have e0_ := Option.some.inj h; clear h
    subst e0_
    exact x_r1 (A4, c5) Try.results175 (zaj rfl) rfl (fun w h => za5 [0] (by decide) rfl w h)
  · skip
    clear hl13
    have hr10 := hJ_.1; have hk16 := hJ_.2.1; have h := hJ_.2.2; clear hJ_
    replace h : spec_plSum.l0 l1 (y7 :: ys8) l3 i6 = some o14 := h
    rw [spec_plSum.l0] at h
    refine c_seq ?_
    refine za0 ?_
    refine o_q rfl rfl (q_lss rfl rfl) ?_
    refine o_end ?_
    refine za2 ?_
    refine c_seq ?_
    refine c_true (congrArg Value.bool hr10.lt) ?_
    refine zaq ?_
    refine za2 ?_
    refine c_seq ?_
    refine zam ?_
    refine c_seq ?_
    refine za0 ?_
    refine o_q rfl rfl (za3 rfl) ?_
    refine o_q rfl rfl (q_asg rfl) ?_
    refine o_end ?_
    refine za2 ?_
    refine a_startS (ds := []) [none] MO rfl ?_
    refine za7 0 rfl rfl rfl (by kernel_rfl) (fun _ _ _ h => h) (za3 rfl) ?_
    refine za7 1 rfl rfl rfl (by kernel_rfl) (fun _ _ _ h => h) (za3 rfl) ?_
    refine za7 2 rfl rfl rfl (by kernel_rfl) (fun _ _ _ h => h) (za3 rfl) ?_
    refine a_fact (p := Sh A0 l0.length l0.length) (fun w h => f_sh (dk := (Kd.int .i64)) h (fun w h => R0.now Z h)) (fun hq17 => ?_)
    refine za7 3 rfl rfl rfl (by kernel_rfl) (fun _ _ _ h => h) (q_ix Try.underlying25 Z3 rfl rfl hq17 hr10.get) ?_
    refine zau 4 rfl rfl rfl (by kernel_rfl) (fun _ _ _ h => h) (fun w h => zab [none] (by decide) w h rfl) (q_lde (off := 0) Y3 rfl rfl (fun w h => R0.now Z h) hr10.get (fun _ _ h => h) rfl) ?_
    refine za7 5 rfl rfl rfl (by kernel_rfl) (fun _ _ _ h => h) (za3 rfl) ?_
    refine za7 6 rfl rfl rfl (by kernel_rfl) (fun _ _ _ h => h) (za3 rfl) ?_
    refine a_fact (p := Sh A1 l1.length l1.length) (fun w h => f_sh (dk := (Kd.int .i64)) h (fun w h => R1.now Z h)) (fun hq18 => ?_)
    refine za8 h (fun y20 hg19 h => ?_) rfl
    refine za7 7 rfl rfl rfl (by kernel_rfl) (fun _ _ _ h => h) (q_ix Try.underlying25 Z3 rfl rfl hq18 hg19) ?_
    refine zau 8 rfl rfl rfl (by kernel_rfl) (fun _ _ _ h => h) (fun w h => zab [none] (by decide) w h rfl) (q_lde (off := 0) Y3 rfl rfl (fun w h => R1.now Z h) hg19 (fun _ _ h => h) rfl) ?_
    refine za7 9 rfl rfl rfl (by kernel_rfl) (fun _ _ _ h => h) (q_add64 rfl rfl) ?_
    refine za8 h (fun i22 hx21 h => ?_) rfl
    refine a_one 10 rfl rfl (by kernel_rfl) rfl (za9 0 Z Try.func172 N172 rfl rfl rfl (fun w P1 hF hB hS hT => spec_l1Least.calls (w64 (y7 + y20)) 1000001 hB hF _ hx21)) (fun s w h => zab [none] (by decide) w h rfl) (fun _ => ?_)
    refine a_one 11 rfl rfl (by kernel_rfl) rfl (e_lit (vs := [(0, .int .i64 i22)]) (cs := [.int .i64 i22]) (Kd.int .i64) ([i22] : List Int) Try.underlying25 I3 (by decide) rfl (by decide) rfl rfl (fun _ _ => Kd.zao _)) (fun s w h => zab [none] (by decide) w h rfl) (cur2 (fun A23 c24 => ?_))
    refine za8 h (fun l26 ha27 h => ?_) rfl
    refine a_one 12 rfl rfl (by kernel_rfl) rfl (e_app (i := 1) (j := 0) Try.underlying25 I3 rfl (by decide) (by decide) rfl rfl rfl rfl rfl ha27) (fun s w h => zab [none] (by decide) w h rfl) (cur2 (fun A28 c29 => ?_))
    refine za7 13 rfl rfl rfl (by kernel_rfl) (fun _ _ _ h => h) (q_asg rfl) ?_
    refine zav (by kernel_rfl) ?_
    refine zal ?_
    refine za2 ?_
    refine za0 ?_
    refine o_q rfl rfl (q_up rfl rfl (hr10.up hm11)) ?_
    refine o_q rfl rfl (za3 rfl) ?_
    refine o_end ?_
    refine zak ys8.length (ys8, l26, i6 + 1, A28, c29) (by rw [← hk16]; exact Nat.lt_succ_self _) ⟨hr10.step, rfl, h⟩ ⟨rfl, rfl, trivial⟩ (fun w h => za5 [1] (by decide) rfl w h) ?_
    repeat (first | exact zad _ _ | refine zah rfl ?_ | refine zae rfl ?_ | refine zai rfl ?_)

/-! ### loop.example/g01098/spec.plExponents: function 135 -/
def spec_plExponents.l1 : (List SStep) → (List (List Int)) → Int → Option (List (List Int))
  | [], l39, i43 => some l39
  | y44 :: ys45, l39, i43 => (gt l39 y44.f0).bind fun y300 => (gt l39 y44.f1).bind fun y599 => (spec_plSum.f y300 y599).bind fun l719 => (ap l39 ([l719] : List (List Int))).bind fun l838 => spec_plExponents.l1 ys45 l838 (i43 + 1)
def spec_plExponents.l0 (a0_0 : Int) : Nat → (List (List Int)) → Int → Option (List (List Int))
  | 0, _, _ => none
  | k11 + 1, l4, i8 => if i8 < a0_0 then ((mk0 a0_0 (0 : Int)).bind fun l20 => (gt l20 i8).bind fun y27 => (st l20 i8 1).bind fun l28 => (ap l4 ([l28] : List (List Int))).bind fun l34 => spec_plExponents.l0 a0_0 k11 l34 (w64 (i8 + 1))) else (some l4)
def spec_plExponents.f (k : Nat) (a0_0 : Int) (l0_1 : List SStep) (l0_2 : List Int) : Option (List (List Int)) := (spec_plExponents.l0 a0_0 k ([] : List (List Int)) 0).bind fun l4 => (spec_plExponents.l1 l0_1 l4 0).bind fun l39 => some l39
set_option maxHeartbeats 600000 in
set_option maxRecDepth 100000 in
theorem spec_plExponents.calls (k : Nat) {w0 ws : World} {P0 : Nat → Prop} (a0_0 : Int) (A0_1 : Option Addr) (c0_1 : Nat) (n0_1 : Nat) (l0_1 : List SStep) (A0_2 : Option Addr) (c0_2 : Nat) (n0_2 : Nat) (l0_2 : List Int) (Z : Below w0.heap.size w0 ws) (hF : Fr w0 ws P0 [] ws) (R0_1 : Stable ws P0 (fun w => Kd.C kStep w A0_1 n0_1 l0_1)) (hc0_1 : n0_1 ≤ c0_1) (R0_2 : Stable ws P0 (fun w => Kd.C (Kd.int .i64) w A0_2 n0_2 l0_2)) (hc0_2 : n0_2 ≤ c0_2) (r_1 : List (List Int)) (h : spec_plExponents.f k a0_0 l0_1 l0_2 = some r_1) :
    Calls Try.prog 135 #[.agg #[.int .i64 a0_0, .slice A0_1 n0_1 c0_1, .slice A0_2 n0_2 c0_2]] ws (Post1 w0 ws P0 (fun ((q_2, q_3, q_4) : (Option Addr) × Nat × Hd) => .slice q_2 r_1.length q_3) (fun ((q_2, q_3, q_4) : (Option Addr) × Nat × Hd) => [row (gk 3 (Kd.int .i64)) 25 (.slice q_2 r_1.length q_3) (zp q_4 r_1)])) := by
  unfold spec_plExponents.f at h
  obtain rfl := (R0_1 ws (KeptB.refl _ _)).1
  obtain rfl := (R0_2 ws (KeptB.refl _ _)).1
  refine enter Try.func135 rfl Try.ntmps135 rfl hF ?_
  refine c_seq ?_
  refine za0 ?_
  refine o_e rfl (e_box rfl) (fun g1 => ?_)
  refine o_q rfl rfl (q_asg rfl) ?_
  refine o_end ?_
  refine za2 ?_
  refine c_seq ?_
  refine za0 ?_
  refine o_q rfl rfl (q_asg rfl) ?_
  refine o_end ?_
  refine za2 ?_
  refine c_seq ?_
  refine c_seq ?_
  refine za0 ?_
  refine o_q rfl rfl (q_asg rfl) ?_
  refine o_end ?_
  refine za2 ?_
  refine zam ?_
  refine c_nil (gk 3 (Kd.int .i64)) 25 ?_
  refine za8 h (fun o16 hl15 hR14 => ?_) rfl
  clear h
  refine zaw (σ := (List (List Int)) × Int × (Option Addr) × Nat × Hd) (fun k11 ((l4, i8, A5, c6, H7) : (List (List Int)) × Int × (Option Addr) × Nat × Hd) => spec_plExponents.l0 a0_0 k11 l4 i8 = some o16) [3, 4, 5, 8, 9, 10, 11, 12, 13, 14, 15, 16, 17, 18, 19, 20, 21, 22, 23] (fun ((l4, i8, A5, c6, H7) : (List (List Int)) × Int × (Option Addr) × Nat × Hd) => [(3, .slice A5 l4.length c6), (4, .int .i64 i8)]) (fun ((l4, i8, A5, c6, H7) : (List (List Int)) × Int × (Option Addr) × Nat × Hd) => [row (gk 3 (Kd.int .i64)) 25 (.slice A5 l4.length c6) (zp H7 l4), box g1 27 #[.int .i64 a0_0, .slice A0_1 l0_1.length c0_1, .slice A0_2 l0_2.length c0_2]]) k (([] : List (List Int)), 0, none, 0, ([] : Hd)) hl15 ⟨rfl, rfl, trivial⟩ (fun w h => h) ?_
  refine natC (cur5 (fun l4 i8 A5 c6 H7 => fun U17 hJ_ => ?_)) (fun k11 => (cur5 (fun l4 i8 A5 c6 H7 => fun U17 hJ_ => ?_)))
  · skip
    replace hJ_ : spec_plExponents.l0 a0_0 0 l4 i8 = some o16 := hJ_
    rw [spec_plExponents.l0] at hJ_
    exact noneE hJ_
  · skip
    clear hl15
    have h := hJ_; clear hJ_
    replace h : spec_plExponents.l0 a0_0 (k11 + 1) l4 i8 = some o16 := h
    rw [spec_plExponents.l0] at h
    refine c_seq ?_
    refine c_seq ?_
    refine za0 ?_
    refine o_q rfl rfl (za3 rfl) ?_
    refine o_q rfl rfl (q_f F27_0 rfl) ?_
    refine o_q rfl rfl (q_ldb Y3 rfl (fun w h => h.zac (i := 1) rfl) rfl) ?_
    refine o_q rfl rfl (q_lss rfl rfl) ?_
    refine o_end ?_
    refine za2 ?_
    refine zat _ rfl (fun hb19 => ?_) (fun hb19 => ?_)
    · skip
      replace h := br_t hb19 h
      refine zaq ?_
      refine za2 ?_
      refine c_seq ?_
      refine zam ?_
      refine c_seq ?_
      refine za0 ?_
      refine o_q rfl rfl (q_f F27_0 rfl) ?_
      refine o_q rfl rfl (q_ldb Y3 rfl (fun w h => h.zac (i := 1) rfl) rfl) ?_
      refine za8 h (fun l20 hm21 h => ?_) rfl
      refine o_e rfl (e_make (Kd.int .i64) (0 : Int) Try.underlying25 I3 rfl (by decide) (by decide) (fun _ _ => rfl) rfl rfl hm21) (cur2 (fun A22 c23 => ?_))
      refine o_q rfl rfl (q_asg rfl) ?_
      refine o_end ?_
      refine za2 ?_
      refine c_seq ?_
      refine za0 ?_
      refine o_q rfl rfl (za3 rfl) ?_
      refine o_q rfl rfl (za3 rfl) ?_
      refine o_fact (p := Sh A22 l20.length l20.length) (fun w h => f_sh (dk := (Kd.int .i64)) h (fun w h => h.zay (i := 0) rfl)) (fun hq25 => ?_)
      refine za8 h (fun y27 hg26 h => ?_) rfl
      refine o_q rfl rfl (q_ix Try.underlying25 Z3 rfl rfl hq25 hg26) ?_
      refine za8 h (fun l28 hs29 h => ?_) rfl
      refine o_e rfl (e_set (i := 0) rfl rfl rfl Z3 hs29) (fun _ => ?_)
      refine o_end ?_
      refine za2 ?_
      refine za0 ?_
      refine o_q rfl rfl (za3 rfl) ?_
      refine o_q rfl rfl (za3 rfl) ?_
      refine o_e rfl (e_litG (j := 0) (ue := 3) (dk := (Kd.int .i64)) (ys := l28) Try.underlying73 I25 rfl rfl rfl) (cur3 (fun A30 c31 H33 => ?_))
      refine za8 h (fun l34 ha35 h => ?_) rfl
      refine o_e rfl (e_appG (i := 2) (j := 0) Try.underlying73 I25 rfl (by decide) rfl rfl rfl rfl rfl ha35) (cur3 (fun A36 c37 H38 => ?_))
      refine o_q rfl rfl (q_asg rfl) ?_
      refine o_end ?_
      refine zal ?_
      refine za2 ?_
      refine za0 ?_
      refine o_q rfl rfl (za3 rfl) ?_
      refine o_q rfl rfl (q_add64 rfl rfl) ?_
      refine o_q rfl rfl (q_asg rfl) ?_
      refine o_end ?_
      refine zak k11 (l34, w64 (i8 + 1), A36, c37, H38) (Nat.lt_succ_self _) h ⟨rfl, rfl, trivial⟩ (fun w h => za5 [2, 3] (by decide) rfl w h) ?_
      repeat (first | exact zad _ _ | refine zah rfl ?_ | refine zae rfl ?_ | refine zai rfl ?_)
    · skip
      replace h := br_f hb19 h
      refine c_exit ?_
      refine za6 ?_
      refine za6 ?_
      have e_ := Option.some.inj h; replace h := hR14; rw [← e_] at h; clear e_
      refine x_hit ?_
      refine za2 ?_
      refine c_seq ?_
      refine c_seq ?_
      refine za0 ?_
      refine o_q rfl rfl (q_f F27_1 rfl) ?_
      refine o_q rfl rfl (q_ldb Y24 rfl (fun w h => h.zac (i := 1) rfl) rfl) ?_
      refine o_q rfl rfl (q_len Try.underlying24 rfl) ?_
      refine o_q rfl rfl (za3 rfl) ?_
      refine o_end ?_
      refine za2 ?_
      refine zam ?_
      refine za8 h (fun o51 hl50 hR49 => ?_) rfl
      clear h
      refine c_fact (p := l0_1.length ≤ 9223372036854775807) (fun w h => (R0_1.now Z h).2.1) (fun hm48 => ?_)
      refine zaw (σ := (List SStep) × (List (List Int)) × Int × (Option Addr) × Nat × Hd) (fun k46 ((ys45, l39, i43, A40, c41, H42) : (List SStep) × (List (List Int)) × Int × (Option Addr) × Nat × Hd) => Rg l0_1 i43 ys45 ∧ ys45.length = k46 ∧ spec_plExponents.l1 ys45 l39 i43 = some o51) [3, 7, 27, 28, 29, 30, 31, 32, 33, 34, 35, 36, 37, 38, 39, 40, 41, 42, 43, 44, 45] (fun ((ys45, l39, i43, A40, c41, H42) : (List SStep) × (List (List Int)) × Int × (Option Addr) × Nat × Hd) => [(3, .slice A40 l39.length c41), (27, .int .i64 i43)]) (fun ((ys45, l39, i43, A40, c41, H42) : (List SStep) × (List (List Int)) × Int × (Option Addr) × Nat × Hd) => [row (gk 3 (Kd.int .i64)) 25 (.slice A40 l39.length c41) (zp H42 l39), box g1 27 #[.int .i64 a0_0, .slice A0_1 l0_1.length c0_1, .slice A0_2 l0_2.length c0_2]]) l0_1.length (l0_1, l4, 0, A5, c6, H7) ⟨Rg.start _, rfl, hl50⟩ ⟨rfl, rfl, trivial⟩ (fun w h => h) ?_
      refine fun k46 => cur6 (listC (fun l39 i43 A40 c41 H42 U52 hJ_ => ?_) (fun y44 ys45 l39 i43 A40 c41 H42 U52 hJ_ => ?_))
      · skip
        clear hl50
        have hr47 := hJ_.1; have hk53 := hJ_.2.1; have h := hJ_.2.2; clear hJ_
        replace h : spec_plExponents.l1 [] l39 i43 = some o51 := h
        rw [spec_plExponents.l1] at h
        refine c_seq ?_
        refine za0 ?_
        refine o_q rfl rfl (q_lss rfl rfl) ?_
        refine o_end ?_
        refine za2 ?_
        refine c_seq ?_
        refine c_false (congrArg Value.bool hr47.ge) ?_
        refine c_exit ?_
        refine za6 ?_
        refine za6 ?_
        have e_ := Option.some.inj h; replace h := hR49; rw [← e_] at h; clear e_
        refine x_hit ?_
        refine za2 ?_
        refine c_seq ?_
        refine za0 ?_
        refine o_q rfl rfl (za3 rfl) ?_
        refine o_q rfl rfl (q_asg rfl) ?_
        refine o_end ?_
        refine za2 ?_
        refine c_ret ?_
        have e0_ := Option.some.inj h; clear h
        subst e0_
        exact x_r1 (A40, c41, H42) Try.results135 (zaj rfl) rfl (fun w h => za5 [0] (by decide) rfl w h)
      · skip
        clear hl50
        have hr47 := hJ_.1; have hk53 := hJ_.2.1; have h := hJ_.2.2; clear hJ_
        replace h : spec_plExponents.l1 (y44 :: ys45) l39 i43 = some o51 := h
        rw [spec_plExponents.l1] at h
        refine c_seq ?_
        refine za0 ?_
        refine o_q rfl rfl (q_lss rfl rfl) ?_
        refine o_end ?_
        refine za2 ?_
        refine c_seq ?_
        refine c_true (congrArg Value.bool hr47.lt) ?_
        refine zaq ?_
        refine za2 ?_
        refine c_seq ?_
        refine zam ?_
        refine c_seq ?_
        refine za0 ?_
        refine o_fact (p := Sh A0_1 l0_1.length l0_1.length) (fun w h => f_sh (dk := kStep) h (fun w h => R0_1.now Z h)) (fun hq54 => ?_)
        refine o_q rfl rfl (q_ix Try.underlying24 Z88 rfl rfl hq54 hr47.get) ?_
        refine o_q rfl rfl (q_ldE G88 Z88 rfl rfl (fun w h => R0_1.now Z h) hr47.get (fun _ _ h => h) rfl) ?_
        refine o_e rfl (e_alloc V88 rfl) (fun g55 => ?_)
        refine o_e rfl (zaz (i := 0) rfl rfl rfl Z88 rfl rfl) (fun _ => ?_)
        refine o_end ?_
        refine za2 ?_
        refine za8 h (fun y300 hg299 h => ?_) rfl
        refine za8 h (fun y599 hg598 h => ?_) rfl
        refine za8 h (fun l719 hx718 h => ?_) rfl
        refine za8 h (fun l838 ha839 h => ?_) rfl
        refine a_startS (ds := []) [some 0, none, some 2] MO rfl ?_
        refine za7 0 rfl rfl rfl (by kernel_rfl) (fun _ _ _ h => h) (za3 rfl) ?_
        refine za7 1 rfl rfl rfl (by kernel_rfl) (fun _ _ _ h => h) (za3 rfl) ?_
        refine za7 2 rfl rfl rfl (by kernel_rfl) (fun _ _ _ h => h) (q_f F88_0 rfl) ?_
        refine zau 3 rfl rfl rfl (by kernel_rfl) (fun _ _ _ h => h) (fun w h => zab [some 0, none, some 2] (by decide) w h rfl) (q_ldb Y3 rfl (fun w h => h.zac (i := 0) rfl) rfl) ?_
        refine a_fact (p := Sh A40 l39.length (zp H42 l39).length) (fun w h => f_sh (dk := (gk 3 (Kd.int .i64))) h (fun w h => h.zay (i := 1) rfl)) (fun hq298 => ?_)
        refine za7 4 rfl rfl rfl (by kernel_rfl) (fun _ _ _ h => h) (q_ix Try.underlying73 Z25 rfl rfl hq298 (gt_zp hg299)) ?_
        refine za7 6 rfl rfl rfl (by kernel_rfl) (fun _ _ _ h => h) (za3 rfl) ?_
        refine za7 7 rfl rfl rfl (by kernel_rfl) (fun _ _ _ h => h) (q_f F88_1 rfl) ?_
        refine zau 8 rfl rfl rfl (by kernel_rfl) (fun _ _ _ h => h) (fun w h => zab [some 0, none, some 2] (by decide) w h rfl) (q_ldb Y3 rfl (fun w h => h.zac (i := 0) rfl) rfl) ?_
        refine za7 9 rfl rfl rfl (by kernel_rfl) (fun _ _ _ h => h) (q_ix Try.underlying73 Z25 rfl rfl hq298 (gt_zp hg598)) ?_
        refine a_fact (p := y300.length ≤ hC H42 y44.f0) (fun w h => (K_in (h.zay (i := 1) rfl) hg299).1) (fun hc358 => ?_)
        refine a_fact (p := y599.length ≤ hC H42 y44.f1) (fun w h => (K_in (h.zay (i := 1) rfl) hg598).1) (fun hc658 => ?_)
        refine a_two 5 10 rfl rfl rfl rfl (by kernel_rfl) rfl rfl (ev_q rfl (q_lde (off := 0) Y25 rfl rfl (fun w h => h.zay (i := 1) rfl) (gt_zp hg299) (fun _ _ h => h.1) rfl)) (fun s w h => zab [some 0, none, some 2] (by decide) w h rfl) (ev_q rfl (q_lde (off := 0) Y25 rfl rfl (fun w h => h.zay (i := 1) rfl) (gt_zp hg598) (fun _ _ h => h.1) rfl)) (fun s w h => zab [some 0, none, some 2] (by decide) w h rfl) (fun _ => ?_) (fun _ => ?_)
        · skip
          refine a_fact (p := y599.length ≤ hC H42 y44.f1) (fun w h => (K_in (h.zay (i := 1) rfl) hg598).1) (fun hc658 => ?_)
          refine a_one 10 rfl rfl (by kernel_rfl) rfl (ev_q rfl (q_lde (off := 0) Y25 rfl rfl (fun w h => h.zay (i := 1) rfl) (gt_zp hg598) (fun _ _ h => h.1) rfl)) (fun s w h => zab [some 0, none, some 2] (by decide) w h rfl) (fun _ => ?_)
          refine a_one 11 rfl rfl (by kernel_rfl) rfl (za9 0 Z Try.func175 N175 rfl rfl rfl (fun w P1 hF hB hS hT => spec_plSum.calls (hA H42 y44.f0) (hC H42 y44.f0) y300.length y300 (hA H42 y44.f1) (hC H42 y44.f1) y599.length y599 hB hF (stab_in (hT 1 _ rfl).row hg299) hc358 (stab_in (hT 1 _ rfl).row hg598) hc658 _ hx718)) (fun s w h => zab [some 1, none, some 3] (by decide) w h rfl) (cur2 (fun A720 c721 => ?_))
          refine a_one 12 rfl rfl (by kernel_rfl) rfl (e_litG (j := 0) (ue := 3) (dk := (Kd.int .i64)) (ys := l719) Try.underlying73 I25 rfl rfl rfl) (fun s w h => zab [some 2, none, some 4] (by decide) w h rfl) (cur3 (fun A778 c779 H781 => ?_))
          refine a_one 13 rfl rfl (by kernel_rfl) rfl (e_appG (i := 3) (j := 0) Try.underlying73 I25 rfl (by decide) rfl rfl rfl rfl rfl ha839) (fun s w h => zab [some 2, none, some 4] (by decide) w h rfl) (cur3 (fun A840 c841 H842 => ?_))
          refine za7 14 rfl rfl rfl (by kernel_rfl) (fun _ _ _ h => h) (q_asg rfl) ?_
          refine zav (by kernel_rfl) ?_
          refine zal ?_
          refine za2 ?_
          refine za0 ?_
          refine o_q rfl rfl (q_up rfl rfl (hr47.up hm48)) ?_
          refine o_q rfl rfl (za3 rfl) ?_
          refine o_end ?_
          refine zak ys45.length (ys45, l838, i43 + 1, A840, c841, H842) (by rw [← hk53]; exact Nat.lt_succ_self _) ⟨hr47.step, rfl, h⟩ ⟨rfl, rfl, trivial⟩ (fun w h => za5 [3, 4] (by decide) rfl w h) ?_
          repeat (first | exact zad _ _ | refine zah rfl ?_ | refine zae rfl ?_ | refine zai rfl ?_)
        · skip
          refine a_fact (p := y300.length ≤ hC H42 y44.f0) (fun w h => (K_in (h.zay (i := 1) rfl) hg299).1) (fun hc358 => ?_)
          refine a_one 5 rfl rfl (by kernel_rfl) rfl (ev_q rfl (q_lde (off := 0) Y25 rfl rfl (fun w h => h.zay (i := 1) rfl) (gt_zp hg299) (fun _ _ h => h.1) rfl)) (fun s w h => zab [some 0, none, some 2] (by decide) w h rfl) (fun _ => ?_)
          refine a_one 11 rfl rfl (by kernel_rfl) rfl (za9 0 Z Try.func175 N175 rfl rfl rfl (fun w P1 hF hB hS hT => spec_plSum.calls (hA H42 y44.f0) (hC H42 y44.f0) y300.length y300 (hA H42 y44.f1) (hC H42 y44.f1) y599.length y599 hB hF (stab_in (hT 1 _ rfl).row hg299) hc358 (stab_in (hT 1 _ rfl).row hg598) hc658 _ hx718)) (fun s w h => zab [some 1, none, some 3] (by decide) w h rfl) (cur2 (fun A720 c721 => ?_))
          refine a_one 12 rfl rfl (by kernel_rfl) rfl (e_litG (j := 0) (ue := 3) (dk := (Kd.int .i64)) (ys := l719) Try.underlying73 I25 rfl rfl rfl) (fun s w h => zab [some 2, none, some 4] (by decide) w h rfl) (cur3 (fun A778 c779 H781 => ?_))
          refine a_one 13 rfl rfl (by kernel_rfl) rfl (e_appG (i := 3) (j := 0) Try.underlying73 I25 rfl (by decide) rfl rfl rfl rfl rfl ha839) (fun s w h => zab [some 2, none, some 4] (by decide) w h rfl) (cur3 (fun A840 c841 H842 => ?_))
          refine za7 14 rfl rfl rfl (by kernel_rfl) (fun _ _ _ h => h) (q_asg rfl) ?_
          refine zav (by kernel_rfl) ?_
          refine zal ?_
          refine za2 ?_
          refine za0 ?_
          refine o_q rfl rfl (q_up rfl rfl (hr47.up hm48)) ?_
          refine o_q rfl rfl (za3 rfl) ?_
          refine o_end ?_
          refine zak ys45.length (ys45, l838, i43 + 1, A840, c841, H842) (by rw [← hk53]; exact Nat.lt_succ_self _) ⟨hr47.step, rfl, h⟩ ⟨rfl, rfl, trivial⟩ (fun w h => za5 [3, 4] (by decide) rfl w h) ?_
          repeat (first | exact zad _ _ | refine zah rfl ?_ | refine zae rfl ?_ | refine zai rfl ?_)

/-! ### loop.example/g01098/spec.l1All: function 99 -/
def spec_l1All.l0 (a1 : Int) (a2 : Int) : (List Int) → Int → Option ((Bool) ⊕ (Unit))
  | [], i1 => some (.inr ())
  | y2 :: ys3, i1 => (spec_l1In.f y2 a1 a2).bind fun b14 => if b14 = true then (spec_l1All.l0 a1 a2 ys3 (i1 + 1)) else (some (.inl false))
def spec_l1All.f (l0 : List Int) (a1 : Int) (a2 : Int) : Option Bool := (spec_l1All.l0 a1 a2 l0 0).bind fun o_ => match o_ with | .inl r_ => some r_ | .inr _ => some true
set_option maxHeartbeats 600000 in
set_option maxRecDepth 100000 in
theorem spec_l1All.calls {w0 ws : World} {P0 : Nat → Prop} (A0 : Option Addr) (c0 : Nat) (n0 : Nat) (l0 : List Int) (a1 : Int) (a2 : Int) (Z : Below w0.heap.size w0 ws) (hF : Fr w0 ws P0 [] ws) (R0 : Stable ws P0 (fun w => Kd.C (Kd.int .i64) w A0 n0 l0)) (hc0 : n0 ≤ c0) (r_1 : Bool) (h : spec_l1All.f l0 a1 a2 = some r_1) :
    Calls Try.prog 99 #[.slice A0 n0 c0, .int .i64 a1, .int .i64 a2] ws (Post1 w0 ws P0 (fun (_ : Unit) => .bool r_1) (fun (_ : Unit) => [])) := by
  unfold spec_l1All.f at h
  obtain rfl := (R0 ws (KeptB.refl _ _)).1
  refine enter Try.func99 rfl Try.ntmps99 rfl hF ?_
  refine c_seq ?_
  refine za0 ?_
  refine o_q rfl rfl (q_asg rfl) ?_
  refine o_end ?_
  refine za2 ?_
  refine c_seq ?_
  refine c_seq ?_
  refine za0 ?_
  refine o_q rfl rfl (za3 rfl) ?_
  refine o_q rfl rfl (q_len Try.underlying25 rfl) ?_
  refine o_q rfl rfl (za3 rfl) ?_
  refine o_end ?_
  refine za2 ?_
  refine zam ?_
  refine za8 h (fun o9 hl8 hR7 => ?_) rfl
  clear h
  refine c_fact (p := l0.length ≤ 9223372036854775807) (fun w h => (R0.now Z h).2.1) (fun hm6 => ?_)
  refine zaw (σ := (List Int) × Int) (fun k4 ((ys3, i1) : (List Int) × Int) => Rg l0 i1 ys3 ∧ ys3.length = k4 ∧ spec_l1All.l0 a1 a2 ys3 i1 = some o9) [6, 8, 11, 12, 13, 14, 15, 16, 17, 18, 19, 20] (fun ((ys3, i1) : (List Int) × Int) => [(11, .int .i64 i1)]) (fun ((ys3, i1) : (List Int) × Int) => []) l0.length (l0, 0) ⟨Rg.start _, rfl, hl8⟩ ⟨rfl, trivial⟩ (fun w h => h) ?_
  refine fun k4 => cur2 (listC (fun i1 U10 hJ_ => ?_) (fun y2 ys3 i1 U10 hJ_ => ?_))
  · skip
    clear hl8
    have hr5 := hJ_.1; have hk11 := hJ_.2.1; have h := hJ_.2.2; clear hJ_
    replace h : spec_l1All.l0 a1 a2 [] i1 = some o9 := h
    rw [spec_l1All.l0] at h
    refine c_seq ?_
    refine za0 ?_
    refine o_q rfl rfl (q_lss rfl rfl) ?_
    refine o_end ?_
    refine za2 ?_
    refine c_seq ?_
    refine c_false (congrArg Value.bool hr5.ge) ?_
    refine c_exit ?_
    refine za6 ?_
    refine za6 ?_
    have e_ := Option.some.inj h; replace h := hR7; rw [← e_] at h; clear e_
    refine x_hit ?_
    refine za2 ?_
    refine c_seq ?_
    refine za0 ?_
    refine o_q rfl rfl (q_asg rfl) ?_
    refine o_end ?_
    refine za2 ?_
    refine c_ret ?_
    have e0_ := Option.some.inj h; clear h
    subst e0_
    exact x_r1 () Try.results99 (zaj rfl) rfl (fun w h => za5 [] (by decide) rfl w h)
  · skip
    clear hl8
    have hr5 := hJ_.1; have hk11 := hJ_.2.1; have h := hJ_.2.2; clear hJ_
    replace h : spec_l1All.l0 a1 a2 (y2 :: ys3) i1 = some o9 := h
    rw [spec_l1All.l0] at h
    refine c_seq ?_
    refine za0 ?_
    refine o_q rfl rfl (q_lss rfl rfl) ?_
    refine o_end ?_
    refine za2 ?_
    refine c_seq ?_
    refine c_true (congrArg Value.bool hr5.lt) ?_
    refine zaq ?_
    refine za2 ?_
    refine c_seq ?_
    refine zam ?_
    refine c_seq ?_
    refine za0 ?_
    refine o_fact (p := Sh A0 l0.length l0.length) (fun w h => f_sh (dk := (Kd.int .i64)) h (fun w h => R0.now Z h)) (fun hq12 => ?_)
    refine o_q rfl rfl (q_ix Try.underlying25 Z3 rfl rfl hq12 hr5.get) ?_
    refine o_q rfl rfl (q_lde (off := 0) Y3 rfl rfl (fun w h => R0.now Z h) hr5.get (fun _ _ h => h) rfl) ?_
    refine o_q rfl rfl (q_asg rfl) ?_
    refine o_end ?_
    refine za2 ?_
    refine c_seq ?_
    refine za0 ?_
    refine o_q rfl rfl (za3 rfl) ?_
    refine o_q rfl rfl (za3 rfl) ?_
    refine o_q rfl rfl (za3 rfl) ?_
    refine za8 h (fun b14 hx13 h => ?_) rfl
    refine o_e rfl (za9 0 Z Try.func61 N61 rfl rfl rfl (fun w P1 hF hB hS hT => spec_l1In.calls y2 a1 a2 hB hF _ hx13)) (fun _ => ?_)
    refine o_q rfl rfl (q_not rfl) ?_
    refine o_end ?_
    refine za2 ?_
    refine zat _ rfl (fun hb15 => ?_) (fun hb15 => ?_)
    · replace hb15 := nt_t hb15
      replace h := bb_f hb15 h
      refine c_seq ?_
      refine za0 ?_
      refine o_q rfl rfl (q_asg rfl) ?_
      refine o_end ?_
      refine za2 ?_
      refine c_ret ?_
      refine zas ?_
      refine zaf ?_
      refine zaf ?_
      have e_ := Option.some.inj h; replace h := hR7; rw [← e_] at h; clear e_
      refine zas ?_
      refine zaf ?_
      have e0_ := Option.some.inj h; clear h
      subst e0_
      exact x_r1 () Try.results99 (zaj rfl) rfl (fun w h => za5 [] (by decide) rfl w h)
    · replace hb15 := nt_f hb15
      replace h := bb_t hb15 h
      refine zaq ?_
      refine zal ?_
      refine za2 ?_
      refine za0 ?_
      refine o_q rfl rfl (q_up rfl rfl (hr5.up hm6)) ?_
      refine o_q rfl rfl (za3 rfl) ?_
      refine o_end ?_
      refine zak ys3.length (ys3, i1 + 1) (by rw [← hk11]; exact Nat.lt_succ_self _) ⟨hr5.step, rfl, h⟩ ⟨rfl, trivial⟩ (fun w h => za5 [] (by decide) rfl w h) ?_
      repeat (first | exact zad _ _ | refine zah rfl ?_ | refine zae rfl ?_ | refine zai rfl ?_)

/-! ### loop.example/g01098/spec.plGood: function 70 -/
def spec_plGood.l1 : (List (List Int)) → Int → Option ((Bool) ⊕ (Unit))
  | [], i24 => some (.inr ())
  | y25 :: ys26, i24 => (spec_l1All.f y25 0 1000000).bind fun b40 => if b40 = true then (spec_plGood.l1 ys26 (i24 + 1)) else (some (.inl false))
def spec_plGood.l0 (a0_0 : Int) : (List SStep) → Int → Option ((Bool) ⊕ (Unit))
  | [], i8 => some (.inr ())
  | y9 :: ys10, i8 => (spec_l1In.f y9.f0 0 y9.f1).bind fun b46 => if b46 = true then (if w64 (a0_0 + i8) ≤ y9.f1 then (some (.inl false)) else (spec_plGood.l0 a0_0 ys10 (i8 + 1))) else (some (.inl false))
def spec_plGood.f (k : Nat) (a0_0 : Int) (l0_1 : List SStep) (l0_2 : List Int) : Option Bool := (spec_l1In.f a0_0 1 6).bind fun b4 => if b4 = true then (if 40 < (l0_1.length : Int) then (some false) else (if 6 < (l0_2.length : Int) then (some false) else ((spec_plGood.l0 a0_0 l0_1 0).bind fun o_ => match o_ with | .inl r_ => some r_ | .inr _ => (spec_plExponents.f k a0_0 l0_1 l0_2).bind fun l20 => (spec_plGood.l1 l20 0).bind fun o_ => match o_ with | .inl r_ => some r_ | .inr _ => (spec_l1All.f l0_2 0 (w64 (w64 (a0_0 + (l0_1.length : Int)) - 1))).bind fun b36 => some b36))) else (some false)
set_option maxHeartbeats 600000 in
set_option maxRecDepth 100000 in
theorem spec_plGood.calls (k : Nat) {w0 ws : World} {P0 : Nat → Prop} (a0_0 : Int) (A0_1 : Option Addr) (c0_1 : Nat) (n0_1 : Nat) (l0_1 : List SStep) (A0_2 : Option Addr) (c0_2 : Nat) (n0_2 : Nat) (l0_2 : List Int) (Z : Below w0.heap.size w0 ws) (hF : Fr w0 ws P0 [] ws) (R0_1 : Stable ws P0 (fun w => Kd.C kStep w A0_1 n0_1 l0_1)) (hc0_1 : n0_1 ≤ c0_1) (R0_2 : Stable ws P0 (fun w => Kd.C (Kd.int .i64) w A0_2 n0_2 l0_2)) (hc0_2 : n0_2 ≤ c0_2) (r_1 : Bool) (h : spec_plGood.f k a0_0 l0_1 l0_2 = some r_1) :
    Calls Try.prog 70 #[.agg #[.int .i64 a0_0, .slice A0_1 n0_1 c0_1, .slice A0_2 n0_2 c0_2]] ws (Post1 w0 ws P0 (fun (_ : Unit) => .bool r_1) (fun (_ : Unit) => [])) := by
  unfold spec_plGood.f at h
  obtain rfl := (R0_1 ws (KeptB.refl _ _)).1
  obtain rfl := (R0_2 ws (KeptB.refl _ _)).1
  refine enter Try.func70 rfl Try.ntmps70 rfl hF ?_
  refine c_seq ?_
  refine za0 ?_
  refine o_e rfl (e_box rfl) (fun g1 => ?_)
  refine o_q rfl rfl (q_asg rfl) ?_
  refine o_end ?_
  refine za2 ?_
  refine c_seq ?_
  refine c_seq ?_
  refine za0 ?_
  refine o_q rfl rfl (q_f F27_0 rfl) ?_
  refine o_q rfl rfl (q_ldb Y3 rfl (fun w h => h.zac (i := 0) rfl) rfl) ?_
  refine za8 h (fun b4 hx3 h => ?_) rfl
  refine o_e rfl (za9 0 Z Try.func61 N61 rfl rfl rfl (fun w P1 hF hB hS hT => spec_l1In.calls a0_0 1 6 hB hF _ hx3)) (fun _ => ?_)
  refine o_q rfl rfl (q_not rfl) ?_
  refine o_q rfl rfl (za3 rfl) ?_
  refine byB b4 (fun hb5 => ?_) (fun hb5 => ?_)
  · replace h := bb_t hb5 h
    refine o_w (za4 rfl rfl rfl (congrArg (fun b => Value.bool (!(b))) hb5)) rfl (q_f F27_1 rfl) ?_
    refine o_w (za4 rfl rfl rfl (congrArg (fun b => Value.bool (!(b))) hb5)) rfl (q_ldb Y24 rfl (fun w h => h.zac (i := 0) rfl) rfl) ?_
    refine o_w (za4 rfl rfl rfl (congrArg (fun b => Value.bool (!(b))) hb5)) rfl (q_len Try.underlying24 rfl) ?_
    refine o_w (za4 rfl rfl rfl (congrArg (fun b => Value.bool (!(b))) hb5)) rfl (q_gtr rfl rfl) ?_
    refine o_q rfl rfl (zaa false (congrArg (fun b => Value.bool (!(b))) hb5) rfl) ?_
    refine o_q rfl rfl (za3 rfl) ?_
    refine byB (decide (40 < (l0_1.length : Int))) (fun hb6 => ?_) (fun hb6 => ?_)
    · replace h := br_t hb6 h
      refine @o_n _ _ _ _ _ _ _ _ _ _ _ 18 (za1 rfl rfl rfl (congrArg Value.bool hb6) rfl) (Eq.refl (some 18)) ?_
      refine @o_n _ _ _ _ _ _ _ _ _ _ _ 19 (za1 rfl rfl rfl (congrArg Value.bool hb6) rfl) (Eq.refl (some 19)) ?_
      refine @o_n _ _ _ _ _ _ _ _ _ _ _ 20 (za1 rfl rfl rfl (congrArg Value.bool hb6) rfl) (Eq.refl (some 20)) ?_
      refine @o_n _ _ _ _ _ _ _ _ _ _ _ 21 (za1 rfl rfl rfl (congrArg Value.bool hb6) rfl) (Eq.refl (some 21)) ?_
      refine o_q rfl rfl (zaa true (congrArg Value.bool hb6) rfl) ?_
      refine o_end ?_
      refine za2 ?_
      refine c_true rfl ?_
      refine c_seq ?_
      refine za0 ?_
      refine o_q rfl rfl (q_asg rfl) ?_
      refine o_end ?_
      refine za2 ?_
      refine c_ret ?_
      refine zaf ?_
      have e0_ := Option.some.inj h; clear h
      subst e0_
      exact x_r1 () Try.results70 (zaj rfl) rfl (fun w h => za5 [] (by decide) rfl w h)
    · replace h := br_f hb6 h
      refine o_w (za4 rfl rfl rfl (congrArg Value.bool hb6)) rfl (q_f F27_2 rfl) ?_
      refine o_w (za4 rfl rfl rfl (congrArg Value.bool hb6)) rfl (q_ldb Y25 rfl (fun w h => h.zac (i := 0) rfl) rfl) ?_
      refine o_w (za4 rfl rfl rfl (congrArg Value.bool hb6)) rfl (q_len Try.underlying25 rfl) ?_
      refine o_w (za4 rfl rfl rfl (congrArg Value.bool hb6)) rfl (q_gtr rfl rfl) ?_
      refine o_q rfl rfl (zaa false (congrArg Value.bool hb6) rfl) ?_
      refine o_end ?_
      refine za2 ?_
      refine zat _ rfl (fun hb7 => ?_) (fun hb7 => ?_)
      · skip
        replace h := br_t hb7 h
        refine c_seq ?_
        refine za0 ?_
        refine o_q rfl rfl (q_asg rfl) ?_
        refine o_end ?_
        refine za2 ?_
        refine c_ret ?_
        refine zaf ?_
        have e0_ := Option.some.inj h; clear h
        subst e0_
        exact x_r1 () Try.results70 (zaj rfl) rfl (fun w h => za5 [] (by decide) rfl w h)
      · skip
        replace h := br_f hb7 h
        refine zaq ?_
        refine za2 ?_
        refine c_seq ?_
        refine c_seq ?_
        refine za0 ?_
        refine o_q rfl rfl (q_f F27_1 rfl) ?_
        refine o_q rfl rfl (q_ldb Y24 rfl (fun w h => h.zac (i := 0) rfl) rfl) ?_
        refine o_q rfl rfl (q_len Try.underlying24 rfl) ?_
        refine o_q rfl rfl (za3 rfl) ?_
        refine o_end ?_
        refine za2 ?_
        refine zam ?_
        refine za8 h (fun o16 hl15 hR14 => ?_) rfl
        clear h
        refine c_fact (p := l0_1.length ≤ 9223372036854775807) (fun w h => (R0_1.now Z h).2.1) (fun hm13 => ?_)
        refine zaw (σ := (List SStep) × Int) (fun k11 ((ys10, i8) : (List SStep) × Int) => Rg l0_1 i8 ys10 ∧ ys10.length = k11 ∧ spec_plGood.l0 a0_0 ys10 i8 = some o16) [2, 3, 4, 26, 27, 28, 29, 30, 31, 32, 33, 34, 35, 36, 37, 38, 39, 40, 41, 42, 43, 44, 45, 46] (fun ((ys10, i8) : (List SStep) × Int) => [(26, .int .i64 i8)]) (fun ((ys10, i8) : (List SStep) × Int) => [box g1 27 #[.int .i64 a0_0, .slice A0_1 l0_1.length c0_1, .slice A0_2 l0_2.length c0_2]]) l0_1.length (l0_1, 0) ⟨Rg.start _, rfl, hl15⟩ ⟨rfl, trivial⟩ (fun w h => h) ?_
        refine fun k11 => cur2 (listC (fun i8 U17 hJ_ => ?_) (fun y9 ys10 i8 U17 hJ_ => ?_))
        · skip
          clear hl15
          have hr12 := hJ_.1; have hk18 := hJ_.2.1; have h := hJ_.2.2; clear hJ_
          replace h : spec_plGood.l0 a0_0 [] i8 = some o16 := h
          rw [spec_plGood.l0] at h
          refine c_seq ?_
          refine za0 ?_
          refine o_q rfl rfl (q_lss rfl rfl) ?_
          refine o_end ?_
          refine za2 ?_
          refine c_seq ?_
          refine c_false (congrArg Value.bool hr12.ge) ?_
          refine c_exit ?_
          refine za6 ?_
          refine za6 ?_
          have e_ := Option.some.inj h; replace h := hR14; rw [← e_] at h; clear e_
          refine x_hit ?_
          refine za2 ?_
          refine c_seq ?_
          refine c_seq ?_
          refine za0 ?_
          refine o_q rfl rfl (q_ldB G27 Z27 rfl (fun w h => h.zac (i := 0) rfl) rfl) ?_
          refine za8 h (fun l20 hx19 h => ?_) rfl
          refine o_e rfl (za9 0 Z Try.func135 N135 rfl rfl rfl (fun w P1 hF hB hS hT => spec_plExponents.calls k a0_0 A0_1 c0_1 l0_1.length l0_1 A0_2 c0_2 l0_2.length l0_2 hB hF (hS _ R0_1) hc0_1 (hS _ R0_2) hc0_2 _ hx19)) (cur3 (fun A21 c22 H23 => ?_))
          refine o_q rfl rfl (q_len Try.underlying73 rfl) ?_
          refine o_q rfl rfl (za3 rfl) ?_
          refine o_end ?_
          refine za2 ?_
          refine zam ?_
          refine za8 h (fun o32 hl31 hR30 => ?_) rfl
          clear h
          refine c_fact (p := l20.length ≤ 9223372036854775807) (fun w h => (h.zay (i := 0) rfl).2.1) (fun hm29 => ?_)
          refine zaw (σ := (List (List Int)) × Int) (fun k27 ((ys26, i24) : (List (List Int)) × Int) => Rg l20 i24 ys26 ∧ ys26.length = k27 ∧ spec_plGood.l1 ys26 i24 = some o32) [2, 6, 50, 51, 52, 53, 54, 55, 56, 57] (fun ((ys26, i24) : (List (List Int)) × Int) => [(50, .int .i64 i24)]) (fun ((ys26, i24) : (List (List Int)) × Int) => [row (gk 3 (Kd.int .i64)) 25 (.slice A21 l20.length c22) (zp H23 l20), box g1 27 #[.int .i64 a0_0, .slice A0_1 l0_1.length c0_1, .slice A0_2 l0_2.length c0_2]]) l20.length (l20, 0) ⟨Rg.start _, rfl, hl31⟩ ⟨rfl, trivial⟩ (fun w h => h) ?_
          refine fun k27 => cur2 (listC (fun i24 U33 hJ_ => ?_) (fun y25 ys26 i24 U33 hJ_ => ?_))
          · skip
            clear hl31
            have hr28 := hJ_.1; have hk34 := hJ_.2.1; have h := hJ_.2.2; clear hJ_
            replace h : spec_plGood.l1 [] i24 = some o32 := h
            rw [spec_plGood.l1] at h
            refine c_seq ?_
            refine za0 ?_
            refine o_q rfl rfl (q_lss rfl rfl) ?_
            refine o_end ?_
            refine za2 ?_
            refine c_seq ?_
            refine c_false (congrArg Value.bool hr28.ge) ?_
            refine c_exit ?_
            refine za6 ?_
            refine za6 ?_
            have e_ := Option.some.inj h; replace h := hR30; rw [← e_] at h; clear e_
            refine x_hit ?_
            refine za2 ?_
            refine c_seq ?_
            refine za0 ?_
            refine o_q rfl rfl (q_f F27_2 rfl) ?_
            refine o_q rfl rfl (q_ldb Y25 rfl (fun w h => h.zac (i := 1) rfl) rfl) ?_
            refine o_q rfl rfl (q_f F27_0 rfl) ?_
            refine o_q rfl rfl (q_ldb Y3 rfl (fun w h => h.zac (i := 1) rfl) rfl) ?_
            refine o_q rfl rfl (q_f F27_1 rfl) ?_
            refine o_q rfl rfl (q_ldb Y24 rfl (fun w h => h.zac (i := 1) rfl) rfl) ?_
            refine o_q rfl rfl (q_len Try.underlying24 rfl) ?_
            refine o_q rfl rfl (q_add64 rfl rfl) ?_
            refine o_q rfl rfl (q_sub64 rfl rfl) ?_
            refine za8 h (fun b36 hx35 h => ?_) rfl
            refine o_e rfl (za9 0 Z Try.func99 N99 rfl rfl rfl (fun w P1 hF hB hS hT => spec_l1All.calls A0_2 c0_2 l0_2.length l0_2 0 (w64 (w64 (a0_0 + (l0_1.length : Int)) - 1)) hB hF (hS _ R0_2) hc0_2 _ hx35)) (fun _ => ?_)
            refine o_q rfl rfl (q_asg rfl) ?_
            refine o_end ?_
            refine za2 ?_
            refine c_ret ?_
            have e0_ := Option.some.inj h; clear h
            subst e0_
            exact x_r1 () Try.results70 (zaj rfl) rfl (fun w h => za5 [] (by decide) rfl w h)
          · skip
            clear hl31
            have hr28 := hJ_.1; have hk34 := hJ_.2.1; have h := hJ_.2.2; clear hJ_
            replace h : spec_plGood.l1 (y25 :: ys26) i24 = some o32 := h
            rw [spec_plGood.l1] at h
            refine c_seq ?_
            refine za0 ?_
            refine o_q rfl rfl (q_lss rfl rfl) ?_
            refine o_end ?_
            refine za2 ?_
            refine c_seq ?_
            refine c_true (congrArg Value.bool hr28.lt) ?_
            refine zaq ?_
            refine za2 ?_
            refine c_seq ?_
            refine zam ?_
            refine c_seq ?_
            refine za0 ?_
            refine o_fact (p := Sh A21 l20.length (zp H23 l20).length) (fun w h => f_sh (dk := (gk 3 (Kd.int .i64))) h (fun w h => h.zay (i := 0) rfl)) (fun hq37 => ?_)
            refine o_q rfl rfl (q_ix Try.underlying73 Z25 rfl rfl hq37 (gt_zp hr28.get)) ?_
            refine o_fact (p := y25.length ≤ hC H23 i24) (fun w h => (K_in (h.zay (i := 0) rfl) hr28.get).1) (fun hc38 => ?_)
            refine o_q rfl rfl (q_lde (off := 0) Y25 rfl rfl (fun w h => h.zay (i := 0) rfl) (gt_zp hr28.get) (fun _ _ h => h.1) rfl) ?_
            refine o_q rfl rfl (q_asg rfl) ?_
            refine o_end ?_
            refine za2 ?_
            refine c_seq ?_
            refine za0 ?_
            refine o_q rfl rfl (za3 rfl) ?_
            refine za8 h (fun b40 hx39 h => ?_) rfl
            refine o_e rfl (za9 0 Z Try.func99 N99 rfl rfl rfl (fun w P1 hF hB hS hT => spec_l1All.calls (hA H23 i24) (hC H23 i24) y25.length y25 0 1000000 hB hF (stab_in (hT 0 _ rfl).row hr28.get) hc38 _ hx39)) (fun _ => ?_)
            refine o_q rfl rfl (q_not rfl) ?_
            refine o_end ?_
            refine za2 ?_
            refine zat _ rfl (fun hb41 => ?_) (fun hb41 => ?_)
            · replace hb41 := nt_t hb41
              replace h := bb_f hb41 h
              refine c_seq ?_
              refine za0 ?_
              refine o_q rfl rfl (q_asg rfl) ?_
              refine o_end ?_
              refine za2 ?_
              refine c_ret ?_
              refine zas ?_
              refine zaf ?_
              refine zaf ?_
              have e_ := Option.some.inj h; replace h := hR30; rw [← e_] at h; clear e_
              refine zas ?_
              refine zaf ?_
              have e0_ := Option.some.inj h; clear h
              subst e0_
              exact x_r1 () Try.results70 (zaj rfl) rfl (fun w h => za5 [] (by decide) rfl w h)
            · replace hb41 := nt_f hb41
              replace h := bb_t hb41 h
              refine zaq ?_
              refine zal ?_
              refine za2 ?_
              refine za0 ?_
              refine o_q rfl rfl (q_up rfl rfl (hr28.up hm29)) ?_
              refine o_q rfl rfl (za3 rfl) ?_
              refine o_end ?_
              refine zak ys26.length (ys26, i24 + 1) (by rw [← hk34]; exact Nat.lt_succ_self _) ⟨hr28.step, rfl, h⟩ ⟨rfl, trivial⟩ (fun w h => za5 [0, 1] (by decide) rfl w h) ?_
              repeat (first | exact zad _ _ | refine zah rfl ?_ | refine zae rfl ?_ | refine zai rfl ?_)
        · skip
          clear hl15
          have hr12 := hJ_.1; have hk18 := hJ_.2.1; have h := hJ_.2.2; clear hJ_
          replace h : spec_plGood.l0 a0_0 (y9 :: ys10) i8 = some o16 := h
          rw [spec_plGood.l0] at h
          refine c_seq ?_
          refine za0 ?_
          refine o_q rfl rfl (q_lss rfl rfl) ?_
          refine o_end ?_
          refine za2 ?_
          refine c_seq ?_
          refine c_true (congrArg Value.bool hr12.lt) ?_
          refine zaq ?_
          refine za2 ?_
          refine c_seq ?_
          refine zam ?_
          refine c_seq ?_
          refine za0 ?_
          refine o_q rfl rfl (za3 rfl) ?_
          refine o_fact (p := Sh A0_1 l0_1.length l0_1.length) (fun w h => f_sh (dk := kStep) h (fun w h => R0_1.now Z h)) (fun hq42 => ?_)
          refine o_q rfl rfl (q_ix Try.underlying24 Z88 rfl rfl hq42 hr12.get) ?_
          refine o_q rfl rfl (q_ldE G88 Z88 rfl rfl (fun w h => R0_1.now Z h) hr12.get (fun _ _ h => h) rfl) ?_
          refine o_e rfl (e_alloc V88 rfl) (fun g43 => ?_)
          refine o_q rfl rfl (q_asg rfl) ?_
          refine o_e rfl (zaz (i := 0) rfl rfl rfl Z88 rfl rfl) (fun _ => ?_)
          refine o_end ?_
          refine za2 ?_
          refine c_seq ?_
          refine za0 ?_
          refine o_q rfl rfl (q_f F88_0 rfl) ?_
          refine o_q rfl rfl (q_ldb Y3 rfl (fun w h => h.zac (i := 0) rfl) rfl) ?_
          refine o_q rfl rfl (q_f F88_1 rfl) ?_
          refine o_q rfl rfl (q_ldb Y3 rfl (fun w h => h.zac (i := 0) rfl) rfl) ?_
          refine za8 h (fun b46 hx45 h => ?_) rfl
          refine o_e rfl (za9 0 Z Try.func61 N61 rfl rfl rfl (fun w P1 hF hB hS hT => spec_l1In.calls y9.f0 0 y9.f1 hB hF _ hx45)) (fun _ => ?_)
          refine o_q rfl rfl (q_not rfl) ?_
          refine o_q rfl rfl (za3 rfl) ?_
          refine byB b46 (fun hb47 => ?_) (fun hb47 => ?_)
          · replace h := bb_t hb47 h
            refine o_w (za4 rfl rfl rfl (congrArg (fun b => Value.bool (!(b))) hb47)) rfl (q_f F88_1 rfl) ?_
            refine o_w (za4 rfl rfl rfl (congrArg (fun b => Value.bool (!(b))) hb47)) rfl (q_ldb Y3 rfl (fun w h => h.zac (i := 0) rfl) rfl) ?_
            refine o_w (za4 rfl rfl rfl (congrArg (fun b => Value.bool (!(b))) hb47)) rfl (q_f F27_0 rfl) ?_
            refine o_w (za4 rfl rfl rfl (congrArg (fun b => Value.bool (!(b))) hb47)) rfl (q_ldb Y3 rfl (fun w h => h.zac (i := 1) rfl) rfl) ?_
            refine o_w (za4 rfl rfl rfl (congrArg (fun b => Value.bool (!(b))) hb47)) rfl (za3 rfl) ?_
            refine o_w (za4 rfl rfl rfl (congrArg (fun b => Value.bool (!(b))) hb47)) rfl (q_add64 rfl rfl) ?_
            refine o_w (za4 rfl rfl rfl (congrArg (fun b => Value.bool (!(b))) hb47)) rfl (q_geq rfl rfl) ?_
            refine o_q rfl rfl (zaa false (congrArg (fun b => Value.bool (!(b))) hb47) rfl) ?_
            refine o_end ?_
            refine za2 ?_
            refine zat _ rfl (fun hb48 => ?_) (fun hb48 => ?_)
            · skip
              replace h := br_t hb48 h
              refine c_seq ?_
              refine za0 ?_
              refine o_q rfl rfl (q_asg rfl) ?_
              refine o_end ?_
              refine za2 ?_
              refine c_ret ?_
              refine zas ?_
              refine zaf ?_
              refine zaf ?_
              have e_ := Option.some.inj h; replace h := hR14; rw [← e_] at h; clear e_
              refine zas ?_
              refine zaf ?_
              have e0_ := Option.some.inj h; clear h
              subst e0_
              exact x_r1 () Try.results70 (zaj rfl) rfl (fun w h => za5 [] (by decide) rfl w h)
            · skip
              replace h := br_f hb48 h
              refine zaq ?_
              refine zal ?_
              refine za2 ?_
              refine za0 ?_
              refine o_q rfl rfl (q_up rfl rfl (hr12.up hm13)) ?_
              refine o_q rfl rfl (za3 rfl) ?_
              refine o_end ?_
              refine zak ys10.length (ys10, i8 + 1) (by rw [← hk18]; exact Nat.lt_succ_self _) ⟨hr12.step, rfl, h⟩ ⟨rfl, trivial⟩ (fun w h => za5 [1] (by decide) rfl w h) ?_
              repeat (first | exact zad _ _ | refine zah rfl ?_ | refine zae rfl ?_ | refine zai rfl ?_)
          · replace h := bb_f hb47 h
            refine @o_n _ _ _ _ _ _ _ _ _ _ _ 38 (za1 rfl rfl rfl (congrArg (fun b => Value.bool (!(b))) hb47) rfl) (Eq.refl (some 38)) ?_
            refine @o_n _ _ _ _ _ _ _ _ _ _ _ 39 (za1 rfl rfl rfl (congrArg (fun b => Value.bool (!(b))) hb47) rfl) (Eq.refl (some 39)) ?_
            refine @o_n _ _ _ _ _ _ _ _ _ _ _ 40 (za1 rfl rfl rfl (congrArg (fun b => Value.bool (!(b))) hb47) rfl) (Eq.refl (some 40)) ?_
            refine @o_n _ _ _ _ _ _ _ _ _ _ _ 41 (za1 rfl rfl rfl (congrArg (fun b => Value.bool (!(b))) hb47) rfl) (Eq.refl (some 41)) ?_
            refine @o_n _ _ _ _ _ _ _ _ _ _ _ 42 (za1 rfl rfl rfl (congrArg (fun b => Value.bool (!(b))) hb47) rfl) (Eq.refl (some 42)) ?_
            refine @o_n _ _ _ _ _ _ _ _ _ _ _ 43 (za1 rfl rfl rfl (congrArg (fun b => Value.bool (!(b))) hb47) rfl) (Eq.refl (some 43)) ?_
            refine @o_n _ _ _ _ _ _ _ _ _ _ _ 44 (za1 rfl rfl rfl (congrArg (fun b => Value.bool (!(b))) hb47) rfl) (Eq.refl (some 44)) ?_
            refine o_q rfl rfl (zaa true (congrArg (fun b => Value.bool (!(b))) hb47) rfl) ?_
            refine o_end ?_
            refine za2 ?_
            refine c_true rfl ?_
            refine c_seq ?_
            refine za0 ?_
            refine o_q rfl rfl (q_asg rfl) ?_
            refine o_end ?_
            refine za2 ?_
            refine c_ret ?_
            refine zas ?_
            refine zaf ?_
            refine zaf ?_
            have e_ := Option.some.inj h; replace h := hR14; rw [← e_] at h; clear e_
            refine zas ?_
            refine zaf ?_
            have e0_ := Option.some.inj h; clear h
            subst e0_
            exact x_r1 () Try.results70 (zaj rfl) rfl (fun w h => za5 [] (by decide) rfl w h)
  · replace h := bb_f hb5 h
    refine @o_n _ _ _ _ _ _ _ _ _ _ _ 12 (za1 rfl rfl rfl (congrArg (fun b => Value.bool (!(b))) hb5) rfl) (Eq.refl (some 12)) ?_
    refine @o_n _ _ _ _ _ _ _ _ _ _ _ 13 (za1 rfl rfl rfl (congrArg (fun b => Value.bool (!(b))) hb5) rfl) (Eq.refl (some 13)) ?_
    refine @o_n _ _ _ _ _ _ _ _ _ _ _ 14 (za1 rfl rfl rfl (congrArg (fun b => Value.bool (!(b))) hb5) rfl) (Eq.refl (some 14)) ?_
    refine @o_n _ _ _ _ _ _ _ _ _ _ _ 15 (za1 rfl rfl rfl (congrArg (fun b => Value.bool (!(b))) hb5) rfl) (Eq.refl (some 15)) ?_
    refine o_q rfl rfl (zaa true (congrArg (fun b => Value.bool (!(b))) hb5) rfl) ?_
    refine o_q rfl rfl (za3 rfl) ?_
    refine @o_n _ _ _ _ _ _ _ _ _ _ _ 18 (za1 rfl rfl rfl rfl rfl) (Eq.refl (some 18)) ?_
    refine @o_n _ _ _ _ _ _ _ _ _ _ _ 19 (za1 rfl rfl rfl rfl rfl) (Eq.refl (some 19)) ?_
    refine @o_n _ _ _ _ _ _ _ _ _ _ _ 20 (za1 rfl rfl rfl rfl rfl) (Eq.refl (some 20)) ?_
    refine @o_n _ _ _ _ _ _ _ _ _ _ _ 21 (za1 rfl rfl rfl rfl rfl) (Eq.refl (some 21)) ?_
    refine o_q rfl rfl (zaa true rfl rfl) ?_
    refine o_end ?_
    refine za2 ?_
    refine c_true rfl ?_
    refine c_seq ?_
    refine za0 ?_
    refine o_q rfl rfl (q_asg rfl) ?_
    refine o_end ?_
    refine za2 ?_
    refine c_ret ?_
    refine zaf ?_
    have e0_ := Option.some.inj h; clear h
    subst e0_
    exact x_r1 () Try.results70 (zaj rfl) rfl (fun w h => za5 [] (by decide) rfl w h)

/-! ### loop.example/g01098/spec.reFew: function 60 -/
def spec_reFew.f (k : Nat) (a0_0 : Int) (l0_1 : List SStep) (l0_2 : List Int) : Option Bool := (spec_plGood.f k a0_0 l0_1 l0_2).bind fun b4 => if b4 = true then (some (decide ((l0_1.length : Int) ≤ 8))) else (some false)
set_option maxHeartbeats 600000 in
set_option maxRecDepth 100000 in
theorem spec_reFew.calls (k : Nat) {w0 ws : World} {P0 : Nat → Prop} (a0_0 : Int) (A0_1 : Option Addr) (c0_1 : Nat) (n0_1 : Nat) (l0_1 : List SStep) (A0_2 : Option Addr) (c0_2 : Nat) (n0_2 : Nat) (l0_2 : List Int) (Z : Below w0.heap.size w0 ws) (hF : Fr w0 ws P0 [] ws) (R0_1 : Stable ws P0 (fun w => Kd.C kStep w A0_1 n0_1 l0_1)) (hc0_1 : n0_1 ≤ c0_1) (R0_2 : Stable ws P0 (fun w => Kd.C (Kd.int .i64) w A0_2 n0_2 l0_2)) (hc0_2 : n0_2 ≤ c0_2) (r_1 : Bool) (h : spec_reFew.f k a0_0 l0_1 l0_2 = some r_1) :
    Calls Try.prog 60 #[.agg #[.int .i64 a0_0, .slice A0_1 n0_1 c0_1, .slice A0_2 n0_2 c0_2]] ws (Post1 w0 ws P0 (fun (_ : Unit) => .bool r_1) (fun (_ : Unit) => [])) := by
  unfold spec_reFew.f at h
  obtain rfl := (R0_1 ws (KeptB.refl _ _)).1
  obtain rfl := (R0_2 ws (KeptB.refl _ _)).1
  refine enter Try.func60 rfl Try.ntmps60 rfl hF ?_
  refine c_seq ?_
  refine za0 ?_
  refine o_e rfl (e_box rfl) (fun g1 => ?_)
  refine o_q rfl rfl (q_asg rfl) ?_
  refine o_end ?_
  refine za2 ?_
  refine c_seq ?_
  refine za0 ?_
  refine o_q rfl rfl (q_ldB G27 Z27 rfl (fun w h => h.zac (i := 0) rfl) rfl) ?_
  refine za8 h (fun b4 hx3 h => ?_) rfl
  refine o_e rfl (za9 0 Z Try.func70 N70 rfl rfl rfl (fun w P1 hF hB hS hT => spec_plGood.calls k a0_0 A0_1 c0_1 l0_1.length l0_1 A0_2 c0_2 l0_2.length l0_2 hB hF (hS _ R0_1) hc0_1 (hS _ R0_2) hc0_2 _ hx3)) (fun _ => ?_)
  refine o_q rfl rfl (za3 rfl) ?_
  refine byB b4 (fun hb5 => ?_) (fun hb5 => ?_)
  · replace h := bb_t hb5 h
    refine o_w (za4 rfl rfl rfl (congrArg Value.bool hb5)) rfl (q_f F27_1 rfl) ?_
    refine o_w (za4 rfl rfl rfl (congrArg Value.bool hb5)) rfl (q_ldb Y24 rfl (fun w h => h.zac (i := 0) rfl) rfl) ?_
    refine o_w (za4 rfl rfl rfl (congrArg Value.bool hb5)) rfl (q_len Try.underlying24 rfl) ?_
    refine o_w (za4 rfl rfl rfl (congrArg Value.bool hb5)) rfl (q_leq rfl rfl) ?_
    refine o_q rfl rfl (zaa true (congrArg Value.bool hb5) rfl) ?_
    refine o_q rfl rfl (q_asg rfl) ?_
    refine o_end ?_
    refine za2 ?_
    refine c_ret ?_
    have e0_ := Option.some.inj h; clear h
    subst e0_
    exact x_r1 () Try.results60 (zaj rfl) rfl (fun w h => za5 [] (by decide) rfl w h)
  · replace h := bb_f hb5 h
    refine @o_n _ _ _ _ _ _ _ _ _ _ _ 6 (za1 rfl rfl rfl (congrArg Value.bool hb5) rfl) (Eq.refl (some 6)) ?_
    refine @o_n _ _ _ _ _ _ _ _ _ _ _ 7 (za1 rfl rfl rfl (congrArg Value.bool hb5) rfl) (Eq.refl (some 7)) ?_
    refine @o_n _ _ _ _ _ _ _ _ _ _ _ 8 (za1 rfl rfl rfl (congrArg Value.bool hb5) rfl) (Eq.refl (some 8)) ?_
    refine @o_n _ _ _ _ _ _ _ _ _ _ _ 9 (za1 rfl rfl rfl (congrArg Value.bool hb5) rfl) (Eq.refl (some 9)) ?_
    refine o_q rfl rfl (zaa false (congrArg Value.bool hb5) rfl) ?_
    refine o_q rfl rfl (q_asg rfl) ?_
    refine o_end ?_
    refine za2 ?_
    refine c_ret ?_
    have e0_ := Option.some.inj h; clear h
    subst e0_
    exact x_r1 () Try.results60 (zaj rfl) rfl (fun w h => za5 [] (by decide) rfl w h)

/-! ### loop.example/g01098/spec.l1Own: function 125 -/
def spec_l1Own.f (l0 : List Int) : Option (List Int) := (ap ([] : List Int) l0).bind fun l4 => some l4
set_option maxHeartbeats 600000 in
set_option maxRecDepth 100000 in
theorem spec_l1Own.calls {w0 ws : World} {P0 : Nat → Prop} (A0 : Option Addr) (c0 : Nat) (n0 : Nat) (l0 : List Int) (Z : Below w0.heap.size w0 ws) (hF : Fr w0 ws P0 [] ws) (R0 : Stable ws P0 (fun w => Kd.C (Kd.int .i64) w A0 n0 l0)) (hc0 : n0 ≤ c0) (r_1 : List Int) (h : spec_l1Own.f l0 = some r_1) :
    Calls Try.prog 125 #[.slice A0 n0 c0] ws (Post1 w0 ws P0 (fun ((q_2, q_3) : (Option Addr) × Nat) => .slice q_2 r_1.length q_3) (fun ((q_2, q_3) : (Option Addr) × Nat) => [row (Kd.int .i64) 3 (.slice q_2 r_1.length q_3) r_1])) := by
  unfold spec_l1Own.f at h
  obtain rfl := (R0 ws (KeptB.refl _ _)).1
  refine enter Try.func125 rfl Try.ntmps125 rfl hF ?_
  refine c_seq ?_
  refine za0 ?_
  refine o_q rfl rfl (q_asg rfl) ?_
  refine o_end ?_
  refine za2 ?_
  refine c_seq ?_
  refine za0 ?_
  refine o_e rfl (e_lit0 (Kd.int .i64) Try.underlying25 I3) (cur2 (fun A1 c2 => ?_))
  refine o_q rfl rfl (za3 rfl) ?_
  refine za8 h (fun l4 ha5 h => ?_) rfl
  refine o_e rfl (e_appr (i := 0) Try.underlying25 I3 rfl (by decide) (by decide) (fun _ _ _ _ h => h) rfl (fun w h => R0.now Z h) rfl rfl ha5) (cur2 (fun A6 c7 => ?_))
  refine o_q rfl rfl (q_asg rfl) ?_
  refine o_end ?_
  refine za2 ?_
  refine c_ret ?_
  have e0_ := Option.some.inj h; clear h
  subst e0_
  exact x_r1 (A6, c7) Try.results125 (zaj rfl) rfl (fun w h => za5 [0] (by decide) rfl w h)

/-! ### loop.example/g01098/spec.l1Has: function 87 -/
def spec_l1Has.l0 (a1 : Int) : (List Int) → Int → Option ((Bool) ⊕ (Unit))
  | [], i1 => some (.inr ())
  | y2 :: ys3, i1 => if y2 = a1 then (some (.inl true)) else (spec_l1Has.l0 a1 ys3 (i1 + 1))
def spec_l1Has.f (l0 : List Int) (a1 : Int) : Option Bool := (spec_l1Has.l0 a1 l0 0).bind fun o_ => match o_ with | .inl r_ => some r_ | .inr _ => some false
set_option maxHeartbeats 600000 in
set_option maxRecDepth 100000 in
theorem spec_l1Has.calls {w0 ws : World} {P0 : Nat → Prop} (A0 : Option Addr) (c0 : Nat) (n0 : Nat) (l0 : List Int) (a1 : Int) (Z : Below w0.heap.size w0 ws) (hF : Fr w0 ws P0 [] ws) (R0 : Stable ws P0 (fun w => Kd.C (Kd.int .i64) w A0 n0 l0)) (hc0 : n0 ≤ c0) (r_1 : Bool) (h : spec_l1Has.f l0 a1 = some r_1) :
    Calls Try.prog 87 #[.slice A0 n0 c0, .int .i64 a1] ws (Post1 w0 ws P0 (fun (_ : Unit) => .bool r_1) (fun (_ : Unit) => [])) := by
  unfold spec_l1Has.f at h
  obtain rfl := (R0 ws (KeptB.refl _ _)).1
  refine enter Try.func87 rfl Try.ntmps87 rfl hF ?_
  refine c_seq ?_
  refine za0 ?_
  refine o_q rfl rfl (q_asg rfl) ?_
  refine o_end ?_
  refine za2 ?_
  refine c_seq ?_
  refine c_seq ?_
  refine za0 ?_
  refine o_q rfl rfl (za3 rfl) ?_
  refine o_q rfl rfl (q_len Try.underlying25 rfl) ?_
  refine o_q rfl rfl (za3 rfl) ?_
  refine o_end ?_
  refine za2 ?_
  refine zam ?_
  refine za8 h (fun o9 hl8 hR7 => ?_) rfl
  clear h
  refine c_fact (p := l0.length ≤ 9223372036854775807) (fun w h => (R0.now Z h).2.1) (fun hm6 => ?_)
  refine zaw (σ := (List Int) × Int) (fun k4 ((ys3, i1) : (List Int) × Int) => Rg l0 i1 ys3 ∧ ys3.length = k4 ∧ spec_l1Has.l0 a1 ys3 i1 = some o9) [4, 6, 9, 10, 11, 12, 13, 14, 15, 16] (fun ((ys3, i1) : (List Int) × Int) => [(9, .int .i64 i1)]) (fun ((ys3, i1) : (List Int) × Int) => []) l0.length (l0, 0) ⟨Rg.start _, rfl, hl8⟩ ⟨rfl, trivial⟩ (fun w h => h) ?_
  refine fun k4 => cur2 (listC (fun i1 U10 hJ_ => ?_) (fun y2 ys3 i1 U10 hJ_ => ?_))
  · skip
    clear hl8
    have hr5 := hJ_.1; have hk11 := hJ_.2.1; have h := hJ_.2.2; clear hJ_
    replace h : spec_l1Has.l0 a1 [] i1 = some o9 := h
    rw [spec_l1Has.l0] at h
    refine c_seq ?_
    refine za0 ?_
    refine o_q rfl rfl (q_lss rfl rfl) ?_
    refine o_end ?_
    refine za2 ?_
    refine c_seq ?_
    refine c_false (congrArg Value.bool hr5.ge) ?_
    refine c_exit ?_
    refine za6 ?_
    refine za6 ?_
    have e_ := Option.some.inj h; replace h := hR7; rw [← e_] at h; clear e_
    refine x_hit ?_
    refine za2 ?_
    refine c_seq ?_
    refine za0 ?_
    refine o_q rfl rfl (q_asg rfl) ?_
    refine o_end ?_
    refine za2 ?_
    refine c_ret ?_
    have e0_ := Option.some.inj h; clear h
    subst e0_
    exact x_r1 () Try.results87 (zaj rfl) rfl (fun w h => za5 [] (by decide) rfl w h)
  · skip
    clear hl8
    have hr5 := hJ_.1; have hk11 := hJ_.2.1; have h := hJ_.2.2; clear hJ_
    replace h : spec_l1Has.l0 a1 (y2 :: ys3) i1 = some o9 := h
    rw [spec_l1Has.l0] at h
    refine c_seq ?_
    refine za0 ?_
    refine o_q rfl rfl (q_lss rfl rfl) ?_
    refine o_end ?_
    refine za2 ?_
    refine c_seq ?_
    refine c_true (congrArg Value.bool hr5.lt) ?_
    refine zaq ?_
    refine za2 ?_
    refine c_seq ?_
    refine zam ?_
    refine c_seq ?_
    refine za0 ?_
    refine o_fact (p := Sh A0 l0.length l0.length) (fun w h => f_sh (dk := (Kd.int .i64)) h (fun w h => R0.now Z h)) (fun hq12 => ?_)
    refine o_q rfl rfl (q_ix Try.underlying25 Z3 rfl rfl hq12 hr5.get) ?_
    refine o_q rfl rfl (q_lde (off := 0) Y3 rfl rfl (fun w h => R0.now Z h) hr5.get (fun _ _ h => h) rfl) ?_
    refine o_q rfl rfl (q_asg rfl) ?_
    refine o_end ?_
    refine za2 ?_
    refine c_seq ?_
    refine za0 ?_
    refine o_q rfl rfl (za3 rfl) ?_
    refine o_q rfl rfl (za3 rfl) ?_
    refine o_q rfl rfl (q_eql rfl rfl) ?_
    refine o_end ?_
    refine za2 ?_
    refine zat _ rfl (fun hb13 => ?_) (fun hb13 => ?_)
    · skip
      replace h := br_t hb13 h
      refine c_seq ?_
      refine za0 ?_
      refine o_q rfl rfl (q_asg rfl) ?_
      refine o_end ?_
      refine za2 ?_
      refine c_ret ?_
      refine zas ?_
      refine zaf ?_
      refine zaf ?_
      have e_ := Option.some.inj h; replace h := hR7; rw [← e_] at h; clear e_
      refine zas ?_
      refine zaf ?_
      have e0_ := Option.some.inj h; clear h
      subst e0_
      exact x_r1 () Try.results87 (zaj rfl) rfl (fun w h => za5 [] (by decide) rfl w h)
    · skip
      replace h := br_f hb13 h
      refine zaq ?_
      refine zal ?_
      refine za2 ?_
      refine za0 ?_
      refine o_q rfl rfl (q_up rfl rfl (hr5.up hm6)) ?_
      refine o_q rfl rfl (za3 rfl) ?_
      refine o_end ?_
      refine zak ys3.length (ys3, i1 + 1) (by rw [← hk11]; exact Nat.lt_succ_self _) ⟨hr5.step, rfl, h⟩ ⟨rfl, trivial⟩ (fun w h => za5 [] (by decide) rfl w h) ?_
      repeat (first | exact zad _ _ | refine zah rfl ?_ | refine zae rfl ?_ | refine zai rfl ?_)

/-! ### loop.example/g01098/spec.reOrders: function 62 -/
def spec_reOrders.l0 (self_ : Int → (List SStep) → (List Int) → (List Int) → Option ((List (List Int)))) (a0_0 : Int) (l0_1 : List SStep) (l0_2 : List Int) (l1 : List Int) : (List SStep) → (List (List Int)) → Int → Option (List (List Int))
  | [], l13, i17 => some l13
  | y18 :: ys19, l13, i17 => (spec_l1Has.f l1 i17).bind fun b32 => if b32 = true then (spec_reOrders.l0 self_ a0_0 l0_1 l0_2 l1 ys19 l13 (i17 + 1)) else (if a0_0 ≤ y18.f0 then ((spec_l1Has.f l1 (w64 (y18.f0 - a0_0))).bind fun b36 => if b36 = true then (if a0_0 ≤ y18.f1 then ((spec_l1Has.f l1 (w64 (y18.f1 - a0_0))).bind fun b40 => if b40 = true then ((spec_l1Own.f l1).bind fun l224 => (ap l224 ([i17] : List Int)).bind fun l403 => (self_ a0_0 l0_1 l0_2 l403).bind fun l464 => (ap l13 l464).bind fun l523 => spec_reOrders.l0 self_ a0_0 l0_1 l0_2 l1 ys19 l523 (i17 + 1)) else (spec_reOrders.l0 self_ a0_0 l0_1 l0_2 l1 ys19 l13 (i17 + 1))) else ((spec_l1Own.f l1).bind fun l885 => (ap l885 ([i17] : List Int)).bind fun l1064 => (self_ a0_0 l0_1 l0_2 l1064).bind fun l1125 => (ap l13 l1125).bind fun l1184 => spec_reOrders.l0 self_ a0_0 l0_1 l0_2 l1 ys19 l1184 (i17 + 1))) else (spec_reOrders.l0 self_ a0_0 l0_1 l0_2 l1 ys19 l13 (i17 + 1))) else (if a0_0 ≤ y18.f1 then ((spec_l1Has.f l1 (w64 (y18.f1 - a0_0))).bind fun b1366 => if b1366 = true then ((spec_l1Own.f l1).bind fun l1550 => (ap l1550 ([i17] : List Int)).bind fun l1729 => (self_ a0_0 l0_1 l0_2 l1729).bind fun l1790 => (ap l13 l1790).bind fun l1849 => spec_reOrders.l0 self_ a0_0 l0_1 l0_2 l1 ys19 l1849 (i17 + 1)) else (spec_reOrders.l0 self_ a0_0 l0_1 l0_2 l1 ys19 l13 (i17 + 1))) else ((spec_l1Own.f l1).bind fun l2211 => (ap l2211 ([i17] : List Int)).bind fun l2390 => (self_ a0_0 l0_1 l0_2 l2390).bind fun l2451 => (ap l13 l2451).bind fun l2510 => spec_reOrders.l0 self_ a0_0 l0_1 l0_2 l1 ys19 l2510 (i17 + 1))))
def spec_reOrders.f : Nat → Int → (List SStep) → (List Int) → (List Int) → Option (List (List Int))
  | 0, _, _, _, _ => none
  | k + 1, a0_0, l0_1, l0_2, l1 => if (l1.length : Int) = (l0_1.length : Int) then ((spec_l1Own.f l1).bind fun l5 => some ([l5] : List (List Int))) else ((spec_reOrders.l0 (spec_reOrders.f k) a0_0 l0_1 l0_2 l1 l0_1 ([] : List (List Int)) 0).bind fun l13 => some l13)
set_option maxHeartbeats 600000 in
set_option maxRecDepth 100000 in
theorem spec_reOrders.calls : ∀ (k : Nat) {w0 ws : World} {P0 : Nat → Prop} (a0_0 : Int) (A0_1 : Option Addr) (c0_1 : Nat) (n0_1 : Nat) (l0_1 : List SStep) (A0_2 : Option Addr) (c0_2 : Nat) (n0_2 : Nat) (l0_2 : List Int) (A1 : Option Addr) (c1 : Nat) (n1 : Nat) (l1 : List Int) (Z : Below w0.heap.size w0 ws) (hF : Fr w0 ws P0 [] ws) (R0_1 : Stable ws P0 (fun w => Kd.C kStep w A0_1 n0_1 l0_1)) (hc0_1 : n0_1 ≤ c0_1) (R0_2 : Stable ws P0 (fun w => Kd.C (Kd.int .i64) w A0_2 n0_2 l0_2)) (hc0_2 : n0_2 ≤ c0_2) (R1 : Stable ws P0 (fun w => Kd.C (Kd.int .i64) w A1 n1 l1)) (hc1 : n1 ≤ c1) (r_1 : List (List Int)) (h : spec_reOrders.f k a0_0 l0_1 l0_2 l1 = some r_1),
    Calls Try.prog 62 #[.agg #[.int .i64 a0_0, .slice A0_1 n0_1 c0_1, .slice A0_2 n0_2 c0_2], .slice A1 n1 c1] ws (Post1 w0 ws P0 (fun ((q_2, q_3, q_4) : (Option Addr) × Nat × Hd) => .slice q_2 r_1.length q_3) (fun ((q_2, q_3, q_4) : (Option Addr) × Nat × Hd) => [row (gk 3 (Kd.int .i64)) 25 (.slice q_2 r_1.length q_3) (zp q_4 r_1)])) := by
  intro k
  induction k with
  | zero =>
    intros
    rename_i h
    cases h
  | succ k ih =>
    intro w0 ws P0 a0_0 A0_1 c0_1 n0_1 l0_1 A0_2 c0_2 n0_2 l0_2 A1 c1 n1 l1 Z hF R0_1 hc0_1 R0_2 hc0_2 R1 hc1 r_1 h
    rw [spec_reOrders.f] at h
    obtain rfl := (R0_1 ws (KeptB.refl _ _)).1
    obtain rfl := (R0_2 ws (KeptB.refl _ _)).1
    obtain rfl := (R1 ws (KeptB.refl _ _)).1
    refine enter Try.func62 rfl Try.ntmps62 rfl hF ?_
    refine c_seq ?_
    refine za0 ?_
    refine o_e rfl (e_box rfl) (fun g1 => ?_)
    refine o_q rfl rfl (q_asg rfl) ?_
    refine o_end ?_
    refine za2 ?_
    refine c_seq ?_
    refine c_seq ?_
    refine za0 ?_
    refine o_q rfl rfl (za3 rfl) ?_
    refine o_q rfl rfl (q_len Try.underlying25 rfl) ?_
    refine o_q rfl rfl (q_f F27_1 rfl) ?_
    refine o_q rfl rfl (q_ldb Y24 rfl (fun w h => h.zac (i := 0) rfl) rfl) ?_
    refine o_q rfl rfl (q_len Try.underlying24 rfl) ?_
    refine o_q rfl rfl (q_eql rfl rfl) ?_
    refine o_end ?_
    refine za2 ?_
    refine zat _ rfl (fun hb3 => ?_) (fun hb3 => ?_)
    · skip
      replace h := br_t hb3 h
      refine c_seq ?_
      refine za0 ?_
      refine o_q rfl rfl (za3 rfl) ?_
      refine za8 h (fun l5 hx4 h => ?_) rfl
      refine o_e rfl (za9 0 Z Try.func125 N125 rfl rfl rfl (fun w P1 hF hB hS hT => spec_l1Own.calls A1 c1 l1.length l1 hB hF (hS _ R1) hc1 _ hx4)) (cur2 (fun A6 c7 => ?_))
      refine o_e rfl (e_litG (j := 0) (ue := 3) (dk := (Kd.int .i64)) (ys := l5) Try.underlying73 I25 rfl rfl rfl) (cur3 (fun A8 c9 H11 => ?_))
      refine o_q rfl rfl (q_asg rfl) ?_
      refine o_end ?_
      refine za2 ?_
      refine c_ret ?_
      refine zaf ?_
      have e0_ := Option.some.inj h; clear h
      subst e0_
      exact x_r1 (A8, c9, H11) Try.results62 (zaj rfl) rfl (fun w h => za5 [0] (by decide) rfl w h)
    · skip
      replace h := br_f hb3 h
      refine zaq ?_
      refine za2 ?_
      refine c_seq ?_
      refine za0 ?_
      refine o_q rfl rfl (q_asg rfl) ?_
      refine o_end ?_
      refine za2 ?_
      refine c_seq ?_
      refine c_seq ?_
      refine za0 ?_
      refine o_q rfl rfl (q_f F27_1 rfl) ?_
      refine o_q rfl rfl (q_ldb Y24 rfl (fun w h => h.zac (i := 0) rfl) rfl) ?_
      refine o_q rfl rfl (q_len Try.underlying24 rfl) ?_
      refine o_q rfl rfl (za3 rfl) ?_
      refine o_end ?_
      refine za2 ?_
      refine zam ?_
      refine c_nil (gk 3 (Kd.int .i64)) 25 ?_
      refine za8 h (fun o25 hl24 hR23 => ?_) rfl
      clear h
      refine c_fact (p := l0_1.length ≤ 9223372036854775807) (fun w h => (R0_1.now Z h).2.1) (fun hm22 => ?_)
      refine zaw (σ := (List SStep) × (List (List Int)) × Int × (Option Addr) × Nat × Hd) (fun k20 ((ys19, l13, i17, A14, c15, H16) : (List SStep) × (List (List Int)) × Int × (Option Addr) × Nat × Hd) => Rg l0_1 i17 ys19 ∧ ys19.length = k20 ∧ spec_reOrders.l0 (spec_reOrders.f k) a0_0 l0_1 l0_2 l1 ys19 l13 i17 = some o25) [5, 6, 7, 20, 21, 22, 23, 24, 25, 26, 27, 28, 29, 30, 31, 32, 33, 34, 35, 36, 37, 38, 39, 40, 41, 42, 43, 44, 45, 46, 47, 48, 49, 50, 51, 52, 53, 54, 55, 56, 57, 58, 59, 60, 61, 62, 63, 64, 65, 66, 67, 68, 69, 70, 71] (fun ((ys19, l13, i17, A14, c15, H16) : (List SStep) × (List (List Int)) × Int × (Option Addr) × Nat × Hd) => [(5, .slice A14 l13.length c15), (20, .int .i64 i17)]) (fun ((ys19, l13, i17, A14, c15, H16) : (List SStep) × (List (List Int)) × Int × (Option Addr) × Nat × Hd) => [row (gk 3 (Kd.int .i64)) 25 (.slice A14 l13.length c15) (zp H16 l13), box g1 27 #[.int .i64 a0_0, .slice A0_1 l0_1.length c0_1, .slice A0_2 l0_2.length c0_2]]) l0_1.length (l0_1, ([] : List (List Int)), 0, none, 0, ([] : Hd)) ⟨Rg.start _, rfl, hl24⟩ ⟨rfl, rfl, trivial⟩ (fun w h => h) ?_
      refine fun k20 => cur6 (listC (fun l13 i17 A14 c15 H16 U26 hJ_ => ?_) (fun y18 ys19 l13 i17 A14 c15 H16 U26 hJ_ => ?_))
      · skip
        clear hl24
        have hr21 := hJ_.1; have hk27 := hJ_.2.1; have h := hJ_.2.2; clear hJ_
        replace h : spec_reOrders.l0 (spec_reOrders.f k) a0_0 l0_1 l0_2 l1 [] l13 i17 = some o25 := h
        rw [spec_reOrders.l0] at h
        refine c_seq ?_
        refine za0 ?_
        refine o_q rfl rfl (q_lss rfl rfl) ?_
        refine o_end ?_
        refine za2 ?_
        refine c_seq ?_
        refine c_false (congrArg Value.bool hr21.ge) ?_
        refine c_exit ?_
        refine za6 ?_
        refine za6 ?_
        have e_ := Option.some.inj h; replace h := hR23; rw [← e_] at h; clear e_
        refine x_hit ?_
        refine za2 ?_
        refine c_seq ?_
        refine za0 ?_
        refine o_q rfl rfl (za3 rfl) ?_
        refine o_q rfl rfl (q_asg rfl) ?_
        refine o_end ?_
        refine za2 ?_
        refine c_ret ?_
        have e0_ := Option.some.inj h; clear h
        subst e0_
        exact x_r1 (A14, c15, H16) Try.results62 (zaj rfl) rfl (fun w h => za5 [0] (by decide) rfl w h)
      · skip
        clear hl24
        have hr21 := hJ_.1; have hk27 := hJ_.2.1; have h := hJ_.2.2; clear hJ_
        replace h : spec_reOrders.l0 (spec_reOrders.f k) a0_0 l0_1 l0_2 l1 (y18 :: ys19) l13 i17 = some o25 := h
        rw [spec_reOrders.l0] at h
        refine c_seq ?_
        refine za0 ?_
        refine o_q rfl rfl (q_lss rfl rfl) ?_
        refine o_end ?_
        refine za2 ?_
        refine c_seq ?_
        refine c_true (congrArg Value.bool hr21.lt) ?_
        refine zaq ?_
        refine za2 ?_
        refine c_seq ?_
        refine zam ?_
        refine c_seq ?_
        refine za0 ?_
        refine o_q rfl rfl (za3 rfl) ?_
        refine o_fact (p := Sh A0_1 l0_1.length l0_1.length) (fun w h => f_sh (dk := kStep) h (fun w h => R0_1.now Z h)) (fun hq28 => ?_)
        refine o_q rfl rfl (q_ix Try.underlying24 Z88 rfl rfl hq28 hr21.get) ?_
        refine o_q rfl rfl (q_ldE G88 Z88 rfl rfl (fun w h => R0_1.now Z h) hr21.get (fun _ _ h => h) rfl) ?_
        refine o_e rfl (e_alloc V88 rfl) (fun g29 => ?_)
        refine o_q rfl rfl (q_asg rfl) ?_
        refine o_e rfl (zaz (i := 0) rfl rfl rfl Z88 rfl rfl) (fun _ => ?_)
        refine o_end ?_
        refine za2 ?_
        refine c_seq ?_
        refine c_seq ?_
        refine za0 ?_
        refine o_q rfl rfl (za3 rfl) ?_
        refine o_q rfl rfl (za3 rfl) ?_
        refine za8 h (fun b32 hx31 h => ?_) rfl
        refine o_e rfl (za9 0 Z Try.func87 N87 rfl rfl rfl (fun w P1 hF hB hS hT => spec_l1Has.calls A1 c1 l1.length l1 i17 hB hF (hS _ R1) hc1 _ hx31)) (fun _ => ?_)
        refine o_q rfl rfl (za3 rfl) ?_
        refine byB b32 (fun hb33 => ?_) (fun hb33 => ?_)
        · replace h := bb_t hb33 h
          refine @o_n _ _ _ _ _ _ _ _ _ _ _ 29 (za1 rfl rfl rfl (congrArg Value.bool hb33) rfl) (Eq.refl (some 29)) ?_
          refine @o_n _ _ _ _ _ _ _ _ _ _ _ 30 (za1 rfl rfl rfl (congrArg Value.bool hb33) rfl) (Eq.refl (some 30)) ?_
          refine @o_n _ _ _ _ _ _ _ _ _ _ _ 31 (za1 rfl rfl rfl (congrArg Value.bool hb33) rfl) (Eq.refl (some 31)) ?_
          refine @o_n _ _ _ _ _ _ _ _ _ _ _ 32 (za1 rfl rfl rfl (congrArg Value.bool hb33) rfl) (Eq.refl (some 32)) ?_
          refine @o_n _ _ _ _ _ _ _ _ _ _ _ 33 (za1 rfl rfl rfl (congrArg Value.bool hb33) rfl) (Eq.refl (some 33)) ?_
          refine @o_n _ _ _ _ _ _ _ _ _ _ _ 34 (za1 rfl rfl rfl (congrArg Value.bool hb33) rfl) (Eq.refl (some 34)) ?_
          refine @o_n _ _ _ _ _ _ _ _ _ _ _ 35 (zan rfl rfl rfl rfl) (Eq.refl (some 35)) ?_
          refine @o_n _ _ _ _ _ _ _ _ _ _ _ 36 (zan rfl rfl rfl rfl) (Eq.refl (some 36)) ?_
          refine @o_n _ _ _ _ _ _ _ _ _ _ _ 37 (zan rfl rfl rfl rfl) (Eq.refl (some 37)) ?_
          refine @o_n _ _ _ _ _ _ _ _ _ _ _ 38 (zan rfl rfl rfl rfl) (Eq.refl (some 38)) ?_
          refine @o_n _ _ _ _ _ _ _ _ _ _ _ 39 (zan rfl rfl rfl rfl) (Eq.refl (some 39)) ?_
          refine @o_n _ _ _ _ _ _ _ _ _ _ _ 40 (zan rfl rfl rfl rfl) (Eq.refl (some 40)) ?_
          refine @o_n _ _ _ _ _ _ _ _ _ _ _ 41 (zan rfl rfl rfl rfl) (Eq.refl (some 41)) ?_
          refine @o_n _ _ _ _ _ _ _ _ _ _ _ 42 (zan rfl rfl rfl rfl) (Eq.refl (some 42)) ?_
          refine @o_n _ _ _ _ _ _ _ _ _ _ _ 43 (za1 rfl rfl rfl (congrArg Value.bool hb33) rfl) (Eq.refl (some 43)) ?_
          refine o_q rfl rfl (zaa true (congrArg Value.bool hb33) rfl) ?_
          refine o_q rfl rfl (za3 rfl) ?_
          refine @o_n _ _ _ _ _ _ _ _ _ _ _ 46 (za1 rfl rfl rfl rfl rfl) (Eq.refl (some 46)) ?_
          refine @o_n _ _ _ _ _ _ _ _ _ _ _ 47 (za1 rfl rfl rfl rfl rfl) (Eq.refl (some 47)) ?_
          refine @o_n _ _ _ _ _ _ _ _ _ _ _ 48 (za1 rfl rfl rfl rfl rfl) (Eq.refl (some 48)) ?_
          refine @o_n _ _ _ _ _ _ _ _ _ _ _ 49 (za1 rfl rfl rfl rfl rfl) (Eq.refl (some 49)) ?_
          refine @o_n _ _ _ _ _ _ _ _ _ _ _ 50 (za1 rfl rfl rfl rfl rfl) (Eq.refl (some 50)) ?_
          refine @o_n _ _ _ _ _ _ _ _ _ _ _ 51 (za1 rfl rfl rfl rfl rfl) (Eq.refl (some 51)) ?_
          refine @o_n _ _ _ _ _ _ _ _ _ _ _ 52 (zan rfl rfl rfl rfl) (Eq.refl (some 52)) ?_
          refine @o_n _ _ _ _ _ _ _ _ _ _ _ 53 (zan rfl rfl rfl rfl) (Eq.refl (some 53)) ?_
          refine @o_n _ _ _ _ _ _ _ _ _ _ _ 54 (zan rfl rfl rfl rfl) (Eq.refl (some 54)) ?_
          refine @o_n _ _ _ _ _ _ _ _ _ _ _ 55 (zan rfl rfl rfl rfl) (Eq.refl (some 55)) ?_
          refine @o_n _ _ _ _ _ _ _ _ _ _ _ 56 (zan rfl rfl rfl rfl) (Eq.refl (some 56)) ?_
          refine @o_n _ _ _ _ _ _ _ _ _ _ _ 57 (zan rfl rfl rfl rfl) (Eq.refl (some 57)) ?_
          refine @o_n _ _ _ _ _ _ _ _ _ _ _ 58 (zan rfl rfl rfl rfl) (Eq.refl (some 58)) ?_
          refine @o_n _ _ _ _ _ _ _ _ _ _ _ 59 (zan rfl rfl rfl rfl) (Eq.refl (some 59)) ?_
          refine @o_n _ _ _ _ _ _ _ _ _ _ _ 60 (za1 rfl rfl rfl rfl rfl) (Eq.refl (some 60)) ?_
          refine o_q rfl rfl (zaa true rfl rfl) ?_
          refine o_end ?_
          refine za2 ?_
          refine c_true rfl ?_
          refine c_exit ?_
          refine za6 ?_
          refine x_hit ?_
          refine za2 ?_
          refine za0 ?_
          refine o_q rfl rfl (q_up rfl rfl (hr21.up hm22)) ?_
          refine o_q rfl rfl (za3 rfl) ?_
          refine o_end ?_
          refine zak ys19.length (ys19, l13, i17 + 1, A14, c15, H16) (by rw [← hk27]; exact Nat.lt_succ_self _) ⟨hr21.step, rfl, h⟩ ⟨rfl, rfl, trivial⟩ (fun w h => za5 [1, 2] (by decide) rfl w h) ?_
          repeat (first | exact zad _ _ | refine zah rfl ?_ | refine zae rfl ?_ | refine zai rfl ?_)
        · replace h := bb_f hb33 h
          refine o_w (za4 rfl rfl rfl (congrArg Value.bool hb33)) rfl (q_f F88_0 rfl) ?_
          refine o_w (za4 rfl rfl rfl (congrArg Value.bool hb33)) rfl (q_ldb Y3 rfl (fun w h => h.zac (i := 0) rfl) rfl) ?_
          refine o_w (za4 rfl rfl rfl (congrArg Value.bool hb33)) rfl (q_f F27_0 rfl) ?_
          refine o_w (za4 rfl rfl rfl (congrArg Value.bool hb33)) rfl (q_ldb Y3 rfl (fun w h => h.zac (i := 2) rfl) rfl) ?_
          refine o_w (za4 rfl rfl rfl (congrArg Value.bool hb33)) rfl (q_geq rfl rfl) ?_
          refine o_w (za4 rfl rfl rfl (congrArg Value.bool hb33)) rfl (za3 rfl) ?_
          refine byB (decide (a0_0 ≤ y18.f0)) (fun hb34 => ?_) (fun hb34 => ?_)
          · replace h := br_t hb34 h
            refine o_w (za4 rfl rfl rfl (congrArg Value.bool hb34)) rfl (za3 rfl) ?_
            refine o_w (za4 rfl rfl rfl (congrArg Value.bool hb34)) rfl (q_f F88_0 rfl) ?_
            refine o_w (za4 rfl rfl rfl (congrArg Value.bool hb34)) rfl (q_ldb Y3 rfl (fun w h => h.zac (i := 0) rfl) rfl) ?_
            refine o_w (za4 rfl rfl rfl (congrArg Value.bool hb34)) rfl (q_f F27_0 rfl) ?_
            refine o_w (za4 rfl rfl rfl (congrArg Value.bool hb34)) rfl (q_ldb Y3 rfl (fun w h => h.zac (i := 2) rfl) rfl) ?_
            refine o_w (za4 rfl rfl rfl (congrArg Value.bool hb34)) rfl (q_sub64 rfl rfl) ?_
            refine za8 h (fun b36 hx35 h => ?_) rfl
            refine o_ew (za4 rfl rfl rfl (congrArg Value.bool hb34)) (za9 0 Z Try.func87 N87 rfl rfl rfl (fun w P1 hF hB hS hT => spec_l1Has.calls A1 c1 l1.length l1 (w64 (y18.f0 - a0_0)) hB hF (hS _ R1) hc1 _ hx35)) (fun _ => ?_)
            refine o_w (za4 rfl rfl rfl (congrArg Value.bool hb34)) rfl (q_not rfl) ?_
            refine o_w (za4 rfl rfl rfl (congrArg Value.bool hb33)) rfl (zaa true (congrArg Value.bool hb34) rfl) ?_
            refine o_q rfl rfl (zaa false (congrArg Value.bool hb33) rfl) ?_
            refine o_q rfl rfl (za3 rfl) ?_
            refine byB b36 (fun hb37 => ?_) (fun hb37 => ?_)
            · replace h := bb_t hb37 h
              refine o_w (za4 rfl rfl rfl (congrArg (fun b => Value.bool (!(b))) hb37)) rfl (q_f F88_1 rfl) ?_
              refine o_w (za4 rfl rfl rfl (congrArg (fun b => Value.bool (!(b))) hb37)) rfl (q_ldb Y3 rfl (fun w h => h.zac (i := 0) rfl) rfl) ?_
              refine o_w (za4 rfl rfl rfl (congrArg (fun b => Value.bool (!(b))) hb37)) rfl (q_f F27_0 rfl) ?_
              refine o_w (za4 rfl rfl rfl (congrArg (fun b => Value.bool (!(b))) hb37)) rfl (q_ldb Y3 rfl (fun w h => h.zac (i := 2) rfl) rfl) ?_
              refine o_w (za4 rfl rfl rfl (congrArg (fun b => Value.bool (!(b))) hb37)) rfl (q_geq rfl rfl) ?_
              refine o_w (za4 rfl rfl rfl (congrArg (fun b => Value.bool (!(b))) hb37)) rfl (za3 rfl) ?_
              refine byB (decide (a0_0 ≤ y18.f1)) (fun hb38 => ?_) (fun hb38 => ?_)
              · replace h := br_t hb38 h
                refine o_w (za4 rfl rfl rfl (congrArg Value.bool hb38)) rfl (za3 rfl) ?_
                refine o_w (za4 rfl rfl rfl (congrArg Value.bool hb38)) rfl (q_f F88_1 rfl) ?_
                refine o_w (za4 rfl rfl rfl (congrArg Value.bool hb38)) rfl (q_ldb Y3 rfl (fun w h => h.zac (i := 0) rfl) rfl) ?_
                refine o_w (za4 rfl rfl rfl (congrArg Value.bool hb38)) rfl (q_f F27_0 rfl) ?_
                refine o_w (za4 rfl rfl rfl (congrArg Value.bool hb38)) rfl (q_ldb Y3 rfl (fun w h => h.zac (i := 2) rfl) rfl) ?_
                refine o_w (za4 rfl rfl rfl (congrArg Value.bool hb38)) rfl (q_sub64 rfl rfl) ?_
                refine za8 h (fun b40 hx39 h => ?_) rfl
                refine o_ew (za4 rfl rfl rfl (congrArg Value.bool hb38)) (za9 0 Z Try.func87 N87 rfl rfl rfl (fun w P1 hF hB hS hT => spec_l1Has.calls A1 c1 l1.length l1 (w64 (y18.f1 - a0_0)) hB hF (hS _ R1) hc1 _ hx39)) (fun _ => ?_)
                refine o_w (za4 rfl rfl rfl (congrArg Value.bool hb38)) rfl (q_not rfl) ?_
                refine o_w (za4 rfl rfl rfl (congrArg (fun b => Value.bool (!(b))) hb37)) rfl (zaa true (congrArg Value.bool hb38) rfl) ?_
                refine o_q rfl rfl (zaa false (congrArg (fun b => Value.bool (!(b))) hb37) rfl) ?_
                refine o_end ?_
                refine za2 ?_
                refine zat _ rfl (fun hb41 => ?_) (fun hb41 => ?_)
                · replace hb41 := nt_t hb41
                  replace h := bb_f hb41 h
                  refine c_exit ?_
                  refine za6 ?_
                  refine x_hit ?_
                  refine za2 ?_
                  refine za0 ?_
                  refine o_q rfl rfl (q_up rfl rfl (hr21.up hm22)) ?_
                  refine o_q rfl rfl (za3 rfl) ?_
                  refine o_end ?_
                  refine zak ys19.length (ys19, l13, i17 + 1, A14, c15, H16) (by rw [← hk27]; exact Nat.lt_succ_self _) ⟨hr21.step, rfl, h⟩ ⟨rfl, rfl, trivial⟩ (fun w h => za5 [1, 2] (by decide) rfl w h) ?_
                  repeat (first | exact zad _ _ | refine zah rfl ?_ | refine zae rfl ?_ | refine zai rfl ?_)
                · replace hb41 := nt_f hb41
                  replace h := bb_t hb41 h
                  refine zaq ?_
                  refine za2 ?_
                  refine za8 h (fun l224 hx223 h => ?_) rfl
                  refine za8 h (fun l403 ha404 h => ?_) rfl
                  refine za8 h (fun l464 hx463 h => ?_) rfl
                  refine za8 h (fun l523 ha524 h => ?_) rfl
                  refine a_startS (ds := []) [some 0, none, some 2] MO rfl ?_
                  refine za7 0 rfl rfl rfl (by kernel_rfl) (fun _ _ _ h => h) (za3 rfl) ?_
                  refine zau 1 rfl rfl rfl (by kernel_rfl) (fun _ _ _ h => h) (fun w h => zab [some 0, none, some 2] (by decide) w h rfl) (q_ldB G27 Z27 rfl (fun w h => h.zac (i := 2) rfl) rfl) ?_
                  refine za7 2 rfl rfl rfl (by kernel_rfl) (fun _ _ _ h => h) (za3 rfl) ?_
                  refine za7 4 rfl rfl rfl (by kernel_rfl) (fun _ _ _ h => h) (za3 rfl) ?_
                  refine a_two 3 5 rfl rfl rfl rfl (by kernel_rfl) rfl rfl (za9 0 Z Try.func125 N125 rfl rfl rfl (fun w P1 hF hB hS hT => spec_l1Own.calls A1 c1 l1.length l1 hB hF (hS _ R1) hc1 _ hx223)) (fun s w h => zab [some 1, none, some 3] (by decide) w h rfl) (e_lit (vs := [(0, .int .i64 i17)]) (cs := [.int .i64 i17]) (Kd.int .i64) ([i17] : List Int) Try.underlying25 I3 (by decide) rfl (by decide) rfl rfl (fun _ _ => Kd.zao _)) (fun s w h => zab [some 1, none, some 3] (by decide) w h rfl) (cur2 (fun A225 c226 => ?_)) (cur2 (fun A343 c344 => ?_))
                  · skip
                    refine a_one 5 rfl rfl (by kernel_rfl) rfl (e_lit (vs := [(0, .int .i64 i17)]) (cs := [.int .i64 i17]) (Kd.int .i64) ([i17] : List Int) Try.underlying25 I3 (by decide) rfl (by decide) rfl rfl (fun _ _ => Kd.zao _)) (fun s w h => zab [some 2, none, some 4] (by decide) w h rfl) (cur2 (fun A343 c344 => ?_))
                    refine a_one 6 rfl rfl (by kernel_rfl) rfl (e_app (i := 1) (j := 0) Try.underlying25 I3 rfl (by decide) (by decide) rfl rfl rfl rfl rfl ha404) (fun s w h => zab [some 2, none, some 4] (by decide) w h rfl) (cur2 (fun A405 c406 => ?_))
                    refine a_one 7 rfl rfl (by kernel_rfl) rfl (za9 0 Z Try.func62 N62 rfl rfl rfl (fun w P1 hF hB hS hT => ih a0_0 A0_1 c0_1 l0_1.length l0_1 A0_2 c0_2 l0_2.length l0_2 A405 c406 l403.length l403 hB hF (hS _ R0_1) hc0_1 (hS _ R0_2) hc0_2 (hT 1 _ rfl).row (hT 1 _ rfl).cap _ hx463)) (fun s w h => zab [some 3, none, some 5] (by decide) w h rfl) (cur3 (fun A465 c466 H467 => ?_))
                    refine a_one 8 rfl rfl (by kernel_rfl) rfl (e_appG (i := 4) (j := 0) Try.underlying73 I25 rfl (by decide) rfl rfl rfl rfl rfl ha524) (fun s w h => zab [some 3, none, some 5] (by decide) w h rfl) (cur3 (fun A525 c526 H527 => ?_))
                    refine za7 9 rfl rfl rfl (by kernel_rfl) (fun _ _ _ h => h) (q_asg rfl) ?_
                    refine zav (by kernel_rfl) ?_
                    refine zal ?_
                    refine za2 ?_
                    refine za0 ?_
                    refine o_q rfl rfl (q_up rfl rfl (hr21.up hm22)) ?_
                    refine o_q rfl rfl (za3 rfl) ?_
                    refine o_end ?_
                    refine zak ys19.length (ys19, l523, i17 + 1, A525, c526, H527) (by rw [← hk27]; exact Nat.lt_succ_self _) ⟨hr21.step, rfl, h⟩ ⟨rfl, rfl, trivial⟩ (fun w h => za5 [4, 5] (by decide) rfl w h) ?_
                    repeat (first | exact zad _ _ | refine zah rfl ?_ | refine zae rfl ?_ | refine zai rfl ?_)
                  · skip
                    refine a_one 3 rfl rfl (by kernel_rfl) rfl (za9 0 Z Try.func125 N125 rfl rfl rfl (fun w P1 hF hB hS hT => spec_l1Own.calls A1 c1 l1.length l1 hB hF (hS _ R1) hc1 _ hx223)) (fun s w h => zab [some 2, none, some 4] (by decide) w h rfl) (cur2 (fun A225 c226 => ?_))
                    refine a_one 6 rfl rfl (by kernel_rfl) rfl (e_app (i := 0) (j := 1) Try.underlying25 I3 rfl (by decide) (by decide) rfl rfl rfl rfl rfl ha404) (fun s w h => zab [some 2, none, some 4] (by decide) w h rfl) (cur2 (fun A405 c406 => ?_))
                    refine a_one 7 rfl rfl (by kernel_rfl) rfl (za9 0 Z Try.func62 N62 rfl rfl rfl (fun w P1 hF hB hS hT => ih a0_0 A0_1 c0_1 l0_1.length l0_1 A0_2 c0_2 l0_2.length l0_2 A405 c406 l403.length l403 hB hF (hS _ R0_1) hc0_1 (hS _ R0_2) hc0_2 (hT 0 _ rfl).row (hT 0 _ rfl).cap _ hx463)) (fun s w h => zab [some 3, none, some 5] (by decide) w h rfl) (cur3 (fun A465 c466 H467 => ?_))
                    refine a_one 8 rfl rfl (by kernel_rfl) rfl (e_appG (i := 4) (j := 0) Try.underlying73 I25 rfl (by decide) rfl rfl rfl rfl rfl ha524) (fun s w h => zab [some 3, none, some 5] (by decide) w h rfl) (cur3 (fun A525 c526 H527 => ?_))
                    refine za7 9 rfl rfl rfl (by kernel_rfl) (fun _ _ _ h => h) (q_asg rfl) ?_
                    refine zav (by kernel_rfl) ?_
                    refine zal ?_
                    refine za2 ?_
                    refine za0 ?_
                    refine o_q rfl rfl (q_up rfl rfl (hr21.up hm22)) ?_
                    refine o_q rfl rfl (za3 rfl) ?_
                    refine o_end ?_
                    refine zak ys19.length (ys19, l523, i17 + 1, A525, c526, H527) (by rw [← hk27]; exact Nat.lt_succ_self _) ⟨hr21.step, rfl, h⟩ ⟨rfl, rfl, trivial⟩ (fun w h => za5 [4, 5] (by decide) rfl w h) ?_
                    repeat (first | exact zad _ _ | refine zah rfl ?_ | refine zae rfl ?_ | refine zai rfl ?_)
              · replace h := br_f hb38 h
                refine @o_n _ _ _ _ _ _ _ _ _ _ _ 52 (za1 rfl rfl rfl (congrArg Value.bool hb38) rfl) (Eq.refl (some 52)) ?_
                refine @o_n _ _ _ _ _ _ _ _ _ _ _ 53 (za1 rfl rfl rfl (congrArg Value.bool hb38) rfl) (Eq.refl (some 53)) ?_
                refine @o_n _ _ _ _ _ _ _ _ _ _ _ 54 (za1 rfl rfl rfl (congrArg Value.bool hb38) rfl) (Eq.refl (some 54)) ?_
                refine @o_n _ _ _ _ _ _ _ _ _ _ _ 55 (za1 rfl rfl rfl (congrArg Value.bool hb38) rfl) (Eq.refl (some 55)) ?_
                refine @o_n _ _ _ _ _ _ _ _ _ _ _ 56 (za1 rfl rfl rfl (congrArg Value.bool hb38) rfl) (Eq.refl (some 56)) ?_
                refine @o_n _ _ _ _ _ _ _ _ _ _ _ 57 (za1 rfl rfl rfl (congrArg Value.bool hb38) rfl) (Eq.refl (some 57)) ?_
                refine @o_n _ _ _ _ _ _ _ _ _ _ _ 58 (za1 rfl rfl rfl (congrArg Value.bool hb38) rfl) (Eq.refl (some 58)) ?_
                refine @o_n _ _ _ _ _ _ _ _ _ _ _ 59 (za1 rfl rfl rfl (congrArg Value.bool hb38) rfl) (Eq.refl (some 59)) ?_
                refine o_w (za4 rfl rfl rfl (congrArg (fun b => Value.bool (!(b))) hb37)) rfl (zaa false (congrArg Value.bool hb38) rfl) ?_
                refine o_q rfl rfl (zaa false (congrArg (fun b => Value.bool (!(b))) hb37) rfl) ?_
                refine o_end ?_
                refine za2 ?_
                refine c_false rfl ?_
                refine zaq ?_
                refine za2 ?_
                refine za8 h (fun l885 hx884 h => ?_) rfl
                refine za8 h (fun l1064 ha1065 h => ?_) rfl
                refine za8 h (fun l1125 hx1124 h => ?_) rfl
                refine za8 h (fun l1184 ha1185 h => ?_) rfl
                refine a_startS (ds := []) [some 0, none, some 2] MO rfl ?_
                refine za7 0 rfl rfl rfl (by kernel_rfl) (fun _ _ _ h => h) (za3 rfl) ?_
                refine zau 1 rfl rfl rfl (by kernel_rfl) (fun _ _ _ h => h) (fun w h => zab [some 0, none, some 2] (by decide) w h rfl) (q_ldB G27 Z27 rfl (fun w h => h.zac (i := 2) rfl) rfl) ?_
                refine za7 2 rfl rfl rfl (by kernel_rfl) (fun _ _ _ h => h) (za3 rfl) ?_
                refine za7 4 rfl rfl rfl (by kernel_rfl) (fun _ _ _ h => h) (za3 rfl) ?_
                refine a_two 3 5 rfl rfl rfl rfl (by kernel_rfl) rfl rfl (za9 0 Z Try.func125 N125 rfl rfl rfl (fun w P1 hF hB hS hT => spec_l1Own.calls A1 c1 l1.length l1 hB hF (hS _ R1) hc1 _ hx884)) (fun s w h => zab [some 1, none, some 3] (by decide) w h rfl) (e_lit (vs := [(0, .int .i64 i17)]) (cs := [.int .i64 i17]) (Kd.int .i64) ([i17] : List Int) Try.underlying25 I3 (by decide) rfl (by decide) rfl rfl (fun _ _ => Kd.zao _)) (fun s w h => zab [some 1, none, some 3] (by decide) w h rfl) (cur2 (fun A886 c887 => ?_)) (cur2 (fun A1004 c1005 => ?_))
                · skip
                  refine a_one 5 rfl rfl (by kernel_rfl) rfl (e_lit (vs := [(0, .int .i64 i17)]) (cs := [.int .i64 i17]) (Kd.int .i64) ([i17] : List Int) Try.underlying25 I3 (by decide) rfl (by decide) rfl rfl (fun _ _ => Kd.zao _)) (fun s w h => zab [some 2, none, some 4] (by decide) w h rfl) (cur2 (fun A1004 c1005 => ?_))
                  refine a_one 6 rfl rfl (by kernel_rfl) rfl (e_app (i := 1) (j := 0) Try.underlying25 I3 rfl (by decide) (by decide) rfl rfl rfl rfl rfl ha1065) (fun s w h => zab [some 2, none, some 4] (by decide) w h rfl) (cur2 (fun A1066 c1067 => ?_))
                  refine a_one 7 rfl rfl (by kernel_rfl) rfl (za9 0 Z Try.func62 N62 rfl rfl rfl (fun w P1 hF hB hS hT => ih a0_0 A0_1 c0_1 l0_1.length l0_1 A0_2 c0_2 l0_2.length l0_2 A1066 c1067 l1064.length l1064 hB hF (hS _ R0_1) hc0_1 (hS _ R0_2) hc0_2 (hT 1 _ rfl).row (hT 1 _ rfl).cap _ hx1124)) (fun s w h => zab [some 3, none, some 5] (by decide) w h rfl) (cur3 (fun A1126 c1127 H1128 => ?_))
                  refine a_one 8 rfl rfl (by kernel_rfl) rfl (e_appG (i := 4) (j := 0) Try.underlying73 I25 rfl (by decide) rfl rfl rfl rfl rfl ha1185) (fun s w h => zab [some 3, none, some 5] (by decide) w h rfl) (cur3 (fun A1186 c1187 H1188 => ?_))
                  refine za7 9 rfl rfl rfl (by kernel_rfl) (fun _ _ _ h => h) (q_asg rfl) ?_
                  refine zav (by kernel_rfl) ?_
                  refine zal ?_
                  refine za2 ?_
                  refine za0 ?_
                  refine o_q rfl rfl (q_up rfl rfl (hr21.up hm22)) ?_
                  refine o_q rfl rfl (za3 rfl) ?_
                  refine o_end ?_
                  refine zak ys19.length (ys19, l1184, i17 + 1, A1186, c1187, H1188) (by rw [← hk27]; exact Nat.lt_succ_self _) ⟨hr21.step, rfl, h⟩ ⟨rfl, rfl, trivial⟩ (fun w h => za5 [4, 5] (by decide) rfl w h) ?_
                  repeat (first | exact zad _ _ | refine zah rfl ?_ | refine zae rfl ?_ | refine zai rfl ?_)
                · skip
                  refine a_one 3 rfl rfl (by kernel_rfl) rfl (za9 0 Z Try.func125 N125 rfl rfl rfl (fun w P1 hF hB hS hT => spec_l1Own.calls A1 c1 l1.length l1 hB hF (hS _ R1) hc1 _ hx884)) (fun s w h => zab [some 2, none, some 4] (by decide) w h rfl) (cur2 (fun A886 c887 => ?_))
                  refine a_one 6 rfl rfl (by kernel_rfl) rfl (e_app (i := 0) (j := 1) Try.underlying25 I3 rfl (by decide) (by decide) rfl rfl rfl rfl rfl ha1065) (fun s w h => zab [some 2, none, some 4] (by decide) w h rfl) (cur2 (fun A1066 c1067 => ?_))
                  refine a_one 7 rfl rfl (by kernel_rfl) rfl (za9 0 Z Try.func62 N62 rfl rfl rfl (fun w P1 hF hB hS hT => ih a0_0 A0_1 c0_1 l0_1.length l0_1 A0_2 c0_2 l0_2.length l0_2 A1066 c1067 l1064.length l1064 hB hF (hS _ R0_1) hc0_1 (hS _ R0_2) hc0_2 (hT 0 _ rfl).row (hT 0 _ rfl).cap _ hx1124)) (fun s w h => zab [some 3, none, some 5] (by decide) w h rfl) (cur3 (fun A1126 c1127 H1128 => ?_))
                  refine a_one 8 rfl rfl (by kernel_rfl) rfl (e_appG (i := 4) (j := 0) Try.underlying73 I25 rfl (by decide) rfl rfl rfl rfl rfl ha1185) (fun s w h => zab [some 3, none, some 5] (by decide) w h rfl) (cur3 (fun A1186 c1187 H1188 => ?_))
                  refine za7 9 rfl rfl rfl (by kernel_rfl) (fun _ _ _ h => h) (q_asg rfl) ?_
                  refine zav (by kernel_rfl) ?_
                  refine zal ?_
                  refine za2 ?_
                  refine za0 ?_
                  refine o_q rfl rfl (q_up rfl rfl (hr21.up hm22)) ?_
                  refine o_q rfl rfl (za3 rfl) ?_
                  refine o_end ?_
                  refine zak ys19.length (ys19, l1184, i17 + 1, A1186, c1187, H1188) (by rw [← hk27]; exact Nat.lt_succ_self _) ⟨hr21.step, rfl, h⟩ ⟨rfl, rfl, trivial⟩ (fun w h => za5 [4, 5] (by decide) rfl w h) ?_
                  repeat (first | exact zad _ _ | refine zah rfl ?_ | refine zae rfl ?_ | refine zai rfl ?_)
            · replace h := bb_f hb37 h
              refine @o_n _ _ _ _ _ _ _ _ _ _ _ 46 (za1 rfl rfl rfl (congrArg (fun b => Value.bool (!(b))) hb37) rfl) (Eq.refl (some 46)) ?_
              refine @o_n _ _ _ _ _ _ _ _ _ _ _ 47 (za1 rfl rfl rfl (congrArg (fun b => Value.bool (!(b))) hb37) rfl) (Eq.refl (some 47)) ?_
              refine @o_n _ _ _ _ _ _ _ _ _ _ _ 48 (za1 rfl rfl rfl (congrArg (fun b => Value.bool (!(b))) hb37) rfl) (Eq.refl (some 48)) ?_
              refine @o_n _ _ _ _ _ _ _ _ _ _ _ 49 (za1 rfl rfl rfl (congrArg (fun b => Value.bool (!(b))) hb37) rfl) (Eq.refl (some 49)) ?_
              refine @o_n _ _ _ _ _ _ _ _ _ _ _ 50 (za1 rfl rfl rfl (congrArg (fun b => Value.bool (!(b))) hb37) rfl) (Eq.refl (some 50)) ?_
              refine @o_n _ _ _ _ _ _ _ _ _ _ _ 51 (za1 rfl rfl rfl (congrArg (fun b => Value.bool (!(b))) hb37) rfl) (Eq.refl (some 51)) ?_
              refine @o_n _ _ _ _ _ _ _ _ _ _ _ 52 (zan rfl rfl rfl rfl) (Eq.refl (some 52)) ?_
              refine @o_n _ _ _ _ _ _ _ _ _ _ _ 53 (zan rfl rfl rfl rfl) (Eq.refl (some 53)) ?_
              refine @o_n _ _ _ _ _ _ _ _ _ _ _ 54 (zan rfl rfl rfl rfl) (Eq.refl (some 54)) ?_
              refine @o_n _ _ _ _ _ _ _ _ _ _ _ 55 (zan rfl rfl rfl rfl) (Eq.refl (some 55)) ?_
              refine @o_n _ _ _ _ _ _ _ _ _ _ _ 56 (zan rfl rfl rfl rfl) (Eq.refl (some 56)) ?_
              refine @o_n _ _ _ _ _ _ _ _ _ _ _ 57 (zan rfl rfl rfl rfl) (Eq.refl (some 57)) ?_
              refine @o_n _ _ _ _ _ _ _ _ _ _ _ 58 (zan rfl rfl rfl rfl) (Eq.refl (some 58)) ?_
              refine @o_n _ _ _ _ _ _ _ _ _ _ _ 59 (zan rfl rfl rfl rfl) (Eq.refl (some 59)) ?_
              refine @o_n _ _ _ _ _ _ _ _ _ _ _ 60 (za1 rfl rfl rfl (congrArg (fun b => Value.bool (!(b))) hb37) rfl) (Eq.refl (some 60)) ?_
              refine o_q rfl rfl (zaa true (congrArg (fun b => Value.bool (!(b))) hb37) rfl) ?_
              refine o_end ?_
              refine za2 ?_
              refine c_true rfl ?_
              refine c_exit ?_
              refine za6 ?_
              refine x_hit ?_
              refine za2 ?_
              refine za0 ?_
              refine o_q rfl rfl (q_up rfl rfl (hr21.up hm22)) ?_
              refine o_q rfl rfl (za3 rfl) ?_
              refine o_end ?_
              refine zak ys19.length (ys19, l13, i17 + 1, A14, c15, H16) (by rw [← hk27]; exact Nat.lt_succ_self _) ⟨hr21.step, rfl, h⟩ ⟨rfl, rfl, trivial⟩ (fun w h => za5 [1, 2] (by decide) rfl w h) ?_
              repeat (first | exact zad _ _ | refine zah rfl ?_ | refine zae rfl ?_ | refine zai rfl ?_)
          · replace h := br_f hb34 h
            refine @o_n _ _ _ _ _ _ _ _ _ _ _ 35 (za1 rfl rfl rfl (congrArg Value.bool hb34) rfl) (Eq.refl (some 35)) ?_
            refine @o_n _ _ _ _ _ _ _ _ _ _ _ 36 (za1 rfl rfl rfl (congrArg Value.bool hb34) rfl) (Eq.refl (some 36)) ?_
            refine @o_n _ _ _ _ _ _ _ _ _ _ _ 37 (za1 rfl rfl rfl (congrArg Value.bool hb34) rfl) (Eq.refl (some 37)) ?_
            refine @o_n _ _ _ _ _ _ _ _ _ _ _ 38 (za1 rfl rfl rfl (congrArg Value.bool hb34) rfl) (Eq.refl (some 38)) ?_
            refine @o_n _ _ _ _ _ _ _ _ _ _ _ 39 (za1 rfl rfl rfl (congrArg Value.bool hb34) rfl) (Eq.refl (some 39)) ?_
            refine @o_n _ _ _ _ _ _ _ _ _ _ _ 40 (za1 rfl rfl rfl (congrArg Value.bool hb34) rfl) (Eq.refl (some 40)) ?_
            refine @o_n _ _ _ _ _ _ _ _ _ _ _ 41 (za1 rfl rfl rfl (congrArg Value.bool hb34) rfl) (Eq.refl (some 41)) ?_
            refine @o_n _ _ _ _ _ _ _ _ _ _ _ 42 (za1 rfl rfl rfl (congrArg Value.bool hb34) rfl) (Eq.refl (some 42)) ?_
            refine o_w (za4 rfl rfl rfl (congrArg Value.bool hb33)) rfl (zaa false (congrArg Value.bool hb34) rfl) ?_
            refine o_q rfl rfl (zaa false (congrArg Value.bool hb33) rfl) ?_
            refine o_q rfl rfl (za3 rfl) ?_
            refine o_w (za4 rfl rfl rfl rfl) rfl (q_f F88_1 rfl) ?_
            refine o_w (za4 rfl rfl rfl rfl) rfl (q_ldb Y3 rfl (fun w h => h.zac (i := 0) rfl) rfl) ?_
            refine o_w (za4 rfl rfl rfl rfl) rfl (q_f F27_0 rfl) ?_
            refine o_w (za4 rfl rfl rfl rfl) rfl (q_ldb Y3 rfl (fun w h => h.zac (i := 2) rfl) rfl) ?_
            refine o_w (za4 rfl rfl rfl rfl) rfl (q_geq rfl rfl) ?_
            refine o_w (za4 rfl rfl rfl rfl) rfl (za3 rfl) ?_
            refine byB (decide (a0_0 ≤ y18.f1)) (fun hb1364 => ?_) (fun hb1364 => ?_)
            · replace h := br_t hb1364 h
              refine o_w (za4 rfl rfl rfl (congrArg Value.bool hb1364)) rfl (za3 rfl) ?_
              refine o_w (za4 rfl rfl rfl (congrArg Value.bool hb1364)) rfl (q_f F88_1 rfl) ?_
              refine o_w (za4 rfl rfl rfl (congrArg Value.bool hb1364)) rfl (q_ldb Y3 rfl (fun w h => h.zac (i := 0) rfl) rfl) ?_
              refine o_w (za4 rfl rfl rfl (congrArg Value.bool hb1364)) rfl (q_f F27_0 rfl) ?_
              refine o_w (za4 rfl rfl rfl (congrArg Value.bool hb1364)) rfl (q_ldb Y3 rfl (fun w h => h.zac (i := 2) rfl) rfl) ?_
              refine o_w (za4 rfl rfl rfl (congrArg Value.bool hb1364)) rfl (q_sub64 rfl rfl) ?_
              refine za8 h (fun b1366 hx1365 h => ?_) rfl
              refine o_ew (za4 rfl rfl rfl (congrArg Value.bool hb1364)) (za9 0 Z Try.func87 N87 rfl rfl rfl (fun w P1 hF hB hS hT => spec_l1Has.calls A1 c1 l1.length l1 (w64 (y18.f1 - a0_0)) hB hF (hS _ R1) hc1 _ hx1365)) (fun _ => ?_)
              refine o_w (za4 rfl rfl rfl (congrArg Value.bool hb1364)) rfl (q_not rfl) ?_
              refine o_w (za4 rfl rfl rfl rfl) rfl (zaa true (congrArg Value.bool hb1364) rfl) ?_
              refine o_q rfl rfl (zaa false rfl rfl) ?_
              refine o_end ?_
              refine za2 ?_
              refine zat _ rfl (fun hb1367 => ?_) (fun hb1367 => ?_)
              · replace hb1367 := nt_t hb1367
                replace h := bb_f hb1367 h
                refine c_exit ?_
                refine za6 ?_
                refine x_hit ?_
                refine za2 ?_
                refine za0 ?_
                refine o_q rfl rfl (q_up rfl rfl (hr21.up hm22)) ?_
                refine o_q rfl rfl (za3 rfl) ?_
                refine o_end ?_
                refine zak ys19.length (ys19, l13, i17 + 1, A14, c15, H16) (by rw [← hk27]; exact Nat.lt_succ_self _) ⟨hr21.step, rfl, h⟩ ⟨rfl, rfl, trivial⟩ (fun w h => za5 [1, 2] (by decide) rfl w h) ?_
                repeat (first | exact zad _ _ | refine zah rfl ?_ | refine zae rfl ?_ | refine zai rfl ?_)
              · replace hb1367 := nt_f hb1367
                replace h := bb_t hb1367 h
                refine zaq ?_
                refine za2 ?_
                refine za8 h (fun l1550 hx1549 h => ?_) rfl
                refine za8 h (fun l1729 ha1730 h => ?_) rfl
                refine za8 h (fun l1790 hx1789 h => ?_) rfl
                refine za8 h (fun l1849 ha1850 h => ?_) rfl
                refine a_startS (ds := []) [some 0, none, some 2] MO rfl ?_
                refine za7 0 rfl rfl rfl (by kernel_rfl) (fun _ _ _ h => h) (za3 rfl) ?_
                refine zau 1 rfl rfl rfl (by kernel_rfl) (fun _ _ _ h => h) (fun w h => zab [some 0, none, some 2] (by decide) w h rfl) (q_ldB G27 Z27 rfl (fun w h => h.zac (i := 2) rfl) rfl) ?_
                refine za7 2 rfl rfl rfl (by kernel_rfl) (fun _ _ _ h => h) (za3 rfl) ?_
                refine za7 4 rfl rfl rfl (by kernel_rfl) (fun _ _ _ h => h) (za3 rfl) ?_
                refine a_two 3 5 rfl rfl rfl rfl (by kernel_rfl) rfl rfl (za9 0 Z Try.func125 N125 rfl rfl rfl (fun w P1 hF hB hS hT => spec_l1Own.calls A1 c1 l1.length l1 hB hF (hS _ R1) hc1 _ hx1549)) (fun s w h => zab [some 1, none, some 3] (by decide) w h rfl) (e_lit (vs := [(0, .int .i64 i17)]) (cs := [.int .i64 i17]) (Kd.int .i64) ([i17] : List Int) Try.underlying25 I3 (by decide) rfl (by decide) rfl rfl (fun _ _ => Kd.zao _)) (fun s w h => zab [some 1, none, some 3] (by decide) w h rfl) (cur2 (fun A1551 c1552 => ?_)) (cur2 (fun A1669 c1670 => ?_))
                · skip
                  refine a_one 5 rfl rfl (by kernel_rfl) rfl (e_lit (vs := [(0, .int .i64 i17)]) (cs := [.int .i64 i17]) (Kd.int .i64) ([i17] : List Int) Try.underlying25 I3 (by decide) rfl (by decide) rfl rfl (fun _ _ => Kd.zao _)) (fun s w h => zab [some 2, none, some 4] (by decide) w h rfl) (cur2 (fun A1669 c1670 => ?_))
                  refine a_one 6 rfl rfl (by kernel_rfl) rfl (e_app (i := 1) (j := 0) Try.underlying25 I3 rfl (by decide) (by decide) rfl rfl rfl rfl rfl ha1730) (fun s w h => zab [some 2, none, some 4] (by decide) w h rfl) (cur2 (fun A1731 c1732 => ?_))
                  refine a_one 7 rfl rfl (by kernel_rfl) rfl (za9 0 Z Try.func62 N62 rfl rfl rfl (fun w P1 hF hB hS hT => ih a0_0 A0_1 c0_1 l0_1.length l0_1 A0_2 c0_2 l0_2.length l0_2 A1731 c1732 l1729.length l1729 hB hF (hS _ R0_1) hc0_1 (hS _ R0_2) hc0_2 (hT 1 _ rfl).row (hT 1 _ rfl).cap _ hx1789)) (fun s w h => zab [some 3, none, some 5] (by decide) w h rfl) (cur3 (fun A1791 c1792 H1793 => ?_))
                  refine a_one 8 rfl rfl (by kernel_rfl) rfl (e_appG (i := 4) (j := 0) Try.underlying73 I25 rfl (by decide) rfl rfl rfl rfl rfl ha1850) (fun s w h => zab [some 3, none, some 5] (by decide) w h rfl) (cur3 (fun A1851 c1852 H1853 => ?_))
                  refine za7 9 rfl rfl rfl (by kernel_rfl) (fun _ _ _ h => h) (q_asg rfl) ?_
                  refine zav (by kernel_rfl) ?_
                  refine zal ?_
                  refine za2 ?_
                  refine za0 ?_
                  refine o_q rfl rfl (q_up rfl rfl (hr21.up hm22)) ?_
                  refine o_q rfl rfl (za3 rfl) ?_
                  refine o_end ?_
                  refine zak ys19.length (ys19, l1849, i17 + 1, A1851, c1852, H1853) (by rw [← hk27]; exact Nat.lt_succ_self _) ⟨hr21.step, rfl, h⟩ ⟨rfl, rfl, trivial⟩ (fun w h => za5 [4, 5] (by decide) rfl w h) ?_
                  repeat (first | exact zad _ _ | refine zah rfl ?_ | refine zae rfl ?_ | refine zai rfl ?_)
                · skip
                  refine a_one 3 rfl rfl (by kernel_rfl) rfl (za9 0 Z Try.func125 N125 rfl rfl rfl (fun w P1 hF hB hS hT => spec_l1Own.calls A1 c1 l1.length l1 hB hF (hS _ R1) hc1 _ hx1549)) (fun s w h => zab [some 2, none, some 4] (by decide) w h rfl) (cur2 (fun A1551 c1552 => ?_))
                  refine a_one 6 rfl rfl (by kernel_rfl) rfl (e_app (i := 0) (j := 1) Try.underlying25 I3 rfl (by decide) (by decide) rfl rfl rfl rfl rfl ha1730) (fun s w h => zab [some 2, none, some 4] (by decide) w h rfl) (cur2 (fun A1731 c1732 => ?_))
                  refine a_one 7 rfl rfl (by kernel_rfl) rfl (za9 0 Z Try.func62 N62 rfl rfl rfl (fun w P1 hF hB hS hT => ih a0_0 A0_1 c0_1 l0_1.length l0_1 A0_2 c0_2 l0_2.length l0_2 A1731 c1732 l1729.length l1729 hB hF (hS _ R0_1) hc0_1 (hS _ R0_2) hc0_2 (hT 0 _ rfl).row (hT 0 _ rfl).cap _ hx1789)) (fun s w h => zab [some 3, none, some 5] (by decide) w h rfl) (cur3 (fun A1791 c1792 H1793 => ?_))
                  refine a_one 8 rfl rfl (by kernel_rfl) rfl (e_appG (i := 4) (j := 0) Try.underlying73 I25 rfl (by decide) rfl rfl rfl rfl rfl ha1850) (fun s w h => zab [some 3, none, some 5] (by decide) w h rfl) (cur3 (fun A1851 c1852 H1853 => ?_))
                  refine za7 9 rfl rfl rfl (by kernel_rfl) (fun _ _ _ h => h) (q_asg rfl) ?_
                  refine zav (by kernel_rfl) ?_
                  refine zal ?_
                  refine za2 ?_
                  refine za0 ?_
                  refine o_q rfl rfl (q_up rfl rfl (hr21.up hm22)) ?_
                  refine o_q rfl rfl (za3 rfl) ?_
                  refine o_end ?_
                  refine zak ys19.length (ys19, l1849, i17 + 1, A1851, c1852, H1853) (by rw [← hk27]; exact Nat.lt_succ_self _) ⟨hr21.step, rfl, h⟩ ⟨rfl, rfl, trivial⟩ (fun w h => za5 [4, 5] (by decide) rfl w h) ?_
                  repeat (first | exact zad _ _ | refine zah rfl ?_ | refine zae rfl ?_ | refine zai rfl ?_)
            · replace h := br_f hb1364 h
              refine @o_n _ _ _ _ _ _ _ _ _ _ _ 52 (za1 rfl rfl rfl (congrArg Value.bool hb1364) rfl) (Eq.refl (some 52)) ?_
              refine @o_n _ _ _ _ _ _ _ _ _ _ _ 53 (za1 rfl rfl rfl (congrArg Value.bool hb1364) rfl) (Eq.refl (some 53)) ?_
              refine @o_n _ _ _ _ _ _ _ _ _ _ _ 54 (za1 rfl rfl rfl (congrArg Value.bool hb1364) rfl) (Eq.refl (some 54)) ?_
              refine @o_n _ _ _ _ _ _ _ _ _ _ _ 55 (za1 rfl rfl rfl (congrArg Value.bool hb1364) rfl) (Eq.refl (some 55)) ?_
              refine @o_n _ _ _ _ _ _ _ _ _ _ _ 56 (za1 rfl rfl rfl (congrArg Value.bool hb1364) rfl) (Eq.refl (some 56)) ?_
              refine @o_n _ _ _ _ _ _ _ _ _ _ _ 57 (za1 rfl rfl rfl (congrArg Value.bool hb1364) rfl) (Eq.refl (some 57)) ?_
              refine @o_n _ _ _ _ _ _ _ _ _ _ _ 58 (za1 rfl rfl rfl (congrArg Value.bool hb1364) rfl) (Eq.refl (some 58)) ?_
              refine @o_n _ _ _ _ _ _ _ _ _ _ _ 59 (za1 rfl rfl rfl (congrArg Value.bool hb1364) rfl) (Eq.refl (some 59)) ?_
              refine o_w (za4 rfl rfl rfl rfl) rfl (zaa false (congrArg Value.bool hb1364) rfl) ?_
              refine o_q rfl rfl (zaa false rfl rfl) ?_
              refine o_end ?_
              refine za2 ?_
              refine c_false rfl ?_
              refine zaq ?_
              refine za2 ?_
              refine za8 h (fun l2211 hx2210 h => ?_) rfl
              refine za8 h (fun l2390 ha2391 h => ?_) rfl
              refine za8 h (fun l2451 hx2450 h => ?_) rfl
              refine za8 h (fun l2510 ha2511 h => ?_) rfl
              refine a_startS (ds := []) [some 0, none, some 2] MO rfl ?_
              refine za7 0 rfl rfl rfl (by kernel_rfl) (fun _ _ _ h => h) (za3 rfl) ?_
              refine zau 1 rfl rfl rfl (by kernel_rfl) (fun _ _ _ h => h) (fun w h => zab [some 0, none, some 2] (by decide) w h rfl) (q_ldB G27 Z27 rfl (fun w h => h.zac (i := 2) rfl) rfl) ?_
              refine za7 2 rfl rfl rfl (by kernel_rfl) (fun _ _ _ h => h) (za3 rfl) ?_
              refine za7 4 rfl rfl rfl (by kernel_rfl) (fun _ _ _ h => h) (za3 rfl) ?_
              refine a_two 3 5 rfl rfl rfl rfl (by kernel_rfl) rfl rfl (za9 0 Z Try.func125 N125 rfl rfl rfl (fun w P1 hF hB hS hT => spec_l1Own.calls A1 c1 l1.length l1 hB hF (hS _ R1) hc1 _ hx2210)) (fun s w h => zab [some 1, none, some 3] (by decide) w h rfl) (e_lit (vs := [(0, .int .i64 i17)]) (cs := [.int .i64 i17]) (Kd.int .i64) ([i17] : List Int) Try.underlying25 I3 (by decide) rfl (by decide) rfl rfl (fun _ _ => Kd.zao _)) (fun s w h => zab [some 1, none, some 3] (by decide) w h rfl) (cur2 (fun A2212 c2213 => ?_)) (cur2 (fun A2330 c2331 => ?_))
              · skip
                refine a_one 5 rfl rfl (by kernel_rfl) rfl (e_lit (vs := [(0, .int .i64 i17)]) (cs := [.int .i64 i17]) (Kd.int .i64) ([i17] : List Int) Try.underlying25 I3 (by decide) rfl (by decide) rfl rfl (fun _ _ => Kd.zao _)) (fun s w h => zab [some 2, none, some 4] (by decide) w h rfl) (cur2 (fun A2330 c2331 => ?_))
                refine a_one 6 rfl rfl (by kernel_rfl) rfl (e_app (i := 1) (j := 0) Try.underlying25 I3 rfl (by decide) (by decide) rfl rfl rfl rfl rfl ha2391) (fun s w h => zab [some 2, none, some 4] (by decide) w h rfl) (cur2 (fun A2392 c2393 => ?_))
                refine a_one 7 rfl rfl (by kernel_rfl) rfl (za9 0 Z Try.func62 N62 rfl rfl rfl (fun w P1 hF hB hS hT => ih a0_0 A0_1 c0_1 l0_1.length l0_1 A0_2 c0_2 l0_2.length l0_2 A2392 c2393 l2390.length l2390 hB hF (hS _ R0_1) hc0_1 (hS _ R0_2) hc0_2 (hT 1 _ rfl).row (hT 1 _ rfl).cap _ hx2450)) (fun s w h => zab [some 3, none, some 5] (by decide) w h rfl) (cur3 (fun A2452 c2453 H2454 => ?_))
                refine a_one 8 rfl rfl (by kernel_rfl) rfl (e_appG (i := 4) (j := 0) Try.underlying73 I25 rfl (by decide) rfl rfl rfl rfl rfl ha2511) (fun s w h => zab [some 3, none, some 5] (by decide) w h rfl) (cur3 (fun A2512 c2513 H2514 => ?_))
                refine za7 9 rfl rfl rfl (by kernel_rfl) (fun _ _ _ h => h) (q_asg rfl) ?_
                refine zav (by kernel_rfl) ?_
                refine zal ?_
                refine za2 ?_
                refine za0 ?_
                refine o_q rfl rfl (q_up rfl rfl (hr21.up hm22)) ?_
                refine o_q rfl rfl (za3 rfl) ?_
                refine o_end ?_
                refine zak ys19.length (ys19, l2510, i17 + 1, A2512, c2513, H2514) (by rw [← hk27]; exact Nat.lt_succ_self _) ⟨hr21.step, rfl, h⟩ ⟨rfl, rfl, trivial⟩ (fun w h => za5 [4, 5] (by decide) rfl w h) ?_
                repeat (first | exact zad _ _ | refine zah rfl ?_ | refine zae rfl ?_ | refine zai rfl ?_)
              · skip
                refine a_one 3 rfl rfl (by kernel_rfl) rfl (za9 0 Z Try.func125 N125 rfl rfl rfl (fun w P1 hF hB hS hT => spec_l1Own.calls A1 c1 l1.length l1 hB hF (hS _ R1) hc1 _ hx2210)) (fun s w h => zab [some 2, none, some 4] (by decide) w h rfl) (cur2 (fun A2212 c2213 => ?_))
                refine a_one 6 rfl rfl (by kernel_rfl) rfl (e_app (i := 0) (j := 1) Try.underlying25 I3 rfl (by decide) (by decide) rfl rfl rfl rfl rfl ha2391) (fun s w h => zab [some 2, none, some 4] (by decide) w h rfl) (cur2 (fun A2392 c2393 => ?_))
                refine a_one 7 rfl rfl (by kernel_rfl) rfl (za9 0 Z Try.func62 N62 rfl rfl rfl (fun w P1 hF hB hS hT => ih a0_0 A0_1 c0_1 l0_1.length l0_1 A0_2 c0_2 l0_2.length l0_2 A2392 c2393 l2390.length l2390 hB hF (hS _ R0_1) hc0_1 (hS _ R0_2) hc0_2 (hT 0 _ rfl).row (hT 0 _ rfl).cap _ hx2450)) (fun s w h => zab [some 3, none, some 5] (by decide) w h rfl) (cur3 (fun A2452 c2453 H2454 => ?_))
                refine a_one 8 rfl rfl (by kernel_rfl) rfl (e_appG (i := 4) (j := 0) Try.underlying73 I25 rfl (by decide) rfl rfl rfl rfl rfl ha2511) (fun s w h => zab [some 3, none, some 5] (by decide) w h rfl) (cur3 (fun A2512 c2513 H2514 => ?_))
                refine za7 9 rfl rfl rfl (by kernel_rfl) (fun _ _ _ h => h) (q_asg rfl) ?_
                refine zav (by kernel_rfl) ?_
                refine zal ?_
                refine za2 ?_
                refine za0 ?_
                refine o_q rfl rfl (q_up rfl rfl (hr21.up hm22)) ?_
                refine o_q rfl rfl (za3 rfl) ?_
                refine o_end ?_
                refine zak ys19.length (ys19, l2510, i17 + 1, A2512, c2513, H2514) (by rw [← hk27]; exact Nat.lt_succ_self _) ⟨hr21.step, rfl, h⟩ ⟨rfl, rfl, trivial⟩ (fun w h => za5 [4, 5] (by decide) rfl w h) ?_
                repeat (first | exact zad _ _ | refine zah rfl ?_ | refine zae rfl ?_ | refine zai rfl ?_)

/-! ### loop.example/g01098/spec.reNeeded: function 71 -/
def spec_reNeeded.l1 (l1 : List Int) (i7 : Int) : (List SStep) → Int → Bool → Option Bool
  | [], i25, b26 => some b26
  | y27 :: ys28, i25, b26 => if b26 = true then (spec_reNeeded.l1 l1 i7 ys28 (i25 + 1) true) else ((spec_l1Has.f l1 i25).bind fun b50 => if b50 = true then (spec_reNeeded.l1 l1 i7 ys28 (i25 + 1) false) else (if y27.f0 = i7 then (spec_reNeeded.l1 l1 i7 ys28 (i25 + 1) true) else (spec_reNeeded.l1 l1 i7 ys28 (i25 + 1) (decide (y27.f1 = i7)))))
def spec_reNeeded.l2 (l1 : List Int) (i7 : Int) : (List SStep) → Int → Bool → Option Bool
  | [], i55, b56 => some b56
  | y57 :: ys58, i55, b56 => if b56 = true then (spec_reNeeded.l2 l1 i7 ys58 (i55 + 1) true) else ((spec_l1Has.f l1 i55).bind fun b80 => if b80 = true then (spec_reNeeded.l2 l1 i7 ys58 (i55 + 1) false) else (if y57.f0 = i7 then (spec_reNeeded.l2 l1 i7 ys58 (i55 + 1) true) else (spec_reNeeded.l2 l1 i7 ys58 (i55 + 1) (decide (y57.f1 = i7)))))
def spec_reNeeded.l0 (a0_0 : Int) (l0_1 : List SStep) (l0_2 : List Int) (l1 : List Int) : Nat → (List Int) → Int → Option (List Int)
  | 0, _, _ => none
  | k10 + 1, l4, i7 => if i7 < w64 (a0_0 + (l0_1.length : Int)) then (if a0_0 ≤ i7 then ((spec_l1Has.f l1 (w64 (i7 - a0_0))).bind fun b21 => if b21 = true then ((spec_l1Has.f l0_2 i7).bind fun b24 => (spec_reNeeded.l1 l1 i7 l0_1 0 b24).bind fun b26 => if b26 = true then ((ap l4 ([i7] : List Int)).bind fun l41 => spec_reNeeded.l0 a0_0 l0_1 l0_2 l1 k10 l41 (w64 (i7 + 1))) else (spec_reNeeded.l0 a0_0 l0_1 l0_2 l1 k10 l4 (w64 (i7 + 1)))) else (spec_reNeeded.l0 a0_0 l0_1 l0_2 l1 k10 l4 (w64 (i7 + 1)))) else ((spec_l1Has.f l0_2 i7).bind fun b54 => (spec_reNeeded.l2 l1 i7 l0_1 0 b54).bind fun b56 => if b56 = true then ((ap l4 ([i7] : List Int)).bind fun l71 => spec_reNeeded.l0 a0_0 l0_1 l0_2 l1 k10 l71 (w64 (i7 + 1))) else (spec_reNeeded.l0 a0_0 l0_1 l0_2 l1 k10 l4 (w64 (i7 + 1))))) else (some l4)
def spec_reNeeded.f (k : Nat) (a0_0 : Int) (l0_1 : List SStep) (l0_2 : List Int) (l1 : List Int) : Option (List Int) := (spec_reNeeded.l0 a0_0 l0_1 l0_2 l1 k ([] : List Int) 0).bind fun l4 => some l4
set_option maxHeartbeats 600000 in
set_option maxRecDepth 100000 in
theorem spec_reNeeded.calls (k : Nat) {w0 ws : World} {P0 : Nat → Prop} (a0_0 : Int) (A0_1 : Option Addr) (c0_1 : Nat) (n0_1 : Nat) (l0_1 : List SStep) (A0_2 : Option Addr) (c0_2 : Nat) (n0_2 : Nat) (l0_2 : List Int) (A1 : Option Addr) (c1 : Nat) (n1 : Nat) (l1 : List Int) (Z : Below w0.heap.size w0 ws) (hF : Fr w0 ws P0 [] ws) (R0_1 : Stable ws P0 (fun w => Kd.C kStep w A0_1 n0_1 l0_1)) (hc0_1 : n0_1 ≤ c0_1) (R0_2 : Stable ws P0 (fun w => Kd.C (Kd.int .i64) w A0_2 n0_2 l0_2)) (hc0_2 : n0_2 ≤ c0_2) (R1 : Stable ws P0 (fun w => Kd.C (Kd.int .i64) w A1 n1 l1)) (hc1 : n1 ≤ c1) (r_1 : List Int) (h : spec_reNeeded.f k a0_0 l0_1 l0_2 l1 = some r_1) :
    Calls Try.prog 71 #[.agg #[.int .i64 a0_0, .slice A0_1 n0_1 c0_1, .slice A0_2 n0_2 c0_2], .slice A1 n1 c1] ws (Post1 w0 ws P0 (fun ((q_2, q_3) : (Option Addr) × Nat) => .slice q_2 r_1.length q_3) (fun ((q_2, q_3) : (Option Addr) × Nat) => [row (Kd.int .i64) 3 (.slice q_2 r_1.length q_3) r_1])) := by
  unfold spec_reNeeded.f at h
  obtain rfl := (R0_1 ws (KeptB.refl _ _)).1
  obtain rfl := (R0_2 ws (KeptB.refl _ _)).1
  obtain rfl := (R1 ws (KeptB.refl _ _)).1
  refine enter Try.func71 rfl Try.ntmps71 rfl hF ?_
  refine c_seq ?_
  refine za0 ?_
  refine o_e rfl (e_box rfl) (fun g1 => ?_)
  refine o_q rfl rfl (q_asg rfl) ?_
  refine o_end ?_
  refine za2 ?_
  refine c_seq ?_
  refine za0 ?_
  refine o_q rfl rfl (q_asg rfl) ?_
  refine o_end ?_
  refine za2 ?_
  refine c_seq ?_
  refine c_seq ?_
  refine za0 ?_
  refine o_q rfl rfl (q_asg rfl) ?_
  refine o_end ?_
  refine za2 ?_
  refine zam ?_
  refine c_nil (Kd.int .i64) 3 ?_
  refine za8 h (fun o15 hl14 hR13 => ?_) rfl
  clear h
  refine zaw (σ := (List Int) × Int × (Option Addr) × Nat) (fun k10 ((l4, i7, A5, c6) : (List Int) × Int × (Option Addr) × Nat) => spec_reNeeded.l0 a0_0 l0_1 l0_2 l1 k10 l4 i7 = some o15) [5, 6, 7, 8, 9, 10, 11, 12, 13, 14, 15, 16, 17, 18, 19, 20, 21, 22, 23, 24, 25, 26, 27, 28, 29, 30, 31, 32, 33, 34, 35, 36, 37, 38, 39, 40, 41, 42, 43, 44, 45, 46, 47, 48, 49, 50, 51, 52, 53, 54, 55, 56, 57, 58, 59, 60, 61, 62, 63, 64, 65, 66, 67, 68, 69] (fun ((l4, i7, A5, c6) : (List Int) × Int × (Option Addr) × Nat) => [(5, .slice A5 l4.length c6), (6, .int .i64 i7)]) (fun ((l4, i7, A5, c6) : (List Int) × Int × (Option Addr) × Nat) => [row (Kd.int .i64) 3 (.slice A5 l4.length c6) l4, box g1 27 #[.int .i64 a0_0, .slice A0_1 l0_1.length c0_1, .slice A0_2 l0_2.length c0_2]]) k (([] : List Int), 0, none, 0) hl14 ⟨rfl, rfl, trivial⟩ (fun w h => h) ?_
  refine natC (cur4 (fun l4 i7 A5 c6 => fun U16 hJ_ => ?_)) (fun k10 => (cur4 (fun l4 i7 A5 c6 => fun U16 hJ_ => ?_)))
  · skip
    replace hJ_ : spec_reNeeded.l0 a0_0 l0_1 l0_2 l1 0 l4 i7 = some o15 := hJ_
    rw [spec_reNeeded.l0] at hJ_
    exact noneE hJ_
  · skip
    clear hl14
    have h := hJ_; clear hJ_
    replace h : spec_reNeeded.l0 a0_0 l0_1 l0_2 l1 (k10 + 1) l4 i7 = some o15 := h
    rw [spec_reNeeded.l0] at h
    refine c_seq ?_
    refine c_seq ?_
    refine za0 ?_
    refine o_q rfl rfl (za3 rfl) ?_
    refine o_q rfl rfl (q_f F27_0 rfl) ?_
    refine o_q rfl rfl (q_ldb Y3 rfl (fun w h => h.zac (i := 1) rfl) rfl) ?_
    refine o_q rfl rfl (q_f F27_1 rfl) ?_
    refine o_q rfl rfl (q_ldb Y24 rfl (fun w h => h.zac (i := 1) rfl) rfl) ?_
    refine o_q rfl rfl (q_len Try.underlying24 rfl) ?_
    refine o_q rfl rfl (q_add64 rfl rfl) ?_
    refine o_q rfl rfl (q_lss rfl rfl) ?_
    refine o_end ?_
    refine za2 ?_
    refine zat _ rfl (fun hb18 => ?_) (fun hb18 => ?_)
    · skip
      replace h := br_t hb18 h
      refine zaq ?_
      refine za2 ?_
      refine c_seq ?_
      refine zam ?_
      refine c_seq ?_
      refine c_seq ?_
      refine za0 ?_
      refine o_q rfl rfl (za3 rfl) ?_
      refine o_q rfl rfl (q_f F27_0 rfl) ?_
      refine o_q rfl rfl (q_ldb Y3 rfl (fun w h => h.zac (i := 1) rfl) rfl) ?_
      refine o_q rfl rfl (q_geq rfl rfl) ?_
      refine o_q rfl rfl (za3 rfl) ?_
      refine byB (decide (a0_0 ≤ i7)) (fun hb19 => ?_) (fun hb19 => ?_)
      · replace h := br_t hb19 h
        refine o_w (za4 rfl rfl rfl (congrArg Value.bool hb19)) rfl (za3 rfl) ?_
        refine o_w (za4 rfl rfl rfl (congrArg Value.bool hb19)) rfl (za3 rfl) ?_
        refine o_w (za4 rfl rfl rfl (congrArg Value.bool hb19)) rfl (q_f F27_0 rfl) ?_
        refine o_w (za4 rfl rfl rfl (congrArg Value.bool hb19)) rfl (q_ldb Y3 rfl (fun w h => h.zac (i := 1) rfl) rfl) ?_
        refine o_w (za4 rfl rfl rfl (congrArg Value.bool hb19)) rfl (q_sub64 rfl rfl) ?_
        refine za8 h (fun b21 hx20 h => ?_) rfl
        refine o_ew (za4 rfl rfl rfl (congrArg Value.bool hb19)) (za9 0 Z Try.func87 N87 rfl rfl rfl (fun w P1 hF hB hS hT => spec_l1Has.calls A1 c1 l1.length l1 (w64 (i7 - a0_0)) hB hF (hS _ R1) hc1 _ hx20)) (fun _ => ?_)
        refine o_w (za4 rfl rfl rfl (congrArg Value.bool hb19)) rfl (q_not rfl) ?_
        refine o_q rfl rfl (zaa true (congrArg Value.bool hb19) rfl) ?_
        refine o_end ?_
        refine za2 ?_
        refine zat _ rfl (fun hb22 => ?_) (fun hb22 => ?_)
        · replace hb22 := nt_t hb22
          replace h := bb_f hb22 h
          refine c_exit ?_
          refine za6 ?_
          refine x_hit ?_
          refine za2 ?_
          refine za0 ?_
          refine o_q rfl rfl (za3 rfl) ?_
          refine o_q rfl rfl (q_add64 rfl rfl) ?_
          refine o_q rfl rfl (q_asg rfl) ?_
          refine o_end ?_
          refine zak k10 (l4, w64 (i7 + 1), A5, c6) (Nat.lt_succ_self _) h ⟨rfl, rfl, trivial⟩ (fun w h => za5 [0, 1] (by decide) rfl w h) ?_
          repeat (first | exact zad _ _ | refine zah rfl ?_ | refine zae rfl ?_ | refine zai rfl ?_)
        · replace hb22 := nt_f hb22
          replace h := bb_t hb22 h
          refine zaq ?_
          refine za2 ?_
          refine c_seq ?_
          refine za0 ?_
          refine o_q rfl rfl (q_f F27_2 rfl) ?_
          refine o_q rfl rfl (q_ldb Y25 rfl (fun w h => h.zac (i := 1) rfl) rfl) ?_
          refine o_q rfl rfl (za3 rfl) ?_
          refine za8 h (fun b24 hx23 h => ?_) rfl
          refine o_e rfl (za9 0 Z Try.func87 N87 rfl rfl rfl (fun w P1 hF hB hS hT => spec_l1Has.calls A0_2 c0_2 l0_2.length l0_2 i7 hB hF (hS _ R0_2) hc0_2 _ hx23)) (fun _ => ?_)
          refine o_q rfl rfl (q_asg rfl) ?_
          refine o_end ?_
          refine za2 ?_
          refine c_seq ?_
          refine c_seq ?_
          refine za0 ?_
          refine o_q rfl rfl (q_f F27_1 rfl) ?_
          refine o_q rfl rfl (q_ldb Y24 rfl (fun w h => h.zac (i := 1) rfl) rfl) ?_
          refine o_q rfl rfl (q_len Try.underlying24 rfl) ?_
          refine o_q rfl rfl (za3 rfl) ?_
          refine o_end ?_
          refine za2 ?_
          refine zam ?_
          refine za8 h (fun o34 hl33 hR32 => ?_) rfl
          clear h
          refine c_fact (p := l0_1.length ≤ 9223372036854775807) (fun w h => (R0_1.now Z h).2.1) (fun hm31 => ?_)
          refine zaw (σ := (List SStep) × Int × Bool) (fun k29 ((ys28, i25, b26) : (List SStep) × Int × Bool) => Rg l0_1 i25 ys28 ∧ ys28.length = k29 ∧ spec_reNeeded.l1 l1 i7 ys28 i25 b26 = some o34) [7, 8, 9, 40, 41, 42, 43, 44, 45, 46, 47, 48, 49, 50, 51, 52, 53, 54, 55, 56, 57, 58, 59, 60, 61, 62, 63, 64] (fun ((ys28, i25, b26) : (List SStep) × Int × Bool) => [(7, .bool b26), (40, .int .i64 i25)]) (fun ((ys28, i25, b26) : (List SStep) × Int × Bool) => [row (Kd.int .i64) 3 (.slice A5 l4.length c6) l4, box g1 27 #[.int .i64 a0_0, .slice A0_1 l0_1.length c0_1, .slice A0_2 l0_2.length c0_2]]) l0_1.length (l0_1, 0, b24) ⟨Rg.start _, rfl, hl33⟩ ⟨rfl, rfl, trivial⟩ (fun w h => h) ?_
          refine fun k29 => cur3 (listC (fun i25 b26 U35 hJ_ => ?_) (fun y27 ys28 i25 b26 U35 hJ_ => ?_))
          · skip
            clear hl33
            have hr30 := hJ_.1; have hk36 := hJ_.2.1; have h := hJ_.2.2; clear hJ_
            replace h : spec_reNeeded.l1 l1 i7 [] i25 b26 = some o34 := h
            rw [spec_reNeeded.l1] at h
            refine c_seq ?_
            refine za0 ?_
            refine o_q rfl rfl (q_lss rfl rfl) ?_
            refine o_end ?_
            refine za2 ?_
            refine c_seq ?_
            refine c_false (congrArg Value.bool hr30.ge) ?_
            refine c_exit ?_
            refine za6 ?_
            refine za6 ?_
            have e_ := Option.some.inj h; replace h := hR32; rw [← e_] at h; clear e_
            refine x_hit ?_
            refine za2 ?_
            refine c_seq ?_
            refine za0 ?_
            refine o_q rfl rfl (za3 rfl) ?_
            refine o_end ?_
            refine za2 ?_
            refine zat _ rfl (fun hb37 => ?_) (fun hb37 => ?_)
            · skip
              replace h := bb_t hb37 h
              refine za0 ?_
              refine o_q rfl rfl (za3 rfl) ?_
              refine o_q rfl rfl (za3 rfl) ?_
              refine o_e rfl (e_lit (vs := [(0, .int .i64 i7)]) (cs := [.int .i64 i7]) (Kd.int .i64) ([i7] : List Int) Try.underlying25 I3 (by decide) rfl (by decide) rfl rfl (fun _ _ => Kd.zao _)) (cur2 (fun A38 c39 => ?_))
              refine za8 h (fun l41 ha42 h => ?_) rfl
              refine o_e rfl (e_app (i := 1) (j := 0) Try.underlying25 I3 rfl (by decide) (by decide) rfl rfl rfl rfl rfl ha42) (cur2 (fun A43 c44 => ?_))
              refine o_q rfl rfl (q_asg rfl) ?_
              refine o_end ?_
              refine zal ?_
              refine za2 ?_
              refine za0 ?_
              refine o_q rfl rfl (za3 rfl) ?_
              refine o_q rfl rfl (q_add64 rfl rfl) ?_
              refine o_q rfl rfl (q_asg rfl) ?_
              refine o_end ?_
              refine zak k10 (l41, w64 (i7 + 1), A43, c44) (Nat.lt_succ_self _) h ⟨rfl, rfl, trivial⟩ (fun w h => za5 [1, 2] (by decide) rfl w h) ?_
              repeat (first | exact zad _ _ | refine zah rfl ?_ | refine zae rfl ?_ | refine zai rfl ?_)
            · skip
              replace h := bb_f hb37 h
              refine zaq ?_
              refine zal ?_
              refine za2 ?_
              refine za0 ?_
              refine o_q rfl rfl (za3 rfl) ?_
              refine o_q rfl rfl (q_add64 rfl rfl) ?_
              refine o_q rfl rfl (q_asg rfl) ?_
              refine o_end ?_
              refine zak k10 (l4, w64 (i7 + 1), A5, c6) (Nat.lt_succ_self _) h ⟨rfl, rfl, trivial⟩ (fun w h => za5 [0, 1] (by decide) rfl w h) ?_
              repeat (first | exact zad _ _ | refine zah rfl ?_ | refine zae rfl ?_ | refine zai rfl ?_)
          · skip
            clear hl33
            have hr30 := hJ_.1; have hk36 := hJ_.2.1; have h := hJ_.2.2; clear hJ_
            replace h : spec_reNeeded.l1 l1 i7 (y27 :: ys28) i25 b26 = some o34 := h
            rw [spec_reNeeded.l1] at h
            refine c_seq ?_
            refine za0 ?_
            refine o_q rfl rfl (q_lss rfl rfl) ?_
            refine o_end ?_
            refine za2 ?_
            refine c_seq ?_
            refine c_true (congrArg Value.bool hr30.lt) ?_
            refine zaq ?_
            refine za2 ?_
            refine c_seq ?_
            refine zam ?_
            refine c_seq ?_
            refine za0 ?_
            refine o_q rfl rfl (za3 rfl) ?_
            refine o_fact (p := Sh A0_1 l0_1.length l0_1.length) (fun w h => f_sh (dk := kStep) h (fun w h => R0_1.now Z h)) (fun hq45 => ?_)
            refine o_q rfl rfl (q_ix Try.underlying24 Z88 rfl rfl hq45 hr30.get) ?_
            refine o_q rfl rfl (q_ldE G88 Z88 rfl rfl (fun w h => R0_1.now Z h) hr30.get (fun _ _ h => h) rfl) ?_
            refine o_e rfl (e_alloc V88 rfl) (fun g46 => ?_)
            refine o_q rfl rfl (q_asg rfl) ?_
            refine o_e rfl (zaz (i := 0) rfl rfl rfl Z88 rfl rfl) (fun _ => ?_)
            refine o_end ?_
            refine za2 ?_
            refine za0 ?_
            refine o_q rfl rfl (za3 rfl) ?_
            refine o_q rfl rfl (za3 rfl) ?_
            refine byB b26 (fun hb48 => ?_) (fun hb48 => ?_)
            · replace h := bb_t hb48 h
              refine @o_n _ _ _ _ _ _ _ _ _ _ _ 47 (za1 rfl rfl rfl (congrArg Value.bool hb48) rfl) (Eq.refl (some 47)) ?_
              refine @o_n _ _ _ _ _ _ _ _ _ _ _ 48 (za1 rfl rfl rfl (congrArg Value.bool hb48) rfl) (Eq.refl (some 48)) ?_
              refine @o_n _ _ _ _ _ _ _ _ _ _ _ 49 (za1 rfl rfl rfl (congrArg Value.bool hb48) rfl) (Eq.refl (some 49)) ?_
              refine @o_n _ _ _ _ _ _ _ _ _ _ _ 50 (za1 rfl rfl rfl (congrArg Value.bool hb48) rfl) (Eq.refl (some 50)) ?_
              refine @o_n _ _ _ _ _ _ _ _ _ _ _ 51 (za1 rfl rfl rfl (congrArg Value.bool hb48) rfl) (Eq.refl (some 51)) ?_
              refine @o_n _ _ _ _ _ _ _ _ _ _ _ 52 (zan rfl rfl rfl rfl) (Eq.refl (some 52)) ?_
              refine @o_n _ _ _ _ _ _ _ _ _ _ _ 53 (zan rfl rfl rfl rfl) (Eq.refl (some 53)) ?_
              refine @o_n _ _ _ _ _ _ _ _ _ _ _ 54 (zan rfl rfl rfl rfl) (Eq.refl (some 54)) ?_
              refine @o_n _ _ _ _ _ _ _ _ _ _ _ 55 (zan rfl rfl rfl rfl) (Eq.refl (some 55)) ?_
              refine @o_n _ _ _ _ _ _ _ _ _ _ _ 56 (zan rfl rfl rfl rfl) (Eq.refl (some 56)) ?_
              refine @o_n _ _ _ _ _ _ _ _ _ _ _ 57 (zan rfl rfl rfl rfl) (Eq.refl (some 57)) ?_
              refine @o_n _ _ _ _ _ _ _ _ _ _ _ 58 (zan rfl rfl rfl rfl) (Eq.refl (some 58)) ?_
              refine @o_n _ _ _ _ _ _ _ _ _ _ _ 59 (zan rfl rfl rfl rfl) (Eq.refl (some 59)) ?_
              refine @o_n _ _ _ _ _ _ _ _ _ _ _ 60 (zan rfl rfl rfl rfl) (Eq.refl (some 60)) ?_
              refine @o_n _ _ _ _ _ _ _ _ _ _ _ 61 (zan rfl rfl rfl rfl) (Eq.refl (some 61)) ?_
              refine @o_n _ _ _ _ _ _ _ _ _ _ _ 62 (za1 rfl rfl rfl (congrArg Value.bool hb48) rfl) (Eq.refl (some 62)) ?_
              refine o_q rfl rfl (zaa true (congrArg Value.bool hb48) rfl) ?_
              refine o_q rfl rfl (q_asg rfl) ?_
              refine o_end ?_
              refine zal ?_
              refine za2 ?_
              refine za0 ?_
              refine o_q rfl rfl (q_up rfl rfl (hr30.up hm31)) ?_
              refine o_q rfl rfl (za3 rfl) ?_
              refine o_end ?_
              refine zak ys28.length (ys28, i25 + 1, true) (by rw [← hk36]; exact Nat.lt_succ_self _) ⟨hr30.step, rfl, h⟩ ⟨rfl, rfl, trivial⟩ (fun w h => za5 [1, 2] (by decide) rfl w h) ?_
              repeat (first | exact zad _ _ | refine zah rfl ?_ | refine zae rfl ?_ | refine zai rfl ?_)
            · replace h := bb_f hb48 h
              refine o_w (za4 rfl rfl rfl (congrArg Value.bool hb48)) rfl (za3 rfl) ?_
              refine o_w (za4 rfl rfl rfl (congrArg Value.bool hb48)) rfl (za3 rfl) ?_
              refine za8 h (fun b50 hx49 h => ?_) rfl
              refine o_ew (za4 rfl rfl rfl (congrArg Value.bool hb48)) (za9 0 Z Try.func87 N87 rfl rfl rfl (fun w P1 hF hB hS hT => spec_l1Has.calls A1 c1 l1.length l1 i25 hB hF (hS _ R1) hc1 _ hx49)) (fun _ => ?_)
              refine o_w (za4 rfl rfl rfl (congrArg Value.bool hb48)) rfl (q_not rfl) ?_
              refine o_w (za4 rfl rfl rfl (congrArg Value.bool hb48)) rfl (za3 rfl) ?_
              refine byB b50 (fun hb51 => ?_) (fun hb51 => ?_)
              · replace h := bb_t hb51 h
                refine @o_n _ _ _ _ _ _ _ _ _ _ _ 52 (za1 rfl rfl rfl (congrArg (fun b => Value.bool (!(b))) hb51) rfl) (Eq.refl (some 52)) ?_
                refine @o_n _ _ _ _ _ _ _ _ _ _ _ 53 (za1 rfl rfl rfl (congrArg (fun b => Value.bool (!(b))) hb51) rfl) (Eq.refl (some 53)) ?_
                refine @o_n _ _ _ _ _ _ _ _ _ _ _ 54 (za1 rfl rfl rfl (congrArg (fun b => Value.bool (!(b))) hb51) rfl) (Eq.refl (some 54)) ?_
                refine @o_n _ _ _ _ _ _ _ _ _ _ _ 55 (za1 rfl rfl rfl (congrArg (fun b => Value.bool (!(b))) hb51) rfl) (Eq.refl (some 55)) ?_
                refine @o_n _ _ _ _ _ _ _ _ _ _ _ 56 (za1 rfl rfl rfl (congrArg (fun b => Value.bool (!(b))) hb51) rfl) (Eq.refl (some 56)) ?_
                refine @o_n _ _ _ _ _ _ _ _ _ _ _ 57 (zan rfl rfl rfl rfl) (Eq.refl (some 57)) ?_
                refine @o_n _ _ _ _ _ _ _ _ _ _ _ 58 (zan rfl rfl rfl rfl) (Eq.refl (some 58)) ?_
                refine @o_n _ _ _ _ _ _ _ _ _ _ _ 59 (zan rfl rfl rfl rfl) (Eq.refl (some 59)) ?_
                refine @o_n _ _ _ _ _ _ _ _ _ _ _ 60 (zan rfl rfl rfl rfl) (Eq.refl (some 60)) ?_
                refine @o_n _ _ _ _ _ _ _ _ _ _ _ 61 (za1 rfl rfl rfl (congrArg (fun b => Value.bool (!(b))) hb51) rfl) (Eq.refl (some 61)) ?_
                refine o_w (za4 rfl rfl rfl (congrArg Value.bool hb48)) rfl (zaa false (congrArg (fun b => Value.bool (!(b))) hb51) rfl) ?_
                refine o_q rfl rfl (zaa false (congrArg Value.bool hb48) rfl) ?_
                refine o_q rfl rfl (q_asg rfl) ?_
                refine o_end ?_
                refine zal ?_
                refine za2 ?_
                refine za0 ?_
                refine o_q rfl rfl (q_up rfl rfl (hr30.up hm31)) ?_
                refine o_q rfl rfl (za3 rfl) ?_
                refine o_end ?_
                refine zak ys28.length (ys28, i25 + 1, false) (by rw [← hk36]; exact Nat.lt_succ_self _) ⟨hr30.step, rfl, h⟩ ⟨rfl, rfl, trivial⟩ (fun w h => za5 [1, 2] (by decide) rfl w h) ?_
                repeat (first | exact zad _ _ | refine zah rfl ?_ | refine zae rfl ?_ | refine zai rfl ?_)
              · replace h := bb_f hb51 h
                refine o_w (za4 rfl rfl rfl (congrArg (fun b => Value.bool (!(b))) hb51)) rfl (q_f F88_0 rfl) ?_
                refine o_w (za4 rfl rfl rfl (congrArg (fun b => Value.bool (!(b))) hb51)) rfl (q_ldb Y3 rfl (fun w h => h.zac (i := 0) rfl) rfl) ?_
                refine o_w (za4 rfl rfl rfl (congrArg (fun b => Value.bool (!(b))) hb51)) rfl (za3 rfl) ?_
                refine o_w (za4 rfl rfl rfl (congrArg (fun b => Value.bool (!(b))) hb51)) rfl (q_eql rfl rfl) ?_
                refine o_w (za4 rfl rfl rfl (congrArg (fun b => Value.bool (!(b))) hb51)) rfl (za3 rfl) ?_
                refine byB (decide (y27.f0 = i7)) (fun hb52 => ?_) (fun hb52 => ?_)
                · replace h := br_t hb52 h
                  refine @o_n _ _ _ _ _ _ _ _ _ _ _ 57 (za1 rfl rfl rfl (congrArg Value.bool hb52) rfl) (Eq.refl (some 57)) ?_
                  refine @o_n _ _ _ _ _ _ _ _ _ _ _ 58 (za1 rfl rfl rfl (congrArg Value.bool hb52) rfl) (Eq.refl (some 58)) ?_
                  refine @o_n _ _ _ _ _ _ _ _ _ _ _ 59 (za1 rfl rfl rfl (congrArg Value.bool hb52) rfl) (Eq.refl (some 59)) ?_
                  refine @o_n _ _ _ _ _ _ _ _ _ _ _ 60 (za1 rfl rfl rfl (congrArg Value.bool hb52) rfl) (Eq.refl (some 60)) ?_
                  refine o_w (za4 rfl rfl rfl (congrArg (fun b => Value.bool (!(b))) hb51)) rfl (zaa true (congrArg Value.bool hb52) rfl) ?_
                  refine o_w (za4 rfl rfl rfl (congrArg Value.bool hb48)) rfl (zaa true (congrArg (fun b => Value.bool (!(b))) hb51) rfl) ?_
                  refine o_q rfl rfl (zaa false (congrArg Value.bool hb48) rfl) ?_
                  refine o_q rfl rfl (q_asg rfl) ?_
                  refine o_end ?_
                  refine zal ?_
                  refine za2 ?_
                  refine za0 ?_
                  refine o_q rfl rfl (q_up rfl rfl (hr30.up hm31)) ?_
                  refine o_q rfl rfl (za3 rfl) ?_
                  refine o_end ?_
                  refine zak ys28.length (ys28, i25 + 1, true) (by rw [← hk36]; exact Nat.lt_succ_self _) ⟨hr30.step, rfl, h⟩ ⟨rfl, rfl, trivial⟩ (fun w h => za5 [1, 2] (by decide) rfl w h) ?_
                  repeat (first | exact zad _ _ | refine zah rfl ?_ | refine zae rfl ?_ | refine zai rfl ?_)
                · replace h := br_f hb52 h
                  refine o_w (za4 rfl rfl rfl (congrArg Value.bool hb52)) rfl (q_f F88_1 rfl) ?_
                  refine o_w (za4 rfl rfl rfl (congrArg Value.bool hb52)) rfl (q_ldb Y3 rfl (fun w h => h.zac (i := 0) rfl) rfl) ?_
                  refine o_w (za4 rfl rfl rfl (congrArg Value.bool hb52)) rfl (za3 rfl) ?_
                  refine o_w (za4 rfl rfl rfl (congrArg Value.bool hb52)) rfl (q_eql rfl rfl) ?_
                  refine o_w (za4 rfl rfl rfl (congrArg (fun b => Value.bool (!(b))) hb51)) rfl (zaa false (congrArg Value.bool hb52) rfl) ?_
                  refine o_w (za4 rfl rfl rfl (congrArg Value.bool hb48)) rfl (zaa true (congrArg (fun b => Value.bool (!(b))) hb51) rfl) ?_
                  refine o_q rfl rfl (zaa false (congrArg Value.bool hb48) rfl) ?_
                  refine o_q rfl rfl (q_asg rfl) ?_
                  refine o_end ?_
                  refine zal ?_
                  refine za2 ?_
                  refine za0 ?_
                  refine o_q rfl rfl (q_up rfl rfl (hr30.up hm31)) ?_
                  refine o_q rfl rfl (za3 rfl) ?_
                  refine o_end ?_
                  refine zak ys28.length (ys28, i25 + 1, decide (y27.f1 = i7)) (by rw [← hk36]; exact Nat.lt_succ_self _) ⟨hr30.step, rfl, h⟩ ⟨rfl, rfl, trivial⟩ (fun w h => za5 [1, 2] (by decide) rfl w h) ?_
                  repeat (first | exact zad _ _ | refine zah rfl ?_ | refine zae rfl ?_ | refine zai rfl ?_)
      · replace h := br_f hb19 h
        refine @o_n _ _ _ _ _ _ _ _ _ _ _ 25 (za1 rfl rfl rfl (congrArg Value.bool hb19) rfl) (Eq.refl (some 25)) ?_
        refine @o_n _ _ _ _ _ _ _ _ _ _ _ 26 (za1 rfl rfl rfl (congrArg Value.bool hb19) rfl) (Eq.refl (some 26)) ?_
        refine @o_n _ _ _ _ _ _ _ _ _ _ _ 27 (za1 rfl rfl rfl (congrArg Value.bool hb19) rfl) (Eq.refl (some 27)) ?_
        refine @o_n _ _ _ _ _ _ _ _ _ _ _ 28 (za1 rfl rfl rfl (congrArg Value.bool hb19) rfl) (Eq.refl (some 28)) ?_
        refine @o_n _ _ _ _ _ _ _ _ _ _ _ 29 (za1 rfl rfl rfl (congrArg Value.bool hb19) rfl) (Eq.refl (some 29)) ?_
        refine @o_n _ _ _ _ _ _ _ _ _ _ _ 30 (za1 rfl rfl rfl (congrArg Value.bool hb19) rfl) (Eq.refl (some 30)) ?_
        refine @o_n _ _ _ _ _ _ _ _ _ _ _ 31 (za1 rfl rfl rfl (congrArg Value.bool hb19) rfl) (Eq.refl (some 31)) ?_
        refine o_q rfl rfl (zaa false (congrArg Value.bool hb19) rfl) ?_
        refine o_end ?_
        refine za2 ?_
        refine c_false rfl ?_
        refine zaq ?_
        refine za2 ?_
        refine c_seq ?_
        refine za0 ?_
        refine o_q rfl rfl (q_f F27_2 rfl) ?_
        refine o_q rfl rfl (q_ldb Y25 rfl (fun w h => h.zac (i := 1) rfl) rfl) ?_
        refine o_q rfl rfl (za3 rfl) ?_
        refine za8 h (fun b54 hx53 h => ?_) rfl
        refine o_e rfl (za9 0 Z Try.func87 N87 rfl rfl rfl (fun w P1 hF hB hS hT => spec_l1Has.calls A0_2 c0_2 l0_2.length l0_2 i7 hB hF (hS _ R0_2) hc0_2 _ hx53)) (fun _ => ?_)
        refine o_q rfl rfl (q_asg rfl) ?_
        refine o_end ?_
        refine za2 ?_
        refine c_seq ?_
        refine c_seq ?_
        refine za0 ?_
        refine o_q rfl rfl (q_f F27_1 rfl) ?_
        refine o_q rfl rfl (q_ldb Y24 rfl (fun w h => h.zac (i := 1) rfl) rfl) ?_
        refine o_q rfl rfl (q_len Try.underlying24 rfl) ?_
        refine o_q rfl rfl (za3 rfl) ?_
        refine o_end ?_
        refine za2 ?_
        refine zam ?_
        refine za8 h (fun o64 hl63 hR62 => ?_) rfl
        clear h
        refine c_fact (p := l0_1.length ≤ 9223372036854775807) (fun w h => (R0_1.now Z h).2.1) (fun hm61 => ?_)
        refine zaw (σ := (List SStep) × Int × Bool) (fun k59 ((ys58, i55, b56) : (List SStep) × Int × Bool) => Rg l0_1 i55 ys58 ∧ ys58.length = k59 ∧ spec_reNeeded.l2 l1 i7 ys58 i55 b56 = some o64) [7, 8, 9, 40, 41, 42, 43, 44, 45, 46, 47, 48, 49, 50, 51, 52, 53, 54, 55, 56, 57, 58, 59, 60, 61, 62, 63, 64] (fun ((ys58, i55, b56) : (List SStep) × Int × Bool) => [(7, .bool b56), (40, .int .i64 i55)]) (fun ((ys58, i55, b56) : (List SStep) × Int × Bool) => [row (Kd.int .i64) 3 (.slice A5 l4.length c6) l4, box g1 27 #[.int .i64 a0_0, .slice A0_1 l0_1.length c0_1, .slice A0_2 l0_2.length c0_2]]) l0_1.length (l0_1, 0, b54) ⟨Rg.start _, rfl, hl63⟩ ⟨rfl, rfl, trivial⟩ (fun w h => h) ?_
        refine fun k59 => cur3 (listC (fun i55 b56 U65 hJ_ => ?_) (fun y57 ys58 i55 b56 U65 hJ_ => ?_))
        · skip
          clear hl63
          have hr60 := hJ_.1; have hk66 := hJ_.2.1; have h := hJ_.2.2; clear hJ_
          replace h : spec_reNeeded.l2 l1 i7 [] i55 b56 = some o64 := h
          rw [spec_reNeeded.l2] at h
          refine c_seq ?_
          refine za0 ?_
          refine o_q rfl rfl (q_lss rfl rfl) ?_
          refine o_end ?_
          refine za2 ?_
          refine c_seq ?_
          refine c_false (congrArg Value.bool hr60.ge) ?_
          refine c_exit ?_
          refine za6 ?_
          refine za6 ?_
          have e_ := Option.some.inj h; replace h := hR62; rw [← e_] at h; clear e_
          refine x_hit ?_
          refine za2 ?_
          refine c_seq ?_
          refine za0 ?_
          refine o_q rfl rfl (za3 rfl) ?_
          refine o_end ?_
          refine za2 ?_
          refine zat _ rfl (fun hb67 => ?_) (fun hb67 => ?_)
          · skip
            replace h := bb_t hb67 h
            refine za0 ?_
            refine o_q rfl rfl (za3 rfl) ?_
            refine o_q rfl rfl (za3 rfl) ?_
            refine o_e rfl (e_lit (vs := [(0, .int .i64 i7)]) (cs := [.int .i64 i7]) (Kd.int .i64) ([i7] : List Int) Try.underlying25 I3 (by decide) rfl (by decide) rfl rfl (fun _ _ => Kd.zao _)) (cur2 (fun A68 c69 => ?_))
            refine za8 h (fun l71 ha72 h => ?_) rfl
            refine o_e rfl (e_app (i := 1) (j := 0) Try.underlying25 I3 rfl (by decide) (by decide) rfl rfl rfl rfl rfl ha72) (cur2 (fun A73 c74 => ?_))
            refine o_q rfl rfl (q_asg rfl) ?_
            refine o_end ?_
            refine zal ?_
            refine za2 ?_
            refine za0 ?_
            refine o_q rfl rfl (za3 rfl) ?_
            refine o_q rfl rfl (q_add64 rfl rfl) ?_
            refine o_q rfl rfl (q_asg rfl) ?_
            refine o_end ?_
            refine zak k10 (l71, w64 (i7 + 1), A73, c74) (Nat.lt_succ_self _) h ⟨rfl, rfl, trivial⟩ (fun w h => za5 [1, 2] (by decide) rfl w h) ?_
            repeat (first | exact zad _ _ | refine zah rfl ?_ | refine zae rfl ?_ | refine zai rfl ?_)
          · skip
            replace h := bb_f hb67 h
            refine zaq ?_
            refine zal ?_
            refine za2 ?_
            refine za0 ?_
            refine o_q rfl rfl (za3 rfl) ?_
            refine o_q rfl rfl (q_add64 rfl rfl) ?_
            refine o_q rfl rfl (q_asg rfl) ?_
            refine o_end ?_
            refine zak k10 (l4, w64 (i7 + 1), A5, c6) (Nat.lt_succ_self _) h ⟨rfl, rfl, trivial⟩ (fun w h => za5 [0, 1] (by decide) rfl w h) ?_
            repeat (first | exact zad _ _ | refine zah rfl ?_ | refine zae rfl ?_ | refine zai rfl ?_)
        · skip
          clear hl63
          have hr60 := hJ_.1; have hk66 := hJ_.2.1; have h := hJ_.2.2; clear hJ_
          replace h : spec_reNeeded.l2 l1 i7 (y57 :: ys58) i55 b56 = some o64 := h
          rw [spec_reNeeded.l2] at h
          refine c_seq ?_
          refine za0 ?_
          refine o_q rfl rfl (q_lss rfl rfl) ?_
          refine o_end ?_
          refine za2 ?_
          refine c_seq ?_
          refine c_true (congrArg Value.bool hr60.lt) ?_
          refine zaq ?_
          refine za2 ?_
          refine c_seq ?_
          refine zam ?_
          refine c_seq ?_
          refine za0 ?_
          refine o_q rfl rfl (za3 rfl) ?_
          refine o_fact (p := Sh A0_1 l0_1.length l0_1.length) (fun w h => f_sh (dk := kStep) h (fun w h => R0_1.now Z h)) (fun hq75 => ?_)
          refine o_q rfl rfl (q_ix Try.underlying24 Z88 rfl rfl hq75 hr60.get) ?_
          refine o_q rfl rfl (q_ldE G88 Z88 rfl rfl (fun w h => R0_1.now Z h) hr60.get (fun _ _ h => h) rfl) ?_
          refine o_e rfl (e_alloc V88 rfl) (fun g76 => ?_)
          refine o_q rfl rfl (q_asg rfl) ?_
          refine o_e rfl (zaz (i := 0) rfl rfl rfl Z88 rfl rfl) (fun _ => ?_)
          refine o_end ?_
          refine za2 ?_
          refine za0 ?_
          refine o_q rfl rfl (za3 rfl) ?_
          refine o_q rfl rfl (za3 rfl) ?_
          refine byB b56 (fun hb78 => ?_) (fun hb78 => ?_)
          · replace h := bb_t hb78 h
            refine @o_n _ _ _ _ _ _ _ _ _ _ _ 47 (za1 rfl rfl rfl (congrArg Value.bool hb78) rfl) (Eq.refl (some 47)) ?_
            refine @o_n _ _ _ _ _ _ _ _ _ _ _ 48 (za1 rfl rfl rfl (congrArg Value.bool hb78) rfl) (Eq.refl (some 48)) ?_
            refine @o_n _ _ _ _ _ _ _ _ _ _ _ 49 (za1 rfl rfl rfl (congrArg Value.bool hb78) rfl) (Eq.refl (some 49)) ?_
            refine @o_n _ _ _ _ _ _ _ _ _ _ _ 50 (za1 rfl rfl rfl (congrArg Value.bool hb78) rfl) (Eq.refl (some 50)) ?_
            refine @o_n _ _ _ _ _ _ _ _ _ _ _ 51 (za1 rfl rfl rfl (congrArg Value.bool hb78) rfl) (Eq.refl (some 51)) ?_
            refine @o_n _ _ _ _ _ _ _ _ _ _ _ 52 (zan rfl rfl rfl rfl) (Eq.refl (some 52)) ?_
            refine @o_n _ _ _ _ _ _ _ _ _ _ _ 53 (zan rfl rfl rfl rfl) (Eq.refl (some 53)) ?_
            refine @o_n _ _ _ _ _ _ _ _ _ _ _ 54 (zan rfl rfl rfl rfl) (Eq.refl (some 54)) ?_
            refine @o_n _ _ _ _ _ _ _ _ _ _ _ 55 (zan rfl rfl rfl rfl) (Eq.refl (some 55)) ?_
            refine @o_n _ _ _ _ _ _ _ _ _ _ _ 56 (zan rfl rfl rfl rfl) (Eq.refl (some 56)) ?_
            refine @o_n _ _ _ _ _ _ _ _ _ _ _ 57 (zan rfl rfl rfl rfl) (Eq.refl (some 57)) ?_
            refine @o_n _ _ _ _ _ _ _ _ _ _ _ 58 (zan rfl rfl rfl rfl) (Eq.refl (some 58)) ?_
            refine @o_n _ _ _ _ _ _ _ _ _ _ _ 59 (zan rfl rfl rfl rfl) (Eq.refl (some 59)) ?_
            refine @o_n _ _ _ _ _ _ _ _ _ _ _ 60 (zan rfl rfl rfl rfl) (Eq.refl (some 60)) ?_
            refine @o_n _ _ _ _ _ _ _ _ _ _ _ 61 (zan rfl rfl rfl rfl) (Eq.refl (some 61)) ?_
            refine @o_n _ _ _ _ _ _ _ _ _ _ _ 62 (za1 rfl rfl rfl (congrArg Value.bool hb78) rfl) (Eq.refl (some 62)) ?_
            refine o_q rfl rfl (zaa true (congrArg Value.bool hb78) rfl) ?_
            refine o_q rfl rfl (q_asg rfl) ?_
            refine o_end ?_
            refine zal ?_
            refine za2 ?_
            refine za0 ?_
            refine o_q rfl rfl (q_up rfl rfl (hr60.up hm61)) ?_
            refine o_q rfl rfl (za3 rfl) ?_
            refine o_end ?_
            refine zak ys58.length (ys58, i55 + 1, true) (by rw [← hk66]; exact Nat.lt_succ_self _) ⟨hr60.step, rfl, h⟩ ⟨rfl, rfl, trivial⟩ (fun w h => za5 [1, 2] (by decide) rfl w h) ?_
            repeat (first | exact zad _ _ | refine zah rfl ?_ | refine zae rfl ?_ | refine zai rfl ?_)
          · replace h := bb_f hb78 h
            refine o_w (za4 rfl rfl rfl (congrArg Value.bool hb78)) rfl (za3 rfl) ?_
            refine o_w (za4 rfl rfl rfl (congrArg Value.bool hb78)) rfl (za3 rfl) ?_
            refine za8 h (fun b80 hx79 h => ?_) rfl
            refine o_ew (za4 rfl rfl rfl (congrArg Value.bool hb78)) (za9 0 Z Try.func87 N87 rfl rfl rfl (fun w P1 hF hB hS hT => spec_l1Has.calls A1 c1 l1.length l1 i55 hB hF (hS _ R1) hc1 _ hx79)) (fun _ => ?_)
            refine o_w (za4 rfl rfl rfl (congrArg Value.bool hb78)) rfl (q_not rfl) ?_
            refine o_w (za4 rfl rfl rfl (congrArg Value.bool hb78)) rfl (za3 rfl) ?_
            refine byB b80 (fun hb81 => ?_) (fun hb81 => ?_)
            · replace h := bb_t hb81 h
              refine @o_n _ _ _ _ _ _ _ _ _ _ _ 52 (za1 rfl rfl rfl (congrArg (fun b => Value.bool (!(b))) hb81) rfl) (Eq.refl (some 52)) ?_
              refine @o_n _ _ _ _ _ _ _ _ _ _ _ 53 (za1 rfl rfl rfl (congrArg (fun b => Value.bool (!(b))) hb81) rfl) (Eq.refl (some 53)) ?_
              refine @o_n _ _ _ _ _ _ _ _ _ _ _ 54 (za1 rfl rfl rfl (congrArg (fun b => Value.bool (!(b))) hb81) rfl) (Eq.refl (some 54)) ?_
              refine @o_n _ _ _ _ _ _ _ _ _ _ _ 55 (za1 rfl rfl rfl (congrArg (fun b => Value.bool (!(b))) hb81) rfl) (Eq.refl (some 55)) ?_
              refine @o_n _ _ _ _ _ _ _ _ _ _ _ 56 (za1 rfl rfl rfl (congrArg (fun b => Value.bool (!(b))) hb81) rfl) (Eq.refl (some 56)) ?_
              refine @o_n _ _ _ _ _ _ _ _ _ _ _ 57 (zan rfl rfl rfl rfl) (Eq.refl (some 57)) ?_
              refine @o_n _ _ _ _ _ _ _ _ _ _ _ 58 (zan rfl rfl rfl rfl) (Eq.refl (some 58)) ?_
              refine @o_n _ _ _ _ _ _ _ _ _ _ _ 59 (zan rfl rfl rfl rfl) (Eq.refl (some 59)) ?_
              refine @o_n _ _ _ _ _ _ _ _ _ _ _ 60 (zan rfl rfl rfl rfl) (Eq.refl (some 60)) ?_
              refine @o_n _ _ _ _ _ _ _ _ _ _ _ 61 (za1 rfl rfl rfl (congrArg (fun b => Value.bool (!(b))) hb81) rfl) (Eq.refl (some 61)) ?_
              refine o_w (za4 rfl rfl rfl (congrArg Value.bool hb78)) rfl (zaa false (congrArg (fun b => Value.bool (!(b))) hb81) rfl) ?_
              refine o_q rfl rfl (zaa false (congrArg Value.bool hb78) rfl) ?_
              refine o_q rfl rfl (q_asg rfl) ?_
              refine o_end ?_
              refine zal ?_
              refine za2 ?_
              refine za0 ?_
              refine o_q rfl rfl (q_up rfl rfl (hr60.up hm61)) ?_
              refine o_q rfl rfl (za3 rfl) ?_
              refine o_end ?_
              refine zak ys58.length (ys58, i55 + 1, false) (by rw [← hk66]; exact Nat.lt_succ_self _) ⟨hr60.step, rfl, h⟩ ⟨rfl, rfl, trivial⟩ (fun w h => za5 [1, 2] (by decide) rfl w h) ?_
              repeat (first | exact zad _ _ | refine zah rfl ?_ | refine zae rfl ?_ | refine zai rfl ?_)
            · replace h := bb_f hb81 h
              refine o_w (za4 rfl rfl rfl (congrArg (fun b => Value.bool (!(b))) hb81)) rfl (q_f F88_0 rfl) ?_
              refine o_w (za4 rfl rfl rfl (congrArg (fun b => Value.bool (!(b))) hb81)) rfl (q_ldb Y3 rfl (fun w h => h.zac (i := 0) rfl) rfl) ?_
              refine o_w (za4 rfl rfl rfl (congrArg (fun b => Value.bool (!(b))) hb81)) rfl (za3 rfl) ?_
              refine o_w (za4 rfl rfl rfl (congrArg (fun b => Value.bool (!(b))) hb81)) rfl (q_eql rfl rfl) ?_
              refine o_w (za4 rfl rfl rfl (congrArg (fun b => Value.bool (!(b))) hb81)) rfl (za3 rfl) ?_
              refine byB (decide (y57.f0 = i7)) (fun hb82 => ?_) (fun hb82 => ?_)
              · replace h := br_t hb82 h
                refine @o_n _ _ _ _ _ _ _ _ _ _ _ 57 (za1 rfl rfl rfl (congrArg Value.bool hb82) rfl) (Eq.refl (some 57)) ?_
                refine @o_n _ _ _ _ _ _ _ _ _ _ _ 58 (za1 rfl rfl rfl (congrArg Value.bool hb82) rfl) (Eq.refl (some 58)) ?_
                refine @o_n _ _ _ _ _ _ _ _ _ _ _ 59 (za1 rfl rfl rfl (congrArg Value.bool hb82) rfl) (Eq.refl (some 59)) ?_
                refine @o_n _ _ _ _ _ _ _ _ _ _ _ 60 (za1 rfl rfl rfl (congrArg Value.bool hb82) rfl) (Eq.refl (some 60)) ?_
                refine o_w (za4 rfl rfl rfl (congrArg (fun b => Value.bool (!(b))) hb81)) rfl (zaa true (congrArg Value.bool hb82) rfl) ?_
                refine o_w (za4 rfl rfl rfl (congrArg Value.bool hb78)) rfl (zaa true (congrArg (fun b => Value.bool (!(b))) hb81) rfl) ?_
                refine o_q rfl rfl (zaa false (congrArg Value.bool hb78) rfl) ?_
                refine o_q rfl rfl (q_asg rfl) ?_
                refine o_end ?_
                refine zal ?_
                refine za2 ?_
                refine za0 ?_
                refine o_q rfl rfl (q_up rfl rfl (hr60.up hm61)) ?_
                refine o_q rfl rfl (za3 rfl) ?_
                refine o_end ?_
                refine zak ys58.length (ys58, i55 + 1, true) (by rw [← hk66]; exact Nat.lt_succ_self _) ⟨hr60.step, rfl, h⟩ ⟨rfl, rfl, trivial⟩ (fun w h => za5 [1, 2] (by decide) rfl w h) ?_
                repeat (first | exact zad _ _ | refine zah rfl ?_ | refine zae rfl ?_ | refine zai rfl ?_)
              · replace h := br_f hb82 h
                refine o_w (za4 rfl rfl rfl (congrArg Value.bool hb82)) rfl (q_f F88_1 rfl) ?_
                refine o_w (za4 rfl rfl rfl (congrArg Value.bool hb82)) rfl (q_ldb Y3 rfl (fun w h => h.zac (i := 0) rfl) rfl) ?_
                refine o_w (za4 rfl rfl rfl (congrArg Value.bool hb82)) rfl (za3 rfl) ?_
                refine o_w (za4 rfl rfl rfl (congrArg Value.bool hb82)) rfl (q_eql rfl rfl) ?_
                refine o_w (za4 rfl rfl rfl (congrArg (fun b => Value.bool (!(b))) hb81)) rfl (zaa false (congrArg Value.bool hb82) rfl) ?_
                refine o_w (za4 rfl rfl rfl (congrArg Value.bool hb78)) rfl (zaa true (congrArg (fun b => Value.bool (!(b))) hb81) rfl) ?_
                refine o_q rfl rfl (zaa false (congrArg Value.bool hb78) rfl) ?_
                refine o_q rfl rfl (q_asg rfl) ?_
                refine o_end ?_
                refine zal ?_
                refine za2 ?_
                refine za0 ?_
                refine o_q rfl rfl (q_up rfl rfl (hr60.up hm61)) ?_
                refine o_q rfl rfl (za3 rfl) ?_
                refine o_end ?_
                refine zak ys58.length (ys58, i55 + 1, decide (y57.f1 = i7)) (by rw [← hk66]; exact Nat.lt_succ_self _) ⟨hr60.step, rfl, h⟩ ⟨rfl, rfl, trivial⟩ (fun w h => za5 [1, 2] (by decide) rfl w h) ?_
                repeat (first | exact zad _ _ | refine zah rfl ?_ | refine zae rfl ?_ | refine zai rfl ?_)
    · skip
      replace h := br_f hb18 h
      refine c_exit ?_
      refine za6 ?_
      refine za6 ?_
      have e_ := Option.some.inj h; replace h := hR13; rw [← e_] at h; clear e_
      refine x_hit ?_
      refine za2 ?_
      refine c_seq ?_
      refine za0 ?_
      refine o_q rfl rfl (za3 rfl) ?_
      refine o_q rfl rfl (q_asg rfl) ?_
      refine o_end ?_
      refine za2 ?_
      refine c_ret ?_
      have e0_ := Option.some.inj h; clear h
      subst e0_
      exact x_r1 (A5, c6) Try.results71 (zaj rfl) rfl (fun w h => za5 [0] (by decide) rfl w h)

end Go.Proofs.Ytdicngjloiphkaa.FW
